/- EntryForms: what the law's function answers. -/
import Derived.Test.YtdelmfpchbpafaaZB
import Derived.Test.YtdelmfpchbpafaaZA
import Derived.ArgAppend
set_option linter.unusedVariables false
set_option linter.unusedSimpArgs false
set_option maxRecDepth 20000
namespace Go.Proofs.Ytdelmfpchbpafaa
open Go Go.Mx Go.Proofs
open W (OwnB GivesW numR countR doneR zig unzig intR)
def textK (e : Ent) : List UInt8 × Int := if entRight e = true then (textL e, 0) else ([], 1)
def bytesK (e : Ent) : List UInt8 × Int := if entRight e = true then (bytesL e, 0) else ([], 1)
theorem textK_le (e : Ent) : (textK e).1.length ≤ 1200 := by
  unfold textK
  split
  · rename_i h; have := textL_le e; have := ((entRight_iff _).1 h).2.2.2.2.2.2.2.2.2.1; show (textL e).length ≤ 1200; omega
  · simp
theorem bytesK_le (e : Ent) : (bytesK e).1.length ≤ 1200 := by
  unfold bytesK
  split
  · rename_i h; have := bytesL_le e; have := ((entRight_iff _).1 h).2.2.2.2.2.2.2.2.2.1; show (bytesL e).length ≤ 1200; omega
  · simp
def Tup (w : World) (k : List UInt8 × Int) (x : Ending) (w' : World) : Prop := ∃ a' c', x = .returned (.tuple #[.slice a' k.1.length c', .int .i64 k.2]) ∧ OwnB w.heap.size w' a' c' k.1 ∧ Ext no w w'
section
variable {w w' : World} {a : Option Addr} {c N p : Nat} {bs : List UInt8} {k : Int}
theorem TextK_spec {e : Ent} (hf : entRight e = true → e.fit) {ba : Option Addr} {bc : Nat} (hb : RowAt w ba (bytesV e.body)) : Calls Try.prog 54 #[entV e ba bc] w (Tup w (textK e)) :=
  (Text_spec hf hb).mono fun x w' ⟨X, h⟩ => by
    unfold textK
    rcases h with ⟨h, he⟩ | ⟨h, a', c', he, hO⟩
    · rw [if_neg (by simp [h])]; exact ⟨none, 0, he, OwnB.nil _ _, X⟩
    · rw [if_pos h]; exact ⟨a', c', he, hO, X⟩
theorem rTextK_spec {e : Ent} (hf : entRight e = true → e.fit) {ba : Option Addr} {bc : Nat} (hb : RowAt w ba (bytesV e.body)) : Calls Try.prog 59 #[entV e ba bc] w (Tup w (textK e)) :=
  (rText_spec hf hb).mono fun x w' ⟨X, h⟩ => by
    unfold textK
    rcases h with ⟨h, he⟩ | ⟨h, a', c', he, hO⟩
    · rw [if_neg (by simp [h])]; exact ⟨none, 0, he, OwnB.nil _ _, X⟩
    · rw [if_pos h]; exact ⟨a', c', he, hO, X⟩
theorem EBytesK_spec {e : Ent} (hf : entRight e = true → e.fit) {ba : Option Addr} {bc : Nat} (hb : RowAt w ba (bytesV e.body)) : Calls Try.prog 47 #[entV e ba bc] w (Tup w (bytesK e)) :=
  (EBytes_spec hf hb).mono fun x w' ⟨X, h⟩ => by
    unfold bytesK
    rcases h with ⟨h, he⟩ | ⟨h, a', c', he, hO⟩
    · rw [if_neg (by simp [h])]; exact ⟨none, 0, he, OwnB.nil _ _, X⟩
    · rw [if_pos h]; exact ⟨a', c', he, hO, X⟩
theorem rEBytesK_spec {e : Ent} (hf : entRight e = true → e.fit) {ba : Option Addr} {bc : Nat} (hb : RowAt w ba (bytesV e.body)) : Calls Try.prog 66 #[entV e ba bc] w (Tup w (bytesK e)) :=
  (rEBytes_spec hf hb).mono fun x w' ⟨X, h⟩ => by
    unfold bytesK
    rcases h with ⟨h, he⟩ | ⟨h, a', c', he, hO⟩
    · rw [if_neg (by simp [h])]; exact ⟨none, 0, he, OwnB.nil _ _, X⟩
    · rw [if_pos h]; exact ⟨a', c', he, hO, X⟩
end
end Go.Proofs.Ytdelmfpchbpafaa

/- Entries: sums, signatures, and whether they hold (the program's). -/
set_option linter.unusedVariables false
set_option linter.unusedSimpArgs false
set_option maxRecDepth 20000
namespace Go.Proofs.Ytdelmfpchbpafaa
open Go Go.Mx Go.Proofs
open W (OwnB GivesW numR countR doneR zig unzig intR)
/-- bytes.Clone -/
def bytes_Clone.M (a2 : Option Addr) (a6 : Nat) (a7 : Nat) (R : Value → World → Prop) (w : World) : Prop :=
 bif Option.isNone a2 then (
 R (.slice none 0 0) w) else (
 thenW (w.alloc (.cells #[] 5)) fun a5 =>
 ∃ (a1 : Option Addr) (a3 : Nat) (a0 : Nat) (a4 : World), (Builtin.append_ #[43, 43] 43 #[.slice (some (blk w.heap.size)) 0 0, .slice a2 a6 a7]).run Try.prog a5 = .ok (.slice a1 a3 a0) a4 ∧
 R (.slice a1 a3 a0) a4)

theorem bytes_Clone.eq (b1a : Option Addr) (b1n : Nat) (b1c : Nat) (R : Value → World → Prop) (w : World) : mfunc Try.prog [] 56 [.slice b1a b1n b1c] R w = bytes_Clone.M b1a b1n b1c R w := by kernel_rfl
theorem bytes_Clone.ok (a0 : Option Addr) (a1 : Nat) (a2 : Nat) {R : Value → World → Prop} {w : World} (h : bytes_Clone.M a0 a1 a2 R w) : Calls Try.prog 56 #[.slice a0 a1 a2] w fun e w' => ∃ v, e = .returned v ∧ R v w' :=
  mfunc_ok follows (H := []) (args := [.slice a0 a1 a2]) (by rw [bytes_Clone.eq]; exact h)

def bytes_Clone.N (a1 : Option Addr) (a6 : Nat) (a7 : Nat) (R : Value → World → Prop) (w : World) : Prop :=
 (a1 = none →
 R (.slice none 0 0) w) ∧
 (a1 ≠ none →
 ∀ (a0 : World) (q4 : Nat), Ext no w a0 → Blk a0 q4 5 [] → w.heap.size ≤ q4 → q4 < a0.heap.size →
 ∃ (a5 : Option Addr) (a3 : Nat) (a2 : Nat) (a4 : World), (Builtin.append_ #[43, 43] 43 #[.slice (some (blk q4)) 0 0, .slice a1 a6 a7]).run Try.prog a0 = .ok (.slice a5 a3 a2) a4 ∧
 R (.slice a5 a3 a2) a4)

theorem bytes_Clone.up (a0 : Option Addr) (a1 : Nat) (a2 : Nat) {R : Value → World → Prop} {w : World} (h : bytes_Clone.N a0 a1 a2 R w) : bytes_Clone.M a0 a1 a2 R w := by
  unfold bytes_Clone.M
  unfold bytes_Clone.N at h
  refine bif_of (fun c2 => ?_) (fun c2 => ?_)
  · have h := h.1 (isNone_t c2)
    exact h
  · have h := h.2 (isNone_f c2)
    refine thenW_in fun a5 e3 => ?_
    have h := h a5 w.heap.size ((Ext.refl no w).x_alloc e3) (Blk.of_new e3) ((Ext.refl no w)).size (size_lt_alloc e3)
    obtain ⟨a7, a4, a3, a6, hr, h⟩ := h
    refine ⟨a7, a4, a3, a6, hr, ?_⟩
    exact h

theorem bytes_Clone.go (a0 : Option Addr) (a1 : Nat) (a2 : Nat) {R : Value → World → Prop} {w : World} (h : bytes_Clone.N a0 a1 a2 R w) : Calls Try.prog 56 #[.slice a0 a1 a2] w fun e w' => ∃ v, e = .returned v ∧ R v w' := bytes_Clone.ok a0 a1 a2 (bytes_Clone.up a0 a1 a2 h)
/-- entry.Sum -/
def entry_Sum.M (o1 : Option Addr) (af : Int) (ai : Int) (am : Int) (aq : Int) (ap : Int) (ak : Int) (ah : Option Addr) (aj : Nat) (ag : Nat) (ao : Int) (R : Value → World → Prop) (w : World) : Prop :=
 thenW (w.alloc (.cells #[.int .i64 af, .int .i64 ai, .int .u64 am, .int .i64 aq, .int .i64 ap, .int .i64 ak, .slice ah aj ag, .int .u64 ao] 47)) fun an =>
 ∃ (a0 : Int) (a2 : Int) (aa : Int) (ab : Int) (ac : Int) (a3 : Int) (a9 : Option Addr) (a8 : Nat) (a6 : Nat) (ae : Int), cellsAt an (blk w.heap.size) [.int .i64 a0, .int .i64 a2, .int .u64 aa, .int .i64 ab, .int .i64 ac, .int .i64 a3, .slice a9 a8 a6, .int .u64 ae] 0 ∧
 Calls Try.prog 47 #[.agg #[.int .i64 a0, .int .i64 a2, .int .u64 aa, .int .i64 ab, .int .i64 ac, .int .i64 a3, .slice a9 a8 a6, .int .u64 ae]] an fun au al => ∃ (a5 : Option Addr) (a4 : Nat) (a7 : Nat) (a1 : Int), au = .returned (.tuple #[.slice a5 a4 a7, .int .i64 a1]) ∧
 bif a1 != 0 then (
 R (.tuple #[.int .u64 0, .int .i64 a1]) al) else (
 bif Option.isNone o1 then (
 R (.tuple #[.int .u64 0, .int .i64 23]) al) else (
 Calls Try.prog 48 #[.pointer o1, .slice a5 a4 a7] al fun av ar => ∃ (ad : Int), av = .returned (.int .u64 ad) ∧
 R (.tuple #[.int .u64 ad, .int .i64 0]) ar))

theorem entry_Sum.eq (o1 : Option Addr) (eWriter2 : Int) (eIndex3 : Int) (ePrev4 : Int) (eAtT5 : Int) (eAtW6 : Int) (eEpoch7 : Int) (eBody8a : Option Addr) (eBody8n : Nat) (eBody8c : Nat) (eSig9 : Int) (R : Value → World → Prop) (w : World) : mfunc Try.prog [] 30 [.pointer o1, .agg #[.int .i64 eWriter2, .int .i64 eIndex3, .int .u64 ePrev4, .int .i64 eAtT5, .int .i64 eAtW6, .int .i64 eEpoch7, .slice eBody8a eBody8n eBody8c, .int .u64 eSig9]] R w = entry_Sum.M o1 eWriter2 eIndex3 ePrev4 eAtT5 eAtW6 eEpoch7 eBody8a eBody8n eBody8c eSig9 R w := by kernel_rfl
theorem entry_Sum.ok (o1 : Option Addr) (a0 : Int) (a3 : Int) (a6 : Int) (a8 : Int) (a9 : Int) (a5 : Int) (a2 : Option Addr) (a1 : Nat) (a4 : Nat) (a7 : Int) {R : Value → World → Prop} {w : World} (h : entry_Sum.M o1 a0 a3 a6 a8 a9 a5 a2 a1 a4 a7 R w) : Calls Try.prog 30 #[.pointer o1, .agg #[.int .i64 a0, .int .i64 a3, .int .u64 a6, .int .i64 a8, .int .i64 a9, .int .i64 a5, .slice a2 a1 a4, .int .u64 a7]] w fun e w' => ∃ v, e = .returned v ∧ R v w' :=
  mfunc_ok follows (H := []) (args := [.pointer o1, .agg #[.int .i64 a0, .int .i64 a3, .int .u64 a6, .int .i64 a8, .int .i64 a9, .int .i64 a5, .slice a2 a1 a4, .int .u64 a7]]) (by rw [entry_Sum.eq]; exact h)

def entry_Sum.N (o1 : Option Addr) (a5 : Int) (a8 : Int) (ac : Int) (ag : Int) (af : Int) (aa : Int) (a7 : Option Addr) (a9 : Nat) (a6 : Nat) (ae : Int) (R : Value → World → Prop) (w : World) : Prop :=
 ∀ (ad : World), Ext no w ad →
 Calls Try.prog 47 #[.agg #[.int .i64 a5, .int .i64 a8, .int .u64 ac, .int .i64 ag, .int .i64 af, .int .i64 aa, .slice a7 a9 a6, .int .u64 ae]] ad fun ai ab => ∃ (a2 : Option Addr) (a3 : Nat) (a1 : Nat) (a0 : Int), ai = .returned (.tuple #[.slice a2 a3 a1, .int .i64 a0]) ∧
 (a0 ≠ 0 →
 R (.tuple #[.int .u64 0, .int .i64 a0]) ab) ∧
 (a0 = 0 →
 (o1 = none →
 R (.tuple #[.int .u64 0, .int .i64 23]) ab) ∧
 (o1 ≠ none →
 Calls Try.prog 48 #[.pointer o1, .slice a2 a3 a1] ab fun aj ah => ∃ (a4 : Int), aj = .returned (.int .u64 a4) ∧
 R (.tuple #[.int .u64 a4, .int .i64 0]) ah))

theorem entry_Sum.up (o1 : Option Addr) (a0 : Int) (a3 : Int) (a6 : Int) (ab : Int) (a9 : Int) (a5 : Int) (a2 : Option Addr) (a4 : Nat) (a1 : Nat) (a7 : Int) {R : Value → World → Prop} {w : World} (h : entry_Sum.N o1 a0 a3 a6 ab a9 a5 a2 a4 a1 a7 R w) : entry_Sum.M o1 a0 a3 a6 ab a9 a5 a2 a4 a1 a7 R w := by
  unfold entry_Sum.M
  unfold entry_Sum.N at h
  refine thenW_in fun ag ak => ?_
  have ae := Blk.of_new ak
  have ap := ((Ext.refl no w)).size
  have aj := (Ext.refl no w).x_alloc ak
  refine ⟨a0, a3, a6, ab, a9, a5, a2, a4, a1, a7, ⟨ae.celli 0 rfl rfl, ae.celli 1 rfl rfl, ae.celli 2 rfl rfl, ae.celli 3 rfl rfl, ae.celli 4 rfl rfl, ae.celli 5 rfl rfl, ae.celli 6 rfl rfl, ae.celli 7 rfl rfl, trivial⟩, ?_⟩
  have h := h ag aj
  refine h.mono fun am ao h => ?_
  obtain ⟨aa, ac, a8, ad, he, h⟩ := h
  refine ⟨aa, ac, a8, ad, he, ?_⟩
  refine bif_of (fun ai => ?_) (fun ai => ?_)
  · have h := h.1 (bne_t ai)
    exact h
  · have h := h.2 (bne_f ai)
    refine bif_of (fun ah => ?_) (fun ah => ?_)
    · have h := h.1 (isNone_t ah)
      exact h
    · have h := h.2 (isNone_f ah)
      refine h.mono fun an al h => ?_
      obtain ⟨af, he, h⟩ := h
      refine ⟨af, he, ?_⟩
      exact h

theorem entry_Sum.go (o1 : Option Addr) (a0 : Int) (a3 : Int) (a6 : Int) (a8 : Int) (a9 : Int) (a5 : Int) (a2 : Option Addr) (a1 : Nat) (a4 : Nat) (a7 : Int) {R : Value → World → Prop} {w : World} (h : entry_Sum.N o1 a0 a3 a6 a8 a9 a5 a2 a1 a4 a7 R w) : Calls Try.prog 30 #[.pointer o1, .agg #[.int .i64 a0, .int .i64 a3, .int .u64 a6, .int .i64 a8, .int .i64 a9, .int .i64 a5, .slice a2 a1 a4, .int .u64 a7]] w fun e w' => ∃ v, e = .returned v ∧ R v w' := entry_Sum.ok o1 a0 a3 a6 a8 a9 a5 a2 a1 a4 a7 (entry_Sum.up o1 a0 a3 a6 a8 a9 a5 a2 a1 a4 a7 h)
/-- entry.Sign -/
def entry_Sign.M (o1 : Option Addr) (bv : Int) (bm : Int) (bx : Int) (c4 : Int) (cg : Int) (ca : Int) (bz : Int) (c0 : Option Addr) (bw : Nat) (bu : Nat) (c5 : Int) (R : Value → World → Prop) (w : World) : Prop :=
 thenW (w.alloc (.cells #[.int .i64 bm, .int .i64 bx, .int .u64 c4, .int .i64 cg, .int .i64 ca, .int .i64 bz, .slice c0 bw bu, .int .u64 c5] 47)) fun a0 =>
 thenW (a0.alloc (.cells #[.int .i64 0, .int .i64 0, .int .u64 0, .int .i64 0, .int .i64 0, .int .i64 0, .slice none 0 0, .int .u64 0] 47)) fun cv =>
 ∃ (an : Int) (av : Int) (bl : Int) (bo : Int) (bs : Int) (aw : Int) (b4 : Option Addr) (b1 : Nat) (b6 : Nat) (br : Int), cellsAt cv (blk w.heap.size) [.int .i64 an, .int .i64 av, .int .u64 bl, .int .i64 bo, .int .i64 bs, .int .i64 aw, .slice b4 b1 b6, .int .u64 br] 0 ∧
 Calls Try.prog 54 #[.agg #[.int .i64 an, .int .i64 av, .int .u64 bl, .int .i64 bo, .int .i64 bs, .int .i64 aw, .slice b4 b1 b6, .int .u64 br]] cv fun d0 c3 => ∃ (bi : Option Addr) (bk : Nat) (bh : Nat) (bd : Int), d0 = .returned (.tuple #[.slice bi bk bh, .int .i64 bd]) ∧
 bif bd != 0 then (
 canStore c3 ((blk a0.heap.size).add 0) ∧
 thenW (c3.setCell ((blk a0.heap.size).add 0) (.int .i64 0)) fun cu =>
 canStore cu ((blk a0.heap.size).add 1) ∧
 thenW (cu.setCell ((blk a0.heap.size).add 1) (.int .i64 0)) fun cf =>
 canStore cf ((blk a0.heap.size).add 2) ∧
 thenW (cf.setCell ((blk a0.heap.size).add 2) (.int .u64 0)) fun ct =>
 canStore ct ((blk a0.heap.size).add 3) ∧
 thenW (ct.setCell ((blk a0.heap.size).add 3) (.int .i64 0)) fun ch =>
 canStore ch ((blk a0.heap.size).add 4) ∧
 thenW (ch.setCell ((blk a0.heap.size).add 4) (.int .i64 0)) fun ci =>
 canStore ci ((blk a0.heap.size).add 5) ∧
 thenW (ci.setCell ((blk a0.heap.size).add 5) (.int .i64 0)) fun cy =>
 canStore cy ((blk a0.heap.size).add 6) ∧
 thenW (cy.setCell ((blk a0.heap.size).add 6) (.slice none 0 0)) fun cc =>
 canStore cc ((blk a0.heap.size).add 7) ∧
 thenW (cc.setCell ((blk a0.heap.size).add 7) (.int .u64 0)) fun cr =>
 ∃ (a3 : Int) (a4 : Int) (al : Int) (ay : Int) (ap : Int) (a8 : Int) (ab : Option Addr) (ac : Nat) (a5 : Nat) (az : Int), cellsAt cr (blk a0.heap.size) [.int .i64 a3, .int .i64 a4, .int .u64 al, .int .i64 ay, .int .i64 ap, .int .i64 a8, .slice ab ac a5, .int .u64 az] 0 ∧
 R (.tuple #[.agg #[.int .i64 a3, .int .i64 a4, .int .u64 al, .int .i64 ay, .int .i64 ap, .int .i64 a8, .slice ab ac a5, .int .u64 az], .int .i64 bd]) cr) else (
 Calls Try.prog 55 #[.pointer o1, .int .u64 bv, .slice bi bk bh] c3 fun d1 cl => ∃ (bp : Int) (bc : Int), d1 = .returned (.tuple #[.int .u64 bp, .int .i64 bc]) ∧
 canStore cl (((blk w.heap.size).add 7).add 0) ∧
 thenW (cl.setCell (((blk w.heap.size).add 7).add 0) (.int .u64 bp)) fun c1 =>
 bif bc != 0 then (
 canStore c1 ((blk a0.heap.size).add 0) ∧
 thenW (c1.setCell ((blk a0.heap.size).add 0) (.int .i64 0)) fun c7 =>
 canStore c7 ((blk a0.heap.size).add 1) ∧
 thenW (c7.setCell ((blk a0.heap.size).add 1) (.int .i64 0)) fun c8 =>
 canStore c8 ((blk a0.heap.size).add 2) ∧
 thenW (c8.setCell ((blk a0.heap.size).add 2) (.int .u64 0)) fun ck =>
 canStore ck ((blk a0.heap.size).add 3) ∧
 thenW (ck.setCell ((blk a0.heap.size).add 3) (.int .i64 0)) fun cd =>
 canStore cd ((blk a0.heap.size).add 4) ∧
 thenW (cd.setCell ((blk a0.heap.size).add 4) (.int .i64 0)) fun cp =>
 canStore cp ((blk a0.heap.size).add 5) ∧
 thenW (cp.setCell ((blk a0.heap.size).add 5) (.int .i64 0)) fun cq =>
 canStore cq ((blk a0.heap.size).add 6) ∧
 thenW (cq.setCell ((blk a0.heap.size).add 6) (.slice none 0 0)) fun c9 =>
 canStore c9 ((blk a0.heap.size).add 7) ∧
 thenW (c9.setCell ((blk a0.heap.size).add 7) (.int .u64 0)) fun cb =>
 ∃ (a1 : Int) (a6 : Int) (ak : Int) (b7 : Int) (au : Int) (aa : Int) (a7 : Option Addr) (ag : Nat) (ah : Nat) (ba : Int), cellsAt cb (blk a0.heap.size) [.int .i64 a1, .int .i64 a6, .int .u64 ak, .int .i64 b7, .int .i64 au, .int .i64 aa, .slice a7 ag ah, .int .u64 ba] 0 ∧
 R (.tuple #[.agg #[.int .i64 a1, .int .i64 a6, .int .u64 ak, .int .i64 b7, .int .i64 au, .int .i64 aa, .slice a7 ag ah, .int .u64 ba], .int .i64 bc]) cb) else (
 ∃ (bg : Option Addr) (be : Nat) (bf : Nat), c1.cell? ((blk w.heap.size).add 6) = some (.slice bg be bf) ∧
 Calls Try.prog 56 #[.slice bg be bf] c1 fun cz cs => ∃ (aq : Option Addr) (b3 : Nat) (b2 : Nat), cz = .returned (.slice aq b3 b2) ∧
 canStore cs (((blk w.heap.size).add 6).add 0) ∧
 thenW (cs.setCell (((blk w.heap.size).add 6).add 0) (.slice aq b3 b2)) fun c2 =>
 ∃ (am : Int) (b9 : Int) (bj : Int) (bq : Int) (bn : Int) (b5 : Int) (b0 : Option Addr) (ax : Nat) (b8 : Nat) (bt : Int), cellsAt c2 (blk w.heap.size) [.int .i64 am, .int .i64 b9, .int .u64 bj, .int .i64 bq, .int .i64 bn, .int .i64 b5, .slice b0 ax b8, .int .u64 bt] 0 ∧
 canStore c2 ((blk a0.heap.size).add 0) ∧
 thenW (c2.setCell ((blk a0.heap.size).add 0) (.int .i64 am)) fun cn =>
 canStore cn ((blk a0.heap.size).add 1) ∧
 thenW (cn.setCell ((blk a0.heap.size).add 1) (.int .i64 b9)) fun cj =>
 canStore cj ((blk a0.heap.size).add 2) ∧
 thenW (cj.setCell ((blk a0.heap.size).add 2) (.int .u64 bj)) fun ce =>
 canStore ce ((blk a0.heap.size).add 3) ∧
 thenW (ce.setCell ((blk a0.heap.size).add 3) (.int .i64 bq)) fun co =>
 canStore co ((blk a0.heap.size).add 4) ∧
 thenW (co.setCell ((blk a0.heap.size).add 4) (.int .i64 bn)) fun c6 =>
 canStore c6 ((blk a0.heap.size).add 5) ∧
 thenW (c6.setCell ((blk a0.heap.size).add 5) (.int .i64 b5)) fun cx =>
 canStore cx ((blk a0.heap.size).add 6) ∧
 thenW (cx.setCell ((blk a0.heap.size).add 6) (.slice b0 ax b8)) fun cw =>
 canStore cw ((blk a0.heap.size).add 7) ∧
 thenW (cw.setCell ((blk a0.heap.size).add 7) (.int .u64 bt)) fun cm =>
 ∃ (a2 : Int) (ai : Int) (aj : Int) (ao : Int) (bb : Int) (ae : Int) (a9 : Option Addr) (af : Nat) (ad : Nat) (ar : Int), cellsAt cm (blk a0.heap.size) [.int .i64 a2, .int .i64 ai, .int .u64 aj, .int .i64 ao, .int .i64 bb, .int .i64 ae, .slice a9 af ad, .int .u64 ar] 0 ∧
 R (.tuple #[.agg #[.int .i64 a2, .int .i64 ai, .int .u64 aj, .int .i64 ao, .int .i64 bb, .int .i64 ae, .slice a9 af ad, .int .u64 ar], .int .i64 0]) cm))

theorem entry_Sign.eq (o1 : Option Addr) (secret2 : Int) (eWriter3 : Int) (eIndex4 : Int) (ePrev5 : Int) (eAtT6 : Int) (eAtW7 : Int) (eEpoch8 : Int) (eBody9a : Option Addr) (eBody9n : Nat) (eBody9c : Nat) (eSig10 : Int) (R : Value → World → Prop) (w : World) : mfunc Try.prog [] 36 [.pointer o1, .int .u64 secret2, .agg #[.int .i64 eWriter3, .int .i64 eIndex4, .int .u64 ePrev5, .int .i64 eAtT6, .int .i64 eAtW7, .int .i64 eEpoch8, .slice eBody9a eBody9n eBody9c, .int .u64 eSig10]] R w = entry_Sign.M o1 secret2 eWriter3 eIndex4 ePrev5 eAtT6 eAtW7 eEpoch8 eBody9a eBody9n eBody9c eSig10 R w := by kernel_rfl
theorem entry_Sign.ok (o1 : Option Addr) (a1 : Int) (a0 : Int) (a4 : Int) (a7 : Int) (aa : Int) (a9 : Int) (a2 : Int) (a5 : Option Addr) (a6 : Nat) (a3 : Nat) (a8 : Int) {R : Value → World → Prop} {w : World} (h : entry_Sign.M o1 a1 a0 a4 a7 aa a9 a2 a5 a6 a3 a8 R w) : Calls Try.prog 36 #[.pointer o1, .int .u64 a1, .agg #[.int .i64 a0, .int .i64 a4, .int .u64 a7, .int .i64 aa, .int .i64 a9, .int .i64 a2, .slice a5 a6 a3, .int .u64 a8]] w fun e w' => ∃ v, e = .returned v ∧ R v w' :=
  mfunc_ok follows (H := []) (args := [.pointer o1, .int .u64 a1, .agg #[.int .i64 a0, .int .i64 a4, .int .u64 a7, .int .i64 aa, .int .i64 a9, .int .i64 a2, .slice a5 a6 a3, .int .u64 a8]]) (by rw [entry_Sign.eq]; exact h)

def entry_Sign.N (o1 : Option Addr) (ah : Int) (a2 : Int) (ad : Int) (af : Int) (ak : Int) (aj : Int) (aa : Int) (ac : Option Addr) (a9 : Nat) (a6 : Nat) (an : Int) (R : Value → World → Prop) (w : World) : Prop :=
 ∀ (ai : World) (ao : Nat) (ap : Nat), Ext no w ai → Priv w ai [ao, ap] →
 Calls Try.prog 54 #[.agg #[.int .i64 a2, .int .i64 ad, .int .u64 af, .int .i64 ak, .int .i64 aj, .int .i64 aa, .slice ac a9 a6, .int .u64 an]] ai fun ay ag => ∃ (a7 : Option Addr) (a8 : Nat) (ab : Nat) (a1 : Int), ay = .returned (.tuple #[.slice a7 a8 ab, .int .i64 a1]) ∧
 Keep [ao, ap] ai ag ∧
 (a1 ≠ 0 →
 ∀ (aq : World), Ext (fun b => b = ap) ag aq →
 R (.tuple #[.agg #[.int .i64 0, .int .i64 0, .int .u64 0, .int .i64 0, .int .i64 0, .int .i64 0, .slice none 0 0, .int .u64 0], .int .i64 a1]) aq) ∧
 (a1 = 0 →
 Calls Try.prog 55 #[.pointer o1, .int .u64 ah, .slice a7 a8 ab] ag fun aw am => ∃ (ae : Int) (a0 : Int), aw = .returned (.tuple #[.int .u64 ae, .int .i64 a0]) ∧
 Keep [ao, ap] ag am ∧
 (a0 ≠ 0 →
 ∀ (av : World), Ext (fun b => b = ap ∨ b = ao) am av →
 R (.tuple #[.agg #[.int .i64 0, .int .i64 0, .int .u64 0, .int .i64 0, .int .i64 0, .int .i64 0, .slice none 0 0, .int .u64 0], .int .i64 a0]) av) ∧
 (a0 = 0 →
 ∀ (al : World), Ext (fun b => b = ao) am al →
 Calls Try.prog 56 #[.slice ac a9 a6] al fun ax ar => ∃ (a3 : Option Addr) (a4 : Nat) (a5 : Nat), ax = .returned (.slice a3 a4 a5) ∧
 Keep [ao, ap] al ar ∧
 ∀ (au : World), Ext (fun b => b = ap ∨ b = ao) ar au →
 R (.tuple #[.agg #[.int .i64 a2, .int .i64 ad, .int .u64 af, .int .i64 ak, .int .i64 aj, .int .i64 aa, .slice a3 a4 a5, .int .u64 ae], .int .i64 0]) au))

theorem entry_Sign.up (o1 : Option Addr) (ah : Int) (a2 : Int) (a3 : Int) (a4 : Int) (a9 : Int) (aa : Int) (a5 : Int) (ae : Option Addr) (ad : Nat) (ac : Nat) (ag : Int) {R : Value → World → Prop} {w : World} (h : entry_Sign.N o1 ah a2 a3 a4 a9 aa a5 ae ad ac ag R w) : entry_Sign.M o1 ah a2 a3 a4 a9 aa a5 ae ad ac ag R w := by
  unfold entry_Sign.M
  unfold entry_Sign.N at h
  refine thenW_in fun a1 cz => ?_
  have ab := Blk.of_new cz
  have dg := ((Ext.refl no w)).size
  have ax := (Ext.refl no w).x_alloc cz
  refine thenW_in fun cg cm => ?_
  have a0 := Blk.of_new cm
  have de := (ax).size
  have an := Nat.ne_of_lt ab.lt
  have ab := ab.x_alloc cm
  have cj := ax.x_alloc cm
  refine ⟨a2, a3, a4, a9, aa, a5, ae, ad, ac, ag, ⟨ab.celli 0 rfl rfl, ab.celli 1 rfl rfl, ab.celli 2 rfl rfl, ab.celli 3 rfl rfl, ab.celli 4 rfl rfl, ab.celli 5 rfl rfl, ab.celli 6 rfl rfl, ab.celli 7 rfl rfl, trivial⟩, ?_⟩
  have h := h cg (w.heap.size) (a1.heap.size) cj (Priv.cons dg ab.lt (Priv.cons de a0.lt Priv.nil))
  refine h.mono fun dd ao h => ?_
  obtain ⟨ak, ai, am, ar, he, hk, h⟩ := h
  refine ⟨ak, ai, am, ar, he, ?_⟩
  have ab := hk.blk ab (by simp)
  have a0 := hk.blk a0 (by simp)
  refine bif_of (fun ch => ?_) (fun ch => ?_)
  · have h := h.1 (bne_t ch)
    have c0 : Ext (fun b => b = a1.heap.size) ao ao := ((Ext.refl no ao)).none
    refine ⟨a0.cani 0 rfl rfl, thenW_in fun b2 cv => ?_⟩
    have bg := c0.x_set (q := a1.heap.size) (i := 0) rfl (.inl rfl) cv
    have a0 : Blk b2 a1.heap.size 47 [.int .i64 0, .int .i64 0, .int .u64 0, .int .i64 0, .int .i64 0, .int .i64 0, .slice none 0 0, .int .u64 0] := a0.seti 0 rfl cv
    refine ⟨a0.cani 1 rfl rfl, thenW_in fun bk d8 => ?_⟩
    have c4 := bg.x_set (q := a1.heap.size) (i := 1) rfl (.inl rfl) d8
    have a0 : Blk bk a1.heap.size 47 [.int .i64 0, .int .i64 0, .int .u64 0, .int .i64 0, .int .i64 0, .int .i64 0, .slice none 0 0, .int .u64 0] := a0.seti 1 rfl d8
    refine ⟨a0.cani 2 rfl rfl, thenW_in fun cc d1 => ?_⟩
    have c5 := c4.x_set (q := a1.heap.size) (i := 2) rfl (.inl rfl) d1
    have a0 : Blk cc a1.heap.size 47 [.int .i64 0, .int .i64 0, .int .u64 0, .int .i64 0, .int .i64 0, .int .i64 0, .slice none 0 0, .int .u64 0] := a0.seti 2 rfl d1
    refine ⟨a0.cani 3 rfl rfl, thenW_in fun bm cn => ?_⟩
    have bu := c5.x_set (q := a1.heap.size) (i := 3) rfl (.inl rfl) cn
    have a0 : Blk bm a1.heap.size 47 [.int .i64 0, .int .i64 0, .int .u64 0, .int .i64 0, .int .i64 0, .int .i64 0, .slice none 0 0, .int .u64 0] := a0.seti 3 rfl cn
    refine ⟨a0.cani 4 rfl rfl, thenW_in fun br cw => ?_⟩
    have ce := bu.x_set (q := a1.heap.size) (i := 4) rfl (.inl rfl) cw
    have a0 : Blk br a1.heap.size 47 [.int .i64 0, .int .i64 0, .int .u64 0, .int .i64 0, .int .i64 0, .int .i64 0, .slice none 0 0, .int .u64 0] := a0.seti 4 rfl cw
    refine ⟨a0.cani 5 rfl rfl, thenW_in fun cf d7 => ?_⟩
    have c1 := ce.x_set (q := a1.heap.size) (i := 5) rfl (.inl rfl) d7
    have a0 : Blk cf a1.heap.size 47 [.int .i64 0, .int .i64 0, .int .u64 0, .int .i64 0, .int .i64 0, .int .i64 0, .slice none 0 0, .int .u64 0] := a0.seti 5 rfl d7
    refine ⟨a0.cani 6 rfl rfl, thenW_in fun bj d2 => ?_⟩
    have b6 := c1.x_set (q := a1.heap.size) (i := 6) rfl (.inl rfl) d2
    have a0 : Blk bj a1.heap.size 47 [.int .i64 0, .int .i64 0, .int .u64 0, .int .i64 0, .int .i64 0, .int .i64 0, .slice none 0 0, .int .u64 0] := a0.seti 6 rfl d2
    refine ⟨a0.cani 7 rfl rfl, thenW_in fun aw db => ?_⟩
    have bp := b6.x_set (q := a1.heap.size) (i := 7) rfl (.inl rfl) db
    have a0 : Blk aw a1.heap.size 47 [.int .i64 0, .int .i64 0, .int .u64 0, .int .i64 0, .int .i64 0, .int .i64 0, .slice none 0 0, .int .u64 0] := a0.seti 7 rfl db
    refine ⟨0, 0, 0, 0, 0, 0, none, 0, 0, 0, ⟨a0.celli 0 rfl rfl, a0.celli 1 rfl rfl, a0.celli 2 rfl rfl, a0.celli 3 rfl rfl, a0.celli 4 rfl rfl, a0.celli 5 rfl rfl, a0.celli 6 rfl rfl, a0.celli 7 rfl rfl, trivial⟩, ?_⟩
    have h := h aw bp
    exact h
  · have h := h.2 (bne_f ch)
    refine h.mono fun dc aj h => ?_
    obtain ⟨af, ap, he, hk, h⟩ := h
    refine ⟨af, ap, he, ?_⟩
    have ab := hk.blk ab (by simp)
    have a0 := hk.blk a0 (by simp)
    have bo : Ext (fun b => b = w.heap.size) aj aj := ((Ext.refl no aj)).none
    refine ⟨ab.cani 7 rfl rfl, thenW_in fun aq b5 => ?_⟩
    have av := bo.x_set (q := w.heap.size) (i := 7) rfl (.inl rfl) b5
    have ab : Blk aq w.heap.size 47 [.int .i64 a2, .int .i64 a3, .int .u64 a4, .int .i64 a9, .int .i64 aa, .int .i64 a5, .slice ae ad ac, .int .u64 af] := ab.seti 7 rfl b5
    have a0 := a0.oth (q := w.heap.size) (i := 7) rfl (Ne.symm an) b5
    refine bif_of (fun b1 => ?_) (fun b1 => ?_)
    · have h := h.1 (bne_t b1)
      have bt : Ext (fun b => b = a1.heap.size ∨ b = w.heap.size) aj aq := (av).mono fun _ h _ => .inr h
      refine ⟨a0.cani 0 rfl rfl, thenW_in fun c2 d3 => ?_⟩
      have b7 := bt.x_set (q := a1.heap.size) (i := 0) rfl (.inl (.inl rfl)) d3
      have a0 : Blk c2 a1.heap.size 47 [.int .i64 0, .int .i64 0, .int .u64 0, .int .i64 0, .int .i64 0, .int .i64 0, .slice none 0 0, .int .u64 0] := a0.seti 0 rfl d3
      refine ⟨a0.cani 1 rfl rfl, thenW_in fun bc cx => ?_⟩
      have b0 := b7.x_set (q := a1.heap.size) (i := 1) rfl (.inl (.inl rfl)) cx
      have a0 : Blk bc a1.heap.size 47 [.int .i64 0, .int .i64 0, .int .u64 0, .int .i64 0, .int .i64 0, .int .i64 0, .slice none 0 0, .int .u64 0] := a0.seti 1 rfl cx
      refine ⟨a0.cani 2 rfl rfl, thenW_in fun c9 co => ?_⟩
      have bl := b0.x_set (q := a1.heap.size) (i := 2) rfl (.inl (.inl rfl)) co
      have a0 : Blk c9 a1.heap.size 47 [.int .i64 0, .int .i64 0, .int .u64 0, .int .i64 0, .int .i64 0, .int .i64 0, .slice none 0 0, .int .u64 0] := a0.seti 2 rfl co
      refine ⟨a0.cani 3 rfl rfl, thenW_in fun ba d9 => ?_⟩
      have c3 := bl.x_set (q := a1.heap.size) (i := 3) rfl (.inl (.inl rfl)) d9
      have a0 : Blk ba a1.heap.size 47 [.int .i64 0, .int .i64 0, .int .u64 0, .int .i64 0, .int .i64 0, .int .i64 0, .slice none 0 0, .int .u64 0] := a0.seti 3 rfl d9
      refine ⟨a0.cani 4 rfl rfl, thenW_in fun be cp => ?_⟩
      have bf := c3.x_set (q := a1.heap.size) (i := 4) rfl (.inl (.inl rfl)) cp
      have a0 : Blk be a1.heap.size 47 [.int .i64 0, .int .i64 0, .int .u64 0, .int .i64 0, .int .i64 0, .int .i64 0, .slice none 0 0, .int .u64 0] := a0.seti 4 rfl cp
      refine ⟨a0.cani 5 rfl rfl, thenW_in fun bq ct => ?_⟩
      have bx := bf.x_set (q := a1.heap.size) (i := 5) rfl (.inl (.inl rfl)) ct
      have a0 : Blk bq a1.heap.size 47 [.int .i64 0, .int .i64 0, .int .u64 0, .int .i64 0, .int .i64 0, .int .i64 0, .slice none 0 0, .int .u64 0] := a0.seti 5 rfl ct
      refine ⟨a0.cani 6 rfl rfl, thenW_in fun bi cr => ?_⟩
      have cl := bx.x_set (q := a1.heap.size) (i := 6) rfl (.inl (.inl rfl)) cr
      have a0 : Blk bi a1.heap.size 47 [.int .i64 0, .int .i64 0, .int .u64 0, .int .i64 0, .int .i64 0, .int .i64 0, .slice none 0 0, .int .u64 0] := a0.seti 6 rfl cr
      refine ⟨a0.cani 7 rfl rfl, thenW_in fun az d4 => ?_⟩
      have bn := cl.x_set (q := a1.heap.size) (i := 7) rfl (.inl (.inl rfl)) d4
      have a0 : Blk az a1.heap.size 47 [.int .i64 0, .int .i64 0, .int .u64 0, .int .i64 0, .int .i64 0, .int .i64 0, .slice none 0 0, .int .u64 0] := a0.seti 7 rfl d4
      refine ⟨0, 0, 0, 0, 0, 0, none, 0, 0, 0, ⟨a0.celli 0 rfl rfl, a0.celli 1 rfl rfl, a0.celli 2 rfl rfl, a0.celli 3 rfl rfl, a0.celli 4 rfl rfl, a0.celli 5 rfl rfl, a0.celli 6 rfl rfl, a0.celli 7 rfl rfl, trivial⟩, ?_⟩
      have h := h az bn
      exact h
    · have h := h.2 (bne_f b1)
      refine ⟨ae, ad, ac, ab.celli 6 rfl rfl, ?_⟩
      have h := h aq av
      refine h.mono fun df al h => ?_
      obtain ⟨a8, a6, a7, he, hk, h⟩ := h
      refine ⟨a8, a6, a7, he, ?_⟩
      have ab := hk.blk ab (by simp)
      have a0 := hk.blk a0 (by simp)
      have bs : Ext (fun b => b = w.heap.size) al al := ((Ext.refl no al)).none
      refine ⟨ab.cani 6 rfl rfl, thenW_in fun ay ci => ?_⟩
      have bw := bs.x_set (q := w.heap.size) (i := 6) rfl (.inl rfl) ci
      have ab : Blk ay w.heap.size 47 [.int .i64 a2, .int .i64 a3, .int .u64 a4, .int .i64 a9, .int .i64 aa, .int .i64 a5, .slice a8 a6 a7, .int .u64 af] := ab.seti 6 rfl ci
      have a0 := a0.oth (q := w.heap.size) (i := 6) rfl (Ne.symm an) ci
      refine ⟨a2, a3, a4, a9, aa, a5, a8, a6, a7, af, ⟨ab.celli 0 rfl rfl, ab.celli 1 rfl rfl, ab.celli 2 rfl rfl, ab.celli 3 rfl rfl, ab.celli 4 rfl rfl, ab.celli 5 rfl rfl, ab.celli 6 rfl rfl, ab.celli 7 rfl rfl, trivial⟩, ?_⟩
      have bd : Ext (fun b => b = a1.heap.size ∨ b = w.heap.size) al ay := (bw).mono fun _ h _ => .inr h
      refine ⟨a0.cani 0 rfl rfl, thenW_in fun b8 d6 => ?_⟩
      have ck := bd.x_set (q := a1.heap.size) (i := 0) rfl (.inl (.inl rfl)) d6
      have a0 : Blk b8 a1.heap.size 47 [.int .i64 a2, .int .i64 0, .int .u64 0, .int .i64 0, .int .i64 0, .int .i64 0, .slice none 0 0, .int .u64 0] := a0.seti 0 rfl d6
      refine ⟨a0.cani 1 rfl rfl, thenW_in fun b9 cy => ?_⟩
      have bv := ck.x_set (q := a1.heap.size) (i := 1) rfl (.inl (.inl rfl)) cy
      have a0 : Blk b9 a1.heap.size 47 [.int .i64 a2, .int .i64 a3, .int .u64 0, .int .i64 0, .int .i64 0, .int .i64 0, .slice none 0 0, .int .u64 0] := a0.seti 1 rfl cy
      refine ⟨a0.cani 2 rfl rfl, thenW_in fun bz cs => ?_⟩
      have cb := bv.x_set (q := a1.heap.size) (i := 2) rfl (.inl (.inl rfl)) cs
      have a0 : Blk bz a1.heap.size 47 [.int .i64 a2, .int .i64 a3, .int .u64 a4, .int .i64 0, .int .i64 0, .int .i64 0, .slice none 0 0, .int .u64 0] := a0.seti 2 rfl cs
      refine ⟨a0.cani 3 rfl rfl, thenW_in fun bh cu => ?_⟩
      have ca := cb.x_set (q := a1.heap.size) (i := 3) rfl (.inl (.inl rfl)) cu
      have a0 : Blk bh a1.heap.size 47 [.int .i64 a2, .int .i64 a3, .int .u64 a4, .int .i64 a9, .int .i64 0, .int .i64 0, .slice none 0 0, .int .u64 0] := a0.seti 3 rfl cu
      refine ⟨a0.cani 4 rfl rfl, thenW_in fun c6 d5 => ?_⟩
      have cd := ca.x_set (q := a1.heap.size) (i := 4) rfl (.inl (.inl rfl)) d5
      have a0 : Blk c6 a1.heap.size 47 [.int .i64 a2, .int .i64 a3, .int .u64 a4, .int .i64 a9, .int .i64 aa, .int .i64 0, .slice none 0 0, .int .u64 0] := a0.seti 4 rfl d5
      refine ⟨a0.cani 5 rfl rfl, thenW_in fun c8 da => ?_⟩
      have b4 := cd.x_set (q := a1.heap.size) (i := 5) rfl (.inl (.inl rfl)) da
      have a0 : Blk c8 a1.heap.size 47 [.int .i64 a2, .int .i64 a3, .int .u64 a4, .int .i64 a9, .int .i64 aa, .int .i64 a5, .slice none 0 0, .int .u64 0] := a0.seti 5 rfl da
      refine ⟨a0.cani 6 rfl rfl, thenW_in fun bb d0 => ?_⟩
      have b3 := b4.x_set (q := a1.heap.size) (i := 6) rfl (.inl (.inl rfl)) d0
      have a0 : Blk bb a1.heap.size 47 [.int .i64 a2, .int .i64 a3, .int .u64 a4, .int .i64 a9, .int .i64 aa, .int .i64 a5, .slice a8 a6 a7, .int .u64 0] := a0.seti 6 rfl d0
      refine ⟨a0.cani 7 rfl rfl, thenW_in fun au cq => ?_⟩
      have c7 := b3.x_set (q := a1.heap.size) (i := 7) rfl (.inl (.inl rfl)) cq
      have a0 : Blk au a1.heap.size 47 [.int .i64 a2, .int .i64 a3, .int .u64 a4, .int .i64 a9, .int .i64 aa, .int .i64 a5, .slice a8 a6 a7, .int .u64 af] := a0.seti 7 rfl cq
      refine ⟨a2, a3, a4, a9, aa, a5, a8, a6, a7, af, ⟨a0.celli 0 rfl rfl, a0.celli 1 rfl rfl, a0.celli 2 rfl rfl, a0.celli 3 rfl rfl, a0.celli 4 rfl rfl, a0.celli 5 rfl rfl, a0.celli 6 rfl rfl, a0.celli 7 rfl rfl, trivial⟩, ?_⟩
      have h := h au c7
      exact h

theorem entry_Sign.go (o1 : Option Addr) (a1 : Int) (a0 : Int) (a4 : Int) (a7 : Int) (aa : Int) (a9 : Int) (a2 : Int) (a5 : Option Addr) (a6 : Nat) (a3 : Nat) (a8 : Int) {R : Value → World → Prop} {w : World} (h : entry_Sign.N o1 a1 a0 a4 a7 aa a9 a2 a5 a6 a3 a8 R w) : Calls Try.prog 36 #[.pointer o1, .int .u64 a1, .agg #[.int .i64 a0, .int .i64 a4, .int .u64 a7, .int .i64 aa, .int .i64 a9, .int .i64 a2, .slice a5 a6 a3, .int .u64 a8]] w fun e w' => ∃ v, e = .returned v ∧ R v w' := entry_Sign.ok o1 a1 a0 a4 a7 aa a9 a2 a5 a6 a3 a8 (entry_Sign.up o1 a1 a0 a4 a7 aa a9 a2 a5 a6 a3 a8 h)
/-- entry.Holds -/
def entry_Holds.M (o1 : Option Addr) (ad : Int) (ac : Int) (al : Int) (an : Int) (au : Int) (aq : Int) (aj : Int) (ak : Option Addr) (ai : Nat) (ah : Nat) (ao : Int) (R : Value → World → Prop) (w : World) : Prop :=
 thenW (w.alloc (.cells #[.int .i64 ac, .int .i64 al, .int .u64 an, .int .i64 au, .int .i64 aq, .int .i64 aj, .slice ak ai ah, .int .u64 ao] 47)) fun ar =>
 ∃ (a0 : Int) (a5 : Int) (a8 : Int) (ag : Int) (ab : Int) (a2 : Int) (a3 : Option Addr) (a4 : Nat) (a6 : Nat) (ae : Int), cellsAt ar (blk w.heap.size) [.int .i64 a0, .int .i64 a5, .int .u64 a8, .int .i64 ag, .int .i64 ab, .int .i64 a2, .slice a3 a4 a6, .int .u64 ae] 0 ∧
 Calls Try.prog 54 #[.agg #[.int .i64 a0, .int .i64 a5, .int .u64 a8, .int .i64 ag, .int .i64 ab, .int .i64 a2, .slice a3 a4 a6, .int .u64 ae]] ar fun av ap => ∃ (a7 : Option Addr) (aa : Nat) (a9 : Nat) (af : Int), av = .returned (.tuple #[.slice a7 aa a9, .int .i64 af]) ∧
 bif af == 0 then (
 ∃ (am : Int), ap.cell? ((blk w.heap.size).add 7) = some (.int .u64 am) ∧
 Calls Try.prog 76 #[.pointer o1, .int .u64 ad, .slice a7 aa a9, .int .u64 am] ap fun ax aw => ∃ (a1 : Bool), ax = .returned (.bool a1) ∧
 R (.bool a1) aw) else (
 R (.bool false) ap)

theorem entry_Holds.eq (o1 : Option Addr) (publicv2 : Int) (eWriter3 : Int) (eIndex4 : Int) (ePrev5 : Int) (eAtT6 : Int) (eAtW7 : Int) (eEpoch8 : Int) (eBody9a : Option Addr) (eBody9n : Nat) (eBody9c : Nat) (eSig10 : Int) (R : Value → World → Prop) (w : World) : mfunc Try.prog [] 61 [.pointer o1, .int .u64 publicv2, .agg #[.int .i64 eWriter3, .int .i64 eIndex4, .int .u64 ePrev5, .int .i64 eAtT6, .int .i64 eAtW7, .int .i64 eEpoch8, .slice eBody9a eBody9n eBody9c, .int .u64 eSig10]] R w = entry_Holds.M o1 publicv2 eWriter3 eIndex4 ePrev5 eAtT6 eAtW7 eEpoch8 eBody9a eBody9n eBody9c eSig10 R w := by kernel_rfl
theorem entry_Holds.ok (o1 : Option Addr) (a1 : Int) (a0 : Int) (a4 : Int) (a7 : Int) (aa : Int) (a9 : Int) (a2 : Int) (a5 : Option Addr) (a6 : Nat) (a3 : Nat) (a8 : Int) {R : Value → World → Prop} {w : World} (h : entry_Holds.M o1 a1 a0 a4 a7 aa a9 a2 a5 a6 a3 a8 R w) : Calls Try.prog 61 #[.pointer o1, .int .u64 a1, .agg #[.int .i64 a0, .int .i64 a4, .int .u64 a7, .int .i64 aa, .int .i64 a9, .int .i64 a2, .slice a5 a6 a3, .int .u64 a8]] w fun e w' => ∃ v, e = .returned v ∧ R v w' :=
  mfunc_ok follows (H := []) (args := [.pointer o1, .int .u64 a1, .agg #[.int .i64 a0, .int .i64 a4, .int .u64 a7, .int .i64 aa, .int .i64 a9, .int .i64 a2, .slice a5 a6 a3, .int .u64 a8]]) (by rw [entry_Holds.eq]; exact h)

def entry_Holds.N (o1 : Option Addr) (a6 : Int) (a5 : Int) (ad : Int) (ae : Int) (ah : Int) (ag : Int) (ab : Int) (ac : Option Addr) (aa : Nat) (a8 : Nat) (a7 : Int) (R : Value → World → Prop) (w : World) : Prop :=
 ∀ (a9 : World) (al : Nat), Ext no w a9 → Priv w a9 [al] →
 Calls Try.prog 54 #[.agg #[.int .i64 a5, .int .i64 ad, .int .u64 ae, .int .i64 ah, .int .i64 ag, .int .i64 ab, .slice ac aa a8, .int .u64 a7]] a9 fun aj af => ∃ (a3 : Option Addr) (a4 : Nat) (a2 : Nat) (a1 : Int), aj = .returned (.tuple #[.slice a3 a4 a2, .int .i64 a1]) ∧
 Keep [al] a9 af ∧
 (a1 = 0 →
 Calls Try.prog 76 #[.pointer o1, .int .u64 a6, .slice a3 a4 a2, .int .u64 a7] af fun ak ai => ∃ (a0 : Bool), ak = .returned (.bool a0) ∧
 R (.bool a0) ai) ∧
 (a1 ≠ 0 →
 R (.bool false) af)

theorem entry_Holds.up (o1 : Option Addr) (a7 : Int) (a0 : Int) (a6 : Int) (a8 : Int) (ac : Int) (ab : Int) (a3 : Int) (a4 : Option Addr) (a2 : Nat) (a1 : Nat) (a5 : Int) {R : Value → World → Prop} {w : World} (h : entry_Holds.N o1 a7 a0 a6 a8 ac ab a3 a4 a2 a1 a5 R w) : entry_Holds.M o1 a7 a0 a6 a8 ac ab a3 a4 a2 a1 a5 R w := by
  unfold entry_Holds.M
  unfold entry_Holds.N at h
  refine thenW_in fun ai ak => ?_
  have a9 := Blk.of_new ak
  have ao := ((Ext.refl no w)).size
  have aj := (Ext.refl no w).x_alloc ak
  refine ⟨a0, a6, a8, ac, ab, a3, a4, a2, a1, a5, ⟨a9.celli 0 rfl rfl, a9.celli 1 rfl rfl, a9.celli 2 rfl rfl, a9.celli 3 rfl rfl, a9.celli 4 rfl rfl, a9.celli 5 rfl rfl, a9.celli 6 rfl rfl, a9.celli 7 rfl rfl, trivial⟩, ?_⟩
  have h := h ai (w.heap.size) aj (Priv.cons ao a9.lt Priv.nil)
  refine h.mono fun am ap h => ?_
  obtain ⟨ae, af, ad, ag, he, hk, h⟩ := h
  refine ⟨ae, af, ad, ag, he, ?_⟩
  have a9 := hk.blk a9 (by simp)
  refine bif_of (fun ah => ?_) (fun ah => ?_)
  · have h := h.1 (beq_t ah)
    refine ⟨a5, a9.celli 7 rfl rfl, ?_⟩
    refine h.mono fun an al h => ?_
    obtain ⟨aa, he, h⟩ := h
    refine ⟨aa, he, ?_⟩
    exact h
  · have h := h.2 (beq_f ah)
    exact h

theorem entry_Holds.go (o1 : Option Addr) (a1 : Int) (a0 : Int) (a4 : Int) (a7 : Int) (aa : Int) (a9 : Int) (a2 : Int) (a5 : Option Addr) (a6 : Nat) (a3 : Nat) (a8 : Int) {R : Value → World → Prop} {w : World} (h : entry_Holds.N o1 a1 a0 a4 a7 aa a9 a2 a5 a6 a3 a8 R w) : Calls Try.prog 61 #[.pointer o1, .int .u64 a1, .agg #[.int .i64 a0, .int .i64 a4, .int .u64 a7, .int .i64 aa, .int .i64 a9, .int .i64 a2, .slice a5 a6 a3, .int .u64 a8]] w fun e w' => ∃ v, e = .returned v ∧ R v w' := entry_Holds.ok o1 a1 a0 a4 a7 aa a9 a2 a5 a6 a3 a8 (entry_Holds.up o1 a1 a0 a4 a7 aa a9 a2 a5 a6 a3 a8 h)
theorem entry_Holds.run (o1 : Option Addr) (a1 : Int) (a0 : Int) (a4 : Int) (a7 : Int) (aa : Int) (a9 : Int) (a2 : Int) (a5 : Option Addr) (a6 : Nat) (a3 : Nat) (a8 : Int) {V : Value} {Q : World → Prop} {w : World} (h : entry_Holds.N o1 a1 a0 a4 a7 aa a9 a2 a5 a6 a3 a8 (fun v w' => v = V ∧ Q w') w) : Calls Try.prog 61 #[.pointer o1, .int .u64 a1, .agg #[.int .i64 a0, .int .i64 a4, .int .u64 a7, .int .i64 aa, .int .i64 a9, .int .i64 a2, .slice a5 a6 a3, .int .u64 a8]] w (Ret V Q) := (entry_Holds.go o1 a1 a0 a4 a7 aa a9 a2 a5 a6 a3 a8 h).mono fun e w' ⟨v, he, hv, hq⟩ => ⟨by rw [he, hv], hq⟩

def sumE (S : OS) (e : Ent) : (Int × Int) × OS := if entRight e = true then (((hashOf S (bytesL e)).1, 0), (hashOf S (bytesL e)).2) else ((0, 1), S)
def signE (S : OS) (s : Int) (e : Ent) : (Ent × Int) × OS :=
  if entRight e = true then (if (signOf S s (textL e)).1.2 = true then (({ e with sg := (signOf S s (textL e)).1.1 }, 0), (signOf S s (textL e)).2) else ((Ent.zero, 11), (signOf S s (textL e)).2)) else ((Ent.zero, 1), S)
def holdsE (S : OS) (p : Int) (e : Ent) : Bool := entRight e && verifyOf S p (textL e) e.sg
section
variable {w w' : World} {o o' : Own} {k : Nat} {S : OS} {K : Nat → Prop}
theorem OwnB.tight {N : Nat} {a : Option Addr} {c : Nat} {l : List UInt8} (h : OwnB N w' a c l) (hN : w.heap.size ≤ N) : Row w' (grow w o) a (bytesV l) := Row.fresh h.row fun ad ha => Nat.le_trans hN (h.fr ad ha).1
theorem bClone_spec {a : Option Addr} {c : Nat} {bs : List UInt8} (h : RowAt w a (bytesV bs)) (hl : bs.length ≤ 1000000) :
    Calls Try.prog 56 #[.slice a bs.length c] w (fun e w' => ∃ a' c', e = .returned (.slice a' bs.length c') ∧ OwnB w.heap.size w' a' c' bs ∧ Ext no w w') := by
  refine (bytes_Clone.go _ _ _ (R := fun v w' => ∃ a' c', v = (.slice a' bs.length c') ∧ OwnB w.heap.size w' a' c' bs ∧ Ext no w w') ?_).mono fun e w' ⟨v, he, a, c, hv, hw⟩ => ⟨a, c, by rw [he, hv], hw⟩
  unfold bytes_Clone.N
  refine ⟨fun hn => ?_, fun hn w2 q X hb hq hq' => ?_⟩
  · subst hn
    have : bs = [] := by simpa [bytesV] using h.none_nil
    subst this
    exact ⟨none, 0, rfl, OwnB.nil _ _, Ext.refl _ _⟩
  · have hO : OwnB w.heap.size w2 (some (blk q)) 0 [] := ⟨owns_of_blk hb rfl (Nat.zero_le _), fun ad ha => by cases ha; exact ⟨hq, hq'⟩⟩
    obtain ⟨a', c', w', hr, hO', hx⟩ := hO.append (t := 43) (ty := 43) Try.underlying43 X.size (xc := c) (h.no X) (by simp; omega)
    rw [List.nil_append] at hr hO'
    exact ⟨a', _, c', w', hr, a', c', rfl, hO', X.then hx fun b hb => .inr hb⟩
theorem SumO (h : POrc w o k S) (ok : Tags w o) (hok : S.ok) (hlen : S.used.length < 1000000) {e : Ent} (hf : entRight e = true → e.fit) {ba : Option Addr} {bc : Nat} (hb : RowAt w ba (bytesV e.body)) :
    Calls Try.prog 30 #[.pointer (some (blk k)), entV e ba bc] w (Gs (fun j => j = k) w o (.tuple #[u64V (sumE S e).1.1, .int .i64 (sumE S e).1.2]) fun w' o' => POrc w' o' k (sumE S e).2) := by
  refine (entry_Sum.go (some (blk k)) e.w e.i e.pv e.t e.tw e.ep ba e.body.length bc e.sg (R := fun v w' => ∃ o', v = (.tuple #[u64V (sumE S e).1.1, .int .i64 (sumE S e).1.2]) ∧ Step (fun j => j = k) w o w' o' ∧ POrc w' o' k (sumE S e).2) ?_).mono fun x w' ⟨v, he, o', hv, hw⟩ => ⟨o', by rw [he, hv], hw⟩
  unfold entry_Sum.N
  intro w10 X10
  have s10 := Step.of_no X10 ok
  refine (EBytesK_spec hf (hb.no X10)).mono fun x w15 ⟨a, c, he, hO, X⟩ => ⟨_, _, _, _, he, ?_⟩
  have s15 := Step.of_no X s10.ok
  have s := s10.trans s15
  have h15 := h.step s id
  unfold bytesK sumE at *
  by_cases hr : entRight e = true
  · rw [if_pos hr] at hO ⊢
    rw [if_pos hr]
    refine ⟨fun h => absurd rfl h, fun _ => ⟨fun h => (by cases h), fun _ => ?_⟩⟩
    refine (HashO h15 s.ok hok hlen (OwnB.tight hO (Nat.le_refl _))).mono fun x w20 ⟨o20, he, s20, h20⟩ => ⟨_, he, o20, rfl, s.none.trans s20, h20⟩
  · rw [if_neg hr]
    rw [if_neg hr]
    exact ⟨fun _ => ⟨_, rfl, s.none, h15⟩, fun h => absurd h (by decide)⟩
theorem SignE (h : POrc w o k S) (ok : Tags w o) (hok : S.ok) (hlen : S.used.length < 1000000) (s : Int) {e : Ent} (hf : entRight e = true → e.fit) {ba : Option Addr} {bc : Nat} (hb : Row w o ba (bytesV e.body)) :
    Calls Try.prog 36 #[.pointer (some (blk k)), .int .u64 s, entV e ba bc] w (fun x w' => ∃ o' a' c', x = .returned (.tuple #[entV (signE S s e).1.1 a' c', .int .i64 (signE S s e).1.2]) ∧ Step (fun j => j = k) w o w' o' ∧ POrc w' o' k (signE S s e).2 ∧ Row w' o' a' (bytesV (signE S s e).1.1.body) ∧ (signE S s e).1.1.body.length ≤ c') := by
  refine (entry_Sign.go (some (blk k)) s e.w e.i e.pv e.t e.tw e.ep ba e.body.length bc e.sg (R := fun v w' => ∃ o' a' c', v = (.tuple #[entV (signE S s e).1.1 a' c', .int .i64 (signE S s e).1.2]) ∧ Step (fun j => j = k) w o w' o' ∧ POrc w' o' k (signE S s e).2 ∧ Row w' o' a' (bytesV (signE S s e).1.1.body) ∧ (signE S s e).1.1.body.length ≤ c') ?_).mono fun x w' ⟨v, he, o', a', c', hv, hw⟩ => ⟨o', a', c', by rw [he, hv], hw⟩
  unfold entry_Sign.N
  intro w12 p13 p14 X12 hp
  obtain ⟨hp1, hp2⟩ := hp.two
  obtain ⟨o12, s12, t13, t14⟩ := Step.priv2 X12 hp ok
  have hkl := h.lt
  refine (TextK_spec hf (hb.step s12).1).mono fun x w18 ⟨a, c, he, hO, X⟩ => ⟨_, _, _, _, he, X.kept, ?_⟩
  have s18' := Step.of_no X s12.ok
  have s18 := s12.trans s18'
  have t13 : grow w12 o12 p13 = some p13 := (s18'.own hp1.2).trans t13
  have t14 : grow w12 o12 p14 = some p14 := (s18'.own hp2.2).trans t14
  have h18 := h.step s18 id
  have l18 := X.size
  unfold textK signE at *
  by_cases hr : entRight e = true
  · rw [if_pos hr] at hO ⊢
    rw [if_pos hr]
    refine ⟨fun h => absurd rfl h, fun _ => ?_⟩
    refine (SignO h18 s18.ok hok hlen s (OwnB.tight hO (Nat.le_refl _))).mono fun x w31 ⟨o31, he, s31', h31⟩ => ⟨_, _, he, s31'.keep2 t13 (by omega) t14 (by omega), ?_⟩
    have s31 := s18.none.trans s31'
    have t13 := (s31'.own (by omega)).trans t13
    have t14 := (s31'.own (by omega)).trans t14
    have l31 := s31'.size
    cases hs : (signOf S s (textL e)).1.2
    · simp only [if_false, Bool.false_eq_true]
      refine ⟨fun _ w41 X41 => ?_, fun h => absurd h (by decide)⟩
      obtain ⟨o41, s41⟩ := Step.store2 X41 s31.ok t14 t13
      exact ⟨o41, none, 0, rfl, s31.trans' s41 fun j hj => .inr (by omega), h31.step s41 (by omega), Row.nil _ _ _, Nat.le_refl _⟩
    · simp only [if_true]
      refine ⟨fun h => absurd rfl h, fun _ w32 X32 => ?_⟩
      obtain ⟨o32, s32'⟩ := Step.store1 X32 s31.ok t13
      have s32 := s31.trans' s32' fun j hj => .inr (by omega)
      have hbl := ((entRight_iff _).1 hr).2.2.2.2.2.2.2.2.2.1
      have t13 := (s32'.own (by omega)).trans t13
      have t14 := (s32'.own (by omega)).trans t14
      have l32 := s32'.size
      refine (bClone_spec (hb.step s32).1 (by omega)).mono fun x w44 ⟨ca, cc, he, hO, X44⟩ => ⟨_, _, _, he, X44.kept, fun w53 X53 => ?_⟩
      have s44' := Step.of_no X44 s32.ok
      have s44 := s32.trans s44'.none
      have t13 := (s44'.own (by omega)).trans t13
      have t14 := (s44'.own (by omega)).trans t14
      obtain ⟨o53, s53⟩ := Step.store2 X53 s44.ok t14 t13
      exact ⟨o53, ca, cc, rfl, s44.trans' s53 fun j hj => .inr (by omega), ((h31.step s32' (by omega)).step s44' id).step s53 (by omega), (OwnB.tight hO (Nat.le_refl _)).step s53, hO.le⟩
  · rw [if_neg hr]
    rw [if_neg hr]
    refine ⟨fun _ w27 X27 => ?_, fun h => absurd h (by decide)⟩
    obtain ⟨o27, s27⟩ := Step.store1 X27 s18.ok t14
    exact ⟨o27, none, 0, rfl, s18.none.trans' s27 fun j hj => .inr (by omega), h18.step s27 (by omega), Row.nil _ _ _, Nat.le_refl _⟩
theorem HoldsO (h : POrc w o k S) (ok : Tags w o) (p : Int) {e : Ent} (hf : entRight e = true → e.fit) {ba : Option Addr} {bc : Nat} (hb : RowAt w ba (bytesV e.body)) :
    Calls Try.prog 61 #[.pointer (some (blk k)), .int .u64 p, entV e ba bc] w (Ret (.bool (holdsE S p e)) fun w' => Ext no w w') := by
  refine entry_Holds.run (some (blk k)) p e.w e.i e.pv e.t e.tw e.ep ba e.body.length bc e.sg ?_
  unfold entry_Holds.N
  intro w11 p12 X11 hp
  refine (TextK_spec hf (hb.no X11)).mono fun x w16 ⟨a, c, he, hO, X⟩ => ⟨_, _, _, _, he, X.kept, ?_⟩
  have s := (Step.of_no X11 ok).trans (Step.of_no X (Step.of_no X11 ok).ok)
  unfold textK holdsE at *
  by_cases hr : entRight e = true
  · rw [if_pos hr] at hO ⊢
    rw [hr, Bool.true_and]
    refine ⟨fun _ => ?_, fun h => absurd rfl h⟩
    exact (VerifyO (h.step s id) s.ok p e.sg (OwnB.tight hO (Nat.le_refl _))).mono fun x w20 ⟨he, X20⟩ => ⟨_, he, rfl, (X11.trans X).trans X20⟩
  · rw [if_neg hr]
    rw [show entRight e = false by simpa using hr, Bool.false_and]
    exact ⟨fun h => absurd h (by decide), fun _ => ⟨rfl, X11.trans X⟩⟩
end
end Go.Proofs.Ytdelmfpchbpafaa

/- A function's own blocks, each its own owner. -/
set_option linter.unusedSimpArgs false
set_option linter.unusedVariables false
set_option linter.unusedSectionVars false
namespace Go.Mx
section
variable {K K1 : Nat → Prop} {w w1 w' : World} {o o1 o' : Own} {p q j : Nat}
def Mine (L : List Nat) (w : World) (o : Own) : Prop := ∀ p ∈ L, p < w.heap.size ∧ o p = some p
theorem Mine.nil : Mine [] w o := fun p hp => by simp at hp
theorem Mine.step {L : List Nat} (h : Mine L w o) (s : Step K w o w' o') : Mine L w' o' := fun p hp => ⟨Nat.lt_of_lt_of_le (h p hp).1 s.size, by rw [s.own (h p hp).1]; exact (h p hp).2⟩
theorem Mine.keep {L : List Nat} (h : Mine L w o) (s : Step K w o w' o') (hk : ∀ p ∈ L, ¬ K p) : Keep L w w' := s.keep fun p hp _ k hk' => by
  rw [(h p hp).2] at hk'; cases hk'; exact hk p hp
theorem Mine.sub {L M : List Nat} (h : Mine L w o) (k : ∀ p ∈ M, p ∈ L) : Mine M w o := fun p hp => h p (k p hp)
theorem Mine.app {L M : List Nat} (h : Mine L w o) (k : Mine M w o) : Mine (L ++ M) w o := fun p hp => (List.mem_append.1 hp).elim (h p) (k p)
theorem Mine.lt {L : List Nat} (h : Mine L w o) {p : Nat} (hp : p ∈ L) : p < w.heap.size := (h p hp).1
def tags (w : World) (o : Own) (L : List Nat) : Own := fun b => if b < w.heap.size then o b else if b ∈ L then some b else none
theorem Step.priv {L : List Nat} (h : Ext no w w') (hp : Priv w w' L) (ok : Tags w o) : Step no w o w' (tags w o L) ∧ Mine L w' (tags w o L) := by
  refine ⟨⟨h.mono fun _ h _ => h.elim, fun b hb => if_pos hb, ok, fun b j hb hj => ?_⟩, fun p hq => ⟨(hp p hq).2, ?_⟩⟩
  · unfold tags at hj
    split at hj
    · rename_i hl; exact Nat.lt_of_lt_of_le (ok b j hl hj) h.size
    · split at hj
      · cases hj; exact hb
      · cases hj
  · unfold tags
    rw [if_neg (by have := (hp p hq).1; omega), if_pos hq]
/-- stores into blocks of one's own. -/
theorem Step.stores {L : List Nat} {m : Nat → Prop} (h : Ext m w w') (ok : Tags w o) (hL : Mine L w o) (hm : ∀ b, m b → b ∈ L) : Step (fun j => j ∈ L) w o w' (grow w o) :=
  Step.of_exts h ok fun b hb _ => ⟨b, (hL b (hm b hb)).2, hm b hb⟩
/-- values one behind the other, from a place on. -/
def setAll : List Value → Nat → List Value → List Value
  | cs, _, [] => cs
  | cs, k, v :: r => setAll (cs.set k v) (k + 1) r
def putsK (w : World) (a : Addr) : List Value → Nat → (World → Prop) → Prop
  | [], _, Φ => Φ w
  | v :: r, j, Φ => canStore w (a.add j) ∧ thenW (w.setCell (a.add j) v) fun w' => putsK w' a r (j + 1) Φ
theorem setAll_shift : ∀ {vs u cs : List Value} {k : Nat}, setAll (u ++ cs) (u.length + k) vs = u ++ setAll cs k vs
  | [], _, _, _ => rfl
  | v :: r, u, cs, k => by
    simp only [setAll]
    rw [show (u ++ cs).set (u.length + k) v = u ++ cs.set k v by rw [List.set_append_right _ _ (by omega)]; congr 2; omega, Nat.add_assoc, setAll_shift]
theorem setAll_head : ∀ {vs u cs : List Value}, vs.length = u.length → setAll (u ++ cs) 0 vs = vs ++ cs
  | [], [], _, _ => rfl
  | v :: r, x :: u, cs, h => by
    have := setAll_shift (vs := r) (u := [v]) (cs := u ++ cs) (k := 0)
    simp only [setAll, List.cons_append, List.set_cons_zero]
    simp only [List.length_cons, List.length_nil, List.cons_append, List.nil_append, Nat.add_zero] at this
    rw [this, setAll_head (by simpa using h)]
  | [], _ :: _, _, h => by simp at h
  | _ :: _, [], _, h => by simp at h
theorem setAll_flat {α : Type} {f : α → List Value} {n : Nat} (hf : ∀ x, (f x).length = n) (x : α) : ∀ {l : List α} {i : Nat}, i < l.length → setAll (l.flatMap f) (i * n) (f x) = (l.set i x).flatMap f
  | [], i, h => by simp at h
  | a :: l, 0, _ => by
    simp only [List.flatMap_cons, Nat.zero_mul, List.set_cons_zero]
    exact setAll_head (by rw [hf, hf])
  | a :: l, i + 1, h => by
    simp only [List.flatMap_cons, List.set_cons_succ]
    rw [show (i + 1) * n = (f a).length + i * n by rw [hf, Nat.add_mul, Nat.one_mul, Nat.add_comm], setAll_shift, setAll_flat hf x (by simpa using h)]
end
end Go.Mx

/- Entries in a row, and where their bytes lie. -/
set_option linter.unusedVariables false
set_option linter.unusedSimpArgs false
set_option maxRecDepth 20000
namespace Go.Proofs.Ytdelmfpchbpafaa
open Go Go.Mx Go.Proofs
/-- an entry, and where its bytes lie. -/
structure PE where
  e : Ent
  a : Option Addr
  c : Nat
def PE.C (x : PE) : List Value := entC x.e x.a x.c
def PE.ok (w : World) (o : Own) (x : PE) : Prop := Row w o x.a (bytesV x.e.body) ∧ x.e.body.length ≤ x.c ∧ x.e.fit
def PE.Cs (l : List PE) : List Value := l.flatMap PE.C
theorem PE.len (x : PE) : x.C.length = 8 := rfl
theorem PE.Cs_length (l : List PE) : (PE.Cs l).length = l.length * 8 := by
  induction l with
  | nil => rfl
  | cons x r ih => simp only [PE.Cs, List.flatMap_cons, List.length_append, List.length_cons] at ih ⊢; rw [ih, PE.len]; omega
theorem PE.Cs_get : ∀ {l : List PE} {i : Nat} {x : PE}, l[i]? = some x → ∀ j, j < 8 → (PE.Cs l)[i * 8 + j]? = x.C[j]?
  | [], i, x, hi, j, hj => by simp at hi
  | a :: r, 0, x, hi, j, hj => by
    simp only [List.getElem?_cons_zero, Option.some.injEq] at hi
    subst hi
    simp only [PE.Cs, List.flatMap_cons, Nat.zero_mul, Nat.zero_add]
    rw [List.getElem?_append_left (by rw [PE.len]; omega)]
  | a :: r, i + 1, x, hi, j, hj => by
    simp only [List.getElem?_cons_succ] at hi
    have := PE.Cs_get hi j hj
    simp only [PE.Cs, List.flatMap_cons] at this ⊢
    rw [List.getElem?_append_right (by rw [PE.len]; omega), show (i + 1) * 8 + j - a.C.length = i * 8 + j by rw [PE.len]; omega]
    exact this
theorem PE.Cs_set {l : List PE} {i : Nat} (x : PE) (h : i < l.length) : setAll (PE.Cs l) (i * 8) x.C = PE.Cs (l.set i x) := setAll_flat (f := PE.C) (n := 8) PE.len x h
theorem PE.one (x : PE) : ∀ u ∈ x.C, u.oneCell' = true := fun u hu => by
  simp only [PE.C, entC, List.mem_cons, List.not_mem_nil, or_false] at hu
  rcases hu with rfl | rfl | rfl | rfl | rfl | rfl | rfl | rfl <;> rfl
theorem PE.ok.step {w w' : World} {o o' : Own} {K : Nat → Prop} {x : PE} (h : x.ok w o) (s : Step K w o w' o') : x.ok w' o' := ⟨h.1.step s, h.2⟩
theorem PE.loads {w : World} {la : Option Addr} {ad : Addr} {l : List PE} (hr : RowAt w la (PE.Cs l)) (ha : la = some ad) {i : Nat} {x : PE} (hi : l[i]? = some x) : cellsAt w (ad.add (i * 8)) x.C 0 := by
  subst ha
  have h : ∀ j v, x.C[j]? = some v → w.cell? ((ad.add (i * 8)).add j) = some v := fun j v hv => by
    have hj : j < 8 := by have := (List.getElem?_eq_some_iff.1 hv).1; exact this
    rw [add_add]
    exact hr.at_ ((PE.Cs_get hi j hj).trans hv)
  exact ⟨h 0 _ rfl, h 1 _ rfl, h 2 _ rfl, h 3 _ rfl, h 4 _ rfl, h 5 _ rfl, h 6 _ rfl, h 7 _ rfl, trivial⟩
theorem PE.cell {w : World} {la : Option Addr} {ad : Addr} {l : List PE} (hr : RowAt w la (PE.Cs l)) (ha : la = some ad) {i : Nat} {x : PE} (hi : l[i]? = some x) {j : Nat} {v : Value} (hv : x.C[j]? = some v) : w.cell? ((ad.add (i * 8)).add j) = some v := by
  subst ha
  have hj : j < 8 := by have := (List.getElem?_eq_some_iff.1 hv).1; exact this
  rw [add_add]
  exact hr.at_ ((PE.Cs_get hi j hj).trans hv)
end Go.Proofs.Ytdelmfpchbpafaa

/- Chain: predicates. -/
set_option linter.unusedVariables false
set_option linter.unusedSimpArgs false
set_option maxRecDepth 20000
set_option maxHeartbeats 2000000
namespace Go.Proofs.Ytdelmfpchbpafaa
open Go Go.Mx Go.Proofs
open W (OwnB GivesW numR countR doneR zig unzig intR)
/-- chain.New -/
def chain_New.M (o1 : Option Addr) (a1 : Int) (a0 : Int) (R : Value → World → Prop) (w : World) : Prop :=
 bif decide (a1 < 0) then (
 R (.tuple #[.pointer none, .int .i64 1]) w) else (
 bif decide (a1 ≥ 8) then (
 R (.tuple #[.pointer none, .int .i64 1]) w) else (
 bif Option.isNone o1 then (
 R (.tuple #[.pointer none, .int .i64 23]) w) else (
 thenW (w.alloc (.cells #[.pointer o1, .int .i64 a1, .int .u64 a0, .slice none 0 0, .int .u64 0] 82)) fun a2 =>
 R (.tuple #[.pointer (some (blk w.heap.size)), .int .i64 0]) a2)))

theorem chain_New.eq (o1 : Option Addr) (wv2 : Int) (publicv3 : Int) (R : Value → World → Prop) (w : World) : mfunc Try.prog [] 10 [.pointer o1, .int .i64 wv2, .int .u64 publicv3] R w = chain_New.M o1 wv2 publicv3 R w := by kernel_rfl
theorem chain_New.ok (o1 : Option Addr) (a1 : Int) (a0 : Int) {R : Value → World → Prop} {w : World} (h : chain_New.M o1 a1 a0 R w) : Calls Try.prog 10 #[.pointer o1, .int .i64 a1, .int .u64 a0] w fun e w' => ∃ v, e = .returned v ∧ R v w' :=
  mfunc_ok follows (H := []) (args := [.pointer o1, .int .i64 a1, .int .u64 a0]) (by rw [chain_New.eq]; exact h)

def chain_New.N (o1 : Option Addr) (a1 : Int) (a0 : Int) (R : Value → World → Prop) (w : World) : Prop :=
 (a1 < 0 →
 R (.tuple #[.pointer none, .int .i64 1]) w) ∧
 ((0 : Int) ≤ a1 →
 (a1 ≥ 8 →
 R (.tuple #[.pointer none, .int .i64 1]) w) ∧
 (a1 < 8 →
 (o1 = none →
 R (.tuple #[.pointer none, .int .i64 23]) w) ∧
 (o1 ≠ none →
 ∀ (a2 : World) (q8 : Nat), Ext no w a2 → Blk a2 q8 82 [.pointer o1, .int .i64 a1, .int .u64 a0, .slice none 0 0, .int .u64 0] → w.heap.size ≤ q8 → q8 < a2.heap.size →
 R (.tuple #[.pointer (some (blk q8)), .int .i64 0]) a2)))

theorem chain_New.up (o1 : Option Addr) (a1 : Int) (a0 : Int) {R : Value → World → Prop} {w : World} (h : chain_New.N o1 a1 a0 R w) : chain_New.M o1 a1 a0 R w := by
  unfold chain_New.M
  unfold chain_New.N at h
  refine bif_of (fun c4 => ?_) (fun c4 => ?_)
  · have h := h.1 (of_decide_eq_true c4)
    exact h
  · have h := h.2 (Int.not_lt.1 (of_decide_eq_false c4))
    refine bif_of (fun c5 => ?_) (fun c5 => ?_)
    · have h := h.1 (of_decide_eq_true c5)
      exact h
    · have h := h.2 (Int.not_le.1 (of_decide_eq_false c5))
      refine bif_of (fun c6 => ?_) (fun c6 => ?_)
      · have h := h.1 (isNone_t c6)
        exact h
      · have h := h.2 (isNone_f c6)
        refine thenW_in fun a2 e7 => ?_
        have h := h a2 w.heap.size ((Ext.refl no w).x_alloc e7) (Blk.of_new e7) ((Ext.refl no w)).size (size_lt_alloc e7)
        exact h

theorem chain_New.go (o1 : Option Addr) (a1 : Int) (a0 : Int) {R : Value → World → Prop} {w : World} (h : chain_New.N o1 a1 a0 R w) : Calls Try.prog 10 #[.pointer o1, .int .i64 a1, .int .u64 a0] w fun e w' => ∃ v, e = .returned v ∧ R v w' := chain_New.ok o1 a1 a0 (chain_New.up o1 a1 a0 h)
/-- chain.own -/
def chain_own.M (aq : Int) (aw : Int) (az : Int) (bb : Int) (b3 : Int) (au : Int) (ay : Option Addr) (av : Nat) (ax : Nat) (b9 : Int) (R : Value → World → Prop) (w : World) : Prop :=
 thenW (w.alloc (.cells #[.int .i64 aq, .int .i64 aw, .int .u64 az, .int .i64 bb, .int .i64 b3, .int .i64 au, .slice ay av ax, .int .u64 b9] 47)) fun a8 =>
 thenW (a8.alloc (.cells #[.int .i64 0, .int .i64 0, .int .u64 0, .int .i64 0, .int .i64 0, .int .i64 0, .slice none 0 0, .int .u64 0] 47)) fun b5 =>
 ∃ (an : Option Addr) (ak : Nat) (al : Nat), b5.cell? ((blk w.heap.size).add 6) = some (.slice an ak al) ∧
 Calls Try.prog 68 #[.slice an ak al] b5 fun be b1 => ∃ (ah : Option Addr) (ab : Nat) (aj : Nat), be = .returned (.slice ah ab aj) ∧
 canStore b1 (((blk w.heap.size).add 6).add 0) ∧
 thenW (b1.setCell (((blk w.heap.size).add 6).add 0) (.slice ah ab aj)) fun b0 =>
 ∃ (a6 : Int) (ai : Int) (am : Int) (ao : Int) (ar : Int) (ae : Int) (ad : Option Addr) (a9 : Nat) (ac : Nat) (ap : Int), cellsAt b0 (blk w.heap.size) [.int .i64 a6, .int .i64 ai, .int .u64 am, .int .i64 ao, .int .i64 ar, .int .i64 ae, .slice ad a9 ac, .int .u64 ap] 0 ∧
 canStore b0 ((blk a8.heap.size).add 0) ∧
 thenW (b0.setCell ((blk a8.heap.size).add 0) (.int .i64 a6)) fun bd =>
 canStore bd ((blk a8.heap.size).add 1) ∧
 thenW (bd.setCell ((blk a8.heap.size).add 1) (.int .i64 ai)) fun b7 =>
 canStore b7 ((blk a8.heap.size).add 2) ∧
 thenW (b7.setCell ((blk a8.heap.size).add 2) (.int .u64 am)) fun b6 =>
 canStore b6 ((blk a8.heap.size).add 3) ∧
 thenW (b6.setCell ((blk a8.heap.size).add 3) (.int .i64 ao)) fun b2 =>
 canStore b2 ((blk a8.heap.size).add 4) ∧
 thenW (b2.setCell ((blk a8.heap.size).add 4) (.int .i64 ar)) fun b8 =>
 canStore b8 ((blk a8.heap.size).add 5) ∧
 thenW (b8.setCell ((blk a8.heap.size).add 5) (.int .i64 ae)) fun ba =>
 canStore ba ((blk a8.heap.size).add 6) ∧
 thenW (ba.setCell ((blk a8.heap.size).add 6) (.slice ad a9 ac)) fun bc =>
 canStore bc ((blk a8.heap.size).add 7) ∧
 thenW (bc.setCell ((blk a8.heap.size).add 7) (.int .u64 ap)) fun b4 =>
 ∃ (a0 : Int) (a2 : Int) (a7 : Int) (af : Int) (aa : Int) (a1 : Int) (a4 : Option Addr) (a5 : Nat) (a3 : Nat) (ag : Int), cellsAt b4 (blk a8.heap.size) [.int .i64 a0, .int .i64 a2, .int .u64 a7, .int .i64 af, .int .i64 aa, .int .i64 a1, .slice a4 a5 a3, .int .u64 ag] 0 ∧
 R (.agg #[.int .i64 a0, .int .i64 a2, .int .u64 a7, .int .i64 af, .int .i64 aa, .int .i64 a1, .slice a4 a5 a3, .int .u64 ag]) b4

theorem chain_own.eq (eWriter1 : Int) (eIndex2 : Int) (ePrev3 : Int) (eAtT4 : Int) (eAtW5 : Int) (eEpoch6 : Int) (eBody7a : Option Addr) (eBody7n : Nat) (eBody7c : Nat) (eSig8 : Int) (R : Value → World → Prop) (w : World) : mfunc Try.prog [] 50 [.agg #[.int .i64 eWriter1, .int .i64 eIndex2, .int .u64 ePrev3, .int .i64 eAtT4, .int .i64 eAtW5, .int .i64 eEpoch6, .slice eBody7a eBody7n eBody7c, .int .u64 eSig8]] R w = chain_own.M eWriter1 eIndex2 ePrev3 eAtT4 eAtW5 eEpoch6 eBody7a eBody7n eBody7c eSig8 R w := by kernel_rfl
theorem chain_own.ok (a0 : Int) (a2 : Int) (a6 : Int) (a7 : Int) (a9 : Int) (a3 : Int) (a1 : Option Addr) (a4 : Nat) (a5 : Nat) (a8 : Int) {R : Value → World → Prop} {w : World} (h : chain_own.M a0 a2 a6 a7 a9 a3 a1 a4 a5 a8 R w) : Calls Try.prog 50 #[.agg #[.int .i64 a0, .int .i64 a2, .int .u64 a6, .int .i64 a7, .int .i64 a9, .int .i64 a3, .slice a1 a4 a5, .int .u64 a8]] w fun e w' => ∃ v, e = .returned v ∧ R v w' :=
  mfunc_ok follows (H := []) (args := [.agg #[.int .i64 a0, .int .i64 a2, .int .u64 a6, .int .i64 a7, .int .i64 a9, .int .i64 a3, .slice a1 a4 a5, .int .u64 a8]]) (by rw [chain_own.eq]; exact h)

def chain_own.N (a3 : Int) (a7 : Int) (aa : Int) (ae : Int) (ab : Int) (a4 : Int) (a9 : Option Addr) (a5 : Nat) (a8 : Nat) (ad : Int) (R : Value → World → Prop) (w : World) : Prop :=
 ∀ (a6 : World) (ai : Nat) (ag : Nat), Ext no w a6 → Priv w a6 [ai, ag] →
 Calls Try.prog 68 #[.slice a9 a5 a8] a6 fun ah ac => ∃ (a0 : Option Addr) (a1 : Nat) (a2 : Nat), ah = .returned (.slice a0 a1 a2) ∧
 Keep [ai, ag] a6 ac ∧
 ∀ (af : World), Ext (fun b => b = ag ∨ b = ai) ac af →
 R (.agg #[.int .i64 a3, .int .i64 a7, .int .u64 aa, .int .i64 ae, .int .i64 ab, .int .i64 a4, .slice a0 a1 a2, .int .u64 ad]) af

theorem chain_own.up (a0 : Int) (a1 : Int) (a2 : Int) (a8 : Int) (a9 : Int) (a3 : Int) (ad : Option Addr) (ab : Nat) (ac : Nat) (aa : Int) {R : Value → World → Prop} {w : World} (h : chain_own.N a0 a1 a2 a8 a9 a3 ad ab ac aa R w) : chain_own.M a0 a1 a2 a8 a9 a3 ad ab ac aa R w := by
  unfold chain_own.M
  unfold chain_own.N at h
  refine thenW_in fun af e9 => ?_
  have ae := Blk.of_new e9
  have bj := ((Ext.refl no w)).size
  have bc := (Ext.refl no w).x_alloc e9
  refine thenW_in fun au b4 => ?_
  have a7 := Blk.of_new b4
  have bh := (bc).size
  have ai := Nat.ne_of_lt ae.lt
  have ae := ae.x_alloc b4
  have b7 := bc.x_alloc b4
  refine ⟨ad, ab, ac, ae.celli 6 rfl rfl, ?_⟩
  have h := h au (w.heap.size) (af.heap.size) b7 (Priv.cons bj ae.lt (Priv.cons bh a7.lt Priv.nil))
  refine h.mono fun bi ag h => ?_
  obtain ⟨a4, a5, a6, he, hk, h⟩ := h
  refine ⟨a4, a5, a6, he, ?_⟩
  have ae := hk.blk ae (by simp)
  have a7 := hk.blk a7 (by simp)
  have b2 : Ext (fun b => b = w.heap.size) ag ag := ((Ext.refl no ag)).none
  refine ⟨ae.cani 6 rfl rfl, thenW_in fun ah av => ?_⟩
  have b5 := b2.x_set (q := w.heap.size) (i := 6) rfl (.inl rfl) av
  have ae : Blk ah w.heap.size 47 [.int .i64 a0, .int .i64 a1, .int .u64 a2, .int .i64 a8, .int .i64 a9, .int .i64 a3, .slice a4 a5 a6, .int .u64 aa] := ae.seti 6 rfl av
  have a7 := a7.oth (q := w.heap.size) (i := 6) rfl (Ne.symm ai) av
  refine ⟨a0, a1, a2, a8, a9, a3, a4, a5, a6, aa, ⟨ae.celli 0 rfl rfl, ae.celli 1 rfl rfl, ae.celli 2 rfl rfl, ae.celli 3 rfl rfl, ae.celli 4 rfl rfl, ae.celli 5 rfl rfl, ae.celli 6 rfl rfl, ae.celli 7 rfl rfl, trivial⟩, ?_⟩
  have aq : Ext (fun b => b = af.heap.size ∨ b = w.heap.size) ag ah := (b5).mono fun _ h _ => .inr h
  refine ⟨a7.cani 0 rfl rfl, thenW_in fun b6 bf => ?_⟩
  have ax := aq.x_set (q := af.heap.size) (i := 0) rfl (.inl (.inl rfl)) bf
  have a7 : Blk b6 af.heap.size 47 [.int .i64 a0, .int .i64 0, .int .u64 0, .int .i64 0, .int .i64 0, .int .i64 0, .slice none 0 0, .int .u64 0] := a7.seti 0 rfl bf
  refine ⟨a7.cani 1 rfl rfl, thenW_in fun an bd => ?_⟩
  have b3 := ax.x_set (q := af.heap.size) (i := 1) rfl (.inl (.inl rfl)) bd
  have a7 : Blk an af.heap.size 47 [.int .i64 a0, .int .i64 a1, .int .u64 0, .int .i64 0, .int .i64 0, .int .i64 0, .slice none 0 0, .int .u64 0] := a7.seti 1 rfl bd
  refine ⟨a7.cani 2 rfl rfl, thenW_in fun am bg => ?_⟩
  have b0 := b3.x_set (q := af.heap.size) (i := 2) rfl (.inl (.inl rfl)) bg
  have a7 : Blk am af.heap.size 47 [.int .i64 a0, .int .i64 a1, .int .u64 a2, .int .i64 0, .int .i64 0, .int .i64 0, .slice none 0 0, .int .u64 0] := a7.seti 2 rfl bg
  refine ⟨a7.cani 3 rfl rfl, thenW_in fun ao b9 => ?_⟩
  have ap := b0.x_set (q := af.heap.size) (i := 3) rfl (.inl (.inl rfl)) b9
  have a7 : Blk ao af.heap.size 47 [.int .i64 a0, .int .i64 a1, .int .u64 a2, .int .i64 a8, .int .i64 0, .int .i64 0, .slice none 0 0, .int .u64 0] := a7.seti 3 rfl b9
  refine ⟨a7.cani 4 rfl rfl, thenW_in fun aw be => ?_⟩
  have ay := ap.x_set (q := af.heap.size) (i := 4) rfl (.inl (.inl rfl)) be
  have a7 : Blk aw af.heap.size 47 [.int .i64 a0, .int .i64 a1, .int .u64 a2, .int .i64 a8, .int .i64 a9, .int .i64 0, .slice none 0 0, .int .u64 0] := a7.seti 4 rfl be
  refine ⟨a7.cani 5 rfl rfl, thenW_in fun al bb => ?_⟩
  have az := ay.x_set (q := af.heap.size) (i := 5) rfl (.inl (.inl rfl)) bb
  have a7 : Blk al af.heap.size 47 [.int .i64 a0, .int .i64 a1, .int .u64 a2, .int .i64 a8, .int .i64 a9, .int .i64 a3, .slice none 0 0, .int .u64 0] := a7.seti 5 rfl bb
  refine ⟨a7.cani 6 rfl rfl, thenW_in fun b1 b8 => ?_⟩
  have ak := az.x_set (q := af.heap.size) (i := 6) rfl (.inl (.inl rfl)) b8
  have a7 : Blk b1 af.heap.size 47 [.int .i64 a0, .int .i64 a1, .int .u64 a2, .int .i64 a8, .int .i64 a9, .int .i64 a3, .slice a4 a5 a6, .int .u64 0] := a7.seti 6 rfl b8
  refine ⟨a7.cani 7 rfl rfl, thenW_in fun aj ba => ?_⟩
  have ar := ak.x_set (q := af.heap.size) (i := 7) rfl (.inl (.inl rfl)) ba
  have a7 : Blk aj af.heap.size 47 [.int .i64 a0, .int .i64 a1, .int .u64 a2, .int .i64 a8, .int .i64 a9, .int .i64 a3, .slice a4 a5 a6, .int .u64 aa] := a7.seti 7 rfl ba
  refine ⟨a0, a1, a2, a8, a9, a3, a4, a5, a6, aa, ⟨a7.celli 0 rfl rfl, a7.celli 1 rfl rfl, a7.celli 2 rfl rfl, a7.celli 3 rfl rfl, a7.celli 4 rfl rfl, a7.celli 5 rfl rfl, a7.celli 6 rfl rfl, a7.celli 7 rfl rfl, trivial⟩, ?_⟩
  have h := h aj ar
  exact h

theorem chain_own.go (a0 : Int) (a2 : Int) (a6 : Int) (a7 : Int) (a9 : Int) (a3 : Int) (a1 : Option Addr) (a4 : Nat) (a5 : Nat) (a8 : Int) {R : Value → World → Prop} {w : World} (h : chain_own.N a0 a2 a6 a7 a9 a3 a1 a4 a5 a8 R w) : Calls Try.prog 50 #[.agg #[.int .i64 a0, .int .i64 a2, .int .u64 a6, .int .i64 a7, .int .i64 a9, .int .i64 a3, .slice a1 a4 a5, .int .u64 a8]] w fun e w' => ∃ v, e = .returned v ∧ R v w' := chain_own.ok a0 a2 a6 a7 a9 a3 a1 a4 a5 a8 (chain_own.up a0 a2 a6 a7 a9 a3 a1 a4 a5 a8 h)
/-- (*chain.Log).Head -/
def chain_Log_Head.M (l1 : Option Addr) (R : Value → World → Prop) (w : World) : Prop :=
 thenW (w.alloc (.cells #[.int .i64 0, .int .i64 0, .int .u64 0] 65)) fun af =>
 bif Option.isNone l1 then (
 canStore af ((blk w.heap.size).add 0) ∧
 thenW (af.setCell ((blk w.heap.size).add 0) (.int .i64 0)) fun ag =>
 canStore ag ((blk w.heap.size).add 1) ∧
 thenW (ag.setCell ((blk w.heap.size).add 1) (.int .i64 0)) fun ai =>
 canStore ai ((blk w.heap.size).add 2) ∧
 thenW (ai.setCell ((blk w.heap.size).add 2) (.int .u64 0)) fun ah =>
 ∃ (a1 : Int) (a4 : Int) (a5 : Int), cellsAt ah (blk w.heap.size) [.int .i64 a1, .int .i64 a4, .int .u64 a5] 0 ∧
 R (.agg #[.int .i64 a1, .int .i64 a4, .int .u64 a5]) ah) else (
 thenW (af.drew) fun ac =>
 l1.elim False fun aj =>
 ∃ (a9 : Int), ac.cell? (aj.add 1) = some (.int .i64 a9) ∧
 l1.elim False fun al =>
 ∃ (ae : Option Addr) (a7 : Nat) (ad : Nat), ac.cell? (al.add 3) = some (.slice ae a7 ad) ∧
 l1.elim False fun ak =>
 ∃ (a6 : Int), ac.cell? (ak.add 4) = some (.int .u64 a6) ∧
 canStore ac ((blk w.heap.size).add 0) ∧
 thenW (ac.setCell ((blk w.heap.size).add 0) (.int .i64 a9)) fun aa =>
 canStore aa ((blk w.heap.size).add 1) ∧
 thenW (aa.setCell ((blk w.heap.size).add 1) (.int .i64 (a7 : Int))) fun ab =>
 canStore ab ((blk w.heap.size).add 2) ∧
 thenW (ab.setCell ((blk w.heap.size).add 2) (.int .u64 a6)) fun a8 =>
 ∃ (a0 : Int) (a3 : Int) (a2 : Int), cellsAt a8 (blk w.heap.size) [.int .i64 a0, .int .i64 a3, .int .u64 a2] 0 ∧
 R (.agg #[.int .i64 a0, .int .i64 a3, .int .u64 a2]) a8)

theorem chain_Log_Head.eq (l1 : Option Addr) (R : Value → World → Prop) (w : World) : mfunc Try.prog [] 25 [.pointer l1] R w = chain_Log_Head.M l1 R w := by kernel_rfl
theorem chain_Log_Head.ok (l1 : Option Addr) {R : Value → World → Prop} {w : World} (h : chain_Log_Head.M l1 R w) : Calls Try.prog 25 #[.pointer l1] w fun e w' => ∃ v, e = .returned v ∧ R v w' :=
  mfunc_ok follows (H := []) (args := [.pointer l1]) (by rw [chain_Log_Head.eq]; exact h)

def chain_Log_Head.N (l1 : Option Addr) (R : Value → World → Prop) (w : World) : Prop :=
 (l1 = none →
 ∀ (a6 : World), Ext no w a6 →
 R (.agg #[.int .i64 0, .int .i64 0, .int .u64 0]) a6) ∧
 (l1 ≠ none →
 ∃ a9 : Addr, l1 = some a9 ∧
 ∃ (a3 : Int), w.cell? (a9.add 1) = some (.int .i64 a3) ∧
 ∃ (a4 : Option Addr) (a1 : Nat) (a5 : Nat), w.cell? (a9.add 3) = some (.slice a4 a1 a5) ∧
 ∃ (a0 : Int), w.cell? (a9.add 4) = some (.int .u64 a0) ∧
 ∀ (a2 : World), Ext no w a2 →
 R (.agg #[.int .i64 a3, .int .i64 (a1 : Int), .int .u64 a0]) a2)

theorem chain_Log_Head.up (l1 : Option Addr) {R : Value → World → Prop} {w : World} (h : chain_Log_Head.N l1 R w) : chain_Log_Head.M l1 R w := by
  unfold chain_Log_Head.M
  unfold chain_Log_Head.N at h
  refine thenW_in fun au e2 => ?_
  have a0 := Blk.of_new e2
  have a2 := ((Ext.refl no w)).size
  have aj := (Ext.refl no w).x_alloc e2
  refine bif_of (fun c3 => ?_) (fun c3 => ?_)
  · have h := h.1 (isNone_t c3)
    refine ⟨a0.cani 0 rfl rfl, thenW_in fun aw e4 => ?_⟩
    have al := aj.x_set (q := w.heap.size) (i := 0) rfl (.inr a2) e4
    have a0 := a0.seti 0 rfl e4
    refine ⟨a0.cani 1 rfl rfl, thenW_in fun ar e5 => ?_⟩
    have ap := al.x_set (q := w.heap.size) (i := 1) rfl (.inr a2) e5
    have a0 := a0.seti 1 rfl e5
    refine ⟨a0.cani 2 rfl rfl, thenW_in fun am e6 => ?_⟩
    have ao := ap.x_set (q := w.heap.size) (i := 2) rfl (.inr a2) e6
    have a0 := a0.seti 2 rfl e6
    refine ⟨0, 0, 0, ⟨a0.celli 0 rfl rfl, a0.celli 1 rfl rfl, a0.celli 2 rfl rfl, trivial⟩, ?_⟩
    have h := h am ao
    exact h
  · have h := h.2 (isNone_f c3)
    refine thenW_in fun av e8 => ?_
    have a5 := aj.x_drew e8
    have a0 := a0.x_drew e8
    obtain ⟨a9, a6, h⟩ := h
    refine elim_some a6 ?_
    obtain ⟨a4, a8, h⟩ := h
    refine ⟨a4, (a5).cell a8 id, ?_⟩
    refine elim_some a6 ?_
    obtain ⟨ad, a3, aa, ag, h⟩ := h
    refine ⟨ad, a3, aa, (a5).cell ag id, ?_⟩
    refine elim_some a6 ?_
    obtain ⟨a1, ab, h⟩ := h
    refine ⟨a1, (a5).cell ab id, ?_⟩
    refine ⟨a0.cani 0 rfl rfl, thenW_in fun an ah => ?_⟩
    have af := a5.x_set (q := w.heap.size) (i := 0) rfl (.inr a2) ah
    have a0 := a0.seti 0 rfl ah
    refine ⟨a0.cani 1 rfl rfl, thenW_in fun aq ak => ?_⟩
    have ac := af.x_set (q := w.heap.size) (i := 1) rfl (.inr a2) ak
    have a0 := a0.seti 1 rfl ak
    refine ⟨a0.cani 2 rfl rfl, thenW_in fun a7 ai => ?_⟩
    have ae := ac.x_set (q := w.heap.size) (i := 2) rfl (.inr a2) ai
    have a0 := a0.seti 2 rfl ai
    refine ⟨a4, (a3 : Int), a1, ⟨a0.celli 0 rfl rfl, a0.celli 1 rfl rfl, a0.celli 2 rfl rfl, trivial⟩, ?_⟩
    have h := h a7 ae
    exact h

theorem chain_Log_Head.go (l1 : Option Addr) {R : Value → World → Prop} {w : World} (h : chain_Log_Head.N l1 R w) : Calls Try.prog 25 #[.pointer l1] w fun e w' => ∃ v, e = .returned v ∧ R v w' := chain_Log_Head.ok l1 (chain_Log_Head.up l1 h)
theorem chain_Log_Head.run (l1 : Option Addr) {V : Value} {Q : World → Prop} {w : World} (h : chain_Log_Head.N l1 (fun v w' => v = V ∧ Q w') w) : Calls Try.prog 25 #[.pointer l1] w (Ret V Q) := (chain_Log_Head.go l1 h).mono fun e w' ⟨v, he, hv, hq⟩ => ⟨by rw [he, hv], hq⟩

/-- (*chain.Log).right -/
def chain_Log_right.M (l1 : Option Addr) (an : Int) (au : Int) (ay : Int) (b4 : Int) (b1 : Int) (ax : Int) (ar : Option Addr) (aw : Nat) (aq : Nat) (b0 : Int) (R : Value → World → Prop) (w : World) : Prop :=
 thenW (w.alloc (.cells #[.int .i64 an, .int .i64 au, .int .u64 ay, .int .i64 b4, .int .i64 b1, .int .i64 ax, .slice ar aw aq, .int .u64 b0] 47)) fun az =>
 ∃ (a1 : Int) (a5 : Int) (ae : Int) (ai : Int) (aj : Int) (a7 : Int) (ad : Option Addr) (ab : Nat) (a8 : Nat) (al : Int), cellsAt az (blk w.heap.size) [.int .i64 a1, .int .i64 a5, .int .u64 ae, .int .i64 ai, .int .i64 aj, .int .i64 a7, .slice ad ab a8, .int .u64 al] 0 ∧
 Calls Try.prog 34 #[.agg #[.int .i64 a1, .int .i64 a5, .int .u64 ae, .int .i64 ai, .int .i64 aj, .int .i64 a7, .slice ad ab a8, .int .u64 al]] az fun b7 b2 => ∃ (af : Bool), b7 = .returned (.bool af) ∧
 bif !af then (
 R (.int .i64 1) b2) else (
 thenW (b2.drew) fun ap =>
 ∃ (a3 : Int), ap.cell? ((blk w.heap.size).add 0) = some (.int .i64 a3) ∧
 l1.elim False fun ba =>
 ∃ (b3 : Int), ap.cell? (ba.add 1) = some (.int .i64 b3) ∧
 bif a3 != b3 then (
 R (.int .i64 20) ap) else (
 thenW (ap.drew) fun av =>
 l1.elim False fun b9 =>
 ∃ (b8 : Option Addr), av.cell? (b9.add 0) = some (.pointer b8) ∧
 l1.elim False fun bb =>
 ∃ (a0 : Int), av.cell? (bb.add 2) = some (.int .u64 a0) ∧
 ∃ (a2 : Int) (a6 : Int) (ag : Int) (ao : Int) (ak : Int) (aa : Int) (a9 : Option Addr) (ac : Nat) (a4 : Nat) (am : Int), cellsAt av (blk w.heap.size) [.int .i64 a2, .int .i64 a6, .int .u64 ag, .int .i64 ao, .int .i64 ak, .int .i64 aa, .slice a9 ac a4, .int .u64 am] 0 ∧
 Calls Try.prog 61 #[.pointer b8, .int .u64 a0, .agg #[.int .i64 a2, .int .i64 a6, .int .u64 ag, .int .i64 ao, .int .i64 ak, .int .i64 aa, .slice a9 ac a4, .int .u64 am]] av fun b6 b5 => ∃ (ah : Bool), b6 = .returned (.bool ah) ∧
 bif !ah then (
 R (.int .i64 6) b5) else (
 R (.int .i64 0) b5)))

theorem chain_Log_right.eq (l1 : Option Addr) (eWriter2 : Int) (eIndex3 : Int) (ePrev4 : Int) (eAtT5 : Int) (eAtW6 : Int) (eEpoch7 : Int) (eBody8a : Option Addr) (eBody8n : Nat) (eBody8c : Nat) (eSig9 : Int) (R : Value → World → Prop) (w : World) : mfunc Try.prog [] 42 [.pointer l1, .agg #[.int .i64 eWriter2, .int .i64 eIndex3, .int .u64 ePrev4, .int .i64 eAtT5, .int .i64 eAtW6, .int .i64 eEpoch7, .slice eBody8a eBody8n eBody8c, .int .u64 eSig9]] R w = chain_Log_right.M l1 eWriter2 eIndex3 ePrev4 eAtT5 eAtW6 eEpoch7 eBody8a eBody8n eBody8c eSig9 R w := by kernel_rfl
theorem chain_Log_right.ok (l1 : Option Addr) (a0 : Int) (a3 : Int) (a6 : Int) (a8 : Int) (a9 : Int) (a5 : Int) (a2 : Option Addr) (a1 : Nat) (a4 : Nat) (a7 : Int) {R : Value → World → Prop} {w : World} (h : chain_Log_right.M l1 a0 a3 a6 a8 a9 a5 a2 a1 a4 a7 R w) : Calls Try.prog 42 #[.pointer l1, .agg #[.int .i64 a0, .int .i64 a3, .int .u64 a6, .int .i64 a8, .int .i64 a9, .int .i64 a5, .slice a2 a1 a4, .int .u64 a7]] w fun e w' => ∃ v, e = .returned v ∧ R v w' :=
  mfunc_ok follows (H := []) (args := [.pointer l1, .agg #[.int .i64 a0, .int .i64 a3, .int .u64 a6, .int .i64 a8, .int .i64 a9, .int .i64 a5, .slice a2 a1 a4, .int .u64 a7]]) (by rw [chain_Log_right.eq]; exact h)

def chain_Log_right.N (l1 : Option Addr) (a0 : Int) (a5 : Int) (a8 : Int) (ab : Int) (aa : Int) (a7 : Int) (a4 : Option Addr) (a6 : Nat) (a2 : Nat) (a9 : Int) (R : Value → World → Prop) (w : World) : Prop :=
 ((entry_Right.F a0 a5 a8 ab aa a7 a4 a6 a2 a9) = false →
 ∀ (af : World), Ext no w af →
 R (.int .i64 1) af) ∧
 ((entry_Right.F a0 a5 a8 ab aa a7 a4 a6 a2 a9) = true →
 ∃ ah : Addr, l1 = some ah ∧
 ∃ (ac : Int), w.cell? (ah.add 1) = some (.int .i64 ac) ∧
 (a0 ≠ ac →
 ∀ (ad : World), Ext no w ad →
 R (.int .i64 20) ad) ∧
 (a0 = ac →
 ∃ (aj : Option Addr), w.cell? (ah.add 0) = some (.pointer aj) ∧
 ∃ (a1 : Int), w.cell? (ah.add 2) = some (.int .u64 a1) ∧
 ∀ (ae : World), Ext no w ae →
 Calls Try.prog 61 #[.pointer aj, .int .u64 a1, .agg #[.int .i64 a0, .int .i64 a5, .int .u64 a8, .int .i64 ab, .int .i64 aa, .int .i64 a7, .slice a4 a6 a2, .int .u64 a9]] ae fun ai ag => ∃ (a3 : Bool), ai = .returned (.bool a3) ∧
 (a3 = false →
 R (.int .i64 6) ag) ∧
 (a3 = true →
 R (.int .i64 0) ag)))

theorem chain_Log_right.up (l1 : Option Addr) (a0 : Int) (a3 : Int) (a6 : Int) (aa : Int) (a9 : Int) (a5 : Int) (a2 : Option Addr) (a4 : Nat) (a1 : Nat) (a8 : Int) {R : Value → World → Prop} {w : World} (h : chain_Log_right.N l1 a0 a3 a6 aa a9 a5 a2 a4 a1 a8 R w) : chain_Log_right.M l1 a0 a3 a6 aa a9 a5 a2 a4 a1 a8 R w := by
  unfold chain_Log_right.M
  unfold chain_Log_right.N at h
  refine thenW_in fun aw av => ?_
  have a7 := Blk.of_new av
  have b1 := ((Ext.refl no w)).size
  have aq := (Ext.refl no w).x_alloc av
  refine ⟨a0, a3, a6, aa, a9, a5, a2, a4, a1, a8, ⟨a7.celli 0 rfl rfl, a7.celli 1 rfl rfl, a7.celli 2 rfl rfl, a7.celli 3 rfl rfl, a7.celli 4 rfl rfl, a7.celli 5 rfl rfl, a7.celli 6 rfl rfl, a7.celli 7 rfl rfl, trivial⟩, ?_⟩
  refine (entry_Right.pure a0 a3 a6 aa a9 a5 a2 a4 a1 a8).mono fun ee ww11 ⟨he, hxx⟩ => ⟨(entry_Right.F a0 a3 a6 aa a9 a5 a2 a4 a1 a8), he, ?_⟩
  have ag := aq.trans hxx
  have a7 := a7.ext hxx id
  refine bif_of (fun al => ?_) (fun al => ?_)
  · have h := h.1 (not_t al)
    have h := h ww11 ag
    exact h
  · have h := h.2 (not_f al)
    refine thenW_in fun ai au => ?_
    have af := ag.x_drew au
    have a7 := a7.x_drew au
    refine ⟨a0, a7.celli 0 rfl rfl, ?_⟩
    obtain ⟨b0, ae, h⟩ := h
    refine elim_some ae ?_
    obtain ⟨ao, am, h⟩ := h
    refine ⟨ao, (af).cell am id, ?_⟩
    refine bif_of (fun ap => ?_) (fun ap => ?_)
    · have h := h.1 (bne_t ap)
      have h := h ai af
      exact h
    · have h := h.2 (bne_f ap)
      refine thenW_in fun ak ar => ?_
      have ad := af.x_drew ar
      have a7 := a7.x_drew ar
      refine elim_some ae ?_
      obtain ⟨az, ah, h⟩ := h
      refine ⟨az, (ad).cell ah id, ?_⟩
      refine elim_some ae ?_
      obtain ⟨ab, aj, h⟩ := h
      refine ⟨ab, (ad).cell aj id, ?_⟩
      refine ⟨a0, a3, a6, aa, a9, a5, a2, a4, a1, a8, ⟨a7.celli 0 rfl rfl, a7.celli 1 rfl rfl, a7.celli 2 rfl rfl, a7.celli 3 rfl rfl, a7.celli 4 rfl rfl, a7.celli 5 rfl rfl, a7.celli 6 rfl rfl, a7.celli 7 rfl rfl, trivial⟩, ?_⟩
      have h := h ak ad
      refine h.mono fun ax ay h => ?_
      obtain ⟨ac, he, h⟩ := h
      refine ⟨ac, he, ?_⟩
      refine bif_of (fun an => ?_) (fun an => ?_)
      · have h := h.1 (not_t an)
        exact h
      · have h := h.2 (not_f an)
        exact h

theorem chain_Log_right.go (l1 : Option Addr) (a0 : Int) (a3 : Int) (a6 : Int) (a8 : Int) (a9 : Int) (a5 : Int) (a2 : Option Addr) (a1 : Nat) (a4 : Nat) (a7 : Int) {R : Value → World → Prop} {w : World} (h : chain_Log_right.N l1 a0 a3 a6 a8 a9 a5 a2 a1 a4 a7 R w) : Calls Try.prog 42 #[.pointer l1, .agg #[.int .i64 a0, .int .i64 a3, .int .u64 a6, .int .i64 a8, .int .i64 a9, .int .i64 a5, .slice a2 a1 a4, .int .u64 a7]] w fun e w' => ∃ v, e = .returned v ∧ R v w' := chain_Log_right.ok l1 a0 a3 a6 a8 a9 a5 a2 a1 a4 a7 (chain_Log_right.up l1 a0 a3 a6 a8 a9 a5 a2 a1 a4 a7 h)
theorem chain_Log_right.run (l1 : Option Addr) (a0 : Int) (a3 : Int) (a6 : Int) (a8 : Int) (a9 : Int) (a5 : Int) (a2 : Option Addr) (a1 : Nat) (a4 : Nat) (a7 : Int) {V : Value} {Q : World → Prop} {w : World} (h : chain_Log_right.N l1 a0 a3 a6 a8 a9 a5 a2 a1 a4 a7 (fun v w' => v = V ∧ Q w') w) : Calls Try.prog 42 #[.pointer l1, .agg #[.int .i64 a0, .int .i64 a3, .int .u64 a6, .int .i64 a8, .int .i64 a9, .int .i64 a5, .slice a2 a1 a4, .int .u64 a7]] w (Ret V Q) := (chain_Log_right.go l1 a0 a3 a6 a8 a9 a5 a2 a1 a4 a7 h).mono fun e w' ⟨v, he, hv, hq⟩ => ⟨by rw [he, hv], hq⟩

/-- (*chain.Log).place -/
def chain_Log_place.M (l1 : Option Addr) (aq : Int) (av : Int) (az : Int) (b4 : Int) (b3 : Int) (ax : Int) (au : Option Addr) (aw : Nat) (ar : Nat) (b2 : Int) (R : Value → World → Prop) (w : World) : Prop :=
 thenW (w.alloc (.cells #[.int .i64 aq, .int .i64 av, .int .u64 az, .int .i64 b4, .int .i64 b3, .int .i64 ax, .slice au aw ar, .int .u64 b2] 47)) fun ah =>
 l1.elim False fun bc =>
 ∃ (b6 : Option Addr) (ay : Nat) (b8 : Nat), ah.cell? (bc.add 3) = some (.slice b6 ay b8) ∧
 ∃ (ad : Int), ah.cell? ((blk w.heap.size).add 1) = some (.int .i64 ad) ∧
 bif decide (ad > (ay : Int)) then (
 R (.int .i64 7) ah) else (
 ∃ (ae : Int), ah.cell? ((blk w.heap.size).add 1) = some (.int .i64 ae) ∧
 bif ae == (ay : Int) then (
 R (.int .i64 0) ah) else (
 thenW (ah.drew) fun an =>
 l1.elim False fun bb =>
 ∃ (b5 : Option Addr) (b0 : Nat) (b9 : Nat), an.cell? (bb.add 3) = some (.slice b5 b0 b9) ∧
 ∃ (a0 : Int), an.cell? ((blk w.heap.size).add 1) = some (.int .i64 a0) ∧
 b5.elim False fun ba =>
 0 ≤ (a0 : Int) ∧ (a0 : Int) < (b0 : Int) ∧
 ∃ (a1 : Int) (a5 : Int) (af : Int) (ak : Int) (ap : Int) (a9 : Int) (a8 : Option Addr) (aa : Nat) (ab : Nat) (al : Int), cellsAt an (ba.add (Int.toNat a0 * 8)) [.int .i64 a1, .int .i64 a5, .int .u64 af, .int .i64 ak, .int .i64 ap, .int .i64 a9, .slice a8 aa ab, .int .u64 al] 0 ∧
 ∃ (a2 : Int) (a6 : Int) (ag : Int) (ai : Int) (ao : Int) (a3 : Int) (a7 : Option Addr) (ac : Nat) (a4 : Nat) (aj : Int), cellsAt an (blk w.heap.size) [.int .i64 a2, .int .i64 a6, .int .u64 ag, .int .i64 ai, .int .i64 ao, .int .i64 a3, .slice a7 ac a4, .int .u64 aj] 0 ∧
 Calls Try.prog 62 #[.agg #[.int .i64 a1, .int .i64 a5, .int .u64 af, .int .i64 ak, .int .i64 ap, .int .i64 a9, .slice a8 aa ab, .int .u64 al], .agg #[.int .i64 a2, .int .i64 a6, .int .u64 ag, .int .i64 ai, .int .i64 ao, .int .i64 a3, .slice a7 ac a4, .int .u64 aj]] an fun b7 b1 => ∃ (am : Bool), b7 = .returned (.bool am) ∧
 bif am then (
 R (.int .i64 8) b1) else (
 R (.int .i64 9) b1)))

theorem chain_Log_place.eq (l1 : Option Addr) (eWriter2 : Int) (eIndex3 : Int) (ePrev4 : Int) (eAtT5 : Int) (eAtW6 : Int) (eEpoch7 : Int) (eBody8a : Option Addr) (eBody8n : Nat) (eBody8c : Nat) (eSig9 : Int) (R : Value → World → Prop) (w : World) : mfunc Try.prog [] 43 [.pointer l1, .agg #[.int .i64 eWriter2, .int .i64 eIndex3, .int .u64 ePrev4, .int .i64 eAtT5, .int .i64 eAtW6, .int .i64 eEpoch7, .slice eBody8a eBody8n eBody8c, .int .u64 eSig9]] R w = chain_Log_place.M l1 eWriter2 eIndex3 ePrev4 eAtT5 eAtW6 eEpoch7 eBody8a eBody8n eBody8c eSig9 R w := by kernel_rfl
theorem chain_Log_place.ok (l1 : Option Addr) (a0 : Int) (a3 : Int) (a6 : Int) (a8 : Int) (a9 : Int) (a5 : Int) (a2 : Option Addr) (a1 : Nat) (a4 : Nat) (a7 : Int) {R : Value → World → Prop} {w : World} (h : chain_Log_place.M l1 a0 a3 a6 a8 a9 a5 a2 a1 a4 a7 R w) : Calls Try.prog 43 #[.pointer l1, .agg #[.int .i64 a0, .int .i64 a3, .int .u64 a6, .int .i64 a8, .int .i64 a9, .int .i64 a5, .slice a2 a1 a4, .int .u64 a7]] w fun e w' => ∃ v, e = .returned v ∧ R v w' :=
  mfunc_ok follows (H := []) (args := [.pointer l1, .agg #[.int .i64 a0, .int .i64 a3, .int .u64 a6, .int .i64 a8, .int .i64 a9, .int .i64 a5, .slice a2 a1 a4, .int .u64 a7]]) (by rw [chain_Log_place.eq]; exact h)

def chain_Log_place.N (l1 : Option Addr) (ae : Int) (a0 : Int) (aj : Int) (ap : Int) (am : Int) (ai : Int) (ag : Option Addr) (ah : Nat) (af : Nat) (al : Int) (R : Value → World → Prop) (w : World) : Prop :=
 ∃ ax : Addr, l1 = some ax ∧
 ∃ (aw : Option Addr) (a9 : Nat) (au : Nat), w.cell? (ax.add 3) = some (.slice aw a9 au) ∧
 (a0 > (a9 : Int) →
 ∀ (ac : World), Ext no w ac →
 R (.int .i64 7) ac) ∧
 (a0 ≤ (a9 : Int) →
 (a0 = (a9 : Int) →
 ∀ (ac : World), Ext no w ac →
 R (.int .i64 0) ac) ∧
 (a0 ≠ (a9 : Int) →
 ∃ (ao : Option Addr) (aq : Nat) (ar : Nat), w.cell? (ax.add 3) = some (.slice ao aq ar) ∧
 ∃ ay : Addr, ao = some ay ∧
 0 ≤ (a0 : Int) ∧ (a0 : Int) < (aq : Int) ∧
 ∃ (a1 : Int) (a4 : Int) (a8 : Int) (aa : Int) (ab : Int) (a2 : Int) (a6 : Option Addr) (a3 : Nat) (a5 : Nat) (ad : Int), cellsAt w (ay.add (Int.toNat a0 * 8)) [.int .i64 a1, .int .i64 a4, .int .u64 a8, .int .i64 aa, .int .i64 ab, .int .i64 a2, .slice a6 a3 a5, .int .u64 ad] 0 ∧
 ∀ (ak : World), Ext no w ak →
 Calls Try.prog 62 #[.agg #[.int .i64 a1, .int .i64 a4, .int .u64 a8, .int .i64 aa, .int .i64 ab, .int .i64 a2, .slice a6 a3 a5, .int .u64 ad], .agg #[.int .i64 ae, .int .i64 a0, .int .u64 aj, .int .i64 ap, .int .i64 am, .int .i64 ai, .slice ag ah af, .int .u64 al]] ak fun av an => ∃ (a7 : Bool), av = .returned (.bool a7) ∧
 (a7 = true →
 R (.int .i64 8) an) ∧
 (a7 = false →
 R (.int .i64 9) an)))

theorem chain_Log_place.up (l1 : Option Addr) (a1 : Int) (a0 : Int) (a6 : Int) (af : Int) (ad : Int) (a5 : Int) (a3 : Option Addr) (a4 : Nat) (a2 : Nat) (ab : Int) {R : Value → World → Prop} {w : World} (h : chain_Log_place.N l1 a1 a0 a6 af ad a5 a3 a4 a2 ab R w) : chain_Log_place.M l1 a1 a0 a6 af ad a5 a3 a4 a2 ab R w := by
  unfold chain_Log_place.M
  unfold chain_Log_place.N at h
  refine thenW_in fun ap b7 => ?_
  have a8 := Blk.of_new b7
  have bd := ((Ext.refl no w)).size
  have ai := (Ext.refl no w).x_alloc b7
  obtain ⟨be, ao, h⟩ := h
  refine elim_some ao ?_
  obtain ⟨b1, aq, ax, b4, h⟩ := h
  refine ⟨b1, aq, ax, (ai).cell b4 id, ?_⟩
  refine ⟨a0, a8.celli 1 rfl rfl, ?_⟩
  refine bif_of (fun az => ?_) (fun az => ?_)
  · have h := h.1 (of_decide_eq_true az)
    have h := h ap ai
    exact h
  · have h := h.2 (Int.not_lt.1 (of_decide_eq_false az))
    refine ⟨a0, a8.celli 1 rfl rfl, ?_⟩
    refine bif_of (fun b2 => ?_) (fun b2 => ?_)
    · have h := h.1 (beq_t b2)
      have h := h ap ai
      exact h
    · have h := h.2 (beq_f b2)
      refine thenW_in fun au b6 => ?_
      have an := ai.x_drew b6
      have a8 := a8.x_drew b6
      refine elim_some ao ?_
      obtain ⟨b0, b5, ar, aw, h⟩ := h
      refine ⟨b0, b5, ar, (an).cell aw id, ?_⟩
      refine ⟨a0, a8.celli 1 rfl rfl, ?_⟩
      obtain ⟨bc, av, h⟩ := h
      refine elim_some av ?_
      obtain ⟨b8, b9, h⟩ := h
      refine ⟨b8, b9, ?_⟩
      obtain ⟨a7, ac, ah, aj, ak, a9, ag, aa, ae, am, ay, h⟩ := h
      refine ⟨a7, ac, ah, aj, ak, a9, ag, aa, ae, am, cellsAt_no (an) ay, ?_⟩
      refine ⟨a1, a0, a6, af, ad, a5, a3, a4, a2, ab, ⟨a8.celli 0 rfl rfl, a8.celli 1 rfl rfl, a8.celli 2 rfl rfl, a8.celli 3 rfl rfl, a8.celli 4 rfl rfl, a8.celli 5 rfl rfl, a8.celli 6 rfl rfl, a8.celli 7 rfl rfl, trivial⟩, ?_⟩
      have h := h au an
      refine h.mono fun bb ba h => ?_
      obtain ⟨al, he, h⟩ := h
      refine ⟨al, he, ?_⟩
      refine bif_of (fun b3 => ?_) (fun b3 => ?_)
      · have h := h.1 b3
        exact h
      · have h := h.2 b3
        exact h

theorem chain_Log_place.go (l1 : Option Addr) (a0 : Int) (a3 : Int) (a6 : Int) (a8 : Int) (a9 : Int) (a5 : Int) (a2 : Option Addr) (a1 : Nat) (a4 : Nat) (a7 : Int) {R : Value → World → Prop} {w : World} (h : chain_Log_place.N l1 a0 a3 a6 a8 a9 a5 a2 a1 a4 a7 R w) : Calls Try.prog 43 #[.pointer l1, .agg #[.int .i64 a0, .int .i64 a3, .int .u64 a6, .int .i64 a8, .int .i64 a9, .int .i64 a5, .slice a2 a1 a4, .int .u64 a7]] w fun e w' => ∃ v, e = .returned v ∧ R v w' := chain_Log_place.ok l1 a0 a3 a6 a8 a9 a5 a2 a1 a4 a7 (chain_Log_place.up l1 a0 a3 a6 a8 a9 a5 a2 a1 a4 a7 h)
theorem chain_Log_place.run (l1 : Option Addr) (a0 : Int) (a3 : Int) (a6 : Int) (a8 : Int) (a9 : Int) (a5 : Int) (a2 : Option Addr) (a1 : Nat) (a4 : Nat) (a7 : Int) {V : Value} {Q : World → Prop} {w : World} (h : chain_Log_place.N l1 a0 a3 a6 a8 a9 a5 a2 a1 a4 a7 (fun v w' => v = V ∧ Q w') w) : Calls Try.prog 43 #[.pointer l1, .agg #[.int .i64 a0, .int .i64 a3, .int .u64 a6, .int .i64 a8, .int .i64 a9, .int .i64 a5, .slice a2 a1 a4, .int .u64 a7]] w (Ret V Q) := (chain_Log_place.go l1 a0 a3 a6 a8 a9 a5 a2 a1 a4 a7 h).mono fun e w' ⟨v, he, hv, hq⟩ => ⟨by rw [he, hv], hq⟩

/-- (*chain.Log).behind -/
def chain_Log_behind.M (l1 : Option Addr) (a3 : Int) (a7 : Int) (ag : Int) (am : Int) (al : Int) (aa : Int) (a6 : Option Addr) (a9 : Nat) (a5 : Nat) (ak : Int) (R : Value → World → Prop) (w : World) : Prop :=
 thenW (w.alloc (.cells #[.int .i64 a3, .int .i64 a7, .int .u64 ag, .int .i64 am, .int .i64 al, .int .i64 aa, .slice a6 a9 a5, .int .u64 ak] 47)) fun aj =>
 l1.elim False fun ax =>
 ∃ (ao : Option Addr) (a0 : Nat) (ap : Nat), aj.cell? (ax.add 3) = some (.slice ao a0 ap) ∧
 thenW (aj.drew) fun a8 =>
 ∃ (a1 : Int), a8.cell? ((blk w.heap.size).add 2) = some (.int .u64 a1) ∧
 l1.elim False fun au =>
 ∃ (ad : Int), a8.cell? (au.add 4) = some (.int .u64 ad) ∧
 bif a1 != ad then (
 R (.int .i64 5) a8) else (
 thenW (a8.drew) fun a4 =>
 bif decide ((a0 : Int) > 0) then (
 l1.elim False fun aw =>
 ∃ (an : Option Addr) (ai : Nat) (aq : Nat), a4.cell? (aw.add 3) = some (.slice an ai aq) ∧
 an.elim False fun av =>
 0 ≤ ((IntKind.i64.wrap ((a0 : Int) - 1)) : Int) ∧ ((IntKind.i64.wrap ((a0 : Int) - 1)) : Int) < (ai : Int) ∧
 ∃ (af : Int) (ae : Int), cellsAt a4 ((av.add (Int.toNat (IntKind.i64.wrap ((a0 : Int) - 1)) * 8)).add 3) [.int .i64 af, .int .i64 ae] 0 ∧
 ∃ (ab : Int) (ac : Int), cellsAt a4 ((blk w.heap.size).add 3) [.int .i64 ab, .int .i64 ac] 0 ∧
 Calls Try.prog 53 #[.agg #[.int .i64 af, .int .i64 ae], .agg #[.int .i64 ab, .int .i64 ac]] a4 fun ar ah => ∃ (a2 : Bool), ar = .returned (.bool a2) ∧
 bif !a2 then (
 R (.int .i64 2) ah) else (
 R (.int .i64 0) ah)) else (
 R (.int .i64 0) a4))

theorem chain_Log_behind.eq (l1 : Option Addr) (eWriter2 : Int) (eIndex3 : Int) (ePrev4 : Int) (eAtT5 : Int) (eAtW6 : Int) (eEpoch7 : Int) (eBody8a : Option Addr) (eBody8n : Nat) (eBody8c : Nat) (eSig9 : Int) (R : Value → World → Prop) (w : World) : mfunc Try.prog [] 35 [.pointer l1, .agg #[.int .i64 eWriter2, .int .i64 eIndex3, .int .u64 ePrev4, .int .i64 eAtT5, .int .i64 eAtW6, .int .i64 eEpoch7, .slice eBody8a eBody8n eBody8c, .int .u64 eSig9]] R w = chain_Log_behind.M l1 eWriter2 eIndex3 ePrev4 eAtT5 eAtW6 eEpoch7 eBody8a eBody8n eBody8c eSig9 R w := by kernel_rfl
theorem chain_Log_behind.ok (l1 : Option Addr) (a0 : Int) (a3 : Int) (a6 : Int) (a8 : Int) (a9 : Int) (a5 : Int) (a2 : Option Addr) (a1 : Nat) (a4 : Nat) (a7 : Int) {R : Value → World → Prop} {w : World} (h : chain_Log_behind.M l1 a0 a3 a6 a8 a9 a5 a2 a1 a4 a7 R w) : Calls Try.prog 35 #[.pointer l1, .agg #[.int .i64 a0, .int .i64 a3, .int .u64 a6, .int .i64 a8, .int .i64 a9, .int .i64 a5, .slice a2 a1 a4, .int .u64 a7]] w fun e w' => ∃ v, e = .returned v ∧ R v w' :=
  mfunc_ok follows (H := []) (args := [.pointer l1, .agg #[.int .i64 a0, .int .i64 a3, .int .u64 a6, .int .i64 a8, .int .i64 a9, .int .i64 a5, .slice a2 a1 a4, .int .u64 a7]]) (by rw [chain_Log_behind.eq]; exact h)

def chain_Log_behind.N (l1 : Option Addr) (ac : Int) (ag : Int) (a3 : Int) (aa : Int) (a8 : Int) (ai : Int) (af : Option Addr) (ah : Nat) (ae : Nat) (ap : Int) (R : Value → World → Prop) (w : World) : Prop :=
 ∃ aj : Addr, l1 = some aj ∧
 ∃ (an : Option Addr) (a0 : Nat) (am : Nat), w.cell? (aj.add 3) = some (.slice an a0 am) ∧
 ∃ (a4 : Int), w.cell? (aj.add 4) = some (.int .u64 a4) ∧
 (a3 ≠ a4 →
 ∀ (a7 : World), Ext no w a7 →
 R (.int .i64 5) a7) ∧
 (a3 = a4 →
 ((a0 : Int) > 0 →
 ∃ (a9 : Option Addr) (ab : Nat) (al : Nat), w.cell? (aj.add 3) = some (.slice a9 ab al) ∧
 (-9223372036854775808 : Int) ≤ ((a0 : Int) - 1) ∧ ((a0 : Int) - 1) < 9223372036854775808 ∧
 ∃ ao : Addr, a9 = some ao ∧
 0 ≤ (((a0 : Int) - 1) : Int) ∧ (((a0 : Int) - 1) : Int) < (ab : Int) ∧
 ∃ (a5 : Int) (a6 : Int), cellsAt w ((ao.add (Int.toNat ((a0 : Int) - 1) * 8)).add 3) [.int .i64 a5, .int .i64 a6] 0 ∧
 ∀ (a2 : World), Ext no w a2 →
 Calls Try.prog 53 #[.agg #[.int .i64 a5, .int .i64 a6], .agg #[.int .i64 aa, .int .i64 a8]] a2 fun ak ad => ∃ (a1 : Bool), ak = .returned (.bool a1) ∧
 (a1 = false →
 R (.int .i64 2) ad) ∧
 (a1 = true →
 R (.int .i64 0) ad)) ∧
 ((a0 : Int) ≤ 0 →
 ∀ (a2 : World), Ext no w a2 →
 R (.int .i64 0) a2))

theorem chain_Log_behind.up (l1 : Option Addr) (a0 : Int) (a4 : Int) (a1 : Int) (a8 : Int) (a7 : Int) (a6 : Int) (a3 : Option Addr) (a5 : Nat) (a2 : Nat) (aa : Int) {R : Value → World → Prop} {w : World} (h : chain_Log_behind.N l1 a0 a4 a1 a8 a7 a6 a3 a5 a2 aa R w) : chain_Log_behind.M l1 a0 a4 a1 a8 a7 a6 a3 a5 a2 aa R w := by
  unfold chain_Log_behind.M
  unfold chain_Log_behind.N at h
  refine thenW_in fun b9 b2 => ?_
  have ad := Blk.of_new b2
  have bc := ((Ext.refl no w)).size
  have aj := (Ext.refl no w).x_alloc b2
  obtain ⟨bd, ab, h⟩ := h
  refine elim_some ab ?_
  obtain ⟨aw, ak, aq, az, h⟩ := h
  refine ⟨aw, ak, aq, (aj).cell az id, ?_⟩
  refine thenW_in fun am b1 => ?_
  have ae := aj.x_drew b1
  have ad := ad.x_drew b1
  refine ⟨a1, ad.celli 2 rfl rfl, ?_⟩
  refine elim_some ab ?_
  obtain ⟨ah, av, h⟩ := h
  refine ⟨ah, (ae).cell av id, ?_⟩
  refine bif_of (fun ap => ?_) (fun ap => ?_)
  · have h := h.1 (bne_t ap)
    have h := h am ae
    exact h
  · have h := h.2 (bne_f ap)
    refine thenW_in fun ag b3 => ?_
    have a9 := ae.x_drew b3
    have ad := ad.x_drew b3
    refine bif_of (fun an => ?_) (fun an => ?_)
    · have h := h.1 (of_decide_eq_true an)
      refine elim_some ab ?_
      obtain ⟨au, ax, ao, al, h⟩ := h
      refine ⟨au, ax, ao, (a9).cell al id, ?_⟩
      obtain ⟨ba, b8, h⟩ := h
      try rw [w64 ba b8]
      obtain ⟨bb, b0, h⟩ := h
      refine elim_some b0 ?_
      obtain ⟨b4, b6, h⟩ := h
      refine ⟨b4, b6, ?_⟩
      obtain ⟨af, ai, ay, h⟩ := h
      refine ⟨af, ai, cellsAt_no (a9) ay, ?_⟩
      refine ⟨a8, a7, ⟨ad.celli 3 rfl rfl, ad.celli 4 rfl rfl, trivial⟩, ?_⟩
      have h := h ag a9
      refine h.mono fun b5 b7 h => ?_
      obtain ⟨ac, he, h⟩ := h
      refine ⟨ac, he, ?_⟩
      refine bif_of (fun ar => ?_) (fun ar => ?_)
      · have h := h.1 (not_t ar)
        exact h
      · have h := h.2 (not_f ar)
        exact h
    · have h := h.2 (Int.not_lt.1 (of_decide_eq_false an))
      have h := h ag a9
      exact h

theorem chain_Log_behind.go (l1 : Option Addr) (a0 : Int) (a3 : Int) (a6 : Int) (a8 : Int) (a9 : Int) (a5 : Int) (a2 : Option Addr) (a1 : Nat) (a4 : Nat) (a7 : Int) {R : Value → World → Prop} {w : World} (h : chain_Log_behind.N l1 a0 a3 a6 a8 a9 a5 a2 a1 a4 a7 R w) : Calls Try.prog 35 #[.pointer l1, .agg #[.int .i64 a0, .int .i64 a3, .int .u64 a6, .int .i64 a8, .int .i64 a9, .int .i64 a5, .slice a2 a1 a4, .int .u64 a7]] w fun e w' => ∃ v, e = .returned v ∧ R v w' := chain_Log_behind.ok l1 a0 a3 a6 a8 a9 a5 a2 a1 a4 a7 (chain_Log_behind.up l1 a0 a3 a6 a8 a9 a5 a2 a1 a4 a7 h)
theorem chain_Log_behind.run (l1 : Option Addr) (a0 : Int) (a3 : Int) (a6 : Int) (a8 : Int) (a9 : Int) (a5 : Int) (a2 : Option Addr) (a1 : Nat) (a4 : Nat) (a7 : Int) {V : Value} {Q : World → Prop} {w : World} (h : chain_Log_behind.N l1 a0 a3 a6 a8 a9 a5 a2 a1 a4 a7 (fun v w' => v = V ∧ Q w') w) : Calls Try.prog 35 #[.pointer l1, .agg #[.int .i64 a0, .int .i64 a3, .int .u64 a6, .int .i64 a8, .int .i64 a9, .int .i64 a5, .slice a2 a1 a4, .int .u64 a7]] w (Ret V Q) := (chain_Log_behind.go l1 a0 a3 a6 a8 a9 a5 a2 a1 a4 a7 h).mono fun e w' ⟨v, he, hv, hq⟩ => ⟨by rw [he, hv], hq⟩

/-- (*chain.Log).Check -/
def chain_Log_Check.M (l1 : Option Addr) (ay : Int) (b4 : Int) (b7 : Int) (bd : Int) (bc : Int) (b6 : Int) (b3 : Option Addr) (b5 : Nat) (b2 : Nat) (ba : Int) (R : Value → World → Prop) (w : World) : Prop :=
 thenW (w.alloc (.cells #[.int .i64 ay, .int .i64 b4, .int .u64 b7, .int .i64 bd, .int .i64 bc, .int .i64 b6, .slice b3 b5 b2, .int .u64 ba] 47)) fun b9 =>
 bif Option.isNone l1 then (
 R (.int .i64 23) b9) else (
 ∃ (I0 : Nat → List Value → World → Prop) (bm : Nat), I0 bm [.int .i64 0] b9 ∧ ∀ (bf : Nat) (a8 : World) (b1 : Int), I0 bf [.int .i64 b1] a8 →
 bif decide (b1 < 3) then (
 0 ≤ (b1 : Int) ∧ (b1 : Int) < (3 : Int) ∧
 ((b1 : Int) = 0 → 
 ∃ (a3 : Int) (a9 : Int) (an : Int) (ax : Int) (aw : Int) (al : Int) (ad : Option Addr) (a7 : Nat) (af : Nat) (az : Int), cellsAt a8 (blk w.heap.size) [.int .i64 a3, .int .i64 a9, .int .u64 an, .int .i64 ax, .int .i64 aw, .int .i64 al, .slice ad a7 af, .int .u64 az] 0 ∧
 Calls Try.prog 42 #[.pointer l1, .agg #[.int .i64 a3, .int .i64 a9, .int .u64 an, .int .i64 ax, .int .i64 aw, .int .i64 al, .slice ad a7 af, .int .u64 az]] a8 fun bh bb => ∃ (a4 : Int), bh = .returned (.int .i64 a4) ∧
 bif a4 != 0 then (
 R (.int .i64 a4) bb) else (
 ∃ bk, bk < bf ∧ I0 bk [.int .i64 (IntKind.i64.wrap (b1 + 1))] bb)) ∧
 ((b1 : Int) = 1 → 
 ∃ (a1 : Int) (ab : Int) (ao : Int) (ar : Int) (av : Int) (aj : Int) (ae : Option Addr) (aa : Nat) (ai : Nat) (au : Int), cellsAt a8 (blk w.heap.size) [.int .i64 a1, .int .i64 ab, .int .u64 ao, .int .i64 ar, .int .i64 av, .int .i64 aj, .slice ae aa ai, .int .u64 au] 0 ∧
 Calls Try.prog 43 #[.pointer l1, .agg #[.int .i64 a1, .int .i64 ab, .int .u64 ao, .int .i64 ar, .int .i64 av, .int .i64 aj, .slice ae aa ai, .int .u64 au]] a8 fun bg be => ∃ (a5 : Int), bg = .returned (.int .i64 a5) ∧
 bif a5 != 0 then (
 R (.int .i64 a5) be) else (
 ∃ bj, bj < bf ∧ I0 bj [.int .i64 (IntKind.i64.wrap (b1 + 1))] be)) ∧
 ((b1 : Int) = 2 → 
 ∃ (a2 : Int) (ak : Int) (am : Int) (ap : Int) (aq : Int) (a6 : Int) (ah : Option Addr) (ag : Nat) (ac : Nat) (b0 : Int), cellsAt a8 (blk w.heap.size) [.int .i64 a2, .int .i64 ak, .int .u64 am, .int .i64 ap, .int .i64 aq, .int .i64 a6, .slice ah ag ac, .int .u64 b0] 0 ∧
 Calls Try.prog 35 #[.pointer l1, .agg #[.int .i64 a2, .int .i64 ak, .int .u64 am, .int .i64 ap, .int .i64 aq, .int .i64 a6, .slice ah ag ac, .int .u64 b0]] a8 fun bi b8 => ∃ (a0 : Int), bi = .returned (.int .i64 a0) ∧
 bif a0 != 0 then (
 R (.int .i64 a0) b8) else (
 ∃ bl, bl < bf ∧ I0 bl [.int .i64 (IntKind.i64.wrap (b1 + 1))] b8)) ∧ True) else (
 R (.int .i64 0) a8))

theorem chain_Log_Check.eq (l1 : Option Addr) (eWriter2 : Int) (eIndex3 : Int) (ePrev4 : Int) (eAtT5 : Int) (eAtW6 : Int) (eEpoch7 : Int) (eBody8a : Option Addr) (eBody8n : Nat) (eBody8c : Nat) (eSig9 : Int) (R : Value → World → Prop) (w : World) : mfunc Try.prog [(0, [3, 16], [(17, (.one (.int .i64)))])] 19 [.pointer l1, .agg #[.int .i64 eWriter2, .int .i64 eIndex3, .int .u64 ePrev4, .int .i64 eAtT5, .int .i64 eAtW6, .int .i64 eEpoch7, .slice eBody8a eBody8n eBody8c, .int .u64 eSig9]] R w = chain_Log_Check.M l1 eWriter2 eIndex3 ePrev4 eAtT5 eAtW6 eEpoch7 eBody8a eBody8n eBody8c eSig9 R w := by kernel_rfl
theorem chain_Log_Check.ok (l1 : Option Addr) (a0 : Int) (a3 : Int) (a6 : Int) (a8 : Int) (a9 : Int) (a5 : Int) (a2 : Option Addr) (a1 : Nat) (a4 : Nat) (a7 : Int) {R : Value → World → Prop} {w : World} (h : chain_Log_Check.M l1 a0 a3 a6 a8 a9 a5 a2 a1 a4 a7 R w) : Calls Try.prog 19 #[.pointer l1, .agg #[.int .i64 a0, .int .i64 a3, .int .u64 a6, .int .i64 a8, .int .i64 a9, .int .i64 a5, .slice a2 a1 a4, .int .u64 a7]] w fun e w' => ∃ v, e = .returned v ∧ R v w' :=
  mfunc_ok follows (H := [(0, [3, 16], [(17, (.one (.int .i64)))])]) (args := [.pointer l1, .agg #[.int .i64 a0, .int .i64 a3, .int .u64 a6, .int .i64 a8, .int .i64 a9, .int .i64 a5, .slice a2 a1 a4, .int .u64 a7]]) (by rw [chain_Log_Check.eq]; exact h)

def chain_Log_Check.N (l1 : Option Addr) (a3 : Int) (a6 : Int) (ab : Int) (af : Int) (ae : Int) (a8 : Int) (a5 : Option Addr) (a7 : Nat) (a4 : Nat) (ad : Int) (R : Value → World → Prop) (w : World) : Prop :=
 (l1 = none →
 ∀ (ac : World), Ext no w ac →
 R (.int .i64 23) ac) ∧
 (l1 ≠ none →
 ∀ (ac : World) (ak : Nat), Ext no w ac → Priv w ac [ak] →
 ∃ (I0 : Nat → List Value → World → Prop) (ar : Nat), I0 ar [.int .i64 0] ac ∧ ∀ (aj : Nat) (aa : World) (a9 : Int), I0 aj [.int .i64 a9] aa →
 (a9 < 3 →
 0 ≤ (a9 : Int) ∧ (a9 : Int) < (3 : Int) ∧
 ((a9 : Int) = 0 →
 Calls Try.prog 42 #[.pointer l1, .agg #[.int .i64 a3, .int .i64 a6, .int .u64 ab, .int .i64 af, .int .i64 ae, .int .i64 a8, .slice a5 a7 a4, .int .u64 ad]] aa fun an ai => ∃ (a1 : Int), an = .returned (.int .i64 a1) ∧
 Keep [ak] aa ai ∧
 (a1 ≠ 0 →
 R (.int .i64 a1) ai) ∧
 (a1 = 0 →
 (-9223372036854775808 : Int) ≤ (a9 + 1) ∧ (a9 + 1) < 9223372036854775808 ∧
 ∃ aq, aq < aj ∧ I0 aq [.int .i64 (a9 + 1)] ai)) ∧
 ((a9 : Int) = 1 →
 Calls Try.prog 43 #[.pointer l1, .agg #[.int .i64 a3, .int .i64 a6, .int .u64 ab, .int .i64 af, .int .i64 ae, .int .i64 a8, .slice a5 a7 a4, .int .u64 ad]] aa fun al ah => ∃ (a2 : Int), al = .returned (.int .i64 a2) ∧
 Keep [ak] aa ah ∧
 (a2 ≠ 0 →
 R (.int .i64 a2) ah) ∧
 (a2 = 0 →
 (-9223372036854775808 : Int) ≤ (a9 + 1) ∧ (a9 + 1) < 9223372036854775808 ∧
 ∃ ap, ap < aj ∧ I0 ap [.int .i64 (a9 + 1)] ah)) ∧
 ((a9 : Int) = 2 →
 Calls Try.prog 35 #[.pointer l1, .agg #[.int .i64 a3, .int .i64 a6, .int .u64 ab, .int .i64 af, .int .i64 ae, .int .i64 a8, .slice a5 a7 a4, .int .u64 ad]] aa fun am ag => ∃ (a0 : Int), am = .returned (.int .i64 a0) ∧
 Keep [ak] aa ag ∧
 (a0 ≠ 0 →
 R (.int .i64 a0) ag) ∧
 (a0 = 0 →
 (-9223372036854775808 : Int) ≤ (a9 + 1) ∧ (a9 + 1) < 9223372036854775808 ∧
 ∃ ao, ao < aj ∧ I0 ao [.int .i64 (a9 + 1)] ag))) ∧
 ((3 : Int) ≤ a9 →
 R (.int .i64 0) aa))

theorem chain_Log_Check.up (l1 : Option Addr) (a0 : Int) (a4 : Int) (a7 : Int) (aa : Int) (a9 : Int) (a6 : Int) (a3 : Option Addr) (a5 : Nat) (a2 : Nat) (a8 : Int) {R : Value → World → Prop} {w : World} (h : chain_Log_Check.N l1 a0 a4 a7 aa a9 a6 a3 a5 a2 a8 R w) : chain_Log_Check.M l1 a0 a4 a7 aa a9 a6 a3 a5 a2 a8 R w := by
  unfold chain_Log_Check.M
  unfold chain_Log_Check.N at h
  refine thenW_in fun ag ao => ?_
  have a1 := Blk.of_new ao
  have b2 := ((Ext.refl no w)).size
  have ae := (Ext.refl no w).x_alloc ao
  refine bif_of (fun ak => ?_) (fun ak => ?_)
  · have h := h.1 (isNone_t ak)
    have h := h ag ae
    exact h
  · have h := h.2 (isNone_f ak)
    have h := h ag (w.heap.size) ae (Priv.cons b2 a1.lt Priv.nil)
    obtain ⟨I0, b5, h0, h⟩ := h
    refine ⟨fun k vs ww => Blk ww w.heap.size 47 [.int .i64 a0, .int .i64 a4, .int .u64 a7, .int .i64 aa, .int .i64 a9, .int .i64 a6, .slice a3 a5 a2, .int .u64 a8] ∧ I0 k vs ww, b5, ⟨a1, h0⟩, fun b0 an ax hI => ?_⟩
    obtain ⟨a1, hI⟩ := hI
    have h := h b0 an ax hI
    refine bif_of (fun am => ?_) (fun am => ?_)
    · have h := h.1 (of_decide_eq_true am)
      obtain ⟨aq, au, h⟩ := h
      refine ⟨aq, au, ?_⟩
      refine ⟨fun hk => ?_, fun hk => ?_, fun hk => ?_, trivial⟩
      · have h := h.1 hk
        refine ⟨a0, a4, a7, aa, a9, a6, a3, a5, a2, a8, ⟨a1.celli 0 rfl rfl, a1.celli 1 rfl rfl, a1.celli 2 rfl rfl, a1.celli 3 rfl rfl, a1.celli 4 rfl rfl, a1.celli 5 rfl rfl, a1.celli 6 rfl rfl, a1.celli 7 rfl rfl, trivial⟩, ?_⟩
        refine h.mono fun b3 b1 h => ?_
        obtain ⟨ac, he, hk, h⟩ := h
        refine ⟨ac, he, ?_⟩
        have a1 := hk.blk a1 (by simp)
        refine bif_of (fun al => ?_) (fun al => ?_)
        · have h := h.1 (bne_t al)
          exact h
        · have h := h.2 (bne_f al)
          obtain ⟨ah, af, h⟩ := h
          try rw [w64 ah af]
          obtain ⟨b4, hk, h⟩ := h
          exact ⟨b4, hk, a1, h⟩
      · have h := h.2.1 hk
        refine ⟨a0, a4, a7, aa, a9, a6, a3, a5, a2, a8, ⟨a1.celli 0 rfl rfl, a1.celli 1 rfl rfl, a1.celli 2 rfl rfl, a1.celli 3 rfl rfl, a1.celli 4 rfl rfl, a1.celli 5 rfl rfl, a1.celli 6 rfl rfl, a1.celli 7 rfl rfl, trivial⟩, ?_⟩
        refine h.mono fun ap az h => ?_
        obtain ⟨ad, he, hk, h⟩ := h
        refine ⟨ad, he, ?_⟩
        have a1 := hk.blk a1 (by simp)
        refine bif_of (fun ai => ?_) (fun ai => ?_)
        · have h := h.1 (bne_t ai)
          exact h
        · have h := h.2 (bne_f ai)
          obtain ⟨ah, af, h⟩ := h
          try rw [w64 ah af]
          obtain ⟨aw, hk, h⟩ := h
          exact ⟨aw, hk, a1, h⟩
      · have h := h.2.2 hk
        refine ⟨a0, a4, a7, aa, a9, a6, a3, a5, a2, a8, ⟨a1.celli 0 rfl rfl, a1.celli 1 rfl rfl, a1.celli 2 rfl rfl, a1.celli 3 rfl rfl, a1.celli 4 rfl rfl, a1.celli 5 rfl rfl, a1.celli 6 rfl rfl, a1.celli 7 rfl rfl, trivial⟩, ?_⟩
        refine h.mono fun ay av h => ?_
        obtain ⟨ab, he, hk, h⟩ := h
        refine ⟨ab, he, ?_⟩
        have a1 := hk.blk a1 (by simp)
        refine bif_of (fun aj => ?_) (fun aj => ?_)
        · have h := h.1 (bne_t aj)
          exact h
        · have h := h.2 (bne_f aj)
          obtain ⟨ah, af, h⟩ := h
          try rw [w64 ah af]
          obtain ⟨ar, hk, h⟩ := h
          exact ⟨ar, hk, a1, h⟩
    · have h := h.2 (Int.not_lt.1 (of_decide_eq_false am))
      exact h

theorem chain_Log_Check.go (l1 : Option Addr) (a0 : Int) (a3 : Int) (a6 : Int) (a8 : Int) (a9 : Int) (a5 : Int) (a2 : Option Addr) (a1 : Nat) (a4 : Nat) (a7 : Int) {R : Value → World → Prop} {w : World} (h : chain_Log_Check.N l1 a0 a3 a6 a8 a9 a5 a2 a1 a4 a7 R w) : Calls Try.prog 19 #[.pointer l1, .agg #[.int .i64 a0, .int .i64 a3, .int .u64 a6, .int .i64 a8, .int .i64 a9, .int .i64 a5, .slice a2 a1 a4, .int .u64 a7]] w fun e w' => ∃ v, e = .returned v ∧ R v w' := chain_Log_Check.ok l1 a0 a3 a6 a8 a9 a5 a2 a1 a4 a7 (chain_Log_Check.up l1 a0 a3 a6 a8 a9 a5 a2 a1 a4 a7 h)
theorem chain_Log_Check.run (l1 : Option Addr) (a0 : Int) (a3 : Int) (a6 : Int) (a8 : Int) (a9 : Int) (a5 : Int) (a2 : Option Addr) (a1 : Nat) (a4 : Nat) (a7 : Int) {V : Value} {Q : World → Prop} {w : World} (h : chain_Log_Check.N l1 a0 a3 a6 a8 a9 a5 a2 a1 a4 a7 (fun v w' => v = V ∧ Q w') w) : Calls Try.prog 19 #[.pointer l1, .agg #[.int .i64 a0, .int .i64 a3, .int .u64 a6, .int .i64 a8, .int .i64 a9, .int .i64 a5, .slice a2 a1 a4, .int .u64 a7]] w (Ret V Q) := (chain_Log_Check.go l1 a0 a3 a6 a8 a9 a5 a2 a1 a4 a7 h).mono fun e w' ⟨v, he, hv, hq⟩ => ⟨by rw [he, hv], hq⟩

/-- (*chain.Log).put -/
def chain_Log_put.M (l1 : Option Addr) (ap : Int) (ax : Int) (b9 : Int) (bh : Int) (bf : Int) (b1 : Int) (aw : Option Addr) (az : Nat) (av : Nat) (be : Int) (R : Value → World → Prop) (w : World) : Prop :=
 thenW (w.alloc (.cells #[.int .i64 ap, .int .i64 ax, .int .u64 b9, .int .i64 bh, .int .i64 bf, .int .i64 b1, .slice aw az av, .int .u64 be] 47)) fun bm =>
 thenW (bm.drew) fun b7 =>
 l1.elim False fun bn =>
 ∃ (b0 : Option Addr) (au : Nat) (ay : Nat), b7.cell? (bn.add 3) = some (.slice b0 au ay) ∧
 ∃ (a1 : Int) (a4 : Int) (ae : Int) (an : Int) (aq : Int) (a7 : Int) (a8 : Option Addr) (aa : Nat) (a9 : Nat) (am : Int), cellsAt b7 (blk w.heap.size) [.int .i64 a1, .int .i64 a4, .int .u64 ae, .int .i64 an, .int .i64 aq, .int .i64 a7, .slice a8 aa a9, .int .u64 am] 0 ∧
 Calls Try.prog 50 #[.agg #[.int .i64 a1, .int .i64 a4, .int .u64 ae, .int .i64 an, .int .i64 aq, .int .i64 a7, .slice a8 aa a9, .int .u64 am]] b7 fun bl b6 => ∃ (ab : Int) (aj : Int) (al : Int) (b2 : Int) (b5 : Int) (ad : Int) (ah : Option Addr) (af : Nat) (ag : Nat) (b3 : Int), bl = .returned (.agg #[.int .i64 ab, .int .i64 aj, .int .u64 al, .int .i64 b2, .int .i64 b5, .int .i64 ad, .slice ah af ag, .int .u64 b3]) ∧
 b6.cell? (bn.add 3) = some (.slice b0 au ay) ∧
 thenW (b6.alloc (.cells #[.int .i64 ab, .int .i64 aj, .int .u64 al, .int .i64 b2, .int .i64 b5, .int .i64 ad, .slice ah af ag, .int .u64 b3] 47)) fun bb =>
 bb.cell? (bn.add 3) = some (.slice b0 au ay) ∧
 ∃ (bc : Option Addr) (bg : Nat) (bd : Nat) (b8 : World), (Builtin.append_ #[40, 40] 40 #[.slice b0 au ay, .slice (some (blk b6.heap.size)) 1 1]).run Try.prog bb = .ok (.slice bc bg bd) b8 ∧
 l1.elim False fun br =>
 canStore b8 ((br.add 3).add 0) ∧
 thenW (b8.setCell ((br.add 3).add 0) (.slice bc bg bd)) fun bp =>
 thenW (bp.drew) fun ba =>
 l1.elim False fun bt =>
 ∃ (bq : Option Addr), ba.cell? (bt.add 0) = some (.pointer bq) ∧
 ∃ (a0 : Int) (a2 : Int) (ai : Int) (ar : Int) (ak : Int) (a5 : Int) (ac : Option Addr) (a3 : Nat) (a6 : Nat) (ao : Int), cellsAt ba (blk w.heap.size) [.int .i64 a0, .int .i64 a2, .int .u64 ai, .int .i64 ar, .int .i64 ak, .int .i64 a5, .slice ac a3 a6, .int .u64 ao] 0 ∧
 Calls Try.prog 30 #[.pointer bq, .agg #[.int .i64 a0, .int .i64 a2, .int .u64 ai, .int .i64 ar, .int .i64 ak, .int .i64 a5, .slice ac a3 a6, .int .u64 ao]] ba fun bo bj => ∃ (b4 : Int) (bi : Int), bo = .returned (.tuple #[.int .u64 b4, .int .i64 bi]) ∧
 l1.elim False fun bs =>
 canStore bj ((bs.add 4).add 0) ∧
 thenW (bj.setCell ((bs.add 4).add 0) (.int .u64 b4)) fun bk =>
 R (.tuple #[]) bk

theorem chain_Log_put.eq (l1 : Option Addr) (eWriter2 : Int) (eIndex3 : Int) (ePrev4 : Int) (eAtT5 : Int) (eAtW6 : Int) (eEpoch7 : Int) (eBody8a : Option Addr) (eBody8n : Nat) (eBody8c : Nat) (eSig9 : Int) (R : Value → World → Prop) (w : World) : mfunc Try.prog [] 37 [.pointer l1, .agg #[.int .i64 eWriter2, .int .i64 eIndex3, .int .u64 ePrev4, .int .i64 eAtT5, .int .i64 eAtW6, .int .i64 eEpoch7, .slice eBody8a eBody8n eBody8c, .int .u64 eSig9]] R w = chain_Log_put.M l1 eWriter2 eIndex3 ePrev4 eAtT5 eAtW6 eEpoch7 eBody8a eBody8n eBody8c eSig9 R w := by kernel_rfl
theorem chain_Log_put.ok (l1 : Option Addr) (a0 : Int) (a3 : Int) (a6 : Int) (a8 : Int) (a9 : Int) (a5 : Int) (a2 : Option Addr) (a1 : Nat) (a4 : Nat) (a7 : Int) {R : Value → World → Prop} {w : World} (h : chain_Log_put.M l1 a0 a3 a6 a8 a9 a5 a2 a1 a4 a7 R w) : Calls Try.prog 37 #[.pointer l1, .agg #[.int .i64 a0, .int .i64 a3, .int .u64 a6, .int .i64 a8, .int .i64 a9, .int .i64 a5, .slice a2 a1 a4, .int .u64 a7]] w fun e w' => ∃ v, e = .returned v ∧ R v w' :=
  mfunc_ok follows (H := []) (args := [.pointer l1, .agg #[.int .i64 a0, .int .i64 a3, .int .u64 a6, .int .i64 a8, .int .i64 a9, .int .i64 a5, .slice a2 a1 a4, .int .u64 a7]]) (by rw [chain_Log_put.eq]; exact h)

def chain_Log_put.N (l1 : Option Addr) (a1 : Int) (a5 : Int) (ad : Int) (aq : Int) (ap : Int) (aa : Int) (a4 : Option Addr) (a6 : Nat) (a3 : Nat) (ao : Int) (R : Value → World → Prop) (w : World) : Prop :=
 ∃ af : Addr, l1 = some af ∧
 ∃ (al : Option Addr) (ah : Nat) (ak : Nat), w.cell? (af.add 3) = some (.slice al ah ak) ∧
 ∀ (ai : World) (b3 : Nat), Ext no w ai → Priv w ai [b3] →
 Calls Try.prog 50 #[.agg #[.int .i64 a1, .int .i64 a5, .int .u64 ad, .int .i64 aq, .int .i64 ap, .int .i64 aa, .slice a4 a6 a3, .int .u64 ao]] ai fun b6 aj => ∃ (a0 : Int) (ab : Int) (ae : Int) (am : Int) (an : Int) (a2 : Int) (a7 : Option Addr) (a9 : Nat) (a8 : Nat) (au : Int), b6 = .returned (.agg #[.int .i64 a0, .int .i64 ab, .int .u64 ae, .int .i64 am, .int .i64 an, .int .i64 a2, .slice a7 a9 a8, .int .u64 au]) ∧
 Keep [b3] ai aj ∧
 aj.cell? (af.add 3) = some (.slice al ah ak) ∧
 ∀ (ac : World) (b2 : Nat), Ext no aj ac → Blk ac b2 47 [.int .i64 a0, .int .i64 ab, .int .u64 ae, .int .i64 am, .int .i64 an, .int .i64 a2, .slice a7 a9 a8, .int .u64 au] → aj.heap.size ≤ b2 → b2 < ac.heap.size →
 ac.cell? (af.add 3) = some (.slice al ah ak) ∧
 ∃ (b1 : Option Addr) (b0 : Nat) (ax : Nat) (ag : World), (Builtin.append_ #[40, 40] 40 #[.slice al ah ak, .slice (some (blk b2)) 1 1]).run Try.prog ac = .ok (.slice b1 b0 ax) ag ∧
 Keep [b3] ac ag ∧
 canStore ag ((af.add 3).add 0) ∧
 (∀ p ∈ [b3], p ≠ Addr.block (af.add 3)) ∧
 thenW (ag.setCell ((af.add 3).add 0) (.slice b1 b0 ax)) fun av =>
 ∃ (b7 : Option Addr), av.cell? (af.add 0) = some (.pointer b7) ∧
 ∀ (ay : World), Ext no av ay →
 Calls Try.prog 30 #[.pointer b7, .agg #[.int .i64 a1, .int .i64 a5, .int .u64 ad, .int .i64 aq, .int .i64 ap, .int .i64 aa, .slice a4 a6 a3, .int .u64 ao]] ay fun b4 az => ∃ (ar : Int) (aw : Int), b4 = .returned (.tuple #[.int .u64 ar, .int .i64 aw]) ∧
 canStore az ((af.add 4).add 0) ∧
 thenW (az.setCell ((af.add 4).add 0) (.int .u64 ar)) fun b5 =>
 R (.tuple #[]) b5

theorem chain_Log_put.up (l1 : Option Addr) (a1 : Int) (a4 : Int) (a7 : Int) (aa : Int) (a9 : Int) (a6 : Int) (a3 : Option Addr) (a5 : Nat) (a2 : Nat) (a8 : Int) {R : Value → World → Prop} {w : World} (h : chain_Log_put.N l1 a1 a4 a7 aa a9 a6 a3 a5 a2 a8 R w) : chain_Log_put.M l1 a1 a4 a7 aa a9 a6 a3 a5 a2 a8 R w := by
  unfold chain_Log_put.M
  unfold chain_Log_put.N at h
  refine thenW_in fun bf bc => ?_
  have a0 := Blk.of_new bc
  have bh := ((Ext.refl no w)).size
  have aw := (Ext.refl no w).x_alloc bc
  refine thenW_in fun az bd => ?_
  have ao := aw.x_drew bd
  have a0 := a0.x_drew bd
  obtain ⟨bm, ad, h⟩ := h
  refine elim_some ad ?_
  obtain ⟨b4, ay, b2, b8, h⟩ := h
  refine ⟨b4, ay, b2, (ao).cell b8 id, ?_⟩
  refine ⟨a1, a4, a7, aa, a9, a6, a3, a5, a2, a8, ⟨a0.celli 0 rfl rfl, a0.celli 1 rfl rfl, a0.celli 2 rfl rfl, a0.celli 3 rfl rfl, a0.celli 4 rfl rfl, a0.celli 5 rfl rfl, a0.celli 6 rfl rfl, a0.celli 7 rfl rfl, trivial⟩, ?_⟩
  have h := h az (w.heap.size) ao (Priv.cons bh a0.lt Priv.nil)
  refine h.mono fun bl ai h => ?_
  obtain ⟨ab, ah, aj, ak, an, ac, ae, ag, af, aq, he, hk, h⟩ := h
  refine ⟨ab, ah, aj, ak, an, ac, ae, ag, af, aq, he, ?_⟩
  have a0 := hk.blk a0 (by simp)
  obtain ⟨b5, h⟩ := h
  refine ⟨b5, ?_⟩
  refine thenW_in fun av ar => ?_
  have a0 := a0.x_alloc ar
  have h := h av ai.heap.size ((Ext.refl no ai).x_alloc ar) (Blk.of_new ar) ((Ext.refl no ai)).size (size_lt_alloc ar)
  obtain ⟨b7, h⟩ := h
  refine ⟨b7, ?_⟩
  obtain ⟨b9, b6, b0, ax, hr, hk, h⟩ := h
  refine ⟨b9, b6, b0, ax, hr, ?_⟩
  have a0 := hk.blk a0 (by simp)
  refine elim_some ad ?_
  obtain ⟨hcs, hof, h⟩ := h
  refine ⟨hcs, thenW_in fun au bb => ?_⟩
  replace h := thenW_out h bb
  have a0 := a0.off (by rw [block_add]; exact hof _ (by simp)) bb
  refine thenW_in fun b3 ba => ?_
  have al := (Ext.refl no au).x_drew ba
  have a0 := a0.x_drew ba
  refine elim_some ad ?_
  obtain ⟨bj, b1, h⟩ := h
  refine ⟨bj, (al).cell b1 id, ?_⟩
  refine ⟨a1, a4, a7, aa, a9, a6, a3, a5, a2, a8, ⟨a0.celli 0 rfl rfl, a0.celli 1 rfl rfl, a0.celli 2 rfl rfl, a0.celli 3 rfl rfl, a0.celli 4 rfl rfl, a0.celli 5 rfl rfl, a0.celli 6 rfl rfl, a0.celli 7 rfl rfl, trivial⟩, ?_⟩
  have h := h b3 al
  refine h.mono fun be bi h => ?_
  obtain ⟨ap, am, he, h⟩ := h
  refine ⟨ap, am, he, ?_⟩
  refine elim_some ad ?_
  obtain ⟨hcs, h⟩ := h
  refine ⟨hcs, thenW_in fun bg bk => ?_⟩
  replace h := thenW_out h bk
  exact h

theorem chain_Log_put.go (l1 : Option Addr) (a0 : Int) (a3 : Int) (a6 : Int) (a8 : Int) (a9 : Int) (a5 : Int) (a2 : Option Addr) (a1 : Nat) (a4 : Nat) (a7 : Int) {R : Value → World → Prop} {w : World} (h : chain_Log_put.N l1 a0 a3 a6 a8 a9 a5 a2 a1 a4 a7 R w) : Calls Try.prog 37 #[.pointer l1, .agg #[.int .i64 a0, .int .i64 a3, .int .u64 a6, .int .i64 a8, .int .i64 a9, .int .i64 a5, .slice a2 a1 a4, .int .u64 a7]] w fun e w' => ∃ v, e = .returned v ∧ R v w' := chain_Log_put.ok l1 a0 a3 a6 a8 a9 a5 a2 a1 a4 a7 (chain_Log_put.up l1 a0 a3 a6 a8 a9 a5 a2 a1 a4 a7 h)
/-- (*chain.Log).Accept -/
def chain_Log_Accept.M (l1 : Option Addr) (al : Int) (ao : Int) (au : Int) (ay : Int) (ax : Int) (aq : Int) (an : Option Addr) (ap : Nat) (am : Nat) (aw : Int) (R : Value → World → Prop) (w : World) : Prop :=
 thenW (w.alloc (.cells #[.int .i64 al, .int .i64 ao, .int .u64 au, .int .i64 ay, .int .i64 ax, .int .i64 aq, .slice an ap am, .int .u64 aw] 47)) fun av =>
 ∃ (a2 : Int) (a4 : Int) (ad : Int) (af : Int) (ah : Int) (a5 : Int) (ab : Option Addr) (a8 : Nat) (a7 : Nat) (ai : Int), cellsAt av (blk w.heap.size) [.int .i64 a2, .int .i64 a4, .int .u64 ad, .int .i64 af, .int .i64 ah, .int .i64 a5, .slice ab a8 a7, .int .u64 ai] 0 ∧
 Calls Try.prog 19 #[.pointer l1, .agg #[.int .i64 a2, .int .i64 a4, .int .u64 ad, .int .i64 af, .int .i64 ah, .int .i64 a5, .slice ab a8 a7, .int .u64 ai]] av fun b1 ar => ∃ (a0 : Int), b1 = .returned (.int .i64 a0) ∧
 bif a0 == 0 then (
 ∃ (a1 : Int) (a6 : Int) (ae : Int) (ak : Int) (ag : Int) (a9 : Int) (ac : Option Addr) (a3 : Nat) (aa : Nat) (aj : Int), cellsAt ar (blk w.heap.size) [.int .i64 a1, .int .i64 a6, .int .u64 ae, .int .i64 ak, .int .i64 ag, .int .i64 a9, .slice ac a3 aa, .int .u64 aj] 0 ∧
 Calls Try.prog 37 #[.pointer l1, .agg #[.int .i64 a1, .int .i64 a6, .int .u64 ae, .int .i64 ak, .int .i64 ag, .int .i64 a9, .slice ac a3 aa, .int .u64 aj]] ar fun b0 az => b0 = .returned (.tuple #[]) ∧
 R (.int .i64 a0) az) else (
 R (.int .i64 a0) ar)

theorem chain_Log_Accept.eq (l1 : Option Addr) (eWriter2 : Int) (eIndex3 : Int) (ePrev4 : Int) (eAtT5 : Int) (eAtW6 : Int) (eEpoch7 : Int) (eBody8a : Option Addr) (eBody8n : Nat) (eBody8c : Nat) (eSig9 : Int) (R : Value → World → Prop) (w : World) : mfunc Try.prog [] 21 [.pointer l1, .agg #[.int .i64 eWriter2, .int .i64 eIndex3, .int .u64 ePrev4, .int .i64 eAtT5, .int .i64 eAtW6, .int .i64 eEpoch7, .slice eBody8a eBody8n eBody8c, .int .u64 eSig9]] R w = chain_Log_Accept.M l1 eWriter2 eIndex3 ePrev4 eAtT5 eAtW6 eEpoch7 eBody8a eBody8n eBody8c eSig9 R w := by kernel_rfl
theorem chain_Log_Accept.ok (l1 : Option Addr) (a0 : Int) (a3 : Int) (a6 : Int) (a8 : Int) (a9 : Int) (a5 : Int) (a2 : Option Addr) (a1 : Nat) (a4 : Nat) (a7 : Int) {R : Value → World → Prop} {w : World} (h : chain_Log_Accept.M l1 a0 a3 a6 a8 a9 a5 a2 a1 a4 a7 R w) : Calls Try.prog 21 #[.pointer l1, .agg #[.int .i64 a0, .int .i64 a3, .int .u64 a6, .int .i64 a8, .int .i64 a9, .int .i64 a5, .slice a2 a1 a4, .int .u64 a7]] w fun e w' => ∃ v, e = .returned v ∧ R v w' :=
  mfunc_ok follows (H := []) (args := [.pointer l1, .agg #[.int .i64 a0, .int .i64 a3, .int .u64 a6, .int .i64 a8, .int .i64 a9, .int .i64 a5, .slice a2 a1 a4, .int .u64 a7]]) (by rw [chain_Log_Accept.eq]; exact h)

def chain_Log_Accept.N (l1 : Option Addr) (a1 : Int) (a4 : Int) (a7 : Int) (aa : Int) (ab : Int) (a6 : Int) (a3 : Option Addr) (a2 : Nat) (a5 : Nat) (a9 : Int) (R : Value → World → Prop) (w : World) : Prop :=
 ∀ (a8 : World) (ag : Nat), Ext no w a8 → Priv w a8 [ag] →
 Calls Try.prog 19 #[.pointer l1, .agg #[.int .i64 a1, .int .i64 a4, .int .u64 a7, .int .i64 aa, .int .i64 ab, .int .i64 a6, .slice a3 a2 a5, .int .u64 a9]] a8 fun af ac => ∃ (a0 : Int), af = .returned (.int .i64 a0) ∧
 Keep [ag] a8 ac ∧
 (a0 = 0 →
 Calls Try.prog 37 #[.pointer l1, .agg #[.int .i64 a1, .int .i64 a4, .int .u64 a7, .int .i64 aa, .int .i64 ab, .int .i64 a6, .slice a3 a2 a5, .int .u64 a9]] ac fun ae ad => ae = .returned (.tuple #[]) ∧
 R (.int .i64 a0) ad) ∧
 (a0 ≠ 0 →
 R (.int .i64 a0) ac)

theorem chain_Log_Accept.up (l1 : Option Addr) (a0 : Int) (a3 : Int) (a7 : Int) (aa : Int) (a9 : Int) (a5 : Int) (a2 : Option Addr) (a4 : Nat) (a1 : Nat) (a8 : Int) {R : Value → World → Prop} {w : World} (h : chain_Log_Accept.N l1 a0 a3 a7 aa a9 a5 a2 a4 a1 a8 R w) : chain_Log_Accept.M l1 a0 a3 a7 aa a9 a5 a2 a4 a1 a8 R w := by
  unfold chain_Log_Accept.M
  unfold chain_Log_Accept.N at h
  refine thenW_in fun ac af => ?_
  have a6 := Blk.of_new af
  have ai := ((Ext.refl no w)).size
  have ae := (Ext.refl no w).x_alloc af
  refine ⟨a0, a3, a7, aa, a9, a5, a2, a4, a1, a8, ⟨a6.celli 0 rfl rfl, a6.celli 1 rfl rfl, a6.celli 2 rfl rfl, a6.celli 3 rfl rfl, a6.celli 4 rfl rfl, a6.celli 5 rfl rfl, a6.celli 6 rfl rfl, a6.celli 7 rfl rfl, trivial⟩, ?_⟩
  have h := h ac (w.heap.size) ae (Priv.cons ai a6.lt Priv.nil)
  refine h.mono fun aj ag h => ?_
  obtain ⟨ab, he, hk, h⟩ := h
  refine ⟨ab, he, ?_⟩
  have a6 := hk.blk a6 (by simp)
  refine bif_of (fun ad => ?_) (fun ad => ?_)
  · have h := h.1 (beq_t ad)
    refine ⟨a0, a3, a7, aa, a9, a5, a2, a4, a1, a8, ⟨a6.celli 0 rfl rfl, a6.celli 1 rfl rfl, a6.celli 2 rfl rfl, a6.celli 3 rfl rfl, a6.celli 4 rfl rfl, a6.celli 5 rfl rfl, a6.celli 6 rfl rfl, a6.celli 7 rfl rfl, trivial⟩, ?_⟩
    refine h.mono fun ah ak h => ?_
    obtain ⟨he, h⟩ := h
    refine ⟨he, ?_⟩
    exact h
  · have h := h.2 (beq_f ad)
    exact h

theorem chain_Log_Accept.go (l1 : Option Addr) (a0 : Int) (a3 : Int) (a6 : Int) (a8 : Int) (a9 : Int) (a5 : Int) (a2 : Option Addr) (a1 : Nat) (a4 : Nat) (a7 : Int) {R : Value → World → Prop} {w : World} (h : chain_Log_Accept.N l1 a0 a3 a6 a8 a9 a5 a2 a1 a4 a7 R w) : Calls Try.prog 21 #[.pointer l1, .agg #[.int .i64 a0, .int .i64 a3, .int .u64 a6, .int .i64 a8, .int .i64 a9, .int .i64 a5, .slice a2 a1 a4, .int .u64 a7]] w fun e w' => ∃ v, e = .returned v ∧ R v w' := chain_Log_Accept.ok l1 a0 a3 a6 a8 a9 a5 a2 a1 a4 a7 (chain_Log_Accept.up l1 a0 a3 a6 a8 a9 a5 a2 a1 a4 a7 h)
/-- (*chain.Log).Issue -/
def chain_Log_Issue.M (l1 : Option Addr) (dr : Int) (g5 : Int) (g1 : Int) (eq : Int) (eu : Option Addr) (en : Nat) (ev : Nat) (R : Value → World → Prop) (w : World) : Prop :=
 thenW (w.alloc (.cells #[.int .i64 g5, .int .i64 g1] 45)) fun a0 =>
 thenW (a0.alloc (.cells #[.int .i64 0, .int .i64 0, .int .u64 0, .int .i64 0, .int .i64 0, .int .i64 0, .slice none 0 0, .int .u64 0] 47)) fun ew =>
 bif Option.isNone l1 then (
 canStore ew ((blk a0.heap.size).add 0) ∧
 thenW (ew.setCell ((blk a0.heap.size).add 0) (.int .i64 0)) fun g7 =>
 canStore g7 ((blk a0.heap.size).add 1) ∧
 thenW (g7.setCell ((blk a0.heap.size).add 1) (.int .i64 0)) fun fv =>
 canStore fv ((blk a0.heap.size).add 2) ∧
 thenW (fv.setCell ((blk a0.heap.size).add 2) (.int .u64 0)) fun f1 =>
 canStore f1 ((blk a0.heap.size).add 3) ∧
 thenW (f1.setCell ((blk a0.heap.size).add 3) (.int .i64 0)) fun fx =>
 canStore fx ((blk a0.heap.size).add 4) ∧
 thenW (fx.setCell ((blk a0.heap.size).add 4) (.int .i64 0)) fun fw =>
 canStore fw ((blk a0.heap.size).add 5) ∧
 thenW (fw.setCell ((blk a0.heap.size).add 5) (.int .i64 0)) fun ex =>
 canStore ex ((blk a0.heap.size).add 6) ∧
 thenW (ex.setCell ((blk a0.heap.size).add 6) (.slice none 0 0)) fun fd =>
 canStore fd ((blk a0.heap.size).add 7) ∧
 thenW (fd.setCell ((blk a0.heap.size).add 7) (.int .u64 0)) fun fm =>
 ∃ (al : Int) (ao : Int) (c1 : Int) (cp : Int) (cl : Int) (b2 : Int) (aw : Option Addr) (ap : Nat) (aq : Nat) (c7 : Int), cellsAt fm (blk a0.heap.size) [.int .i64 al, .int .i64 ao, .int .u64 c1, .int .i64 cp, .int .i64 cl, .int .i64 b2, .slice aw ap aq, .int .u64 c7] 0 ∧
 R (.tuple #[.agg #[.int .i64 al, .int .i64 ao, .int .u64 c1, .int .i64 cp, .int .i64 cl, .int .i64 b2, .slice aw ap aq, .int .u64 c7], .int .i64 23]) fm) else (
 l1.elim False fun gb =>
 ∃ (g3 : Option Addr) (fu : Nat) (g0 : Nat), ew.cell? (gb.add 3) = some (.slice g3 fu g0) ∧
 bif decide ((fu : Int) ≥ 200) then (
 canStore ew ((blk a0.heap.size).add 0) ∧
 thenW (ew.setCell ((blk a0.heap.size).add 0) (.int .i64 0)) fun ft =>
 canStore ft ((blk a0.heap.size).add 1) ∧
 thenW (ft.setCell ((blk a0.heap.size).add 1) (.int .i64 0)) fun fb =>
 canStore fb ((blk a0.heap.size).add 2) ∧
 thenW (fb.setCell ((blk a0.heap.size).add 2) (.int .u64 0)) fun fg =>
 canStore fg ((blk a0.heap.size).add 3) ∧
 thenW (fg.setCell ((blk a0.heap.size).add 3) (.int .i64 0)) fun fz =>
 canStore fz ((blk a0.heap.size).add 4) ∧
 thenW (fz.setCell ((blk a0.heap.size).add 4) (.int .i64 0)) fun f8 =>
 canStore f8 ((blk a0.heap.size).add 5) ∧
 thenW (f8.setCell ((blk a0.heap.size).add 5) (.int .i64 0)) fun fr =>
 canStore fr ((blk a0.heap.size).add 6) ∧
 thenW (fr.setCell ((blk a0.heap.size).add 6) (.slice none 0 0)) fun f3 =>
 canStore f3 ((blk a0.heap.size).add 7) ∧
 thenW (f3.setCell ((blk a0.heap.size).add 7) (.int .u64 0)) fun fl =>
 ∃ (a6 : Int) (b3 : Int) (bi : Int) (cw : Int) (ch : Int) (b1 : Int) (av : Option Addr) (b6 : Nat) (b0 : Nat) (cd : Int), cellsAt fl (blk a0.heap.size) [.int .i64 a6, .int .i64 b3, .int .u64 bi, .int .i64 cw, .int .i64 ch, .int .i64 b1, .slice av b6 b0, .int .u64 cd] 0 ∧
 R (.tuple #[.agg #[.int .i64 a6, .int .i64 b3, .int .u64 bi, .int .i64 cw, .int .i64 ch, .int .i64 b1, .slice av b6 b0, .int .u64 cd], .int .i64 3]) fl) else (
 thenW (ew.drew) fun a1 =>
 l1.elim False fun g9 =>
 ∃ (eo : Int), a1.cell? (g9.add 1) = some (.int .i64 eo) ∧
 l1.elim False fun g8 =>
 ∃ (fq : Option Addr) (ep : Nat) (ff : Nat), a1.cell? (g8.add 3) = some (.slice fq ep ff) ∧
 l1.elim False fun ga =>
 ∃ (dl : Int), a1.cell? (ga.add 4) = some (.int .u64 dl) ∧
 ∃ (et : Int) (er : Int), cellsAt a1 (blk w.heap.size) [.int .i64 et, .int .i64 er] 0 ∧
 thenW (a1.alloc (.cells #[.int .i64 0, .int .i64 0, .int .u64 0, .int .i64 0, .int .i64 0, .int .i64 0, .slice none 0 0, .int .u64 0] 47)) fun dc =>
 cellsAt dc (blk w.heap.size) [.int .i64 et, .int .i64 er] 0 ∧
 dc.cell? (ga.add 4) = some (.int .u64 dl) ∧
 dc.cell? (g8.add 3) = some (.slice fq ep ff) ∧
 dc.cell? (g9.add 1) = some (.int .i64 eo) ∧
 canStore dc ((blk a1.heap.size).add 0) ∧
 thenW (dc.setCell ((blk a1.heap.size).add 0) (.int .i64 eo)) fun f7 =>
 canStore f7 ((blk a1.heap.size).add 1) ∧
 thenW (f7.setCell ((blk a1.heap.size).add 1) (.int .i64 (ep : Int))) fun fc =>
 canStore fc ((blk a1.heap.size).add 2) ∧
 thenW (fc.setCell ((blk a1.heap.size).add 2) (.int .u64 dl)) fun f4 =>
 canStore f4 ((blk a1.heap.size).add 3) ∧
 thenW (f4.setCell ((blk a1.heap.size).add 3) (.int .i64 et)) fun ez =>
 canStore ez ((blk a1.heap.size).add 4) ∧
 thenW (ez.setCell ((blk a1.heap.size).add 4) (.int .i64 er)) fun fa =>
 canStore fa ((blk a1.heap.size).add 5) ∧
 thenW (fa.setCell ((blk a1.heap.size).add 5) (.int .i64 eq)) fun fj =>
 canStore fj ((blk a1.heap.size).add 6) ∧
 thenW (fj.setCell ((blk a1.heap.size).add 6) (.slice eu en ev)) fun fs =>
 canStore fs ((blk a1.heap.size).add 7) ∧
 thenW (fs.setCell ((blk a1.heap.size).add 7) (.int .u64 0)) fun fh =>
 ∃ (bl : Int) (c9 : Int) (da : Int) (df : Int) (dk : Int) (cm : Int) (cg : Option Addr) (ca : Nat) (cv : Nat) (dp : Int), cellsAt fh (blk a1.heap.size) [.int .i64 bl, .int .i64 c9, .int .u64 da, .int .i64 df, .int .i64 dk, .int .i64 cm, .slice cg ca cv, .int .u64 dp] 0 ∧
 Calls Try.prog 34 #[.agg #[.int .i64 bl, .int .i64 c9, .int .u64 da, .int .i64 df, .int .i64 dk, .int .i64 cm, .slice cg ca cv, .int .u64 dp]] fh fun g6 dq => ∃ (d1 : Bool), g6 = .returned (.bool d1) ∧
 bif !d1 then (
 canStore dq ((blk a0.heap.size).add 0) ∧
 thenW (dq.setCell ((blk a0.heap.size).add 0) (.int .i64 0)) fun ey =>
 canStore ey ((blk a0.heap.size).add 1) ∧
 thenW (ey.setCell ((blk a0.heap.size).add 1) (.int .i64 0)) fun fe =>
 canStore fe ((blk a0.heap.size).add 2) ∧
 thenW (fe.setCell ((blk a0.heap.size).add 2) (.int .u64 0)) fun f6 =>
 canStore f6 ((blk a0.heap.size).add 3) ∧
 thenW (f6.setCell ((blk a0.heap.size).add 3) (.int .i64 0)) fun fk =>
 canStore fk ((blk a0.heap.size).add 4) ∧
 thenW (fk.setCell ((blk a0.heap.size).add 4) (.int .i64 0)) fun fi =>
 canStore fi ((blk a0.heap.size).add 5) ∧
 thenW (fi.setCell ((blk a0.heap.size).add 5) (.int .i64 0)) fun f9 =>
 canStore f9 ((blk a0.heap.size).add 6) ∧
 thenW (f9.setCell ((blk a0.heap.size).add 6) (.slice none 0 0)) fun fo =>
 canStore fo ((blk a0.heap.size).add 7) ∧
 thenW (fo.setCell ((blk a0.heap.size).add 7) (.int .u64 0)) fun f2 =>
 ∃ (ai : Int) (az : Int) (bo : Int) (cc : Int) (ce : Int) (b7 : Int) (ay : Option Addr) (au : Nat) (b9 : Nat) (cq : Int), cellsAt f2 (blk a0.heap.size) [.int .i64 ai, .int .i64 az, .int .u64 bo, .int .i64 cc, .int .i64 ce, .int .i64 b7, .slice ay au b9, .int .u64 cq] 0 ∧
 R (.tuple #[.agg #[.int .i64 ai, .int .i64 az, .int .u64 bo, .int .i64 cc, .int .i64 ce, .int .i64 b7, .slice ay au b9, .int .u64 cq], .int .i64 1]) f2) else (
 ∃ (bg : Int) (cb : Int) (cy : Int) (dg : Int) (de : Int) (cu : Int) (cr : Option Addr) (ck : Nat) (cs : Nat) (dj : Int), cellsAt dq (blk a1.heap.size) [.int .i64 bg, .int .i64 cb, .int .u64 cy, .int .i64 dg, .int .i64 de, .int .i64 cu, .slice cr ck cs, .int .u64 dj] 0 ∧
 Calls Try.prog 35 #[.pointer l1, .agg #[.int .i64 bg, .int .i64 cb, .int .u64 cy, .int .i64 dg, .int .i64 de, .int .i64 cu, .slice cr ck cs, .int .u64 dj]] dq fun g4 es => ∃ (ax : Int), g4 = .returned (.int .i64 ax) ∧
 bif ax != 0 then (
 canStore es ((blk a0.heap.size).add 0) ∧
 thenW (es.setCell ((blk a0.heap.size).add 0) (.int .i64 0)) fun fp =>
 canStore fp ((blk a0.heap.size).add 1) ∧
 thenW (fp.setCell ((blk a0.heap.size).add 1) (.int .i64 0)) fun dz =>
 canStore dz ((blk a0.heap.size).add 2) ∧
 thenW (dz.setCell ((blk a0.heap.size).add 2) (.int .u64 0)) fun eb =>
 canStore eb ((blk a0.heap.size).add 3) ∧
 thenW (eb.setCell ((blk a0.heap.size).add 3) (.int .i64 0)) fun e4 =>
 canStore e4 ((blk a0.heap.size).add 4) ∧
 thenW (e4.setCell ((blk a0.heap.size).add 4) (.int .i64 0)) fun e5 =>
 canStore e5 ((blk a0.heap.size).add 5) ∧
 thenW (e5.setCell ((blk a0.heap.size).add 5) (.int .i64 0)) fun e7 =>
 canStore e7 ((blk a0.heap.size).add 6) ∧
 thenW (e7.setCell ((blk a0.heap.size).add 6) (.slice none 0 0)) fun e2 =>
 canStore e2 ((blk a0.heap.size).add 7) ∧
 thenW (e2.setCell ((blk a0.heap.size).add 7) (.int .u64 0)) fun ea =>
 ∃ (a2 : Int) (a5 : Int) (ba : Int) (c5 : Int) (bs : Int) (ae : Int) (a9 : Option Addr) (ag : Nat) (aa : Nat) (bj : Int), cellsAt ea (blk a0.heap.size) [.int .i64 a2, .int .i64 a5, .int .u64 ba, .int .i64 c5, .int .i64 bs, .int .i64 ae, .slice a9 ag aa, .int .u64 bj] 0 ∧
 R (.tuple #[.agg #[.int .i64 a2, .int .i64 a5, .int .u64 ba, .int .i64 c5, .int .i64 bs, .int .i64 ae, .slice a9 ag aa, .int .u64 bj], .int .i64 ax]) ea) else (
 thenW (es.drew) fun dh =>
 l1.elim False fun g2 =>
 ∃ (f0 : Option Addr), dh.cell? (g2.add 0) = some (.pointer f0) ∧
 ∃ (b4 : Int) (bz : Int) (cx : Int) (d6 : Int) (d4 : Int) (bb : Int) (bp : Option Addr) (bv : Nat) (bh : Nat) (d9 : Int), cellsAt dh (blk a1.heap.size) [.int .i64 b4, .int .i64 bz, .int .u64 cx, .int .i64 d6, .int .i64 d4, .int .i64 bb, .slice bp bv bh, .int .u64 d9] 0 ∧
 Calls Try.prog 36 #[.pointer f0, .int .u64 dr, .agg #[.int .i64 b4, .int .i64 bz, .int .u64 cx, .int .i64 d6, .int .i64 d4, .int .i64 bb, .slice bp bv bh, .int .u64 d9]] dh fun f5 dt => ∃ (bu : Int) (cj : Int) (db : Int) (dd : Int) (dm : Int) (ci : Int) (cn : Option Addr) (co : Nat) (ct : Nat) (dn : Int) (c6 : Int), f5 = .returned (.tuple #[.agg #[.int .i64 bu, .int .i64 cj, .int .u64 db, .int .i64 dd, .int .i64 dm, .int .i64 ci, .slice cn co ct, .int .u64 dn], .int .i64 c6]) ∧
 canStore dt ((blk a1.heap.size).add 0) ∧
 thenW (dt.setCell ((blk a1.heap.size).add 0) (.int .i64 bu)) fun ek =>
 canStore ek ((blk a1.heap.size).add 1) ∧
 thenW (ek.setCell ((blk a1.heap.size).add 1) (.int .i64 cj)) fun eh =>
 canStore eh ((blk a1.heap.size).add 2) ∧
 thenW (eh.setCell ((blk a1.heap.size).add 2) (.int .u64 db)) fun e9 =>
 canStore e9 ((blk a1.heap.size).add 3) ∧
 thenW (e9.setCell ((blk a1.heap.size).add 3) (.int .i64 dd)) fun du =>
 canStore du ((blk a1.heap.size).add 4) ∧
 thenW (du.setCell ((blk a1.heap.size).add 4) (.int .i64 dm)) fun ej =>
 canStore ej ((blk a1.heap.size).add 5) ∧
 thenW (ej.setCell ((blk a1.heap.size).add 5) (.int .i64 ci)) fun e0 =>
 canStore e0 ((blk a1.heap.size).add 6) ∧
 thenW (e0.setCell ((blk a1.heap.size).add 6) (.slice cn co ct)) fun e6 =>
 canStore e6 ((blk a1.heap.size).add 7) ∧
 thenW (e6.setCell ((blk a1.heap.size).add 7) (.int .u64 dn)) fun d5 =>
 bif c6 != 0 then (
 canStore d5 ((blk a0.heap.size).add 0) ∧
 thenW (d5.setCell ((blk a0.heap.size).add 0) (.int .i64 0)) fun e1 =>
 canStore e1 ((blk a0.heap.size).add 1) ∧
 thenW (e1.setCell ((blk a0.heap.size).add 1) (.int .i64 0)) fun dy =>
 canStore dy ((blk a0.heap.size).add 2) ∧
 thenW (dy.setCell ((blk a0.heap.size).add 2) (.int .u64 0)) fun e3 =>
 canStore e3 ((blk a0.heap.size).add 3) ∧
 thenW (e3.setCell ((blk a0.heap.size).add 3) (.int .i64 0)) fun dw =>
 canStore dw ((blk a0.heap.size).add 4) ∧
 thenW (dw.setCell ((blk a0.heap.size).add 4) (.int .i64 0)) fun e8 =>
 canStore e8 ((blk a0.heap.size).add 5) ∧
 thenW (e8.setCell ((blk a0.heap.size).add 5) (.int .i64 0)) fun el =>
 canStore el ((blk a0.heap.size).add 6) ∧
 thenW (el.setCell ((blk a0.heap.size).add 6) (.slice none 0 0)) fun ei =>
 canStore ei ((blk a0.heap.size).add 7) ∧
 thenW (ei.setCell ((blk a0.heap.size).add 7) (.int .u64 0)) fun ef =>
 ∃ (a3 : Int) (aj : Int) (b5 : Int) (bc : Int) (bn : Int) (ad : Int) (a8 : Option Addr) (am : Nat) (ak : Nat) (bw : Int), cellsAt ef (blk a0.heap.size) [.int .i64 a3, .int .i64 aj, .int .u64 b5, .int .i64 bc, .int .i64 bn, .int .i64 ad, .slice a8 am ak, .int .u64 bw] 0 ∧
 R (.tuple #[.agg #[.int .i64 a3, .int .i64 aj, .int .u64 b5, .int .i64 bc, .int .i64 bn, .int .i64 ad, .slice a8 am ak, .int .u64 bw], .int .i64 c6]) ef) else (
 ∃ (an : Int) (bm : Int) (cf : Int) (d2 : Int) (d8 : Int) (bk : Int) (c3 : Option Addr) (c2 : Nat) (bd : Nat) (d0 : Int), cellsAt d5 (blk a1.heap.size) [.int .i64 an, .int .i64 bm, .int .u64 cf, .int .i64 d2, .int .i64 d8, .int .i64 bk, .slice c3 c2 bd, .int .u64 d0] 0 ∧
 Calls Try.prog 37 #[.pointer l1, .agg #[.int .i64 an, .int .i64 bm, .int .u64 cf, .int .i64 d2, .int .i64 d8, .int .i64 bk, .slice c3 c2 bd, .int .u64 d0]] d5 fun fy di => fy = .returned (.tuple #[]) ∧
 ∃ (ar : Int) (bt : Int) (c8 : Int) (d3 : Int) (d7 : Int) (c0 : Int) (be : Option Addr) (br : Nat) (c4 : Nat) (cz : Int), cellsAt di (blk a1.heap.size) [.int .i64 ar, .int .i64 bt, .int .u64 c8, .int .i64 d3, .int .i64 d7, .int .i64 c0, .slice be br c4, .int .u64 cz] 0 ∧
 canStore di ((blk a0.heap.size).add 0) ∧
 thenW (di.setCell ((blk a0.heap.size).add 0) (.int .i64 ar)) fun ds =>
 canStore ds ((blk a0.heap.size).add 1) ∧
 thenW (ds.setCell ((blk a0.heap.size).add 1) (.int .i64 bt)) fun em =>
 canStore em ((blk a0.heap.size).add 2) ∧
 thenW (em.setCell ((blk a0.heap.size).add 2) (.int .u64 c8)) fun ec =>
 canStore ec ((blk a0.heap.size).add 3) ∧
 thenW (ec.setCell ((blk a0.heap.size).add 3) (.int .i64 d3)) fun dv =>
 canStore dv ((blk a0.heap.size).add 4) ∧
 thenW (dv.setCell ((blk a0.heap.size).add 4) (.int .i64 d7)) fun dx =>
 canStore dx ((blk a0.heap.size).add 5) ∧
 thenW (dx.setCell ((blk a0.heap.size).add 5) (.int .i64 c0)) fun eg =>
 canStore eg ((blk a0.heap.size).add 6) ∧
 thenW (eg.setCell ((blk a0.heap.size).add 6) (.slice be br c4)) fun ed =>
 canStore ed ((blk a0.heap.size).add 7) ∧
 thenW (ed.setCell ((blk a0.heap.size).add 7) (.int .u64 cz)) fun ee =>
 ∃ (a4 : Int) (ab : Int) (b8 : Int) (bf : Int) (bq : Int) (af : Int) (ah : Option Addr) (a7 : Nat) (ac : Nat) (bx : Int), cellsAt ee (blk a0.heap.size) [.int .i64 a4, .int .i64 ab, .int .u64 b8, .int .i64 bf, .int .i64 bq, .int .i64 af, .slice ah a7 ac, .int .u64 bx] 0 ∧
 R (.tuple #[.agg #[.int .i64 a4, .int .i64 ab, .int .u64 b8, .int .i64 bf, .int .i64 bq, .int .i64 af, .slice ah a7 ac, .int .u64 bx], .int .i64 0]) ee)))))

theorem chain_Log_Issue.eq (l1 : Option Addr) (secret2 : Int) (atT3 : Int) (atW4 : Int) (epoch5 : Int) (body6a : Option Addr) (body6n : Nat) (body6c : Nat) (R : Value → World → Prop) (w : World) : mfunc Try.prog [] 15 [.pointer l1, .int .u64 secret2, .agg #[.int .i64 atT3, .int .i64 atW4], .int .i64 epoch5, .slice body6a body6n body6c] R w = chain_Log_Issue.M l1 secret2 atT3 atW4 epoch5 body6a body6n body6c R w := by kernel_rfl
theorem chain_Log_Issue.ok (l1 : Option Addr) (a0 : Int) (a6 : Int) (a5 : Int) (a1 : Int) (a3 : Option Addr) (a2 : Nat) (a4 : Nat) {R : Value → World → Prop} {w : World} (h : chain_Log_Issue.M l1 a0 a6 a5 a1 a3 a2 a4 R w) : Calls Try.prog 15 #[.pointer l1, .int .u64 a0, .agg #[.int .i64 a6, .int .i64 a5], .int .i64 a1, .slice a3 a2 a4] w fun e w' => ∃ v, e = .returned v ∧ R v w' :=
  mfunc_ok follows (H := []) (args := [.pointer l1, .int .u64 a0, .agg #[.int .i64 a6, .int .i64 a5], .int .i64 a1, .slice a3 a2 a4]) (by rw [chain_Log_Issue.eq]; exact h)

def chain_Log_Issue.N (l1 : Option Addr) (aj : Int) (al : Int) (ak : Int) (a2 : Int) (a4 : Option Addr) (a6 : Nat) (aa : Nat) (R : Value → World → Prop) (w : World) : Prop :=
 (l1 = none →
 ∀ (b4 : World), Ext no w b4 →
 R (.tuple #[.agg #[.int .i64 0, .int .i64 0, .int .u64 0, .int .i64 0, .int .i64 0, .int .i64 0, .slice none 0 0, .int .u64 0], .int .i64 23]) b4) ∧
 (l1 ≠ none →
 ∃ az : Addr, l1 = some az ∧
 ∃ (b8 : Option Addr) (ax : Nat) (b7 : Nat), w.cell? (az.add 3) = some (.slice b8 ax b7) ∧
 ((ax : Int) ≥ 200 →
 ∀ (b1 : World), Ext no w b1 →
 R (.tuple #[.agg #[.int .i64 0, .int .i64 0, .int .u64 0, .int .i64 0, .int .i64 0, .int .i64 0, .slice none 0 0, .int .u64 0], .int .i64 3]) b1) ∧
 ((ax : Int) < 200 →
 ∃ (ai : Int), w.cell? (az.add 1) = some (.int .i64 ai) ∧
 ∃ (b5 : Option Addr) (af : Nat) (ba : Nat), w.cell? (az.add 3) = some (.slice b5 af ba) ∧
 ∃ (ac : Int), w.cell? (az.add 4) = some (.int .u64 ac) ∧
 ((entry_Right.F ai (af : Int) ac al ak a2 a4 a6 aa 0) = false →
 ∀ (b0 : World), Ext no w b0 →
 R (.tuple #[.agg #[.int .i64 0, .int .i64 0, .int .u64 0, .int .i64 0, .int .i64 0, .int .i64 0, .slice none 0 0, .int .u64 0], .int .i64 1]) b0) ∧
 ((entry_Right.F ai (af : Int) ac al ak a2 a4 a6 aa 0) = true →
 ∀ (am : World) (ar : Nat) (ay : Nat), Ext no w am → Priv w am [ar, ay] →
 Calls Try.prog 35 #[.pointer l1, .agg #[.int .i64 ai, .int .i64 (af : Int), .int .u64 ac, .int .i64 al, .int .i64 ak, .int .i64 a2, .slice a4 a6 aa, .int .u64 0]] am fun b6 an => ∃ (a0 : Int), b6 = .returned (.int .i64 a0) ∧
 Keep [ar, ay] am an ∧
 (a0 ≠ 0 →
 ∀ (b2 : World), Ext (fun b => b = ar) an b2 →
 R (.tuple #[.agg #[.int .i64 0, .int .i64 0, .int .u64 0, .int .i64 0, .int .i64 0, .int .i64 0, .slice none 0 0, .int .u64 0], .int .i64 a0]) b2) ∧
 (a0 = 0 →
 ∃ (bb : Option Addr), an.cell? (az.add 0) = some (.pointer bb) ∧
 ∀ (au : World), Ext no an au →
 Calls Try.prog 36 #[.pointer bb, .int .u64 aj, .agg #[.int .i64 ai, .int .i64 (af : Int), .int .u64 ac, .int .i64 al, .int .i64 ak, .int .i64 a2, .slice a4 a6 aa, .int .u64 0]] au fun b9 av => ∃ (a1 : Int) (ab : Int) (ad : Int) (ah : Int) (ae : Int) (a8 : Int) (a7 : Option Addr) (a3 : Nat) (a5 : Nat) (ag : Int) (a9 : Int), b9 = .returned (.tuple #[.agg #[.int .i64 a1, .int .i64 ab, .int .u64 ad, .int .i64 ah, .int .i64 ae, .int .i64 a8, .slice a7 a3 a5, .int .u64 ag], .int .i64 a9]) ∧
 Keep [ar, ay] au av ∧
 (a9 ≠ 0 →
 ∀ (aq : World), Ext (fun b => b = ar ∨ b = ay) av aq →
 R (.tuple #[.agg #[.int .i64 0, .int .i64 0, .int .u64 0, .int .i64 0, .int .i64 0, .int .i64 0, .slice none 0 0, .int .u64 0], .int .i64 a9]) aq) ∧
 (a9 = 0 →
 ∀ (aw : World), Ext (fun b => b = ay) av aw →
 Calls Try.prog 37 #[.pointer l1, .agg #[.int .i64 a1, .int .i64 ab, .int .u64 ad, .int .i64 ah, .int .i64 ae, .int .i64 a8, .slice a7 a3 a5, .int .u64 ag]] aw fun b3 ao => b3 = .returned (.tuple #[]) ∧
 Keep [ar, ay] aw ao ∧
 ∀ (ap : World), Ext (fun b => b = ar) ao ap →
 R (.tuple #[.agg #[.int .i64 a1, .int .i64 ab, .int .u64 ad, .int .i64 ah, .int .i64 ae, .int .i64 a8, .slice a7 a3 a5, .int .u64 ag], .int .i64 0]) ap)))))

theorem chain_Log_Issue.up (l1 : Option Addr) (ap : Int) (ak : Int) (aj : Int) (a8 : Int) (a9 : Option Addr) (a7 : Nat) (aa : Nat) {R : Value → World → Prop} {w : World} (h : chain_Log_Issue.N l1 ap ak aj a8 a9 a7 aa R w) : chain_Log_Issue.M l1 ap ak aj a8 a9 a7 aa R w := by
  unfold chain_Log_Issue.M
  unfold chain_Log_Issue.N at h
  refine thenW_in fun a3 e7 => ?_
  have aq := Blk.of_new e7
  have io := ((Ext.refl no w)).size
  have i5 := (Ext.refl no w).x_alloc e7
  refine thenW_in fun il e8 => ?_
  have a0 := Blk.of_new e8
  have an := (i5).size
  have ic := Nat.ne_of_lt aq.lt
  have aq := aq.x_alloc e8
  have cu := i5.x_alloc e8
  refine bif_of (fun c9 => ?_) (fun c9 => ?_)
  · have h := h.1 (isNone_t c9)
    refine ⟨a0.cani 0 rfl rfl, thenW_in fun fr gj => ?_⟩
    have dh := cu.x_set (q := a3.heap.size) (i := 0) rfl (.inr an) gj
    have a0 : Blk fr a3.heap.size 47 [.int .i64 0, .int .i64 0, .int .u64 0, .int .i64 0, .int .i64 0, .int .i64 0, .slice none 0 0, .int .u64 0] := a0.seti 0 rfl gj
    refine ⟨a0.cani 1 rfl rfl, thenW_in fun d6 gt => ?_⟩
    have fy := dh.x_set (q := a3.heap.size) (i := 1) rfl (.inr an) gt
    have a0 : Blk d6 a3.heap.size 47 [.int .i64 0, .int .i64 0, .int .u64 0, .int .i64 0, .int .i64 0, .int .i64 0, .slice none 0 0, .int .u64 0] := a0.seti 1 rfl gt
    refine ⟨a0.cani 2 rfl rfl, thenW_in fun fw ig => ?_⟩
    have g5 := fy.x_set (q := a3.heap.size) (i := 2) rfl (.inr an) ig
    have a0 : Blk fw a3.heap.size 47 [.int .i64 0, .int .i64 0, .int .u64 0, .int .i64 0, .int .i64 0, .int .i64 0, .slice none 0 0, .int .u64 0] := a0.seti 2 rfl ig
    refine ⟨a0.cani 3 rfl rfl, thenW_in fun fs gy => ?_⟩
    have fx := g5.x_set (q := a3.heap.size) (i := 3) rfl (.inr an) gy
    have a0 : Blk fs a3.heap.size 47 [.int .i64 0, .int .i64 0, .int .u64 0, .int .i64 0, .int .i64 0, .int .i64 0, .slice none 0 0, .int .u64 0] := a0.seti 3 rfl gy
    refine ⟨a0.cani 4 rfl rfl, thenW_in fun cy gx => ?_⟩
    have eg := fx.x_set (q := a3.heap.size) (i := 4) rfl (.inr an) gx
    have a0 : Blk cy a3.heap.size 47 [.int .i64 0, .int .i64 0, .int .u64 0, .int .i64 0, .int .i64 0, .int .i64 0, .slice none 0 0, .int .u64 0] := a0.seti 4 rfl gx
    refine ⟨a0.cani 5 rfl rfl, thenW_in fun e2 i0 => ?_⟩
    have e9 := eg.x_set (q := a3.heap.size) (i := 5) rfl (.inr an) i0
    have a0 : Blk e2 a3.heap.size 47 [.int .i64 0, .int .i64 0, .int .u64 0, .int .i64 0, .int .i64 0, .int .i64 0, .slice none 0 0, .int .u64 0] := a0.seti 5 rfl i0
    refine ⟨a0.cani 6 rfl rfl, thenW_in fun ex gg => ?_⟩
    have f6 := e9.x_set (q := a3.heap.size) (i := 6) rfl (.inr an) gg
    have a0 : Blk ex a3.heap.size 47 [.int .i64 0, .int .i64 0, .int .u64 0, .int .i64 0, .int .i64 0, .int .i64 0, .slice none 0 0, .int .u64 0] := a0.seti 6 rfl gg
    refine ⟨a0.cani 7 rfl rfl, thenW_in fun cf i9 => ?_⟩
    have fz := f6.x_set (q := a3.heap.size) (i := 7) rfl (.inr an) i9
    have a0 : Blk cf a3.heap.size 47 [.int .i64 0, .int .i64 0, .int .u64 0, .int .i64 0, .int .i64 0, .int .i64 0, .slice none 0 0, .int .u64 0] := a0.seti 7 rfl i9
    refine ⟨0, 0, 0, 0, 0, 0, none, 0, 0, 0, ⟨a0.celli 0 rfl rfl, a0.celli 1 rfl rfl, a0.celli 2 rfl rfl, a0.celli 3 rfl rfl, a0.celli 4 rfl rfl, a0.celli 5 rfl rfl, a0.celli 6 rfl rfl, a0.celli 7 rfl rfl, trivial⟩, ?_⟩
    have h := h cf fz
    exact h
  · have h := h.2 (isNone_f c9)
    obtain ⟨im, aw, h⟩ := h
    refine elim_some aw ?_
    obtain ⟨g0, f3, fp, dk, h⟩ := h
    refine ⟨g0, f3, fp, (cu).cell dk id, ?_⟩
    refine bif_of (fun dl => ?_) (fun dl => ?_)
    · have h := h.1 (of_decide_eq_true dl)
      refine ⟨a0.cani 0 rfl rfl, thenW_in fun ei gn => ?_⟩
      have fo := cu.x_set (q := a3.heap.size) (i := 0) rfl (.inr an) gn
      have a0 : Blk ei a3.heap.size 47 [.int .i64 0, .int .i64 0, .int .u64 0, .int .i64 0, .int .i64 0, .int .i64 0, .slice none 0 0, .int .u64 0] := a0.seti 0 rfl gn
      refine ⟨a0.cani 1 rfl rfl, thenW_in fun ft i3 => ?_⟩
      have ev := fo.x_set (q := a3.heap.size) (i := 1) rfl (.inr an) i3
      have a0 : Blk ft a3.heap.size 47 [.int .i64 0, .int .i64 0, .int .u64 0, .int .i64 0, .int .i64 0, .int .i64 0, .slice none 0 0, .int .u64 0] := a0.seti 1 rfl i3
      refine ⟨a0.cani 2 rfl rfl, thenW_in fun dy gw => ?_⟩
      have d8 := ev.x_set (q := a3.heap.size) (i := 2) rfl (.inr an) gw
      have a0 : Blk dy a3.heap.size 47 [.int .i64 0, .int .i64 0, .int .u64 0, .int .i64 0, .int .i64 0, .int .i64 0, .slice none 0 0, .int .u64 0] := a0.seti 2 rfl gw
      refine ⟨a0.cani 3 rfl rfl, thenW_in fun fg ie => ?_⟩
      have eb := d8.x_set (q := a3.heap.size) (i := 3) rfl (.inr an) ie
      have a0 : Blk fg a3.heap.size 47 [.int .i64 0, .int .i64 0, .int .u64 0, .int .i64 0, .int .i64 0, .int .i64 0, .slice none 0 0, .int .u64 0] := a0.seti 3 rfl ie
      refine ⟨a0.cani 4 rfl rfl, thenW_in fun e1 gr => ?_⟩
      have dq := eb.x_set (q := a3.heap.size) (i := 4) rfl (.inr an) gr
      have a0 : Blk e1 a3.heap.size 47 [.int .i64 0, .int .i64 0, .int .u64 0, .int .i64 0, .int .i64 0, .int .i64 0, .slice none 0 0, .int .u64 0] := a0.seti 4 rfl gr
      refine ⟨a0.cani 5 rfl rfl, thenW_in fun eh i4 => ?_⟩
      have ew := dq.x_set (q := a3.heap.size) (i := 5) rfl (.inr an) i4
      have a0 : Blk eh a3.heap.size 47 [.int .i64 0, .int .i64 0, .int .u64 0, .int .i64 0, .int .i64 0, .int .i64 0, .slice none 0 0, .int .u64 0] := a0.seti 5 rfl i4
      refine ⟨a0.cani 6 rfl rfl, thenW_in fun gd ge => ?_⟩
      have ep := ew.x_set (q := a3.heap.size) (i := 6) rfl (.inr an) ge
      have a0 : Blk gd a3.heap.size 47 [.int .i64 0, .int .i64 0, .int .u64 0, .int .i64 0, .int .i64 0, .int .i64 0, .slice none 0 0, .int .u64 0] := a0.seti 6 rfl ge
      refine ⟨a0.cani 7 rfl rfl, thenW_in fun bn gf => ?_⟩
      have fb := ep.x_set (q := a3.heap.size) (i := 7) rfl (.inr an) gf
      have a0 : Blk bn a3.heap.size 47 [.int .i64 0, .int .i64 0, .int .u64 0, .int .i64 0, .int .i64 0, .int .i64 0, .slice none 0 0, .int .u64 0] := a0.seti 7 rfl gf
      refine ⟨0, 0, 0, 0, 0, 0, none, 0, 0, 0, ⟨a0.celli 0 rfl rfl, a0.celli 1 rfl rfl, a0.celli 2 rfl rfl, a0.celli 3 rfl rfl, a0.celli 4 rfl rfl, a0.celli 5 rfl rfl, a0.celli 6 rfl rfl, a0.celli 7 rfl rfl, trivial⟩, ?_⟩
      have h := h bn fb
      exact h
    · have h := h.2 (Int.not_le.1 (of_decide_eq_false dl))
      refine thenW_in fun a2 et => ?_
      have au := cu.x_drew et
      have aq := aq.x_drew et
      have a0 := a0.x_drew et
      refine elim_some aw ?_
      obtain ⟨am, bb, h⟩ := h
      refine ⟨am, (au).cell bb id, ?_⟩
      refine elim_some aw ?_
      obtain ⟨fd, al, gb, cc, h⟩ := h
      refine ⟨fd, al, gb, (au).cell cc id, ?_⟩
      refine elim_some aw ?_
      obtain ⟨ad, bv, h⟩ := h
      refine ⟨ad, (au).cell bv id, ?_⟩
      refine ⟨ak, aj, ⟨aq.celli 0 rfl rfl, aq.celli 1 rfl rfl, trivial⟩, ?_⟩
      refine thenW_in fun ik cv => ?_
      have a4 := Blk.of_new cv
      have b0 := (au).size
      have i7 := Nat.ne_of_lt aq.lt
      have aq := aq.x_alloc cv
      have ac := Nat.ne_of_lt a0.lt
      have a0 := a0.x_alloc cv
      have ax := au.x_alloc cv
      refine ⟨⟨aq.celli 0 rfl rfl, aq.celli 1 rfl rfl, trivial⟩, (ax).cell bv id, (ax).cell cc id, (ax).cell bb id, ?_⟩
      refine ⟨a4.cani 0 rfl rfl, thenW_in fun da fe => ?_⟩
      have f7 := ax.x_set (q := a2.heap.size) (i := 0) rfl (.inr b0) fe
      have a0 := a0.oth (q := a2.heap.size) (i := 0) rfl ac fe
      have a4 : Blk da a2.heap.size 47 [.int .i64 am, .int .i64 0, .int .u64 0, .int .i64 0, .int .i64 0, .int .i64 0, .slice none 0 0, .int .u64 0] := a4.seti 0 rfl fe
      refine ⟨a4.cani 1 rfl rfl, thenW_in fun dw ga => ?_⟩
      have d1 := f7.x_set (q := a2.heap.size) (i := 1) rfl (.inr b0) ga
      have a0 := a0.oth (q := a2.heap.size) (i := 1) rfl ac ga
      have a4 : Blk dw a2.heap.size 47 [.int .i64 am, .int .i64 (al : Int), .int .u64 0, .int .i64 0, .int .i64 0, .int .i64 0, .slice none 0 0, .int .u64 0] := a4.seti 1 rfl ga
      refine ⟨a4.cani 2 rfl rfl, thenW_in fun es g6 => ?_⟩
      have d5 := d1.x_set (q := a2.heap.size) (i := 2) rfl (.inr b0) g6
      have a0 := a0.oth (q := a2.heap.size) (i := 2) rfl ac g6
      have a4 : Blk es a2.heap.size 47 [.int .i64 am, .int .i64 (al : Int), .int .u64 ad, .int .i64 0, .int .i64 0, .int .i64 0, .slice none 0 0, .int .u64 0] := a4.seti 2 rfl g6
      refine ⟨a4.cani 3 rfl rfl, thenW_in fun g4 g1 => ?_⟩
      have eo := d5.x_set (q := a2.heap.size) (i := 3) rfl (.inr b0) g1
      have a0 := a0.oth (q := a2.heap.size) (i := 3) rfl ac g1
      have a4 : Blk g4 a2.heap.size 47 [.int .i64 am, .int .i64 (al : Int), .int .u64 ad, .int .i64 ak, .int .i64 0, .int .i64 0, .slice none 0 0, .int .u64 0] := a4.seti 3 rfl g1
      refine ⟨a4.cani 4 rfl rfl, thenW_in fun db f8 => ?_⟩
      have g7 := eo.x_set (q := a2.heap.size) (i := 4) rfl (.inr b0) f8
      have a0 := a0.oth (q := a2.heap.size) (i := 4) rfl ac f8
      have a4 : Blk db a2.heap.size 47 [.int .i64 am, .int .i64 (al : Int), .int .u64 ad, .int .i64 ak, .int .i64 aj, .int .i64 0, .slice none 0 0, .int .u64 0] := a4.seti 4 rfl f8
      refine ⟨a4.cani 5 rfl rfl, thenW_in fun dc ef => ?_⟩
      have em := g7.x_set (q := a2.heap.size) (i := 5) rfl (.inr b0) ef
      have a0 := a0.oth (q := a2.heap.size) (i := 5) rfl ac ef
      have a4 : Blk dc a2.heap.size 47 [.int .i64 am, .int .i64 (al : Int), .int .u64 ad, .int .i64 ak, .int .i64 aj, .int .i64 a8, .slice none 0 0, .int .u64 0] := a4.seti 5 rfl ef
      refine ⟨a4.cani 6 rfl rfl, thenW_in fun er dj => ?_⟩
      have f9 := em.x_set (q := a2.heap.size) (i := 6) rfl (.inr b0) dj
      have a0 := a0.oth (q := a2.heap.size) (i := 6) rfl ac dj
      have a4 : Blk er a2.heap.size 47 [.int .i64 am, .int .i64 (al : Int), .int .u64 ad, .int .i64 ak, .int .i64 aj, .int .i64 a8, .slice a9 a7 aa, .int .u64 0] := a4.seti 6 rfl dj
      refine ⟨a4.cani 7 rfl rfl, thenW_in fun dv dm => ?_⟩
      have f5 := f9.x_set (q := a2.heap.size) (i := 7) rfl (.inr b0) dm
      have a0 := a0.oth (q := a2.heap.size) (i := 7) rfl ac dm
      have a4 : Blk dv a2.heap.size 47 [.int .i64 am, .int .i64 (al : Int), .int .u64 ad, .int .i64 ak, .int .i64 aj, .int .i64 a8, .slice a9 a7 aa, .int .u64 0] := a4.seti 7 rfl dm
      refine ⟨am, (al : Int), ad, ak, aj, a8, a9, a7, aa, 0, ⟨a4.celli 0 rfl rfl, a4.celli 1 rfl rfl, a4.celli 2 rfl rfl, a4.celli 3 rfl rfl, a4.celli 4 rfl rfl, a4.celli 5 rfl rfl, a4.celli 6 rfl rfl, a4.celli 7 rfl rfl, trivial⟩, ?_⟩
      refine (entry_Right.pure am (al : Int) ad ak aj a8 a9 a7 aa 0).mono fun ee ww50 ⟨he, hxx⟩ => ⟨(entry_Right.F am (al : Int) ad ak aj a8 a9 a7 aa 0), he, ?_⟩
      have cl := f5.trans hxx
      have a0 := a0.ext hxx id
      have a4 := a4.ext hxx id
      refine bif_of (fun g2 => ?_) (fun g2 => ?_)
      · have h := h.1 (not_t g2)
        refine ⟨a0.cani 0 rfl rfl, thenW_in fun dd gu => ?_⟩
        have d4 := cl.x_set (q := a3.heap.size) (i := 0) rfl (.inr an) gu
        have a0 : Blk dd a3.heap.size 47 [.int .i64 0, .int .i64 0, .int .u64 0, .int .i64 0, .int .i64 0, .int .i64 0, .slice none 0 0, .int .u64 0] := a0.seti 0 rfl gu
        refine ⟨a0.cani 1 rfl rfl, thenW_in fun dt gh => ?_⟩
        have f2 := d4.x_set (q := a3.heap.size) (i := 1) rfl (.inr an) gh
        have a0 : Blk dt a3.heap.size 47 [.int .i64 0, .int .i64 0, .int .u64 0, .int .i64 0, .int .i64 0, .int .i64 0, .slice none 0 0, .int .u64 0] := a0.seti 1 rfl gh
        refine ⟨a0.cani 2 rfl rfl, thenW_in fun e3 gz => ?_⟩
        have fl := f2.x_set (q := a3.heap.size) (i := 2) rfl (.inr an) gz
        have a0 : Blk e3 a3.heap.size 47 [.int .i64 0, .int .i64 0, .int .u64 0, .int .i64 0, .int .i64 0, .int .i64 0, .slice none 0 0, .int .u64 0] := a0.seti 2 rfl gz
        refine ⟨a0.cani 3 rfl rfl, thenW_in fun de i6 => ?_⟩
        have cw := fl.x_set (q := a3.heap.size) (i := 3) rfl (.inr an) i6
        have a0 : Blk de a3.heap.size 47 [.int .i64 0, .int .i64 0, .int .u64 0, .int .i64 0, .int .i64 0, .int .i64 0, .slice none 0 0, .int .u64 0] := a0.seti 3 rfl i6
        refine ⟨a0.cani 4 rfl rfl, thenW_in fun d3 gi => ?_⟩
        have ez := cw.x_set (q := a3.heap.size) (i := 4) rfl (.inr an) gi
        have a0 : Blk d3 a3.heap.size 47 [.int .i64 0, .int .i64 0, .int .u64 0, .int .i64 0, .int .i64 0, .int .i64 0, .slice none 0 0, .int .u64 0] := a0.seti 4 rfl gi
        refine ⟨a0.cani 5 rfl rfl, thenW_in fun dz gp => ?_⟩
        have el := ez.x_set (q := a3.heap.size) (i := 5) rfl (.inr an) gp
        have a0 : Blk dz a3.heap.size 47 [.int .i64 0, .int .i64 0, .int .u64 0, .int .i64 0, .int .i64 0, .int .i64 0, .slice none 0 0, .int .u64 0] := a0.seti 5 rfl gp
        refine ⟨a0.cani 6 rfl rfl, thenW_in fun eq ib => ?_⟩
        have ea := el.x_set (q := a3.heap.size) (i := 6) rfl (.inr an) ib
        have a0 : Blk eq a3.heap.size 47 [.int .i64 0, .int .i64 0, .int .u64 0, .int .i64 0, .int .i64 0, .int .i64 0, .slice none 0 0, .int .u64 0] := a0.seti 6 rfl ib
        refine ⟨a0.cani 7 rfl rfl, thenW_in fun ci ia => ?_⟩
        have fu := ea.x_set (q := a3.heap.size) (i := 7) rfl (.inr an) ia
        have a0 : Blk ci a3.heap.size 47 [.int .i64 0, .int .i64 0, .int .u64 0, .int .i64 0, .int .i64 0, .int .i64 0, .slice none 0 0, .int .u64 0] := a0.seti 7 rfl ia
        refine ⟨0, 0, 0, 0, 0, 0, none, 0, 0, 0, ⟨a0.celli 0 rfl rfl, a0.celli 1 rfl rfl, a0.celli 2 rfl rfl, a0.celli 3 rfl rfl, a0.celli 4 rfl rfl, a0.celli 5 rfl rfl, a0.celli 6 rfl rfl, a0.celli 7 rfl rfl, trivial⟩, ?_⟩
        have h := h ci fu
        exact h
      · have h := h.2 (not_f g2)
        refine ⟨am, (al : Int), ad, ak, aj, a8, a9, a7, aa, 0, ⟨a4.celli 0 rfl rfl, a4.celli 1 rfl rfl, a4.celli 2 rfl rfl, a4.celli 3 rfl rfl, a4.celli 4 rfl rfl, a4.celli 5 rfl rfl, a4.celli 6 rfl rfl, a4.celli 7 rfl rfl, trivial⟩, ?_⟩
        have h := h ww50 (a3.heap.size) (a2.heap.size) cl (Priv.cons an a0.lt (Priv.cons b0 a4.lt Priv.nil))
        refine h.mono fun ih az h => ?_
        obtain ⟨av, he, hk, h⟩ := h
        refine ⟨av, he, ?_⟩
        have a0 := hk.blk a0 (by simp)
        have a4 := hk.blk a4 (by simp)
        refine bif_of (fun d7 => ?_) (fun d7 => ?_)
        · have h := h.1 (bne_t d7)
          have dx : Ext (fun b => b = a3.heap.size) az az := ((Ext.refl no az)).none
          refine ⟨a0.cani 0 rfl rfl, thenW_in fun f0 i1 => ?_⟩
          have gc := dx.x_set (q := a3.heap.size) (i := 0) rfl (.inl rfl) i1
          have a0 : Blk f0 a3.heap.size 47 [.int .i64 0, .int .i64 0, .int .u64 0, .int .i64 0, .int .i64 0, .int .i64 0, .slice none 0 0, .int .u64 0] := a0.seti 0 rfl i1
          refine ⟨a0.cani 1 rfl rfl, thenW_in fun cx gl => ?_⟩
          have fj := gc.x_set (q := a3.heap.size) (i := 1) rfl (.inl rfl) gl
          have a0 : Blk cx a3.heap.size 47 [.int .i64 0, .int .i64 0, .int .u64 0, .int .i64 0, .int .i64 0, .int .i64 0, .slice none 0 0, .int .u64 0] := a0.seti 1 rfl gl
          refine ⟨a0.cani 2 rfl rfl, thenW_in fun d0 i2 => ?_⟩
          have dg := fj.x_set (q := a3.heap.size) (i := 2) rfl (.inl rfl) i2
          have a0 : Blk d0 a3.heap.size 47 [.int .i64 0, .int .i64 0, .int .u64 0, .int .i64 0, .int .i64 0, .int .i64 0, .slice none 0 0, .int .u64 0] := a0.seti 2 rfl i2
          refine ⟨a0.cani 3 rfl rfl, thenW_in fun e5 i8 => ?_⟩
          have g8 := dg.x_set (q := a3.heap.size) (i := 3) rfl (.inl rfl) i8
          have a0 : Blk e5 a3.heap.size 47 [.int .i64 0, .int .i64 0, .int .u64 0, .int .i64 0, .int .i64 0, .int .i64 0, .slice none 0 0, .int .u64 0] := a0.seti 3 rfl i8
          refine ⟨a0.cani 4 rfl rfl, thenW_in fun dp gv => ?_⟩
          have du := g8.x_set (q := a3.heap.size) (i := 4) rfl (.inl rfl) gv
          have a0 : Blk dp a3.heap.size 47 [.int .i64 0, .int .i64 0, .int .u64 0, .int .i64 0, .int .i64 0, .int .i64 0, .slice none 0 0, .int .u64 0] := a0.seti 4 rfl gv
          refine ⟨a0.cani 5 rfl rfl, thenW_in fun eu gq => ?_⟩
          have df := du.x_set (q := a3.heap.size) (i := 5) rfl (.inl rfl) gq
          have a0 : Blk eu a3.heap.size 47 [.int .i64 0, .int .i64 0, .int .u64 0, .int .i64 0, .int .i64 0, .int .i64 0, .slice none 0 0, .int .u64 0] := a0.seti 5 rfl gq
          refine ⟨a0.cani 6 rfl rfl, thenW_in fun ej gm => ?_⟩
          have g9 := df.x_set (q := a3.heap.size) (i := 6) rfl (.inl rfl) gm
          have a0 : Blk ej a3.heap.size 47 [.int .i64 0, .int .i64 0, .int .u64 0, .int .i64 0, .int .i64 0, .int .i64 0, .slice none 0 0, .int .u64 0] := a0.seti 6 rfl gm
          refine ⟨a0.cani 7 rfl rfl, thenW_in fun bp gk => ?_⟩
          have e0 := g9.x_set (q := a3.heap.size) (i := 7) rfl (.inl rfl) gk
          have a0 : Blk bp a3.heap.size 47 [.int .i64 0, .int .i64 0, .int .u64 0, .int .i64 0, .int .i64 0, .int .i64 0, .slice none 0 0, .int .u64 0] := a0.seti 7 rfl gk
          refine ⟨0, 0, 0, 0, 0, 0, none, 0, 0, 0, ⟨a0.celli 0 rfl rfl, a0.celli 1 rfl rfl, a0.celli 2 rfl rfl, a0.celli 3 rfl rfl, a0.celli 4 rfl rfl, a0.celli 5 rfl rfl, a0.celli 6 rfl rfl, a0.celli 7 rfl rfl, trivial⟩, ?_⟩
          have h := h bp e0
          exact h
        · have h := h.2 (bne_f d7)
          refine thenW_in fun ey e4 => ?_
          have cr := (Ext.refl no az).x_drew e4
          have a0 := a0.x_drew e4
          have a4 := a4.x_drew e4
          refine elim_some aw ?_
          obtain ⟨ii, dr, h⟩ := h
          refine ⟨ii, (cr).cell dr id, ?_⟩
          refine ⟨am, (al : Int), ad, ak, aj, a8, a9, a7, aa, 0, ⟨a4.celli 0 rfl rfl, a4.celli 1 rfl rfl, a4.celli 2 rfl rfl, a4.celli 3 rfl rfl, a4.celli 4 rfl rfl, a4.celli 5 rfl rfl, a4.celli 6 rfl rfl, a4.celli 7 rfl rfl, trivial⟩, ?_⟩
          have h := h ey cr
          refine h.mono fun ij ay h => ?_
          obtain ⟨a1, a5, a6, ah, ai, ab, ae, af, ag, ao, b5, he, hk, h⟩ := h
          refine ⟨a1, a5, a6, ah, ai, ab, ae, af, ag, ao, b5, he, ?_⟩
          have a0 := hk.blk a0 (by simp)
          have a4 := hk.blk a4 (by simp)
          have en : Ext (fun b => b = a2.heap.size) ay ay := ((Ext.refl no ay)).none
          refine ⟨a4.cani 0 rfl rfl, thenW_in fun fq fi => ?_⟩
          have dn := en.x_set (q := a2.heap.size) (i := 0) rfl (.inl rfl) fi
          have a0 := a0.oth (q := a2.heap.size) (i := 0) rfl ac fi
          have a4 : Blk fq a2.heap.size 47 [.int .i64 a1, .int .i64 (al : Int), .int .u64 ad, .int .i64 ak, .int .i64 aj, .int .i64 a8, .slice a9 a7 aa, .int .u64 0] := a4.seti 0 rfl fi
          refine ⟨a4.cani 1 rfl rfl, thenW_in fun fa fv => ?_⟩
          have e6 := dn.x_set (q := a2.heap.size) (i := 1) rfl (.inl rfl) fv
          have a0 := a0.oth (q := a2.heap.size) (i := 1) rfl ac fv
          have a4 : Blk fa a2.heap.size 47 [.int .i64 a1, .int .i64 a5, .int .u64 ad, .int .i64 ak, .int .i64 aj, .int .i64 a8, .slice a9 a7 aa, .int .u64 0] := a4.seti 1 rfl fv
          refine ⟨a4.cani 2 rfl rfl, thenW_in fun g3 ds => ?_⟩
          have f4 := e6.x_set (q := a2.heap.size) (i := 2) rfl (.inl rfl) ds
          have a0 := a0.oth (q := a2.heap.size) (i := 2) rfl ac ds
          have a4 : Blk g3 a2.heap.size 47 [.int .i64 a1, .int .i64 a5, .int .u64 a6, .int .i64 ak, .int .i64 aj, .int .i64 a8, .slice a9 a7 aa, .int .u64 0] := a4.seti 2 rfl ds
          refine ⟨a4.cani 3 rfl rfl, thenW_in fun d2 fm => ?_⟩
          have d9 := f4.x_set (q := a2.heap.size) (i := 3) rfl (.inl rfl) fm
          have a0 := a0.oth (q := a2.heap.size) (i := 3) rfl ac fm
          have a4 : Blk d2 a2.heap.size 47 [.int .i64 a1, .int .i64 a5, .int .u64 a6, .int .i64 ah, .int .i64 aj, .int .i64 a8, .slice a9 a7 aa, .int .u64 0] := a4.seti 3 rfl fm
          refine ⟨a4.cani 4 rfl rfl, thenW_in fun di ek => ?_⟩
          have f1 := d9.x_set (q := a2.heap.size) (i := 4) rfl (.inl rfl) ek
          have a0 := a0.oth (q := a2.heap.size) (i := 4) rfl ac ek
          have a4 : Blk di a2.heap.size 47 [.int .i64 a1, .int .i64 a5, .int .u64 a6, .int .i64 ah, .int .i64 ai, .int .i64 a8, .slice a9 a7 aa, .int .u64 0] := a4.seti 4 rfl ek
          refine ⟨a4.cani 5 rfl rfl, thenW_in fun fh ff => ?_⟩
          have ec := f1.x_set (q := a2.heap.size) (i := 5) rfl (.inl rfl) ff
          have a0 := a0.oth (q := a2.heap.size) (i := 5) rfl ac ff
          have a4 : Blk fh a2.heap.size 47 [.int .i64 a1, .int .i64 a5, .int .u64 a6, .int .i64 ah, .int .i64 ai, .int .i64 ab, .slice a9 a7 aa, .int .u64 0] := a4.seti 5 rfl ff
          refine ⟨a4.cani 6 rfl rfl, thenW_in fun fc fk => ?_⟩
          have cz := ec.x_set (q := a2.heap.size) (i := 6) rfl (.inl rfl) fk
          have a0 := a0.oth (q := a2.heap.size) (i := 6) rfl ac fk
          have a4 : Blk fc a2.heap.size 47 [.int .i64 a1, .int .i64 a5, .int .u64 a6, .int .i64 ah, .int .i64 ai, .int .i64 ab, .slice ae af ag, .int .u64 0] := a4.seti 6 rfl fk
          refine ⟨a4.cani 7 rfl rfl, thenW_in fun b4 ed => ?_⟩
          have bs := cz.x_set (q := a2.heap.size) (i := 7) rfl (.inl rfl) ed
          have a0 := a0.oth (q := a2.heap.size) (i := 7) rfl ac ed
          have a4 : Blk b4 a2.heap.size 47 [.int .i64 a1, .int .i64 a5, .int .u64 a6, .int .i64 ah, .int .i64 ai, .int .i64 ab, .slice ae af ag, .int .u64 ao] := a4.seti 7 rfl ed
          refine bif_of (fun b3 => ?_) (fun b3 => ?_)
          · have h := h.1 (bne_t b3)
            have c7 : Ext (fun b => b = a3.heap.size ∨ b = a2.heap.size) ay b4 := (bs).mono fun _ h _ => .inr h
            refine ⟨a0.cani 0 rfl rfl, thenW_in fun cd bm => ?_⟩
            have c4 := c7.x_set (q := a3.heap.size) (i := 0) rfl (.inl (.inl rfl)) bm
            have a0 : Blk cd a3.heap.size 47 [.int .i64 0, .int .i64 0, .int .u64 0, .int .i64 0, .int .i64 0, .int .i64 0, .slice none 0 0, .int .u64 0] := a0.seti 0 rfl bm
            refine ⟨a0.cani 1 rfl rfl, thenW_in fun c0 bh => ?_⟩
            have c8 := c4.x_set (q := a3.heap.size) (i := 1) rfl (.inl (.inl rfl)) bh
            have a0 : Blk c0 a3.heap.size 47 [.int .i64 0, .int .i64 0, .int .u64 0, .int .i64 0, .int .i64 0, .int .i64 0, .slice none 0 0, .int .u64 0] := a0.seti 1 rfl bh
            refine ⟨a0.cani 2 rfl rfl, thenW_in fun c1 cj => ?_⟩
            have b6 := c8.x_set (q := a3.heap.size) (i := 2) rfl (.inl (.inl rfl)) cj
            have a0 : Blk c1 a3.heap.size 47 [.int .i64 0, .int .i64 0, .int .u64 0, .int .i64 0, .int .i64 0, .int .i64 0, .slice none 0 0, .int .u64 0] := a0.seti 2 rfl cj
            refine ⟨a0.cani 3 rfl rfl, thenW_in fun c5 cs => ?_⟩
            have c2 := b6.x_set (q := a3.heap.size) (i := 3) rfl (.inl (.inl rfl)) cs
            have a0 : Blk c5 a3.heap.size 47 [.int .i64 0, .int .i64 0, .int .u64 0, .int .i64 0, .int .i64 0, .int .i64 0, .slice none 0 0, .int .u64 0] := a0.seti 3 rfl cs
            refine ⟨a0.cani 4 rfl rfl, thenW_in fun bx bw => ?_⟩
            have be := c2.x_set (q := a3.heap.size) (i := 4) rfl (.inl (.inl rfl)) bw
            have a0 : Blk bx a3.heap.size 47 [.int .i64 0, .int .i64 0, .int .u64 0, .int .i64 0, .int .i64 0, .int .i64 0, .slice none 0 0, .int .u64 0] := a0.seti 4 rfl bw
            refine ⟨a0.cani 5 rfl rfl, thenW_in fun c6 bz => ?_⟩
            have bi := be.x_set (q := a3.heap.size) (i := 5) rfl (.inl (.inl rfl)) bz
            have a0 : Blk c6 a3.heap.size 47 [.int .i64 0, .int .i64 0, .int .u64 0, .int .i64 0, .int .i64 0, .int .i64 0, .slice none 0 0, .int .u64 0] := a0.seti 5 rfl bz
            refine ⟨a0.cani 6 rfl rfl, thenW_in fun bg cp => ?_⟩
            have br := bi.x_set (q := a3.heap.size) (i := 6) rfl (.inl (.inl rfl)) cp
            have a0 : Blk bg a3.heap.size 47 [.int .i64 0, .int .i64 0, .int .u64 0, .int .i64 0, .int .i64 0, .int .i64 0, .slice none 0 0, .int .u64 0] := a0.seti 6 rfl cp
            refine ⟨a0.cani 7 rfl rfl, thenW_in fun b1 cg => ?_⟩
            have cq := br.x_set (q := a3.heap.size) (i := 7) rfl (.inl (.inl rfl)) cg
            have a0 : Blk b1 a3.heap.size 47 [.int .i64 0, .int .i64 0, .int .u64 0, .int .i64 0, .int .i64 0, .int .i64 0, .slice none 0 0, .int .u64 0] := a0.seti 7 rfl cg
            refine ⟨0, 0, 0, 0, 0, 0, none, 0, 0, 0, ⟨a0.celli 0 rfl rfl, a0.celli 1 rfl rfl, a0.celli 2 rfl rfl, a0.celli 3 rfl rfl, a0.celli 4 rfl rfl, a0.celli 5 rfl rfl, a0.celli 6 rfl rfl, a0.celli 7 rfl rfl, trivial⟩, ?_⟩
            have h := h b1 cq
            exact h
          · have h := h.2 (bne_f b3)
            refine ⟨a1, a5, a6, ah, ai, ab, ae, af, ag, ao, ⟨a4.celli 0 rfl rfl, a4.celli 1 rfl rfl, a4.celli 2 rfl rfl, a4.celli 3 rfl rfl, a4.celli 4 rfl rfl, a4.celli 5 rfl rfl, a4.celli 6 rfl rfl, a4.celli 7 rfl rfl, trivial⟩, ?_⟩
            have h := h b4 bs
            refine h.mono fun gs ar h => ?_
            obtain ⟨he, hk, h⟩ := h
            refine ⟨he, ?_⟩
            have a0 := hk.blk a0 (by simp)
            have a4 := hk.blk a4 (by simp)
            refine ⟨a1, a5, a6, ah, ai, ab, ae, af, ag, ao, ⟨a4.celli 0 rfl rfl, a4.celli 1 rfl rfl, a4.celli 2 rfl rfl, a4.celli 3 rfl rfl, a4.celli 4 rfl rfl, a4.celli 5 rfl rfl, a4.celli 6 rfl rfl, a4.celli 7 rfl rfl, trivial⟩, ?_⟩
            have c3 : Ext (fun b => b = a3.heap.size) ar ar := ((Ext.refl no ar)).none
            refine ⟨a0.cani 0 rfl rfl, thenW_in fun ch ck => ?_⟩
            have bd := c3.x_set (q := a3.heap.size) (i := 0) rfl (.inl rfl) ck
            have a0 : Blk ch a3.heap.size 47 [.int .i64 a1, .int .i64 0, .int .u64 0, .int .i64 0, .int .i64 0, .int .i64 0, .slice none 0 0, .int .u64 0] := a0.seti 0 rfl ck
            refine ⟨a0.cani 1 rfl rfl, thenW_in fun bq co => ?_⟩
            have b8 := bd.x_set (q := a3.heap.size) (i := 1) rfl (.inl rfl) co
            have a0 : Blk bq a3.heap.size 47 [.int .i64 a1, .int .i64 a5, .int .u64 0, .int .i64 0, .int .i64 0, .int .i64 0, .slice none 0 0, .int .u64 0] := a0.seti 1 rfl co
            refine ⟨a0.cani 2 rfl rfl, thenW_in fun b9 ca => ?_⟩
            have bt := b8.x_set (q := a3.heap.size) (i := 2) rfl (.inl rfl) ca
            have a0 : Blk b9 a3.heap.size 47 [.int .i64 a1, .int .i64 a5, .int .u64 a6, .int .i64 0, .int .i64 0, .int .i64 0, .slice none 0 0, .int .u64 0] := a0.seti 2 rfl ca
            refine ⟨a0.cani 3 rfl rfl, thenW_in fun bo bj => ?_⟩
            have cn := bt.x_set (q := a3.heap.size) (i := 3) rfl (.inl rfl) bj
            have a0 : Blk bo a3.heap.size 47 [.int .i64 a1, .int .i64 a5, .int .u64 a6, .int .i64 ah, .int .i64 0, .int .i64 0, .slice none 0 0, .int .u64 0] := a0.seti 3 rfl bj
            refine ⟨a0.cani 4 rfl rfl, thenW_in fun bf cb => ?_⟩
            have b7 := cn.x_set (q := a3.heap.size) (i := 4) rfl (.inl rfl) cb
            have a0 : Blk bf a3.heap.size 47 [.int .i64 a1, .int .i64 a5, .int .u64 a6, .int .i64 ah, .int .i64 ai, .int .i64 0, .slice none 0 0, .int .u64 0] := a0.seti 4 rfl cb
            refine ⟨a0.cani 5 rfl rfl, thenW_in fun bu bl => ?_⟩
            have bk := b7.x_set (q := a3.heap.size) (i := 5) rfl (.inl rfl) bl
            have a0 : Blk bu a3.heap.size 47 [.int .i64 a1, .int .i64 a5, .int .u64 a6, .int .i64 ah, .int .i64 ai, .int .i64 ab, .slice none 0 0, .int .u64 0] := a0.seti 5 rfl bl
            refine ⟨a0.cani 6 rfl rfl, thenW_in fun ct ce => ?_⟩
            have bc := bk.x_set (q := a3.heap.size) (i := 6) rfl (.inl rfl) ce
            have a0 : Blk ct a3.heap.size 47 [.int .i64 a1, .int .i64 a5, .int .u64 a6, .int .i64 ah, .int .i64 ai, .int .i64 ab, .slice ae af ag, .int .u64 0] := a0.seti 6 rfl ce
            refine ⟨a0.cani 7 rfl rfl, thenW_in fun b2 ba => ?_⟩
            have cm := bc.x_set (q := a3.heap.size) (i := 7) rfl (.inl rfl) ba
            have a0 : Blk b2 a3.heap.size 47 [.int .i64 a1, .int .i64 a5, .int .u64 a6, .int .i64 ah, .int .i64 ai, .int .i64 ab, .slice ae af ag, .int .u64 ao] := a0.seti 7 rfl ba
            refine ⟨a1, a5, a6, ah, ai, ab, ae, af, ag, ao, ⟨a0.celli 0 rfl rfl, a0.celli 1 rfl rfl, a0.celli 2 rfl rfl, a0.celli 3 rfl rfl, a0.celli 4 rfl rfl, a0.celli 5 rfl rfl, a0.celli 6 rfl rfl, a0.celli 7 rfl rfl, trivial⟩, ?_⟩
            have h := h b2 cm
            exact h

theorem chain_Log_Issue.go (l1 : Option Addr) (a0 : Int) (a6 : Int) (a5 : Int) (a1 : Int) (a3 : Option Addr) (a2 : Nat) (a4 : Nat) {R : Value → World → Prop} {w : World} (h : chain_Log_Issue.N l1 a0 a6 a5 a1 a3 a2 a4 R w) : Calls Try.prog 15 #[.pointer l1, .int .u64 a0, .agg #[.int .i64 a6, .int .i64 a5], .int .i64 a1, .slice a3 a2 a4] w fun e w' => ∃ v, e = .returned v ∧ R v w' := chain_Log_Issue.ok l1 a0 a6 a5 a1 a3 a2 a4 (chain_Log_Issue.up l1 a0 a6 a5 a1 a3 a2 a4 h)
/-- chain.Whole -/
def chain_Whole.M (o1 : Option Addr) (al : Int) (aq : Option Addr) (a8 : Nat) (b5 : Nat) (R : Value → World → Prop) (w : World) : Prop :=
 bif (a8 : Int) == 0 then (
 R (.tuple #[.int .i64 0, .int .i64 0]) w) else (
 aq.elim False fun a4 =>
 0 ≤ (0 : Int) ∧ (0 : Int) < (a8 : Int) ∧
 ∃ (ah : Int), w.cell? ((a4.add (Int.toNat 0 * 8)).add 0) = some (.int .i64 ah) ∧
 thenW (w.alloc (.cells #[.pointer o1, .int .i64 ah, .int .u64 al, .slice none 0 0, .int .u64 0] 82)) fun b6 =>
 ∃ (I0 : Nat → List Value → World → Prop) (m8 : Nat), I0 m8 [.int .i64 0] b6 ∧ ∀ (m9 : Nat) (a0 : World) (t7 : Int), I0 m9 [.int .i64 t7] a0 →
 bif decide (t7 < (a8 : Int)) then (
 aq.elim False fun b7 =>
 0 ≤ (t7 : Int) ∧ (t7 : Int) < (a8 : Int) ∧
 ∃ (a2 : Int) (ad : Int) (ag : Int) (ap : Int) (aj : Int) (a5 : Int) (a6 : Option Addr) (ac : Nat) (ae : Nat) (ao : Int), cellsAt a0 (b7.add (Int.toNat t7 * 8)) [.int .i64 a2, .int .i64 ad, .int .u64 ag, .int .i64 ap, .int .i64 aj, .int .i64 a5, .slice a6 ac ae, .int .u64 ao] 0 ∧
 thenW (a0.alloc (.cells #[.int .i64 0, .int .i64 0, .int .u64 0, .int .i64 0, .int .i64 0, .int .i64 0, .slice none 0 0, .int .u64 0] 47)) fun av =>
 canStore av ((blk a0.heap.size).add 0) ∧
 thenW (av.setCell ((blk a0.heap.size).add 0) (.int .i64 a2)) fun ay =>
 canStore ay ((blk a0.heap.size).add 1) ∧
 thenW (ay.setCell ((blk a0.heap.size).add 1) (.int .i64 ad)) fun ar =>
 canStore ar ((blk a0.heap.size).add 2) ∧
 thenW (ar.setCell ((blk a0.heap.size).add 2) (.int .u64 ag)) fun b0 =>
 canStore b0 ((blk a0.heap.size).add 3) ∧
 thenW (b0.setCell ((blk a0.heap.size).add 3) (.int .i64 ap)) fun b2 =>
 canStore b2 ((blk a0.heap.size).add 4) ∧
 thenW (b2.setCell ((blk a0.heap.size).add 4) (.int .i64 aj)) fun ax =>
 canStore ax ((blk a0.heap.size).add 5) ∧
 thenW (ax.setCell ((blk a0.heap.size).add 5) (.int .i64 a5)) fun aw =>
 canStore aw ((blk a0.heap.size).add 6) ∧
 thenW (aw.setCell ((blk a0.heap.size).add 6) (.slice a6 ac ae)) fun au =>
 canStore au ((blk a0.heap.size).add 7) ∧
 thenW (au.setCell ((blk a0.heap.size).add 7) (.int .u64 ao)) fun az =>
 ∃ (a3 : Int) (a9 : Int) (ai : Int) (ak : Int) (am : Int) (af : Int) (a7 : Option Addr) (aa : Nat) (ab : Nat) (an : Int), cellsAt az (blk a0.heap.size) [.int .i64 a3, .int .i64 a9, .int .u64 ai, .int .i64 ak, .int .i64 am, .int .i64 af, .slice a7 aa ab, .int .u64 an] 0 ∧
 Calls Try.prog 21 #[.pointer (some (blk w.heap.size)), .agg #[.int .i64 a3, .int .i64 a9, .int .u64 ai, .int .i64 ak, .int .i64 am, .int .i64 af, .slice a7 aa ab, .int .u64 an]] az fun b3 b1 => ∃ (a1 : Int), b3 = .returned (.int .i64 a1) ∧
 bif a1 != 0 then (
 R (.tuple #[.int .i64 t7, .int .i64 a1]) b1) else (
 ∃ b4, b4 < m9 ∧ I0 b4 [.int .i64 (IntKind.i64.wrap (t7 + 1))] b1)) else (
 R (.tuple #[.int .i64 (a8 : Int), .int .i64 0]) a0))

theorem chain_Whole.eq (o1 : Option Addr) (publicv2 : Int) (all3a : Option Addr) (all3n : Nat) (all3c : Nat) (R : Value → World → Prop) (w : World) : mfunc Try.prog [(0, [2, 8, 23, 24], [(25, (.one (.int .i64)))])] 23 [.pointer o1, .int .u64 publicv2, .slice all3a all3n all3c] R w = chain_Whole.M o1 publicv2 all3a all3n all3c R w := by kernel_rfl
theorem chain_Whole.ok (o1 : Option Addr) (a0 : Int) (a1 : Option Addr) (a3 : Nat) (a2 : Nat) {R : Value → World → Prop} {w : World} (h : chain_Whole.M o1 a0 a1 a3 a2 R w) : Calls Try.prog 23 #[.pointer o1, .int .u64 a0, .slice a1 a3 a2] w fun e w' => ∃ v, e = .returned v ∧ R v w' :=
  mfunc_ok follows (H := [(0, [2, 8, 23, 24], [(25, (.one (.int .i64)))])]) (args := [.pointer o1, .int .u64 a0, .slice a1 a3 a2]) (by rw [chain_Whole.eq]; exact h)

def chain_Whole.N (o1 : Option Addr) (ad : Int) (ai : Option Addr) (a1 : Nat) (ao : Nat) (R : Value → World → Prop) (w : World) : Prop :=
 ((a1 : Int) = 0 →
 R (.tuple #[.int .i64 0, .int .i64 0]) w) ∧
 ((a1 : Int) ≠ 0 →
 ∃ a5 : Addr, ai = some a5 ∧
 (0 : Int) < (a1 : Int) ∧
 ∃ (a9 : Int), w.cell? ((a5.add (Int.toNat 0 * 8)).add 0) = some (.int .i64 a9) ∧
 ∀ (ak : World) (q9 : Nat), Ext no w ak → Blk ak q9 82 [.pointer o1, .int .i64 a9, .int .u64 ad, .slice none 0 0, .int .u64 0] → w.heap.size ≤ q9 → q9 < ak.heap.size →
 ∃ (I0 : Nat → List Value → World → Prop) (ap : Nat), I0 ap [.int .i64 0] ak ∧ ∀ (am : Nat) (ag : World) (af : Int), I0 am [.int .i64 af] ag →
 (af < (a1 : Int) →
 0 ≤ (af : Int) ∧ (af : Int) < (a1 : Int) ∧
 ∃ (a2 : Int) (a7 : Int) (aa : Int) (ab : Int) (ae : Int) (a6 : Int) (a8 : Option Addr) (a3 : Nat) (a4 : Nat) (ac : Int), cellsAt ag (a5.add (Int.toNat af * 8)) [.int .i64 a2, .int .i64 a7, .int .u64 aa, .int .i64 ab, .int .i64 ae, .int .i64 a6, .slice a8 a3 a4, .int .u64 ac] 0 ∧
 ∀ (ah : World), Ext no ag ah →
 Calls Try.prog 21 #[.pointer (some (blk q9)), .agg #[.int .i64 a2, .int .i64 a7, .int .u64 aa, .int .i64 ab, .int .i64 ae, .int .i64 a6, .slice a8 a3 a4, .int .u64 ac]] ah fun al aj => ∃ (a0 : Int), al = .returned (.int .i64 a0) ∧
 (a0 ≠ 0 →
 R (.tuple #[.int .i64 af, .int .i64 a0]) aj) ∧
 (a0 = 0 →
 (-9223372036854775808 : Int) ≤ (af + 1) ∧ (af + 1) < 9223372036854775808 ∧
 ∃ an, an < am ∧ I0 an [.int .i64 (af + 1)] aj)) ∧
 ((a1 : Int) ≤ af →
 R (.tuple #[.int .i64 (a1 : Int), .int .i64 0]) ag))

theorem chain_Whole.up (o1 : Option Addr) (ac : Int) (ag : Option Addr) (ah : Nat) (aj : Nat) {R : Value → World → Prop} {w : World} (h : chain_Whole.N o1 ac ag ah aj R w) : chain_Whole.M o1 ac ag ah aj R w := by
  unfold chain_Whole.M
  unfold chain_Whole.N at h
  refine bif_of (fun c4 => ?_) (fun c4 => ?_)
  · have h := h.1 (beq_t c4)
    exact h
  · have h := h.2 (beq_f c4)
    obtain ⟨a5, bf, h⟩ := h
    refine elim_some bf ?_
    obtain ⟨ap, h⟩ := h
    refine ⟨by decide, ap, ?_⟩
    obtain ⟨af, bm, h⟩ := h
    refine ⟨af, bm, ?_⟩
    refine thenW_in fun bs e8 => ?_
    have h := h bs w.heap.size ((Ext.refl no w).x_alloc e8) (Blk.of_new e8) ((Ext.refl no w)).size (size_lt_alloc e8)
    obtain ⟨I0, bh, h0, h⟩ := h
    refine ⟨I0, bh, h0, fun bk a3 bp hI => ?_⟩
    have h := h bk a3 bp hI
    refine bif_of (fun az => ?_) (fun az => ?_)
    · have h := h.1 (of_decide_eq_true az)
      refine elim_some bf ?_
      obtain ⟨bi, ap, h⟩ := h
      refine ⟨bi, ap, ?_⟩
      obtain ⟨a0, a1, a2, a7, ab, a4, aa, a8, a9, ad, b3, h⟩ := h
      refine ⟨a0, a1, a2, a7, ab, a4, aa, a8, a9, ad, b3, ?_⟩
      refine thenW_in fun br b8 => ?_
      have a6 := Blk.of_new b8
      have ai := ((Ext.refl no a3)).size
      have ar := (Ext.refl no a3).x_alloc b8
      refine ⟨a6.cani 0 rfl rfl, thenW_in fun aw b9 => ?_⟩
      have au := ar.x_set (q := a3.heap.size) (i := 0) rfl (.inr ai) b9
      have a6 : Blk aw a3.heap.size 47 [.int .i64 a0, .int .i64 0, .int .u64 0, .int .i64 0, .int .i64 0, .int .i64 0, .slice none 0 0, .int .u64 0] := a6.seti 0 rfl b9
      refine ⟨a6.cani 1 rfl rfl, thenW_in fun av ba => ?_⟩
      have b1 := au.x_set (q := a3.heap.size) (i := 1) rfl (.inr ai) ba
      have a6 : Blk av a3.heap.size 47 [.int .i64 a0, .int .i64 a1, .int .u64 0, .int .i64 0, .int .i64 0, .int .i64 0, .slice none 0 0, .int .u64 0] := a6.seti 1 rfl ba
      refine ⟨a6.cani 2 rfl rfl, thenW_in fun am bg => ?_⟩
      have b4 := b1.x_set (q := a3.heap.size) (i := 2) rfl (.inr ai) bg
      have a6 : Blk am a3.heap.size 47 [.int .i64 a0, .int .i64 a1, .int .u64 a2, .int .i64 0, .int .i64 0, .int .i64 0, .slice none 0 0, .int .u64 0] := a6.seti 2 rfl bg
      refine ⟨a6.cani 3 rfl rfl, thenW_in fun b0 bd => ?_⟩
      have an := b4.x_set (q := a3.heap.size) (i := 3) rfl (.inr ai) bd
      have a6 : Blk b0 a3.heap.size 47 [.int .i64 a0, .int .i64 a1, .int .u64 a2, .int .i64 a7, .int .i64 0, .int .i64 0, .slice none 0 0, .int .u64 0] := a6.seti 3 rfl bd
      refine ⟨a6.cani 4 rfl rfl, thenW_in fun b5 bc => ?_⟩
      have b2 := an.x_set (q := a3.heap.size) (i := 4) rfl (.inr ai) bc
      have a6 : Blk b5 a3.heap.size 47 [.int .i64 a0, .int .i64 a1, .int .u64 a2, .int .i64 a7, .int .i64 ab, .int .i64 0, .slice none 0 0, .int .u64 0] := a6.seti 4 rfl bc
      refine ⟨a6.cani 5 rfl rfl, thenW_in fun b6 b7 => ?_⟩
      have ao := b2.x_set (q := a3.heap.size) (i := 5) rfl (.inr ai) b7
      have a6 : Blk b6 a3.heap.size 47 [.int .i64 a0, .int .i64 a1, .int .u64 a2, .int .i64 a7, .int .i64 ab, .int .i64 a4, .slice none 0 0, .int .u64 0] := a6.seti 5 rfl b7
      refine ⟨a6.cani 6 rfl rfl, thenW_in fun aq bb => ?_⟩
      have al := ao.x_set (q := a3.heap.size) (i := 6) rfl (.inr ai) bb
      have a6 : Blk aq a3.heap.size 47 [.int .i64 a0, .int .i64 a1, .int .u64 a2, .int .i64 a7, .int .i64 ab, .int .i64 a4, .slice aa a8 a9, .int .u64 0] := a6.seti 6 rfl bb
      refine ⟨a6.cani 7 rfl rfl, thenW_in fun ak be => ?_⟩
      have ay := al.x_set (q := a3.heap.size) (i := 7) rfl (.inr ai) be
      have a6 : Blk ak a3.heap.size 47 [.int .i64 a0, .int .i64 a1, .int .u64 a2, .int .i64 a7, .int .i64 ab, .int .i64 a4, .slice aa a8 a9, .int .u64 ad] := a6.seti 7 rfl be
      refine ⟨a0, a1, a2, a7, ab, a4, aa, a8, a9, ad, ⟨a6.celli 0 rfl rfl, a6.celli 1 rfl rfl, a6.celli 2 rfl rfl, a6.celli 3 rfl rfl, a6.celli 4 rfl rfl, a6.celli 5 rfl rfl, a6.celli 6 rfl rfl, a6.celli 7 rfl rfl, trivial⟩, ?_⟩
      have h := h ak ay
      refine h.mono fun bo bq h => ?_
      obtain ⟨ae, he, h⟩ := h
      refine ⟨ae, he, ?_⟩
      refine bif_of (fun ax => ?_) (fun ax => ?_)
      · have h := h.1 (bne_t ax)
        exact h
      · have h := h.2 (bne_f ax)
        obtain ⟨bl, bj, h⟩ := h
        try rw [w64 bl bj]
        obtain ⟨bn, hk, h⟩ := h
        exact ⟨bn, hk, h⟩
    · have h := h.2 (Int.not_lt.1 (of_decide_eq_false az))
      exact h

theorem chain_Whole.go (o1 : Option Addr) (a0 : Int) (a1 : Option Addr) (a3 : Nat) (a2 : Nat) {R : Value → World → Prop} {w : World} (h : chain_Whole.N o1 a0 a1 a3 a2 R w) : Calls Try.prog 23 #[.pointer o1, .int .u64 a0, .slice a1 a3 a2] w fun e w' => ∃ v, e = .returned v ∧ R v w' := chain_Whole.ok o1 a0 a1 a3 a2 (chain_Whole.up o1 a0 a1 a3 a2 h)
/-- slices.Clone[[]byte,byte] -/
def slices_Clone_byte_byte.M (a1 : Option Addr) (a6 : Nat) (a7 : Nat) (R : Value → World → Prop) (w : World) : Prop :=
 bif Option.isNone a1 then (
 R (.slice none 0 0) w) else (
 thenW (w.alloc (.cells #[] 5)) fun a5 =>
 ∃ (a2 : Option Addr) (a3 : Nat) (a0 : Nat) (a4 : World), (Builtin.append_ #[43, 43] 43 #[.slice (some (blk w.heap.size)) 0 0, .slice a1 a6 a7]).run Try.prog a5 = .ok (.slice a2 a3 a0) a4 ∧
 R (.slice a2 a3 a0) a4)

theorem slices_Clone_byte_byte.eq (s1a : Option Addr) (s1n : Nat) (s1c : Nat) (R : Value → World → Prop) (w : World) : mfunc Try.prog [] 68 [.slice s1a s1n s1c] R w = slices_Clone_byte_byte.M s1a s1n s1c R w := by kernel_rfl
theorem slices_Clone_byte_byte.ok (a1 : Option Addr) (a0 : Nat) (a2 : Nat) {R : Value → World → Prop} {w : World} (h : slices_Clone_byte_byte.M a1 a0 a2 R w) : Calls Try.prog 68 #[.slice a1 a0 a2] w fun e w' => ∃ v, e = .returned v ∧ R v w' :=
  mfunc_ok follows (H := []) (args := [.slice a1 a0 a2]) (by rw [slices_Clone_byte_byte.eq]; exact h)

def slices_Clone_byte_byte.N (a1 : Option Addr) (a6 : Nat) (a7 : Nat) (R : Value → World → Prop) (w : World) : Prop :=
 (a1 = none →
 R (.slice none 0 0) w) ∧
 (a1 ≠ none →
 ∀ (a0 : World) (q4 : Nat), Ext no w a0 → Blk a0 q4 5 [] → w.heap.size ≤ q4 → q4 < a0.heap.size →
 ∃ (a5 : Option Addr) (a3 : Nat) (a2 : Nat) (a4 : World), (Builtin.append_ #[43, 43] 43 #[.slice (some (blk q4)) 0 0, .slice a1 a6 a7]).run Try.prog a0 = .ok (.slice a5 a3 a2) a4 ∧
 R (.slice a5 a3 a2) a4)

theorem slices_Clone_byte_byte.up (a0 : Option Addr) (a1 : Nat) (a2 : Nat) {R : Value → World → Prop} {w : World} (h : slices_Clone_byte_byte.N a0 a1 a2 R w) : slices_Clone_byte_byte.M a0 a1 a2 R w := by
  unfold slices_Clone_byte_byte.M
  unfold slices_Clone_byte_byte.N at h
  refine bif_of (fun c2 => ?_) (fun c2 => ?_)
  · have h := h.1 (isNone_t c2)
    exact h
  · have h := h.2 (isNone_f c2)
    refine thenW_in fun a5 e3 => ?_
    have h := h a5 w.heap.size ((Ext.refl no w).x_alloc e3) (Blk.of_new e3) ((Ext.refl no w)).size (size_lt_alloc e3)
    obtain ⟨a7, a4, a3, a6, hr, h⟩ := h
    refine ⟨a7, a4, a3, a6, hr, ?_⟩
    exact h

theorem slices_Clone_byte_byte.go (a1 : Option Addr) (a0 : Nat) (a2 : Nat) {R : Value → World → Prop} {w : World} (h : slices_Clone_byte_byte.N a1 a0 a2 R w) : Calls Try.prog 68 #[.slice a1 a0 a2] w fun e w' => ∃ v, e = .returned v ∧ R v w' := slices_Clone_byte_byte.ok a1 a0 a2 (slices_Clone_byte_byte.up a1 a0 a2 h)
end Go.Proofs.Ytdelmfpchbpafaa

/- Stamps: which is less (the program's, and the reference's). -/
set_option linter.unusedVariables false
set_option linter.unusedSimpArgs false
set_option maxRecDepth 20000
set_option maxHeartbeats 2000000
namespace Go.Proofs.Ytdelmfpchbpafaa
open Go Go.Mx Go.Proofs
/-- cmp.isNaN[int64] -/
def cmp_isNaN_int64.M (x1 : Int) (R : Value → World → Prop) (w : World) : Prop :=
 R (.bool (x1 != x1)) w

theorem cmp_isNaN_int64.eq (x1 : Int) (R : Value → World → Prop) (w : World) : mfunc Try.prog [] 85 [.int .i64 x1] R w = cmp_isNaN_int64.M x1 R w := by kernel_rfl
theorem cmp_isNaN_int64.ok (x1 : Int) {R : Value → World → Prop} {w : World} (h : cmp_isNaN_int64.M x1 R w) : Calls Try.prog 85 #[.int .i64 x1] w fun e w' => ∃ v, e = .returned v ∧ R v w' :=
  mfunc_ok follows (H := []) (args := [.int .i64 x1]) (by rw [cmp_isNaN_int64.eq]; exact h)

def cmp_isNaN_int64.N (x1 : Int) (R : Value → World → Prop) (w : World) : Prop :=
 R (.bool (x1 != x1)) w

theorem cmp_isNaN_int64.up (x1 : Int) {R : Value → World → Prop} {w : World} (h : cmp_isNaN_int64.N x1 R w) : cmp_isNaN_int64.M x1 R w := by
  unfold cmp_isNaN_int64.M
  unfold cmp_isNaN_int64.N at h
  exact h

theorem cmp_isNaN_int64.go (x1 : Int) {R : Value → World → Prop} {w : World} (h : cmp_isNaN_int64.N x1 R w) : Calls Try.prog 85 #[.int .i64 x1] w fun e w' => ∃ v, e = .returned v ∧ R v w' := cmp_isNaN_int64.ok x1 (cmp_isNaN_int64.up x1 h)
theorem cmp_isNaN_int64.run (x1 : Int) {V : Value} {Q : World → Prop} {w : World} (h : cmp_isNaN_int64.N x1 (fun v w' => v = V ∧ Q w') w) : Calls Try.prog 85 #[.int .i64 x1] w (Ret V Q) := (cmp_isNaN_int64.go x1 h).mono fun e w' ⟨v, he, hv, hq⟩ => ⟨by rw [he, hv], hq⟩

def cmp_isNaN_int64.F (x1 : Int) : Bool :=
  (x1 != x1)
theorem cmp_isNaN_int64.pure (x1 : Int) {w : World} : Calls Try.prog 85 #[.int .i64 x1] w (Ret (.bool (cmp_isNaN_int64.F x1)) fun w' => Ext no w w') := by
  refine cmp_isNaN_int64.run x1 ?_
  unfold cmp_isNaN_int64.N
  exact ⟨by unfold cmp_isNaN_int64.F; rfl, Ext.refl _ _⟩

/-- cmp.isNaN[int] -/
def cmp_isNaN_int.M (x1 : Int) (R : Value → World → Prop) (w : World) : Prop :=
 R (.bool (x1 != x1)) w

theorem cmp_isNaN_int.eq (x1 : Int) (R : Value → World → Prop) (w : World) : mfunc Try.prog [] 86 [.int .i64 x1] R w = cmp_isNaN_int.M x1 R w := by kernel_rfl
theorem cmp_isNaN_int.ok (x1 : Int) {R : Value → World → Prop} {w : World} (h : cmp_isNaN_int.M x1 R w) : Calls Try.prog 86 #[.int .i64 x1] w fun e w' => ∃ v, e = .returned v ∧ R v w' :=
  mfunc_ok follows (H := []) (args := [.int .i64 x1]) (by rw [cmp_isNaN_int.eq]; exact h)

def cmp_isNaN_int.N (x1 : Int) (R : Value → World → Prop) (w : World) : Prop :=
 R (.bool (x1 != x1)) w

theorem cmp_isNaN_int.up (x1 : Int) {R : Value → World → Prop} {w : World} (h : cmp_isNaN_int.N x1 R w) : cmp_isNaN_int.M x1 R w := by
  unfold cmp_isNaN_int.M
  unfold cmp_isNaN_int.N at h
  exact h

theorem cmp_isNaN_int.go (x1 : Int) {R : Value → World → Prop} {w : World} (h : cmp_isNaN_int.N x1 R w) : Calls Try.prog 86 #[.int .i64 x1] w fun e w' => ∃ v, e = .returned v ∧ R v w' := cmp_isNaN_int.ok x1 (cmp_isNaN_int.up x1 h)
theorem cmp_isNaN_int.run (x1 : Int) {V : Value} {Q : World → Prop} {w : World} (h : cmp_isNaN_int.N x1 (fun v w' => v = V ∧ Q w') w) : Calls Try.prog 86 #[.int .i64 x1] w (Ret V Q) := (cmp_isNaN_int.go x1 h).mono fun e w' ⟨v, he, hv, hq⟩ => ⟨by rw [he, hv], hq⟩

def cmp_isNaN_int.F (x1 : Int) : Bool :=
  (x1 != x1)
theorem cmp_isNaN_int.pure (x1 : Int) {w : World} : Calls Try.prog 86 #[.int .i64 x1] w (Ret (.bool (cmp_isNaN_int.F x1)) fun w' => Ext no w w') := by
  refine cmp_isNaN_int.run x1 ?_
  unfold cmp_isNaN_int.N
  exact ⟨by unfold cmp_isNaN_int.F; rfl, Ext.refl _ _⟩

/-- cmp.Compare[int64] -/
def cmp_Compare_int64.M (x1 : Int) (y2 : Int) (R : Value → World → Prop) (w : World) : Prop :=
 Calls Try.prog 85 #[.int .i64 x1] w fun a5 a4 => ∃ (a1 : Bool), a5 = .returned (.bool a1) ∧
 Calls Try.prog 85 #[.int .i64 y2] a4 fun a3 a2 => ∃ (a0 : Bool), a3 = .returned (.bool a0) ∧
 bif a1 then (
 bif a0 then (
 R (.int .i64 0) a2) else (
 R (.int .i64 (-1)) a2)) else (
 bif a0 then (
 R (.int .i64 1) a2) else (
 bif decide (x1 < y2) then (
 R (.int .i64 (-1)) a2) else (
 bif decide (x1 > y2) then (
 R (.int .i64 1) a2) else (
 R (.int .i64 0) a2))))

theorem cmp_Compare_int64.eq (x1 : Int) (y2 : Int) (R : Value → World → Prop) (w : World) : mfunc Try.prog [] 83 [.int .i64 x1, .int .i64 y2] R w = cmp_Compare_int64.M x1 y2 R w := by kernel_rfl
theorem cmp_Compare_int64.ok (x1 : Int) (y2 : Int) {R : Value → World → Prop} {w : World} (h : cmp_Compare_int64.M x1 y2 R w) : Calls Try.prog 83 #[.int .i64 x1, .int .i64 y2] w fun e w' => ∃ v, e = .returned v ∧ R v w' :=
  mfunc_ok follows (H := []) (args := [.int .i64 x1, .int .i64 y2]) (by rw [cmp_Compare_int64.eq]; exact h)

def cmp_Compare_int64.N (x1 : Int) (y2 : Int) (R : Value → World → Prop) (w : World) : Prop :=
 ((cmp_isNaN_int64.F x1) = true →
 ((cmp_isNaN_int64.F y2) = true →
 ∀ (a0 : World), Ext no w a0 →
 R (.int .i64 0) a0) ∧
 ((cmp_isNaN_int64.F y2) = false →
 ∀ (a0 : World), Ext no w a0 →
 R (.int .i64 (-1)) a0)) ∧
 ((cmp_isNaN_int64.F x1) = false →
 ((cmp_isNaN_int64.F y2) = true →
 ∀ (a0 : World), Ext no w a0 →
 R (.int .i64 1) a0) ∧
 ((cmp_isNaN_int64.F y2) = false →
 (x1 < y2 →
 ∀ (a0 : World), Ext no w a0 →
 R (.int .i64 (-1)) a0) ∧
 (y2 ≤ x1 →
 (x1 > y2 →
 ∀ (a0 : World), Ext no w a0 →
 R (.int .i64 1) a0) ∧
 (x1 ≤ y2 →
 ∀ (a0 : World), Ext no w a0 →
 R (.int .i64 0) a0))))

theorem cmp_Compare_int64.up (x1 : Int) (y2 : Int) {R : Value → World → Prop} {w : World} (h : cmp_Compare_int64.N x1 y2 R w) : cmp_Compare_int64.M x1 y2 R w := by
  unfold cmp_Compare_int64.M
  unfold cmp_Compare_int64.N at h
  refine (cmp_isNaN_int64.pure x1).mono fun ee ww3 ⟨he, hxx⟩ => ⟨(cmp_isNaN_int64.F x1), he, ?_⟩
  have a1 := (Ext.refl no w).trans hxx
  refine (cmp_isNaN_int64.pure y2).mono fun ee ww4 ⟨he, hxx⟩ => ⟨(cmp_isNaN_int64.F y2), he, ?_⟩
  have a0 := a1.trans hxx
  refine bif_of (fun c5 => ?_) (fun c5 => ?_)
  · have h := h.1 c5
    refine bif_of (fun c6 => ?_) (fun c6 => ?_)
    · have h := h.1 c6
      have h := h ww4 a0
      exact h
    · have h := h.2 c6
      have h := h ww4 a0
      exact h
  · have h := h.2 c5
    refine bif_of (fun c7 => ?_) (fun c7 => ?_)
    · have h := h.1 c7
      have h := h ww4 a0
      exact h
    · have h := h.2 c7
      refine bif_of (fun c8 => ?_) (fun c8 => ?_)
      · have h := h.1 (of_decide_eq_true c8)
        have h := h ww4 a0
        exact h
      · have h := h.2 (Int.not_lt.1 (of_decide_eq_false c8))
        refine bif_of (fun c9 => ?_) (fun c9 => ?_)
        · have h := h.1 (of_decide_eq_true c9)
          have h := h ww4 a0
          exact h
        · have h := h.2 (Int.not_lt.1 (of_decide_eq_false c9))
          have h := h ww4 a0
          exact h

theorem cmp_Compare_int64.go (x1 : Int) (y2 : Int) {R : Value → World → Prop} {w : World} (h : cmp_Compare_int64.N x1 y2 R w) : Calls Try.prog 83 #[.int .i64 x1, .int .i64 y2] w fun e w' => ∃ v, e = .returned v ∧ R v w' := cmp_Compare_int64.ok x1 y2 (cmp_Compare_int64.up x1 y2 h)
theorem cmp_Compare_int64.run (x1 : Int) (y2 : Int) {V : Value} {Q : World → Prop} {w : World} (h : cmp_Compare_int64.N x1 y2 (fun v w' => v = V ∧ Q w') w) : Calls Try.prog 83 #[.int .i64 x1, .int .i64 y2] w (Ret V Q) := (cmp_Compare_int64.go x1 y2 h).mono fun e w' ⟨v, he, hv, hq⟩ => ⟨by rw [he, hv], hq⟩

def cmp_Compare_int64.F (x1 : Int) (y2 : Int) : Int :=
  if (cmp_isNaN_int64.F x1) = true then
    if (cmp_isNaN_int64.F y2) = true then
      0
    else
      (-1)
  else
    if (cmp_isNaN_int64.F y2) = true then
      1
    else
      if x1 < y2 then
        (-1)
      else
        if x1 > y2 then
          1
        else
          0
theorem cmp_Compare_int64.pure (x1 : Int) (y2 : Int) {w : World} : Calls Try.prog 83 #[.int .i64 x1, .int .i64 y2] w (Ret (.int .i64 (cmp_Compare_int64.F x1 y2)) fun w' => Ext no w w') := by
  refine cmp_Compare_int64.run x1 y2 ?_
  unfold cmp_Compare_int64.N
  refine ⟨fun c0 => ?_, fun c0 => ?_⟩
  · refine ⟨fun c1 => ?_, fun c1 => ?_⟩
    · intro w' hx; exact ⟨by unfold cmp_Compare_int64.F; rw [if_pos c0, if_pos c1], hx⟩
    · intro w' hx; exact ⟨by unfold cmp_Compare_int64.F; rw [if_pos c0, if_neg (by rw [c1]; decide)], hx⟩
  · refine ⟨fun c1 => ?_, fun c1 => ?_⟩
    · intro w' hx; exact ⟨by unfold cmp_Compare_int64.F; rw [if_neg (by rw [c0]; decide), if_pos c1], hx⟩
    · refine ⟨fun c2 => ?_, fun c2 => ?_⟩
      · intro w' hx; exact ⟨by unfold cmp_Compare_int64.F; rw [if_neg (by rw [c0]; decide), if_neg (by rw [c1]; decide), if_pos c2], hx⟩
      · refine ⟨fun c3 => ?_, fun c3 => ?_⟩
        · intro w' hx; exact ⟨by unfold cmp_Compare_int64.F; rw [if_neg (by rw [c0]; decide), if_neg (by rw [c1]; decide), if_neg (by omega), if_pos c3], hx⟩
        · intro w' hx; exact ⟨by unfold cmp_Compare_int64.F; rw [if_neg (by rw [c0]; decide), if_neg (by rw [c1]; decide), if_neg (by omega), if_neg (by omega)], hx⟩

/-- cmp.Compare[int] -/
def cmp_Compare_int.M (x1 : Int) (y2 : Int) (R : Value → World → Prop) (w : World) : Prop :=
 Calls Try.prog 86 #[.int .i64 x1] w fun a5 a4 => ∃ (a1 : Bool), a5 = .returned (.bool a1) ∧
 Calls Try.prog 86 #[.int .i64 y2] a4 fun a3 a2 => ∃ (a0 : Bool), a3 = .returned (.bool a0) ∧
 bif a1 then (
 bif a0 then (
 R (.int .i64 0) a2) else (
 R (.int .i64 (-1)) a2)) else (
 bif a0 then (
 R (.int .i64 1) a2) else (
 bif decide (x1 < y2) then (
 R (.int .i64 (-1)) a2) else (
 bif decide (x1 > y2) then (
 R (.int .i64 1) a2) else (
 R (.int .i64 0) a2))))

theorem cmp_Compare_int.eq (x1 : Int) (y2 : Int) (R : Value → World → Prop) (w : World) : mfunc Try.prog [] 84 [.int .i64 x1, .int .i64 y2] R w = cmp_Compare_int.M x1 y2 R w := by kernel_rfl
theorem cmp_Compare_int.ok (x1 : Int) (y2 : Int) {R : Value → World → Prop} {w : World} (h : cmp_Compare_int.M x1 y2 R w) : Calls Try.prog 84 #[.int .i64 x1, .int .i64 y2] w fun e w' => ∃ v, e = .returned v ∧ R v w' :=
  mfunc_ok follows (H := []) (args := [.int .i64 x1, .int .i64 y2]) (by rw [cmp_Compare_int.eq]; exact h)

def cmp_Compare_int.N (x1 : Int) (y2 : Int) (R : Value → World → Prop) (w : World) : Prop :=
 ((cmp_isNaN_int.F x1) = true →
 ((cmp_isNaN_int.F y2) = true →
 ∀ (a0 : World), Ext no w a0 →
 R (.int .i64 0) a0) ∧
 ((cmp_isNaN_int.F y2) = false →
 ∀ (a0 : World), Ext no w a0 →
 R (.int .i64 (-1)) a0)) ∧
 ((cmp_isNaN_int.F x1) = false →
 ((cmp_isNaN_int.F y2) = true →
 ∀ (a0 : World), Ext no w a0 →
 R (.int .i64 1) a0) ∧
 ((cmp_isNaN_int.F y2) = false →
 (x1 < y2 →
 ∀ (a0 : World), Ext no w a0 →
 R (.int .i64 (-1)) a0) ∧
 (y2 ≤ x1 →
 (x1 > y2 →
 ∀ (a0 : World), Ext no w a0 →
 R (.int .i64 1) a0) ∧
 (x1 ≤ y2 →
 ∀ (a0 : World), Ext no w a0 →
 R (.int .i64 0) a0))))

theorem cmp_Compare_int.up (x1 : Int) (y2 : Int) {R : Value → World → Prop} {w : World} (h : cmp_Compare_int.N x1 y2 R w) : cmp_Compare_int.M x1 y2 R w := by
  unfold cmp_Compare_int.M
  unfold cmp_Compare_int.N at h
  refine (cmp_isNaN_int.pure x1).mono fun ee ww3 ⟨he, hxx⟩ => ⟨(cmp_isNaN_int.F x1), he, ?_⟩
  have a1 := (Ext.refl no w).trans hxx
  refine (cmp_isNaN_int.pure y2).mono fun ee ww4 ⟨he, hxx⟩ => ⟨(cmp_isNaN_int.F y2), he, ?_⟩
  have a0 := a1.trans hxx
  refine bif_of (fun c5 => ?_) (fun c5 => ?_)
  · have h := h.1 c5
    refine bif_of (fun c6 => ?_) (fun c6 => ?_)
    · have h := h.1 c6
      have h := h ww4 a0
      exact h
    · have h := h.2 c6
      have h := h ww4 a0
      exact h
  · have h := h.2 c5
    refine bif_of (fun c7 => ?_) (fun c7 => ?_)
    · have h := h.1 c7
      have h := h ww4 a0
      exact h
    · have h := h.2 c7
      refine bif_of (fun c8 => ?_) (fun c8 => ?_)
      · have h := h.1 (of_decide_eq_true c8)
        have h := h ww4 a0
        exact h
      · have h := h.2 (Int.not_lt.1 (of_decide_eq_false c8))
        refine bif_of (fun c9 => ?_) (fun c9 => ?_)
        · have h := h.1 (of_decide_eq_true c9)
          have h := h ww4 a0
          exact h
        · have h := h.2 (Int.not_lt.1 (of_decide_eq_false c9))
          have h := h ww4 a0
          exact h

theorem cmp_Compare_int.go (x1 : Int) (y2 : Int) {R : Value → World → Prop} {w : World} (h : cmp_Compare_int.N x1 y2 R w) : Calls Try.prog 84 #[.int .i64 x1, .int .i64 y2] w fun e w' => ∃ v, e = .returned v ∧ R v w' := cmp_Compare_int.ok x1 y2 (cmp_Compare_int.up x1 y2 h)
theorem cmp_Compare_int.run (x1 : Int) (y2 : Int) {V : Value} {Q : World → Prop} {w : World} (h : cmp_Compare_int.N x1 y2 (fun v w' => v = V ∧ Q w') w) : Calls Try.prog 84 #[.int .i64 x1, .int .i64 y2] w (Ret V Q) := (cmp_Compare_int.go x1 y2 h).mono fun e w' ⟨v, he, hv, hq⟩ => ⟨by rw [he, hv], hq⟩

def cmp_Compare_int.F (x1 : Int) (y2 : Int) : Int :=
  if (cmp_isNaN_int.F x1) = true then
    if (cmp_isNaN_int.F y2) = true then
      0
    else
      (-1)
  else
    if (cmp_isNaN_int.F y2) = true then
      1
    else
      if x1 < y2 then
        (-1)
      else
        if x1 > y2 then
          1
        else
          0
theorem cmp_Compare_int.pure (x1 : Int) (y2 : Int) {w : World} : Calls Try.prog 84 #[.int .i64 x1, .int .i64 y2] w (Ret (.int .i64 (cmp_Compare_int.F x1 y2)) fun w' => Ext no w w') := by
  refine cmp_Compare_int.run x1 y2 ?_
  unfold cmp_Compare_int.N
  refine ⟨fun c0 => ?_, fun c0 => ?_⟩
  · refine ⟨fun c1 => ?_, fun c1 => ?_⟩
    · intro w' hx; exact ⟨by unfold cmp_Compare_int.F; rw [if_pos c0, if_pos c1], hx⟩
    · intro w' hx; exact ⟨by unfold cmp_Compare_int.F; rw [if_pos c0, if_neg (by rw [c1]; decide)], hx⟩
  · refine ⟨fun c1 => ?_, fun c1 => ?_⟩
    · intro w' hx; exact ⟨by unfold cmp_Compare_int.F; rw [if_neg (by rw [c0]; decide), if_pos c1], hx⟩
    · refine ⟨fun c2 => ?_, fun c2 => ?_⟩
      · intro w' hx; exact ⟨by unfold cmp_Compare_int.F; rw [if_neg (by rw [c0]; decide), if_neg (by rw [c1]; decide), if_pos c2], hx⟩
      · refine ⟨fun c3 => ?_, fun c3 => ?_⟩
        · intro w' hx; exact ⟨by unfold cmp_Compare_int.F; rw [if_neg (by rw [c0]; decide), if_neg (by rw [c1]; decide), if_neg (by omega), if_pos c3], hx⟩
        · intro w' hx; exact ⟨by unfold cmp_Compare_int.F; rw [if_neg (by rw [c0]; decide), if_neg (by rw [c1]; decide), if_neg (by omega), if_neg (by omega)], hx⟩

/-- cmp.Or[int] -/
def cmp_Or_int.M (a1 : Option Addr) (a0 : Nat) (a3 : Nat) (R : Value → World → Prop) (w : World) : Prop :=
 ∃ (I0 : Nat → List Value → World → Prop) (m3 : Nat), I0 m3 [.int .i64 0] w ∧ ∀ (m4 : Nat) (a2 : World) (t2 : Int), I0 m4 [.int .i64 t2] a2 →
 bif decide (t2 < (a0 : Int)) then (
 a1.elim False fun a6 =>
 0 ≤ (t2 : Int) ∧ (t2 : Int) < (a0 : Int) ∧
 ∃ (x7 : Int), a2.cell? (a6.add (Int.toNat t2 * 1)) = some (.int .i64 x7) ∧
 bif x7 != 0 then (
 R (.int .i64 x7) a2) else (
 ∃ m8, m8 < m4 ∧ I0 m8 [.int .i64 (IntKind.i64.wrap (t2 + 1))] a2)) else (
 R (.int .i64 0) a2)

theorem cmp_Or_int.eq (vals1a : Option Addr) (vals1n : Nat) (vals1c : Nat) (R : Value → World → Prop) (w : World) : mfunc Try.prog [(0, [3, 6, 7], [(8, (.one (.int .i64)))])] 82 [.slice vals1a vals1n vals1c] R w = cmp_Or_int.M vals1a vals1n vals1c R w := by kernel_rfl
theorem cmp_Or_int.ok (a1 : Option Addr) (a0 : Nat) (a2 : Nat) {R : Value → World → Prop} {w : World} (h : cmp_Or_int.M a1 a0 a2 R w) : Calls Try.prog 82 #[.slice a1 a0 a2] w fun e w' => ∃ v, e = .returned v ∧ R v w' :=
  mfunc_ok follows (H := [(0, [3, 6, 7], [(8, (.one (.int .i64)))])]) (args := [.slice a1 a0 a2]) (by rw [cmp_Or_int.eq]; exact h)

def cmp_Or_int.N (a1 : Option Addr) (a0 : Nat) (a3 : Nat) (R : Value → World → Prop) (w : World) : Prop :=
 ∃ (I0 : Nat → List Value → World → Prop) (m3 : Nat), I0 m3 [.int .i64 0] w ∧ ∀ (m4 : Nat) (a2 : World) (t2 : Int), I0 m4 [.int .i64 t2] a2 →
 (t2 < (a0 : Int) →
 ∃ a7 : Addr, a1 = some a7 ∧
 0 ≤ (t2 : Int) ∧ (t2 : Int) < (a0 : Int) ∧
 ∃ (x9 : Int), a2.cell? (a7.add (Int.toNat t2 * 1)) = some (.int .i64 x9) ∧
 (x9 ≠ 0 →
 R (.int .i64 x9) a2) ∧
 (x9 = 0 →
 (-9223372036854775808 : Int) ≤ (t2 + 1) ∧ (t2 + 1) < 9223372036854775808 ∧
 ∃ a4, a4 < m4 ∧ I0 a4 [.int .i64 (t2 + 1)] a2)) ∧
 ((a0 : Int) ≤ t2 →
 R (.int .i64 0) a2)

theorem cmp_Or_int.up (a2 : Option Addr) (a1 : Nat) (a0 : Nat) {R : Value → World → Prop} {w : World} (h : cmp_Or_int.N a2 a1 a0 R w) : cmp_Or_int.M a2 a1 a0 R w := by
  unfold cmp_Or_int.M
  unfold cmp_Or_int.N at h
  obtain ⟨I0, m3, h0, h⟩ := h
  refine ⟨I0, m3, h0, fun m4 a4 t2 hI => ?_⟩
  have h := h m4 a4 t2 hI
  refine bif_of (fun c6 => ?_) (fun c6 => ?_)
  · have h := h.1 (of_decide_eq_true c6)
    obtain ⟨a7, a9, h⟩ := h
    refine elim_some a9 ?_
    obtain ⟨a8, ab, h⟩ := h
    refine ⟨a8, ab, ?_⟩
    obtain ⟨x9, ac, h⟩ := h
    refine ⟨x9, ac, ?_⟩
    refine bif_of (fun a3 => ?_) (fun a3 => ?_)
    · have h := h.1 (bne_t a3)
      exact h
    · have h := h.2 (bne_f a3)
      obtain ⟨aa, a5, h⟩ := h
      try rw [w64 aa a5]
      obtain ⟨a6, hk, h⟩ := h
      exact ⟨a6, hk, h⟩
  · have h := h.2 (Int.not_lt.1 (of_decide_eq_false c6))
    exact h

theorem cmp_Or_int.go (a1 : Option Addr) (a0 : Nat) (a2 : Nat) {R : Value → World → Prop} {w : World} (h : cmp_Or_int.N a1 a0 a2 R w) : Calls Try.prog 82 #[.slice a1 a0 a2] w fun e w' => ∃ v, e = .returned v ∧ R v w' := cmp_Or_int.ok a1 a0 a2 (cmp_Or_int.up a1 a0 a2 h)
theorem cmp_Or_int.run (a1 : Option Addr) (a0 : Nat) (a2 : Nat) {V : Value} {Q : World → Prop} {w : World} (h : cmp_Or_int.N a1 a0 a2 (fun v w' => v = V ∧ Q w') w) : Calls Try.prog 82 #[.slice a1 a0 a2] w (Ret V Q) := (cmp_Or_int.go a1 a0 a2 h).mono fun e w' ⟨v, he, hv, hq⟩ => ⟨by rw [he, hv], hq⟩

/-- stamp.Compare -/
def stamp_Compare.M (af : Int) (ah : Int) (ae : Int) (ag : Int) (R : Value → World → Prop) (w : World) : Prop :=
 thenW (w.alloc (.cells #[.int .i64 af, .int .i64 ah] 45)) fun a6 =>
 thenW (a6.alloc (.cells #[.int .i64 ae, .int .i64 ag] 45)) fun ai =>
 thenW (ai.drew) fun a5 =>
 ∃ (T8 : Int), a5.cell? ((blk w.heap.size).add 0) = some (.int .i64 T8) ∧
 ∃ (T9 : Int), a5.cell? ((blk a6.heap.size).add 0) = some (.int .i64 T9) ∧
 ∃ (a9 : Int), a5.cell? ((blk w.heap.size).add 1) = some (.int .i64 a9) ∧
 ∃ (ac : Int), a5.cell? ((blk a6.heap.size).add 1) = some (.int .i64 ac) ∧
 Calls Try.prog 83 #[.int .i64 T8, .int .i64 T9] a5 fun ad a2 => ∃ (a0 : Int), ad = .returned (.int .i64 a0) ∧
 a2.cell? ((blk a6.heap.size).add 1) = some (.int .i64 ac) ∧
 a2.cell? ((blk w.heap.size).add 1) = some (.int .i64 a9) ∧
 Calls Try.prog 84 #[.int .i64 a9, .int .i64 ac] a2 fun a8 a4 => ∃ (a1 : Int), a8 = .returned (.int .i64 a1) ∧
 thenW (a4.alloc (.cells #[.int .i64 a0, .int .i64 a1] 3)) fun a7 =>
 Calls Try.prog 82 #[.slice (some (blk a4.heap.size)) 2 2] a7 fun ab aa => ∃ (a3 : Int), ab = .returned (.int .i64 a3) ∧
 R (.int .i64 a3) aa

theorem stamp_Compare.eq (aT1 : Int) (aW2 : Int) (bT3 : Int) (bW4 : Int) (R : Value → World → Prop) (w : World) : mfunc Try.prog [] 70 [.agg #[.int .i64 aT1, .int .i64 aW2], .agg #[.int .i64 bT3, .int .i64 bW4]] R w = stamp_Compare.M aT1 aW2 bT3 bW4 R w := by kernel_rfl
theorem stamp_Compare.ok (a0 : Int) (a2 : Int) (a3 : Int) (a1 : Int) {R : Value → World → Prop} {w : World} (h : stamp_Compare.M a0 a2 a3 a1 R w) : Calls Try.prog 70 #[.agg #[.int .i64 a0, .int .i64 a2], .agg #[.int .i64 a3, .int .i64 a1]] w fun e w' => ∃ v, e = .returned v ∧ R v w' :=
  mfunc_ok follows (H := []) (args := [.agg #[.int .i64 a0, .int .i64 a2], .agg #[.int .i64 a3, .int .i64 a1]]) (by rw [stamp_Compare.eq]; exact h)

def stamp_Compare.N (a8 : Int) (a6 : Int) (a7 : Int) (a5 : Int) (R : Value → World → Prop) (w : World) : Prop :=
 ∀ (a0 : World) (a2 : Nat), Ext no w a0 → Blk a0 a2 3 [.int .i64 (cmp_Compare_int64.F a8 a7), .int .i64 (cmp_Compare_int.F a6 a5)] → w.heap.size ≤ a2 → a2 < a0.heap.size →
 Calls Try.prog 82 #[.slice (some (blk a2)) 2 2] a0 fun a3 a4 => ∃ (a1 : Int), a3 = .returned (.int .i64 a1) ∧
 R (.int .i64 a1) a4

theorem stamp_Compare.up (a3 : Int) (a5 : Int) (a2 : Int) (a4 : Int) {R : Value → World → Prop} {w : World} (h : stamp_Compare.N a3 a5 a2 a4 R w) : stamp_Compare.M a3 a5 a2 a4 R w := by
  unfold stamp_Compare.M
  unfold stamp_Compare.N at h
  refine thenW_in fun ai e5 => ?_
  have a0 := Blk.of_new e5
  have ak := ((Ext.refl no w)).size
  have aa := (Ext.refl no w).x_alloc e5
  refine thenW_in fun aj e6 => ?_
  have a1 := Blk.of_new e6
  have ah := (aa).size
  have ab := Nat.ne_of_lt a0.lt
  have a0 := a0.x_alloc e6
  have ag := aa.x_alloc e6
  refine thenW_in fun al e7 => ?_
  have ae := ag.x_drew e7
  have a0 := a0.x_drew e7
  have a1 := a1.x_drew e7
  refine ⟨a3, a0.celli 0 rfl rfl, ?_⟩
  refine ⟨a2, a1.celli 0 rfl rfl, ?_⟩
  refine ⟨a5, a0.celli 1 rfl rfl, ?_⟩
  refine ⟨a4, a1.celli 1 rfl rfl, ?_⟩
  refine (cmp_Compare_int64.pure a3 a2).mono fun ee ww8 ⟨he, hxx⟩ => ⟨(cmp_Compare_int64.F a3 a2), he, ?_⟩
  have ac := ae.trans hxx
  have a0 := a0.ext hxx id
  have a1 := a1.ext hxx id
  refine ⟨a1.celli 1 rfl rfl, a0.celli 1 rfl rfl, ?_⟩
  refine (cmp_Compare_int.pure a5 a4).mono fun ee ww9 ⟨he, hxx⟩ => ⟨(cmp_Compare_int.F a5 a4), he, ?_⟩
  have a9 := ac.trans hxx
  refine thenW_in fun a6 a8 => ?_
  have h := h a6 ww9.heap.size (a9.x_alloc a8) (Blk.of_new a8) (a9).size (size_lt_alloc a8)
  refine h.mono fun ad af h => ?_
  obtain ⟨a7, he, h⟩ := h
  refine ⟨a7, he, ?_⟩
  exact h

theorem stamp_Compare.go (a0 : Int) (a2 : Int) (a3 : Int) (a1 : Int) {R : Value → World → Prop} {w : World} (h : stamp_Compare.N a0 a2 a3 a1 R w) : Calls Try.prog 70 #[.agg #[.int .i64 a0, .int .i64 a2], .agg #[.int .i64 a3, .int .i64 a1]] w fun e w' => ∃ v, e = .returned v ∧ R v w' := stamp_Compare.ok a0 a2 a3 a1 (stamp_Compare.up a0 a2 a3 a1 h)
theorem stamp_Compare.run (a0 : Int) (a2 : Int) (a3 : Int) (a1 : Int) {V : Value} {Q : World → Prop} {w : World} (h : stamp_Compare.N a0 a2 a3 a1 (fun v w' => v = V ∧ Q w') w) : Calls Try.prog 70 #[.agg #[.int .i64 a0, .int .i64 a2], .agg #[.int .i64 a3, .int .i64 a1]] w (Ret V Q) := (stamp_Compare.go a0 a2 a3 a1 h).mono fun e w' ⟨v, he, hv, hq⟩ => ⟨by rw [he, hv], hq⟩

/-- stamp.Less -/
def stamp_Less.M (ac : Int) (aa : Int) (ab : Int) (a9 : Int) (R : Value → World → Prop) (w : World) : Prop :=
 thenW (w.alloc (.cells #[.int .i64 ac, .int .i64 aa] 45)) fun a6 =>
 thenW (a6.alloc (.cells #[.int .i64 ab, .int .i64 a9] 45)) fun a4 =>
 ∃ (a7 : Int) (a8 : Int), cellsAt a4 (blk w.heap.size) [.int .i64 a7, .int .i64 a8] 0 ∧
 ∃ (a5 : Int) (a1 : Int), cellsAt a4 (blk a6.heap.size) [.int .i64 a5, .int .i64 a1] 0 ∧
 Calls Try.prog 70 #[.agg #[.int .i64 a7, .int .i64 a8], .agg #[.int .i64 a5, .int .i64 a1]] a4 fun a2 a3 => ∃ (a0 : Int), a2 = .returned (.int .i64 a0) ∧
 R (.bool (decide (a0 < 0))) a3

theorem stamp_Less.eq (aT1 : Int) (aW2 : Int) (bT3 : Int) (bW4 : Int) (R : Value → World → Prop) (w : World) : mfunc Try.prog [] 53 [.agg #[.int .i64 aT1, .int .i64 aW2], .agg #[.int .i64 bT3, .int .i64 bW4]] R w = stamp_Less.M aT1 aW2 bT3 bW4 R w := by kernel_rfl
theorem stamp_Less.ok (a0 : Int) (a2 : Int) (a3 : Int) (a1 : Int) {R : Value → World → Prop} {w : World} (h : stamp_Less.M a0 a2 a3 a1 R w) : Calls Try.prog 53 #[.agg #[.int .i64 a0, .int .i64 a2], .agg #[.int .i64 a3, .int .i64 a1]] w fun e w' => ∃ v, e = .returned v ∧ R v w' :=
  mfunc_ok follows (H := []) (args := [.agg #[.int .i64 a0, .int .i64 a2], .agg #[.int .i64 a3, .int .i64 a1]]) (by rw [stamp_Less.eq]; exact h)

def stamp_Less.N (a7 : Int) (a5 : Int) (a6 : Int) (a4 : Int) (R : Value → World → Prop) (w : World) : Prop :=
 ∀ (a3 : World), Ext no w a3 →
 Calls Try.prog 70 #[.agg #[.int .i64 a7, .int .i64 a5], .agg #[.int .i64 a6, .int .i64 a4]] a3 fun a2 a1 => ∃ (a0 : Int), a2 = .returned (.int .i64 a0) ∧
 R (.bool (decide (a0 < 0))) a1

theorem stamp_Less.up (a5 : Int) (a3 : Int) (a4 : Int) (a2 : Int) {R : Value → World → Prop} {w : World} (h : stamp_Less.N a5 a3 a4 a2 R w) : stamp_Less.M a5 a3 a4 a2 R w := by
  unfold stamp_Less.M
  unfold stamp_Less.N at h
  refine thenW_in fun ae e5 => ?_
  have a1 := Blk.of_new e5
  have ad := ((Ext.refl no w)).size
  have a7 := (Ext.refl no w).x_alloc e5
  refine thenW_in fun ac e6 => ?_
  have a6 := Blk.of_new e6
  have af := (a7).size
  have a8 := Nat.ne_of_lt a1.lt
  have a1 := a1.x_alloc e6
  have a9 := a7.x_alloc e6
  refine ⟨a5, a3, ⟨a1.celli 0 rfl rfl, a1.celli 1 rfl rfl, trivial⟩, ?_⟩
  refine ⟨a4, a2, ⟨a6.celli 0 rfl rfl, a6.celli 1 rfl rfl, trivial⟩, ?_⟩
  have h := h ac a9
  refine h.mono fun ab aa h => ?_
  obtain ⟨a0, he, h⟩ := h
  refine ⟨a0, he, ?_⟩
  exact h

theorem stamp_Less.go (a0 : Int) (a2 : Int) (a3 : Int) (a1 : Int) {R : Value → World → Prop} {w : World} (h : stamp_Less.N a0 a2 a3 a1 R w) : Calls Try.prog 53 #[.agg #[.int .i64 a0, .int .i64 a2], .agg #[.int .i64 a3, .int .i64 a1]] w fun e w' => ∃ v, e = .returned v ∧ R v w' := stamp_Less.ok a0 a2 a3 a1 (stamp_Less.up a0 a2 a3 a1 h)
theorem stamp_Less.run (a0 : Int) (a2 : Int) (a3 : Int) (a1 : Int) {V : Value} {Q : World → Prop} {w : World} (h : stamp_Less.N a0 a2 a3 a1 (fun v w' => v = V ∧ Q w') w) : Calls Try.prog 53 #[.agg #[.int .i64 a0, .int .i64 a2], .agg #[.int .i64 a3, .int .i64 a1]] w (Ret V Q) := (stamp_Less.go a0 a2 a3 a1 h).mono fun e w' ⟨v, he, hv, hq⟩ => ⟨by rw [he, hv], hq⟩

/-- cachetteref04.Less -/
def cachetteref04_Less.M (a8 : Int) (a6 : Int) (a7 : Int) (a5 : Int) (R : Value → World → Prop) (w : World) : Prop :=
 thenW (w.alloc (.cells #[.int .i64 a8, .int .i64 a6] 45)) fun a1 =>
 thenW (a1.alloc (.cells #[.int .i64 a7, .int .i64 a5] 45)) fun a0 =>
 ∃ (T7 : Int), a0.cell? ((blk w.heap.size).add 0) = some (.int .i64 T7) ∧
 ∃ (T8 : Int), a0.cell? ((blk a1.heap.size).add 0) = some (.int .i64 T8) ∧
 bif decide (T7 < T8) then (
 R (.bool true) a0) else (
 ∃ (T9 : Int), a0.cell? ((blk w.heap.size).add 0) = some (.int .i64 T9) ∧
 ∃ (a2 : Int), a0.cell? ((blk a1.heap.size).add 0) = some (.int .i64 a2) ∧
 bif T9 == a2 then (
 ∃ (a4 : Int), a0.cell? ((blk w.heap.size).add 1) = some (.int .i64 a4) ∧
 ∃ (a3 : Int), a0.cell? ((blk a1.heap.size).add 1) = some (.int .i64 a3) ∧
 R (.bool (decide (a4 < a3))) a0) else (
 R (.bool false) a0))

theorem cachetteref04_Less.eq (aT1 : Int) (aW2 : Int) (bT3 : Int) (bW4 : Int) (R : Value → World → Prop) (w : World) : mfunc Try.prog [] 58 [.agg #[.int .i64 aT1, .int .i64 aW2], .agg #[.int .i64 bT3, .int .i64 bW4]] R w = cachetteref04_Less.M aT1 aW2 bT3 bW4 R w := by kernel_rfl
theorem cachetteref04_Less.ok (a0 : Int) (a2 : Int) (a3 : Int) (a1 : Int) {R : Value → World → Prop} {w : World} (h : cachetteref04_Less.M a0 a2 a3 a1 R w) : Calls Try.prog 58 #[.agg #[.int .i64 a0, .int .i64 a2], .agg #[.int .i64 a3, .int .i64 a1]] w fun e w' => ∃ v, e = .returned v ∧ R v w' :=
  mfunc_ok follows (H := []) (args := [.agg #[.int .i64 a0, .int .i64 a2], .agg #[.int .i64 a3, .int .i64 a1]]) (by rw [cachetteref04_Less.eq]; exact h)

def cachetteref04_Less.N (a2 : Int) (a4 : Int) (a1 : Int) (a3 : Int) (R : Value → World → Prop) (w : World) : Prop :=
 (a2 < a1 →
 ∀ (a0 : World), Ext no w a0 →
 R (.bool true) a0) ∧
 (a1 ≤ a2 →
 (a2 = a1 →
 ∀ (a0 : World), Ext no w a0 →
 R (.bool (decide (a4 < a3))) a0) ∧
 (a2 ≠ a1 →
 ∀ (a0 : World), Ext no w a0 →
 R (.bool false) a0))

theorem cachetteref04_Less.up (a2 : Int) (a5 : Int) (a1 : Int) (a4 : Int) {R : Value → World → Prop} {w : World} (h : cachetteref04_Less.N a2 a5 a1 a4 R w) : cachetteref04_Less.M a2 a5 a1 a4 R w := by
  unfold cachetteref04_Less.M
  unfold cachetteref04_Less.N at h
  refine thenW_in fun ac e5 => ?_
  have a0 := Blk.of_new e5
  have ab := ((Ext.refl no w)).size
  have a9 := (Ext.refl no w).x_alloc e5
  refine thenW_in fun a8 e6 => ?_
  have a3 := Blk.of_new e6
  have ad := (a9).size
  have aa := Nat.ne_of_lt a0.lt
  have a0 := a0.x_alloc e6
  have a6 := a9.x_alloc e6
  refine ⟨a2, a0.celli 0 rfl rfl, ?_⟩
  refine ⟨a1, a3.celli 0 rfl rfl, ?_⟩
  refine bif_of (fun c7 => ?_) (fun c7 => ?_)
  · have h := h.1 (of_decide_eq_true c7)
    have h := h a8 a6
    exact h
  · have h := h.2 (Int.not_lt.1 (of_decide_eq_false c7))
    refine ⟨a2, a0.celli 0 rfl rfl, ?_⟩
    refine ⟨a1, a3.celli 0 rfl rfl, ?_⟩
    refine bif_of (fun a7 => ?_) (fun a7 => ?_)
    · have h := h.1 (beq_t a7)
      refine ⟨a5, a0.celli 1 rfl rfl, ?_⟩
      refine ⟨a4, a3.celli 1 rfl rfl, ?_⟩
      have h := h a8 a6
      exact h
    · have h := h.2 (beq_f a7)
      have h := h a8 a6
      exact h

theorem cachetteref04_Less.go (a0 : Int) (a2 : Int) (a3 : Int) (a1 : Int) {R : Value → World → Prop} {w : World} (h : cachetteref04_Less.N a0 a2 a3 a1 R w) : Calls Try.prog 58 #[.agg #[.int .i64 a0, .int .i64 a2], .agg #[.int .i64 a3, .int .i64 a1]] w fun e w' => ∃ v, e = .returned v ∧ R v w' := cachetteref04_Less.ok a0 a2 a3 a1 (cachetteref04_Less.up a0 a2 a3 a1 h)
theorem cachetteref04_Less.run (a0 : Int) (a2 : Int) (a3 : Int) (a1 : Int) {V : Value} {Q : World → Prop} {w : World} (h : cachetteref04_Less.N a0 a2 a3 a1 (fun v w' => v = V ∧ Q w') w) : Calls Try.prog 58 #[.agg #[.int .i64 a0, .int .i64 a2], .agg #[.int .i64 a3, .int .i64 a1]] w (Ret V Q) := (cachetteref04_Less.go a0 a2 a3 a1 h).mono fun e w' ⟨v, he, hv, hq⟩ => ⟨by rw [he, hv], hq⟩

def cachetteref04_Less.F (a0 : Int) (a3 : Int) (a1 : Int) (a2 : Int) : Bool :=
  if a0 < a1 then
    true
  else
    if a0 = a1 then
      (decide (a3 < a2))
    else
      false
theorem cachetteref04_Less.pure (a0 : Int) (a2 : Int) (a3 : Int) (a1 : Int) {w : World} : Calls Try.prog 58 #[.agg #[.int .i64 a0, .int .i64 a2], .agg #[.int .i64 a3, .int .i64 a1]] w (Ret (.bool (cachetteref04_Less.F a0 a2 a3 a1)) fun w' => Ext no w w') := by
  refine cachetteref04_Less.run a0 a2 a3 a1 ?_
  unfold cachetteref04_Less.N
  refine ⟨fun c0 => ?_, fun c0 => ?_⟩
  · intro w' hx; exact ⟨by unfold cachetteref04_Less.F; rw [if_pos c0], hx⟩
  · refine ⟨fun c1 => ?_, fun c1 => ?_⟩
    · intro w' hx; exact ⟨by unfold cachetteref04_Less.F; rw [if_neg (by omega), if_pos c1], hx⟩
    · intro w' hx; exact ⟨by unfold cachetteref04_Less.F; rw [if_neg (by omega), if_neg c1], hx⟩

def lessS (t1 w1 t2 w2 : Int) : Bool := decide (t1 < t2) || (decide (t1 = t2) && decide (w1 < w2))
theorem cmp64_F (x y : Int) : cmp_Compare_int64.F x y = if x < y then -1 else if x > y then 1 else 0 := by
  unfold cmp_Compare_int64.F cmp_isNaN_int64.F; simp
theorem cmpInt_F (x y : Int) : cmp_Compare_int.F x y = if x < y then -1 else if x > y then 1 else 0 := by
  unfold cmp_Compare_int.F cmp_isNaN_int.F; simp
theorem refLess_F (t1 w1 t2 w2 : Int) : cachetteref04_Less.F t1 w1 t2 w2 = lessS t1 w1 t2 w2 := by
  unfold cachetteref04_Less.F lessS
  by_cases h : t1 < t2
  · rw [if_pos h, decide_eq_true h, Bool.true_or]
  · rw [if_neg h, decide_eq_false h, Bool.false_or]
    by_cases h2 : t1 = t2
    · rw [if_pos h2, decide_eq_true h2, Bool.true_and]
    · rw [if_neg h2, decide_eq_false h2, Bool.false_and]
theorem Or2_spec {w : World} {q : Nat} {x y : Int} (hb : Blk w q 3 [.int .i64 x, .int .i64 y]) :
    Calls Try.prog 82 #[.slice (some (blk q)) 2 2] w (Ret (.int .i64 (if x ≠ 0 then x else y)) fun w' => w' = w) := by
  refine cmp_Or_int.run _ _ _ ?_
  unfold cmp_Or_int.N
  refine ⟨fun m vs w1 => ∃ t : Nat, vs = [.int .i64 t] ∧ m + t = 2 ∧ w1 = w ∧ (0 < t → x = 0) ∧ (1 < t → y = 0), 2, ⟨0, rfl, rfl, rfl, fun h => absurd h (by decide), fun h => absurd h (by decide)⟩, ?_⟩
  rintro m w1 i ⟨t, hi, hm, rfl, h0, h1⟩
  simp only [List.cons.injEq, Value.int.injEq, true_and, and_true] at hi
  subst hi
  refine ⟨fun ht => ?_, fun ht => ⟨?_, rfl⟩⟩
  · have ht2 : t = 0 ∨ t = 1 := by omega
    rcases ht2 with rfl | rfl
    · refine ⟨_, rfl, by omega, by omega, x, hb.cella (i := 0) rfl, fun hx => ⟨by rw [if_pos hx], rfl⟩, fun hx => ⟨by omega, by omega, m - 1, by omega, 1, rfl, by omega, rfl, fun _ => hx, fun h => absurd h (by decide)⟩⟩
    · refine ⟨_, rfl, by omega, by omega, y, hb.cella (i := 1) rfl, fun hy => ⟨by rw [if_neg (not_not_intro (h0 (by decide)))], rfl⟩, fun hy => ⟨by omega, by omega, m - 1, by omega, 2, rfl, by omega, rfl, fun _ => h0 (by decide), fun _ => hy⟩⟩
  · have : t = 2 := by omega
    subst this
    rw [if_neg (not_not_intro (h0 (by decide))), h1 (by decide)]
theorem Less_spec (w : World) (t1 w1 t2 w2 : Int) : Calls Try.prog 53 #[.agg #[.int .i64 t1, .int .i64 w1], .agg #[.int .i64 t2, .int .i64 w2]] w (Ret (.bool (lessS t1 w1 t2 w2)) fun w' => Ext no w w') := by
  refine stamp_Less.run _ _ _ _ ?_
  unfold stamp_Less.N
  intro w6 X6
  have key : Calls Try.prog 70 #[.agg #[.int .i64 t1, .int .i64 w1], .agg #[.int .i64 t2, .int .i64 w2]] w6 (Ret (.int .i64 (if cmp_Compare_int64.F t1 t2 ≠ 0 then cmp_Compare_int64.F t1 t2 else cmp_Compare_int.F w1 w2)) fun w' => Ext no w6 w') := by
    refine stamp_Compare.run _ _ _ _ ?_
    unfold stamp_Compare.N
    intro w10 q X10 hb _ _
    exact (Or2_spec hb).mono fun e w' ⟨he, hw⟩ => ⟨_, he, rfl, by subst hw; exact X10⟩
  refine key.mono fun e w' ⟨he, X⟩ => ⟨_, he, ?_, X6.trans X⟩
  congr 1
  rw [cmp64_F, cmpInt_F]
  unfold lessS
  by_cases h : t1 < t2
  · simp [h]
  · by_cases h2 : t1 = t2
    · subst h2
      simp
      by_cases h3 : w1 < w2
      · simp [h3]
      · by_cases h4 : w2 < w1
        · simp [h3, h4]
        · simp [h3, h4]
    · have : t1 > t2 := by omega
      simp [h, h2, this]
end Go.Proofs.Ytdelmfpchbpafaa

/- Structs, and rows of structs, that are handed in; cells of a row of structs. -/
set_option linter.unusedSimpArgs false
set_option linter.unusedVariables false
set_option linter.unusedSectionVars false
namespace Go.Mx
/-- cells, one part behind the other. -/
def SeqQ : List (Nat × (World → List Value → Prop)) → World → List Value → Prop
  | [], _, cs => cs = []
  | q :: r, W, cs => ∃ x y, cs = x ++ y ∧ x.length = q.1 ∧ q.2 W x ∧ SeqQ r W y
def FieldsOk (P : Program) : List Field → Nat → List (Nat × (World → List Value → Prop)) → Nat → Prop
  | [], off, [], size => off = size
  | f :: r, off, q :: s, size => (f.offset = off ∧ P.cellsOf f.type = q.1 ∧ Opens P f.type q.2) ∧ FieldsOk P r (off + q.1) s size
  | _, _, _, _ => False
theorem seq_of {P : Program} {W : World} {cs : List Value} : ∀ {l : List Field} {off : Nat} {qs : List (Nat × (World → List Value → Prop))} {size : Nat}, FieldsOk P l off qs size → cs.length = size →
    (∀ (i : Nat) (f : Field), l[i]? = some f → ∀ Q, Opens P f.type Q → Q W ((cs.drop f.offset).take (P.cellsOf f.type))) → off ≤ cs.length → (∀ q ∈ qs, True) → SeqQ qs W (cs.drop off)
  | [], off, [], size, h, hl, _, _, _ => by
    simp only [FieldsOk] at h
    simp only [SeqQ]
    exact List.drop_eq_nil_of_le (by omega)
  | f :: r, off, q :: s, size, h, hl, hf, hle, _ => by
    obtain ⟨⟨h1, h2, h3⟩, h4⟩ := h
    have h0 := hf 0 f rfl q.2 h3
    rw [h1, h2] at h0
    have hsz : ∀ {l : List Field} {off : Nat} {qs : List (Nat × (World → List Value → Prop))}, FieldsOk P l off qs size → off ≤ size := by
      intro l
      induction l with
      | nil => intro off qs h; cases qs with | nil => exact Nat.le_of_eq h | cons _ _ => exact h.elim
      | cons f r ih => intro off qs h; cases qs with | nil => exact h.elim | cons q s => have := ih h.2; omega
    have hle2 := hsz h4
    refine ⟨(cs.drop off).take q.1, cs.drop (off + q.1), ?_, ?_, h0, ?_⟩
    · rw [← List.drop_drop, List.take_append_drop]
    · rw [List.length_take, List.length_drop]; omega
    · exact seq_of h4 hl (fun i f hi => hf (i + 1) f (by simpa using hi)) (by omega) (fun _ _ => trivial)
  | [], _, _ :: _, _, h, _, _, _, _ => h.elim
  | _ :: _, _, [], _, h, _, _, _, _ => h.elim
/-- a struct: its fields, one behind the other. -/
theorem opens_seq {P : Program} {t : TypeId} {fs : Array Field} {size : Nat} {qs : List (Nat × (World → List Value → Prop))} (ht : P.underlying t = some (.struct fs)) (hs : P.cellsOf t = size) (h : FieldsOk P fs.toList 0 qs size) : Opens P t (SeqQ qs) :=
  (opens_struct ht hs).mono fun W cs ⟨hl, hf⟩ => seq_of (off := 0) h hl (fun i f hi => hf i f (by rw [← Array.getElem?_toList]; exact hi)) (Nat.zero_le _) fun _ _ => trivial
/-- a row of structs. -/
theorem opens_rows {P : Program} {t e : TypeId} {size : Nat} {α : Type} {f : α → List Value} {G : World → α → Prop} (ht : P.underlying t = some (.slice e)) (hs : P.cellsOf e = size) (he : Opens P e fun W cs => ∃ x, cs = f x ∧ G W x) :
    Opens P t fun W cs => ∃ (a : Option Addr) (c : Nat) (l : List α), cs = [.slice a l.length c] ∧ l.length ≤ c ∧ c ≤ maxLen ∧ RowAt W a (l.flatMap f) ∧ ∀ x ∈ l, G W x :=
  (opens_slice (size := size) ht hs he).mono fun W cs ⟨a, l, c, rows, h1, h2, h3, h4, h5, h6⟩ => by
    obtain ⟨xs, h7, h8⟩ := rows_of (rows := rows) f (G W) fun r hr => (h6 r hr).2
    subst h7
    rw [List.length_map] at h4
    subst h4
    exact ⟨a, c, xs, h1, h2, h3, by rw [List.flatMap_def]; exact h5, h8⟩
section
variable {α : Type} {f : α → List Value} {n : Nat} {w : World} {a : Option Addr} {l : List α}
theorem flat_length (hf : ∀ x, (f x).length = n) (l : List α) : (l.flatMap f).length = l.length * n := by
  induction l with
  | nil => simp
  | cons x r ih => rw [List.flatMap_cons, List.length_append, ih, hf, List.length_cons, Nat.succ_mul]; omega
theorem flat_get (hf : ∀ x, (f x).length = n) : ∀ {l : List α} {i : Nat} {x : α}, l[i]? = some x → ∀ j, j < n → (l.flatMap f)[i * n + j]? = (f x)[j]?
  | [], i, x, hi, j, hj => by simp at hi
  | a :: r, 0, x, hi, j, hj => by
    simp only [List.getElem?_cons_zero, Option.some.injEq] at hi
    subst hi
    rw [List.flatMap_cons, Nat.zero_mul, Nat.zero_add, List.getElem?_append_left (by rw [hf]; exact hj)]
  | a :: r, i + 1, x, hi, j, hj => by
    simp only [List.getElem?_cons_succ] at hi
    rw [List.flatMap_cons, List.getElem?_append_right (by rw [hf, Nat.succ_mul]; omega), show (i + 1) * n + j - (f a).length = i * n + j by rw [hf, Nat.succ_mul]; omega]
    exact flat_get hf hi j hj
/-- a cell of a struct in a row. -/
theorem RowAt.fcell (hf : ∀ x, (f x).length = n) {ad : Addr} (h : RowAt w (some ad) (l.flatMap f)) {i : Nat} {x : α} (hi : l[i]? = some x) (j : Nat) {v : Value} (hv : (f x)[j]? = some v) : w.cell? ((ad.add (i * n)).add j) = some v := by
  rw [add_add]
  have hj : j < n := by rw [← hf x]; exact (List.getElem?_eq_some_iff.1 hv).1
  exact h.at_ ((flat_get hf hi j hj).trans hv)
theorem RowAt.faddr (hf : ∀ x, (f x).length = n) (hn : 0 < n) (h : RowAt w a (l.flatMap f)) {i : Nat} (hi : i < l.length) : ∃ ad, a = some ad := h.addr fun e => by
  have := flat_length hf l
  rw [e, List.length_nil] at this
  rcases Nat.mul_eq_zero.1 this.symm with h | h <;> omega
end
end Go.Mx

/- Rows that grow: of an owner, also cut off; and of a function's own. -/
set_option linter.unusedSimpArgs false
set_option linter.unusedVariables false
set_option linter.unusedSectionVars false
namespace Go.Mx
section
variable {K K1 : Nat → Prop} {w w1 w' w0 : World} {o o1 o' o0 : Own} {p q j k N : Nat} {e : TypeId} {size n c : Nat} {a : Option Addr} {cs : List Value}
/-- the row of an owner, or what was cut off of it. -/
def GrowsF (e size : Nat) (w : World) (o : Own) (k : Nat) (a : Option Addr) (n c : Nat) (cs : List Value) : Prop :=
  Grows e size w o k a n c cs ∨ (n = c ∧ RowAt w a cs ∧ cs.length = n * size ∧ ∃ ad, a = some ad ∧ o ad.block = some k ∧ ad.block < w.heap.size)
theorem GrowsF.row (h : GrowsF e size w o k a n c cs) : RowAt w a cs := h.elim Grows.row fun h => h.2.1
theorem GrowsF.len (h : GrowsF e size w o k a n c cs) : cs.length = n * size := h.elim (fun h => h.own.1) fun h => h.2.2.1
theorem GrowsF.le (h : GrowsF e size w o k a n c cs) : n ≤ c := h.elim (fun h => (own_fresh h.own).1) fun h => Nat.le_of_eq h.1
theorem GrowsF.tg (h : GrowsF e size w o k a n c cs) : ∀ ad, a = some ad → o ad.block = some k ∧ ad.block < w.heap.size := h.elim (fun h => h.tg) fun ⟨_, _, _, ad, ha, h⟩ ad' ha' => by rw [ha] at ha'; cases ha'; exact h
theorem GrowsF.step (h : GrowsF e size w o k a n c cs) (s : Step K w o w' o') (hk : ¬ K k) : GrowsF e size w' o' k a n c cs := by
  rcases h with h | ⟨h1, h2, h3, ad, ha, h4, h5⟩
  · exact .inl (h.step s hk)
  · exact .inr ⟨h1, h2.ext s.ext fun ad' ha' ⟨i, hi, hK⟩ => by rw [ha] at ha'; cases ha'; rw [h4] at hi; cases hi; exact hk hK, h3, ad, ha, (s.own h5).trans h4, Nat.lt_of_lt_of_le h5 s.size⟩
theorem GrowsF.keep (h : GrowsF e size w o k a n c cs) {m : Nat → Prop} (x : Ext m w w') (hm : ∀ ad, a = some ad → ¬ m ad.block) (ho : ∀ b, b < w.heap.size → o' b = o b) : GrowsF e size w' o' k a n c cs := by
  rcases h with h | ⟨h1, h2, h3, ad, ha, h4, h5⟩
  · exact .inl (h.keep x hm ho)
  · exact .inr ⟨h1, h2.ext x hm, h3, ad, ha, (ho _ h5).trans h4, Nat.lt_of_lt_of_le h5 x.size⟩
/-- what is cut off behind some. -/
theorem GrowsF.cut (h : GrowsF e size w o k a n c cs) {i : Nat} (hi : i ≤ n) (ha : a ≠ none) : GrowsF e size w o k a i i (cs.take (i * size)) := by
  obtain ⟨ad, ha⟩ := Option.ne_none_iff_exists'.1 ha
  refine .inr ⟨rfl, h.row.take _, ?_, ad, ha, h.tg ad ha⟩
  rw [List.length_take, h.len]
  have := Nat.mul_le_mul_right size hi
  omega
theorem GrowsF.push {P : Program} {t ty : TypeId} {i : TypeInfo} {z : Value} {bytes : Nat} (ht : P.underlying t = some (.slice e)) (hi : P.info? e = some i) (hz : i.zero = some z)
    (hsize : i.size = size) (hby : i.bytes = bytes) (hzs : z.cells.size = size) (hsz : 0 < size) (h : GrowsF e size w o k a n c cs) (ok : Tags w o) (hk : k < w.heap.size)
    {xa : Option Addr} {m xc : Nat} {news : List Value} (hl : news.length = m * size) (hnews : RowAt w xa news) (h1 : ∀ u ∈ news, u.oneCell' = true) (hm : 0 < m) (hb : (n + m) * bytes ≤ 140737488355328) (h63 : n + m ≤ 1000000000) :
    ∃ a' c' w' o', (Builtin.append_ #[t, t] ty #[.slice a n c, .slice xa m xc]).run P w = .ok (.slice a' (n + m) c') w' ∧ Step (fun j => j = k) w o w' o' ∧ GrowsF e size w' o' k a' (n + m) c' (cs ++ news) ∧
      (∀ b, b < w.heap.size → (∀ ad, a = some ad → b ≠ ad.block) → w'.heap[b]? = w.heap[b]?) ∧ (∀ ad, a' = some ad → (∃ b, a = some b ∧ ad.block = b.block) ∨ ad.block = w.heap.size) := by
  rcases h with h | ⟨h1', h2, h3, ad, ha, h4, h5⟩
  · obtain ⟨a', c', w', o', q1, q2, q3, q4, q5⟩ := h.push (ty := ty) ht hi hz hsize hby hzs hsz ok hk hl hnews h1 hb (by omega)
    exact ⟨a', c', w', o', q1, q2, .inl q3, q4, q5⟩
  · subst h1'
    subst ha
    obtain ⟨xd, rfl⟩ := hnews.addr fun e => by
      have : 0 < m * size := Nat.mul_pos hm hsz
      rw [e] at hl
      have : ([] : List Value).length = 0 := rfl
      omega
    obtain ⟨v', w', hr, ho, hg⟩ := run_append_arg_grows (P := P) w t ty e i z size bytes ht hi hz hsize hby hzs hsz ad n n cs h3 (fun j u hu => h2.at_ hu) xd m xc news hl (fun j u hu => hnews.at_ hu) (by omega) (by unfold maxLen; omega) hb
    obtain ⟨a', c', hv, hrow⟩ := RowAt.of_owns ho
    subst hv
    have X : Ext no w w' := Ext.of_grown hg fun q hq => by cases hq
    have hfr := (own_fresh ho).2
    have s := (Step.of_no X ok)
    rcases ho.2 with ⟨hv, h0⟩ | ⟨g, cap, cur, hv, hb1, hg1, _⟩
    · omega
    · cases hv
      have hgs := hfr _ rfl
      refine ⟨_, _, w', tag (grow w o) g k, hr, (s.tag hb1 (Nat.lt_of_lt_of_le hk X.size)).none, .inl ⟨⟨ho.1, ?_⟩, fun ad' ha' => ?_⟩, fun b hb _ => X.block b hb id, fun ad' ha' => ?_⟩
      · rcases ho.2 with h | ⟨g, cap, cur, hv, hb1, h⟩
        · exact .inl h
        · exact .inr ⟨g, cap, cur, hv, Nat.zero_le _, h⟩
      · cases ha'; exact ⟨tag_self, hgs⟩
      · cases ha'
        refine .inr ?_
        -- the block is the next one: of no more than one new block
        have hr' := run_append_grow (P := P) w t ty e i z ht hi hz ad n n cs (by rw [hsize]; exact h3) (fun j u hu => h2.at_ hu) xd m xc news (by rw [hsize]; exact hl) (fun j u hu => hnews.at_ hu) (by omega) (by omega) (growslice_fits (by omega) (by rw [hby]; exact hb))
        rw [hr] at hr'
        injection hr' with hr' _
        injection hr' with hr' _ _
        injection hr' with hr'
        injection hr'
/-- a row of a function's own: nothing yet, or in a block that came behind N. -/
def LRow (e size N : Nat) (w : World) (o : Own) (a : Option Addr) (n c : Nat) (cs : List Value) : Prop :=
  (a = none ∧ n = 0 ∧ c = 0 ∧ cs = []) ∨ ∃ k, N ≤ k ∧ k < w.heap.size ∧ Grows e size w o k a n c cs
theorem LRow.nil (e size N : Nat) (w : World) (o : Own) : LRow e size N w o none 0 0 [] := .inl ⟨rfl, rfl, rfl, rfl⟩
theorem LRow.row (h : LRow e size N w o a n c cs) : RowAt w a cs := by
  rcases h with ⟨rfl, rfl, rfl, rfl⟩ | ⟨k, _, _, h⟩
  · exact RowAt.nil _ _
  · exact h.row
theorem LRow.len (h : LRow e size N w o a n c cs) : cs.length = n * size := by
  rcases h with ⟨rfl, rfl, rfl, rfl⟩ | ⟨k, _, _, h⟩
  · simp
  · exact h.own.1
theorem LRow.le (h : LRow e size N w o a n c cs) : n ≤ c := by
  rcases h with ⟨rfl, rfl, rfl, rfl⟩ | ⟨k, _, _, h⟩
  · exact Nat.le_refl _
  · exact (own_fresh h.own).1
theorem LRow.step (h : LRow e size N w o a n c cs) (s : Step K w o w' o') (hk : ∀ k, K k → k < N ∨ w.heap.size ≤ k) : LRow e size N w' o' a n c cs := by
  rcases h with h | ⟨k, h1, h2, h⟩
  · exact .inl h
  · exact .inr ⟨k, h1, Nat.lt_of_lt_of_le h2 s.size, h.step s fun hK => by rcases hk k hK with h | h <;> omega⟩
theorem LRow.push {P : Program} {t ty : TypeId} {i : TypeInfo} {z : Value} {bytes : Nat} (ht : P.underlying t = some (.slice e)) (hi : P.info? e = some i) (hz : i.zero = some z)
    (hsize : i.size = size) (hby : i.bytes = bytes) (hzs : z.cells.size = size) (hsz : 0 < size) (h : LRow e size N w o a n c cs) (ok : Tags w o) (hp : N ≤ p) (hp' : p < w.heap.size)
    {xa : Option Addr} {m xc : Nat} {news : List Value} (hl : news.length = m * size) (hnews : RowAt w xa news) (h1 : ∀ u ∈ news, u.oneCell' = true) (hb : (n + m) * bytes ≤ 140737488355328) (h63 : n + m ≤ 9223372036854775807) :
    ∃ a' c' w' o', (Builtin.append_ #[t, t] ty #[.slice a n c, .slice xa m xc]).run P w = .ok (.slice a' (n + m) c') w' ∧ Step (fun j => N ≤ j) w o w' o' ∧ LRow e size N w' o' a' (n + m) c' (cs ++ news) ∧ Ext (fun b => ∃ ad, a = some ad ∧ b = ad.block) w w' := by
  have key : ∀ k, N ≤ k → k < w.heap.size → Grows e size w o k a n c cs → _ := fun k hk hk' hg => hg.push (ty := ty) ht hi hz hsize hby hzs hsz ok hk' (xc := xc) hl hnews h1 hb h63
  have fin : ∀ k, N ≤ k → k < w.heap.size → Grows e size w o k a n c cs → ∃ a' c' w' o', (Builtin.append_ #[t, t] ty #[.slice a n c, .slice xa m xc]).run P w = .ok (.slice a' (n + m) c') w' ∧ Step (fun j => N ≤ j) w o w' o' ∧ LRow e size N w' o' a' (n + m) c' (cs ++ news) ∧ Ext (fun b => ∃ ad, a = some ad ∧ b = ad.block) w w' := fun k hk hk' hg => by
    obtain ⟨a', c', w', o', r1, r2, r3, r4, _⟩ := key k hk hk' hg
    refine ⟨a', c', w', o', r1, r2.mono fun j hj _ => by omega, .inr ⟨k, hk, Nat.lt_of_lt_of_le hk' r2.size, r3⟩, ⟨r2.ext.os, r2.ext.tape, r2.ext.output, r2.ext.size, fun b hb hn => r4 b hb fun ad ha hb' => hn ⟨ad, ha, hb'⟩⟩⟩
  rcases h with ⟨rfl, rfl, rfl, rfl⟩ | ⟨k, h1, h2, h⟩
  · exact fin p hp hp' (Grows.nil _ _ _ _ _)
  · exact fin k h1 h2 h
/-- at the end: nobody's. -/
theorem LRow.give (h : LRow e size N w1 o1 a n c cs) (s : Step K w0 o0 w1 o1) (hN : w0.heap.size ≤ N) : Row w1 (grow w0 o0) a cs := ⟨h.row, fun h0 ad ha => by
  rcases h with ⟨rfl, _⟩ | ⟨k, h1, h2, h⟩
  · cases ha
  · refine grow_ge ?_
    have ht := h.tg ad ha
    by_cases hb : ad.block < w0.heap.size
    · rw [s.same _ hb] at ht
      have := s.ok0 _ _ hb ht.1
      omega
    · omega⟩
end
end Go.Mx

/- Chain: a log, and what its calls do (the program's). -/
set_option linter.unusedVariables false
set_option linter.unusedSimpArgs false
set_option maxRecDepth 20000
set_option maxHeartbeats 2000000
namespace Go.Proofs.Ytdelmfpchbpafaa
open Go Go.Mx Go.Proofs
open W (OwnB GivesW numR countR doneR zig unzig intR)
theorem inf47 : (Try.prog.info? 47).map (fun i => (i.zero, i.size, i.bytes)) = some (some (.agg #[.int .i64 0, .int .i64 0, .int .u64 0, .int .i64 0, .int .i64 0, .int .i64 0, .slice none 0 0, .int .u64 0]), 8, 80) := by kernel_rfl
/-- a log, as lists. -/
structure CL where
  wr : Int
  pb : Int
  es : List Ent
  sum : Int
structure PLog (w : World) (o : Own) (q k : Nat) (L : CL) : Prop where
  own : o q = some q
  few : L.es.length ≤ 200
  st : ∃ la lc, ∃ l : List PE, l.map PE.e = L.es ∧ Blk w q 82 [.pointer (some (blk k)), .int .i64 L.wr, .int .u64 L.pb, .slice la l.length lc, .int .u64 L.sum] ∧
    GrowsF 47 8 w o q la l.length lc (PE.Cs l) ∧ (∀ ad, la = some ad → ad.block ≠ q) ∧ ∀ x ∈ l, x.ok w o
def rightC (S : OS) (L : CL) (e : Ent) : Int := if entRight e = true then (if e.w = L.wr then (if holdsE S L.pb e = true then 0 else 6) else 20) else 1
def placeC (L : CL) (e : Ent) : Int := if e.i > L.es.length then 7 else if e.i = L.es.length then 0 else if L.es[e.i.toNat]? = some e then 8 else 9
def behindC (L : CL) (e : Ent) : Int := if e.pv = L.sum then (match L.es.getLast? with | none => 0 | some x => if lessS x.t x.tw e.t e.tw = true then 0 else 2) else 5
def checkC (S : OS) (L : CL) (e : Ent) : Int := if rightC S L e ≠ 0 then rightC S L e else if placeC L e ≠ 0 then placeC L e else behindC L e
def putC (S : OS) (L : CL) (e : Ent) : CL × OS := ({ L with es := L.es ++ [e], sum := (sumE S e).1.1 }, (sumE S e).2)
def acceptC (S : OS) (L : CL) (e : Ent) : Int × CL × OS := if checkC S L e = 0 then (0, putC S L e) else (checkC S L e, L, S)
def nextE (L : CL) (t tw ep : Int) (body : List UInt8) : Ent := ⟨L.wr, L.es.length, L.sum, t, tw, ep, body, 0⟩
def issueC (S : OS) (L : CL) (sec t tw ep : Int) (body : List UInt8) : (Ent × Int) × CL × OS :=
  if L.es.length ≥ 200 then ((Ent.zero, 3), L, S)
  else if entRight (nextE L t tw ep body) = true then
    (if behindC L (nextE L t tw ep body) ≠ 0 then ((Ent.zero, behindC L (nextE L t tw ep body)), L, S)
     else if (signE S sec (nextE L t tw ep body)).1.2 ≠ 0 then ((Ent.zero, (signE S sec (nextE L t tw ep body)).1.2), L, (signE S sec (nextE L t tw ep body)).2)
     else (((signE S sec (nextE L t tw ep body)).1.1, 0), putC (signE S sec (nextE L t tw ep body)).2 L (signE S sec (nextE L t tw ep body)).1.1))
  else ((Ent.zero, 1), L, S)
section
variable {w w' w1 : World} {o o' o1 : Own} {q k n : Nat} {K : Nat → Prop} {S : OS} {L : CL} {e : Ent} {a : Option Addr} {c : Nat}
theorem PLog.lt (h : PLog w o q k L) : q < w.heap.size := by obtain ⟨_, _, _, _, hb, _⟩ := h.st; exact hb.lt
theorem PLog.step (h : PLog w o q k L) (s : Step K w o w' o') (hq : ¬ K q) : PLog w' o' q k L := by
  have hlt := h.lt
  obtain ⟨la, lc, l, h0, h1, h2, h3, h4⟩ := h.st
  exact ⟨(s.own hlt).trans h.own, h.few, la, lc, l, h0, s.blk h1 h.own hq, h2.step s hq, h3, fun x hx => (h4 x hx).step s⟩
theorem PLog.new {w w' : World} {o : Own} {q k : Nat} {wr pb : Int} (X : Ext no w w') (hb : Blk w' q 82 [.pointer (some (blk k)), .int .i64 wr, .int .u64 pb, .slice none 0 0, .int .u64 0]) (h1 : w.heap.size ≤ q) (h2 : q < w'.heap.size) (ok : Tags w o) :
    ∃ o', Step no w o w' o' ∧ PLog w' o' q k ⟨wr, pb, [], 0⟩ :=
  ⟨_, (Step.of_no X ok).tag h1 h2, tag_self, Nat.zero_le _, none, 0, [], rfl, hb, .inl (Grows.nil _ _ _ _ _), fun ad h => (by cases h), fun x h => (by cases h)⟩
theorem getElem_map_e {l : List PE} {es : List Ent} (h : l.map PE.e = es) (i : Nat) : es[i]? = (l[i]?).map PE.e := by rw [← h, List.getElem?_map]
theorem len_map_e {l : List PE} {es : List Ent} (h : l.map PE.e = es) : l.length = es.length := by rw [← h, List.length_map]
theorem cNew_spec {w : World} {o : Own} {k : Nat} (ok : Tags w o) (wr pb : Int) :
    Calls Try.prog 10 #[.pointer (some (blk k)), .int .i64 wr, .int .u64 pb] w (fun x w' => (¬ (0 ≤ wr ∧ wr < 8) ∧ x = .returned (.tuple #[.pointer none, .int .i64 1]) ∧ w' = w) ∨ ((0 ≤ wr ∧ wr < 8) ∧ ∃ q o', x = .returned (.tuple #[.pointer (some (blk q)), .int .i64 0]) ∧ w.heap.size ≤ q ∧ Step no w o w' o' ∧ PLog w' o' q k ⟨wr, pb, [], 0⟩)) := by
  refine (chain_New.go _ _ _ (R := fun v w' => (¬ (0 ≤ wr ∧ wr < 8) ∧ v = (.tuple #[.pointer none, .int .i64 1]) ∧ w' = w) ∨ ((0 ≤ wr ∧ wr < 8) ∧ ∃ q o', v = (.tuple #[.pointer (some (blk q)), .int .i64 0]) ∧ w.heap.size ≤ q ∧ Step no w o w' o' ∧ PLog w' o' q k ⟨wr, pb, [], 0⟩)) ?_).mono fun x w' ⟨v, he, h⟩ => by
    rcases h with ⟨h1, h2, h3⟩ | ⟨h0, q, o', h1, h2⟩
    · exact .inl ⟨h1, by rw [he, h2], h3⟩
    · exact .inr ⟨h0, q, o', by rw [he, h1], h2⟩
  unfold chain_New.N
  refine ⟨fun h => .inl ⟨by omega, rfl, rfl⟩, fun h1 => ⟨fun h => .inl ⟨by omega, rfl, rfl⟩, fun h2 => ⟨fun h => (by cases h), fun _ w7 q X hb hq hq' => ?_⟩⟩⟩
  obtain ⟨o', s, p⟩ := PLog.new X hb hq hq' ok
  exact .inr ⟨⟨h1, h2⟩, q, o', rfl, hq, s, p⟩
theorem cClone_spec {w : World} {a : Option Addr} {c : Nat} {bs : List UInt8} (h : RowAt w a (bytesV bs)) (hl : bs.length ≤ 1000000) :
    Calls Try.prog 68 #[.slice a bs.length c] w (fun e w' => ∃ a' c', e = .returned (.slice a' bs.length c') ∧ OwnB w.heap.size w' a' c' bs ∧ Ext no w w') := by
  refine (slices_Clone_byte_byte.go _ _ _ (R := fun v w' => ∃ a' c', v = (.slice a' bs.length c') ∧ OwnB w.heap.size w' a' c' bs ∧ Ext no w w') ?_).mono fun e w' ⟨v, he, a, c, hv, hw⟩ => ⟨a, c, by rw [he, hv], hw⟩
  unfold slices_Clone_byte_byte.N
  refine ⟨fun hn => ?_, fun hn w2 q X hb hq hq' => ?_⟩
  · subst hn
    have : bs = [] := by simpa [bytesV] using h.none_nil
    subst this
    exact ⟨none, 0, rfl, OwnB.nil _ _, Ext.refl _ _⟩
  · have hO : OwnB w.heap.size w2 (some (blk q)) 0 [] := ⟨owns_of_blk hb rfl (Nat.zero_le _), fun ad ha => by cases ha; exact ⟨hq, hq'⟩⟩
    obtain ⟨a', c', w', hr, hO', hx⟩ := hO.append (t := 43) (ty := 43) Try.underlying43 X.size (xc := c) (h.no X) (by simp; omega)
    rw [List.nil_append] at hr hO'
    exact ⟨a', _, c', w', hr, a', c', rfl, hO', X.then hx fun b hb => .inr hb⟩
theorem cOwn_spec (ok : Tags w o) (h : Row w o a (bytesV e.body)) (hl : e.body.length ≤ 1000000) :
    Calls Try.prog 50 #[entV e a c] w (fun x w' => ∃ o' a' c', x = .returned (entV e a' c') ∧ Step no w o w' o' ∧ Row w' o' a' (bytesV e.body) ∧ e.body.length ≤ c') := by
  refine (chain_own.go e.w e.i e.pv e.t e.tw e.ep a e.body.length c e.sg (R := fun v w' => ∃ o' a' c', v = (entV e a' c') ∧ Step no w o w' o' ∧ Row w' o' a' (bytesV e.body) ∧ e.body.length ≤ c') ?_).mono fun x w' ⟨v, he, o', a, c, hv, hw⟩ => ⟨o', a, c, by rw [he, hv], hw⟩
  unfold chain_own.N
  intro w10 p11 p12 X10 hp
  obtain ⟨s10, M10⟩ := Step.priv X10 hp ok
  have g11 := hp p11 (by simp)
  have g12 := hp p12 (by simp)
  refine (cClone_spec (h.step s10).1 hl).mono fun x w15 ⟨ca, cc, he, hO, X15⟩ => ⟨_, _, _, he, X15.kept, fun w24 X24 => ?_⟩
  have s15 := Step.of_no X15 s10.ok
  have s24 := Step.stores X24 s15.ok (M10.step s15) (by simp [or_comm])
  exact ⟨_, ca, cc, rfl, (s10.trans s15).trans' s24 (fun i hi => .inr (by simp at hi; omega)), (OwnB.tight hO (Nat.le_refl _)).step s24, hO.le⟩
theorem cright_spec (P : PLog w o q k L) (h : POrc w o k S) (ok : Tags w o) (hf : entRight e = true → e.fit) (hb : RowAt w a (bytesV e.body)) :
    Calls Try.prog 42 #[.pointer (some (blk q)), entV e a c] w (Ret (.int .i64 (rightC S L e)) fun w' => Ext no w w') := by
  refine chain_Log_right.run (some (blk q)) e.w e.i e.pv e.t e.tw e.ep a e.body.length c e.sg ?_
  unfold chain_Log_right.N
  rw [entRight_F]
  obtain ⟨la, lc, l, h0, h1, h2, h3, h4⟩ := P.st
  refine ⟨fun hr w11 X => ⟨by unfold rightC; rw [if_neg (by rw [hr]; decide)], X⟩, fun hr => ⟨_, rfl, _, h1.cella (i := 1) rfl, fun hw w14 X => ⟨by unfold rightC; rw [if_pos hr, if_neg hw], X⟩, fun hw => ⟨_, h1.cella (i := 0) rfl, _, h1.cella (i := 2) rfl, fun w20 X20 => ?_⟩⟩⟩
  have s20 := Step.of_no X20 ok
  refine (HoldsO (h.step s20 id) s20.ok L.pb (e := e) hf (hb.no X20)).mono fun x w28 ⟨he, X28⟩ => ⟨_, he, fun hh => ⟨?_, X20.trans X28⟩, fun hh => ⟨?_, X20.trans X28⟩⟩
  · unfold rightC; rw [if_pos hr, if_pos hw, if_neg (by rw [hh]; decide)]
  · unfold rightC; rw [if_pos hr, if_pos hw, if_pos hh]
theorem cplace_spec (P : PLog w o q k L) (h0 : 0 ≤ e.i) (hb : RowAt w a (bytesV e.body)) :
    Calls Try.prog 43 #[.pointer (some (blk q)), entV e a c] w (Ret (.int .i64 (placeC L e)) fun w' => Ext no w w') := by
  refine chain_Log_place.run (some (blk q)) e.w e.i e.pv e.t e.tw e.ep a e.body.length c e.sg ?_
  unfold chain_Log_place.N
  obtain ⟨la, lc, l, g0, h1, h2, h3, h4⟩ := P.st
  have hl := len_map_e g0
  unfold placeC
  rw [← hl]
  refine ⟨_, rfl, la, l.length, lc, h1.cella (i := 3) rfl, fun hg w10 X => ⟨by rw [if_pos hg], X⟩, fun hg => ⟨fun he w10 X => ⟨by rw [if_neg (by omega), if_pos he], X⟩, fun hne => ?_⟩⟩
  have hi : e.i.toNat < l.length := by omega
  have hgx : l[e.i.toNat]? = some l[e.i.toNat] := List.getElem?_eq_getElem hi
  have hpk := h4 _ (List.getElem_mem hi)
  generalize l[e.i.toNat] = x at *
  obtain ⟨ad, rfl⟩ := h2.row.faddr PE.len (by decide) hi
  refine ⟨some ad, l.length, lc, h1.cella (i := 3) rfl, ad, rfl, h0, by omega, x.e.w, x.e.i, x.e.pv, x.e.t, x.e.tw, x.e.ep, x.a, x.e.body.length, x.c, x.e.sg, PE.loads h2.row rfl hgx, fun w18 X18 => ?_⟩
  refine (ESame_spec (e := x.e) (f := e) (hpk.1.1.no X18) (hb.no X18)).mono fun z w34 ⟨he, X34⟩ => ⟨_, he, fun hs => ⟨?_, X18.trans X34⟩, fun hs => ⟨?_, X18.trans X34⟩⟩
  · rw [if_neg (by omega), if_neg hne, getElem_map_e g0, hgx, if_pos (by rw [Option.map_some, of_decide_eq_true hs])]
  · rw [if_neg (by omega), if_neg hne, getElem_map_e g0, hgx, if_neg (by rw [Option.map_some]; intro h; injection h with h; exact of_decide_eq_false hs h)]
theorem cbehind_spec (P : PLog w o q k L) :
    Calls Try.prog 35 #[.pointer (some (blk q)), entV e a c] w (Ret (.int .i64 (behindC L e)) fun w' => Ext no w w') := by
  refine chain_Log_behind.run (some (blk q)) e.w e.i e.pv e.t e.tw e.ep a e.body.length c e.sg ?_
  unfold chain_Log_behind.N
  obtain ⟨la, lc, l, g0, h1, h2, h3, h4⟩ := P.st
  have hl := len_map_e g0
  have hfew := P.few
  refine ⟨_, rfl, la, l.length, lc, h1.cella (i := 3) rfl, _, h1.cella (i := 4) rfl, fun hp w14 X => ⟨by unfold behindC; rw [if_neg hp], X⟩, fun hp => ⟨fun hn => ?_, fun hn w19 X => ⟨?_, X⟩⟩⟩
  · have hi : l.length - 1 < l.length := by omega
    have hgx : l[l.length - 1]? = some l[l.length - 1] := List.getElem?_eq_getElem hi
    generalize l[l.length - 1] = x at *
    obtain ⟨ad, rfl⟩ := h2.row.faddr PE.len (by decide) hi
    have hlast : L.es.getLast? = some x.e := by rw [List.getLast?_eq_getElem?, getElem_map_e g0, ← hl, hgx]; rfl
    have e1 : ((l.length : Int) - 1).toNat = l.length - 1 := by omega
    have c3 := PE.cell h2.row rfl hgx (j := 3) (v := .int .i64 x.e.t) rfl
    have c4 := PE.cell h2.row rfl hgx (j := 4) (v := .int .i64 x.e.tw) rfl
    refine ⟨some ad, l.length, lc, h1.cella (i := 3) rfl, by omega, by omega, ad, rfl, by omega, by omega, x.e.t, x.e.tw, ⟨by rw [e1, add_add]; exact c3, by rw [e1, add_add]; exact c4, trivial⟩, fun w19 X19 => ?_⟩
    refine (Less_spec w19 x.e.t x.e.tw e.t e.tw).mono fun z w30 ⟨he, X30⟩ => ⟨_, he, fun hs => ⟨?_, X19.trans X30⟩, fun hs => ⟨?_, X19.trans X30⟩⟩
    · unfold behindC; rw [if_pos hp, hlast]; simp only []; rw [if_neg (by rw [hs]; decide)]
    · unfold behindC; rw [if_pos hp, hlast]; simp only []; rw [if_pos hs]
  · have : L.es = [] := List.eq_nil_of_length_eq_zero (by omega)
    unfold behindC; rw [if_pos hp, this]; rfl
theorem rightC_right (h : rightC S L e = 0) : entRight e = true := by
  unfold rightC at h
  by_cases hr : entRight e = true
  · exact hr
  · rw [if_neg hr] at h; cases h
theorem cCheck_spec (P : PLog w o q k L) (h : POrc w o k S) (ok : Tags w o) (hf : entRight e = true → e.fit) (hb : RowAt w a (bytesV e.body)) :
    Calls Try.prog 19 #[.pointer (some (blk q)), entV e a c] w (Ret (.int .i64 (checkC S L e)) fun w' => Ext no w w') := by
  refine chain_Log_Check.run (some (blk q)) e.w e.i e.pv e.t e.tw e.ep a e.body.length c e.sg ?_
  unfold chain_Log_Check.N
  refine ⟨fun h => (by cases h), fun _ w10 p13 X10 hp => ?_⟩
  refine ⟨fun m vs w1 => ∃ t : Nat, vs = [.int .i64 t] ∧ m + t = 3 ∧ Ext no w w1 ∧ (0 < t → rightC S L e = 0) ∧ (1 < t → placeC L e = 0) ∧ (2 < t → behindC L e = 0), 3, ⟨0, rfl, rfl, X10, fun h => absurd h (by decide), fun h => absurd h (by decide), fun h => absurd h (by decide)⟩, ?_⟩
  rintro m w1 i ⟨t, hi, hm, X1, c0, c1, c2⟩
  simp only [List.cons.injEq, Value.int.injEq, true_and, and_true] at hi
  subst hi
  have s1 := Step.of_no X1 ok
  refine ⟨fun ht => ⟨by omega, by omega, fun h0 => ?_, fun h0 => ?_, fun h0 => ?_⟩, fun ht => ?_⟩
  · obtain rfl : t = 0 := by omega
    refine (cright_spec (P.step s1 id) (h.step s1 id) s1.ok hf (hb.no X1)).mono fun x w21 ⟨he, X21⟩ => ⟨_, he, X21.kept, fun hr => ⟨by unfold checkC; rw [if_pos hr], X1.trans X21⟩, fun hr => ⟨by omega, by omega, m - 1, by omega, 1, rfl, by omega, X1.trans X21, fun _ => hr, fun h => absurd h (by decide), fun h => absurd h (by decide)⟩⟩
  · obtain rfl : t = 1 := by omega
    have hr := c0 (by decide)
    refine (cplace_spec (P.step s1 id) ((entRight_iff _).1 (rightC_right hr)).2.2.1 (hb.no X1)).mono fun x w21 ⟨he, X21⟩ => ⟨_, he, X21.kept, fun hq => ⟨by unfold checkC; rw [if_neg (not_not_intro hr), if_pos hq], X1.trans X21⟩, fun hq => ⟨by omega, by omega, m - 1, by omega, 2, rfl, by omega, X1.trans X21, fun _ => hr, fun _ => hq, fun h => absurd h (by decide)⟩⟩
  · obtain rfl : t = 2 := by omega
    have hr := c0 (by decide)
    have hq := c1 (by decide)
    refine (cbehind_spec (P.step s1 id)).mono fun x w21 ⟨he, X21⟩ => ⟨_, he, X21.kept, fun hz => ⟨by unfold checkC; rw [if_neg (not_not_intro hr), if_neg (not_not_intro hq)], X1.trans X21⟩, fun hz => ⟨by omega, by omega, m - 1, by omega, 3, rfl, by omega, X1.trans X21, fun _ => hr, fun _ => hq, fun _ => hz⟩⟩
  · obtain rfl : t = 3 := by omega
    refine ⟨?_, X1⟩
    unfold checkC; rw [if_neg (not_not_intro (c0 (by decide))), if_neg (not_not_intro (c1 (by decide))), c2 (by decide)]
end
end Go.Proofs.Ytdelmfpchbpafaa
