/- Disk: Write. -/
import Derived.Test.YtgcjipbahfpopaaZB
set_option linter.unusedVariables false
set_option linter.unusedSimpArgs false
set_option maxRecDepth 20000
set_option maxHeartbeats 4000000
namespace Go.Proofs.Ytgcjipbahfpopaa
open Go Go.Mx Go.Proofs
open W (OwnB)
section
variable {K : Nat → Prop} {w w' w1 : World} {o o' o1 : Own} {g g2 m : Nat} {d : DS} {i : Int} {a : Option Addr} {c : Nat} {l : List Wt}
theorem Wts.one {l : List Wt} : ∀ u ∈ l.flatMap Wt.C, u.oneCell' = true := fun u hu => by
  obtain ⟨x, _, h⟩ := List.mem_flatMap.1 hu
  exact x.one u h
theorem WRw.push (h : WRw w o g a c l) (ok : Tags w o) (hg : g < w.heap.size) (hl : l.length < 1000000) {xa : Option Addr} {xc : Nat} {r : List Wt} (hr : RowAt w xa (r.flatMap Wt.C)) (hrl : r.length < 1000000) :
    ∃ a' n' c' w' o', (Builtin.append_ #[76, 76] 76 #[.slice a l.length c, .slice xa r.length xc]).run Try.prog w = .ok (.slice a' n' c') w' ∧ n' = (l ++ r).length ∧ Step (fun j => j = g) w o w' o' ∧ WRw w' o' g a' c' (l ++ r) ∧ Ext (fun b => ∃ ad, a = some ad ∧ b = ad.block) w w' := by
  obtain ⟨i, hi, hz, hsz, hby⟩ := info_of inf90
  obtain ⟨a', c', w', o', hrun, s2, hrow, hk, _⟩ := Grows.push (ty := 76) Try.underlying76 hi hz hsz hby rfl (by decide) h ok hg (xa := xa) (m := r.length) (xc := xc) (news := r.flatMap Wt.C) (flat_length Wt.len r) hr Wts.one (by omega) (by omega)
  exact ⟨a', _, c', w', o', hrun, by simp, s2, by unfold WRw; rw [List.length_append, List.flatMap_append]; exact hrow, ⟨s2.ext.os, s2.ext.tape, s2.ext.output, s2.ext.size, fun b hb hn => hk b hb fun ad ha hb' => hn ⟨ad, ha, hb'⟩⟩⟩
theorem last_set (l : List Wt) (x y : Wt) (k : Nat) (v : Value) (hk : k < 66) (h : x.C.set k v = y.C) : ((l ++ [x]).flatMap Wt.C).set (l.length * 66 + k) v = (l ++ [y]).flatMap Wt.C := by
  rw [List.flatMap_append, List.set_append_right _ _ (by rw [flat_length Wt.len]; omega), flat_length Wt.len, List.flatMap_append]
  congr 1
  rw [show l.length * 66 + k - l.length * 66 = k by omega]
  simpa using h
/-- a write is pending. -/
theorem pend_spec (h : DG w o g d) (ok : Tags w o) (hpl : d.pend.length < 100000) (x : Wt) {q : Nat} (hb : Blk w q 90 x.C) :
    ∃ pa n pc, w.cell? ((blk g).add 1) = some (.slice pa n pc) ∧ ∃ a' n' c' w' o', (Builtin.append_ #[76, 76] 76 #[.slice pa n pc, .slice (some (blk q)) 1 1]).run Try.prog w = .ok (.slice a' n' c') w' ∧ Step (fun j => j = g) w o w' o' ∧
      canStore w' ((blk g).add 1) ∧ ∀ w2, w2 = w'.setCell ((blk g).add 1) (.slice a' n' c') → Step (fun j => j = g) w o w2 (grow w' o') ∧ DG w2 (grow w' o') g { d with pend := d.pend ++ [x] } := by
  obtain ⟨⟨ga, gc, pa, pc, hbk, hg, hp⟩, tg⟩ := h
  obtain ⟨a', n', c', w', o', hrun, hn, s2, hp2, X2⟩ := hp.push ok hbk.lt (by omega) (xa := some (blk q)) (xc := 1) (r := [x]) (by simpa using RowAt.of_blk hb) (by simp)
  subst hn
  have hb2 : Blk w' g 79 (d.V ga gc pa pc) := hbk.ext X2 fun ⟨ad, h1, h2⟩ => hp.ne hbk (by decide) ad h1 h2.symm
  have hg2 : SRw w' o' g ga gc d.good := hg.keep X2 (fun ad ha ⟨ad', h1, h2⟩ => hg.apart hp (by decide) ad ad' ha h1 h2) fun b hb => s2.own hb
  have tg2 : o' g = some g := by rw [s2.own hbk.lt]; exact tg
  refine ⟨pa, _, pc, hbk.celli 1 rfl rfl, a', _, c', w', o', hrun, s2, hb2.cani 1 rfl rfl, fun w3 e3 => ?_⟩
  have X3 := (Ext.refl (fun b => b = g) w').x_set (q := g) (i := 1) rfl (.inl rfl) e3
  have b3 := hb2.seti 1 (v := .slice a' (d.pend ++ [x]).length c') rfl e3
  obtain ⟨s3, D3⟩ := DG.turn (d2 := { d with pend := d.pend ++ [x] }) hg2 hp2 tg2 hb2 s2.ok X3 b3
  exact ⟨s2.trans s3, D3⟩
/-- the last one that is pending is torn. -/
theorem tear_spec {x y : Wt} (h : DG w o g { d with pend := d.pend ++ [x] }) (ok : Tags w o) (hpl : d.pend.length < 100000) (hxy : x.C.set 65 (.bool true) = y.C) :
    ∃ pa n pc, w.cell? ((blk g).add 1) = some (.slice pa n pc) ∧ n = d.pend.length + 1 ∧ ∃ ad, pa = some ad ∧ ∀ w2, Ext no w w2 → canStore w2 (ad.add (d.pend.length * 66 + 65)) ∧ ∀ w3, w3 = w2.setCell (ad.add (d.pend.length * 66 + 65)) (.bool true) → ∃ o', Step (fun j => j = g) w o w3 o' ∧ DG w3 o' g { d with pend := d.pend ++ [y] } := by
  have hh := h
  obtain ⟨⟨ga, gc, pa, pc, hbk, hg, hp⟩, tg⟩ := h
  have hl : (d.pend ++ [x]).length = d.pend.length + 1 := by simp
  have hne : (d.pend ++ [x]).flatMap Wt.C ≠ [] := fun e => by
    have := congrArg List.length e
    rw [flat_length Wt.len, hl] at this; simp at this
  obtain ⟨b, cur, ha, hb, hle, hob, hbl, hput⟩ := Grows.put (j := d.pend.length * 66 + 65) (vs := [.bool true]) hp ok hne
  subst ha
  have hj : d.pend.length * 66 + 65 < cur.length := by
    have : ((d.pend ++ [x]).flatMap Wt.C).length = (d.pend.length + 1) * 66 := by rw [flat_length Wt.len, hl]
    have hle' : ((d.pend ++ [x]).flatMap Wt.C).length ≤ cur.length := hle
    omega
  refine ⟨_, _, pc, hbk.celli 1 rfl rfl, hl, blk b, rfl, fun w2 X => ⟨?_, fun w3 e3 => ?_⟩⟩
  · have hb2 := hb.ext X (fun h => h)
    exact hb2.cana (List.getElem?_eq_getElem hj)
  · have hb2 := hb.ext X (fun h => h)
    rw [add_blk] at e3
    have X3 : Ext (fun q => q = b) w w3 := (X.mono fun _ h _ => h.elim : Ext (fun q => q = b) w w2).x_set (q := b) (i := d.pend.length * 66 + 65) rfl (.inl rfl) e3
    have b3 := hb2.seti (d.pend.length * 66 + 65) (v := .bool true) rfl e3
    obtain ⟨s3, h3⟩ := hput w3 X3 b3
    have hset : setAll ((d.pend ++ [x]).flatMap Wt.C) (d.pend.length * 66 + 65) [.bool true] = (d.pend ++ [y]).flatMap Wt.C := last_set d.pend x y 65 _ (by decide) hxy
    refine ⟨_, s3, ⟨ga, gc, some (blk b), pc, ?_, ?_, ?_⟩, by rw [s3.own hbk.lt]; exact tg⟩
    · have hgb : g ≠ b := fun e => hp.ne hbk (by decide) _ rfl (by rw [e])
      have := hbk.ext X3 hgb
      have e : (DS.V { d with pend := d.pend ++ [y] } ga gc (some (blk b)) pc) = (DS.V { d with pend := d.pend ++ [x] } ga gc (some (blk b)) pc) := by unfold DS.V; simp
      rw [e]; exact this
    · exact hg.keep X3 (fun ad ha h2 => hg.apart hp (by decide) ad (blk b) ha rfl h2) fun b hb => s3.own hb
    · unfold WRw
      rw [← hset, show (d.pend ++ [y]).length = (d.pend ++ [x]).length by simp]
      exact h3
theorem zeros_write (i : Int) (b : List UInt8) (t : Bool) (h : b.length = 64) : setAll ([Value.int .i64 i] ++ List.replicate 64 (.int .u8 0) ++ [.bool t]) 1 (bytesV b) = Wt.C ⟨i, ⟨b, t, h⟩⟩ := by
  have := setAll_mid (u := [Value.int .i64 i]) (x := List.replicate 64 (.int .u8 0)) (y := [.bool t]) (v := bytesV b) (by rw [bytesV_length, h]; simp)
  rw [show ([Value.int .i64 i] : List Value).length = 1 from rfl] at this
  rw [this]; rfl
theorem dWrite_spec (h : DG w o g d) (ok : Tags w o) (hd : d.ok m) (hm : m < 100000) (i : Int) {ba : Option Addr} {bc : Nat} {b : List UInt8} (hb : RowAt w ba (bytesV b)) :
    Calls Try.prog 28 #[.pointer (some (blk g)), .int .i64 i, .slice ba b.length bc] w (Ret (.int .i64 (writeD d i b).2) fun w' => ∃ o', Step (fun j => j = g) w o w' o' ∧ DG w' o' g (writeD d i b).1) := by
  refine disk_Disk_Write.run _ _ _ _ _ ?_
  unfold disk_Disk_Write.N
  refine (has_spec h i).mono fun e w6 ⟨he, hw⟩ => ⟨_, he, fun hn => ?_, fun h0 => ?_⟩
  · subst hw
    unfold writeD
    rw [if_neg hn]
    exact ⟨rfl, o, Step.refl _ ok, h⟩
  subst hw
  refine ⟨fun hn => ?_, fun h64 w9 q10 X9 hb9 hq hq' => ?_⟩
  · unfold writeD
    rw [if_pos h0, dif_neg (by omega)]
    exact ⟨rfl, o, Step.refl _ ok, h⟩
  have hbl : b.length = 64 := by omega
  have hpl := hd.pl
  have s9 := (Step.of_no X9 ok).tag (j := q10) hq hq'
  have M9 : Mine [q10] w9 (tag (grow w6 o) q10 q10) := fun p hp => by rw [show p = q10 by simpa using hp]; exact ⟨hq', tag_self⟩
  refine putsK_ok (k := 0) hb9 (by simp) fun w76 X76 hb76 => ?_
  rw [Nat.zero_add, setAll_all (by simp)] at hb76
  have s76' := Step.stores X76 s9.ok M9 (by simp)
  have s76 : Step no w6 o w76 _ := s9.trans' s76' fun j hj => .inr (by simp at hj; omega)
  have M76 := M9.step s76'
  have hb6 : RowAt w76 ba (bytesV b) := (hb.no X9).ext' X76 fun hne ad ha (e : ad.block = q10) => by have := hb.lt hne ha; omega
  obtain ⟨bd, rfl⟩ := hb6.addr fun e => by have := congrArg List.length e; rw [bytesV_length, hbl] at this; cases this
  obtain ⟨u8, hu, hz, hsz, hby⟩ := info_of inf5
  have hcl : (bytesV b).length = 64 := by rw [bytesV_length, hbl]
  have hcopy := run_copy_gen (P := Try.prog) (dT := 23) (sT := 23) (ty := 3) (dLen := 64) (dCap := 64) (sLen := b.length) (sCap := bc) (n := 64) (sz := 1) (o := 1) (a := bd) Try.underlying23 hu hsz (by rw [hbl]; rfl) (by rw [hcl]) (fun j v hv => hb6.at_ hv) hb76 (by rw [hcl]; simp) bytesV_one
  obtain ⟨hb78, X78⟩ := setCells_setAll (cs := bytesV b) (o := 1) hb76 (by rw [hcl]; simp)
  generalize w76.setCells q10 1 (bytesV b) = w78 at *
  have s78' := Step.stores X78 s76.ok M76 (by simp)
  have s78 : Step no w6 o w78 _ := s76.trans' s78' fun j hj => .inr (by simp at hj; omega)
  rw [zeros_write i b false hbl] at hb78
  refine ⟨_, w78, hcopy, ?_⟩
  have D78 := h.step s78 id
  obtain ⟨x, hx⟩ : ∃ x : Wt, x = ⟨i, ⟨b, false, hbl⟩⟩ := ⟨_, rfl⟩
  rw [← hx] at hb78
  have hcell1 : ∃ pa n pc, w78.cell? ((blk g).add 1) = some (.slice pa n pc) := by
    obtain ⟨⟨ga, gc, pa, pc, hbk, _, _⟩, _⟩ := D78
    exact ⟨pa, _, pc, hbk.celli 1 rfl rfl⟩
  obtain ⟨pa, pn, pc, hc78⟩ := hcell1
  refine ⟨blk g, rfl, pa, pn, pc, hc78, x.C.toArray, x.arr, cellsAt_blk (k := 0) hb78 _ 0 fun n v hv => by rw [show 0 + 0 + n = n by omega]; exact hv, x.arr, fun w85 q86 X85 hb85 hq2 hq2' => ?_⟩
  have s85' := Step.of_no X85 s78.ok
  have s85 := s78.trans s85'
  have D85 := D78.step s85' id
  obtain ⟨pa2, pn2, pc2, hc85, a', n', c', w89, o89, hrun, s89, hcan, hst⟩ := pend_spec D85 s85.ok (by omega) x hb85
  have e2 : (Value.slice pa pn pc) = .slice pa2 pn2 pc2 := by
    have := X85.cell hc78 id
    rw [hc85] at this
    exact (Option.some.inj this).symm
  cases e2
  refine ⟨hc85, a', n', c', w89, hrun, hcan, thenW_in fun w90 e90 => ?_⟩
  obtain ⟨s90', D90⟩ := hst w90 e90
  have s90 : Step (fun j => j = g) w6 o w90 _ := s85.none.trans s90'
  have hW : writeD d i b = if d.armed then (if d.left = 0 then ({ d with pend := d.pend ++ [⟨i, ⟨b, true, hbl⟩⟩], down := true }, 19) else ({ d with pend := d.pend ++ [x], left := d.left - 1, count := d.count + 1 }, 0)) else ({ d with pend := d.pend ++ [x], count := d.count + 1 }, 0) := by
    unfold writeD; rw [if_pos h0, dif_pos hbl, ← hx]
  have hx' : ∀ y : Wt, y = ⟨i, ⟨b, true, hbl⟩⟩ → x.C.set 65 (.bool true) = y.C := fun y hy => by
    subst hx; subst hy
    show (Value.int .i64 i :: (bytesV b ++ [.bool false])).set 65 (.bool true) = Value.int .i64 i :: (bytesV b ++ [.bool true])
    rw [List.set_cons_succ, List.set_append_right _ _ (by rw [hcl]; omega), hcl]; rfl
  have hcl := hd.cl
  have hleft := hd.left
  have D90' := D90
  obtain ⟨⟨ga, gc, pa3, pc3, hbk, hg3, hp3⟩, tg⟩ := D90
  refine ⟨d.armed, hbk.celli 3 rfl rfl, fun har => ⟨d.left, hbk.celli 2 rfl rfl, fun hl0 => ?_, fun hl0 => ?_⟩, fun har => ?_⟩
  · rw [hW, if_pos har, if_pos hl0]
    refine ⟨hbk.cani 4 rfl rfl, thenW_in fun w97 e97 => ?_⟩
    have X97 := (Ext.refl (fun b => b = g) w90).x_set (q := g) (i := 4) rfl (.inl rfl) e97
    have b97 := hbk.seti 4 (v := .int .i64 1) rfl e97
    obtain ⟨s97, D97⟩ := DG.turn (d2 := { d with pend := d.pend ++ [x], down := true }) hg3 hp3 tg hbk s90'.ok X97 b97
    obtain ⟨pa4, pn4, pc4, hc97, hpn, ad, hpa, hfin⟩ := tear_spec (d := { d with down := true }) (x := x) (y := ⟨i, ⟨b, true, hbl⟩⟩) D97 s97.ok (by show d.pend.length < _; omega) (hx' _ rfl)
    subst hpn; subst hpa
    refine ⟨_, _, _, hc97, _, _, _, hc97, by show _ ≤ ((d.pend.length + 1 : Nat) : Int) - 1; omega, by show ((d.pend.length + 1 : Nat) : Int) - 1 < _; omega, ad, rfl, by show _ ≤ ((d.pend.length + 1 : Nat) : Int) - 1; omega, by show ((d.pend.length + 1 : Nat) : Int) - 1 < ((d.pend.length + 1 : Nat) : Int); omega, fun w98 X98 => ?_⟩
    obtain ⟨hcs, hst3⟩ := hfin w98 X98
    have e5 : (((ad.add (Int.toNat (((d.pend.length + 1 : Nat) : Int) - 1) * 66)).add 1).add 64).add 0 = ad.add (d.pend.length * 66 + 65) := by
      rw [add_add, add_add, add_add]; congr 1; omega
    show canStore w98 ((((ad.add (Int.toNat (((d.pend.length + 1 : Nat) : Int) - 1) * 66)).add 1).add 64).add 0) ∧ thenW (w98.setCell ((((ad.add (Int.toNat (((d.pend.length + 1 : Nat) : Int) - 1) * 66)).add 1).add 64).add 0) (.bool true)) _
    rw [e5]
    refine ⟨hcs, thenW_in fun w104 e104 => ?_⟩
    obtain ⟨o104, s104, D104⟩ := hst3 w104 e104
    exact ⟨rfl, _, (s90.trans s97).trans s104, D104⟩
  · rw [hW, if_pos har, if_neg hl0]
    refine ⟨d.left, hbk.celli 2 rfl rfl, by omega, by omega, hbk.cani 2 rfl rfl, thenW_in fun w107 e107 => ?_⟩
    have X107 := (Ext.refl (fun b => b = g) w90).x_set (q := g) (i := 2) rfl (.inl rfl) e107
    have b107 := hbk.seti 2 (v := .int .i64 (d.left - 1)) rfl e107
    refine ⟨d.count, b107.celli 5 rfl rfl, by omega, by omega, b107.cani 5 rfl rfl, thenW_in fun w110 e110 => ?_⟩
    have X110 := X107.x_set (q := g) (i := 5) rfl (.inl rfl) e110
    have b110 := b107.seti 5 (v := .int .i64 (d.count + 1)) rfl e110
    obtain ⟨s97, D97⟩ := DG.turn (d2 := { d with pend := d.pend ++ [x], left := d.left - 1, count := d.count + 1 }) hg3 hp3 tg hbk s90'.ok X110 b110
    exact ⟨rfl, _, s90.trans s97, D97⟩
  · rw [hW, if_neg (by rw [har]; decide)]
    refine ⟨d.count, hbk.celli 5 rfl rfl, by omega, by omega, hbk.cani 5 rfl rfl, thenW_in fun w113 e113 => ?_⟩
    have X113 := (Ext.refl (fun b => b = g) w90).x_set (q := g) (i := 5) rfl (.inl rfl) e113
    have b113 := hbk.seti 5 (v := .int .i64 (d.count + 1)) rfl e113
    obtain ⟨s97, D97⟩ := DG.turn (d2 := { d with pend := d.pend ++ [x], count := d.count + 1 }) hg3 hp3 tg hbk s90'.ok X113 b113
    exact ⟨rfl, _, s90.trans s97, D97⟩
end
end Go.Proofs.Ytgcjipbahfpopaa

/- Disk: settle, Sync, Restart, Copy, New. -/
set_option linter.unusedVariables false
set_option linter.unusedSimpArgs false
set_option maxRecDepth 20000
set_option maxHeartbeats 4000000
namespace Go.Proofs.Ytgcjipbahfpopaa
open Go Go.Mx Go.Proofs
open W (OwnB)
section
variable {K : Nat → Prop} {w w' w1 : World} {o o' o1 : Own} {g g2 m : Nat} {d : DS} {i : Int} {a : Option Addr} {c : Nat} {l : List Wt}
/-- a disk in memory whose rows lie where they lay. -/
structure DGa (w : World) (o : Own) (g : Nat) (d : DS) (ga : Option Addr) (gc : Nat) (pa : Option Addr) (pc : Nat) : Prop where
  b : Blk w g 79 (d.V ga gc pa pc)
  hg : SRw w o g ga gc d.good
  hp : WRw w o g pa pc d.pend
  tg : o g = some g
variable {ga pa : Option Addr} {gc pc : Nat}
theorem DGa.dg (h : DGa w o g d ga gc pa pc) : DG w o g d := ⟨⟨ga, gc, pa, pc, h.b, h.hg, h.hp⟩, h.tg⟩
theorem DGa.step (h : DGa w o g d ga gc pa pc) (s : Step K w o w' o') (hk : ¬ K g) : DGa w' o' g d ga gc pa pc :=
  ⟨s.blk h.b h.tg hk, h.hg.step s hk, h.hp.step s hk, by rw [s.own h.b.lt]; exact h.tg⟩
/-- a sector of its stored. -/
theorem DGa.put (h : DGa w o g d ga gc pa pc) (ok : Tags w o) {j : Nat} (hj : j < d.good.length) (s : Sec) {ad : Addr} (ha : ga = some ad) {Φ : World → Prop}
    (hΦ : ∀ w' o', Step (fun i => i = g) w o w' o' → DGa w' o' g { d with good := d.good.set j s } ga gc pa pc → Φ w') : storesK (ad.add (j * 65)) s.C 0 w Φ := by
  have hne : d.good.flatMap Sec.C ≠ [] := fun e => by
    have := congrArg List.length e
    rw [flat_length Sec.len] at this; simp at this; omega
  obtain ⟨b, cur, hb, hbb, hle, hob, hbl, hput⟩ := Grows.put (j := j * 65) (vs := s.C) h.hg ok hne
  rw [ha] at hb
  cases hb
  rw [flat_length Sec.len] at hle
  have h2 : (j + 1) * 65 ≤ d.good.length * 65 := Nat.mul_le_mul_right _ hj
  refine storesK_blk (k := j * 65) (j := 0) hbb (by rw [s.len]; omega) s.one fun w' X hb' => ?_
  obtain ⟨st, hg2⟩ := hput w' X hb'
  rw [setAll_flat Sec.len s hj] at hg2
  have hgb : g ≠ b := fun e => h.hg.ne h.b (by decide) (blk b) ha (by rw [e])
  refine hΦ w' _ st ⟨?_, by unfold SRw; rw [List.length_set]; exact hg2, h.hp.keep X (fun ad2 h3 h4 => h.hp.apart h.hg (by decide) ad2 (blk b) h3 ha h4) (fun b hb => st.own hb), by rw [st.own h.b.lt]; exact h.tg⟩
  have e : DS.V { d with good := d.good.set j s } ga gc pa pc = d.V ga gc pa pc := by unfold DS.V; simp
  rw [e]
  exact h.b.ext X hgb
theorem settleL_len (k : Nat → Bool) : ∀ (l : List Wt) (t : Nat) (gl : List Sec), (settleL k t gl l).length = gl.length
  | [], _, _ => rfl
  | x :: r, t, gl => by
    rw [settleL, settleL_len k r]
    split
    · rw [List.length_set]
    · rfl
theorem settle_spec (h : DG w o g d) (ok : Tags w o) (hd : d.ok m) (hm : m < 100000) {kk : Nat} {kf kg : Array Value} {k : Nat → Bool}
    (hk : ∀ (t : Nat) w1 o1, t < d.pend.length → Step (fun j => j = g) w o w1 o1 → enters Try.prog kk = true ∧ Calls Try.prog kk (kf.toList ++ ([.int .i64 (t : Int)] : List Value) ++ kg.toList).toArray w1 (Ret (.bool (k t)) fun w2 => w2 = w1)) :
    Calls Try.prog 45 #[.pointer (some (blk g)), .func (.func kk) kf kg] w (Ret (.tuple #[]) fun w' => ∃ o', Step (fun j => j = g) w o w' o' ∧ DG w' o' g (settleD d k)) := by
  refine disk_Disk_settle.run _ _ _ _ ?_
  unfold disk_Disk_settle.N
  obtain ⟨⟨ga, gc, pa, pc, hb, hg, hp⟩, tg⟩ := h
  have hpl := hd.pl
  refine ⟨_, rfl, pa, _, pc, hb.celli 1 rfl rfl, fun q vs w1 => ∃ (t : Nat) (gl : List Sec) (o1 : Own), vs = [.int .i64 t] ∧ q + t = d.pend.length ∧ Step (fun j => j = g) w o w1 o1 ∧ DGa w1 o1 g { d with good := gl } ga gc pa pc ∧ gl.length = d.good.length ∧ settleL k t gl (d.pend.drop t) = settleL k 0 d.good d.pend, d.pend.length, ⟨0, d.good, o, rfl, rfl, Step.refl _ ok, ⟨hb, hg, hp, tg⟩, rfl, rfl⟩, ?_⟩
  rintro q w9 t0 ⟨t, gl, o9, hi, hq, s9, D, hgl, hset⟩
  simp only [List.cons.injEq, Value.int.injEq, true_and, and_true] at hi
  subst hi
  refine ⟨fun ht => ?_, fun ht => ?_⟩
  · have htl : t < d.pend.length := by omega
    have hgp : d.pend[t]? = some d.pend[t] := List.getElem?_eq_getElem htl
    have hat := hd.at_ _ (List.getElem_mem htl)
    rw [List.drop_eq_getElem_cons htl, settleL] at hset
    generalize d.pend[t] = x at *
    have hpr := D.hp.row
    obtain ⟨pd, hpd⟩ := hpr.faddr Wt.len (by decide) htl
    subst hpd
    refine ⟨pd, rfl, by omega, by omega, x.C.toArray, x.arr, by rw [Int.toNat_natCast]; exact hpr.floads Wt.len hgp, fun w14 q15 X14 hb14 hq1 hq2 => ⟨x.arr, stores_all hb14 (by rw [x.len]; simp) x.one fun w16 X16 hb16 => ?_⟩⟩
    have s14 := (Step.of_no X14 s9.ok).tag (j := q15) hq1 hq2
    have M14 : Mine [q15] w14 (tag (grow w9 o9) q15 q15) := fun p hp => by rw [show p = q15 by simpa using hp]; exact ⟨hq2, tag_self⟩
    have s16' := Step.stores X16 s14.ok M14 (by simp)
    have s16 : Step no w9 o9 w16 _ := s14.trans' s16' fun j hj => .inr (by simp at hj; omega)
    have sw16 := s9.trans s16.none
    obtain ⟨hen, hcall⟩ := hk t w16 _ htl sw16
    have D16 := D.step s16 id
    refine ⟨hen, hcall.mono fun e w19 ⟨he, hw⟩ => ⟨_, he, fun hr => ?_, fun hr => ?_⟩⟩
    all_goals subst hw
    · rw [if_pos hr] at hset
      have hgr := D16.hg.row
      obtain ⟨gd, hgd⟩ := hgr.faddr Sec.len (by decide) (i := x.i.toNat) (by show _ < gl.length; omega)
      subst hgd
      refine ⟨some gd, _, gc, D16.b.celli 0 rfl rfl, x.i, hb16.celli 0 rfl rfl, x.s.C.toArray, x.s.arr, cellsAt_blk (k := 1) hb16 _ 0 fun n v hv => by rw [show 1 + 0 + n = n + 1 by omega]; exact hv, gd, rfl, hat.1, by show x.i < ((gl.length : Nat) : Int); omega, fun w21 X21 => ⟨x.s.arr, ?_⟩⟩
      have s21' := Step.of_no X21 sw16.ok
      have D21 := D16.step s21' id
      refine D21.put s21'.ok (j := x.i.toNat) (by show _ < gl.length; omega) x.s rfl fun w29 o29 s29 D29 => ⟨by omega, by omega, q - 1, by omega, t + 1, gl.set x.i.toNat x.s, o29, rfl, by omega, (sw16.trans s21'.none).trans s29, D29, by rw [List.length_set]; exact hgl, hset⟩
    · rw [if_neg (by rw [hr]; decide)] at hset
      exact ⟨by omega, by omega, q - 1, by omega, t + 1, gl, _, rfl, by omega, sw16, D16, hgl, hset⟩
  · have htt : t = d.pend.length := by omega
    rw [List.drop_eq_nil_of_le (by omega)] at hset
    refine ⟨D.b.cani 1 rfl rfl, thenW_in fun w32 e32 => ?_⟩
    have X32 := (Ext.refl (fun b => b = g) w9).x_set (q := g) (i := 1) rfl (.inl rfl) e32
    have b32 := D.b.seti 1 (v := .slice none 0 0) rfl e32
    obtain ⟨s32, D32⟩ := DG.turn (d2 := { d with good := gl, pend := [] }) D.hg (Grows.nil _ _ _ _ _) D.tg D.b s9.ok X32 b32
    refine ⟨rfl, _, s9.trans s32, ?_⟩
    have e : settleD d k = { d with good := gl, pend := [] } := by
      unfold settleD; rw [← hset]; rfl
    rw [e]; exact D32
theorem settleD_ok (hd : d.ok m) (k : Nat → Bool) : (settleD d k).ok m := by
  have h := settleL_len k d.pend 0 d.good
  exact ⟨by show 1 ≤ (settleL _ _ _ _).length; rw [h]; exact hd.n1, by show (settleL _ _ _ _).length ≤ 400; rw [h]; exact hd.n2, fun x hx => (by cases hx), Nat.zero_le _, hd.cl, hd.left⟩
theorem dSync_spec (h : DG w o g d) (ok : Tags w o) (hd : d.ok m) (hm : m < 100000) : Calls Try.prog 29 #[.pointer (some (blk g))] w (Ret (.int .i64 (syncD d).2) fun w' => ∃ o', Step (fun j => j = g) w o w' o' ∧ DG w' o' g (syncD d).1) := by
  refine disk_Disk_Sync.run _ ?_
  unfold disk_Disk_Sync.N
  refine (is_spec h).mono fun e w4 ⟨he, hw⟩ => ⟨_, he, fun hn => ?_, fun h0 => ?_⟩
  all_goals subst hw
  · unfold isD at hn ⊢; unfold syncD
    cases hdn : d.down
    · rw [hdn] at hn; exact absurd rfl hn
    · exact ⟨rfl, o, Step.refl _ ok, h⟩
  · have hS : syncD d = (settleD d fun _ => true, 0) := by
      unfold syncD; rw [if_neg]
      intro hdn; unfold isD at h0; rw [if_pos hdn] at h0; cases h0
    rw [hS]
    refine (settle_spec h ok hd hm (k := fun _ => true) fun t w1 o1 ht s => ⟨by kernel_rfl, by refine disk_Disk_Sync_1.run _ ?_; exact ⟨rfl, rfl⟩⟩).mono fun e w7 ⟨he, o', s, D⟩ => ⟨he, rfl, o', s, D⟩
theorem zero_sectors (n : Nat) (z : Array Value) (hz : z.toList = Sec.z.C) : madeCells z (n * 65) = ((List.replicate n Sec.z).flatMap Sec.C).toArray := by
  apply Array.ext'
  apply List.ext_getElem?
  intro j
  have hzs : z.size = 65 := by rw [← Array.length_toList, hz, Sec.len]
  by_cases hj : j < n * 65
  · have h1 : j / 65 < n := by omega
    have h2 : (List.replicate n Sec.z)[j / 65]? = some Sec.z := by rw [List.getElem?_replicate, if_pos h1]
    have h3 := flat_get Sec.len h2 (j % 65) (by omega)
    rw [show j / 65 * 65 + j % 65 = j by omega] at h3
    show _ = ((List.replicate n Sec.z).flatMap Sec.C)[j]?
    rw [h3]
    have h4 : j % 65 < z.size := by omega
    have h5 : (madeCells z (n * 65)).toList[j]? = some (z[j % z.size]!) := by
      unfold madeCells
      simp [hj]
    rw [h5, hzs, getElem!_pos z (j % 65) h4, ← hz, List.getElem?_eq_getElem (by simpa using h4)]
    simp
  · rw [List.getElem?_eq_none (by unfold madeCells; simp; omega), List.getElem?_eq_none (by show ((List.replicate n Sec.z).flatMap Sec.C).length ≤ j; rw [flat_length Sec.len]; simp; omega)]
def newDS (n : Nat) : DS := ⟨List.replicate n Sec.z, [], 0, false, false, 0⟩
theorem dNew_spec (ok : Tags w o) {n : Nat} (h1 : 1 ≤ n) (h2 : n ≤ 400) : Calls Try.prog 19 #[.int .i64 n] w (fun x w' => ∃ q o', x = .returned (.tuple #[.pointer (some (blk q)), .int .i64 0]) ∧ w.heap.size ≤ q ∧ Step no w o w' o' ∧ DG w' o' q (newDS n)) := by
  refine (disk_New.go _ (R := fun v w' => ∃ q o', v = (.tuple #[.pointer (some (blk q)), .int .i64 0]) ∧ w.heap.size ≤ q ∧ Step no w o w' o' ∧ DG w' o' q (newDS n)) ?_).mono fun x w' ⟨v, he, q, o', hv, hw⟩ => ⟨q, o', by rw [he, hv], hw⟩
  unfold disk_New.N
  obtain ⟨i, hi, hz, hs, hb⟩ := info_of inf88
  have hmk := run_makeSlice (P := Try.prog) (w := w) 75 88 i _ Try.underlying75 hi hz .i64 .i64 n n (by omega) (Int.le_refl _) (by rw [hs]; omega) (by rw [hb]; omega) (by omega)
  have hzz : madeCells (Value.agg (List.replicate 64 (Value.int IntKind.u8 0) ++ [Value.bool false]).toArray).cells (n * 65) = ((List.replicate n Sec.z).flatMap Sec.C).toArray := zero_sectors n _ rfl
  rw [hs, Int.toNat_natCast, hzz] at hmk
  refine ⟨fun h => by omega, fun _ => ⟨fun h => by omega, fun _ => ⟨_, _, _, _, hmk, fun w6 q7 X6 hb6 hq hq' => ?_⟩⟩⟩
  have X5 : Ext no w (w.alloc (.cells ((List.replicate n Sec.z).flatMap Sec.C).toArray 88)) := (Ext.refl _ _).alloc _
  have b5 : Blk (w.alloc (.cells ((List.replicate n Sec.z).flatMap Sec.C).toArray 88)) w.heap.size 88 ((List.replicate n Sec.z).flatMap Sec.C) := Blk.new _ _ _
  have b6 := b5.ext X6 fun h => h
  have hsz : (w.alloc (.cells ((List.replicate n Sec.z).flatMap Sec.C).toArray 88)).heap.size = w.heap.size + 1 := by simp
  rw [hsz] at hq
  have s6 := ((Step.of_no (X5.trans X6) ok).tag (p := w.heap.size) (j := q7) (Nat.le_refl _) hq').tag (p := q7) (j := q7) (by omega) hq'
  refine ⟨q7, _, rfl, by omega, s6, ⟨some (blk w.heap.size), n, none, 0, ?_, ⟨?_, fun ad ha => ?_⟩, Grows.nil _ _ _ _ _⟩, tag_self⟩
  · have e : (newDS n).V (some (blk w.heap.size)) n none 0 = [.slice (some (blk w.heap.size)) n n, .slice none 0 0, .int .i64 0, .bool false, .int .i64 0, .int .i64 0] := by unfold DS.V newDS; simp [stI]
    rw [e]; exact hb6
  · have hn : (newDS n).good.length = n := by unfold newDS; simp
    rw [hn]
    exact owns_of_blk b6 (by rw [flat_length Sec.len, hn]) (by unfold maxLen; omega)
  · cases ha
    exact ⟨by rw [tag_ne (by show w.heap.size ≠ q7; omega)]; exact tag_self, b6.lt⟩
end
end Go.Proofs.Ytgcjipbahfpopaa

/- Journal: predicates of a journal on a disk. -/
set_option linter.unusedVariables false
set_option linter.unusedSimpArgs false
set_option maxRecDepth 20000
set_option maxHeartbeats 4000000
namespace Go.Proofs.Ytgcjipbahfpopaa
open Go Go.Mx Go.Proofs
/-- journal.stretch -/
def journal_stretch.M (d1 : Option Addr) (a1 : Int) (a2 : Int) (ag : Int) (R : Value → World → Prop) (w : World) : Prop :=
 Calls Try.prog 53 #[.pointer d1] w fun cj a3 => ∃ (a0 : Int), cj = .returned (.int .i64 a0) ∧
 bif Option.isNone d1 then (
 bif ag != 0 then (
 bif decide (a1 ≥ 0) then (
 bif decide (a2 ≥ 1) then (
 R (.tuple #[.slice none 0 0, .int .i64 23]) a3) else (
 bif ag == 0 then (
 R (.tuple #[.slice none 0 0, .int .i64 1]) a3) else (
 bif decide (a1 < 0) then (
 R (.tuple #[.slice none 0 0, .int .i64 1]) a3) else (
 bif decide (a2 < 1) then (
 R (.tuple #[.slice none 0 0, .int .i64 1]) a3) else (
 bif decide (a1 > a0) then (
 R (.tuple #[.slice none 0 0, .int .i64 1]) a3) else (
 bif decide (a2 > (IntKind.i64.wrap (a0 - a1))) then (
 R (.tuple #[.slice none 0 0, .int .i64 1]) a3) else (
 Calls Try.prog 24 #[.pointer d1] a3 fun cl bj => ∃ (ak : Bool), cl = .returned (.bool ak) ∧
 bif ak then (
 R (.tuple #[.slice none 0 0, .int .i64 19]) bj) else (
 ∃ (I1 : Nat → List Value → World → Prop) (cn : Nat), I1 cn [.slice none 0 0, .int .i64 0] bj ∧ ∀ (cd : Nat) (b6 : World) (b2 : Option Addr) (an : Nat) (av : Nat) (bz : Int), I1 cd [.slice b2 an av, .int .i64 bz] b6 →
 bif decide (bz < a2) then (
 Calls Try.prog 50 #[.pointer d1, .int .i64 (IntKind.i64.wrap (a1 + bz))] b6 fun c7 bd => ∃ (a8 : Option Addr) (ac : Nat) (a5 : Nat) (ax : Int), c7 = .returned (.tuple #[.slice a8 ac a5, .int .i64 ax]) ∧
 thenW (bd.alloc (.cells #[.slice a8 ac a5] 23)) fun c9 =>
 ∃ (bs : Option Addr) (be : Nat) (bg : Nat) (b8 : World), (Builtin.append_ #[25, 25] 25 #[.slice b2 an av, .slice (some (blk bd.heap.size)) 1 1]).run Try.prog c9 = .ok (.slice bs be bg) b8 ∧
 ∃ ch, ch < cd ∧ I1 ch [.slice bs be bg, .int .i64 (IntKind.i64.wrap (bz + 1))] b8) else (
 R (.tuple #[.slice b2 an av, .int .i64 0]) b6))))))))) else (
 bif ag == 0 then (
 R (.tuple #[.slice none 0 0, .int .i64 1]) a3) else (
 bif decide (a1 < 0) then (
 R (.tuple #[.slice none 0 0, .int .i64 1]) a3) else (
 bif decide (a2 < 1) then (
 R (.tuple #[.slice none 0 0, .int .i64 1]) a3) else (
 bif decide (a1 > a0) then (
 R (.tuple #[.slice none 0 0, .int .i64 1]) a3) else (
 bif decide (a2 > (IntKind.i64.wrap (a0 - a1))) then (
 R (.tuple #[.slice none 0 0, .int .i64 1]) a3) else (
 Calls Try.prog 24 #[.pointer d1] a3 fun c8 bh => ∃ (ah : Bool), c8 = .returned (.bool ah) ∧
 bif ah then (
 R (.tuple #[.slice none 0 0, .int .i64 19]) bh) else (
 ∃ (I1 : Nat → List Value → World → Prop) (ck : Nat), I1 ck [.slice none 0 0, .int .i64 0] bh ∧ ∀ (ce : Nat) (b5 : World) (ay : Option Addr) (b3 : Nat) (az : Nat) (bv : Int), I1 ce [.slice ay b3 az, .int .i64 bv] b5 →
 bif decide (bv < a2) then (
 Calls Try.prog 50 #[.pointer d1, .int .i64 (IntKind.i64.wrap (a1 + bv))] b5 fun c0 b9 => ∃ (ad : Option Addr) (a9 : Nat) (a7 : Nat) (ao : Int), c0 = .returned (.tuple #[.slice ad a9 a7, .int .i64 ao]) ∧
 thenW (b9.alloc (.cells #[.slice ad a9 a7] 23)) fun c3 =>
 ∃ (ba : Option Addr) (br : Nat) (bf : Nat) (bt : World), (Builtin.append_ #[25, 25] 25 #[.slice ay b3 az, .slice (some (blk b9.heap.size)) 1 1]).run Try.prog c3 = .ok (.slice ba br bf) bt ∧
 ∃ cb, cb < ce ∧ I1 cb [.slice ba br bf, .int .i64 (IntKind.i64.wrap (bv + 1))] bt) else (
 R (.tuple #[.slice ay b3 az, .int .i64 0]) b5))))))))) else (
 bif ag == 0 then (
 R (.tuple #[.slice none 0 0, .int .i64 1]) a3) else (
 bif decide (a1 < 0) then (
 R (.tuple #[.slice none 0 0, .int .i64 1]) a3) else (
 bif decide (a2 < 1) then (
 R (.tuple #[.slice none 0 0, .int .i64 1]) a3) else (
 bif decide (a1 > a0) then (
 R (.tuple #[.slice none 0 0, .int .i64 1]) a3) else (
 bif decide (a2 > (IntKind.i64.wrap (a0 - a1))) then (
 R (.tuple #[.slice none 0 0, .int .i64 1]) a3) else (
 Calls Try.prog 24 #[.pointer d1] a3 fun ca bl => ∃ (ai : Bool), ca = .returned (.bool ai) ∧
 bif ai then (
 R (.tuple #[.slice none 0 0, .int .i64 19]) bl) else (
 ∃ (I1 : Nat → List Value → World → Prop) (co : Nat), I1 co [.slice none 0 0, .int .i64 0] bl ∧ ∀ (cg : Nat) (aw : World) (b4 : Option Addr) (ap : Nat) (al : Nat) (bx : Int), I1 cg [.slice b4 ap al, .int .i64 bx] aw →
 bif decide (bx < a2) then (
 Calls Try.prog 50 #[.pointer d1, .int .i64 (IntKind.i64.wrap (a1 + bx))] aw fun c6 bp => ∃ (af : Option Addr) (ab : Nat) (aa : Nat) (aq : Int), c6 = .returned (.tuple #[.slice af ab aa, .int .i64 aq]) ∧
 thenW (bp.alloc (.cells #[.slice af ab aa] 23)) fun c1 =>
 ∃ (bu : Option Addr) (bk : Nat) (bi : Nat) (b7 : World), (Builtin.append_ #[25, 25] 25 #[.slice b4 ap al, .slice (some (blk bp.heap.size)) 1 1]).run Try.prog c1 = .ok (.slice bu bk bi) b7 ∧
 ∃ ci, ci < cg ∧ I1 ci [.slice bu bk bi, .int .i64 (IntKind.i64.wrap (bx + 1))] b7) else (
 R (.tuple #[.slice b4 ap al, .int .i64 0]) aw))))))))) else (
 bif ag == 0 then (
 R (.tuple #[.slice none 0 0, .int .i64 1]) a3) else (
 bif decide (a1 < 0) then (
 R (.tuple #[.slice none 0 0, .int .i64 1]) a3) else (
 bif decide (a2 < 1) then (
 R (.tuple #[.slice none 0 0, .int .i64 1]) a3) else (
 bif decide (a1 > a0) then (
 R (.tuple #[.slice none 0 0, .int .i64 1]) a3) else (
 bif decide (a2 > (IntKind.i64.wrap (a0 - a1))) then (
 R (.tuple #[.slice none 0 0, .int .i64 1]) a3) else (
 Calls Try.prog 24 #[.pointer d1] a3 fun c2 bq => ∃ (aj : Bool), c2 = .returned (.bool aj) ∧
 bif aj then (
 R (.tuple #[.slice none 0 0, .int .i64 19]) bq) else (
 ∃ (I1 : Nat → List Value → World → Prop) (cm : Nat), I1 cm [.slice none 0 0, .int .i64 0] bq ∧ ∀ (cf : Nat) (b1 : World) (am : Option Addr) (au : Nat) (ar : Nat) (bw : Int), I1 cf [.slice am au ar, .int .i64 bw] b1 →
 bif decide (bw < a2) then (
 Calls Try.prog 50 #[.pointer d1, .int .i64 (IntKind.i64.wrap (a1 + bw))] b1 fun c4 bm => ∃ (a4 : Option Addr) (ae : Nat) (a6 : Nat) (b0 : Int), c4 = .returned (.tuple #[.slice a4 ae a6, .int .i64 b0]) ∧
 thenW (bm.alloc (.cells #[.slice a4 ae a6] 23)) fun c5 =>
 ∃ (bb : Option Addr) (bc : Nat) (bo : Nat) (bn : World), (Builtin.append_ #[25, 25] 25 #[.slice am au ar, .slice (some (blk bm.heap.size)) 1 1]).run Try.prog c5 = .ok (.slice bb bc bo) bn ∧
 ∃ cc, cc < cf ∧ I1 cc [.slice bb bc bo, .int .i64 (IntKind.i64.wrap (bw + 1))] bn) else (
 R (.tuple #[.slice am au ar, .int .i64 0]) b1))))))))

theorem journal_stretch.eq (d1 : Option Addr) (base2 : Int) (size3 : Int) (gen4 : Int) (R : Value → World → Prop) (w : World) : mfunc Try.prog [(1, [0, 1, 57], [(8, (.one .slice)), (58, (.one (.int .i64)))])] 42 [.pointer d1, .int .i64 base2, .int .i64 size3, .int .u32 gen4] R w = journal_stretch.M d1 base2 size3 gen4 R w := by kernel_rfl
theorem journal_stretch.ok (d1 : Option Addr) (a1 : Int) (a0 : Int) (a2 : Int) {R : Value → World → Prop} {w : World} (h : journal_stretch.M d1 a1 a0 a2 R w) : Calls Try.prog 42 #[.pointer d1, .int .i64 a1, .int .i64 a0, .int .u32 a2] w fun e w' => ∃ v, e = .returned v ∧ R v w' :=
  mfunc_ok follows (H := [(1, [0, 1, 57], [(8, (.one .slice)), (58, (.one (.int .i64)))])]) (args := [.pointer d1, .int .i64 a1, .int .i64 a0, .int .u32 a2]) (by rw [journal_stretch.eq]; exact h)

def journal_stretch.N (d1 : Option Addr) (a1 : Int) (a2 : Int) (a4 : Int) (R : Value → World → Prop) (w : World) : Prop :=
 Calls Try.prog 53 #[.pointer d1] w fun c2 a3 => ∃ (a0 : Int), c2 = .returned (.int .i64 a0) ∧
 (d1 = none →
 (a4 ≠ 0 →
 (a1 ≥ 0 →
 (a2 ≥ 1 →
 R (.tuple #[.slice none 0 0, .int .i64 23]) a3) ∧
 (a2 < 1 →
 (a4 = 0 →
 R (.tuple #[.slice none 0 0, .int .i64 1]) a3) ∧
 (a4 ≠ 0 →
 (a1 < 0 →
 R (.tuple #[.slice none 0 0, .int .i64 1]) a3) ∧
 ((0 : Int) ≤ a1 →
 (a2 < 1 →
 R (.tuple #[.slice none 0 0, .int .i64 1]) a3) ∧
 ((1 : Int) ≤ a2 →
 (a1 > a0 →
 R (.tuple #[.slice none 0 0, .int .i64 1]) a3) ∧
 (a1 ≤ a0 →
 (-9223372036854775808 : Int) ≤ (a0 - a1) ∧ (a0 - a1) < 9223372036854775808 ∧
 (a2 > (a0 - a1) →
 R (.tuple #[.slice none 0 0, .int .i64 1]) a3) ∧
 (a2 ≤ (a0 - a1) →
 Calls Try.prog 24 #[.pointer d1] a3 fun bq b6 => ∃ (a7 : Bool), bq = .returned (.bool a7) ∧
 (a7 = true →
 R (.tuple #[.slice none 0 0, .int .i64 19]) b6) ∧
 (a7 = false →
 ∃ (I1 : Nat → List Value → World → Prop) (c3 : Nat), I1 c3 [.slice none 0 0, .int .i64 0] b6 ∧ ∀ (bv : Nat) (b0 : World) (av : Option Addr) (aw : Nat) (aq : Nat) (al : Int), I1 bv [.slice av aw aq, .int .i64 al] b0 →
 (al < a2 →
 (-9223372036854775808 : Int) ≤ (a1 + al) ∧ (a1 + al) < 9223372036854775808 ∧
 Calls Try.prog 50 #[.pointer d1, .int .i64 (a1 + al)] b0 fun bu bk => ∃ (ad : Option Addr) (ae : Nat) (a9 : Nat) (b2 : Int), bu = .returned (.tuple #[.slice ad ae a9, .int .i64 b2]) ∧
 ∀ (ak : World) (bo : Nat), Ext no bk ak → Blk ak bo 23 [.slice ad ae a9] → bk.heap.size ≤ bo → bo < ak.heap.size →
 ∃ (b9 : Option Addr) (bl : Nat) (ba : Nat) (bg : World), (Builtin.append_ #[25, 25] 25 #[.slice av aw aq, .slice (some (blk bo)) 1 1]).run Try.prog ak = .ok (.slice b9 bl ba) bg ∧
 (-9223372036854775808 : Int) ≤ (al + 1) ∧ (al + 1) < 9223372036854775808 ∧
 ∃ c0, c0 < bv ∧ I1 c0 [.slice b9 bl ba, .int .i64 (al + 1)] bg) ∧
 (a2 ≤ al →
 R (.tuple #[.slice av aw aq, .int .i64 0]) b0))))))))) ∧
 (a1 < 0 →
 (a4 = 0 →
 R (.tuple #[.slice none 0 0, .int .i64 1]) a3) ∧
 (a4 ≠ 0 →
 (a1 < 0 →
 R (.tuple #[.slice none 0 0, .int .i64 1]) a3) ∧
 ((0 : Int) ≤ a1 →
 (a2 < 1 →
 R (.tuple #[.slice none 0 0, .int .i64 1]) a3) ∧
 ((1 : Int) ≤ a2 →
 (a1 > a0 →
 R (.tuple #[.slice none 0 0, .int .i64 1]) a3) ∧
 (a1 ≤ a0 →
 (-9223372036854775808 : Int) ≤ (a0 - a1) ∧ (a0 - a1) < 9223372036854775808 ∧
 (a2 > (a0 - a1) →
 R (.tuple #[.slice none 0 0, .int .i64 1]) a3) ∧
 (a2 ≤ (a0 - a1) →
 Calls Try.prog 24 #[.pointer d1] a3 fun bs bf => ∃ (a6 : Bool), bs = .returned (.bool a6) ∧
 (a6 = true →
 R (.tuple #[.slice none 0 0, .int .i64 19]) bf) ∧
 (a6 = false →
 ∃ (I1 : Nat → List Value → World → Prop) (c5 : Nat), I1 c5 [.slice none 0 0, .int .i64 0] bf ∧ ∀ (c1 : Nat) (ao : World) (an : Option Addr) (az : Nat) (ap : Nat) (ai : Int), I1 c1 [.slice an az ap, .int .i64 ai] ao →
 (ai < a2 →
 (-9223372036854775808 : Int) ≤ (a1 + ai) ∧ (a1 + ai) < 9223372036854775808 ∧
 Calls Try.prog 50 #[.pointer d1, .int .i64 (a1 + ai)] ao fun br bb => ∃ (af : Option Addr) (ac : Nat) (ab : Nat) (ax : Int), br = .returned (.tuple #[.slice af ac ab, .int .i64 ax]) ∧
 ∀ (ah : World) (bn : Nat), Ext no bb ah → Blk ah bn 23 [.slice af ac ab] → bb.heap.size ≤ bn → bn < ah.heap.size →
 ∃ (b4 : Option Addr) (bc : Nat) (bh : Nat) (b5 : World), (Builtin.append_ #[25, 25] 25 #[.slice an az ap, .slice (some (blk bn)) 1 1]).run Try.prog ah = .ok (.slice b4 bc bh) b5 ∧
 (-9223372036854775808 : Int) ≤ (ai + 1) ∧ (ai + 1) < 9223372036854775808 ∧
 ∃ bw, bw < c1 ∧ I1 bw [.slice b4 bc bh, .int .i64 (ai + 1)] b5) ∧
 (a2 ≤ ai →
 R (.tuple #[.slice an az ap, .int .i64 0]) ao))))))))) ∧
 (a4 = 0 →
 R (.tuple #[.slice none 0 0, .int .i64 1]) a3)) ∧
 (d1 ≠ none →
 (a4 = 0 →
 R (.tuple #[.slice none 0 0, .int .i64 1]) a3) ∧
 (a4 ≠ 0 →
 (a1 < 0 →
 R (.tuple #[.slice none 0 0, .int .i64 1]) a3) ∧
 ((0 : Int) ≤ a1 →
 (a2 < 1 →
 R (.tuple #[.slice none 0 0, .int .i64 1]) a3) ∧
 ((1 : Int) ≤ a2 →
 (a1 > a0 →
 R (.tuple #[.slice none 0 0, .int .i64 1]) a3) ∧
 (a1 ≤ a0 →
 (-9223372036854775808 : Int) ≤ (a0 - a1) ∧ (a0 - a1) < 9223372036854775808 ∧
 (a2 > (a0 - a1) →
 R (.tuple #[.slice none 0 0, .int .i64 1]) a3) ∧
 (a2 ≤ (a0 - a1) →
 Calls Try.prog 24 #[.pointer d1] a3 fun bp b8 => ∃ (a5 : Bool), bp = .returned (.bool a5) ∧
 (a5 = true →
 R (.tuple #[.slice none 0 0, .int .i64 19]) b8) ∧
 (a5 = false →
 ∃ (I1 : Nat → List Value → World → Prop) (c4 : Nat), I1 c4 [.slice none 0 0, .int .i64 0] b8 ∧ ∀ (bz : Nat) (au : World) (ar : Option Addr) (ay : Nat) (b3 : Nat) (am : Int), I1 bz [.slice ar ay b3, .int .i64 am] au →
 (am < a2 →
 (-9223372036854775808 : Int) ≤ (a1 + am) ∧ (a1 + am) < 9223372036854775808 ∧
 Calls Try.prog 50 #[.pointer d1, .int .i64 (a1 + am)] au fun bt bi => ∃ (ag : Option Addr) (aa : Nat) (a8 : Nat) (b1 : Int), bt = .returned (.tuple #[.slice ag aa a8, .int .i64 b1]) ∧
 ∀ (aj : World) (bm : Nat), Ext no bi aj → Blk aj bm 23 [.slice ag aa a8] → bi.heap.size ≤ bm → bm < aj.heap.size →
 ∃ (bj : Option Addr) (b7 : Nat) (bd : Nat) (be : World), (Builtin.append_ #[25, 25] 25 #[.slice ar ay b3, .slice (some (blk bm)) 1 1]).run Try.prog aj = .ok (.slice bj b7 bd) be ∧
 (-9223372036854775808 : Int) ≤ (am + 1) ∧ (am + 1) < 9223372036854775808 ∧
 ∃ bx, bx < bz ∧ I1 bx [.slice bj b7 bd, .int .i64 (am + 1)] be) ∧
 (a2 ≤ am →
 R (.tuple #[.slice ar ay b3, .int .i64 0]) au))))))))

theorem journal_stretch.up (d1 : Option Addr) (ad : Int) (ac : Int) (an : Int) {R : Value → World → Prop} {w : World} (h : journal_stretch.N d1 ad ac an R w) : journal_stretch.M d1 ad ac an R w := by
  unfold journal_stretch.M
  unfold journal_stretch.N at h
  refine h.mono fun cv cw h => ?_
  obtain ⟨a2, he, h⟩ := h
  refine ⟨a2, he, ?_⟩
  refine bif_of (fun c8 => ?_) (fun c8 => ?_)
  · have h := h.1 (isNone_t c8)
    refine bif_of (fun c9 => ?_) (fun c9 => ?_)
    · have h := h.1 (bne_t c9)
      refine bif_of (fun b8 => ?_) (fun b8 => ?_)
      · have h := h.1 (of_decide_eq_true b8)
        refine bif_of (fun be => ?_) (fun be => ?_)
        · have h := h.1 (of_decide_eq_true be)
          exact h
        · have h := h.2 (Int.not_le.1 (of_decide_eq_false be))
          refine bif_of (fun b6 => ?_) (fun b6 => ?_)
          · have h := h.1 (beq_t b6)
            exact h
          · have h := h.2 (beq_f b6)
            refine bif_of (fun b3 => ?_) (fun b3 => ?_)
            · have h := h.1 (of_decide_eq_true b3)
              exact h
            · have h := h.2 (Int.not_lt.1 (of_decide_eq_false b3))
              refine bif_of (fun bq => ?_) (fun bq => ?_)
              · have h := h.1 (of_decide_eq_true bq)
                exact h
              · have h := h.2 (Int.not_lt.1 (of_decide_eq_false bq))
                refine bif_of (fun b1 => ?_) (fun b1 => ?_)
                · have h := h.1 (of_decide_eq_true b1)
                  exact h
                · have h := h.2 (Int.not_lt.1 (of_decide_eq_false b1))
                  obtain ⟨a1, a0, h⟩ := h
                  try rw [w64 a1 a0]
                  refine bif_of (fun ba => ?_) (fun ba => ?_)
                  · have h := h.1 (of_decide_eq_true ba)
                    exact h
                  · have h := h.2 (Int.not_lt.1 (of_decide_eq_false ba))
                    refine h.mono fun cl cd h => ?_
                    obtain ⟨af, he, h⟩ := h
                    refine ⟨af, he, ?_⟩
                    refine bif_of (fun c0 => ?_) (fun c0 => ?_)
                    · have h := h.1 c0
                      exact h
                    · have h := h.2 c0
                      obtain ⟨I1, cq, h0, h⟩ := h
                      refine ⟨I1, cq, h0, fun cc b4 bc bd ar ch hI => ?_⟩
                      have h := h cc b4 bc bd ar ch hI
                      refine bif_of (fun av => ?_) (fun av => ?_)
                      · have h := h.1 (of_decide_eq_true av)
                        obtain ⟨a1, a0, h⟩ := h
                        try rw [w64 a1 a0]
                        refine h.mono fun cs ag h => ?_
                        obtain ⟨a3, ab, a5, ah, he, h⟩ := h
                        refine ⟨a3, ab, a5, ah, he, ?_⟩
                        refine thenW_in fun c2 b2 => ?_
                        have h := h c2 ag.heap.size ((Ext.refl no ag).x_alloc b2) (Blk.of_new b2) ((Ext.refl no ag)).size (size_lt_alloc b2)
                        obtain ⟨bb, c5, aq, bo, hr, h⟩ := h
                        refine ⟨bb, c5, aq, bo, hr, ?_⟩
                        obtain ⟨a1, a0, h⟩ := h
                        try rw [w64 a1 a0]
                        obtain ⟨co, hk, h⟩ := h
                        exact ⟨co, hk, h⟩
                      · have h := h.2 (Int.not_lt.1 (of_decide_eq_false av))
                        exact h
      · have h := h.2 (Int.not_le.1 (of_decide_eq_false b8))
        refine bif_of (fun bf => ?_) (fun bf => ?_)
        · have h := h.1 (beq_t bf)
          exact h
        · have h := h.2 (beq_f bf)
          refine bif_of (fun ay => ?_) (fun ay => ?_)
          · have h := h.1 (of_decide_eq_true ay)
            exact h
          · have h := h.2 (Int.not_lt.1 (of_decide_eq_false ay))
            refine bif_of (fun bj => ?_) (fun bj => ?_)
            · have h := h.1 (of_decide_eq_true bj)
              exact h
            · have h := h.2 (Int.not_lt.1 (of_decide_eq_false bj))
              refine bif_of (fun ax => ?_) (fun ax => ?_)
              · have h := h.1 (of_decide_eq_true ax)
                exact h
              · have h := h.2 (Int.not_lt.1 (of_decide_eq_false ax))
                obtain ⟨a1, a0, h⟩ := h
                try rw [w64 a1 a0]
                refine bif_of (fun bx => ?_) (fun bx => ?_)
                · have h := h.1 (of_decide_eq_true bx)
                  exact h
                · have h := h.2 (Int.not_lt.1 (of_decide_eq_false bx))
                  refine h.mono fun cr ca h => ?_
                  obtain ⟨ak, he, h⟩ := h
                  refine ⟨ak, he, ?_⟩
                  refine bif_of (fun b5 => ?_) (fun b5 => ?_)
                  · have h := h.1 b5
                    exact h
                  · have h := h.2 b5
                    obtain ⟨I1, cn, h0, h⟩ := h
                    refine ⟨I1, cn, h0, fun cb ap bw bg b9 cp hI => ?_⟩
                    have h := h cb ap bw bg b9 cp hI
                    refine bif_of (fun bi => ?_) (fun bi => ?_)
                    · have h := h.1 (of_decide_eq_true bi)
                      obtain ⟨a1, a0, h⟩ := h
                      try rw [w64 a1 a0]
                      refine h.mono fun cm ae h => ?_
                      obtain ⟨a4, a7, a6, am, he, h⟩ := h
                      refine ⟨a4, a7, a6, am, he, ?_⟩
                      refine thenW_in fun ao bu => ?_
                      have h := h ao ae.heap.size ((Ext.refl no ae).x_alloc bu) (Blk.of_new bu) ((Ext.refl no ae)).size (size_lt_alloc bu)
                      obtain ⟨b7, aw, bp, bv, hr, h⟩ := h
                      refine ⟨b7, aw, bp, bv, hr, ?_⟩
                      obtain ⟨a1, a0, h⟩ := h
                      try rw [w64 a1 a0]
                      obtain ⟨cj, hk, h⟩ := h
                      exact ⟨cj, hk, h⟩
                    · have h := h.2 (Int.not_lt.1 (of_decide_eq_false bi))
                      exact h
    · have h := h.2 (bne_f c9)
      refine bif_tt (cong1 (r := true) (fun z => z == 0) (bne_f c9) (by decide)) ?_
      exact h
  · have h := h.2 (isNone_f c8)
    refine bif_of (fun c4 => ?_) (fun c4 => ?_)
    · have h := h.1 (beq_t c4)
      exact h
    · have h := h.2 (beq_f c4)
      refine bif_of (fun b0 => ?_) (fun b0 => ?_)
      · have h := h.1 (of_decide_eq_true b0)
        exact h
      · have h := h.2 (Int.not_lt.1 (of_decide_eq_false b0))
        refine bif_of (fun c3 => ?_) (fun c3 => ?_)
        · have h := h.1 (of_decide_eq_true c3)
          exact h
        · have h := h.2 (Int.not_lt.1 (of_decide_eq_false c3))
          refine bif_of (fun bh => ?_) (fun bh => ?_)
          · have h := h.1 (of_decide_eq_true bh)
            exact h
          · have h := h.2 (Int.not_lt.1 (of_decide_eq_false bh))
            obtain ⟨a1, a0, h⟩ := h
            try rw [w64 a1 a0]
            refine bif_of (fun az => ?_) (fun az => ?_)
            · have h := h.1 (of_decide_eq_true az)
              exact h
            · have h := h.2 (Int.not_lt.1 (of_decide_eq_false az))
              refine h.mono fun ce ck h => ?_
              obtain ⟨ai, he, h⟩ := h
              refine ⟨ai, he, ?_⟩
              refine bif_of (fun bs => ?_) (fun bs => ?_)
              · have h := h.1 bs
                exact h
              · have h := h.2 bs
                obtain ⟨I1, cf, h0, h⟩ := h
                refine ⟨I1, cf, h0, fun cu au bl br c7 ct hI => ?_⟩
                have h := h cu au bl br c7 ct hI
                refine bif_of (fun bm => ?_) (fun bm => ?_)
                · have h := h.1 (of_decide_eq_true bm)
                  obtain ⟨a1, a0, h⟩ := h
                  try rw [w64 a1 a0]
                  refine h.mono fun ci al h => ?_
                  obtain ⟨a8, aa, a9, aj, he, h⟩ := h
                  refine ⟨a8, aa, a9, aj, he, ?_⟩
                  refine thenW_in fun c1 c6 => ?_
                  have h := h c1 al.heap.size ((Ext.refl no al).x_alloc c6) (Blk.of_new c6) ((Ext.refl no al)).size (size_lt_alloc c6)
                  obtain ⟨bt, bk, bz, bn, hr, h⟩ := h
                  refine ⟨bt, bk, bz, bn, hr, ?_⟩
                  obtain ⟨a1, a0, h⟩ := h
                  try rw [w64 a1 a0]
                  obtain ⟨cg, hk, h⟩ := h
                  exact ⟨cg, hk, h⟩
                · have h := h.2 (Int.not_lt.1 (of_decide_eq_false bm))
                  exact h

theorem journal_stretch.go (d1 : Option Addr) (a1 : Int) (a0 : Int) (a2 : Int) {R : Value → World → Prop} {w : World} (h : journal_stretch.N d1 a1 a0 a2 R w) : Calls Try.prog 42 #[.pointer d1, .int .i64 a1, .int .i64 a0, .int .u32 a2] w fun e w' => ∃ v, e = .returned v ∧ R v w' := journal_stretch.ok d1 a1 a0 a2 (journal_stretch.up d1 a1 a0 a2 h)
/-- journal.Open -/
def journal_Open.M (d1 : Option Addr) (a9 : Int) (aa : Int) (ab : Int) (R : Value → World → Prop) (w : World) : Prop :=
 Calls Try.prog 42 #[.pointer d1, .int .i64 a9, .int .i64 aa, .int .u32 ab] w fun ag af => ∃ (a1 : Option Addr) (a3 : Nat) (a2 : Nat) (a0 : Int), ag = .returned (.tuple #[.slice a1 a3 a2, .int .i64 a0]) ∧
 bif a0 != 0 then (
 R (.tuple #[.pointer none, .slice none 0 0, .int .i64 a0]) af) else (
 Calls Try.prog 16 #[.slice a1 a3 a2, .int .u32 ab] af fun ae ac => ∃ (a8 : Option Addr) (a5 : Nat) (a7 : Nat) (a6 : Int) (a4 : Int), ae = .returned (.tuple #[.slice a8 a5 a7, .int .i64 a6, .int .u32 a4]) ∧
 bif (IntKind.u32.wrap (a4 + 1)) == 0 then (
 R (.tuple #[.pointer none, .slice none 0 0, .int .i64 2]) ac) else (
 thenW (ac.alloc (.cells #[.pointer d1, .int .i64 a9, .int .i64 aa, .int .u32 ab, .int .u32 (IntKind.u32.wrap (a4 + 1)), .int .i64 a6, .int .i64 (a5 : Int), .bool false] 82)) fun ad =>
 R (.tuple #[.pointer (some (blk ac.heap.size)), .slice a8 a5 a7, .int .i64 0]) ad))

theorem journal_Open.eq (d1 : Option Addr) (base2 : Int) (size3 : Int) (gen4 : Int) (R : Value → World → Prop) (w : World) : mfunc Try.prog [] 20 [.pointer d1, .int .i64 base2, .int .i64 size3, .int .u32 gen4] R w = journal_Open.M d1 base2 size3 gen4 R w := by kernel_rfl
theorem journal_Open.ok (d1 : Option Addr) (a1 : Int) (a0 : Int) (a2 : Int) {R : Value → World → Prop} {w : World} (h : journal_Open.M d1 a1 a0 a2 R w) : Calls Try.prog 20 #[.pointer d1, .int .i64 a1, .int .i64 a0, .int .u32 a2] w fun e w' => ∃ v, e = .returned v ∧ R v w' :=
  mfunc_ok follows (H := []) (args := [.pointer d1, .int .i64 a1, .int .i64 a0, .int .u32 a2]) (by rw [journal_Open.eq]; exact h)

def journal_Open.N (d1 : Option Addr) (aa : Int) (ab : Int) (ad : Int) (R : Value → World → Prop) (w : World) : Prop :=
 Calls Try.prog 42 #[.pointer d1, .int .i64 aa, .int .i64 ab, .int .u32 ad] w fun ah ag => ∃ (a1 : Option Addr) (a3 : Nat) (a2 : Nat) (a0 : Int), ah = .returned (.tuple #[.slice a1 a3 a2, .int .i64 a0]) ∧
 (a0 ≠ 0 →
 R (.tuple #[.pointer none, .slice none 0 0, .int .i64 a0]) ag) ∧
 (a0 = 0 →
 Calls Try.prog 16 #[.slice a1 a3 a2, .int .u32 ad] ag fun af ac => ∃ (a6 : Option Addr) (a4 : Nat) (a7 : Nat) (a8 : Int) (a5 : Int), af = .returned (.tuple #[.slice a6 a4 a7, .int .i64 a8, .int .u32 a5]) ∧
 ((IntKind.u32.wrap (a5 + 1)) = 0 →
 R (.tuple #[.pointer none, .slice none 0 0, .int .i64 2]) ac) ∧
 ((IntKind.u32.wrap (a5 + 1)) ≠ 0 →
 ∀ (a9 : World) (ae : Nat), Ext no ac a9 → Blk a9 ae 82 [.pointer d1, .int .i64 aa, .int .i64 ab, .int .u32 ad, .int .u32 (IntKind.u32.wrap (a5 + 1)), .int .i64 a8, .int .i64 (a4 : Int), .bool false] → ac.heap.size ≤ ae → ae < a9.heap.size →
 R (.tuple #[.pointer (some (blk ae)), .slice a6 a4 a7, .int .i64 0]) a9))

theorem journal_Open.up (d1 : Option Addr) (a7 : Int) (a8 : Int) (ac : Int) {R : Value → World → Prop} {w : World} (h : journal_Open.N d1 a7 a8 ac R w) : journal_Open.M d1 a7 a8 ac R w := by
  unfold journal_Open.M
  unfold journal_Open.N at h
  refine h.mono fun ah ai h => ?_
  obtain ⟨a0, a2, a1, a3, he, h⟩ := h
  refine ⟨a0, a2, a1, a3, he, ?_⟩
  refine bif_of (fun c9 => ?_) (fun c9 => ?_)
  · have h := h.1 (bne_t c9)
    exact h
  · have h := h.2 (bne_f c9)
    refine h.mono fun ag aa h => ?_
    obtain ⟨a4, a5, a6, a9, ab, he, h⟩ := h
    refine ⟨a4, a5, a6, a9, ab, he, ?_⟩
    refine bif_of (fun af => ?_) (fun af => ?_)
    · have h := h.1 (beq_t af)
      exact h
    · have h := h.2 (beq_f af)
      refine thenW_in fun ae ad => ?_
      have h := h ae aa.heap.size ((Ext.refl no aa).x_alloc ad) (Blk.of_new ad) ((Ext.refl no aa)).size (size_lt_alloc ad)
      exact h

theorem journal_Open.go (d1 : Option Addr) (a1 : Int) (a0 : Int) (a2 : Int) {R : Value → World → Prop} {w : World} (h : journal_Open.N d1 a1 a0 a2 R w) : Calls Try.prog 20 #[.pointer d1, .int .i64 a1, .int .i64 a0, .int .u32 a2] w fun e w' => ∃ v, e = .returned v ∧ R v w' := journal_Open.ok d1 a1 a0 a2 (journal_Open.up d1 a1 a0 a2 h)
/-- (*journal.Journal).Append -/
def journal_Journal_Append.M (j1 : Option Addr) (bk : Option Addr) (b7 : Nat) (bo : Nat) (R : Value → World → Prop) (w : World) : Prop :=
 Calls Try.prog 12 #[.int .i64 (b7 : Int)] w fun bq aq => ∃ (a2 : Int), bq = .returned (.int .i64 a2) ∧
 bif Option.isNone j1 then (
 R (.int .i64 23) aq) else (
 bif a2 == 0 then (
 R (.int .i64 3) aq) else (
 j1.elim False fun a6 =>
 ∃ (al : Bool), aq.cell? (a6.add 7) = some (.bool al) ∧
 bif al then (
 R (.int .i64 19) aq) else (
 thenW (aq.drew) fun aw =>
 j1.elim False fun a9 =>
 ∃ (ad : Int), aw.cell? (a9.add 2) = some (.int .i64 ad) ∧
 j1.elim False fun bi =>
 ∃ (aa : Int), aw.cell? (bi.add 5) = some (.int .i64 aa) ∧
 bif decide (a2 > (IntKind.i64.wrap (ad - aa))) then (
 R (.int .i64 18) aw) else (
 thenW (aw.drew) fun ah =>
 j1.elim False fun bf =>
 ∃ (aj : Int), ah.cell? (bf.add 3) = some (.int .u32 aj) ∧
 j1.elim False fun be =>
 ∃ (a5 : Int), ah.cell? (be.add 4) = some (.int .u32 a5) ∧
 j1.elim False fun bg =>
 ∃ (am : Int), ah.cell? (bg.add 6) = some (.int .i64 am) ∧
 Calls Try.prog 9 #[.int .u32 aj, .int .u32 a5, .int .u32 (IntKind.u32.wrap am), .slice bk b7 bo] ah fun b3 b0 => ∃ (a3 : Option Addr) (a0 : Nat) (a8 : Nat) (ag : Int), b3 = .returned (.tuple #[.slice a3 a0 a8, .int .i64 ag]) ∧
 ∃ (I1 : Nat → List Value → World → Prop) (bn : Nat), I1 bn [.int .i64 0] b0 ∧ ∀ (b6 : Nat) (ac : World) (ap : Int), I1 b6 [.int .i64 ap] ac →
 bif decide (ap < (a0 : Int)) then (
 a3.elim False fun bd =>
 0 ≤ (ap : Int) ∧ (ap : Int) < (a0 : Int) ∧
 ∃ (av : Option Addr) (au : Nat) (ar : Nat), ac.cell? (bd.add (Int.toNat ap * 1)) = some (.slice av au ar) ∧
 thenW (ac.drew) fun ai =>
 j1.elim False fun bj =>
 ∃ (ba : Option Addr), ai.cell? (bj.add 0) = some (.pointer ba) ∧
 j1.elim False fun br =>
 ∃ (ab : Int), ai.cell? (br.add 1) = some (.int .i64 ab) ∧
 j1.elim False fun bl =>
 ∃ (a7 : Int), ai.cell? (bl.add 5) = some (.int .i64 a7) ∧
 Calls Try.prog 28 #[.pointer ba, .int .i64 (IntKind.i64.wrap ((IntKind.i64.wrap (ab + a7)) + ap)), .slice av au ar] ai fun ay ao => ∃ (a1 : Int), ay = .returned (.int .i64 a1) ∧
 bif a1 != 0 then (
 j1.elim False fun bc =>
 canStore ao ((bc.add 7).add 0) ∧
 thenW (ao.setCell ((bc.add 7).add 0) (.bool true)) fun b1 =>
 R (.int .i64 a1) b1) else (
 ∃ b5, b5 < b6 ∧ I1 b5 [.int .i64 (IntKind.i64.wrap (ap + 1))] ao)) else (
 j1.elim False fun bh =>
 ∃ (b8 : Option Addr), ac.cell? (bh.add 0) = some (.pointer b8) ∧
 Calls Try.prog 29 #[.pointer b8] ac fun az ae => ∃ (a4 : Int), az = .returned (.int .i64 a4) ∧
 bif a4 != 0 then (
 j1.elim False fun b4 =>
 canStore ae ((b4.add 7).add 0) ∧
 thenW (ae.setCell ((b4.add 7).add 0) (.bool true)) fun ax =>
 R (.int .i64 a4) ax) else (
 j1.elim False fun bm =>
 ∃ (af : Int), ae.cell? (bm.add 5) = some (.int .i64 af) ∧
 j1.elim False fun b9 =>
 canStore ae ((b9.add 5).add 0) ∧
 thenW (ae.setCell ((b9.add 5).add 0) (.int .i64 (IntKind.i64.wrap (af + a2)))) fun an =>
 j1.elim False fun bp =>
 ∃ (ak : Int), an.cell? (bp.add 6) = some (.int .i64 ak) ∧
 j1.elim False fun bb =>
 canStore an ((bb.add 6).add 0) ∧
 thenW (an.setCell ((bb.add 6).add 0) (.int .i64 (IntKind.i64.wrap (ak + 1)))) fun b2 =>
 R (.int .i64 0) b2))))))

theorem journal_Journal_Append.eq (j1 : Option Addr) (b2a : Option Addr) (b2n : Nat) (b2c : Nat) (R : Value → World → Prop) (w : World) : mfunc Try.prog [(1, [0, 5, 56, 57], [(58, (.one (.int .i64)))])] 23 [.pointer j1, .slice b2a b2n b2c] R w = journal_Journal_Append.M j1 b2a b2n b2c R w := by kernel_rfl
theorem journal_Journal_Append.ok (j1 : Option Addr) (a2 : Option Addr) (a1 : Nat) (a0 : Nat) {R : Value → World → Prop} {w : World} (h : journal_Journal_Append.M j1 a2 a1 a0 R w) : Calls Try.prog 23 #[.pointer j1, .slice a2 a1 a0] w fun e w' => ∃ v, e = .returned v ∧ R v w' :=
  mfunc_ok follows (H := [(1, [0, 5, 56, 57], [(58, (.one (.int .i64)))])]) (args := [.pointer j1, .slice a2 a1 a0]) (by rw [journal_Journal_Append.eq]; exact h)

def journal_Journal_Append.N (j1 : Option Addr) (b8 : Option Addr) (aj : Nat) (ba : Nat) (R : Value → World → Prop) (w : World) : Prop :=
 (j1 = none →
 ∀ (al : World), Ext no w al →
 R (.int .i64 23) al) ∧
 (j1 ≠ none →
 ((journal_Parts.F (aj : Int)) = 0 →
 ∀ (al : World), Ext no w al →
 R (.int .i64 3) al) ∧
 ((journal_Parts.F (aj : Int)) ≠ 0 →
 ∃ a6 : Addr, j1 = some a6 ∧
 ∃ (ag : Bool), w.cell? (a6.add 7) = some (.bool ag) ∧
 (ag = true →
 ∀ (al : World), Ext no w al →
 R (.int .i64 19) al) ∧
 (ag = false →
 ∃ (a5 : Int), w.cell? (a6.add 2) = some (.int .i64 a5) ∧
 ∃ (a4 : Int), w.cell? (a6.add 5) = some (.int .i64 a4) ∧
 (-9223372036854775808 : Int) ≤ (a5 - a4) ∧ (a5 - a4) < 9223372036854775808 ∧
 ((journal_Parts.F (aj : Int)) > (a5 - a4) →
 ∀ (au : World), Ext no w au →
 R (.int .i64 18) au) ∧
 ((journal_Parts.F (aj : Int)) ≤ (a5 - a4) →
 ∃ (ak : Int), w.cell? (a6.add 3) = some (.int .u32 ak) ∧
 ∃ (ac : Int), w.cell? (a6.add 4) = some (.int .u32 ac) ∧
 ∃ (ai : Int), w.cell? (a6.add 6) = some (.int .i64 ai) ∧
 ∀ (ar : World), Ext no w ar →
 Calls Try.prog 9 #[.int .u32 ak, .int .u32 ac, .int .u32 (IntKind.u32.wrap ai), .slice b8 aj ba] ar fun b0 az => ∃ (a9 : Option Addr) (a0 : Nat) (af : Nat) (ah : Int), b0 = .returned (.tuple #[.slice a9 a0 af, .int .i64 ah]) ∧
 ∃ (I1 : Nat → List Value → World → Prop) (b9 : Nat), I1 b9 [.int .i64 0] az ∧ ∀ (b6 : Nat) (aa : World) (ad : Int), I1 b6 [.int .i64 ad] aa →
 (ad < (a0 : Int) →
 ∃ b4 : Addr, a9 = some b4 ∧
 0 ≤ (ad : Int) ∧ (ad : Int) < (a0 : Int) ∧
 ∃ (ao : Option Addr) (av : Nat) (ap : Nat), aa.cell? (b4.add (Int.toNat ad * 1)) = some (.slice ao av ap) ∧
 ∃ (b3 : Option Addr), aa.cell? (a6.add 0) = some (.pointer b3) ∧
 ∃ (a2 : Int), aa.cell? (a6.add 1) = some (.int .i64 a2) ∧
 ∃ (a1 : Int), aa.cell? (a6.add 5) = some (.int .i64 a1) ∧
 (-9223372036854775808 : Int) ≤ (a2 + a1) ∧ (a2 + a1) < 9223372036854775808 ∧
 (-9223372036854775808 : Int) ≤ ((a2 + a1) + ad) ∧ ((a2 + a1) + ad) < 9223372036854775808 ∧
 ∀ (aq : World), Ext no aa aq →
 Calls Try.prog 28 #[.pointer b3, .int .i64 ((a2 + a1) + ad), .slice ao av ap] aq fun b1 am => ∃ (a3 : Int), b1 = .returned (.int .i64 a3) ∧
 (a3 ≠ 0 →
 canStore am ((a6.add 7).add 0) ∧
 thenW (am.setCell ((a6.add 7).add 0) (.bool true)) fun aw =>
 R (.int .i64 a3) aw) ∧
 (a3 = 0 →
 (-9223372036854775808 : Int) ≤ (ad + 1) ∧ (ad + 1) < 9223372036854775808 ∧
 ∃ b5, b5 < b6 ∧ I1 b5 [.int .i64 (ad + 1)] am)) ∧
 ((a0 : Int) ≤ ad →
 ∃ (b7 : Option Addr), aa.cell? (a6.add 0) = some (.pointer b7) ∧
 Calls Try.prog 29 #[.pointer b7] aa fun ay ae => ∃ (a8 : Int), ay = .returned (.int .i64 a8) ∧
 (a8 ≠ 0 →
 canStore ae ((a6.add 7).add 0) ∧
 thenW (ae.setCell ((a6.add 7).add 0) (.bool true)) fun ax =>
 R (.int .i64 a8) ax) ∧
 (a8 = 0 →
 ∃ (a7 : Int), ae.cell? (a6.add 5) = some (.int .i64 a7) ∧
 (-9223372036854775808 : Int) ≤ (a7 + (journal_Parts.F (aj : Int))) ∧ (a7 + (journal_Parts.F (aj : Int))) < 9223372036854775808 ∧
 canStore ae ((a6.add 5).add 0) ∧
 thenW (ae.setCell ((a6.add 5).add 0) (.int .i64 (a7 + (journal_Parts.F (aj : Int))))) fun an =>
 ∃ (ab : Int), an.cell? (a6.add 6) = some (.int .i64 ab) ∧
 (-9223372036854775808 : Int) ≤ (ab + 1) ∧ (ab + 1) < 9223372036854775808 ∧
 canStore an ((a6.add 6).add 0) ∧
 thenW (an.setCell ((a6.add 6).add 0) (.int .i64 (ab + 1))) fun b2 =>
 R (.int .i64 0) b2))))))

theorem journal_Journal_Append.up (j1 : Option Addr) (bg : Option Addr) (ap : Nat) (bf : Nat) {R : Value → World → Prop} {w : World} (h : journal_Journal_Append.N j1 bg ap bf R w) : journal_Journal_Append.M j1 bg ap bf R w := by
  unfold journal_Journal_Append.M
  unfold journal_Journal_Append.N at h
  refine (journal_Parts.pure (ap : Int)).mono fun ee ww3 ⟨he, hxx⟩ => ⟨(journal_Parts.F (ap : Int)), he, ?_⟩
  have an := (Ext.refl no w).trans hxx
  refine bif_of (fun c4 => ?_) (fun c4 => ?_)
  · have h := h.1 (isNone_t c4)
    have h := h ww3 an
    exact h
  · have h := h.2 (isNone_f c4)
    refine bif_of (fun c5 => ?_) (fun c5 => ?_)
    · have h := h.1 (beq_t c5)
      have h := h ww3 an
      exact h
    · have h := h.2 (beq_f c5)
      obtain ⟨a6, a0, h⟩ := h
      refine elim_some a0 ?_
      obtain ⟨am, bx, h⟩ := h
      refine ⟨am, (an).cell bx id, ?_⟩
      refine bif_of (fun c9 => ?_) (fun c9 => ?_)
      · have h := h.1 c9
        have h := h ww3 an
        exact h
      · have h := h.2 c9
        refine thenW_in fun b4 bm => ?_
        have a9 := an.x_drew bm
        refine elim_some a0 ?_
        obtain ⟨ah, au, h⟩ := h
        refine ⟨ah, (a9).cell au id, ?_⟩
        refine elim_some a0 ?_
        obtain ⟨ad, b0, h⟩ := h
        refine ⟨ad, (a9).cell b0 id, ?_⟩
        obtain ⟨a5, a1, h⟩ := h
        try rw [w64 a5 a1]
        refine bif_of (fun ay => ?_) (fun ay => ?_)
        · have h := h.1 (of_decide_eq_true ay)
          have h := h b4 a9
          exact h
        · have h := h.2 (Int.not_lt.1 (of_decide_eq_false ay))
          refine thenW_in fun b2 bt => ?_
          have a8 := a9.x_drew bt
          refine elim_some a0 ?_
          obtain ⟨ak, b9, h⟩ := h
          refine ⟨ak, (a8).cell b9 id, ?_⟩
          refine elim_some a0 ?_
          obtain ⟨ab, az, h⟩ := h
          refine ⟨ab, (a8).cell az id, ?_⟩
          refine elim_some a0 ?_
          obtain ⟨al, b6, h⟩ := h
          refine ⟨al, (a8).cell b6 id, ?_⟩
          have h := h b2 a8
          refine h.mono fun c2 bw h => ?_
          obtain ⟨a3, a4, a2, a7, he, h⟩ := h
          refine ⟨a3, a4, a2, a7, he, ?_⟩
          obtain ⟨I1, bp, h0, h⟩ := h
          refine ⟨I1, bp, h0, fun br aj c7 hI => ?_⟩
          have h := h br aj c7 hI
          refine bif_of (fun b8 => ?_) (fun b8 => ?_)
          · have h := h.1 (of_decide_eq_true b8)
            obtain ⟨cb, b3, h⟩ := h
            refine elim_some b3 ?_
            obtain ⟨bs, bv, h⟩ := h
            refine ⟨bs, bv, ?_⟩
            obtain ⟨ar, b5, av, ax, h⟩ := h
            refine ⟨ar, b5, av, ax, ?_⟩
            refine thenW_in fun aw bz => ?_
            have aa := (Ext.refl no aj).x_drew bz
            refine elim_some a0 ?_
            obtain ⟨c0, ba, h⟩ := h
            refine ⟨c0, (aa).cell ba id, ?_⟩
            refine elim_some a0 ?_
            obtain ⟨ag, aq, h⟩ := h
            refine ⟨ag, (aa).cell aq id, ?_⟩
            refine elim_some a0 ?_
            obtain ⟨ai, b7, h⟩ := h
            refine ⟨ai, (aa).cell b7 id, ?_⟩
            obtain ⟨a5, a1, h⟩ := h
            try rw [w64 a5 a1]
            obtain ⟨a5, a1, h⟩ := h
            try rw [w64 a5 a1]
            have h := h aw aa
            refine h.mono fun c8 bl h => ?_
            obtain ⟨ac, he, h⟩ := h
            refine ⟨ac, he, ?_⟩
            refine bif_of (fun bd => ?_) (fun bd => ?_)
            · have h := h.1 (bne_t bd)
              refine elim_some a0 ?_
              obtain ⟨hcs, h⟩ := h
              refine ⟨hcs, thenW_in fun c6 bh => ?_⟩
              replace h := thenW_out h bh
              exact h
            · have h := h.2 (bne_f bd)
              obtain ⟨a5, a1, h⟩ := h
              try rw [w64 a5 a1]
              obtain ⟨c1, hk, h⟩ := h
              exact ⟨c1, hk, h⟩
          · have h := h.2 (Int.not_lt.1 (of_decide_eq_false b8))
            refine elim_some a0 ?_
            obtain ⟨bn, bb, h⟩ := h
            refine ⟨bn, bb, ?_⟩
            refine h.mono fun bj bo h => ?_
            obtain ⟨ae, he, h⟩ := h
            refine ⟨ae, he, ?_⟩
            refine bif_of (fun b1 => ?_) (fun b1 => ?_)
            · have h := h.1 (bne_t b1)
              refine elim_some a0 ?_
              obtain ⟨hcs, h⟩ := h
              refine ⟨hcs, thenW_in fun bi c3 => ?_⟩
              replace h := thenW_out h c3
              exact h
            · have h := h.2 (bne_f b1)
              refine elim_some a0 ?_
              obtain ⟨af, bc, h⟩ := h
              refine ⟨af, bc, ?_⟩
              obtain ⟨a5, a1, h⟩ := h
              try rw [w64 a5 a1]
              refine elim_some a0 ?_
              obtain ⟨hcs, h⟩ := h
              refine ⟨hcs, thenW_in fun ca bu => ?_⟩
              replace h := thenW_out h bu
              refine elim_some a0 ?_
              obtain ⟨ao, be, h⟩ := h
              refine ⟨ao, be, ?_⟩
              obtain ⟨a5, a1, h⟩ := h
              try rw [w64 a5 a1]
              refine elim_some a0 ?_
              obtain ⟨hcs, h⟩ := h
              refine ⟨hcs, thenW_in fun bq bk => ?_⟩
              replace h := thenW_out h bk
              exact h

theorem journal_Journal_Append.go (j1 : Option Addr) (a2 : Option Addr) (a1 : Nat) (a0 : Nat) {R : Value → World → Prop} {w : World} (h : journal_Journal_Append.N j1 a2 a1 a0 R w) : Calls Try.prog 23 #[.pointer j1, .slice a2 a1 a0] w fun e w' => ∃ v, e = .returned v ∧ R v w' := journal_Journal_Append.ok j1 a2 a1 a0 (journal_Journal_Append.up j1 a2 a1 a0 h)
theorem journal_Journal_Append.run (j1 : Option Addr) (a2 : Option Addr) (a1 : Nat) (a0 : Nat) {V : Value} {Q : World → Prop} {w : World} (h : journal_Journal_Append.N j1 a2 a1 a0 (fun v w' => v = V ∧ Q w') w) : Calls Try.prog 23 #[.pointer j1, .slice a2 a1 a0] w (Ret V Q) := (journal_Journal_Append.go j1 a2 a1 a0 h).mono fun e w' ⟨v, he, hv, hq⟩ => ⟨by rw [he, hv], hq⟩

/-- cachettelaw10.alive -/
def cachettelaw10_alive.M  (R : Value → World → Prop) (w : World) : Prop :=
 thenW (w.alloc (.cells #[.int .u8 97, .int .u8 98] 5)) fun bo =>
 ∃ (bb : Option Addr) (bg : Nat) (bf : Nat) (bi : World), (convert 23 23 (.slice (some (blk w.heap.size)) 2 2)).run Try.prog bo = .ok (.slice bb bg bf) bi ∧
 Calls Try.prog 9 #[.int .u32 1, .int .u32 1, .int .u32 0, .slice bb bg bf] bi fun bj bn => ∃ (a2 : Option Addr) (a1 : Nat) (af : Nat) (a9 : Int), bj = .returned (.tuple #[.slice a2 a1 af, .int .i64 a9]) ∧
 Calls Try.prog 19 #[.int .i64 4] bn fun b0 b1 => ∃ (ag : Option Addr) (az : Int), b0 = .returned (.tuple #[.pointer ag, .int .i64 az]) ∧
 Calls Try.prog 20 #[.pointer ag, .int .i64 0, .int .i64 4, .int .u32 1] b1 fun ba ao => ∃ (a6 : Option Addr) (ad : Option Addr) (ab : Nat) (aa : Nat) (a8 : Int), ba = .returned (.tuple #[.pointer a6, .slice ad ab aa, .int .i64 a8]) ∧
 thenW (ao.alloc (.cells #[.int .u8 97, .int .u8 98] 5)) fun b6 =>
 ∃ (ai : Option Addr) (al : Nat) (am : Nat) (ah : World), (convert 23 23 (.slice (some (blk ao.heap.size)) 2 2)).run Try.prog b6 = .ok (.slice ai al am) ah ∧
 Calls Try.prog 23 #[.pointer a6, .slice ai al am] ah fun b5 b2 => ∃ (a5 : Int), b5 = .returned (.int .i64 a5) ∧
 Calls Try.prog 20 #[.pointer ag, .int .i64 0, .int .i64 4, .int .u32 1] b2 fun b3 a0 => ∃ (ae : Option Addr) (a4 : Option Addr) (a3 : Nat) (ac : Nat) (a7 : Int), b3 = .returned (.tuple #[.pointer ae, .slice a4 a3 ac, .int .i64 a7]) ∧
 bif a9 == 0 then (
 bif (a1 : Int) == 1 then (
 a2.elim False fun bl =>
 0 ≤ (0 : Int) ∧ (0 : Int) < (a1 : Int) ∧
 ∃ (b9 : Option Addr) (aw : Nat) (b7 : Nat), a0.cell? (bl.add (Int.toNat 0 * 1)) = some (.slice b9 aw b7) ∧
 bif (aw : Int) == 64 then (
 a2.elim False fun bm =>
 0 ≤ (0 : Int) ∧ (0 : Int) < (a1 : Int) ∧
 ∃ (ap : Option Addr) (aj : Nat) (b8 : Nat), a0.cell? (bm.add (Int.toNat 0 * 1)) = some (.slice ap aj b8) ∧
 ap.elim False fun br =>
 0 ≤ (0 : Int) ∧ (0 : Int) < (aj : Int) ∧
 ∃ (bc : Int), a0.cell? (br.add (Int.toNat 0 * 1)) = some (.int .u8 bc) ∧
 bif bc == 197 then (
 a2.elim False fun bq =>
 0 ≤ (0 : Int) ∧ (0 : Int) < (a1 : Int) ∧
 ∃ (ar : Option Addr) (an : Nat) (ay : Nat), a0.cell? (bq.add (Int.toNat 0 * 1)) = some (.slice ar an ay) ∧
 ar.elim False fun bk =>
 0 ≤ (15 : Int) ∧ (15 : Int) < (an : Int) ∧
 ∃ (bd : Int), a0.cell? (bk.add (Int.toNat 15 * 1)) = some (.int .u8 bd) ∧
 bif bd == 2 then (
 a2.elim False fun bp =>
 0 ≤ (0 : Int) ∧ (0 : Int) < (a1 : Int) ∧
 ∃ (aq : Option Addr) (av : Nat) (b4 : Nat), a0.cell? (bp.add (Int.toNat 0 * 1)) = some (.slice aq av b4) ∧
 aq.elim False fun bt =>
 0 ≤ (17 : Int) ∧ (17 : Int) < (av : Int) ∧
 ∃ (be : Int), a0.cell? (bt.add (Int.toNat 17 * 1)) = some (.int .u8 be) ∧
 bif be == 98 then (
 bif a8 == 0 then (
 bif a5 == 0 then (
 bif a7 == 0 then (
 bif (a3 : Int) == 1 then (
 a4.elim False fun bs =>
 0 ≤ (0 : Int) ∧ (0 : Int) < (a3 : Int) ∧
 ∃ (ak : Option Addr) (ax : Nat) (au : Nat), a0.cell? (bs.add (Int.toNat 0 * 1)) = some (.slice ak ax au) ∧
 ∃ (bh : ByteArray), (convert 23 9 (.slice ak ax au)).run Try.prog a0 = .ok (.string bh) a0 ∧
 R (.bool (bh.toList == (ByteArray.mk #[97, 98]).toList)) a0) else (
 R (.bool false) a0)) else (
 R (.bool false) a0)) else (
 R (.bool false) a0)) else (
 R (.bool false) a0)) else (
 R (.bool false) a0)) else (
 R (.bool false) a0)) else (
 R (.bool false) a0)) else (
 R (.bool false) a0)) else (
 R (.bool false) a0)) else (
 R (.bool false) a0)

theorem cachettelaw10_alive.eq  (R : Value → World → Prop) (w : World) : mfunc Try.prog [] 8 [] R w = cachettelaw10_alive.M  R w := by kernel_rfl
theorem cachettelaw10_alive.ok  {R : Value → World → Prop} {w : World} (h : cachettelaw10_alive.M  R w) : Calls Try.prog 8 #[] w fun e w' => ∃ v, e = .returned v ∧ R v w' :=
  mfunc_ok follows (H := []) (args := []) (by rw [cachettelaw10_alive.eq]; exact h)

def cachettelaw10_alive.N  (R : Value → World → Prop) (w : World) : Prop :=
 ∀ (b1 : World) (q2 : Nat), Ext no w b1 → Blk b1 q2 5 [.int .u8 97, .int .u8 98] → w.heap.size ≤ q2 → q2 < b1.heap.size →
 ∃ (bl : Option Addr) (bj : Nat) (bn : Nat) (bh : World), (convert 23 23 (.slice (some (blk q2)) 2 2)).run Try.prog b1 = .ok (.slice bl bj bn) bh ∧
 Calls Try.prog 9 #[.int .u32 1, .int .u32 1, .int .u32 0, .slice bl bj bn] bh fun bq br => ∃ (a8 : Option Addr) (a1 : Nat) (ag : Nat) (a7 : Int), bq = .returned (.tuple #[.slice a8 a1 ag, .int .i64 a7]) ∧
 Calls Try.prog 19 #[.int .i64 4] br fun b8 b6 => ∃ (ah : Option Addr) (b0 : Int), b8 = .returned (.tuple #[.pointer ah, .int .i64 b0]) ∧
 Calls Try.prog 20 #[.pointer ah, .int .i64 0, .int .i64 4, .int .u32 1] b6 fun b9 av => ∃ (a9 : Option Addr) (aa : Option Addr) (ab : Nat) (ac : Nat) (a4 : Int), b9 = .returned (.tuple #[.pointer a9, .slice aa ab ac, .int .i64 a4]) ∧
 ∀ (af : World) (b2 : Nat), Ext no av af → Blk af b2 5 [.int .u8 97, .int .u8 98] → av.heap.size ≤ b2 → b2 < af.heap.size →
 ∃ (ar : Option Addr) (ay : Nat) (ax : Nat) (al : World), (convert 23 23 (.slice (some (blk b2)) 2 2)).run Try.prog af = .ok (.slice ar ay ax) al ∧
 Calls Try.prog 23 #[.pointer a9, .slice ar ay ax] al fun bd ba => ∃ (a3 : Int), bd = .returned (.int .i64 a3) ∧
 Calls Try.prog 20 #[.pointer ah, .int .i64 0, .int .i64 4, .int .u32 1] ba fun b5 a0 => ∃ (ae : Option Addr) (a6 : Option Addr) (a2 : Nat) (ad : Nat) (a5 : Int), b5 = .returned (.tuple #[.pointer ae, .slice a6 a2 ad, .int .i64 a5]) ∧
 (a7 = 0 →
 ((a1 : Int) = 1 →
 ∃ ap : Addr, a8 = some ap ∧
 (0 : Int) < (a1 : Int) ∧
 ∃ (b4 : Option Addr) (ai : Nat) (bb : Nat), a0.cell? (ap.add (Int.toNat 0 * 1)) = some (.slice b4 ai bb) ∧
 ((ai : Int) = 64 →
 (0 : Int) < (a1 : Int) ∧
 ∃ (au : Option Addr) (ak : Nat) (bc : Nat), a0.cell? (ap.add (Int.toNat 0 * 1)) = some (.slice au ak bc) ∧
 ∃ bi : Addr, au = some bi ∧
 (0 : Int) < (ak : Int) ∧
 ∃ (b3 : Int), a0.cell? (bi.add (Int.toNat 0 * 1)) = some (.int .u8 b3) ∧
 (b3 = 197 →
 (0 : Int) < (a1 : Int) ∧
 ∃ (am : Option Addr) (az : Nat) (be : Nat), a0.cell? (ap.add (Int.toNat 0 * 1)) = some (.slice am az be) ∧
 ∃ bp : Addr, am = some bp ∧
 (15 : Int) < (az : Int) ∧
 ∃ (bg : Int), a0.cell? (bp.add (Int.toNat 15 * 1)) = some (.int .u8 bg) ∧
 (bg = 2 →
 (0 : Int) < (a1 : Int) ∧
 ∃ (ao : Option Addr) (an : Nat) (b7 : Nat), a0.cell? (ap.add (Int.toNat 0 * 1)) = some (.slice ao an b7) ∧
 ∃ bo : Addr, ao = some bo ∧
 (17 : Int) < (an : Int) ∧
 ∃ (bf : Int), a0.cell? (bo.add (Int.toNat 17 * 1)) = some (.int .u8 bf) ∧
 (bf = 98 →
 (a4 = 0 →
 (a3 = 0 →
 (a5 = 0 →
 ((a2 : Int) = 1 →
 ∃ bk : Addr, a6 = some bk ∧
 (0 : Int) < (a2 : Int) ∧
 ∃ (aj : Option Addr) (aw : Nat) (aq : Nat), a0.cell? (bk.add (Int.toNat 0 * 1)) = some (.slice aj aw aq) ∧
 ∃ (bm : ByteArray), (convert 23 9 (.slice aj aw aq)).run Try.prog a0 = .ok (.string bm) a0 ∧
 R (.bool (bm.toList == (ByteArray.mk #[97, 98]).toList)) a0) ∧
 ((a2 : Int) ≠ 1 →
 R (.bool false) a0)) ∧
 (a5 ≠ 0 →
 R (.bool false) a0)) ∧
 (a3 ≠ 0 →
 R (.bool false) a0)) ∧
 (a4 ≠ 0 →
 R (.bool false) a0)) ∧
 (bf ≠ 98 →
 R (.bool false) a0)) ∧
 (bg ≠ 2 →
 R (.bool false) a0)) ∧
 (b3 ≠ 197 →
 R (.bool false) a0)) ∧
 ((ai : Int) ≠ 64 →
 R (.bool false) a0)) ∧
 ((a1 : Int) ≠ 1 →
 R (.bool false) a0)) ∧
 (a7 ≠ 0 →
 R (.bool false) a0)

theorem cachettelaw10_alive.up  {R : Value → World → Prop} {w : World} (h : cachettelaw10_alive.N  R w) : cachettelaw10_alive.M  R w := by
  unfold cachettelaw10_alive.M
  unfold cachettelaw10_alive.N at h
  refine thenW_in fun c1 e1 => ?_
  have h := h c1 w.heap.size ((Ext.refl no w).x_alloc e1) (Blk.of_new e1) ((Ext.refl no w)).size (size_lt_alloc e1)
  obtain ⟨c5, bu, c6, c0, hr, h⟩ := h
  refine ⟨c5, bu, c6, c0, hr, ?_⟩
  refine h.mono fun cd cc h => ?_
  obtain ⟨af, ab, aa, ah, he, h⟩ := h
  refine ⟨af, ab, aa, ah, he, ?_⟩
  refine h.mono fun bv c2 h => ?_
  obtain ⟨al, ai, he, h⟩ := h
  refine ⟨al, ai, he, ?_⟩
  refine h.mono fun bw ag h => ?_
  obtain ⟨a8, a5, a1, a2, ae, he, h⟩ := h
  refine ⟨a8, a5, a1, a2, ae, he, ?_⟩
  refine thenW_in fun bt ax => ?_
  have h := h bt ag.heap.size ((Ext.refl no ag).x_alloc ax) (Blk.of_new ax) ((Ext.refl no ag)).size (size_lt_alloc ax)
  obtain ⟨aq, be, bc, b0, hr, h⟩ := h
  refine ⟨aq, be, bc, b0, hr, ?_⟩
  refine h.mono fun bx c8 h => ?_
  obtain ⟨a3, he, h⟩ := h
  refine ⟨a3, he, ?_⟩
  refine h.mono fun c7 c9 h => ?_
  obtain ⟨ac, a6, a7, a4, a9, he, h⟩ := h
  refine ⟨ac, a6, a7, a4, a9, he, ?_⟩
  refine bif_of (fun b4 => ?_) (fun b4 => ?_)
  · have h := h.1 (beq_t b4)
    refine bif_of (fun bb => ?_) (fun bb => ?_)
    · have h := h.1 (beq_t bb)
      obtain ⟨cb, ad, h⟩ := h
      refine elim_some ad ?_
      obtain ⟨a0, h⟩ := h
      refine ⟨by decide, a0, ?_⟩
      obtain ⟨ak, b5, ao, av, h⟩ := h
      refine ⟨ak, b5, ao, av, ?_⟩
      refine bif_of (fun b6 => ?_) (fun b6 => ?_)
      · have h := h.1 (beq_t b6)
        refine elim_some ad ?_
        obtain ⟨a0, h⟩ := h
        refine ⟨by decide, a0, ?_⟩
        obtain ⟨ar, bk, b9, bg, h⟩ := h
        refine ⟨ar, bk, b9, bg, ?_⟩
        obtain ⟨cf, aw, h⟩ := h
        refine elim_some aw ?_
        obtain ⟨a0, h⟩ := h
        refine ⟨by decide, a0, ?_⟩
        obtain ⟨c4, bm, h⟩ := h
        refine ⟨c4, bm, ?_⟩
        refine bif_of (fun bq => ?_) (fun bq => ?_)
        · have h := h.1 (beq_t bq)
          refine elim_some ad ?_
          obtain ⟨a0, h⟩ := h
          refine ⟨by decide, a0, ?_⟩
          obtain ⟨b8, bh, bs, bl, h⟩ := h
          refine ⟨b8, bh, bs, bl, ?_⟩
          obtain ⟨ce, an, h⟩ := h
          refine elim_some an ?_
          obtain ⟨a0, h⟩ := h
          refine ⟨by decide, a0, ?_⟩
          obtain ⟨ca, az, h⟩ := h
          refine ⟨ca, az, ?_⟩
          refine bif_of (fun bd => ?_) (fun bd => ?_)
          · have h := h.1 (beq_t bd)
            refine elim_some ad ?_
            obtain ⟨a0, h⟩ := h
            refine ⟨by decide, a0, ?_⟩
            obtain ⟨ap, bo, bn, bp, h⟩ := h
            refine ⟨ap, bo, bn, bp, ?_⟩
            obtain ⟨ch, aj, h⟩ := h
            refine elim_some aj ?_
            obtain ⟨a0, h⟩ := h
            refine ⟨by decide, a0, ?_⟩
            obtain ⟨bz, am, h⟩ := h
            refine ⟨bz, am, ?_⟩
            refine bif_of (fun b1 => ?_) (fun b1 => ?_)
            · have h := h.1 (beq_t b1)
              refine bif_of (fun bf => ?_) (fun bf => ?_)
              · have h := h.1 (beq_t bf)
                refine bif_of (fun au => ?_) (fun au => ?_)
                · have h := h.1 (beq_t au)
                  refine bif_of (fun bj => ?_) (fun bj => ?_)
                  · have h := h.1 (beq_t bj)
                    refine bif_of (fun b7 => ?_) (fun b7 => ?_)
                    · have h := h.1 (beq_t b7)
                      obtain ⟨cg, ay, h⟩ := h
                      refine elim_some ay ?_
                      obtain ⟨a0, h⟩ := h
                      refine ⟨by decide, a0, ?_⟩
                      obtain ⟨bi, br, ba, b2, h⟩ := h
                      refine ⟨bi, br, ba, b2, ?_⟩
                      obtain ⟨c3, b3, h⟩ := h
                      refine ⟨c3, b3, ?_⟩
                      exact h
                    · have h := h.2 (beq_f b7)
                      exact h
                  · have h := h.2 (beq_f bj)
                    exact h
                · have h := h.2 (beq_f au)
                  exact h
              · have h := h.2 (beq_f bf)
                exact h
            · have h := h.2 (beq_f b1)
              exact h
          · have h := h.2 (beq_f bd)
            exact h
        · have h := h.2 (beq_f bq)
          exact h
      · have h := h.2 (beq_f b6)
        exact h
    · have h := h.2 (beq_f bb)
      exact h
  · have h := h.2 (beq_f b4)
    exact h

theorem cachettelaw10_alive.go  {R : Value → World → Prop} {w : World} (h : cachettelaw10_alive.N  R w) : Calls Try.prog 8 #[] w fun e w' => ∃ v, e = .returned v ∧ R v w' := cachettelaw10_alive.ok  (cachettelaw10_alive.up  h)
theorem cachettelaw10_alive.run  {V : Value} {Q : World → Prop} {w : World} (h : cachettelaw10_alive.N  (fun v w' => v = V ∧ Q w') w) : Calls Try.prog 8 #[] w (Ret V Q) := (cachettelaw10_alive.go  h).mono fun e w' ⟨v, he, hv, hq⟩ => ⟨by rw [he, hv], hq⟩

end Go.Proofs.Ytgcjipbahfpopaa

/- Disk: the statements' small functions: Sector, light, what is given, the chapter's example. -/
set_option linter.unusedVariables false
set_option linter.unusedSimpArgs false
set_option maxRecDepth 20000
set_option maxHeartbeats 4000000
namespace Go.Proofs.Ytgcjipbahfpopaa
open Go Go.Mx Go.Proofs
open W (OwnB)
section
variable {K : Nat → Prop} {w w' w1 : World} {o o' o1 : Own} {g g2 m : Nat} {d : DS} {i : Int} {a : Option Addr} {c : Nat}
end
end Go.Proofs.Ytgcjipbahfpopaa

/- Disk: the chapter's example; DiskArms. -/
set_option linter.unusedVariables false
set_option linter.unusedSimpArgs false
set_option maxRecDepth 20000
set_option maxHeartbeats 4000000
namespace Go.Proofs.Ytgcjipbahfpopaa
open Go Go.Mx Go.Proofs
open W (OwnB)
section
variable {K : Nat → Prop} {w w' w1 : World} {o o' o1 : Own} {g g2 m : Nat} {d : DS} {i : Int} {a : Option Addr} {c : Nat}
theorem DS.ok.up {n : Nat} (h : d.ok m) (hm : m ≤ n) : d.ok n := ⟨h.n1, h.n2, h.at_, by have := h.pl; omega, by have := h.cl; omega, h.left⟩
theorem newDS_ok {n : Nat} (h1 : 1 ≤ n) (h2 : n ≤ 400) : (newDS n).ok 0 := by
  have hn : (newDS n).good.length = n := by unfold newDS; simp
  exact ⟨by omega, by omega, fun x hx => (by cases hx), Nat.le_refl _, ⟨Int.le_refl _, Int.le_refl _⟩, by show (0 : Int) ≤ 0; decide, by show (0 : Int) < _; decide⟩
theorem syncD_ok (h : d.ok m) : (syncD d).1.ok m := by
  unfold syncD
  split
  · exact h
  · exact settleD_ok h _
theorem writeD_ok (h : d.ok m) (i : Int) (b : List UInt8) : (writeD d i b).1.ok (m + 1) := by
  have hpl := h.pl
  have hcl := h.cl
  have hl := h.left
  have hu := h.up (Nat.le_succ m)
  have key : ∀ (s : Sec), hasD d i = 0 → ∀ x ∈ d.pend ++ [⟨i, s⟩], 0 ≤ x.i ∧ x.i < (d.good.length : Int) := fun s h0 x hx => by
    rcases List.mem_append.1 hx with hx | hx
    · exact h.at_ x hx
    · simp at hx; subst hx; exact (hasD_0 h0).2
  unfold writeD
  split
  · rename_i h0
    split
    · split
      · split
        · exact ⟨h.n1, h.n2, key _ h0, by show (d.pend ++ [_]).length ≤ _; rw [List.length_append]; show d.pend.length + 1 ≤ m + 1; omega, by show 0 ≤ d.count ∧ d.count ≤ ((m + 1 : Nat) : Int); omega, hl⟩
        · exact ⟨h.n1, h.n2, key _ h0, by show (d.pend ++ [_]).length ≤ _; rw [List.length_append]; show d.pend.length + 1 ≤ m + 1; omega, by show 0 ≤ d.count + 1 ∧ d.count + 1 ≤ ((m + 1 : Nat) : Int); omega, by show 0 ≤ d.left - 1 ∧ d.left - 1 < 9223372036854775808; omega⟩
      · exact ⟨h.n1, h.n2, key _ h0, by show (d.pend ++ [_]).length ≤ _; rw [List.length_append]; show d.pend.length + 1 ≤ m + 1; omega, by show 0 ≤ d.count + 1 ∧ d.count + 1 ≤ ((m + 1 : Nat) : Int); omega, hl⟩
    · exact hu
  · exact hu
end
end Go.Proofs.Ytgcjipbahfpopaa

/- Journal: a journal on a disk. -/
set_option linter.unusedVariables false
set_option linter.unusedSimpArgs false
set_option maxRecDepth 20000
set_option maxHeartbeats 2000000
namespace Go.Proofs.Ytgcjipbahfpopaa
open Go Go.Mx Go.Proofs
open W (OwnB GivesW)
def readsD (d : DS) (base size : Nat) : List (List UInt8) := (List.range size).map fun i : Nat => (readD d ((base : Int) + (i : Int))).1
def stretchK (d : DS) (base size : Int) (gen : Nat) : List (List UInt8) × Int :=
  if gen = 0 ∨ base < 0 ∨ size < 1 ∨ base > d.good.length ∨ size > (d.good.length : Int) - base then ([], 1) else if d.down then ([], 19) else (readsD d base.toNat size.toNat, 0)
structure JS where
  base : Int
  size : Int
  gen : Nat
  round : Nat
  tail : Int
  seq : Int
  dead : Bool
def openK (d : DS) (base size : Int) (gen : Nat) : Option JS × List (List UInt8) × Int :=
  if (stretchK d base size gen).2 ≠ 0 then (none, [], (stretchK d base size gen).2)
  else if (scanK (stretchK d base size gen).1 gen).2 = 4294967295 then (none, [], 2)
  else (some ⟨base, size, gen, (scanK (stretchK d base size gen).1 gen).2 + 1, (scanK (stretchK d base size gen).1 gen).1.2, (scanK (stretchK d base size gen).1 gen).1.1.length, false⟩, (scanK (stretchK d base size gen).1 gen).1.1, 0)
def JS.V (J : JS) (g : Nat) : List Value := [.pointer (some (blk g)), .int .i64 J.base, .int .i64 J.size, .int .u32 J.gen, .int .u32 J.round, .int .i64 J.tail, .int .i64 J.seq, .bool J.dead]
structure JG (w : World) (o : Own) (q g : Nat) (J : JS) : Prop where
  mem : Blk w q 82 (J.V g)
  tg : o q = some q
def writesD : DS → Int → List (List UInt8) → DS × Int
  | d, _, [] => (d, 0)
  | d, i, x :: r => if (writeD d i x).2 ≠ 0 then writeD d i x else writesD (writeD d i x).1 (i + 1) r
def appendF (J : JS) (b : List UInt8) : List (List UInt8) := (frameK J.gen J.round J.seq.toNat b).1
def appendJ (d : DS) (J : JS) (b : List UInt8) : (DS × JS) × Int :=
  if partsN b.length = 0 then ((d, J), 3)
  else if J.dead then ((d, J), 19)
  else if (partsN b.length : Int) > J.size - J.tail then ((d, J), 18)
  else if (writesD d (J.base + J.tail) (appendF J b)).2 ≠ 0 then (((writesD d (J.base + J.tail) (appendF J b)).1, { J with dead := true }), (writesD d (J.base + J.tail) (appendF J b)).2)
  else if (syncD (writesD d (J.base + J.tail) (appendF J b)).1).2 ≠ 0 then (((syncD (writesD d (J.base + J.tail) (appendF J b)).1).1, { J with dead := true }), (syncD (writesD d (J.base + J.tail) (appendF J b)).1).2)
  else (((syncD (writesD d (J.base + J.tail) (appendF J b)).1).1, { J with tail := J.tail + partsN b.length, seq := J.seq + 1 }), 0)
structure JS.ok (J : JS) : Prop where
  base : 0 ≤ J.base ∧ J.base ≤ 1000000
  size : 0 ≤ J.size ∧ J.size ≤ 1000000
  gen : J.gen < 4294967296
  round : J.round < 4294967296
  tail : 0 ≤ J.tail ∧ J.tail ≤ 1000000
  seq : 0 ≤ J.seq ∧ J.seq ≤ 1000000
section
variable {w w' w1 : World} {o o' o1 : Own} {q g n N m : Nat} {K : Nat → Prop} {b s : List UInt8} {a : Option Addr} {c : Nat} {l : List BS} {d : DS} {J : JS}
theorem JG.step (h : JG w o q g J) (s : Step K w o w' o') (hk : ¬ K q) : JG w' o' q g J := ⟨s.blk h.mem h.tg hk, by rw [s.own h.mem.lt]; exact h.tg⟩
theorem readsD_len (d : DS) (base size : Nat) : (readsD d base size).length = size := by unfold readsD; simp
theorem stretch_loop (h : DG w o g d) (ok : Tags w o) (hd : d.ok m) (hm : m < 100000) {base size : Int} (hb0 : 0 ≤ base) (hb1 : base ≤ 1000000) (hs0 : 0 ≤ size) (hs1 : size ≤ 100000) {End : Value → World → Prop}
    (hE : ∀ w2 o2 la lc (l : List BS), Step no w o w2 o2 → l.map BS.bs = readsD d base.toNat size.toNat → BsRow w2 o2 la lc l → End (.slice la l.length lc) w2) :
    ∃ (I1 : Nat → List Value → World → Prop) (m71 : Nat), I1 m71 [.slice none 0 0, .int .i64 0] w ∧ ∀ (m72 : Nat) (ww73 : World) (la : Option Addr) (ln : Nat) (lc : Nat) (t : Int), I1 m72 [.slice la ln lc, .int .i64 t] ww73 →
      (t < size →
        (-9223372036854775808 : Int) ≤ (base + t) ∧ (base + t) < 9223372036854775808 ∧
        Calls Try.prog 50 #[.pointer (some (blk g)), .int .i64 (base + t)] ww73 fun ee ww78 => ∃ (ra : Option Addr) (rn : Nat) (rc : Nat) (rk : Int), ee = .returned (.tuple #[.slice ra rn rc, .int .i64 rk]) ∧
        ∀ (ww79 : World) (q80 : Nat), Ext no ww78 ww79 → Blk ww79 q80 23 [.slice ra rn rc] → ww78.heap.size ≤ q80 → q80 < ww79.heap.size →
        ∃ (a81a : Option Addr) (a81n : Nat) (a81c : Nat) (ww82 : World), (Builtin.append_ #[25, 25] 25 #[.slice la ln lc, .slice (some (blk q80)) 1 1]).run Try.prog ww79 = .ok (.slice a81a a81n a81c) ww82 ∧
        (-9223372036854775808 : Int) ≤ (t + 1) ∧ (t + 1) < 9223372036854775808 ∧
        ∃ m83, m83 < m72 ∧ I1 m83 [.slice a81a a81n a81c, .int .i64 (t + 1)] ww82) ∧
      (size ≤ t → End (.slice la ln lc) ww73) := by
  refine ⟨fun m vs w1 => ∃ (t : Nat) (o1 : Own) (la : Option Addr) (lc : Nat) (l : List BS), vs = [.slice la l.length lc, .int .i64 t] ∧ m + t = size.toNat ∧ Step no w o w1 o1 ∧ BsL w.heap.size w1 o1 la lc l ∧ l.map BS.bs = readsD d base.toNat t, size.toNat, ⟨0, o, none, 0, [], rfl, rfl, Step.refl _ ok, BsL.nil _ _ _, rfl⟩, ?_⟩
  rintro k w7 la ln lc i ⟨t, o7, la', lc', l, hi, hk, s7, L7, hmap⟩
  simp only [List.cons.injEq, Value.slice.injEq, Value.int.injEq, true_and, and_true] at hi
  obtain ⟨⟨rfl, rfl, rfl⟩, rfl⟩ := hi
  have hll : l.length = t := by have := congrArg List.length hmap; rwa [List.length_map, readsD_len] at this
  refine ⟨fun ht => ⟨by omega, by omega, ?_⟩, fun ht => ?_⟩
  · refine (dRead_spec (h.step s7 id) s7.ok (base + t) (by have := hd.pl; omega)).mono fun u w11 ⟨ra, rn, rc, o11, he, hn, hnc, s11, hR1, hR0⟩ => ⟨ra, rn, rc, _, he, fun w12 q12 X12 hb hq hq' => ?_⟩
    have X11 : Ext no w7 w11 := s11.ext.mono fun b ⟨_, _, h⟩ _ => h
    have t11 := Step.of_no X11 s7.ok
    have okx : BSok w11 (grow w7 o7) ⟨ra, rc, (readD d (base + t)).1⟩ := by
      by_cases hz : (readD d (base + t)).2 = 0
      · obtain ⟨q, tt, e, hbk, hl, hq, _⟩ := hR0 hz
        subst e
        refine ⟨Row.fresh ?_ fun ad ha => by cases ha; exact hq, by rw [← hn]; exact hnc⟩
        have := (RowAt.of_blk hbk).take (bytesV (readD d (base + t)).1).length
        rwa [List.take_left] at this
      · obtain ⟨e1, e2⟩ := hR1 hz
        rw [e2]
        exact ⟨Row.nil _ _ _, Nat.zero_le _⟩
    have l7 := s7.size
    subst hn
    obtain ⟨a', c', w39, o39, hr, s39, L39⟩ := (L7.step t11 fun _ h => h.elim).push t11.ok (by omega) okx X12 hb hq hq' (by have := X11.size; omega)
    refine ⟨a', _, c', w39, hr, by omega, by omega, k - 1, by omega, t + 1, o39, a', c', _, rfl, by omega, (s7.trans t11).trans' s39 fun i hi => .inr hi, L39, ?_⟩
    rw [List.map_append, hmap]
    unfold readsD
    rw [List.range_succ, List.map_append]
    simp only [List.map_cons, List.map_nil]
    congr 3
    rw [show ((base.toNat : Nat) : Int) = base by omega]
  · have htt : t = size.toNat := by omega
    exact hE w7 _ la lc l (Step.of_no (s7.ext.mono fun b ⟨_, _, h⟩ _ => h) ok) (by rw [← htt]; exact hmap) (L7.give s7 (Nat.le_refl _))
theorem stretch_spec (h : DG w o g d) (ok : Tags w o) (hd : d.ok m) (hm : m < 100000) (base size : Int) (gen : Nat) :
    Calls Try.prog 42 #[.pointer (some (blk g)), .int .i64 base, .int .i64 size, .int .u32 gen] w (fun z w' => ∃ o' la lc, ∃ l : List BS, z = .returned (.tuple #[.slice la l.length lc, .int .i64 (stretchK d base size gen).2]) ∧ Step no w o w' o' ∧ l.map BS.bs = (stretchK d base size gen).1 ∧ BsRow w' o' la lc l) := by
  refine (journal_stretch.go _ _ _ _ (R := fun z w' => ∃ o' la lc, ∃ l : List BS, z = (.tuple #[.slice la l.length lc, .int .i64 (stretchK d base size gen).2]) ∧ Step no w o w' o' ∧ l.map BS.bs = (stretchK d base size gen).1 ∧ BsRow w' o' la lc l) ?_).mono fun z w' ⟨u, he, o', la, lc, l, hu, hw⟩ => ⟨o', la, lc, l, by rw [he, hu], hw⟩
  unfold journal_stretch.N
  refine (Sectors_spec h).mono fun u w7 ⟨he, hw⟩ => ⟨_, he, fun h => (by cases h), fun _ => ?_⟩
  subst hw
  have n2 := hd.n2
  have leaf : ∀ (k : Int), stretchK d base size gen = ([], k) → ∃ o' la lc, ∃ l : List BS, Value.tuple #[.slice none 0 0, .int .i64 k] = (.tuple #[.slice la l.length lc, .int .i64 (stretchK d base size gen).2]) ∧ Step no w7 o w7 o' ∧ l.map BS.bs = (stretchK d base size gen).1 ∧ BsRow w7 o' la lc l := fun k hk => ⟨o, none, 0, [], by rw [hk]; rfl, Step.refl _ ok, by rw [hk]; rfl, BsRow.nil _ _⟩
  have bad : (gen = 0 ∨ base < 0 ∨ size < 1 ∨ base > d.good.length ∨ size > (d.good.length : Int) - base) → _ := fun hb => leaf 1 (by unfold stretchK; rw [if_pos hb])
  refine ⟨fun h1 => bad (by omega), fun h1 => ⟨fun h2 => bad (by omega), fun h2 => ⟨fun h3 => bad (by omega), fun h3 => ⟨fun h4 => bad (by omega), fun h4 => ⟨by omega, by omega, fun h5 => bad (by omega), fun h5 => ?_⟩⟩⟩⟩⟩
  have hgood : ¬ (gen = 0 ∨ base < 0 ∨ size < 1 ∨ base > d.good.length ∨ size > (d.good.length : Int) - base) := by omega
  refine (Down_spec h).mono fun u w67 ⟨he, hw⟩ => ⟨_, he, fun hdn => ?_, fun hdn => ?_⟩
  · subst hw
    exact leaf 19 (by unfold stretchK; rw [if_neg hgood, if_pos hdn])
  subst hw
  have hK : stretchK d base size gen = (readsD d base.toNat size.toNat, 0) := by unfold stretchK; rw [if_neg hgood, if_neg (by rw [hdn]; decide)]
  exact stretch_loop (End := fun v w2 => ∃ o' la lc, ∃ l : List BS, Value.tuple #[v, .int .i64 0] = (.tuple #[.slice la l.length lc, .int .i64 (stretchK d base size gen).2]) ∧ Step no w67 o w2 o' ∧ l.map BS.bs = (stretchK d base size gen).1 ∧ BsRow w2 o' la lc l) h ok hd hm (by omega) (by omega) (by omega) (by omega) fun w2 o2 la lc l s2 hmap hr => ⟨o2, la, lc, l, by rw [hK], s2, by rw [hK]; exact hmap, hr⟩
theorem stretchK_len (d : DS) (base size : Int) (gen : Nat) (h : d.good.length ≤ 400) : (stretchK d base size gen).1.length ≤ 400 := by
  unfold stretchK
  split
  · exact Nat.zero_le _
  · split
    · exact Nat.zero_le _
    · rw [readsD_len]; omega
theorem Open_spec (h : DG w o g d) (ok : Tags w o) (hd : d.ok m) (hm : m < 100000) (base size : Int) (gen : Nat) :
    Calls Try.prog 20 #[.pointer (some (blk g)), .int .i64 base, .int .i64 size, .int .u32 gen] w (fun z w' => ∃ o' jp la lc, ∃ l : List BS, z = .returned (.tuple #[.pointer jp, .slice la l.length lc, .int .i64 (openK d base size gen).2.2]) ∧ Step no w o w' o' ∧ l.map BS.bs = (openK d base size gen).2.1 ∧ BsRow w' o' la lc l ∧
      ((openK d base size gen).1 = none → jp = none) ∧ (∀ J, (openK d base size gen).1 = some J → ∃ q, jp = some (blk q) ∧ w.heap.size ≤ q ∧ JG w' o' q g J)) := by
  refine (journal_Open.go _ _ _ _ (R := fun z w' => ∃ o' jp la lc, ∃ l : List BS, z = (.tuple #[.pointer jp, .slice la l.length lc, .int .i64 (openK d base size gen).2.2]) ∧ Step no w o w' o' ∧ l.map BS.bs = (openK d base size gen).2.1 ∧ BsRow w' o' la lc l ∧
      ((openK d base size gen).1 = none → jp = none) ∧ (∀ J, (openK d base size gen).1 = some J → ∃ q, jp = some (blk q) ∧ w.heap.size ≤ q ∧ JG w' o' q g J)) ?_).mono fun z w' ⟨u, he, o', jp, la, lc, l, hu, hw⟩ => ⟨o', jp, la, lc, l, by rw [he, hu], hw⟩
  unfold journal_Open.N
  have hlen := stretchK_len d base size gen hd.n2
  refine (stretch_spec h ok hd hm base size gen).mono fun u w8 ⟨o8, la, lc, l, he, s8, hmap, hr⟩ => ⟨_, _, _, _, he, fun hne => ?_, fun heq => ?_⟩
  · have hK : openK d base size gen = (none, [], (stretchK d base size gen).2) := by unfold openK; rw [if_pos hne]
    rw [hK]
    exact ⟨o8, none, none, 0, [], rfl, s8, rfl, BsRow.nil _ _, fun _ => rfl, fun J h => by cases h⟩
  · have hll : l.length ≤ 400 := by have := congrArg List.length hmap; rw [List.length_map] at this; omega
    refine (scan_spec s8.ok hr.at (by omega) gen).mono fun u w14 ⟨o14, ra, rc, r, he, s14, hrm, hrr⟩ => ⟨_, _, _, _, _, he, ?_⟩
    rw [hmap] at hrm ⊢
    have hrl := roundOf_lt gen (stretchK d base size gen).1
    have hrr2 : (scanK (stretchK d base size gen).1 gen).2 = roundOf gen (stretchK d base size gen).1 := rfl
    have hwrap : ¬ (scanK (stretchK d base size gen).1 gen).2 = 4294967295 → IntKind.u32.wrap (((scanK (stretchK d base size gen).1 gen).2 : Int) + 1) = (((scanK (stretchK d base size gen).1 gen).2 + 1 : Nat) : Int) := fun hn => by rw [IntKind.wrap_u32]; omega
    have hwrap0 : (scanK (stretchK d base size gen).1 gen).2 = 4294967295 → IntKind.u32.wrap (((scanK (stretchK d base size gen).1 gen).2 : Int) + 1) = 0 := fun hn => by rw [hn]; rfl
    have s814 := s8.trans s14
    refine ⟨fun hz => ?_, fun hz w16 q17 X16 hb hq hq' => ?_⟩
    · by_cases h0 : (scanK (stretchK d base size gen).1 gen).2 = 4294967295
      · have hK : openK d base size gen = (none, [], 2) := by unfold openK; rw [if_neg (not_not_intro heq), if_pos h0]
        rw [hK]
        exact ⟨o14, none, none, 0, [], rfl, s814, rfl, BsRow.nil _ _, fun _ => rfl, fun J h => by cases h⟩
      · rw [hwrap h0] at hz; omega
    · have h0 : ¬ (scanK (stretchK d base size gen).1 gen).2 = 4294967295 := fun h0 => hz (hwrap0 h0)
      rw [hwrap h0] at hb
      have hK : openK d base size gen = (some ⟨base, size, gen, (scanK (stretchK d base size gen).1 gen).2 + 1, (scanK (stretchK d base size gen).1 gen).1.2, (scanK (stretchK d base size gen).1 gen).1.1.length, false⟩, (scanK (stretchK d base size gen).1 gen).1.1, 0) := by unfold openK; rw [if_neg (not_not_intro heq), if_neg h0]
      rw [hK]
      have s16 := (Step.of_no X16 s14.ok).tag hq hq'
      have l8 := s814.size
      have hrlen : r.length = (scanK (stretchK d base size gen).1 gen).1.1.length := by rw [← hrm, List.length_map]
      rw [hrlen] at hb
      refine ⟨_, some (blk q17), ra, rc, r, rfl, s814.trans s16, hrm, hrr.step s16, fun h => (by cases h), fun J hJ => ?_⟩
      cases hJ
      exact ⟨q17, rfl, by omega, hb, tag_self⟩
end
end Go.Proofs.Ytgcjipbahfpopaa

/- Journal: Append, and the small ones; the chapter's example. -/
set_option linter.unusedVariables false
set_option linter.unusedSimpArgs false
set_option maxRecDepth 20000
set_option maxHeartbeats 2000000
namespace Go.Proofs.Ytgcjipbahfpopaa
open Go Go.Mx Go.Proofs
open W (OwnB GivesW)
section
variable {w w' w1 : World} {o o' o1 : Own} {q g n N m : Nat} {K : Nat → Prop} {b s : List UInt8} {a : Option Addr} {c : Nat} {l : List BS} {d : DS} {J : JS}
theorem writesD_ok : ∀ {f : List (List UInt8)} {d : DS} {m : Nat} {i : Int}, d.ok m → (writesD d i f).1.ok (m + f.length)
  | [], d, m, i, h => h
  | x :: r, d, m, i, h => by
    have hw := writeD_ok h i x
    unfold writesD
    split
    · exact hw.up (by rw [List.length_cons]; omega)
    · have := writesD_ok (f := r) (i := i + 1) hw
      rw [List.length_cons]
      exact this.up (by omega)
theorem appendF_len (J : JS) (b : List UInt8) : (appendF J b).length ≤ 84 := by
  unfold appendF frameK
  split
  · exact Nat.zero_le _
  · split
    · exact Nat.zero_le _
    · show (frameL _ _ _ _).length ≤ 84
      unfold frameL
      rw [List.length_map, List.length_range]
      exact partsN_le _
theorem appendJ_ok (h : d.ok m) (J : JS) (b : List UInt8) : (appendJ d J b).1.1.ok (m + 84) := by
  have hu := h.up (Nat.le_add_right m 84)
  have hf := appendF_len J b
  have hw : (writesD d (J.base + J.tail) (appendF J b)).1.ok (m + 84) := (writesD_ok h).up (by omega)
  unfold appendJ
  repeat' split
  all_goals first | exact hu | exact hw | exact syncD_ok hw
theorem kill_spec (h : JG w o q g J) (hd : DG w o g d) (ok : Tags w o) (hqg : q ≠ g) {Φ : World → Prop}
    (hΦ : ∀ w2 o2, Step (fun i => i = q) w o w2 o2 → JG w2 o2 q g { J with dead := true } → DG w2 o2 g d → Φ w2) :
    canStore w (((blk q).add 7).add 0) ∧ thenW (w.setCell (((blk q).add 7).add 0) (.bool true)) fun w2 => Φ w2 := by
  have hadd : ((blk q).add 7).add 0 = (blk q).add 7 := by rw [add_add]
  rw [hadd]
  refine ⟨h.mem.cana (i := 7) rfl, thenW_in fun w2 e2 => ?_⟩
  have X : Ext (fun b => b = q) w w2 := (Ext.refl (fun b => b = q) w).x_set (q := q) (i := 7) rfl (.inl rfl) e2
  obtain ⟨o2, s2⟩ := Step.store1 X ok h.tg
  exact hΦ w2 o2 s2 ⟨h.mem.seti 7 rfl e2, by rw [s2.own h.mem.lt]; exact h.tg⟩ (hd.step s2 (fun e => hqg e.symm))
theorem Append_spec (h : JG w o q g J) (hD : DG w o g d) (ok : Tags w o) (hqg : q ≠ g) (hd : d.ok m) (hm : m + 100 < 100000) (hJ : J.ok) (hb : RowAt w a (bytesV b)) (hc : b.length ≤ c) (hbl : b.length < 1000000) :
    Calls Try.prog 23 #[.pointer (some (blk q)), .slice a b.length c] w (Ret (.int .i64 (appendJ d J b).2) fun w' => ∃ o', Step (fun i => i = q ∨ i = g) w o w' o' ∧ JG w' o' q g (appendJ d J b).1.2 ∧ DG w' o' g (appendJ d J b).1.1) := by
  refine journal_Journal_Append.run _ _ _ _ ?_
  unfold journal_Journal_Append.N
  rw [parts_F, partsI_nat]
  obtain ⟨⟨hb0, hb1⟩, ⟨hs0, hs1⟩, hgen, hrd, ⟨ht0, ht1⟩, ⟨hq0, hq1⟩⟩ := hJ
  have h84 := partsN_le b.length
  have leaf : ∀ (k : Int), appendJ d J b = ((d, J), k) → ∀ w2, Ext no w w2 → Value.int .i64 k = .int .i64 (appendJ d J b).2 ∧ ∃ o', Step (fun i => i = q ∨ i = g) w o w2 o' ∧ JG w2 o' q g (appendJ d J b).1.2 ∧ DG w2 o' g (appendJ d J b).1.1 := fun k hk w2 X => by
    have s := Step.of_no X ok
    rw [hk]; exact ⟨rfl, _, s.none, h.step s id, hD.step s id⟩
  refine ⟨fun e => (by cases e), fun _ => ⟨fun h0 w3 X => leaf 3 (by unfold appendJ; rw [if_pos (by omega)]) w3 X, fun h0 => ?_⟩⟩
  have hp0 : ¬ partsN b.length = 0 := by omega
  refine ⟨_, rfl, J.dead, h.mem.cella (i := 7) rfl, fun hdd w3 X => leaf 19 (by unfold appendJ; rw [if_neg hp0, if_pos hdd]) w3 X, fun hdd => ?_⟩
  have hdd' : ¬ J.dead = true := by rw [hdd]; decide
  refine ⟨_, h.mem.cella (i := 2) rfl, _, h.mem.cella (i := 5) rfl, by omega, by omega, fun hf w10 X => leaf 18 (by unfold appendJ; rw [if_neg hp0, if_neg hdd', if_pos hf]) w10 X, fun hf => ?_⟩
  have hf' : ¬ (partsN b.length : Int) > J.size - J.tail := by omega
  have hK : appendJ d J b = if (writesD d (J.base + J.tail) (appendF J b)).2 ≠ 0 then (((writesD d (J.base + J.tail) (appendF J b)).1, { J with dead := true }), (writesD d (J.base + J.tail) (appendF J b)).2)
      else if (syncD (writesD d (J.base + J.tail) (appendF J b)).1).2 ≠ 0 then (((syncD (writesD d (J.base + J.tail) (appendF J b)).1).1, { J with dead := true }), (syncD (writesD d (J.base + J.tail) (appendF J b)).1).2)
      else (((syncD (writesD d (J.base + J.tail) (appendF J b)).1).1, { J with tail := J.tail + partsN b.length, seq := J.seq + 1 }), 0) := by
    unfold appendJ; rw [if_neg hp0, if_neg hdd', if_neg hf']
  rw [hK]
  refine ⟨_, h.mem.cella (i := 3) rfl, _, h.mem.cella (i := 4) rfl, _, h.mem.cella (i := 6) rfl, fun w16 X16 => ?_⟩
  have s16 := Step.of_no X16 ok
  have hwq : IntKind.u32.wrap J.seq = ((J.seq.toNat : Nat) : Int) := by rw [IntKind.wrap_u32]; omega
  rw [hwq]
  refine (fFrame_spec s16.ok (hb.no X16) hc hbl J.gen J.round J.seq.toNat).mono fun u w26 ⟨o26, fa, fc, f, he, s26', hfm, hfr⟩ => ⟨_, _, _, _, he, ?_⟩
  have s26 := s16.trans s26'
  have hfm' : f.map BS.bs = appendF J b := hfm
  have hfl : f.length = (appendF J b).length := by rw [← hfm', List.length_map]
  have h84f := appendF_len J b
  obtain ⟨W, hW⟩ : ∃ W, writesD d (J.base + J.tail) (appendF J b) = W := ⟨_, rfl⟩
  rw [hW]
  have hWok : W.1.ok (m + 84) := by rw [← hW]; exact (writesD_ok hd).up (by omega)
  refine ⟨fun k vs w1 => ∃ (t : Nat) (o1 : Own) (d1 : DS), vs = [.int .i64 t] ∧ k + t = f.length ∧ Step (fun i => i = g) w o w1 o1 ∧ JG w1 o1 q g J ∧ DG w1 o1 g d1 ∧ BsRow w1 o1 fa fc f ∧ d1.ok (m + t) ∧ writesD d1 (J.base + J.tail + t) ((appendF J b).drop t) = W, f.length, ⟨0, o26, d, rfl, rfl, s26.none, h.step s26 id, hD.step s26 id, hfr, hd, by rw [List.drop_zero, ← hW]; simp⟩, ?_⟩
  rintro k w30 i ⟨t, o30, d1, hi, hk, s30, J30, D30, F30, k30, hWt⟩
  simp only [List.cons.injEq, Value.int.injEq, true_and, and_true] at hi
  subst hi
  have hgq : ¬ q = g := hqg
  refine ⟨fun ht => ?_, fun ht => ?_⟩
  · have htl : t < f.length := by omega
    have gt : f[t]? = some f[t] := List.getElem?_eq_getElem htl
    have hmt := List.getElem_mem htl
    have gF : (appendF J b)[t]? = some (f[t]).bs := by rw [← hfm']; exact get_map_bs gt
    generalize f[t] = x at *
    obtain ⟨fd, hfd, cx⟩ := F30.at.cell gt
    obtain ⟨rx, ex⟩ := F30.oks x hmt
    have hdrop : (appendF J b).drop t = x.bs :: (appendF J b).drop (t + 1) := by
      have h1 : t < (appendF J b).length := by omega
      rw [List.drop_eq_getElem_cons h1]
      rw [List.getElem?_eq_getElem h1] at gF
      injection gF with gF
      rw [gF]
    rw [hdrop] at hWt
    unfold writesD at hWt
    refine ⟨fd, hfd, by omega, by omega, x.a, x.bs.length, x.c, by rw [Int.toNat_natCast]; exact cx, _, J30.mem.cella (i := 0) rfl, _, J30.mem.cella (i := 1) rfl, _, J30.mem.cella (i := 5) rfl, by omega, by omega, by omega, by omega, fun w35 X35 => ?_⟩
    have s35' := Step.of_no X35 s30.ok
    refine (dWrite_spec (D30.step s35' id) s35'.ok k30 (by omega) (J.base + J.tail + t) (rx.step s35').1).mono fun u w44 ⟨he, o44, s44', D44⟩ => ⟨_, he, fun hne => ?_, fun heq => ?_⟩
    all_goals have s44 := s35'.none.trans s44'
    all_goals have J44 := J30.step s44 hgq
    · rw [if_pos hne] at hWt
      have e1 : W.2 = (writeD d1 (J.base + J.tail + t) x.bs).2 := by rw [← hWt]
      have e2 : W.1 = (writeD d1 (J.base + J.tail + t) x.bs).1 := by rw [← hWt]
      rw [if_pos (by rw [e1]; exact hne)]
      refine kill_spec J44 D44 s44.ok hqg fun w2 o2 s2 J2 D2 => ?_
      exact ⟨by rw [e1], o2, ((s30.trans s44).mono fun _ h _ => .inr h).trans (s2.mono fun _ h _ => .inl h), J2, by rw [e2]; exact D2⟩
    · rw [if_neg (not_not_intro heq)] at hWt
      exact ⟨by omega, by omega, k - 1, by omega, t + 1, o44, _, rfl, by omega, s30.trans s44, J44, D44, F30.step s44, writeD_ok k30 _ _, by rw [← hWt]; congr 1; omega⟩
  · have htt : t = f.length := by omega
    rw [List.drop_of_length_le (by omega)] at hWt
    have hW1 : W = (d1, 0) := by rw [← hWt]; rfl
    refine ⟨_, J30.mem.cella (i := 0) rfl, ?_⟩
    refine (dSync_spec D30 s30.ok k30 (by omega)).mono fun u w52 ⟨he, o52, s52, D52⟩ => ⟨_, he, fun hne => ?_, fun heq => ?_⟩
    all_goals have J52 := J30.step s52 hgq
    all_goals have st := s30.trans s52
    all_goals rw [hW1, if_neg (show ¬ ((d1, (0 : Int)).2 ≠ 0) from not_not_intro rfl)]
    · rw [if_pos hne]
      refine kill_spec J52 D52 s52.ok hqg fun w2 o2 s2 J2 D2 => ?_
      exact ⟨rfl, o2, (st.mono fun _ h _ => .inr h).trans (s2.mono fun _ h _ => .inl h), J2, D2⟩
    · rw [if_neg (not_not_intro heq)]
      have ha5 : ((blk q).add 5).add 0 = (blk q).add 5 := by rw [add_add]
      have ha6 : ((blk q).add 6).add 0 = (blk q).add 6 := by rw [add_add]
      rw [ha5]
      refine ⟨_, J52.mem.cella (i := 5) rfl, by omega, by omega, J52.mem.cana (i := 5) rfl, thenW_in fun w57 e57 => ?_⟩
      have b57 := J52.mem.seti 5 rfl e57
      rw [ha6]
      refine ⟨_, b57.cella (i := 6) rfl, by omega, by omega, b57.cana (i := 6) rfl, thenW_in fun w60 e60 => ?_⟩
      have X60 : Ext (fun b => b = q) w52 w60 := ((Ext.refl (fun b => b = q) w52).x_set (q := q) (i := 5) rfl (.inl rfl) e57).x_set (q := q) (i := 6) rfl (.inl rfl) e60
      obtain ⟨o60, s60⟩ := Step.store1 X60 s52.ok J52.tg
      have b60 := b57.seti 6 rfl e60
      exact ⟨rfl, o60, (st.mono fun _ h _ => .inr h).trans (s60.mono fun _ h _ => .inl h), ⟨b60, by rw [s60.own J52.mem.lt]; exact J52.tg⟩, D52.step s60 (fun e => hqg e.symm)⟩
end
end Go.Proofs.Ytgcjipbahfpopaa

/- Journal: the chapter's example. -/
set_option linter.unusedVariables false
set_option linter.unusedSimpArgs false
set_option maxRecDepth 100000
set_option maxHeartbeats 4000000
namespace Go.Proofs.Ytgcjipbahfpopaa
open Go Go.Mx Go.Proofs
open W (OwnB GivesW)
def exJ : JS := ⟨0, 4, 1, 1, 0, 0, false⟩
def exD : DS := (appendJ (newDS 4) exJ [97, 98]).1.1
theorem ex_frame : frameK 1 1 0 [97, 98] = ([secL 1 1 0 0 1 [97, 98]], 0) := by kernel_rfl
theorem ex_open : openK (newDS 4) 0 4 1 = (some exJ, [], 0) := by kernel_rfl
theorem ex_append : (appendJ (newDS 4) exJ [97, 98]).2 = 0 := by kernel_rfl
theorem ex_open2 : (openK exD 0 4 1).2 = ([[97, 98]], 0) := by kernel_rfl
theorem litJ {w w1 : World} (bs : List UInt8) {q : Nat} (X : Ext no w w1) (hb : Blk w1 q 5 (bytesV bs)) (hq : w.heap.size ≤ q) :
    ∃ w2, (convert 23 23 (.slice (some (blk q)) bs.length bs.length)).run Try.prog w1 = .ok (.slice (some (blk q)) bs.length bs.length) w2 ∧ RowAt w2 (some (blk q)) (bytesV bs) ∧ Ext no w w2 :=
  ⟨_, conv_mark Try.underlying23 Try.underlying5 hb, (RowAt.of_blk hb).freeze _ _, X.freeze (.inr hq) _⟩
theorem alive10_spec (w : World) : Calls Try.prog 8 #[] w (Ret (.bool true) fun w' => Ext no w w') := by
  refine cachettelaw10_alive.run ?_
  unfold cachettelaw10_alive.N
  intro w1 q2 X1 hb2 hq2 hq2'
  obtain ⟨w4, hc4, r4, X4⟩ := litJ [97, 98] X1 hb2 hq2
  refine ⟨_, _, _, w4, hc4, ?_⟩
  have ok4 : Tags w4 (fun _ => none) := fun b j _ h => by cases h
  refine (fFrame_spec (c := 2) ok4 r4 (by decide) (by decide) 1 1 0).mono fun u w8 ⟨o8, fa, fc, f, he, s8, hfm, hf⟩ => ⟨_, _, _, _, he, ?_⟩
  rw [ex_frame] at hfm
  refine (dNew_spec (n := 4) s8.ok (by decide) (by decide)).mono fun u w12 ⟨g, o12, he, hg, s12, D12⟩ => ⟨_, _, he, ?_⟩
  have kD := newDS_ok (n := 4) (by decide) (by decide)
  refine (Open_spec D12 s12.ok kD (by decide) 0 4 1).mono fun u w17 ⟨o17, jp, la, lc, l, he, s17, _, _, _, hJ⟩ => ⟨_, _, _, _, _, he, fun w18 q19 X18 hb19 hq19 hq19' => ?_⟩
  obtain ⟨q, rfl, hq, J17⟩ := hJ exJ (by rw [ex_open])
  have hgl := D12.lt
  obtain ⟨w21, hc21, r21, X21⟩ := litJ [97, 98] X18 hb19 hq19
  refine ⟨_, _, _, w21, hc21, ?_⟩
  have s21 := Step.of_no X21 s17.ok
  refine (Append_spec (c := 2) (b := [97, 98]) (J17.step s21 id) ((D12.step s17 id).step s21 id) s21.ok (by omega) kD (by decide) ⟨by decide, by decide, by decide, by decide, by decide, by decide⟩ r21 (by decide) (by decide)).mono fun u w24 ⟨he, o24, s24, J24, D24⟩ => ⟨_, he, ?_⟩
  have kD2 : exD.ok 84 := appendJ_ok kD exJ [97, 98]
  have D24' : DG w24 o24 g exD := D24
  refine (Open_spec D24' s24.ok kD2 (by decide) 0 4 1).mono fun u w29 ⟨o29, jp2, ra, rc, r, he, s29, hrm, hr, _, _⟩ => ⟨_, _, _, _, _, he, ?_⟩
  have hl8 := D12.lt
  have l12 := s12.size
  have l17 := s17.size
  have l18 := X18.size
  have sAll : Step no w8 o8 w29 o29 := ((s12.trans s17).trans s21.none).trans' (s24.trans s29.none) fun i hi => .inr (by omega)
  have fin : Ext no w w29 := (X4.trans (s8.ext.mono fun b ⟨_, _, h⟩ _ => h)).trans (sAll.ext.mono fun b ⟨_, _, h⟩ _ => h)
  have hfl : f.length = 1 := by have := congrArg List.length hfm; simpa using this
  have hrl : r.length = 1 := by have := congrArg List.length hrm; rw [ex_open2] at this; simpa using this
  have hf29 := (hf.step sAll).at
  have g0 : f[0]? = some f[0] := List.getElem?_eq_getElem (by omega)
  have hm0 := List.getElem_mem (show 0 < f.length by omega)
  have hx : (f[0]).bs = secL 1 1 0 0 1 [97, 98] := by
    have := get_map_bs g0
    rw [hfm] at this
    simp at this
    exact this.symm
  generalize f[0] = x at *
  obtain ⟨fd, rfl, c0⟩ := hf29.cell g0
  obtain ⟨rx, ex⟩ := hf29.oks x hm0
  have hxl : x.bs.length = 64 := by rw [hx]; rfl
  have e2 : (appendJ (newDS 4) exJ [97, 98]).2 = 0 := ex_append
  have e3 : (openK exD 0 4 1).2.2 = 0 := by rw [ex_open2]
  have e4 : (openK (newDS 4) 0 4 1).2.2 = 0 := by rw [ex_open]
  refine ⟨fun _ => ⟨fun _ => ?_, fun h => absurd (by rw [hfl]; rfl) h⟩, fun h => absurd (by rw [ex_frame]) h⟩
  refine ⟨fd, rfl, by omega, x.a, x.bs.length, x.c, c0, fun _ => ?_, fun h => absurd (by rw [hxl]; rfl) h⟩
  obtain ⟨xd, hxd, k0⟩ := byte_cell rx (i := 0) (by omega)
  obtain ⟨_, e, k15⟩ := byte_cell rx (i := 15) (by omega)
  rw [hxd] at e; cases e
  obtain ⟨_, e, k17⟩ := byte_cell rx (i := 17) (by omega)
  rw [hxd] at e; cases e
  rw [hx] at k0 k15 k17
  refine ⟨by omega, x.a, x.bs.length, x.c, c0, xd, hxd, by omega, _, k0, fun _ => ?_, fun h => absurd rfl h⟩
  refine ⟨by omega, x.a, x.bs.length, x.c, c0, xd, hxd, by omega, _, k15, fun _ => ?_, fun h => absurd rfl h⟩
  refine ⟨by omega, x.a, x.bs.length, x.c, c0, xd, hxd, by omega, _, k17, fun _ => ⟨fun _ => ⟨fun _ => ⟨fun _ => ⟨fun _ => ?_, fun h => absurd (by rw [hrl]; rfl) h⟩, fun h => absurd e3 h⟩, fun h => absurd e2 h⟩, fun h => absurd e4 h⟩, fun h => absurd rfl h⟩
  have hr29 := hr.at
  have h0 : r[0]? = some r[0] := List.getElem?_eq_getElem (by omega)
  have hmr := List.getElem_mem (show 0 < r.length by omega)
  have hy : (r[0]).bs = [97, 98] := by
    have := get_map_bs h0
    rw [hrm, ex_open2] at this
    simp at this
    exact this.symm
  generalize r[0] = y at *
  obtain ⟨rd, rfl, d0⟩ := hr29.cell h0
  obtain ⟨ry, _⟩ := hr29.oks y hmr
  refine ⟨rd, rfl, by omega, y.a, y.bs.length, y.c, d0, _, conv_str Try.underlying23 Try.underlying5 Try.underlying9 ry, ?_, fin⟩
  rw [hy]; simp
end Go.Proofs.Ytgcjipbahfpopaa

/- JournalFrames, JournalScans. -/
set_option linter.unusedVariables false
set_option linter.unusedSimpArgs false
set_option maxRecDepth 20000
set_option maxHeartbeats 2000000
namespace Go.Proofs.Ytgcjipbahfpopaa
open Go Go.Mx Go.Proofs
open W (OwnB GivesW)
theorem wf_u32 {n : Int} (h : (Lit.int .u32 n).wf = true) : 0 ≤ n ∧ n < 4294967296 := by
  simp [Lit.wf, IntKind.min, IntKind.max, IntKind.signed, IntKind.bits] at h; omega
section
variable {w w' w1 : World} {o o' o1 : Own} {q g n N : Nat} {K : Nat → Prop} {b s : List UInt8} {a : Option Addr} {c : Nat} {l : List BS}
end
theorem JournalFrames_spec (W : World) {gen round seq : Nat} (hg : gen < 4294967296) (hro : round < 4294967296) (hse : seq < 4294967296) {ba : Option Addr} {bc : Nat} {b : List UInt8} (hb : RowAt W ba (bytesV b)) (hbc : b.length ≤ bc) (n : Int) :
    Calls Try.prog 3 #[.int .u32 gen, .int .u32 round, .int .u32 seq, .slice ba b.length bc, .int .i64 n] W (Ret (.bool true) fun w' => Ext no W w') := by
  refine cachettelaw10_JournalFrames.run _ _ _ _ _ _ _ ?_
  unfold cachettelaw10_JournalFrames.N
  have hal : ∀ w1, Ext no W w1 → Calls Try.prog 8 #[] w1 fun ee w2 => ∃ b : Bool, ee = .returned (.bool b) ∧ Value.bool b = Value.bool true ∧ Ext no W w2 := fun w1 X =>
    (alive10_spec w1).mono fun v w2 ⟨hx, X2⟩ => ⟨_, hx, rfl, X.trans X2⟩
  refine ⟨fun _ => hal W (Ext.refl _ _), fun hl => ?_⟩
  have ok0 : Tags W (fun _ => none) := fun b j _ h => by cases h
  refine (fFrame_spec ok0 hb hbc (by omega) gen round seq).mono fun u w13 ⟨o13, fa, fc, f, he, s13, hfm, hf⟩ => ⟨_, _, _, _, he, ?_⟩
  have X13 : Ext no W w13 := s13.ext.mono fun b ⟨_, _, h⟩ _ => h
  refine (rFrame_spec s13.ok (hb.no X13) hbc (by omega) hg hro hse).mono fun u w17 ⟨o17, ga, gc, f2, he, s17, hfm2, hf2, _⟩ => ⟨_, _, _, _, he, ?_⟩
  have X17 : Ext no w13 w17 := s17.ext.mono fun b ⟨_, _, h⟩ _ => h
  have hfl : f.length < 1000000 := by
    have h1 := congrArg List.length hfm
    rw [List.length_map] at h1
    rw [h1]
    have := appendF_len ⟨0, 0, gen, round, 0, seq, false⟩ b
    unfold appendF at this
    simp only [Int.toNat_natCast] at this
    omega
  have hsec : ∀ x ∈ f, x.bs.length < 1000000 := fun x hx => by
    have hm : x.bs ∈ (frameK gen round seq b).1 := by rw [← hfm]; exact List.mem_map_of_mem hx
    unfold frameK at hm
    split at hm
    · cases hm
    · split at hm
      · cases hm
      · have := (sec_mark hm).2; omega
  refine (lists_spec (ac := fc) (bc := gc) (hf.step s17).row.1 hf2.row.1 (fun x hx => ⟨((hf.step s17).oks x hx).1.1, hsec x hx⟩) (fun x hx => (hf2.oks x hx).1.1) hfl).mono fun u w20 ⟨he, X20⟩ => ⟨_, he, fun _ => ⟨fun _ => ?_, fun h => absurd rfl h⟩, fun h => absurd (by rw [hfm, hfm2]) (of_decide_eq_false h)⟩
  have X := (X13.trans X17).trans X20
  refine ⟨fun _ => ⟨fun _ w2 X2 => hal _ (X.trans X2), fun h => absurd (by rw [parts_F, refParts_F]) h⟩, fun h => absurd (by rw [parts_F, refParts_F]) h⟩
theorem JournalFrames_walk (W : World) (n0 n1 n2 : Int) (a3 : Option Addr) (len3 cap3 : Nat) (n4 : Int) (w0 : (Lit.int .u32 n0).wf = true) (w1 : (Lit.int .u32 n1).wf = true) (w2 : (Lit.int .u32 n2).wf = true) (o3 : BytesQ W [.slice a3 len3 cap3]) (w4 : (Lit.int .i64 n4).wf = true) :
    Calls Try.prog 3 #[.int .u32 n0, .int .u32 n1, .int .u32 n2, .slice a3 len3 cap3, .int .i64 n4] W (Ret (.bool true) fun w' => Ext no W w') := by
  obtain ⟨_, c, b, e, l, _, r⟩ := o3
  cases e
  have f0 := wf_u32 w0
  have f1 := wf_u32 w1
  have f2 := wf_u32 w2
  obtain ⟨gen, rfl⟩ := Int.eq_ofNat_of_zero_le f0.1
  obtain ⟨round, rfl⟩ := Int.eq_ofNat_of_zero_le f1.1
  obtain ⟨seq, rfl⟩ := Int.eq_ofNat_of_zero_le f2.1
  exact JournalFrames_spec W (by omega) (by omega) (by omega) r l n4
end Go.Proofs.Ytgcjipbahfpopaa
