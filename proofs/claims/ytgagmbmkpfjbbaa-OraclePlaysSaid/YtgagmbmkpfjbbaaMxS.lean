/- Local memory is put out of sight: what a printed proof (ngen.py) leans on. -/
import Derived.Test.YtgagmbmkpfjbbaaMxN
set_option linter.unusedSimpArgs false
set_option linter.unusedVariables false
namespace Go.Mx
/-- what a step hands back, and what then is. -/
def Ret (v : Value) (Q : World → Prop) (e : Ending) (w' : World) : Prop := e = .returned v ∧ Q w'
/-- blocks that came in a stretch of steps. -/
def Priv (w w' : World) (L : List Nat) : Prop := ∀ p ∈ L, w.heap.size ≤ p ∧ p < w'.heap.size
theorem Priv.nil {w w' : World} : Priv w w' [] := fun p hp => by simp at hp
theorem Priv.cons {w w' : World} {p : Nat} {L : List Nat} (h1 : w.heap.size ≤ p) (h2 : p < w'.heap.size) (h : Priv w w' L) : Priv w w' (p :: L) := fun q hq => by
  rcases List.mem_cons.1 hq with rfl | hq
  · exact ⟨h1, h2⟩
  · exact h q hq
theorem Priv.one {w w' : World} {p : Nat} (h : Priv w w' [p]) : w.heap.size ≤ p ∧ p < w'.heap.size := h p (by simp)
theorem Priv.two {w w' : World} {p q : Nat} (h : Priv w w' [p, q]) : (w.heap.size ≤ p ∧ p < w'.heap.size) ∧ w.heap.size ≤ q ∧ q < w'.heap.size := ⟨h p (by simp), h q (by simp)⟩
theorem Priv.three {w w' : World} {p q r : Nat} (h : Priv w w' [p, q, r]) : (w.heap.size ≤ p ∧ p < w'.heap.size) ∧ (w.heap.size ≤ q ∧ q < w'.heap.size) ∧ w.heap.size ≤ r ∧ r < w'.heap.size := ⟨h p (by simp), h q (by simp), h r (by simp)⟩
/-- blocks that came in a stretch of steps, ahead of another one. -/
def Privq (w : World) (q : Nat) (L : List Nat) : Prop := ∀ p ∈ L, w.heap.size ≤ p ∧ p < q
theorem Privq.nil {w : World} {q : Nat} : Privq w q [] := fun p hp => by simp at hp
theorem Privq.cons {w : World} {q p : Nat} {L : List Nat} (h1 : w.heap.size ≤ p) (h2 : p < q) (h : Privq w q L) : Privq w q (p :: L) := fun r hr => by
  rcases List.mem_cons.1 hr with rfl | hr
  · exact ⟨h1, h2⟩
  · exact h r hr
theorem Privq.one {w : World} {q p : Nat} (h : Privq w q [p]) : w.heap.size ≤ p ∧ p < q := h p (by simp)
theorem Privq.two {w : World} {q p r : Nat} (h : Privq w q [p, r]) : (w.heap.size ≤ p ∧ p < q) ∧ w.heap.size ≤ r ∧ r < q := ⟨h p (by simp), h r (by simp)⟩
/-- some blocks are as they were. -/
def Keep (L : List Nat) (w w' : World) : Prop := ∀ p ∈ L, p < w.heap.size → w'.heap[p]? = w.heap[p]?
section
variable {m : Nat → Prop} {w w0 w' : World} {L : List Nat} {p q i : Nat} {t : TypeId} {cs : List Value} {a : Addr} {v : Value}
theorem Ext.keep (h : Ext m w w') (hm : ∀ p ∈ L, p < w.heap.size → ¬ m p) : Keep L w w' := fun p hp hl => h.block p hl (hm p hp hl)
theorem Ext.kept (h : Ext no w w') : Keep L w w' := h.keep fun _ _ _ hb => hb
theorem Keep.refl (L : List Nat) (w : World) : Keep L w w := fun _ _ _ => rfl
theorem Keep.blk (h : Keep L w w') (hb : Blk w p t cs) (hp : p ∈ L) : Blk w' p t cs := by
  unfold Blk at hb ⊢
  rw [h p hp (Array.getElem?_eq_some_iff.1 hb).1]; exact hb
theorem Blk.celli (h : Blk w p t cs) (i : Nat) (ha : a = ⟨p, i, Option.none⟩) (hv : cs[i]? = some v) : w.cell? a = some v := by subst ha; exact h.cell hv
theorem Blk.cani (h : Blk w p t cs) (i : Nat) (ha : a = ⟨p, i, Option.none⟩) (hv : cs[i]? = some v) : canStore w a := by subst ha; exact h.can hv
theorem Blk.seti (h : Blk w p t cs) (i : Nat) (ha : a = ⟨p, i, Option.none⟩) (e : w' = w.setCell a v) : Blk w' p t (cs.set i v) := by subst ha; subst e; exact h.set i v
theorem Blk.oth (h : Blk w p t cs) (ha : a = ⟨q, i, Option.none⟩) (hne : p ≠ q) (e : w' = w.setCell a v) : Blk w' p t cs := by subst ha; subst e; exact h.set_other hne v
theorem Blk.off (h : Blk w p t cs) (hne : p ≠ a.block) (e : w' = w.setCell a v) : Blk w' p t cs := by subst e; exact h.set_other hne v
theorem Blk.of_new (e : w' = w.alloc (.cells cs.toArray t)) : Blk w' w.heap.size t cs := by subst e; exact Blk.new _ _ _
theorem Blk.x_drew (h : Blk w p t cs) (e : w' = w.drew) : Blk w' p t cs := by subst e; exact h
theorem Blk.x_alloc (h : Blk w p t cs) {o : Obj} (e : w' = w.alloc o) : Blk w' p t cs := by subst e; exact h.alloc o
theorem Ext.x_drew (h : Ext m w0 w) (e : w' = w.drew) : Ext m w0 w' := by subst e; exact h.drew
theorem Ext.x_alloc (h : Ext m w0 w) {o : Obj} (e : w' = w.alloc o) : Ext m w0 w' := by subst e; exact h.alloc o
theorem Ext.x_set (h : Ext m w0 w) (ha : a = ⟨q, i, Option.none⟩) (hq : m q ∨ w0.heap.size ≤ q) (e : w' = w.setCell a v) : Ext m w0 w' := by subst ha; subst e; exact h.setCell hq v
theorem cellsAt_no (h : Ext no w w') : ∀ {cs : List Value} {i : Nat}, cellsAt w a cs i → cellsAt w' a cs i
  | [], _, _ => trivial
  | _ :: _, _, hc => ⟨h.cell hc.1 id, cellsAt_no h hc.2⟩
theorem cellsAt_ext (h : Ext m w w') (hn : ¬ m a.block) : ∀ {cs : List Value} {i : Nat}, cellsAt w a cs i → cellsAt w' a cs i
  | [], _, _ => trivial
  | _ :: _, _, hc => ⟨h.cell hc.1 (by rw [block_add]; exact hn), cellsAt_ext h hn hc.2⟩
theorem size_lt_alloc {o : Obj} (e : w' = w.alloc o) : w.heap.size < w'.heap.size := by subst e; simp
theorem get_alloc {o : Obj} (e : w' = w.alloc o) : w'.heap[w.heap.size]? = some o := by subst e; exact heap_alloc_new w o
theorem drew_size (e : w' = w.drew) : w'.heap.size = w.heap.size := by subst e; rfl
end
theorem thenW_out {w w' : World} {K : World → Prop} (h : thenW w K) (e : w' = w) : K w' := by subst e; exact h
theorem bif_of {c : Bool} {A B : Prop} (h1 : c = true → A) (h2 : c = false → B) : bif c then A else B := by cases c; exact h2 rfl; exact h1 rfl
theorem bif_tt {c : Bool} {A B : Prop} (h : c = true) (h1 : A) : bif c then A else B := by subst h; exact h1
theorem bif_ff {c : Bool} {A B : Prop} (h : c = false) (h1 : B) : bif c then A else B := by subst h; exact h1
theorem elim_some {α : Type} {o : Option α} {a : α} {K : α → Prop} (h : o = some a) (k : K a) : o.elim False K := by subst h; exact k
theorem not_t {b : Bool} (h : (!b) = true) : b = false := by simpa using h
theorem not_f {b : Bool} (h : (!b) = false) : b = true := by simpa using h
theorem bne_t {a b : Int} (h : (a != b) = true) : a ≠ b := by simpa using h
theorem bne_f {a b : Int} (h : (a != b) = false) : a = b := by simpa using h
theorem beq_t {a b : Int} (h : (a == b) = true) : a = b := by simpa using h
theorem beq_f {a b : Int} (h : (a == b) = false) : a ≠ b := by simpa using h
theorem lbeq_t {a b : List UInt8} (h : (a == b) = true) : a = b := by simpa using h
theorem lbeq_f {a b : List UInt8} (h : (a == b) = false) : a ≠ b := by simpa using h
theorem lbne_t {a b : List UInt8} (h : (!(a == b)) = true) : a ≠ b := by simpa using h
theorem lbne_f {a b : List UInt8} (h : (!(a == b)) = false) : a = b := by simpa using h
theorem bbeq_t {a b : Bool} (h : (a == b) = true) : a = b := by simpa using h
theorem bbeq_f {a b : Bool} (h : (a == b) = false) : a ≠ b := by simpa using h
theorem isNone_t {α : Type} {o : Option α} (h : o.isNone = true) : o = none := by cases o; rfl; cases h
theorem isNone_f {α : Type} {o : Option α} (h : o.isNone = false) : o ≠ none := by cases o; cases h; simp
/-- where a slice that is cut off in front begins. -/
abbrev cutA (a : Option Addr) (c l sz : Nat) : Option Addr := if c = l then a else Option.map (fun z : Addr => z.add (l * sz)) a
theorem cut_zero (a : Option Addr) (c k : Nat) : (if c = 0 then a else Option.map (fun z : Addr => z.add (0 * k)) a) = a := by
  split
  · rfl
  · rw [Nat.zero_mul]; cases a <;> rfl
theorem RowAt.cut {w : World} {a : Option Addr} {cs : List Value} (h : RowAt w a cs) (k : Nat) (c : Nat) (hc : cs.length ≤ c) : RowAt w (cutA a c k 1) (cs.drop k) := by
  have := h.drop k c (fun e => by omega)
  unfold cutA
  rw [Nat.mul_one]; exact this
theorem RowAt.cutn {w : World} {a : Option Addr} {cs : List Value} (h : RowAt w a cs) (k sz : Nat) (c : Nat) (hc : cs.length ≤ c * sz) (hs : 0 < sz) : RowAt w (cutA a c k sz) (cs.drop (k * sz)) := by
  have := h.drop (k * sz) (c * sz) (fun e => by omega)
  unfold cutA
  by_cases e : c = k
  · subst e; rw [if_pos rfl] at this ⊢; exact this
  · rw [if_neg e]; rw [if_neg (fun e2 => e (Nat.eq_of_mul_eq_mul_right hs e2))] at this; exact this
theorem cutA_block {a : Option Addr} {c l sz : Nat} {ad : Addr} (h : cutA a c l sz = some ad) : ∃ b, a = some b ∧ b.block = ad.block := by
  unfold cutA at h
  split at h
  · exact ⟨ad, h, rfl⟩
  · obtain ⟨b, hb, rfl⟩ := Option.map_eq_some_iff.1 h
    exact ⟨b, hb, (block_add _ _).symm⟩
/-- cells, one behind the other, put into a place. -/
def setCells (w : World) (a : Addr) : List Value → Nat → World
  | [], _ => w
  | v :: r, i => setCells (w.setCell (a.add i) v) a r (i + 1)
/-- all cells of a place may be written. -/
def canStores (w : World) (a : Addr) (n : Nat) : Prop := ∀ i, i < n → canStore w (a.add i)
end Go.Mx
