/- The rules of reading are the model's own run. -/
import Derived.Test.YtgagmbmkpfjbbaaMxB
set_option linter.unusedSimpArgs false
set_option linter.unusedVariables false
namespace Go.Mx
section
variable {P : Program} {ρ : Operand → Value}

theorem Good.of_value {s : Sem Value} {w : World} {K : Value → Chi → Prop} (h : ∃ (v : Value) (χ : Chi), Chi.at χ w ∧ (∀ w', Chi.at χ w' → s.run P w' = .ok v w') ∧ K v χ) :
    Good P (do pure (Next.value (← s))) w K := by
  obtain ⟨v, χ, h1, h2, h3⟩ := h
  exact ⟨v, χ, h1, fun w' h => by simp [h2 w' h], h3⟩
theorem Good.of_pure {s : Sem Value} {w : World} {K : Value → Chi → Prop} (h : ∃ v : Value, (∀ w', s.run P w' = .ok v w') ∧ K v none) :
    Good P (do pure (Next.value (← s))) w K := by
  obtain ⟨v, h2, h3⟩ := h
  exact ⟨v, none, trivial, fun w' _ => by simp [h2 w'], h3⟩

theorem mint_ok {op : BinOp} {k : IntKind} {a b : Int} {K : Value → Prop} (h : mint op k a b K) (h1 : op ≠ .shl) (h2 : op ≠ .shr) (t : TypeId) :
    ∃ v : Value, (∀ w, (binOp op t (.int k a) (.int k b)).run P w = .ok v w) ∧ K v := by
  cases op <;> simp only [mint] at h <;> first
    | exact h.elim
    | exact absurd rfl h1
    | exact absurd rfl h2
    | (obtain ⟨hb, h⟩ := h; refine ⟨_, ?_, h⟩; intro w; simp [binOp, Op.intDiv, hb]; done)
    | (refine ⟨_, ?_, h⟩; intro w; simp [binOp, Op.intArith, Op.intBits, Op.intCmp]; done)

theorem eqGuard_scalar {op : BinOp} {t : TypeId} {x y : Operand} {a b : Value} (w : World)
    (h : (match a, b with | .nilIface, .nilIface => false | .agg _, .agg _ => false | _, _ => true) = true) :
    (eqGuard op t x y a b).run P w = .ok () w := by
  unfold eqGuard
  cases op <;> simp <;> (cases a <;> cases b <;> simp at h ⊢)

theorem eqGuard_ok {op : BinOp} {t : TypeId} {x y : Operand} {a b : Value} (h : okGuard P t a b = true) (w : World) :
    (eqGuard op t x y a b).run P w = .ok () w := by
  unfold okGuard at h
  split at h
  · have h' : P.eqGuardType P.depth t = false := by simpa using h
    cases op <;> simp [eqGuard, h']
  · cases h
  · rename_i h1 h2
    refine eqGuard_scalar w ?_
    cases a <;> cases b <;> simp at h1 h2 ⊢

theorem run_equal_bool {t : TypeId} (hu : P.underlying t = some .bool) (a b : Bool) (w : World) : (Op.equal t (.bool a) (.bool b)).run P w = .ok (a == b) w := by
  have h : ∀ d, (Op.equalIn (d + 1) t (.bool a) (.bool b)).run P w = .ok (a == b) w := fun d => by simp [Op.equalIn, run_underlying' hu]
  exact h 9999
theorem run_equal_nil {t e : TypeId} (hu : P.underlying t = some (.pointer e)) (a : Option Addr) (w : World) : (Op.equal t (.pointer a) (.pointer none)).run P w = .ok a.isNone w := by
  have h : ∀ d, (Op.equalIn (d + 1) t (.pointer a) (.pointer none)).run P w = .ok a.isNone w := fun d => by cases a <;> simp [Op.equalIn, run_underlying' hu]
  exact h 9999
theorem run_equal_nilslice {t e : TypeId} (hu : P.underlying t = some (.slice e)) (a : Option Addr) (n c m d : Nat) (w : World) : (Op.equal t (.slice a n c) (.slice none m d)).run P w = .ok a.isNone w := by
  have h : ∀ k, (Op.equalIn (k + 1) t (.slice a n c) (.slice none m d)).run P w = .ok a.isNone w := fun k => by cases a <;> simp [Op.equalIn, run_underlying' hu]
  exact h 9999
theorem binOp_eql_slice (t : TypeId) (a b : Option Addr) (n c m d : Nat) : binOp .eql t (.slice a n c) (.slice b m d) = (do pure (.bool (← Op.equal t (.slice a n c) (.slice b m d)))) := rfl
theorem binOp_neq_slice (t : TypeId) (a b : Option Addr) (n c m d : Nat) : binOp .neq t (.slice a n c) (.slice b m d) = (do pure (.bool (!(← Op.equal t (.slice a n c) (.slice b m d))))) := rfl
theorem binOp_eql_bool (t : TypeId) (a b : Bool) : binOp .eql t (.bool a) (.bool b) = (do pure (.bool (← Op.equal t (.bool a) (.bool b)))) := rfl
theorem binOp_neq_bool (t : TypeId) (a b : Bool) : binOp .neq t (.bool a) (.bool b) = (do pure (.bool (!(← Op.equal t (.bool a) (.bool b))))) := rfl
theorem binOp_eql_ptr (t : TypeId) (a b : Option Addr) : binOp .eql t (.pointer a) (.pointer b) = (do pure (.bool (← Op.equal t (.pointer a) (.pointer b)))) := by cases a <;> cases b <;> rfl
theorem binOp_neq_ptr (t : TypeId) (a b : Option Addr) : binOp .neq t (.pointer a) (.pointer b) = (do pure (.bool (!(← Op.equal t (.pointer a) (.pointer b))))) := by cases a <;> cases b <;> rfl

theorem mbin_ok {o : Oper} {w : World} {op : BinOp} {t ty : TypeId} {x y : Operand} {K : Value → Chi → Prop}
    (ho : o.op = .binOp op t x y ty) (h : mbin P o.type w op t (ρ x) (ρ y) K) : Good P (execOp ρ o) w K := by
  have hex : execOp ρ o = (do pure (Next.value (← (do eqGuard op t x y (ρ x) (ρ y); binOp op t (ρ x) (ρ y))))) := by
    simp only [execOp, ho]
  generalize hx : ρ x = vx at h hex
  generalize hy : ρ y = vy at h hex
  unfold mbin at h
  split at h
  · obtain ⟨hb, h⟩ := h
    rw [hex]
    refine Good.of_pure ⟨_, fun w' => ?_, h⟩
    rename_i k a j b
    have : ¬ b < 0 := by omega
    simp [eqGuard_scalar, binOp, Op.shift, this]
  · obtain ⟨hb, h⟩ := h
    rw [hex]
    refine Good.of_pure ⟨_, fun w' => ?_, h⟩
    rename_i k a j b
    have : ¬ b < 0 := by omega
    simp [eqGuard_scalar, binOp, Op.shift, this]
  · rename_i k a k' b h1 h2
    cases hk : decide (k = k')
    · simp [hk] at h
    · simp only [hk, cond_true] at h
      have := of_decide_eq_true hk
      subst this
      have hs1 : op ≠ .shl := fun e => h1 e
      have hs2 : op ≠ .shr := fun e => h2 e
      obtain ⟨v, hv, hK⟩ := mint_ok (P := P) h hs1 hs2 t
      rw [hex]
      exact Good.of_pure ⟨v, fun w' => by simp [eqGuard_scalar, hv w'], hK⟩
  · rw [hex]; exact Good.of_pure ⟨_, fun w' => by simp [eqGuard_scalar, binOp, Op.stringOp], h⟩
  · rw [hex]; exact Good.of_pure ⟨_, fun w' => by simp [eqGuard_scalar, binOp, Op.stringOp], h⟩
  · split at h
    · rename_i hu
      rw [hex]; exact Good.of_pure ⟨_, fun w' => by simp [eqGuard_scalar, binOp_eql_bool, binOp_neq_bool, run_equal_bool hu], h⟩
    · exact h.elim
  · split at h
    · rename_i hu
      rw [hex]; exact Good.of_pure ⟨_, fun w' => by simp [eqGuard_scalar, binOp_eql_bool, binOp_neq_bool, run_equal_bool hu], h⟩
    · exact h.elim
  · split at h
    · rename_i hu
      rw [hex]; exact Good.of_pure ⟨_, fun w' => by simp [eqGuard_scalar, binOp_eql_ptr, binOp_neq_ptr, run_equal_nil hu], h⟩
    · exact h.elim
  · split at h
    · rename_i hu
      rw [hex]; exact Good.of_pure ⟨_, fun w' => by simp [eqGuard_scalar, binOp_eql_ptr, binOp_neq_ptr, run_equal_nil hu], h⟩
    · exact h.elim
  · split at h
    · rename_i hu
      rw [hex]; exact Good.of_pure ⟨_, fun w' => by simp [eqGuard_scalar, binOp_eql_slice, run_equal_nilslice hu], h⟩
    · exact h.elim
  · split at h
    · rename_i hu
      rw [hex]; exact Good.of_pure ⟨_, fun w' => by simp [eqGuard_scalar, binOp_neq_slice, run_equal_nilslice hu], h⟩
    · exact h.elim
  · cases hg : okGuard P t vx vy
    · simp [hg] at h
    · simp only [hg, cond_true] at h
      obtain ⟨v, χ, h1, h2, h3⟩ := asV_ok h
      have hgd : ∀ w', (eqGuard op t x y vx vy).run P w' = .ok () w' := fun w' => eqGuard_ok hg w'
      rw [hex]
      exact Good.of_value ⟨v, χ, h1, fun w' h => by simp [hgd w', h2 w' h], h3⟩

theorem optInt_ok {x : Option Operand} {Φ : Option Int → Prop} (h : optInt ρ x Φ) :
    ∃ l : Option Int, Φ l ∧ ((x = none ∧ l = none) ∨ ∃ y k n, x = some y ∧ ρ y = .int k n ∧ l = some n) := by
  cases x with
  | none => exact ⟨none, h, .inl ⟨rfl, rfl⟩⟩
  | some y =>
    simp only [optInt] at h
    split at h
    · rename_i k n hn
      exact ⟨some n, h, .inr ⟨y, k, n, rfl, hn, rfl⟩⟩
    · exact h.elim

theorem run_sliceBound {k : IntKind} {i : Int} {y : Nat} {c : BoundsCode} (h0 : 0 ≤ i) (h1 : i ≤ y) (w : World) : (Instr.sliceBound (.int k i) y c).run P w = .ok i.toNat w := by
  simp [Instr.sliceBound, asIntOf, h0, h1]

/-- a bound and its operand. -/
def Bd (v : Option Value) (l : Option Int) : Prop := (v = none ∧ l = none) ∨ ∃ k n, v = some (.int k n) ∧ l = some n

theorem run_sliceBounds {b : Bool} {len cap : Nat} {lo hi mx : Option Value} {l h m : Option Int} {K : Nat → Nat → Nat → Prop}
    (hlo : Bd lo l) (hhi : Bd hi h) (hmx : Bd mx m) (hc : mcut len cap l h m K) :
    ∃ x y z, (∀ w, (Instr.sliceBounds b len cap lo hi mx).run P w = .ok (x, y, z) w) ∧ K x y z := by
  rcases hlo with ⟨rfl, rfl⟩ | ⟨kl, nl, rfl, rfl⟩ <;> rcases hhi with ⟨rfl, rfl⟩ | ⟨kh, nh, rfl, rfl⟩ <;> rcases hmx with ⟨rfl, rfl⟩ | ⟨km, nm, rfl, rfl⟩ <;> simp only [mcut] at hc
  · exact ⟨_, _, _, fun w => by simp [Instr.sliceBounds]; done, hc⟩
  · obtain ⟨h1, h2, hK⟩ := hc
    exact ⟨_, _, _, fun w => by simp [Instr.sliceBounds, run_sliceBound h1 h2]; done, hK⟩
  · obtain ⟨h1, h2, h3, h4, hK⟩ := hc
    have e : (nh.toNat : Int) = nh := Int.toNat_of_nonneg h3
    have h2' : nm ≤ (cap : Int) := h2
    have hm : nh ≤ ((nm.toNat : Nat) : Int) := by omega
    exact ⟨_, _, _, fun w => by simp [Instr.sliceBounds, run_sliceBound h1 h2, run_sliceBound h3 hm]; done, hK⟩
  · obtain ⟨h1, h2, hK⟩ := hc
    exact ⟨_, _, _, fun w => by simp [Instr.sliceBounds, run_sliceBound h1 h2]; done, hK⟩
  · obtain ⟨h1, h2, h3, h4, hK⟩ := hc
    have hm : nl ≤ ((nh.toNat : Nat) : Int) := by omega
    exact ⟨_, _, _, fun w => by simp [Instr.sliceBounds, run_sliceBound h1 h2, run_sliceBound h3 hm]; done, hK⟩
  · obtain ⟨h1, h2, h3, h4, h5, h6, hK⟩ := hc
    have hm : nh ≤ ((nm.toNat : Nat) : Int) := by omega
    have hl : nl ≤ ((nh.toNat : Nat) : Int) := by omega
    exact ⟨_, _, _, fun w => by simp [Instr.sliceBounds, run_sliceBound h1 h2, run_sliceBound h3 hm, run_sliceBound h5 hl]; done, hK⟩

theorem mslice_ok {t : TypeId} {x : Value} {lo hi mx : Option Value} {l h m : Option Int} {K : Value → Prop}
    (hlo : Bd lo l) (hhi : Bd hi h) (hmx : Bd mx m) (hs : mslice P t x l h m K) : ∃ v : Value, (∀ w, (Instr.sliceAt t x lo hi mx).run P w = .ok v w) ∧ K v := by
  unfold mslice at hs
  split at hs
  · rename_i e a n c hu
    split at hs
    · rename_i i hi'
      obtain ⟨x, y, z, hr, hK⟩ := run_sliceBounds (P := P) (b := true) hlo hhi hmx hs
      exact ⟨_, fun w => by simp [Instr.sliceAt, Instr.slice, run_underlying' hu, hr w, run_sizeOf' hi'], hK⟩
    · exact hs.elim
  · rename_i s hu
    obtain ⟨x, y, z, hr, rfl, hK⟩ := run_sliceBounds (P := P) (b := false) hlo hhi (m := none) (mx := none) (.inl ⟨rfl, rfl⟩) hs
    obtain rfl : mx = none := by rcases hmx with ⟨h, _⟩ | ⟨k, n, _, h⟩; exact h; cases h
    exact ⟨_, fun w => by simp [Instr.sliceAt, Instr.slice, run_underlying' hu, hr w], hK⟩
  · rename_i n e a hu
    split at hs
    · rename_i i hi'
      obtain ⟨x, y, z, hr, hK⟩ := run_sliceBounds (P := P) (b := false) hlo hhi hmx hs
      exact ⟨_, fun w => by simp [Instr.sliceAt, Instr.sureAddr, run_underlying' hu, hr w, run_sizeOf' hi'], hK⟩
    · exact hs.elim
  · exact hs.elim

theorem mcallb_ok {o : Oper} {w : World} {c : Call} {b : Builtin} {K : Value → Chi → Prop} (ho : o.op = .call c) (hc : c.callee = .builtin b)
    (h : mcallb P o.type w b c.argTypes (c.args.toList.map ρ) K) : Good P (execOp ρ o) w K := by
  obtain ⟨cs, hex⟩ : ∃ cs, execOp ρ o = builtin b c.argTypes o.type cs (c.args.map ρ) := by
    refine ⟨c.args.map fun | .const _ => true | _ => false, ?_⟩
    simp only [execOp, ho, resolve, hc, invoke, pure_bind]
    rfl
  have hargs : c.args.map ρ = (c.args.toList.map ρ).toArray := by apply Array.ext'; simp
  generalize c.args.toList.map ρ = args at h hargs
  unfold mcallb at h
  split at h
  · split at h
    · rename_i e hu
      obtain ⟨t, ht, hu⟩ := Option.bind_eq_some_iff.1 hu
      rw [hex, hargs]
      exact Good.pure_ (fun w' => by simp [builtin, Builtin.len_, ht, run_underlying' hu, goInt]) h
    · exact h.elim
  · split at h
    · rename_i hu
      obtain ⟨t, ht, hu⟩ := Option.bind_eq_some_iff.1 hu
      rw [hex, hargs]
      exact Good.pure_ (fun w' => by simp [builtin, Builtin.len_, ht, run_underlying' hu, goInt]) h
    · exact h.elim
  · split at h
    · rename_i e hu
      obtain ⟨t, ht, hu⟩ := Option.bind_eq_some_iff.1 hu
      rw [hex, hargs]
      exact Good.pure_ (fun w' => by simp [builtin, Builtin.cap_, ht, run_underlying' hu, goInt]) h
    · exact h.elim
  · rw [hex, hargs]
    exact Good.pure_ (fun w' => by simp [builtin, Builtin.max_, Builtin.max2]) h
  · rw [hex, hargs]
    exact Good.pure_ (fun w' => by simp [builtin, Builtin.min_, Builtin.min2]) h
  · obtain ⟨v, χ, h1, h2, h3⟩ := asV_ok h
    rw [hex, hargs]
    exact ⟨v, χ, h1, fun w' h => by simp [builtin, h2 w' h], h3⟩
  · exact h.elim

theorem run_mapM_places (fields : Array Field) (w : World) (h : fields.all (fun fl => (P.info? fl.type).isSome) = true) :
    ((fields.mapM fun f => Prod.mk f.offset <$> sizeOf f.type : Sem (Array (Nat × Nat)))).run P w = .ok (fields.map fun fl => (fl.offset, ((P.info? fl.type).map (·.size)).getD 0)) w := by
  have hl : ∀ (l : List Field), l.all (fun fl => (P.info? fl.type).isSome) = true →
      ((l.mapM fun f => Prod.mk f.offset <$> sizeOf f.type : Sem (List (Nat × Nat)))).run P w = .ok (l.map fun fl => (fl.offset, ((P.info? fl.type).map (·.size)).getD 0)) w := by
    intro l
    induction l with
    | nil => intro _; simp
    | cons f r ih =>
      intro h
      simp only [List.all_cons, Bool.and_eq_true] at h
      obtain ⟨i, hi⟩ := Option.isSome_iff_exists.1 h.1
      rw [List.mapM_cons]
      simp [run_sizeOf' hi, ih h.2, hi]
  rw [← Array.toArray_toList (xs := fields)] at h ⊢
  rw [List.mapM_toArray]
  simp only [List.all_toArray] at h
  simp only [Sem.run_map, hl _ h, Result.andThen_ok]
  congr 1
  apply Array.ext'
  simp

theorem mbuild_ok {t : TypeId} {parts : Array (Nat × Value)} {K : Value → Prop} (h : mbuild P t parts.toList K) :
    ∃ v : Value, (∀ w, (Instr.build t parts).run P w = .ok v w) ∧ K v := by
  unfold mbuild at h
  split at h
  · rename_i i fields hi hu
    split at h
    · rename_i z hz
      split at h
      · rename_i cells hf
        cases ha : fields.all (fun fl => (P.info? fl.type).isSome)
        · simp [ha] at h
        · simp only [ha, cond_true] at h
          have hf' : Instr.fill (fun j => (fields[j]?).map fun fl => (fl.offset, ((P.info? fl.type).map (·.size)).getD 0)) z.cells parts.toList = some cells := by
            rw [← hf]
            congr 1
            funext j
            cases hj : fields[j]? with
            | none => rfl
            | some fl =>
              have := Array.all_eq_true_iff_forall_mem.1 ha fl (Array.mem_of_getElem? hj)
              obtain ⟨u, hu'⟩ := Option.isSome_iff_exists.1 this
              simp [hu']
          exact ⟨_, fun w => by simp [Instr.build, zeroValue, run_typeInfo' hi, hz, run_underlying' hu, run_mapM_places fields w ha, hf'], h⟩
      · exact h.elim
    · exact h.elim
  · rename_i i n e hi hu
    split at h
    · rename_i z u hz hu'
      split at h
      · rename_i cells hf
        exact ⟨_, fun w => by simp [Instr.build, zeroValue, run_typeInfo' hi, hz, run_underlying' hu, run_sizeOf' hu', hf], h⟩
      · exact h.elim
    · exact h.elim
  · exact h.elim


theorem bd_of {x : Option Operand} {l : Option Int} (h : (x = none ∧ l = none) ∨ ∃ y k n, x = some y ∧ ρ y = .int k n ∧ l = some n) : Bd (x.map ρ) l := by
  rcases h with ⟨rfl, rfl⟩ | ⟨y, k, n, rfl, h, rfl⟩
  · exact .inl ⟨rfl, rfl⟩
  · exact .inr ⟨k, n, by simp [h], rfl⟩

theorem mrd_ok {o : Oper} {w : World} {K : Value → Chi → Prop} (h : mrd P ρ o w K) : Good P (execOp ρ o) w K := by
  unfold mrd at h
  split at h
  · rename_i x ho; exact Good.pure_ (fun w' => by simp [execOp, ho]) h
  · rename_i x ho; exact Good.pure_ (fun w' => by simp [execOp, ho]) h
  · rename_i c a b ho
    split at h
    · rename_i t ht
      refine Good.pure_ (v := bif t then ρ a else ρ b) (fun w' => ?_) h
      cases t <;> simp [execOp, ho, ht, asBool]
    · exact h.elim
  · rename_i x ho
    split at h
    · rename_i p hp
      cases p with
      | none => exact h.elim
      | some a => exact Good.pure_ (fun w' => by simp [execOp, ho, hp]) h
    · rename_i k first cap hp
      exact Good.pure_ (fun w' => by simp [execOp, ho, hp]) h
    · exact h.elim
  · rename_i op t x y ty ho; exact mbin_ok ho h
  · rename_i op t x ho
    split at h
    · rename_i b hb; exact Good.pure_ (fun w' => by simp [execOp, ho, hb, Op.unary]) h
    · rename_i k n hb; exact Good.pure_ (fun w' => by simp [execOp, ho, hb, Op.unary, Op.intArith]) h
    · exact h.elim
  · rename_i x i ho
    split at h
    · rename_i vs hv
      split at h
      · rename_i v hvi; exact Good.pure_ (fun w' => by simp [execOp, ho, hv, Instr.extract, hvi]) h
      · exact h.elim
    · exact h.elim
  · rename_i s x i ho
    split at h
    · rename_i fs a hu hx
      split at h
      · rename_i fl hfl
        split at h
        · rename_i u hu'
          cases hz : Nat.beq u.size 0
          · simp only [hz, cond_false] at h
            have hne : u.size ≠ 0 := fun e => by simp [e] at hz
            exact Good.pure_ (fun w' => by simp [execOp, ho, hx, Instr.fieldAt, run_underlying' hu, hfl, Instr.sureAddr, fieldPlace, run_sizeOf' hu', hne]) h
          · simp [hz] at h
        · exact h.elim
      · exact h.elim
    · exact h.elim
  · rename_i s x i ho
    split at h
    · rename_i fs cs hu hx
      split at h
      · rename_i fl hfl
        obtain ⟨v, hv, hK⟩ := run_part h
        exact Good.pure_ (fun w' => by simp [execOp, ho, hx, Instr.field, run_underlying' hu, hfl, asAgg, hv]) hK
      · exact h.elim
    · exact h.elim
  · rename_i t x i ho
    split at h
    · rename_i e p n c k j hu hx hi
      split at h
      · rename_i u hu'
        cases p with
        | none => exact h.elim
        | some a =>
          obtain ⟨h0, h1, h⟩ := h
          exact Good.pure_ (fun w' => by simp [execOp, ho, hx, hi, Instr.indexAt, run_underlying' hu, asIntOf, h0, h1, run_sizeOf' hu']) h
      · exact h.elim
    · rename_i n e a k j hu hx hi
      split at h
      · rename_i u hu'
        obtain ⟨h0, h1, h⟩ := h
        exact Good.pure_ (fun w' => by simp [execOp, ho, hx, hi, Instr.indexAt, run_underlying' hu, asIntOf, h0, h1, run_sizeOf' hu', Instr.sureAddr]) h
      · exact h.elim
    · exact h.elim
  · rename_i t x i ho
    split at h
    · rename_i s k j hu hx hi
      obtain ⟨h0, b, hb, h⟩ := h
      exact Good.pure_ (fun w' => by simp [execOp, ho, hx, hi, Instr.index, run_underlying' hu, asIntOf, h0, hb]) h
    · rename_i n e cs k j hu hx hi
      split at h
      · rename_i u hu'
        obtain ⟨h0, h1, h⟩ := h
        have h : mpart P e cs (j.toNat * u.size) (K · none) := by
          cases hf : isFns cs with
          | false => rw [hf] at h; exact h
          | true =>
            rw [hf] at h
            simp only [cond_true] at h
            cases hc : (Nat.beq u.size 1 && Nat.ble n cs.size) with
            | false => rw [hc] at h; exact h.elim
            | true =>
              rw [hc] at h
              simp only [cond_true] at h
              simp only [Bool.and_eq_true] at hc
              have hs := Nat.eq_of_beq_eq_true hc.1
              have hn := Nat.le_of_ble_eq_true hc.2
              unfold mpart
              rw [hu']
              simp only []
              cases ha : aggK P e with
              | none => rw [ha] at h; exact h
              | some b =>
                rw [ha] at h
                cases b with
                | true => exact h.elim
                | false =>
                  simp only [] at h ⊢
                  have hj : j.toNat < cs.size := by omega
                  have := forksK_at (l := cs.toList) (i := 0) (j := j.toNat) (by rw [Nat.zero_add, show Int.ofNat j.toNat = j by simp; omega]; exact h) (by simpa using hj)
                  rw [hs, Nat.mul_one, Array.getElem?_eq_getElem hj]
                  simpa using this
        obtain ⟨v, hv, hK⟩ := run_part h
        exact Good.pure_ (fun w' => by simp [execOp, ho, hx, hi, Instr.index, run_underlying' hu, asIntOf, h0, h1, run_sizeOf' hu', hv]) hK
      · exact h.elim
    · exact h.elim
  · rename_i t x lo hi mx ho
    obtain ⟨l, h, hl⟩ := optInt_ok h
    obtain ⟨hh, h, hhi⟩ := optInt_ok h
    obtain ⟨m, h, hm⟩ := optInt_ok h
    obtain ⟨v, hv, hK⟩ := mslice_ok (bd_of hl) (bd_of hhi) (bd_of hm) h
    exact Good.pure_ (fun w' => by simp [execOp, ho, hv w']) hK
  · rename_i fn first cap ho
    exact Good.pure_ (fun w' => by simp [execOp, ho, Instr.makeFunc]) h
  · rename_i t x ho
    split at h
    · exact h.elim
    · rename_i d hd hu
      refine Good.pure_ (fun w' => ?_) h
      simp only [execOp, ho, Instr.makeInterface, Sem.run_bind, run_underlying' hu, Result.andThen_ok]
      cases d <;> first | rfl | exact absurd rfl (hd _)
    · exact h.elim
  · rename_i t parts ho
    have h' : mbuild P t ((parts.map fun (i, x) => (i, ρ x)).toList) (K · none) := by simpa using h
    obtain ⟨v, hv, hK⟩ := mbuild_ok h'
    exact Good.pure_ (fun w' => by simp only [execOp, ho, Sem.run_bind, hv w', Result.andThen_ok]; rfl) hK
  · rename_i s d x ho
    split at h
    · rename_i ds k j n hs hd hx
      exact Good.pure_ (fun w' => by
        simp only [execOp, ho, hx, convert, Sem.run_bind, run_underlying' hs, run_underlying' hd, Result.andThen_ok]
        rfl) h
    · rename_i ds b hs hd hx
      refine Good.pure_ (fun w' => ?_) h
      simp only [execOp, ho, hx, convert, Sem.run_bind, run_underlying' hs, run_underlying' hd, Result.andThen_ok]
      rfl
    · obtain ⟨v, χ, h1, h2, h3⟩ := asV_ok h
      exact ⟨v, χ, h1, fun w' h => by simp [execOp, ho, h2 w' h], h3⟩
  · rename_i t x ho
    split at h
    · rename_i a hx
      obtain ⟨v, χ, h1, h2, hK⟩ := run_loadVar h
      exact ⟨v, χ, h1, fun w' h => by simp [execOp, ho, hx, Instr.loadAt, Instr.sureAddr, h2 w' h], hK⟩
    · exact h.elim
  · rename_i c ho
    split at h
    · rename_i b hb; exact mcallb_ok ho hb h
    · exact h.elim
  · rename_i t x i ok ho
    obtain ⟨v, χ, h1, h2, h3⟩ := asV_ok h
    exact ⟨v, χ, h1, fun w' h => by simp [execOp, ho, h2 w' h], h3⟩
  · rename_i x t d ok ho
    obtain ⟨v, χ, h1, h2, h3⟩ := asV_ok h
    exact ⟨v, χ, h1, fun w' h => by simp [execOp, ho, h2 w' h], h3⟩
  · exact h.elim
end
end Go.Mx
