/- The oracle of an owner: keys, what is sealed, and wrapped. -/
import Derived.Test.YtgagmbmkpfjbbaaRefG
set_option linter.unusedVariables false
set_option linter.unusedSimpArgs false
set_option maxRecDepth 20000
namespace Go.Proofs.Ytgagmbmkpfjbbaa
open Go Go.Mx Go.Proofs
section
variable {w w' : World} {o o' : Own} {k : Nat} {S : OS} {K : Nat → Prop}
theorem UsedO (h : POrc w o k S) : Calls Try.prog 15 #[.pointer (some (blk k))] w (Ret (.int .i64 S.used.length) fun w' => w' = w) := by
  obtain ⟨g, rfl, h1, h2, h3⟩ := h
  exact (Used_spec h1).mono fun e w' ⟨he, hx⟩ => ⟨he, hx⟩
theorem KeyO (h : POrc w o k S) (ok : Tags w o) (hok : S.ok) (hlen : S.used.length < 1000000) :
    Calls Try.prog 16 #[.pointer (some (blk k))] w (Gs (fun j => j = k) w o (u64V (keyOf S).1) fun w' o' => POrc w' o' k (keyOf S).2) := by
  obtain ⟨g, rfl, h1, h2, h3⟩ := h
  refine (Key_spec h1 hok hlen).mono fun e w' ⟨he, hO, hx⟩ => ?_
  obtain ⟨s, p⟩ := POrc.turn h2 h3 h1.mlt ok hO hx
  exact ⟨_, he, s, p⟩
theorem SealO (h : POrc w o k S) (ok : Tags w o) (hok : S.ok) (hlen : S.used.length < 1000000) (key : Int) {ba pa : Option Addr} {bc pc : Nat} {b p : List UInt8} (hb : Row w o ba (bytesV b)) (hp : Row w o pa (bytesV p)) (hbl : b.length ≤ 1000000) (hpl : p.length ≤ 1000000) :
    Calls Try.prog 26 #[.pointer (some (blk k)), .int .u64 key, .slice ba b.length bc, .slice pa p.length pc] w (Gb (fun j => j = k) w o (sealOf S key b p).1 fun w' o' => POrc w' o' k (sealOf S key b p).2) := by
  obtain ⟨g, rfl, h1, h2, h3⟩ := h
  refine (Seal_spec h1 hok hlen key hb.1 hp.1 (own_out h2 hb) (own_out h2 hp) hbl hpl).mono fun e w' ⟨⟨a, c, he, hc, hr, hf⟩, hO, hx⟩ => ?_
  obtain ⟨s, p⟩ := POrc.turn h2 h3 h1.mlt ok hO hx
  exact ⟨_, a, c, he, s, Row.fresh hr fun ad ha => (hf ad ha).1, hc, p⟩
theorem OpenO (h : POrc w o k S) (ok : Tags w o) (key : Int) {ba xa : Option Addr} {bc xc : Nat} {b x : List UInt8} (hb : RowAt w ba (bytesV b)) (hx : RowAt w xa (bytesV x)) (hxl : x.length < 1000000) (hxc : x.length ≤ xc) (hpls : ∀ s, alook S.sealed (handL x) = some s → s.plain.length ≤ 1000000) :
    Calls Try.prog 30 #[.pointer (some (blk k)), .int .u64 key, .slice ba b.length bc, .slice xa x.length xc] w (Gb no w o (openOf S key b x) fun w' o' => True) := by
  obtain ⟨g, rfl, h1, h2, h3⟩ := h
  refine (Open_spec h1 key hb hx hxl hxc hpls).mono fun e w' ⟨⟨a, c, he, hc, hr, hf⟩, hx⟩ => ?_
  exact ⟨_, a, c, he, Step.of_no hx ok, Row.fresh hr fun ad ha => (hf ad ha).1, hc, trivial⟩
theorem WrapO (h : POrc w o k S) (ok : Tags w o) (hok : S.ok) (hlen : S.used.length < 1000000) (p key : Int) :
    Calls Try.prog 28 #[.pointer (some (blk k)), .int .u64 p, .int .u64 key] w (Gb (fun j => j = k) w o (wrapOf S p key).1 fun w' o' => POrc w' o' k (wrapOf S p key).2) := by
  obtain ⟨g, rfl, h1, h2, h3⟩ := h
  refine (Wrap_spec h1 hok hlen p key).mono fun e w' ⟨⟨a, c, he, hc, hr, hf⟩, hO, hx⟩ => ?_
  obtain ⟨s, p⟩ := POrc.turn h2 h3 h1.mlt ok hO hx
  exact ⟨_, a, c, he, s, Row.fresh hr fun ad ha => (hf ad ha).1, hc, p⟩
theorem UnwrapO (h : POrc w o k S) (s : Int) {xa : Option Addr} {xc : Nat} {x : List UInt8} (hx : RowAt w xa (bytesV x)) (hxl : x.length < 1000000) (hxc : x.length ≤ xc) :
    Calls Try.prog 33 #[.pointer (some (blk k)), .int .u64 s, .slice xa x.length xc] w (Ret (.tuple #[.int .u64 (unwrapOf S s x).1, .int .i64 (unwrapOf S s x).2]) fun w' => Ext no w w') := by
  obtain ⟨g, rfl, h1, h2, h3⟩ := h
  exact (Unwrap_spec h1 s hx hxl hxc).mono fun e w' ⟨he, hx⟩ => ⟨he, hx⟩
end
end Go.Proofs.Ytgagmbmkpfjbbaa
