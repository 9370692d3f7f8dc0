/- FnSimplex: the law answers true, whatever the arguments. No condition. -/
import Derived.Test.YtbkpiknmlomjnaaGreatRows
import Derived.Test.YtbkpiknmlomjnaaGreatLSimplex
import Derived.Test.YtbkpiknmlomjnaaGreatAmC
namespace Go.Proofs.YtbkpiknmlomjnaaGreat
open Go.AM Go.RowKit Go.WideShapes Go.ChangeShapes
set_option maxRecDepth 100000
theorem own : ownKnob Tryz.prog.godebug = none := by kernel_rfl
theorem laidOut : laidOutB Tryz.prog = true := by kernel_rfl
theorem cells5 : Tryz.prog.cellsOf 5 = 1 := by kernel_rfl
theorem in_t22 {H : Type} {enc : TypeId × Value → H} {w : World} {base : Nat} {spare : Nat → Bool} {held : Bool} {L : Locs} {fuel : Nat} {cs : List Value} {x : DataW H × List MemPlace} (h : DataW.trod enc Tryz.prog w base spare held fuel 22 cs = some x) : ∃ (a0 : List UInt8), RelVs (hview w) L [.list (.bytes a0)] cs ∧ (a0.length ≤ maxLen) := by
  obtain ⟨l, ⟨v, rfl, h1⟩, h2⟩ := in_bytes (L := L) Tryz.underlying22 Tryz.underlying5 cells5 h
  exact ⟨l, by simp only [RelVs, and_true]; exact h1, h2⟩
namespace FnSimplex
theorem law {H : Type} {enc : TypeId × Value → H} {W : World} {base : Nat} {args : Array Value} {ds : List (DataW H)} {p : List MemPlace}
    (hval : ∀ (j : Nat) t v, Tryz.f3.params[j]? = some t → args[j]? = some v → Value.okWide Tryz.prog W .any base t v)
    (hA : DataW.TrodAll enc Tryz.prog W 0 (fun _ => true) true Tryz.f3.params.toList args.toList ds p) : ∃ us, AM.Spec Tryz.prog 3 us [] (.bool true) [] ∧ RelVs (hview W) (fun _ => none) us args.toList := by
  rw [Tryz.params3] at hA hval
  obtain ⟨v0, vs0, d0, ds0, p0, q0, hargs, rfl, rfl, h0, r0⟩ := trodAll_cons hA
  obtain ⟨rfl, rfl, rfl⟩ := trodAll_nil r0
  obtain rfl : args = #[v0] := by cases args; simp_all
  obtain ⟨n0, h0⟩ := h0
  obtain ⟨a0_0, g0, f0_0⟩ := in_t22 (L := fun _ => none) h0
  have e0 := one_rel Tryz.underlying22 rfl (hval 0 22 v0 rfl rfl) g0
  exact ⟨_, w_laws_FnSimplex a0_0 true (law_FnSimplex a0_0 f0_0), e0, trivial⟩
theorem lifted (os : Os) (started : os.Started) (H : Type) (enc : TypeId × Value → H) :
    ReturnsInHanded {} Tryz.checked os 3 .any (Rows.fnSimplexSpec.pre6 enc Tryz.prog Tryz.f3 Rows.fnSimplexRow.domain false) (Rows.fnSimplexSpec.post enc Tryz.prog Tryz.f3 false true false false) := by
  refine returnsInHanded_of_change (C := Tryz.checked) own started (by kernel_rfl) Tryz.func3
    (ChangeSpec.witness6 (enc := enc) (C := Tryz.checked) false ⟨#[], #[.slice none 0 0], []⟩ 8 (by kernel_rfl) (by kernel_rfl) (by kernel_rfl) (by kernel_rfl)) ?_
  intro W base args ds gs before hval hW _ _
  exact law_contract (P := Tryz.prog) (tb := 4) rfl (by kernel_rfl) Tryz.underlying4 laidOut (by kernel_rfl) (fun ds hl => by
    match ds, hl with
    | [_], _ => rfl) hW (no_tab (by kernel_rfl)) fun p hA => law hval hA
theorem holds : Rows.FnSimplexSaid :=
  OpenClaim.holds_of_wide 3 Tryz.f3 rfl rfl rfl rfl rfl rfl rfl ⟨rfl, rfl, rfl, rfl, rfl⟩ rfl rfl rfl rfl rfl (by kernel_rfl) Tryz.func3 (by kernel_rfl)
    (of_decide_eq_true (by kernel_rfl)) (by unfold Func.isWrapper; first | (rw [if_pos (by decide +kernel)]; kernel_rfl) | (rw [if_neg (by decide +kernel)]; exact ⟨rfl, rfl⟩))
    (fun os started H enc _ => lifted os started H enc)
end FnSimplex
end Go.Proofs.YtbkpiknmlomjnaaGreat
