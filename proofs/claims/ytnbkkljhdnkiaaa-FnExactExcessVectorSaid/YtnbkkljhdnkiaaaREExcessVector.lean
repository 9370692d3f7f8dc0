/- FnExactExcessVector: the law answers true, whatever the arguments. No condition. -/
import Derived.Test.YtnbkkljhdnkiaaaRows
import Derived.Test.YtnbkkljhdnkiaaaLEExcessVector
import Derived.Test.YtnbkkljhdnkiaaaAmC
namespace Go.Proofs.Ytnbkkljhdnkiaaa
open Go.AM Go.RowKit Go.WideShapes Go.ChangeShapes
set_option maxRecDepth 100000
theorem own : ownKnob Try.prog.godebug = none := by kernel_rfl
theorem laidOut : laidOutB Try.prog = true := by kernel_rfl
theorem in_t3 {H : Type} {enc : TypeId × Value → H} {w : World} {base : Nat} {spare : Nat → Bool} {held : Bool} {L : Locs} {fuel : Nat} {cs : List Value} {x : DataW H × List MemPlace} (h : DataW.trod enc Try.prog w base spare held fuel 3 cs = some x) : ∃ (a0 : Int), RelVs (hview w) L [.int .i64 a0] cs ∧ (I64 a0) := by
  obtain ⟨n, rfl, _, hw⟩ := DataW.trod_int Try.underlying3 h
  exact ⟨n, by simp [RelVs, RelV], I64.of_wf hw⟩
theorem cells3 : Try.prog.cellsOf 3 = 1 := by kernel_rfl
theorem in_t22 {H : Type} {enc : TypeId × Value → H} {w : World} {base : Nat} {spare : Nat → Bool} {held : Bool} {L : Locs} {fuel : Nat} {cs : List Value} {x : DataW H × List MemPlace} (h : DataW.trod enc Try.prog w base spare held fuel 22 cs = some x) : ∃ (a0 : List Int), RelVs (hview w) L [.list (.ints a0)] cs ∧ (a0.length ≤ maxLen ∧ ∀ n ∈ a0, I64 n) := by
  obtain ⟨l, ⟨v, rfl, h1⟩, h2, h3⟩ := in_ints (L := L) Try.underlying22 Try.underlying3 cells3 h
  exact ⟨l, by simp only [RelVs, and_true]; exact h1, h2, h3⟩
theorem cells24 : Try.prog.cellsOf 24 = 2 := by kernel_rfl
theorem cells22 : Try.prog.cellsOf 22 = 1 := by kernel_rfl
theorem in_t24 {H : Type} {enc : TypeId × Value → H} {w : World} {base : Nat} {spare : Nat → Bool} {held : Bool} {L : Locs} {fuel : Nat} {cs : List Value} {x : DataW H × List MemPlace} (h : DataW.trod enc Try.prog w base spare held fuel 24 cs = some x) : ∃ (a0 : Int) (a1 : List Int), RelVs (hview w) L [.int .i64 a0, .list (.ints a1)] cs ∧ (I64 a0) ∧ (a1.length ≤ maxLen ∧ ∀ n ∈ a1, I64 n) := by
  obtain ⟨xs, m, _, _, hl, hxl, hf⟩ := DataW.trod_struct Try.underlying24 h
  have hl' : cs.length = 2 := hl.trans cells24
  match cs, hl' with
  | [c0, c1], _ =>
    have h0 : DataW.trod enc Try.prog w base spare held m 3 (([c0, c1].drop 0).take (Try.prog.cellsOf 3)) = xs[0]? := hf 0 _ rfl
    rw [cells3, List.getElem?_eq_getElem (show 0 < xs.length by rw [hxl]; decide)] at h0
    obtain ⟨a0, r0, f0_0⟩ := in_t3 (L := L) h0
    have h1 : DataW.trod enc Try.prog w base spare held m 22 (([c0, c1].drop 1).take (Try.prog.cellsOf 22)) = xs[1]? := hf 1 _ rfl
    rw [cells22, List.getElem?_eq_getElem (show 1 < xs.length by rw [hxl]; decide)] at h1
    obtain ⟨a1, r1, f1_0⟩ := in_t22 (L := L) h1
    exact ⟨a0, a1, r0.append r1, f0_0, f1_0⟩
theorem cells64 : Try.prog.cellsOf 64 = 2 := by kernel_rfl
theorem in_t25 {H : Type} {enc : TypeId × Value → H} {w : World} {base : Nat} {spare : Nat → Bool} {held : Bool} {L : Locs} {fuel : Nat} {cs : List Value} {x : DataW H × List MemPlace} (h : DataW.trod enc Try.prog w base spare held fuel 25 cs = some x) : ∃ (a0 : List Q), RelVs (hview w) L [.list (.rats a0)] cs ∧ (a0.length ≤ maxLen ∧ ∀ q ∈ a0, I64 q.num ∧ I64 q.den) := by
  obtain ⟨l, ⟨v, rfl, h1⟩, h2, h3⟩ := in_rats (L := L) Try.underlying25 Try.underlying64 rfl Try.underlying3 Try.underlying3 rfl rfl cells3 cells3 cells64 h
  exact ⟨l, by simp only [RelVs, and_true]; exact h1, h2, h3⟩
namespace FnExactExcessVector
theorem law {H : Type} {enc : TypeId × Value → H} {W : World} {base : Nat} {args : Array Value} {ds : List (DataW H)} {p : List MemPlace}
    (hval : ∀ (j : Nat) t v, Try.f3.params[j]? = some t → args[j]? = some v → Value.okWide Try.prog W .any base t v)
    (hA : DataW.TrodAll enc Try.prog W 0 (fun _ => true) true Try.f3.params.toList args.toList ds p) : ∃ us, AM.Spec Try.prog 3 us [] (.bool true) [] ∧ RelVs (hview W) (fun _ => none) us args.toList := by
  rw [Try.params3] at hA hval
  obtain ⟨v0, vs0, d0, ds0, p0, q0, hargs, rfl, rfl, h0, r0⟩ := trodAll_cons hA
  obtain ⟨v1, vs1, d1, ds1, p1, q1, rfl, rfl, rfl, h1, r1⟩ := trodAll_cons r0
  obtain ⟨rfl, rfl, rfl⟩ := trodAll_nil r1
  obtain rfl : args = #[v0, v1] := by cases args; simp_all
  obtain ⟨n0, h0⟩ := h0
  obtain ⟨a0_0, a0_1, g0, f0_0, f0_1⟩ := in_t24 (L := fun _ => none) h0
  have e0 := agg_rel Try.underlying24 (hval 0 24 v0 rfl rfl) g0
  obtain ⟨n1, h1⟩ := h1
  obtain ⟨a1_0, g1, f1_0⟩ := in_t25 (L := fun _ => none) h1
  have e1 := one_rel Try.underlying25 rfl (hval 1 25 v1 rfl rfl) g1
  exact ⟨_, w_laws_FnExactExcessVector a0_0 a0_1 a1_0 true (law_FnExactExcessVector a0_0 a0_1 a1_0 f0_0 f0_1 f1_0), e0, e1, trivial⟩
theorem lifted (os : Os) (started : os.Started) (H : Type) (enc : TypeId × Value → H) :
    ReturnsInHanded {} Try.checked os 3 .any (Rows.fnExactExcessVectorSpec.pre6 enc Try.prog Try.f3 Rows.fnExactExcessVectorRow.domain false) (Rows.fnExactExcessVectorSpec.post enc Try.prog Try.f3 false true false false) := by
  refine returnsInHanded_of_change (C := Try.checked) own started (by kernel_rfl) Try.func3
    (ChangeSpec.witness6 (enc := enc) (C := Try.checked) false ⟨#[], #[.agg #[.int .i64 0, .slice none 0 0], .slice none 0 0], []⟩ 8 (by kernel_rfl) (by kernel_rfl) (by kernel_rfl) (by kernel_rfl)) ?_
  intro W base args ds gs before hval hW _ _
  exact law_contract (P := Try.prog) (tb := 4) rfl (by kernel_rfl) Try.underlying4 laidOut (by kernel_rfl) (fun ds hl => by
    match ds, hl with
    | [_, _], _ => rfl) hW fun p hA => law hval hA
theorem holds : Rows.FnExactExcessVectorSaid :=
  OpenClaim.holds_of_wide 3 Try.f3 rfl rfl rfl rfl rfl rfl rfl ⟨rfl, rfl, rfl, rfl, rfl⟩ rfl rfl rfl rfl rfl (by kernel_rfl) Try.func3 (by kernel_rfl)
    (of_decide_eq_true (by kernel_rfl)) (by unfold Func.isWrapper; first | (rw [if_pos (by decide +kernel)]; kernel_rfl) | (rw [if_neg (by decide +kernel)]; exact ⟨rfl, rfl⟩))
    (fun os started H enc _ => lifted os started H enc)
end FnExactExcessVector
end Go.Proofs.Ytnbkkljhdnkiaaa
