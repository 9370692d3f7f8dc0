/- FnExactFindCore: the law answers true, whatever the arguments. No condition. -/
import Derived.Test.YtjnbmknniadbpaaGreatRows
import Derived.Test.YtjnbmknniadbpaaGreatLEFindCore
import Derived.Test.YtjnbmknniadbpaaGreatAmC
namespace Go.Proofs.YtjnbmknniadbpaaGreat
open Go.AM Go.RowKit Go.WideShapes Go.ChangeShapes
set_option maxRecDepth 100000
theorem own : ownKnob Tryz.prog.godebug = none := by kernel_rfl
theorem laidOut : laidOutB Tryz.prog = true := by kernel_rfl
theorem in_t3 {H : Type} {enc : TypeId × Value → H} {w : World} {base : Nat} {spare : Nat → Bool} {held : Bool} {L : Locs} {fuel : Nat} {cs : List Value} {x : DataW H × List MemPlace} (h : DataW.trod enc Tryz.prog w base spare held fuel 3 cs = some x) : ∃ (a0 : Int), RelVs (hview w) L [.int .i64 a0] cs ∧ (I64 a0) := by
  obtain ⟨n, rfl, _, hw⟩ := DataW.trod_int Tryz.underlying3 h
  exact ⟨n, by simp [RelVs, RelV], I64.of_wf hw⟩
theorem cells3 : Tryz.prog.cellsOf 3 = 1 := by kernel_rfl
theorem in_t25 {H : Type} {enc : TypeId × Value → H} {w : World} {base : Nat} {spare : Nat → Bool} {held : Bool} {L : Locs} {fuel : Nat} {cs : List Value} {x : DataW H × List MemPlace} (h : DataW.trod enc Tryz.prog w base spare held fuel 25 cs = some x) : ∃ (a0 : List Int), RelVs (hview w) L [.list (.ints a0)] cs ∧ (a0.length ≤ maxLen ∧ ∀ n ∈ a0, I64 n) := by
  obtain ⟨l, ⟨v, rfl, h1⟩, h2, h3⟩ := in_ints (L := L) Tryz.underlying25 Tryz.underlying3 cells3 h
  exact ⟨l, by simp only [RelVs, and_true]; exact h1, h2, h3⟩
theorem cells76 : Tryz.prog.cellsOf 76 = 2 := by kernel_rfl
theorem cells25 : Tryz.prog.cellsOf 25 = 1 := by kernel_rfl
theorem in_t76 {H : Type} {enc : TypeId × Value → H} {w : World} {base : Nat} {spare : Nat → Bool} {held : Bool} {L : Locs} {fuel : Nat} {cs : List Value} {x : DataW H × List MemPlace} (h : DataW.trod enc Tryz.prog w base spare held fuel 76 cs = some x) : ∃ (a0 : Int) (a1 : List Int), RelVs (hview w) L [.int .i64 a0, .list (.ints a1)] cs ∧ (I64 a0) ∧ (a1.length ≤ maxLen ∧ ∀ n ∈ a1, I64 n) := by
  obtain ⟨xs, m, _, _, hl, hxl, hf⟩ := DataW.trod_struct Tryz.underlying76 h
  have hl' : cs.length = 2 := hl.trans cells76
  match cs, hl' with
  | [c0, c1], _ =>
    have h0 : DataW.trod enc Tryz.prog w base spare held m 3 (([c0, c1].drop 0).take (Tryz.prog.cellsOf 3)) = xs[0]? := hf 0 _ rfl
    rw [cells3, List.getElem?_eq_getElem (show 0 < xs.length by rw [hxl]; decide)] at h0
    obtain ⟨a0, r0, f0_0⟩ := in_t3 (L := L) h0
    have h1 : DataW.trod enc Tryz.prog w base spare held m 25 (([c0, c1].drop 1).take (Tryz.prog.cellsOf 25)) = xs[1]? := hf 1 _ rfl
    rw [cells25, List.getElem?_eq_getElem (show 1 < xs.length by rw [hxl]; decide)] at h1
    obtain ⟨a1, r1, f1_0⟩ := in_t25 (L := L) h1
    exact ⟨a0, a1, r0.append r1, f0_0, f1_0⟩
namespace FnExactFindCore
theorem law {H : Type} {enc : TypeId × Value → H} {W : World} {base : Nat} {args : Array Value} {ds : List (DataW H)} {p : List MemPlace}
    (hval : ∀ (j : Nat) t v, Tryz.f7.params[j]? = some t → args[j]? = some v → Value.okWide Tryz.prog W .any base t v)
    (hA : DataW.TrodAll enc Tryz.prog W 0 (fun _ => true) true Tryz.f7.params.toList args.toList ds p) : ∃ us, AM.Spec Tryz.prog 7 us [] (.bool true) [] ∧ RelVs (hview W) (fun _ => none) us args.toList := by
  rw [Tryz.params7] at hA hval
  obtain ⟨v0, vs0, d0, ds0, p0, q0, hargs, rfl, rfl, h0, r0⟩ := trodAll_cons hA
  obtain ⟨rfl, rfl, rfl⟩ := trodAll_nil r0
  obtain rfl : args = #[v0] := by cases args; simp_all
  obtain ⟨n0, h0⟩ := h0
  obtain ⟨a0_0, a0_1, g0, f0_0, f0_1⟩ := in_t76 (L := fun _ => none) h0
  have e0 := agg_rel Tryz.underlying76 (hval 0 76 v0 rfl rfl) g0
  exact ⟨_, w_laws_FnExactFindCore a0_0 a0_1 true (law_FnExactFindCore a0_0 a0_1 f0_0 f0_1), e0, trivial⟩
theorem lifted (os : Os) (started : os.Started) (H : Type) (enc : TypeId × Value → H) :
    ReturnsInHanded {} Tryz.checked os 7 .any (Rows.fnExactFindCoreSpec.pre6 enc Tryz.prog Tryz.f7 Rows.fnExactFindCoreRow.domain false) (Rows.fnExactFindCoreSpec.post enc Tryz.prog Tryz.f7 false true false false) := by
  refine returnsInHanded_of_change (C := Tryz.checked) own started (by kernel_rfl) Tryz.func7
    (ChangeSpec.witness6 (enc := enc) (C := Tryz.checked) false ⟨#[], #[.agg #[.int .i64 0, .slice none 0 0]], []⟩ 8 (by kernel_rfl) (by kernel_rfl) (by kernel_rfl) (by kernel_rfl)) ?_
  intro W base args ds gs before hval hW _ _
  exact law_contract (P := Tryz.prog) (tb := 4) rfl (by kernel_rfl) Tryz.underlying4 laidOut (by kernel_rfl) (fun ds hl => by
    match ds, hl with
    | [_], _ => rfl) hW fun p hA => law hval hA
theorem holds : Rows.FnExactFindCoreSaid :=
  OpenClaim.holds_of_wide 7 Tryz.f7 rfl rfl rfl rfl rfl rfl rfl ⟨rfl, rfl, rfl, rfl, rfl⟩ rfl rfl rfl rfl rfl (by kernel_rfl) Tryz.func7 (by kernel_rfl)
    (of_decide_eq_true (by kernel_rfl)) (by unfold Func.isWrapper; first | (rw [if_pos (by decide +kernel)]; kernel_rfl) | (rw [if_neg (by decide +kernel)]; exact ⟨rfl, rfl⟩))
    (fun os started H enc _ => lifted os started H enc)
end FnExactFindCore
end Go.Proofs.YtjnbmknniadbpaaGreat
