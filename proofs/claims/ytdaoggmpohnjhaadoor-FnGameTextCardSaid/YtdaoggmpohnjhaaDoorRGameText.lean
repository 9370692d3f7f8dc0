/- FnGameText: the law answers true, whatever the arguments. No condition. -/
import Derived.Test.YtdaoggmpohnjhaaDoorRows
import Derived.Test.YtdaoggmpohnjhaaDoorCards
import Derived.Test.YtdaoggmpohnjhaaDoorTie
import Derived.Test.YtdaoggmpohnjhaaDoorLGameText
import Derived.Test.YtdaoggmpohnjhaaDoorAmC
import Derived.LaidMore
import Derived.OpenShut
import Derived.Stop.Joined
import Derived.Stop.LaidErr
import Derived.SevenTiedAt
namespace Go.Proofs.YtdaoggmpohnjhaaDoor
open Go.AM Go.RowKit Go.WideShapes Go.ChangeShapes
set_option maxRecDepth 100000
abbrev laid3 : List (String × DataW Unit) := [("math/bits.deBruijn32tab", Rows.laid_math_bits_deBruijn32tab), ("math/bits.deBruijn64tab", Rows.laid_math_bits_deBruijn64tab), ("internal/strconv.uint64pow10", Rows.laid_internal_strconv_uint64pow10)]
theorem door_met (os : Os) (args : Array Value) : laidMetH Tryd.prog laid3 ((World.doorLaid Tryd.prog 400 os).forCall (fun _ _ => 0) ⟨#[], args, []⟩).memory :=
  laidMetH_of_parts3 (fuel := 8) (laidMet_of_run' 8 (by kernel_rfl) (by kernel_rfl)) (by kernel_rfl) (by kernel_rfl)
theorem gTab : Tryd.prog.globalNamed tabName = some 0 := by kernel_rfl
theorem tTab : (Tryd.prog.globals[0]?).map (·.type) = some 86 := by kernel_rfl
theorem dTab : (Rows.laid_internal_strconv_uint64pow10 : DataW Unit) = Lib.tabData .u64 Lib.pow10Tab := rfl
theorem tab_of {W : World} (h : laidMetH Tryd.prog laid3 W) : TabAt Tryd.prog W fun _ => False := by
  rw [MakeChecks.laidMetH_plain _ _ _ (by kernel_rfl)] at h
  have h2 := laidMet.tail (laidMet.tail h)
  rw [dTab] at h2
  have h3 : Lib.TabIs Tryd.prog W tabName .u64 Lib.pow10Tab := Lib.tabIs_of_head gTab tTab Tryd.underlying86 Tryd.underlying81 (by kernel_rfl) (by kernel_rfl) h2
  intro g hg
  refine ⟨id, ?_, h3⟩
  have h4 := h3
  unfold Lib.TabIs World.var? at h4
  rw [hg, Option.bind_some] at h4
  split at h4
  · rename_i hh
    exact (Array.getElem?_eq_some_iff.1 hh).1
  · cases h4
theorem own : ownKnob Tryd.prog.godebug = none := by kernel_rfl
theorem laidOut : laidOutB Tryd.prog = true := by kernel_rfl
theorem cells5 : Tryd.prog.cellsOf 5 = 1 := by kernel_rfl
theorem in_t35 {H : Type} {enc : TypeId × Value → H} {w : World} {base : Nat} {spare : Nat → Bool} {held : Bool} {L : Locs} {fuel : Nat} {cs : List Value} {x : DataW H × List MemPlace} (h : DataW.trod enc Tryd.prog w base spare held fuel 35 cs = some x) : ∃ (a0 : List UInt8), RelVs (hview w) L [.list (.bytes a0)] cs ∧ (a0.length ≤ maxLen) := by
  obtain ⟨l, ⟨v, rfl, h1⟩, h2⟩ := in_bytes (L := L) Tryd.underlying35 Tryd.underlying5 cells5 h
  exact ⟨l, by simp only [RelVs, and_true]; exact h1, h2⟩
namespace FnGameText
theorem law {H : Type} {enc : TypeId × Value → H} {W : World} {base : Nat} {args : Array Value} {ds : List (DataW H)} {p : List MemPlace}
    (hval : ∀ (j : Nat) t v, Tryd.f5.params[j]? = some t → args[j]? = some v → Value.okWide Tryd.prog W .any base t v)
    (hA : DataW.TrodAll enc Tryd.prog W 0 (fun _ => true) true Tryd.f5.params.toList args.toList ds p) : ∃ us, AM.Spec Tryd.prog 5 us [] (.bool true) [] ∧ RelVs (hview W) (fun _ => none) us args.toList := by
  rw [Tryd.params5] at hA hval
  obtain ⟨v0, vs0, d0, ds0, p0, q0, hargs, rfl, rfl, h0, r0⟩ := trodAll_cons hA
  obtain ⟨rfl, rfl, rfl⟩ := trodAll_nil r0
  obtain rfl : args = #[v0] := by cases args; simp_all
  obtain ⟨n0, h0⟩ := h0
  obtain ⟨a0_0, g0, f0_0⟩ := in_t35 (L := fun _ => none) h0
  have e0 := one_rel Tryd.underlying35 rfl (hval 0 35 v0 rfl rfl) g0
  exact ⟨_, w_laws_FnGameText a0_0 true (law_FnGameText a0_0 f0_0), e0, trivial⟩
theorem lifted (os : Os) (started : os.Started) (H : Type) (enc : TypeId × Value → H) :
    ReturnsInHanded {} Tryd.checked os 5 .any (fun w args => (Rows.fnGameTextSpec.pre enc Tryd.prog Tryd.f5 [] false w args ∧ laidMetH Tryd.prog laid3 w) ∧ sizedMet enc Tryd.prog Tryd.f5 (OpenSpec.ofChange Rows.fnGameTextSpec) false w args) (Rows.fnGameTextSpec.post enc Tryd.prog Tryd.f5 false true false false) := by
  refine returnsInHanded_of_change_and (C := Tryd.checked) (X := fun w _ => laidMetH Tryd.prog laid3 w) (fun _ _ _ hh h => h.of_heap hh) own started (by kernel_rfl) Tryd.func5
    (ChangeSpec.witness_shaped (enc := enc) (C := Tryd.checked) (os := os) (X := fun w _ => laidMetH Tryd.prog laid3 w) false (World.doorLaid Tryd.prog 400 os) #[.slice none 0 0] 8 rfl (World.shaped_of_RefB (by kernel_rfl) (by kernel_rfl)) (by kernel_rfl) (by kernel_rfl) (by kernel_rfl) (door_met os _)) ?_
  intro W base args ds gs before hval hW _ _ hL _
  exact law_contract (P := Tryd.prog) (tb := 4) rfl (by kernel_rfl) Tryd.underlying4 laidOut (by kernel_rfl) (fun ds hl => by
    match ds, hl with
    | [_], _ => rfl) hW (tab_of hL) fun p hA => law hval hA
theorem row_holds : Rows.FnGameTextSaid :=
  OpenClaim.holds_of_wide 5 Tryd.f5 rfl rfl rfl rfl rfl rfl rfl ⟨rfl, rfl, rfl, rfl, rfl⟩ rfl rfl rfl rfl rfl (by kernel_rfl) Tryd.func5 (by kernel_rfl)
    (of_decide_eq_true (by kernel_rfl)) (by unfold Func.isWrapper; first | (rw [if_pos (by decide +kernel)]; kernel_rfl) | (rw [if_neg (by decide +kernel)]; exact ⟨rfl, rfl⟩))
    (fun os started H enc _ => lifted os started H enc)
theorem holds : Rows.FnGameTextCardSaid :=
  Claim7.holds_tied_plain_at .later [] [.data, .data, .data] true (true, "56dd30b1d33425410c812176402dfc5e00bcbc14d73df7a6295526e38459c8b8") false
    row_holds (fun _ h => by cases h) (by kernel_rfl) (fun _ h => by cases h) fnGameText_row_tie rfl ⟨rfl, rfl⟩ (by kernel_rfl) rfl
    (fun f fn hf hfn => by
      obtain rfl : f = 5 := Option.some.inj ((show Tryd.prog.funcNamed "loop.example/g00520/laws.FnGameText" = some 5 by kernel_rfl).symm.trans hf) |>.symm
      obtain rfl : fn = Tryd.f5 := (Option.some.inj (Tryd.func5.symm.trans hfn)).symm
      exact ⟨by kernel_rfl, fun j t ht => by
        rw [Tryd.params5] at ht
        have hm : t ∈ [35] := by simpa using Array.mem_of_getElem? ht
        have hall : ([35].all fun u => !Tryd.prog.wantsStandIn u) = true := by kernel_rfl
        exact (show Tryd.prog.wantsStandIn t = false by simpa using List.all_eq_true.1 hall t hm)⟩)
    (by kernel_rfl)
end FnGameText
end Go.Proofs.YtdaoggmpohnjhaaDoor
