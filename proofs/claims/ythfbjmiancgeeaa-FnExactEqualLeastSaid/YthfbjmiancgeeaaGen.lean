/- models and walks -/
import Derived.Test.YthfbjmiancgeeaaProg
import Derived.Test.YthfbjmiancgeeaaAmB
namespace Go.Proofs.Ythfbjmiancgeeaa
open Go.AM
set_option maxRecDepth 100000
set_option maxHeartbeats 4000000
noncomputable def tys : TEnv := [(3, .int .i64),
  (4, .bool),
  (9, .str),
  (24, .slice 3 (.ints [])),
  (26, .struct [(0, 3), (1, 24)] [.int .i64 0, .nil (.ints [])] false),
  (29, .struct [(0, 3), (1, 24)] [.int .i64 0, .nil (.ints [])] false),
  (38, .struct [(0, 3), (1, 3)] [.int .i64 0, .int .i64 0] true),
  (39, .slice 38 (.rats [])),
  (41, .struct [(0, 4), (1, 38), (3, 39), (4, 39)] [.bool false, .int .i64 0, .int .i64 0, .nil (.rats []), .nil (.rats [])] false),
  (44, .struct [(0, 3), (1, 3)] [.int .i64 0, .int .i64 0] true),
  (45, .slice 44 (.rats [])),
  (47, .struct [(0, 4), (1, 44), (3, 45), (4, 45)] [.bool false, .int .i64 0, .int .i64 0, .nil (.rats []), .nil (.rats [])] false),
  (51, .slice 9 (.strs []))]
theorem tysOk : TOk Try.prog tys := tok_of (by kernel_rfl)
theorem mixedOk : Try.prog.follows .mixedOrders = true := by kernel_rfl
/-! spec.l1In -/
noncomputable def E_spec_l1In : Env := ⟨Try.prog, tys, (Try.f27.body).getD .skip, 15, tysOk, mixedOk⟩
abbrev q_spec_l1In (r : Bool) (σ' : ASt) : Prop := resAV E_spec_l1In.T σ' Try.f27.results.toList = some (.bool r) ∧ keepO σ'.ob (namesO []) = []
noncomputable def m_spec_l1In (a0 : Int) (a1 : Int) (a2 : Int) : Option Bool :=
bif decide (a0 ≥ a1) then
(some (decide (a0 ≤ a2)))
else
(some false)
theorem w_spec_l1In (a0 : Int) (a1 : Int) (a2 : Int) (r : Bool) (h : m_spec_l1In a0 a1 a2 = some r) : AM.Spec Try.prog 27 [.int .i64 a0, .int .i64 a1, .int .i64 a2] [] (.bool r) [] := by
  refine spec_of (E := E_spec_l1In) Try.func27 rfl rfl rfl rfl ?_
  refine Tri.run 1 [] [.keep [0, 1, 2] []] (K' := [.code [(1, 0)] 0, .code [] 2]) (σ' := ⟨[(0, .int .i64 a0), (1, .int .i64 a1), (2, .int .i64 a2)], []⟩) rfl trivial rfl ?_
  rcases bif_some h with ⟨hd1, h⟩ | ⟨hd1, h⟩
  · refine Tri.run 1 [.g true] [.keep [6] []] (K' := [.code [] 2]) (σ' := ⟨[(6, .bool (decide (a0 ≤ a2)))], []⟩) rfl ⟨hd1, trivial⟩ rfl ?_
    have h := Option.some.inj h
    subst h
    exact Tri.ret rfl ⟨.inl rfl, rfl, rfl⟩
  · refine Tri.run 1 [.g false] [.keep [6] []] (K' := [.code [] 2]) (σ' := ⟨[(6, .bool false)], []⟩) rfl ⟨hd1, trivial⟩ rfl ?_
    have h := Option.some.inj h
    subst h
    exact Tri.ret rfl ⟨.inl rfl, rfl, rfl⟩
/-! spec.CoreName -/
noncomputable def E_spec_CoreName : Env := ⟨Try.prog, tys, (Try.f9.body).getD .skip, 10, tysOk, mixedOk⟩
abbrev q_spec_CoreName (r : List UInt8) (σ' : ASt) : Prop := resAV E_spec_CoreName.T σ' Try.f9.results.toList = some (.str r) ∧ keepO σ'.ob (namesO []) = []
noncomputable def m_spec_CoreName (a0 : Int) : Option (List UInt8) :=
(m_spec_l1In a0 (0 : Int) (3 : Int)).bind fun v1 =>
bif !v1 then
(some [63])
else
(grd ((0 : Int) ≤ a0 ∧ a0 < ([[98, 97, 100], [112, 111, 105, 110, 116], [101, 109, 112, 116, 121], [108, 105, 109, 105, 116]].length : Int)) <|
some ([[98, 97, 100], [112, 111, 105, 110, 116], [101, 109, 112, 116, 121], [108, 105, 109, 105, 116]].getD a0.toNat []))
theorem w_spec_CoreName (a0 : Int) (r : List UInt8) (h : m_spec_CoreName a0 = some r) : AM.Spec Try.prog 9 [.int .i64 a0] [] (.str r) [] := by
  refine spec_of (E := E_spec_CoreName) Try.func9 rfl rfl rfl rfl ?_
  refine Tri.run 1 [] [.keep [0] []] (K' := [.code [(1, 0), (0, 0)] 0, .code [(1, 0)] 1, .code [] 2]) (σ' := ⟨[(0, .int .i64 a0)], []⟩) rfl trivial rfl ?_
  obtain ⟨v1, hk1, h⟩ := bind_some h
  refine Tri.run 1 [.r ⟨[], .bool v1, []⟩] [.keep [0, 5] []] (K' := [.code [(1, 0)] 1, .code [] 2]) (σ' := ⟨[(0, .int .i64 a0), (5, .bool (!v1))], []⟩) rfl ⟨(w_spec_l1In a0 (0 : Int) (3 : Int) v1 hk1), trivial⟩ rfl ?_
  rcases bif_some h with ⟨hd2, h⟩ | ⟨hd2, h⟩
  · refine Tri.run 2 [.g true] [.keep [2] []] (K' := [.code [(1, 0), (1, 0)] 1, .code [] 2]) (σ' := ⟨[(2, .str [63])], []⟩) rfl ⟨hd2, trivial⟩ rfl ?_
    have h := Option.some.inj h
    subst h
    exact Tri.ret rfl ⟨.inl rfl, rfl, rfl⟩
  · obtain ⟨hg3, h⟩ := grd_some h
    refine Tri.run 2 [.g false] [.keep [2] []] (K' := [.code [] 3]) (σ' := ⟨[(2, .str ([[98, 97, 100], [112, 111, 105, 110, 116], [101, 109, 112, 116, 121], [108, 105, 109, 105, 116]].getD a0.toNat []))], []⟩) rfl ⟨hg3, hd2, trivial⟩ rfl ?_
    have h := Option.some.inj h
    subst h
    exact Tri.ret rfl ⟨.inl rfl, rfl, rfl⟩
/-! impl.within -/
noncomputable def E_impl_within : Env := ⟨Try.prog, tys, (Try.f28.body).getD .skip, 15, tysOk, mixedOk⟩
abbrev q_impl_within (r : Bool) (σ' : ASt) : Prop := resAV E_impl_within.T σ' Try.f28.results.toList = some (.bool r) ∧ keepO σ'.ob (namesO []) = []
noncomputable def m_impl_within (a0 : Int) (a1 : Int) (a2 : Int) : Option Bool :=
bif decide (a0 ≥ a1) then
(some (decide (a0 ≤ a2)))
else
(some false)
theorem w_impl_within (a0 : Int) (a1 : Int) (a2 : Int) (r : Bool) (h : m_impl_within a0 a1 a2 = some r) : AM.Spec Try.prog 28 [.int .i64 a0, .int .i64 a1, .int .i64 a2] [] (.bool r) [] := by
  refine spec_of (E := E_impl_within) Try.func28 rfl rfl rfl rfl ?_
  refine Tri.run 1 [] [.keep [0, 1, 2] []] (K' := [.code [(1, 0)] 0, .code [] 2]) (σ' := ⟨[(0, .int .i64 a0), (1, .int .i64 a1), (2, .int .i64 a2)], []⟩) rfl trivial rfl ?_
  rcases bif_some h with ⟨hd1, h⟩ | ⟨hd1, h⟩
  · refine Tri.run 1 [.g true] [.keep [6] []] (K' := [.code [] 2]) (σ' := ⟨[(6, .bool (decide (a0 ≤ a2)))], []⟩) rfl ⟨hd1, trivial⟩ rfl ?_
    have h := Option.some.inj h
    subst h
    exact Tri.ret rfl ⟨.inl rfl, rfl, rfl⟩
  · refine Tri.run 1 [.g false] [.keep [6] []] (K' := [.code [] 2]) (σ' := ⟨[(6, .bool false)], []⟩) rfl ⟨hd1, trivial⟩ rfl ?_
    have h := Option.some.inj h
    subst h
    exact Tri.ret rfl ⟨.inl rfl, rfl, rfl⟩
/-! slices.Clone(()string,string) -/
noncomputable def E_slices_Clone_string_string : Env := ⟨Try.prog, tys, (Try.f29.body).getD .skip, 8, tysOk, mixedOk⟩
abbrev q_slices_Clone_string_string (r : List (List UInt8)) (σ' : ASt) : Prop := resAV E_slices_Clone_string_string.T σ' Try.f29.results.toList = some (.sl 1000 0) ∧ keepO σ'.ob (namesO [(1000, .arr 9 0 0 (.strs r))]) = [(1000, .arr 9 0 0 (.strs r))]
noncomputable def m_slices_Clone_string_string (a0 : List (List UInt8)) : Option (List (List UInt8)) :=
grd (([] : List (List UInt8)).length + a0.length ≤ room) <|
some ([] ++ a0)
theorem w_slices_Clone_string_string (a0 : List (List UInt8)) (r : List (List UInt8)) (h : m_slices_Clone_string_string a0 = some r) : AM.Spec Try.prog 29 [.list (.strs a0)] [] (.sl 1000 0) [(1000, .arr 9 0 0 (.strs r))] := by
  refine spec_of (E := E_slices_Clone_string_string) Try.func29 rfl rfl rfl rfl ?_
  refine Tri.run 2 [] [.keep [0, 4] []] (K' := [.code [(1, 0)] 1, .code [] 2]) (σ' := ⟨[(0, .list (.strs a0)), (4, .anyb (.strs a0))], []⟩) rfl trivial rfl ?_
  refine Tri.any (p := (.strs a0)) (Kt := [.code [(1, 0), (1, 0)] 0, .code [] 2]) (Kf := [.code [(1, 0), (1, 1)] 0, .code [] 2]) rfl (fun hnil => ?_) ?_
  · have hnil := List.eq_nil_of_length_eq_zero hnil
    subst hnil
    have h := (grd_some h).2
    have h : (some []) = some _ := h
    refine Tri.run 1 [] [.own 2 [] 1100 9, .swap 1100 1000, .keep [2] [1000]] (K' := [.code [(1, 0), (1, 0)] 1, .code [] 2]) (σ' := ⟨[(2, .sl 1000 0)], [(1000, .arr 9 0 0 (.strs []))]⟩) rfl trivial rfl ?_
    have h := Option.some.inj h
    subst h
    exact Tri.ret rfl ⟨.inl rfl, rfl, rfl⟩
  · obtain ⟨hg1, h⟩ := grd_some h
    refine Tri.run 1 [] [.rever 5, .swap 5 1000, .keep [2] [1000]] (K' := [.code [] 3]) (σ' := ⟨[(2, .sl 1000 0)], [(1000, .arr 9 0 0 (.strs ([] ++ a0)))]⟩) rfl ⟨hg1, trivial⟩ rfl ?_
    have h := Option.some.inj h
    subst h
    exact Tri.ret rfl ⟨.inl rfl, rfl, rfl⟩
/-! impl.CoreName -/
noncomputable def E_impl_CoreName : Env := ⟨Try.prog, tys, (Try.f10.body).getD .skip, 16, tysOk, mixedOk⟩
abbrev q_impl_CoreName (r : List UInt8) (σ' : ASt) : Prop := resAV E_impl_CoreName.T σ' Try.f10.results.toList = some (.str r) ∧ keepO σ'.ob (namesO []) = []
noncomputable def m_impl_CoreName (a0 : Int) : Option (List UInt8) :=
(m_impl_within a0 (0 : Int) (IntKind.i64.wrap (([[98, 97, 100], [112, 111, 105, 110, 116], [101, 109, 112, 116, 121], [108, 105, 109, 105, 116]].length : Int) - (1 : Int)))).bind fun v1 =>
bif !v1 then
(some [63])
else
((m_slices_Clone_string_string [[98, 97, 100], [112, 111, 105, 110, 116], [101, 109, 112, 116, 121], [108, 105, 109, 105, 116]]).bind fun v2 =>
grd ((0 : Int) ≤ a0 ∧ a0 < (v2.length : Int)) <|
some (v2.getD a0.toNat []))
theorem w_impl_CoreName (a0 : Int) (r : List UInt8) (h : m_impl_CoreName a0 = some r) : AM.Spec Try.prog 10 [.int .i64 a0] [] (.str r) [] := by
  refine spec_of (E := E_impl_CoreName) Try.func10 rfl rfl rfl rfl ?_
  refine Tri.run 2 [] [.keep [0, 3] [4]] (K' := [.code [(2, 0), (0, 0)] 0, .code [(2, 0)] 1, .code [] 3]) (σ' := ⟨[(0, .int .i64 a0), (3, .sl 4 0)], [(4, .arr 9 0 0 (.strs [[98, 97, 100], [112, 111, 105, 110, 116], [101, 109, 112, 116, 121], [108, 105, 109, 105, 116]]))]⟩) rfl trivial rfl ?_
  obtain ⟨v1, hk1, h⟩ := bind_some h
  refine Tri.run 1 [.r ⟨[], .bool v1, []⟩] [.keep [0, 3, 10] [4]] (K' := [.code [(2, 0)] 1, .code [] 3]) (σ' := ⟨[(0, .int .i64 a0), (3, .sl 4 0), (10, .bool (!v1))], [(4, .arr 9 0 0 (.strs [[98, 97, 100], [112, 111, 105, 110, 116], [101, 109, 112, 116, 121], [108, 105, 109, 105, 116]]))]⟩) rfl ⟨(w_impl_within a0 (0 : Int) (IntKind.i64.wrap (([[98, 97, 100], [112, 111, 105, 110, 116], [101, 109, 112, 116, 121], [108, 105, 109, 105, 116]].length : Int) - (1 : Int))) v1 hk1), trivial⟩ rfl ?_
  rcases bif_some h with ⟨hd2, h⟩ | ⟨hd2, h⟩
  · refine Tri.run 2 [.g true] [.keep [2] []] (K' := [.code [(2, 0), (1, 0)] 1, .code [] 3]) (σ' := ⟨[(2, .str [63])], []⟩) rfl ⟨hd2, trivial⟩ rfl ?_
    have h := Option.some.inj h
    subst h
    exact Tri.ret rfl ⟨.inl rfl, rfl, rfl⟩
  · obtain ⟨v2, hk3, h⟩ := bind_some h
    obtain ⟨hg4, h⟩ := grd_some h
    refine Tri.run 2 [.g false, .r ⟨[], .sl 1100 0, [(1100, .arr 9 0 0 (.strs v2))]⟩] [.keep [2] []] (K' := [.code [] 4]) (σ' := ⟨[(2, .str (v2.getD a0.toNat []))], []⟩) rfl ⟨hg4, ((w_slices_Clone_string_string [[98, 97, 100], [112, 111, 105, 110, 116], [101, 109, 112, 116, 121], [108, 105, 109, 105, 116]] v2 hk3).swap 1000 1100), hd2, trivial⟩ rfl ?_
    have h := Option.some.inj h
    subst h
    exact Tri.ret rfl ⟨.inl rfl, rfl, rfl⟩
/-! laws.FnExactCoreName -/
noncomputable def E_laws_FnExactCoreName : Env := ⟨Try.prog, tys, (Try.f3.body).getD .skip, 12, tysOk, mixedOk⟩
abbrev q_laws_FnExactCoreName (r : Bool) (σ' : ASt) : Prop := resAV E_laws_FnExactCoreName.T σ' Try.f3.results.toList = some (.bool r) ∧ keepO σ'.ob (namesO []) = []
noncomputable def m_laws_FnExactCoreName (a0 : Int) : Option Bool :=
(m_spec_CoreName a0).bind fun v1 =>
(m_impl_CoreName a0).bind fun v2 =>
bif !(v2 == v1) then
(some false)
else
(some true)
theorem w_laws_FnExactCoreName (a0 : Int) (r : Bool) (h : m_laws_FnExactCoreName a0 = some r) : AM.Spec Try.prog 3 [.int .i64 a0] [] (.bool r) [] := by
  refine spec_of (E := E_laws_FnExactCoreName) Try.func3 rfl rfl rfl rfl ?_
  refine Tri.run 1 [] [.keep [0] []] (K' := [.code [(1, 0)] 0, .code [] 2]) (σ' := ⟨[(0, .int .i64 a0)], []⟩) rfl trivial rfl ?_
  obtain ⟨v1, hk1, h⟩ := bind_some h
  obtain ⟨v2, hk2, h⟩ := bind_some h
  refine Tri.run 3 [.r ⟨[], .str v1, []⟩, .r ⟨[], .str v2, []⟩] [.keep [11] []] (K' := [.code [(3, 0)] 1, .code [] 4]) (σ' := ⟨[(11, .bool (!(v2 == v1)))], []⟩) rfl ⟨(w_impl_CoreName a0 v2 hk2), (w_spec_CoreName a0 v1 hk1), trivial⟩ rfl ?_
  rcases bif_some h with ⟨hd3, h⟩ | ⟨hd3, h⟩
  · refine Tri.run 2 [.g true] [.keep [2] []] (K' := [.code [(3, 0), (1, 0)] 1, .code [] 4]) (σ' := ⟨[(2, .bool false)], []⟩) rfl ⟨hd3, trivial⟩ rfl ?_
    have h := Option.some.inj h
    subst h
    exact Tri.ret rfl ⟨.inl rfl, rfl, rfl⟩
  · refine Tri.run 2 [.g false] [.keep [2] []] (K' := [.code [] 5]) (σ' := ⟨[(2, .bool true)], []⟩) rfl ⟨hd3, trivial⟩ rfl ?_
    have h := Option.some.inj h
    subst h
    exact Tri.ret rfl ⟨.inl rfl, rfl, rfl⟩
/-! laws.szIntS -/
noncomputable def E_laws_szIntS : Env := ⟨Try.prog, tys, (Try.f30.body).getD .skip, 12, tysOk, mixedOk⟩
abbrev q_laws_szIntS (r : Int) (σ' : ASt) : Prop := resAV E_laws_szIntS.T σ' Try.f30.results.toList = some (.int .i64 r) ∧ keepO σ'.ob (namesO []) = []
noncomputable def m_laws_szIntS (a0 : List Int) (a1 : Int) : Option Int :=
bif decide ((IntKind.i64.wrap (a1 - (a0.length : Int))) < (0 : Int)) then
(some (-1 : Int))
else
(some (IntKind.i64.wrap (a1 - (a0.length : Int))))
theorem w_laws_szIntS (a0 : List Int) (a1 : Int) (r : Int) (h : m_laws_szIntS a0 a1 = some r) : AM.Spec Try.prog 30 [.list (.ints a0), .int .i64 a1] [] (.int .i64 r) [] := by
  refine spec_of (E := E_laws_szIntS) Try.func30 rfl rfl rfl rfl ?_
  refine Tri.run 3 [] [.keep [1, 10] []] (K' := [.code [(2, 0)] 1, .code [] 3]) (σ' := ⟨[(1, .int .i64 (IntKind.i64.wrap (a1 - (a0.length : Int)))), (10, .bool (decide ((IntKind.i64.wrap (a1 - (a0.length : Int))) < (0 : Int))))], []⟩) rfl trivial rfl ?_
  rcases bif_some h with ⟨hd1, h⟩ | ⟨hd1, h⟩
  · refine Tri.run 2 [.g true] [.keep [4] []] (K' := [.code [(2, 0), (1, 0)] 1, .code [] 3]) (σ' := ⟨[(4, .int .i64 (-1 : Int))], []⟩) rfl ⟨hd1, trivial⟩ rfl ?_
    have h := Option.some.inj h
    subst h
    exact Tri.ret rfl ⟨.inl rfl, rfl, rfl⟩
  · refine Tri.run 2 [.g false] [.keep [4] []] (K' := [.code [] 4]) (σ' := ⟨[(4, .int .i64 (IntKind.i64.wrap (a1 - (a0.length : Int))))], []⟩) rfl ⟨hd1, trivial⟩ rfl ?_
    have h := Option.some.inj h
    subst h
    exact Tri.ret rfl ⟨.inl rfl, rfl, rfl⟩
/-! laws.szGame -/
noncomputable def E_laws_szGame : Env := ⟨Try.prog, tys, (Try.f11.body).getD .skip, 12, tysOk, mixedOk⟩
abbrev q_laws_szGame (r : Int) (σ' : ASt) : Prop := resAV E_laws_szGame.T σ' Try.f11.results.toList = some (.int .i64 r) ∧ keepO σ'.ob (namesO []) = []
noncomputable def m_laws_szGame (_a0 : Int) (a1 : List Int) (a2 : Int) : Option Int :=
(m_laws_szIntS a1 a2).bind fun v1 =>
bif decide (v1 < (0 : Int)) then
(some (-1 : Int))
else
(some v1)
theorem w_laws_szGame (a0 : Int) (a1 : List Int) (a2 : Int) (r : Int) (h : m_laws_szGame a0 a1 a2 = some r) : AM.Spec Try.prog 11 [.agg [.int .i64 a0, .list (.ints a1)], .int .i64 a2] [] (.int .i64 r) [] := by
  refine spec_of (E := E_laws_szGame) Try.func11 rfl rfl rfl rfl ?_
  refine Tri.run 1 [] [.keep [1, 2] [2]] (K' := [.code [(1, 0)] 0, .code [] 2]) (σ' := ⟨[(1, .int .i64 a2), (2, .ptr 2 0)], [(2, .box [.int .i64 a0, .list (.ints a1)])]⟩) rfl trivial rfl ?_
  obtain ⟨v1, hk1, h⟩ := bind_some h
  refine Tri.run 2 [.r ⟨[], .int .i64 v1, []⟩] [.keep [1, 10] []] (K' := [.code [(2, 0)] 1, .code [] 3]) (σ' := ⟨[(1, .int .i64 v1), (10, .bool (decide (v1 < (0 : Int))))], []⟩) rfl ⟨(w_laws_szIntS a1 a2 v1 hk1), trivial⟩ rfl ?_
  rcases bif_some h with ⟨hd2, h⟩ | ⟨hd2, h⟩
  · refine Tri.run 2 [.g true] [.keep [4] []] (K' := [.code [(2, 0), (1, 0)] 1, .code [] 3]) (σ' := ⟨[(4, .int .i64 (-1 : Int))], []⟩) rfl ⟨hd2, trivial⟩ rfl ?_
    have h := Option.some.inj h
    subst h
    exact Tri.ret rfl ⟨.inl rfl, rfl, rfl⟩
  · refine Tri.run 2 [.g false] [.keep [4] []] (K' := [.code [] 4]) (σ' := ⟨[(4, .int .i64 v1)], []⟩) rfl ⟨hd2, trivial⟩ rfl ?_
    have h := Option.some.inj h
    subst h
    exact Tri.ret rfl ⟨.inl rfl, rfl, rfl⟩
/-! laws.toIntS -/
noncomputable def E_laws_toIntS : Env := ⟨Try.prog, tys, (Try.f31.body).getD .skip, 22, tysOk, mixedOk⟩
abbrev q_laws_toIntS (r : List Int) (σ' : ASt) : Prop := resAV E_laws_toIntS.T σ' Try.f31.results.toList = some (.sl 1000 0) ∧ keepO σ'.ob (namesO [(1000, .arr 3 0 0 (.ints r))]) = [(1000, .arr 3 0 0 (.ints r))]
noncomputable def l_laws_toIntS_0 (a0 : List Int) : (Int × (List Int)) → Option ((Int × (List Int)) ⊕ ((List Int)))
  | (v1, v2) => (
bif decide (v1 < (a0.length : Int)) then
(grd ((0 : Int) ≤ v1 ∧ v1 < (a0.length : Int)) <|
grd ((0 : Int) ≤ v1 ∧ v1 < (v2.length : Int)) <|
some (.inl (IntKind.i64.wrap (v1 + (1 : Int)), v2.set v1.toNat (a0.getD v1.toNat 0))))
else
(some (.inr v2)))
noncomputable def m_laws_toIntS (a0 : List Int) : Option (List Int) :=
grd ((0 : Int) ≤ (a0.length : Int) ∧ (a0.length : Int) = (a0.length : Int) ∧ (a0.length : Int) ≤ (room : Int)) <|
(iter (l_laws_toIntS_0 a0) ((0 : Int), List.replicate (a0.length : Int).toNat (0 : Int))).bind fun
| v3 => (
some v3)
theorem w_laws_toIntS (a0 : List Int) (r : List Int) (h : m_laws_toIntS a0 = some r) : AM.Spec Try.prog 31 [.list (.ints a0)] [] (.sl 1000 0) [(1000, .arr 3 0 0 (.ints r))] := by
  refine spec_of (E := E_laws_toIntS) Try.func31 rfl rfl rfl rfl ?_
  obtain ⟨hg1, h⟩ := grd_some h
  refine Tri.run 3 [] [.keep [0, 3, 4] [7]] (K' := [.code [(2, 0), (1, 0)] 0, .blk 0, .code [] 3]) (σ' := ⟨[(0, .list (.ints a0)), (3, .sl 7 0), (4, .int .i64 (0 : Int))], [(7, .arr 3 0 0 (.ints (List.replicate (a0.length : Int).toNat (0 : Int))))]⟩) rfl ⟨hg1, trivial⟩ rfl ?_
  obtain ⟨v3, hk5, h⟩ := bind_some h
  refine Tri.loop (K1 := [.code [(2, 0), (1, 0), (0, 0)] 0]) (K2 := [.blk 0, .code [] 3]) (fun (v1, v2) => ⟨[(0, .list (.ints a0)), (3, .sl 7 0), (4, .int .i64 v1)], [(7, .arr 3 0 0 (.ints v2))]⟩) (fun x e σ' => match x with | v3 => e = .exit 0 ∧ σ' = ⟨[(3, .sl 7 0)], [(7, .arr 3 0 0 (.ints v3))]⟩) hk5 rfl rfl ?_ ?_
  · intro s x hs
    clear h
    have h := hs
    clear hs
    obtain ⟨v1, v2⟩ := s
    refine Tri.run 1 [] [.keep [0, 3, 4, 11] [7]] (K' := [.code [(2, 0), (1, 0), (0, 0), (0, 0)] 1, .code [(2, 0), (1, 0), (0, 0)] 1]) (σ' := ⟨[(0, .list (.ints a0)), (3, .sl 7 0), (4, .int .i64 v1), (11, .bool (decide (v1 < (a0.length : Int))))], [(7, .arr 3 0 0 (.ints v2))]⟩) rfl trivial rfl ?_
    rcases bif_some h with ⟨hd2, h⟩ | ⟨hd2, h⟩
    · obtain ⟨hg3, h⟩ := grd_some h
      obtain ⟨hg4, h⟩ := grd_some h
      refine Tri.run 3 [.g true] [.keep [0, 3, 4] [7]] (K' := []) (σ' := ⟨[(0, .list (.ints a0)), (3, .sl 7 0), (4, .int .i64 (IntKind.i64.wrap (v1 + (1 : Int))))], [(7, .arr 3 0 0 (.ints (v2.set v1.toNat (a0.getD v1.toNat 0))))]⟩) rfl ⟨hg4, hg3, hd2, trivial⟩ rfl ?_
      have h := Option.some.inj h
      subst h
      exact Tri.nil ⟨rfl, rfl⟩
    · refine Tri.run 1 [.g false] [.keep [3] [7]] (K' := [.code [(2, 0), (1, 0), (0, 0), (0, 0), (1, 1)] 0, .code [(2, 0), (1, 0), (0, 0)] 1]) (σ' := ⟨[(3, .sl 7 0)], [(7, .arr 3 0 0 (.ints v2))]⟩) rfl ⟨hd2, trivial⟩ rfl ?_
      have h := Option.some.inj h
      subst h
      exact Tri.out 0 rfl ⟨nofun, rfl, rfl⟩
  · intro e σ' hne hq
    obtain ⟨rfl, rfl⟩ := hq
    refine TriX.exit (K' := [.code [] 3]) rfl ?_
    refine Tri.run 1 [] [.swap 7 1000, .keep [2] [1000]] (K' := [.code [] 4]) (σ' := ⟨[(2, .sl 1000 0)], [(1000, .arr 3 0 0 (.ints v3))]⟩) rfl trivial rfl ?_
    have h := Option.some.inj h
    subst h
    exact Tri.ret rfl ⟨.inl rfl, rfl, rfl⟩
/-! laws.toGame -/
noncomputable def E_laws_toGame : Env := ⟨Try.prog, tys, (Try.f13.body).getD .skip, 12, tysOk, mixedOk⟩
abbrev q_laws_toGame (r : Int × (List Int)) (σ' : ASt) : Prop := resAV E_laws_toGame.T σ' Try.f13.results.toList = some (.agg [.int .i64 r.1, .sl 1000 0]) ∧ keepO σ'.ob (namesO [(1000, .arr 3 0 0 (.ints r.2))]) = [(1000, .arr 3 0 0 (.ints r.2))]
noncomputable def m_laws_toGame (a0 : Int) (a1 : List Int) : Option (Int × (List Int)) :=
(m_laws_toIntS a1).bind fun v1 =>
some (a0, v1)
theorem w_laws_toGame (a0 : Int) (a1 : List Int) (r : Int × (List Int)) (h : m_laws_toGame a0 a1 = some r) : AM.Spec Try.prog 13 [.agg [.int .i64 a0, .list (.ints a1)]] [] (.agg [.int .i64 r.1, .sl 1000 0]) [(1000, .arr 3 0 0 (.ints r.2))] := by
  refine spec_of (E := E_laws_toGame) Try.func13 rfl rfl rfl rfl ?_
  refine Tri.run 3 [] [.keep [1, 2, 3] [1, 2, 3]] (K' := [.code [(3, 0)] 0, .code [] 4]) (σ' := ⟨[(1, .ptr 1 0), (2, .ptr 2 0), (3, .ptr 3 0)], [(1, .box [.int .i64 a0, .list (.ints a1)]), (2, .box [.int .i64 0, .nil (.ints [])]), (3, .box [.int .i64 a0, .nil (.ints [])])]⟩) rfl trivial rfl ?_
  obtain ⟨v1, hk1, h⟩ := bind_some h
  refine Tri.run 2 [.r ⟨[], .sl 1100 0, [(1100, .arr 3 0 0 (.ints v1))]⟩] [.swap 1100 1000, .keep [2] [2, 1000]] (K' := [.code [] 5]) (σ' := ⟨[(2, .ptr 2 0)], [(2, .box [.int .i64 a0, .sl 1000 0]), (1000, .arr 3 0 0 (.ints v1))]⟩) rfl ⟨((w_laws_toIntS a1 v1 hk1).swap 1000 1100), trivial⟩ rfl ?_
  have h := Option.some.inj h
  subst h
  exact Tri.ret rfl ⟨.inl rfl, rfl, rfl⟩
/-! spec.ValueOf -/
noncomputable def E_spec_ValueOf : Env := ⟨Try.prog, tys, (Try.f12.body).getD .skip, 17, tysOk, mixedOk⟩
abbrev q_spec_ValueOf (r : Int) (σ' : ASt) : Prop := resAV E_spec_ValueOf.T σ' Try.f12.results.toList = some (.int .i64 r) ∧ keepO σ'.ob (namesO []) = []
noncomputable def m_spec_ValueOf (_a0 : Int) (a1 : List Int) (a2 : Int) : Option Int :=
(m_spec_l1In a2 (0 : Int) (IntKind.i64.wrap ((a1.length : Int) - (1 : Int)))).bind fun v1 =>
bif !v1 then
(some (0 : Int))
else
(grd ((0 : Int) ≤ a2 ∧ a2 < (a1.length : Int)) <|
some (a1.getD a2.toNat 0))
theorem w_spec_ValueOf (a0 : Int) (a1 : List Int) (a2 : Int) (r : Int) (h : m_spec_ValueOf a0 a1 a2 = some r) : AM.Spec Try.prog 12 [.agg [.int .i64 a0, .list (.ints a1)], .int .i64 a2] [] (.int .i64 r) [] := by
  refine spec_of (E := E_spec_ValueOf) Try.func12 rfl rfl rfl rfl ?_
  refine Tri.run 1 [] [.keep [1, 2] [2]] (K' := [.code [(1, 0), (0, 0)] 0, .code [(1, 0)] 1, .code [] 2]) (σ' := ⟨[(1, .int .i64 a2), (2, .ptr 2 0)], [(2, .box [.int .i64 a0, .list (.ints a1)])]⟩) rfl trivial rfl ?_
  obtain ⟨v1, hk1, h⟩ := bind_some h
  refine Tri.run 1 [.r ⟨[], .bool v1, []⟩] [.keep [1, 2, 11] [2]] (K' := [.code [(1, 0)] 1, .code [] 2]) (σ' := ⟨[(1, .int .i64 a2), (2, .ptr 2 0), (11, .bool (!v1))], [(2, .box [.int .i64 a0, .list (.ints a1)])]⟩) rfl ⟨(w_spec_l1In a2 (0 : Int) (IntKind.i64.wrap ((a1.length : Int) - (1 : Int))) v1 hk1), trivial⟩ rfl ?_
  rcases bif_some h with ⟨hd2, h⟩ | ⟨hd2, h⟩
  · refine Tri.run 2 [.g true] [.keep [4] []] (K' := [.code [(1, 0), (1, 0)] 1, .code [] 2]) (σ' := ⟨[(4, .int .i64 (0 : Int))], []⟩) rfl ⟨hd2, trivial⟩ rfl ?_
    have h := Option.some.inj h
    subst h
    exact Tri.ret rfl ⟨.inl rfl, rfl, rfl⟩
  · obtain ⟨hg3, h⟩ := grd_some h
    refine Tri.run 2 [.g false] [.keep [4] []] (K' := [.code [] 3]) (σ' := ⟨[(4, .int .i64 (a1.getD a2.toNat 0))], []⟩) rfl ⟨hg3, hd2, trivial⟩ rfl ?_
    have h := Option.some.inj h
    subst h
    exact Tri.ret rfl ⟨.inl rfl, rfl, rfl⟩
/-! impl.ValueOf -/
noncomputable def E_impl_ValueOf : Env := ⟨Try.prog, tys, (Try.f14.body).getD .skip, 17, tysOk, mixedOk⟩
abbrev q_impl_ValueOf (r : Int) (σ' : ASt) : Prop := resAV E_impl_ValueOf.T σ' Try.f14.results.toList = some (.int .i64 r) ∧ keepO σ'.ob (namesO []) = []
noncomputable def m_impl_ValueOf (_a0 : Int) (a1 : List Int) (a2 : Int) : Option Int :=
(m_impl_within a2 (0 : Int) (IntKind.i64.wrap ((a1.length : Int) - (1 : Int)))).bind fun v1 =>
bif !v1 then
(some (0 : Int))
else
(grd ((0 : Int) ≤ a2 ∧ a2 < (a1.length : Int)) <|
some (a1.getD a2.toNat 0))
theorem w_impl_ValueOf (a0 : Int) (a1 : List Int) (a2 : Int) (r : Int) (h : m_impl_ValueOf a0 a1 a2 = some r) : AM.Spec Try.prog 14 [.agg [.int .i64 a0, .list (.ints a1)], .int .i64 a2] [] (.int .i64 r) [] := by
  refine spec_of (E := E_impl_ValueOf) Try.func14 rfl rfl rfl rfl ?_
  refine Tri.run 1 [] [.keep [1, 2] [2]] (K' := [.code [(1, 0), (0, 0)] 0, .code [(1, 0)] 1, .code [] 2]) (σ' := ⟨[(1, .int .i64 a2), (2, .ptr 2 0)], [(2, .box [.int .i64 a0, .list (.ints a1)])]⟩) rfl trivial rfl ?_
  obtain ⟨v1, hk1, h⟩ := bind_some h
  refine Tri.run 1 [.r ⟨[], .bool v1, []⟩] [.keep [1, 2, 11] [2]] (K' := [.code [(1, 0)] 1, .code [] 2]) (σ' := ⟨[(1, .int .i64 a2), (2, .ptr 2 0), (11, .bool (!v1))], [(2, .box [.int .i64 a0, .list (.ints a1)])]⟩) rfl ⟨(w_impl_within a2 (0 : Int) (IntKind.i64.wrap ((a1.length : Int) - (1 : Int))) v1 hk1), trivial⟩ rfl ?_
  rcases bif_some h with ⟨hd2, h⟩ | ⟨hd2, h⟩
  · refine Tri.run 2 [.g true] [.keep [4] []] (K' := [.code [(1, 0), (1, 0)] 1, .code [] 2]) (σ' := ⟨[(4, .int .i64 (0 : Int))], []⟩) rfl ⟨hd2, trivial⟩ rfl ?_
    have h := Option.some.inj h
    subst h
    exact Tri.ret rfl ⟨.inl rfl, rfl, rfl⟩
  · obtain ⟨hg3, h⟩ := grd_some h
    refine Tri.run 2 [.g false] [.keep [4] []] (K' := [.code [] 3]) (σ' := ⟨[(4, .int .i64 (a1.getD a2.toNat 0))], []⟩) rfl ⟨hg3, hd2, trivial⟩ rfl ?_
    have h := Option.some.inj h
    subst h
    exact Tri.ret rfl ⟨.inl rfl, rfl, rfl⟩
/-! laws.eqIntS -/
noncomputable def E_laws_eqIntS : Env := ⟨Try.prog, tys, (Try.f32.body).getD .skip, 26, tysOk, mixedOk⟩
abbrev q_laws_eqIntS (r : Bool) (σ' : ASt) : Prop := resAV E_laws_eqIntS.T σ' Try.f32.results.toList = some (.bool r) ∧ keepO σ'.ob (namesO []) = []
noncomputable def l_laws_eqIntS_0 (a0 : List Int) (a1 : List Int) (v1 : Int) : Option (Int ⊕ (Unit ⊕ Bool)) :=
bif decide (v1 < (a0.length : Int)) then
(grd ((0 : Int) ≤ v1 ∧ v1 < (a0.length : Int)) <|
grd ((0 : Int) ≤ v1 ∧ v1 < (a1.length : Int)) <|
bif (a0.getD v1.toNat 0) != (a1.getD v1.toNat 0) then
(some (.inr (.inr false)))
else
(some (.inl (IntKind.i64.wrap (v1 + (1 : Int))))))
else
(some (.inr (.inl ())))
noncomputable def m_laws_eqIntS (a0 : List Int) (a1 : List Int) : Option Bool :=
bif (a0.length : Int) != (a1.length : Int) then
(some false)
else
((iter (l_laws_eqIntS_0 a0 a1) (0 : Int)).bind fun
| (.inl _) => (
some true)
| (.inr r) => some r)
theorem w_laws_eqIntS (a0 : List Int) (a1 : List Int) (r : Bool) (h : m_laws_eqIntS a0 a1 = some r) : AM.Spec Try.prog 32 [.list (.ints a0), .list (.ints a1)] [] (.bool r) [] := by
  refine spec_of (E := E_laws_eqIntS) Try.func32 rfl rfl rfl rfl ?_
  refine Tri.run 2 [] [.keep [0, 1, 10] []] (K' := [.code [(1, 0)] 1, .code [] 2]) (σ' := ⟨[(0, .list (.ints a0)), (1, .list (.ints a1)), (10, .bool ((a0.length : Int) != (a1.length : Int)))], []⟩) rfl trivial rfl ?_
  rcases bif_some h with ⟨hd1, h⟩ | ⟨hd1, h⟩
  · refine Tri.run 2 [.g true] [.keep [4] []] (K' := [.code [(1, 0), (1, 0)] 1, .code [] 2]) (σ' := ⟨[(4, .bool false)], []⟩) rfl ⟨hd1, trivial⟩ rfl ?_
    have h := Option.some.inj h
    subst h
    exact Tri.ret rfl ⟨.inl rfl, rfl, rfl⟩
  · refine Tri.run 2 [.g false] [.keep [0, 1, 5] []] (K' := [.code [(2, 0), (1, 0)] 0, .blk 0, .code [] 3]) (σ' := ⟨[(0, .list (.ints a0)), (1, .list (.ints a1)), (5, .int .i64 (0 : Int))], []⟩) rfl ⟨hd1, trivial⟩ rfl ?_
    obtain ⟨x1, hk6, h⟩ := bind_some h
    refine Tri.loop (K1 := [.code [(2, 0), (1, 0), (0, 0)] 0]) (K2 := [.blk 0, .code [] 3]) (fun v1 => ⟨[(0, .list (.ints a0)), (1, .list (.ints a1)), (5, .int .i64 v1)], []⟩) (fun x e σ' => match x with | (.inl _) => e = .exit 0 ∧ σ' = ⟨[], []⟩ | (.inr r) => e = .ret ∧ q_laws_eqIntS r σ') hk6 rfl rfl ?_ ?_
    · intro v1 x hs
      clear h
      have h := hs
      clear hs
      refine Tri.run 1 [] [.keep [0, 1, 5, 14] []] (K' := [.code [(2, 0), (1, 0), (0, 0), (0, 0)] 1, .code [(2, 0), (1, 0), (0, 0)] 1]) (σ' := ⟨[(0, .list (.ints a0)), (1, .list (.ints a1)), (5, .int .i64 v1), (14, .bool (decide (v1 < (a0.length : Int))))], []⟩) rfl trivial rfl ?_
      rcases bif_some h with ⟨hd2, h⟩ | ⟨hd2, h⟩
      · obtain ⟨hg3, h⟩ := grd_some h
        obtain ⟨hg4, h⟩ := grd_some h
        refine Tri.run 2 [.g true] [.keep [0, 1, 5, 25] []] (K' := [.code [(2, 0), (1, 0), (0, 0), (1, 0), (0, 0)] 1, .blk 1, .code [(2, 0), (1, 0), (0, 0)] 2]) (σ' := ⟨[(0, .list (.ints a0)), (1, .list (.ints a1)), (5, .int .i64 v1), (25, .bool ((a0.getD v1.toNat 0) != (a1.getD v1.toNat 0)))], []⟩) rfl ⟨hg4, hg3, hd2, trivial⟩ rfl ?_
        rcases bif_some h with ⟨hd5, h⟩ | ⟨hd5, h⟩
        · refine Tri.run 2 [.g true] [.keep [4] []] (K' := [.code [(2, 0), (1, 0), (0, 0), (1, 0), (0, 0), (1, 0)] 1, .blk 1, .code [(2, 0), (1, 0), (0, 0)] 2]) (σ' := ⟨[(4, .bool false)], []⟩) rfl ⟨hd5, trivial⟩ rfl ?_
          have h := Option.some.inj h
          subst h
          exact Tri.ret rfl ⟨nofun, rfl, rfl, rfl⟩
        · refine Tri.run 2 [.g false] [.keep [0, 1, 5] []] (K' := []) (σ' := ⟨[(0, .list (.ints a0)), (1, .list (.ints a1)), (5, .int .i64 (IntKind.i64.wrap (v1 + (1 : Int))))], []⟩) rfl ⟨hd5, trivial⟩ rfl ?_
          have h := Option.some.inj h
          subst h
          exact Tri.nil ⟨rfl, rfl⟩
      · refine Tri.run 1 [.g false] [.keep [] []] (K' := [.code [(2, 0), (1, 0), (0, 0), (0, 0), (1, 1)] 0, .code [(2, 0), (1, 0), (0, 0)] 1]) (σ' := ⟨[], []⟩) rfl ⟨hd2, trivial⟩ rfl ?_
        have h := Option.some.inj h
        subst h
        exact Tri.out 0 rfl ⟨nofun, rfl, rfl⟩
    · intro e σ' hne hq
      rcases x1 with _ | r
      · obtain ⟨rfl, rfl⟩ := hq
        refine TriX.exit (K' := [.code [] 3]) rfl ?_
        refine Tri.run 1 [] [.keep [4] []] (K' := [.code [] 4]) (σ' := ⟨[(4, .bool true)], []⟩) rfl trivial rfl ?_
        have h := Option.some.inj h
        subst h
        exact Tri.ret rfl ⟨.inl rfl, rfl, rfl⟩
      · obtain ⟨rfl, hq⟩ := hq
        have h := Option.some.inj h
        subst h
        exact TriX.ret ⟨.inl rfl, hq⟩
/-! laws.eqGame -/
noncomputable def E_laws_eqGame : Env := ⟨Try.prog, tys, (Try.f15.body).getD .skip, 16, tysOk, mixedOk⟩
abbrev q_laws_eqGame (r : Bool) (σ' : ASt) : Prop := resAV E_laws_eqGame.T σ' Try.f15.results.toList = some (.bool r) ∧ keepO σ'.ob (namesO []) = []
noncomputable def m_laws_eqGame (a0 : Int) (a1 : List Int) (a2 : Int) (a3 : List Int) : Option Bool :=
bif a0 != a2 then
(some false)
else
((m_laws_eqIntS a1 a3).bind fun v1 =>
bif !v1 then
(some false)
else
(some true))
theorem w_laws_eqGame (a0 : Int) (a1 : List Int) (a2 : Int) (a3 : List Int) (r : Bool) (h : m_laws_eqGame a0 a1 a2 a3 = some r) : AM.Spec Try.prog 15 [.agg [.int .i64 a0, .list (.ints a1)], .agg [.int .i64 a2, .list (.ints a3)]] [] (.bool r) [] := by
  refine spec_of (E := E_laws_eqGame) Try.func15 rfl rfl rfl rfl ?_
  refine Tri.run 2 [] [.keep [2, 3, 9] [2, 3]] (K' := [.code [(1, 0)] 1, .code [] 2]) (σ' := ⟨[(2, .ptr 2 0), (3, .ptr 3 0), (9, .bool (a0 != a2))], [(2, .box [.int .i64 a0, .list (.ints a1)]), (3, .box [.int .i64 a2, .list (.ints a3)])]⟩) rfl trivial rfl ?_
  rcases bif_some h with ⟨hd1, h⟩ | ⟨hd1, h⟩
  · refine Tri.run 2 [.g true] [.keep [4] []] (K' := [.code [(1, 0), (1, 0)] 1, .code [] 2]) (σ' := ⟨[(4, .bool false)], []⟩) rfl ⟨hd1, trivial⟩ rfl ?_
    have h := Option.some.inj h
    subst h
    exact Tri.ret rfl ⟨.inl rfl, rfl, rfl⟩
  · obtain ⟨v1, hk2, h⟩ := bind_some h
    refine Tri.run 2 [.g false, .r ⟨[], .bool v1, []⟩] [.keep [15] []] (K' := [.code [(2, 0)] 1, .code [] 3]) (σ' := ⟨[(15, .bool (!v1))], []⟩) rfl ⟨(w_laws_eqIntS a1 a3 v1 hk2), hd1, trivial⟩ rfl ?_
    rcases bif_some h with ⟨hd3, h⟩ | ⟨hd3, h⟩
    · refine Tri.run 2 [.g true] [.keep [4] []] (K' := [.code [(2, 0), (1, 0)] 1, .code [] 3]) (σ' := ⟨[(4, .bool false)], []⟩) rfl ⟨hd3, trivial⟩ rfl ?_
      have h := Option.some.inj h
      subst h
      exact Tri.ret rfl ⟨.inl rfl, rfl, rfl⟩
    · refine Tri.run 2 [.g false] [.keep [4] []] (K' := [.code [] 4]) (σ' := ⟨[(4, .bool true)], []⟩) rfl ⟨hd3, trivial⟩ rfl ?_
      have h := Option.some.inj h
      subst h
      exact Tri.ret rfl ⟨.inl rfl, rfl, rfl⟩
/-! laws.FnExactValueOf -/
noncomputable def E_laws_FnExactValueOf : Env := ⟨Try.prog, tys, (Try.f4.body).getD .skip, 31, tysOk, mixedOk⟩
abbrev q_laws_FnExactValueOf (r : Bool) (σ' : ASt) : Prop := resAV E_laws_FnExactValueOf.T σ' Try.f4.results.toList = some (.bool r) ∧ keepO σ'.ob (namesO []) = []
noncomputable def m_laws_FnExactValueOf (a0 : Int) (a1 : List Int) (a2 : Int) : Option Bool :=
(m_laws_szGame a0 a1 (1048576 : Int)).bind fun v1 =>
bif decide (v1 < (0 : Int)) then
(some true)
else
((m_laws_toGame a0 a1).bind fun (v2, v3) =>
(m_spec_ValueOf v2 v3 a2).bind fun v4 =>
(m_laws_toGame a0 a1).bind fun (v5, v6) =>
(m_impl_ValueOf v5 v6 a2).bind fun v7 =>
bif v7 != v4 then
(some false)
else
((m_laws_toGame a0 a1).bind fun (v8, v9) =>
(m_laws_eqGame v5 v6 v8 v9).bind fun v10 =>
bif !v10 then
(some false)
else
(some true)))
theorem w_laws_FnExactValueOf (a0 : Int) (a1 : List Int) (a2 : Int) (r : Bool) (h : m_laws_FnExactValueOf a0 a1 a2 = some r) : AM.Spec Try.prog 4 [.agg [.int .i64 a0, .list (.ints a1)], .int .i64 a2] [] (.bool r) [] := by
  refine spec_of (E := E_laws_FnExactValueOf) Try.func4 rfl rfl rfl rfl ?_
  refine Tri.run 2 [] [.keep [1, 2, 5] [2]] (K' := [.code [(2, 0)] 0, .code [] 3]) (σ' := ⟨[(1, .int .i64 a2), (2, .ptr 2 0), (5, .int .i64 (1048576 : Int))], [(2, .box [.int .i64 a0, .list (.ints a1)])]⟩) rfl trivial rfl ?_
  obtain ⟨v1, hk1, h⟩ := bind_some h
  refine Tri.run 2 [.r ⟨[], .int .i64 v1, []⟩] [.keep [1, 2, 13] [2]] (K' := [.code [(3, 0)] 1, .code [] 4]) (σ' := ⟨[(1, .int .i64 a2), (2, .ptr 2 0), (13, .bool (decide (v1 < (0 : Int))))], [(2, .box [.int .i64 a0, .list (.ints a1)])]⟩) rfl ⟨(w_laws_szGame a0 a1 (1048576 : Int) v1 hk1), trivial⟩ rfl ?_
  rcases bif_some h with ⟨hd2, h⟩ | ⟨hd2, h⟩
  · refine Tri.run 2 [.g true] [.keep [4] []] (K' := [.code [(3, 0), (1, 0)] 1, .code [] 4]) (σ' := ⟨[(4, .bool true)], []⟩) rfl ⟨hd2, trivial⟩ rfl ?_
    have h := Option.some.inj h
    subst h
    exact Tri.ret rfl ⟨.inl rfl, rfl, rfl⟩
  · obtain ⟨⟨v2, v3⟩, hk3, h⟩ := bind_some h
    obtain ⟨v4, hk4, h⟩ := bind_some h
    refine Tri.run 2 [.g false, .r ⟨[], .agg [.int .i64 v2, .sl 1100 0], [(1100, .arr 3 0 0 (.ints v3))]⟩, .r ⟨[], .int .i64 v4, []⟩] [.keep [1, 2, 6] [2]] (K' := [.code [(5, 0)] 0, .code [] 6]) (σ' := ⟨[(1, .int .i64 a2), (2, .ptr 2 0), (6, .int .i64 v4)], [(2, .box [.int .i64 a0, .list (.ints a1)])]⟩) rfl ⟨(w_spec_ValueOf v2 v3 a2 v4 hk4), ((w_laws_toGame a0 a1 (v2, v3) hk3).swap 1000 1100), hd2, trivial⟩ rfl ?_
    obtain ⟨⟨v5, v6⟩, hk5, h⟩ := bind_some h
    obtain ⟨v7, hk6, h⟩ := bind_some h
    refine Tri.run 3 [.r ⟨[], .agg [.int .i64 v5, .sl 1101 0], [(1101, .arr 3 0 0 (.ints v6))]⟩, .r ⟨[], .int .i64 v7, []⟩] [.keep [2, 7, 25] [2, 7, 1101]] (K' := [.code [(7, 0)] 1, .code [] 8]) (σ' := ⟨[(2, .ptr 2 0), (7, .ptr 7 0), (25, .bool (v7 != v4))], [(2, .box [.int .i64 a0, .list (.ints a1)]), (7, .box [.int .i64 v5, .sl 1101 0]), (1101, .arr 3 0 0 (.ints v6))]⟩) rfl ⟨(w_impl_ValueOf v5 v6 a2 v7 hk6), ((w_laws_toGame a0 a1 (v5, v6) hk5).swap 1000 1101), trivial⟩ rfl ?_
    rcases bif_some h with ⟨hd7, h⟩ | ⟨hd7, h⟩
    · refine Tri.run 2 [.g true] [.keep [4] []] (K' := [.code [(7, 0), (1, 0)] 1, .code [] 8]) (σ' := ⟨[(4, .bool false)], []⟩) rfl ⟨hd7, trivial⟩ rfl ?_
      have h := Option.some.inj h
      subst h
      exact Tri.ret rfl ⟨.inl rfl, rfl, rfl⟩
    · obtain ⟨⟨v8, v9⟩, hk8, h⟩ := bind_some h
      obtain ⟨v10, hk9, h⟩ := bind_some h
      refine Tri.run 2 [.g false, .r ⟨[], .agg [.int .i64 v8, .sl 1102 0], [(1102, .arr 3 0 0 (.ints v9))]⟩, .r ⟨[], .bool v10, []⟩] [.keep [30] []] (K' := [.code [(8, 0)] 1, .code [] 9]) (σ' := ⟨[(30, .bool (!v10))], []⟩) rfl ⟨(w_laws_eqGame v5 v6 v8 v9 v10 hk9), ((w_laws_toGame a0 a1 (v8, v9) hk8).swap 1000 1102), hd7, trivial⟩ rfl ?_
      rcases bif_some h with ⟨hd10, h⟩ | ⟨hd10, h⟩
      · refine Tri.run 2 [.g true] [.keep [4] []] (K' := [.code [(8, 0), (1, 0)] 1, .code [] 9]) (σ' := ⟨[(4, .bool false)], []⟩) rfl ⟨hd10, trivial⟩ rfl ?_
        have h := Option.some.inj h
        subst h
        exact Tri.ret rfl ⟨.inl rfl, rfl, rfl⟩
      · refine Tri.run 2 [.g false] [.keep [4] []] (K' := [.code [] 10]) (σ' := ⟨[(4, .bool true)], []⟩) rfl ⟨hd10, trivial⟩ rfl ?_
        have h := Option.some.inj h
        subst h
        exact Tri.ret rfl ⟨.inl rfl, rfl, rfl⟩
/-! spec.l8Ints -/
noncomputable def E_spec_l8Ints : Env := ⟨Try.prog, tys, (Try.f33.body).getD .skip, 26, tysOk, mixedOk⟩
abbrev q_spec_l8Ints (r : Bool) (σ' : ASt) : Prop := resAV E_spec_l8Ints.T σ' Try.f33.results.toList = some (.bool r) ∧ keepO σ'.ob (namesO []) = []
noncomputable def l_spec_l8Ints_0 (a0 : List Int) (a1 : List Int) (v1 : Int) : Option (Int ⊕ (Unit ⊕ Bool)) :=
bif decide (v1 < (a0.length : Int)) then
(grd ((0 : Int) ≤ v1 ∧ v1 < (a0.length : Int)) <|
grd ((0 : Int) ≤ v1 ∧ v1 < (a1.length : Int)) <|
bif (a0.getD v1.toNat 0) != (a1.getD v1.toNat 0) then
(some (.inr (.inr false)))
else
(some (.inl (IntKind.i64.wrap (v1 + (1 : Int))))))
else
(some (.inr (.inl ())))
noncomputable def m_spec_l8Ints (a0 : List Int) (a1 : List Int) : Option Bool :=
bif (a0.length : Int) != (a1.length : Int) then
(some false)
else
((iter (l_spec_l8Ints_0 a0 a1) (0 : Int)).bind fun
| (.inl _) => (
some true)
| (.inr r) => some r)
theorem w_spec_l8Ints (a0 : List Int) (a1 : List Int) (r : Bool) (h : m_spec_l8Ints a0 a1 = some r) : AM.Spec Try.prog 33 [.list (.ints a0), .list (.ints a1)] [] (.bool r) [] := by
  refine spec_of (E := E_spec_l8Ints) Try.func33 rfl rfl rfl rfl ?_
  refine Tri.run 2 [] [.keep [0, 1, 10] []] (K' := [.code [(1, 0)] 1, .code [] 2]) (σ' := ⟨[(0, .list (.ints a0)), (1, .list (.ints a1)), (10, .bool ((a0.length : Int) != (a1.length : Int)))], []⟩) rfl trivial rfl ?_
  rcases bif_some h with ⟨hd1, h⟩ | ⟨hd1, h⟩
  · refine Tri.run 2 [.g true] [.keep [4] []] (K' := [.code [(1, 0), (1, 0)] 1, .code [] 2]) (σ' := ⟨[(4, .bool false)], []⟩) rfl ⟨hd1, trivial⟩ rfl ?_
    have h := Option.some.inj h
    subst h
    exact Tri.ret rfl ⟨.inl rfl, rfl, rfl⟩
  · refine Tri.run 2 [.g false] [.keep [0, 1, 5] []] (K' := [.code [(2, 0), (1, 0)] 0, .blk 0, .code [] 3]) (σ' := ⟨[(0, .list (.ints a0)), (1, .list (.ints a1)), (5, .int .i64 (0 : Int))], []⟩) rfl ⟨hd1, trivial⟩ rfl ?_
    obtain ⟨x1, hk6, h⟩ := bind_some h
    refine Tri.loop (K1 := [.code [(2, 0), (1, 0), (0, 0)] 0]) (K2 := [.blk 0, .code [] 3]) (fun v1 => ⟨[(0, .list (.ints a0)), (1, .list (.ints a1)), (5, .int .i64 v1)], []⟩) (fun x e σ' => match x with | (.inl _) => e = .exit 0 ∧ σ' = ⟨[], []⟩ | (.inr r) => e = .ret ∧ q_spec_l8Ints r σ') hk6 rfl rfl ?_ ?_
    · intro v1 x hs
      clear h
      have h := hs
      clear hs
      refine Tri.run 1 [] [.keep [0, 1, 5, 14] []] (K' := [.code [(2, 0), (1, 0), (0, 0), (0, 0)] 1, .code [(2, 0), (1, 0), (0, 0)] 1]) (σ' := ⟨[(0, .list (.ints a0)), (1, .list (.ints a1)), (5, .int .i64 v1), (14, .bool (decide (v1 < (a0.length : Int))))], []⟩) rfl trivial rfl ?_
      rcases bif_some h with ⟨hd2, h⟩ | ⟨hd2, h⟩
      · obtain ⟨hg3, h⟩ := grd_some h
        obtain ⟨hg4, h⟩ := grd_some h
        refine Tri.run 2 [.g true] [.keep [0, 1, 5, 25] []] (K' := [.code [(2, 0), (1, 0), (0, 0), (1, 0), (0, 0)] 1, .blk 1, .code [(2, 0), (1, 0), (0, 0)] 2]) (σ' := ⟨[(0, .list (.ints a0)), (1, .list (.ints a1)), (5, .int .i64 v1), (25, .bool ((a0.getD v1.toNat 0) != (a1.getD v1.toNat 0)))], []⟩) rfl ⟨hg4, hg3, hd2, trivial⟩ rfl ?_
        rcases bif_some h with ⟨hd5, h⟩ | ⟨hd5, h⟩
        · refine Tri.run 2 [.g true] [.keep [4] []] (K' := [.code [(2, 0), (1, 0), (0, 0), (1, 0), (0, 0), (1, 0)] 1, .blk 1, .code [(2, 0), (1, 0), (0, 0)] 2]) (σ' := ⟨[(4, .bool false)], []⟩) rfl ⟨hd5, trivial⟩ rfl ?_
          have h := Option.some.inj h
          subst h
          exact Tri.ret rfl ⟨nofun, rfl, rfl, rfl⟩
        · refine Tri.run 2 [.g false] [.keep [0, 1, 5] []] (K' := []) (σ' := ⟨[(0, .list (.ints a0)), (1, .list (.ints a1)), (5, .int .i64 (IntKind.i64.wrap (v1 + (1 : Int))))], []⟩) rfl ⟨hd5, trivial⟩ rfl ?_
          have h := Option.some.inj h
          subst h
          exact Tri.nil ⟨rfl, rfl⟩
      · refine Tri.run 1 [.g false] [.keep [] []] (K' := [.code [(2, 0), (1, 0), (0, 0), (0, 0), (1, 1)] 0, .code [(2, 0), (1, 0), (0, 0)] 1]) (σ' := ⟨[], []⟩) rfl ⟨hd2, trivial⟩ rfl ?_
        have h := Option.some.inj h
        subst h
        exact Tri.out 0 rfl ⟨nofun, rfl, rfl⟩
    · intro e σ' hne hq
      rcases x1 with _ | r
      · obtain ⟨rfl, rfl⟩ := hq
        refine TriX.exit (K' := [.code [] 3]) rfl ?_
        refine Tri.run 1 [] [.keep [4] []] (K' := [.code [] 4]) (σ' := ⟨[(4, .bool true)], []⟩) rfl trivial rfl ?_
        have h := Option.some.inj h
        subst h
        exact Tri.ret rfl ⟨.inl rfl, rfl, rfl⟩
      · obtain ⟨rfl, hq⟩ := hq
        have h := Option.some.inj h
        subst h
        exact TriX.ret ⟨.inl rfl, hq⟩
/-! spec.EqualGame -/
noncomputable def E_spec_EqualGame : Env := ⟨Try.prog, tys, (Try.f16.body).getD .skip, 17, tysOk, mixedOk⟩
abbrev q_spec_EqualGame (r : Bool) (σ' : ASt) : Prop := resAV E_spec_EqualGame.T σ' Try.f16.results.toList = some (.bool r) ∧ keepO σ'.ob (namesO []) = []
noncomputable def m_spec_EqualGame (a0 : Int) (a1 : List Int) (a2 : Int) (a3 : List Int) : Option Bool :=
bif a0 == a2 then
((m_spec_l8Ints a1 a3).bind fun v1 =>
some v1)
else
(some false)
theorem w_spec_EqualGame (a0 : Int) (a1 : List Int) (a2 : Int) (a3 : List Int) (r : Bool) (h : m_spec_EqualGame a0 a1 a2 a3 = some r) : AM.Spec Try.prog 16 [.agg [.int .i64 a0, .list (.ints a1)], .agg [.int .i64 a2, .list (.ints a3)]] [] (.bool r) [] := by
  refine spec_of (E := E_spec_EqualGame) Try.func16 rfl rfl rfl rfl ?_
  refine Tri.run 1 [] [.keep [2, 3] [2, 3]] (K' := [.code [(1, 0)] 0, .code [] 2]) (σ' := ⟨[(2, .ptr 2 0), (3, .ptr 3 0)], [(2, .box [.int .i64 a0, .list (.ints a1)]), (3, .box [.int .i64 a2, .list (.ints a3)])]⟩) rfl trivial rfl ?_
  rcases bif_some h with ⟨hd1, h⟩ | ⟨hd1, h⟩
  · obtain ⟨v1, hk2, h⟩ := bind_some h
    refine Tri.run 1 [.g true, .r ⟨[], .bool v1, []⟩] [.keep [4] []] (K' := [.code [] 2]) (σ' := ⟨[(4, .bool v1)], []⟩) rfl ⟨(w_spec_l8Ints a1 a3 v1 hk2), hd1, trivial⟩ rfl ?_
    have h := Option.some.inj h
    subst h
    exact Tri.ret rfl ⟨.inl rfl, rfl, rfl⟩
  · refine Tri.run 1 [.g false] [.keep [4] []] (K' := [.code [] 2]) (σ' := ⟨[(4, .bool false)], []⟩) rfl ⟨hd1, trivial⟩ rfl ?_
    have h := Option.some.inj h
    subst h
    exact Tri.ret rfl ⟨.inl rfl, rfl, rfl⟩
/-! slices.Equal(()int,int) -/
noncomputable def E_slices_Equal_int_int : Env := ⟨Try.prog, tys, (Try.f34.body).getD .skip, 26, tysOk, mixedOk⟩
abbrev q_slices_Equal_int_int (r : Bool) (σ' : ASt) : Prop := resAV E_slices_Equal_int_int.T σ' Try.f34.results.toList = some (.bool r) ∧ keepO σ'.ob (namesO []) = []
noncomputable def l_slices_Equal_int_int_0 (a0 : List Int) (a1 : List Int) (v1 : Int) : Option (Int ⊕ (Unit ⊕ Bool)) :=
bif decide (v1 < (a0.length : Int)) then
(grd ((0 : Int) ≤ v1 ∧ v1 < (a0.length : Int)) <|
grd ((0 : Int) ≤ v1 ∧ v1 < (a1.length : Int)) <|
bif (a0.getD v1.toNat 0) != (a1.getD v1.toNat 0) then
(some (.inr (.inr false)))
else
(some (.inl (IntKind.i64.wrap (v1 + (1 : Int))))))
else
(some (.inr (.inl ())))
noncomputable def m_slices_Equal_int_int (a0 : List Int) (a1 : List Int) : Option Bool :=
bif (a0.length : Int) != (a1.length : Int) then
(some false)
else
((iter (l_slices_Equal_int_int_0 a0 a1) (0 : Int)).bind fun
| (.inl _) => (
some true)
| (.inr r) => some r)
theorem w_slices_Equal_int_int (a0 : List Int) (a1 : List Int) (r : Bool) (h : m_slices_Equal_int_int a0 a1 = some r) : AM.Spec Try.prog 34 [.list (.ints a0), .list (.ints a1)] [] (.bool r) [] := by
  refine spec_of (E := E_slices_Equal_int_int) Try.func34 rfl rfl rfl rfl ?_
  refine Tri.run 2 [] [.keep [0, 1, 10] []] (K' := [.code [(1, 0)] 1, .code [] 2]) (σ' := ⟨[(0, .list (.ints a0)), (1, .list (.ints a1)), (10, .bool ((a0.length : Int) != (a1.length : Int)))], []⟩) rfl trivial rfl ?_
  rcases bif_some h with ⟨hd1, h⟩ | ⟨hd1, h⟩
  · refine Tri.run 2 [.g true] [.keep [4] []] (K' := [.code [(1, 0), (1, 0)] 1, .code [] 2]) (σ' := ⟨[(4, .bool false)], []⟩) rfl ⟨hd1, trivial⟩ rfl ?_
    have h := Option.some.inj h
    subst h
    exact Tri.ret rfl ⟨.inl rfl, rfl, rfl⟩
  · refine Tri.run 2 [.g false] [.keep [0, 1, 12, 13] []] (K' := [.code [(2, 0), (1, 0)] 0, .blk 0, .code [] 3]) (σ' := ⟨[(0, .list (.ints a0)), (1, .list (.ints a1)), (12, .int .i64 (a0.length : Int)), (13, .int .i64 (0 : Int))], []⟩) rfl ⟨hd1, trivial⟩ rfl ?_
    obtain ⟨x1, hk6, h⟩ := bind_some h
    refine Tri.loop (K1 := [.code [(2, 0), (1, 0), (0, 0)] 0]) (K2 := [.blk 0, .code [] 3]) (fun v1 => ⟨[(0, .list (.ints a0)), (1, .list (.ints a1)), (12, .int .i64 (a0.length : Int)), (13, .int .i64 v1)], []⟩) (fun x e σ' => match x with | (.inl _) => e = .exit 0 ∧ σ' = ⟨[], []⟩ | (.inr r) => e = .ret ∧ q_slices_Equal_int_int r σ') hk6 rfl rfl ?_ ?_
    · intro v1 x hs
      clear h
      have h := hs
      clear hs
      refine Tri.run 1 [] [.keep [0, 1, 12, 13, 14] []] (K' := [.code [(2, 0), (1, 0), (0, 0), (1, 0)] 0, .code [(2, 0), (1, 0), (0, 0)] 2]) (σ' := ⟨[(0, .list (.ints a0)), (1, .list (.ints a1)), (12, .int .i64 (a0.length : Int)), (13, .int .i64 v1), (14, .bool (decide (v1 < (a0.length : Int))))], []⟩) rfl trivial rfl ?_
      rcases bif_some h with ⟨hd2, h⟩ | ⟨hd2, h⟩
      · obtain ⟨hg3, h⟩ := grd_some h
        obtain ⟨hg4, h⟩ := grd_some h
        refine Tri.run 3 [.g true] [.keep [0, 1, 12, 13, 24] []] (K' := [.code [(2, 0), (1, 0), (0, 0), (2, 0), (0, 0)] 2, .blk 1, .code [(2, 0), (1, 0), (0, 0)] 3]) (σ' := ⟨[(0, .list (.ints a0)), (1, .list (.ints a1)), (12, .int .i64 (a0.length : Int)), (13, .int .i64 v1), (24, .bool ((a0.getD v1.toNat 0) != (a1.getD v1.toNat 0)))], []⟩) rfl ⟨hg4, hg3, hd2, trivial⟩ rfl ?_
        rcases bif_some h with ⟨hd5, h⟩ | ⟨hd5, h⟩
        · refine Tri.run 2 [.g true] [.keep [4] []] (K' := [.code [(2, 0), (1, 0), (0, 0), (2, 0), (0, 0), (2, 0)] 1, .blk 1, .code [(2, 0), (1, 0), (0, 0)] 3]) (σ' := ⟨[(4, .bool false)], []⟩) rfl ⟨hd5, trivial⟩ rfl ?_
          have h := Option.some.inj h
          subst h
          exact Tri.ret rfl ⟨nofun, rfl, rfl, rfl⟩
        · refine Tri.run 2 [.g false] [.keep [0, 1, 12, 13] []] (K' := []) (σ' := ⟨[(0, .list (.ints a0)), (1, .list (.ints a1)), (12, .int .i64 (a0.length : Int)), (13, .int .i64 (IntKind.i64.wrap (v1 + (1 : Int))))], []⟩) rfl ⟨hd5, trivial⟩ rfl ?_
          have h := Option.some.inj h
          subst h
          exact Tri.nil ⟨rfl, rfl⟩
      · refine Tri.run 1 [.g false] [.keep [] []] (K' := [.code [(2, 0), (1, 0), (0, 0), (1, 0), (0, 1)] 0, .code [(2, 0), (1, 0), (0, 0)] 2]) (σ' := ⟨[], []⟩) rfl ⟨hd2, trivial⟩ rfl ?_
        have h := Option.some.inj h
        subst h
        exact Tri.out 0 rfl ⟨nofun, rfl, rfl⟩
    · intro e σ' hne hq
      rcases x1 with _ | r
      · obtain ⟨rfl, rfl⟩ := hq
        refine TriX.exit (K' := [.code [] 3]) rfl ?_
        refine Tri.run 1 [] [.keep [4] []] (K' := [.code [] 4]) (σ' := ⟨[(4, .bool true)], []⟩) rfl trivial rfl ?_
        have h := Option.some.inj h
        subst h
        exact Tri.ret rfl ⟨.inl rfl, rfl, rfl⟩
      · obtain ⟨rfl, hq⟩ := hq
        have h := Option.some.inj h
        subst h
        exact TriX.ret ⟨.inl rfl, hq⟩
/-! impl.EqualGame -/
noncomputable def E_impl_EqualGame : Env := ⟨Try.prog, tys, (Try.f17.body).getD .skip, 17, tysOk, mixedOk⟩
abbrev q_impl_EqualGame (r : Bool) (σ' : ASt) : Prop := resAV E_impl_EqualGame.T σ' Try.f17.results.toList = some (.bool r) ∧ keepO σ'.ob (namesO []) = []
noncomputable def m_impl_EqualGame (a0 : Int) (a1 : List Int) (a2 : Int) (a3 : List Int) : Option Bool :=
bif a0 == a2 then
((m_slices_Equal_int_int a1 a3).bind fun v1 =>
some v1)
else
(some false)
theorem w_impl_EqualGame (a0 : Int) (a1 : List Int) (a2 : Int) (a3 : List Int) (r : Bool) (h : m_impl_EqualGame a0 a1 a2 a3 = some r) : AM.Spec Try.prog 17 [.agg [.int .i64 a0, .list (.ints a1)], .agg [.int .i64 a2, .list (.ints a3)]] [] (.bool r) [] := by
  refine spec_of (E := E_impl_EqualGame) Try.func17 rfl rfl rfl rfl ?_
  refine Tri.run 1 [] [.keep [2, 3] [2, 3]] (K' := [.code [(1, 0)] 0, .code [] 2]) (σ' := ⟨[(2, .ptr 2 0), (3, .ptr 3 0)], [(2, .box [.int .i64 a0, .list (.ints a1)]), (3, .box [.int .i64 a2, .list (.ints a3)])]⟩) rfl trivial rfl ?_
  rcases bif_some h with ⟨hd1, h⟩ | ⟨hd1, h⟩
  · obtain ⟨v1, hk2, h⟩ := bind_some h
    refine Tri.run 1 [.g true, .r ⟨[], .bool v1, []⟩] [.keep [4] []] (K' := [.code [] 2]) (σ' := ⟨[(4, .bool v1)], []⟩) rfl ⟨(w_slices_Equal_int_int a1 a3 v1 hk2), hd1, trivial⟩ rfl ?_
    have h := Option.some.inj h
    subst h
    exact Tri.ret rfl ⟨.inl rfl, rfl, rfl⟩
  · refine Tri.run 1 [.g false] [.keep [4] []] (K' := [.code [] 2]) (σ' := ⟨[(4, .bool false)], []⟩) rfl ⟨hd1, trivial⟩ rfl ?_
    have h := Option.some.inj h
    subst h
    exact Tri.ret rfl ⟨.inl rfl, rfl, rfl⟩
/-! laws.FnExactEqualGame -/
noncomputable def E_laws_FnExactEqualGame : Env := ⟨Try.prog, tys, (Try.f5.body).getD .skip, 45, tysOk, mixedOk⟩
abbrev q_laws_FnExactEqualGame (r : Bool) (σ' : ASt) : Prop := resAV E_laws_FnExactEqualGame.T σ' Try.f5.results.toList = some (.bool r) ∧ keepO σ'.ob (namesO []) = []
noncomputable def m_laws_FnExactEqualGame (a0 : Int) (a1 : List Int) (a2 : Int) (a3 : List Int) : Option Bool :=
(m_laws_szGame a0 a1 (1048576 : Int)).bind fun v1 =>
bif decide (v1 < (0 : Int)) then
(some true)
else
((m_laws_szGame a2 a3 v1).bind fun v2 =>
bif decide (v2 < (0 : Int)) then
(some true)
else
((m_laws_toGame a0 a1).bind fun (v3, v4) =>
(m_laws_toGame a2 a3).bind fun (v5, v6) =>
(m_spec_EqualGame v3 v4 v5 v6).bind fun v7 =>
(m_laws_toGame a0 a1).bind fun (v8, v9) =>
(m_laws_toGame a2 a3).bind fun (v10, v11) =>
(m_impl_EqualGame v8 v9 v10 v11).bind fun v12 =>
bif v12 != v7 then
(some false)
else
((m_laws_toGame a0 a1).bind fun (v13, v14) =>
(m_laws_eqGame v8 v9 v13 v14).bind fun v15 =>
bif !v15 then
(some false)
else
((m_laws_toGame a2 a3).bind fun (v16, v17) =>
(m_laws_eqGame v10 v11 v16 v17).bind fun v18 =>
bif !v18 then
(some false)
else
(some true)))))
theorem w_laws_FnExactEqualGame (a0 : Int) (a1 : List Int) (a2 : Int) (a3 : List Int) (r : Bool) (h : m_laws_FnExactEqualGame a0 a1 a2 a3 = some r) : AM.Spec Try.prog 5 [.agg [.int .i64 a0, .list (.ints a1)], .agg [.int .i64 a2, .list (.ints a3)]] [] (.bool r) [] := by
  refine spec_of (E := E_laws_FnExactEqualGame) Try.func5 rfl rfl rfl rfl ?_
  refine Tri.run 2 [] [.keep [2, 3, 5] [2, 3]] (K' := [.code [(2, 0)] 0, .code [] 3]) (σ' := ⟨[(2, .ptr 2 0), (3, .ptr 3 0), (5, .int .i64 (1048576 : Int))], [(2, .box [.int .i64 a0, .list (.ints a1)]), (3, .box [.int .i64 a2, .list (.ints a3)])]⟩) rfl trivial rfl ?_
  obtain ⟨v1, hk1, h⟩ := bind_some h
  refine Tri.run 2 [.r ⟨[], .int .i64 v1, []⟩] [.keep [2, 3, 5, 14] [2, 3]] (K' := [.code [(3, 0)] 1, .code [] 4]) (σ' := ⟨[(2, .ptr 2 0), (3, .ptr 3 0), (5, .int .i64 v1), (14, .bool (decide (v1 < (0 : Int))))], [(2, .box [.int .i64 a0, .list (.ints a1)]), (3, .box [.int .i64 a2, .list (.ints a3)])]⟩) rfl ⟨(w_laws_szGame a0 a1 (1048576 : Int) v1 hk1), trivial⟩ rfl ?_
  rcases bif_some h with ⟨hd2, h⟩ | ⟨hd2, h⟩
  · refine Tri.run 2 [.g true] [.keep [4] []] (K' := [.code [(3, 0), (1, 0)] 1, .code [] 4]) (σ' := ⟨[(4, .bool true)], []⟩) rfl ⟨hd2, trivial⟩ rfl ?_
    have h := Option.some.inj h
    subst h
    exact Tri.ret rfl ⟨.inl rfl, rfl, rfl⟩
  · obtain ⟨v2, hk3, h⟩ := bind_some h
    refine Tri.run 3 [.g false, .r ⟨[], .int .i64 v2, []⟩] [.keep [2, 3, 19] [2, 3]] (K' := [.code [(5, 0)] 1, .code [] 6]) (σ' := ⟨[(2, .ptr 2 0), (3, .ptr 3 0), (19, .bool (decide (v2 < (0 : Int))))], [(2, .box [.int .i64 a0, .list (.ints a1)]), (3, .box [.int .i64 a2, .list (.ints a3)])]⟩) rfl ⟨(w_laws_szGame a2 a3 v1 v2 hk3), hd2, trivial⟩ rfl ?_
    rcases bif_some h with ⟨hd4, h⟩ | ⟨hd4, h⟩
    · refine Tri.run 2 [.g true] [.keep [4] []] (K' := [.code [(5, 0), (1, 0)] 1, .code [] 6]) (σ' := ⟨[(4, .bool true)], []⟩) rfl ⟨hd4, trivial⟩ rfl ?_
      have h := Option.some.inj h
      subst h
      exact Tri.ret rfl ⟨.inl rfl, rfl, rfl⟩
    · obtain ⟨⟨v3, v4⟩, hk5, h⟩ := bind_some h
      obtain ⟨⟨v5, v6⟩, hk6, h⟩ := bind_some h
      obtain ⟨v7, hk7, h⟩ := bind_some h
      refine Tri.run 2 [.g false, .r ⟨[], .agg [.int .i64 v3, .sl 1100 0], [(1100, .arr 3 0 0 (.ints v4))]⟩, .r ⟨[], .agg [.int .i64 v5, .sl 1101 0], [(1101, .arr 3 0 0 (.ints v6))]⟩, .r ⟨[], .bool v7, []⟩] [.keep [2, 3, 6] [2, 3]] (K' := [.code [(7, 0)] 0, .code [] 8]) (σ' := ⟨[(2, .ptr 2 0), (3, .ptr 3 0), (6, .bool v7)], [(2, .box [.int .i64 a0, .list (.ints a1)]), (3, .box [.int .i64 a2, .list (.ints a3)])]⟩) rfl ⟨(w_spec_EqualGame v3 v4 v5 v6 v7 hk7), ((w_laws_toGame a2 a3 (v5, v6) hk6).swap 1000 1101), ((w_laws_toGame a0 a1 (v3, v4) hk5).swap 1000 1100), hd4, trivial⟩ rfl ?_
      obtain ⟨⟨v8, v9⟩, hk8, h⟩ := bind_some h
      obtain ⟨⟨v10, v11⟩, hk9, h⟩ := bind_some h
      refine Tri.run 2 [.r ⟨[], .agg [.int .i64 v8, .sl 1102 0], [(1102, .arr 3 0 0 (.ints v9))]⟩, .r ⟨[], .agg [.int .i64 v10, .sl 1103 0], [(1103, .arr 3 0 0 (.ints v11))]⟩] [.keep [2, 3, 6, 7, 8] [2, 3, 7, 8, 1102, 1103]] (K' := [.code [(9, 0)] 0, .code [] 10]) (σ' := ⟨[(2, .ptr 2 0), (3, .ptr 3 0), (6, .bool v7), (7, .ptr 7 0), (8, .ptr 8 0)], [(2, .box [.int .i64 a0, .list (.ints a1)]), (3, .box [.int .i64 a2, .list (.ints a3)]), (7, .box [.int .i64 v8, .sl 1102 0]), (8, .box [.int .i64 v10, .sl 1103 0]), (1102, .arr 3 0 0 (.ints v9)), (1103, .arr 3 0 0 (.ints v11))]⟩) rfl ⟨((w_laws_toGame a2 a3 (v10, v11) hk9).swap 1000 1103), ((w_laws_toGame a0 a1 (v8, v9) hk8).swap 1000 1102), trivial⟩ rfl ?_
      obtain ⟨v12, hk10, h⟩ := bind_some h
      refine Tri.run 2 [.r ⟨[], .bool v12, []⟩] [.keep [2, 3, 7, 8, 34] [2, 3, 7, 8, 1102, 1103]] (K' := [.code [(10, 0)] 1, .code [] 11]) (σ' := ⟨[(2, .ptr 2 0), (3, .ptr 3 0), (7, .ptr 7 0), (8, .ptr 8 0), (34, .bool (v12 != v7))], [(2, .box [.int .i64 a0, .list (.ints a1)]), (3, .box [.int .i64 a2, .list (.ints a3)]), (7, .box [.int .i64 v8, .sl 1102 0]), (8, .box [.int .i64 v10, .sl 1103 0]), (1102, .arr 3 0 0 (.ints v9)), (1103, .arr 3 0 0 (.ints v11))]⟩) rfl ⟨(w_impl_EqualGame v8 v9 v10 v11 v12 hk10), trivial⟩ rfl ?_
      rcases bif_some h with ⟨hd11, h⟩ | ⟨hd11, h⟩
      · refine Tri.run 2 [.g true] [.keep [4] []] (K' := [.code [(10, 0), (1, 0)] 1, .code [] 11]) (σ' := ⟨[(4, .bool false)], []⟩) rfl ⟨hd11, trivial⟩ rfl ?_
        have h := Option.some.inj h
        subst h
        exact Tri.ret rfl ⟨.inl rfl, rfl, rfl⟩
      · obtain ⟨⟨v13, v14⟩, hk12, h⟩ := bind_some h
        obtain ⟨v15, hk13, h⟩ := bind_some h
        refine Tri.run 2 [.g false, .r ⟨[], .agg [.int .i64 v13, .sl 1104 0], [(1104, .arr 3 0 0 (.ints v14))]⟩, .r ⟨[], .bool v15, []⟩] [.keep [3, 8, 39] [3, 8, 1103]] (K' := [.code [(11, 0)] 1, .code [] 12]) (σ' := ⟨[(3, .ptr 3 0), (8, .ptr 8 0), (39, .bool (!v15))], [(3, .box [.int .i64 a2, .list (.ints a3)]), (8, .box [.int .i64 v10, .sl 1103 0]), (1103, .arr 3 0 0 (.ints v11))]⟩) rfl ⟨(w_laws_eqGame v8 v9 v13 v14 v15 hk13), ((w_laws_toGame a0 a1 (v13, v14) hk12).swap 1000 1104), hd11, trivial⟩ rfl ?_
        rcases bif_some h with ⟨hd14, h⟩ | ⟨hd14, h⟩
        · refine Tri.run 2 [.g true] [.keep [4] []] (K' := [.code [(11, 0), (1, 0)] 1, .code [] 12]) (σ' := ⟨[(4, .bool false)], []⟩) rfl ⟨hd14, trivial⟩ rfl ?_
          have h := Option.some.inj h
          subst h
          exact Tri.ret rfl ⟨.inl rfl, rfl, rfl⟩
        · obtain ⟨⟨v16, v17⟩, hk15, h⟩ := bind_some h
          obtain ⟨v18, hk16, h⟩ := bind_some h
          refine Tri.run 2 [.g false, .r ⟨[], .agg [.int .i64 v16, .sl 1105 0], [(1105, .arr 3 0 0 (.ints v17))]⟩, .r ⟨[], .bool v18, []⟩] [.keep [44] []] (K' := [.code [(12, 0)] 1, .code [] 13]) (σ' := ⟨[(44, .bool (!v18))], []⟩) rfl ⟨(w_laws_eqGame v10 v11 v16 v17 v18 hk16), ((w_laws_toGame a2 a3 (v16, v17) hk15).swap 1000 1105), hd14, trivial⟩ rfl ?_
          rcases bif_some h with ⟨hd17, h⟩ | ⟨hd17, h⟩
          · refine Tri.run 2 [.g true] [.keep [4] []] (K' := [.code [(12, 0), (1, 0)] 1, .code [] 13]) (σ' := ⟨[(4, .bool false)], []⟩) rfl ⟨hd17, trivial⟩ rfl ?_
            have h := Option.some.inj h
            subst h
            exact Tri.ret rfl ⟨.inl rfl, rfl, rfl⟩
          · refine Tri.run 2 [.g false] [.keep [4] []] (K' := [.code [] 14]) (σ' := ⟨[(4, .bool true)], []⟩) rfl ⟨hd17, trivial⟩ rfl ?_
            have h := Option.some.inj h
            subst h
            exact Tri.ret rfl ⟨.inl rfl, rfl, rfl⟩
/-! spec.CountCoalitions -/
noncomputable def E_spec_CountCoalitions : Env := ⟨Try.prog, tys, (Try.f35.body).getD .skip, 16, tysOk, mixedOk⟩
abbrev q_spec_CountCoalitions (r : Int) (σ' : ASt) : Prop := resAV E_spec_CountCoalitions.T σ' Try.f35.results.toList = some (.int .i64 r) ∧ keepO σ'.ob (namesO []) = []
noncomputable def l_spec_CountCoalitions_0 (a0 : Int) : (Int × Int) → Option ((Int × Int) ⊕ Int)
  | (v2, v3) => (
bif decide (v3 < a0) then
(some (.inl (IntKind.i64.wrap (v2 * (2 : Int)), IntKind.i64.wrap (v3 + (1 : Int)))))
else
(some (.inr v2)))
noncomputable def m_spec_CountCoalitions (a0 : Int) : Option Int :=
(m_spec_l1In a0 (0 : Int) (5 : Int)).bind fun v1 =>
bif !v1 then
(some (0 : Int))
else
((iter (l_spec_CountCoalitions_0 a0) ((1 : Int), (0 : Int))).bind fun
| v4 => (
some v4))
theorem w_spec_CountCoalitions (a0 : Int) (r : Int) (h : m_spec_CountCoalitions a0 = some r) : AM.Spec Try.prog 35 [.int .i64 a0] [] (.int .i64 r) [] := by
  refine spec_of (E := E_spec_CountCoalitions) Try.func35 rfl rfl rfl rfl ?_
  refine Tri.run 1 [] [.keep [0] []] (K' := [.code [(1, 0), (0, 0)] 0, .code [(1, 0)] 1, .code [] 2]) (σ' := ⟨[(0, .int .i64 a0)], []⟩) rfl trivial rfl ?_
  obtain ⟨v1, hk1, h⟩ := bind_some h
  refine Tri.run 1 [.r ⟨[], .bool v1, []⟩] [.keep [0, 7] []] (K' := [.code [(1, 0)] 1, .code [] 2]) (σ' := ⟨[(0, .int .i64 a0), (7, .bool (!v1))], []⟩) rfl ⟨(w_spec_l1In a0 (0 : Int) (5 : Int) v1 hk1), trivial⟩ rfl ?_
  rcases bif_some h with ⟨hd2, h⟩ | ⟨hd2, h⟩
  · refine Tri.run 2 [.g true] [.keep [2] []] (K' := [.code [(1, 0), (1, 0)] 1, .code [] 2]) (σ' := ⟨[(2, .int .i64 (0 : Int))], []⟩) rfl ⟨hd2, trivial⟩ rfl ?_
    have h := Option.some.inj h
    subst h
    exact Tri.ret rfl ⟨.inl rfl, rfl, rfl⟩
  · refine Tri.run 3 [.g false] [.keep [0, 3, 4] []] (K' := [.code [(3, 0), (1, 0)] 0, .blk 0, .code [] 4]) (σ' := ⟨[(0, .int .i64 a0), (3, .int .i64 (1 : Int)), (4, .int .i64 (0 : Int))], []⟩) rfl ⟨hd2, trivial⟩ rfl ?_
    obtain ⟨v4, hk4, h⟩ := bind_some h
    refine Tri.loop (K1 := [.code [(3, 0), (1, 0), (0, 0)] 0]) (K2 := [.blk 0, .code [] 4]) (fun (v2, v3) => ⟨[(0, .int .i64 a0), (3, .int .i64 v2), (4, .int .i64 v3)], []⟩) (fun x e σ' => match x with | v4 => e = .exit 0 ∧ σ' = ⟨[(3, .int .i64 v4)], []⟩) hk4 rfl rfl ?_ ?_
    · intro s x hs
      clear h
      have h := hs
      clear hs
      obtain ⟨v2, v3⟩ := s
      refine Tri.run 1 [] [.keep [0, 3, 4, 10] []] (K' := [.code [(3, 0), (1, 0), (0, 0), (0, 0)] 1, .code [(3, 0), (1, 0), (0, 0)] 1]) (σ' := ⟨[(0, .int .i64 a0), (3, .int .i64 v2), (4, .int .i64 v3), (10, .bool (decide (v3 < a0)))], []⟩) rfl trivial rfl ?_
      rcases bif_some h with ⟨hd3, h⟩ | ⟨hd3, h⟩
      · refine Tri.run 3 [.g true] [.keep [0, 3, 4] []] (K' := []) (σ' := ⟨[(0, .int .i64 a0), (3, .int .i64 (IntKind.i64.wrap (v2 * (2 : Int)))), (4, .int .i64 (IntKind.i64.wrap (v3 + (1 : Int))))], []⟩) rfl ⟨hd3, trivial⟩ rfl ?_
        have h := Option.some.inj h
        subst h
        exact Tri.nil ⟨rfl, rfl⟩
      · refine Tri.run 1 [.g false] [.keep [3] []] (K' := [.code [(3, 0), (1, 0), (0, 0), (0, 0), (1, 1)] 0, .code [(3, 0), (1, 0), (0, 0)] 1]) (σ' := ⟨[(3, .int .i64 v2)], []⟩) rfl ⟨hd3, trivial⟩ rfl ?_
        have h := Option.some.inj h
        subst h
        exact Tri.out 0 rfl ⟨nofun, rfl, rfl⟩
    · intro e σ' hne hq
      obtain ⟨rfl, rfl⟩ := hq
      refine TriX.exit (K' := [.code [] 4]) rfl ?_
      refine Tri.run 1 [] [.keep [2] []] (K' := [.code [] 5]) (σ' := ⟨[(2, .int .i64 v4)], []⟩) rfl trivial rfl ?_
      have h := Option.some.inj h
      subst h
      exact Tri.ret rfl ⟨.inl rfl, rfl, rfl⟩
/-! spec.IsValidGame -/
noncomputable def E_spec_IsValidGame : Env := ⟨Try.prog, tys, (Try.f18.body).getD .skip, 37, tysOk, mixedOk⟩
abbrev q_spec_IsValidGame (r : Bool) (σ' : ASt) : Prop := resAV E_spec_IsValidGame.T σ' Try.f18.results.toList = some (.bool r) ∧ keepO σ'.ob (namesO []) = []
noncomputable def l_spec_IsValidGame_0 (a1 : List Int) (v1 : Int) : Option (Int ⊕ (Unit ⊕ Bool)) :=
bif decide (v1 < (a1.length : Int)) then
(grd ((0 : Int) ≤ v1 ∧ v1 < (a1.length : Int)) <|
(m_spec_l1In (a1.getD v1.toNat 0) (-500 : Int) (500 : Int)).bind fun v2 =>
bif !v2 then
(some (.inr (.inr false)))
else
(some (.inl (IntKind.i64.wrap (v1 + (1 : Int))))))
else
(some (.inr (.inl ())))
noncomputable def m_spec_IsValidGame (a0 : Int) (a1 : List Int) : Option Bool :=
(iter (l_spec_IsValidGame_0 a1) (0 : Int)).bind fun
| (.inl _) => (
(m_spec_l1In a0 (1 : Int) (5 : Int)).bind fun v3 =>
bif v3 then
((m_spec_CountCoalitions a0).bind fun v4 =>
bif (a1.length : Int) == v4 then
(grd ((0 : Int) ≤ (0 : Int) ∧ (0 : Int) < (a1.length : Int)) <|
some ((a1.getD ((0 : Int).toNat) 0) == (0 : Int)))
else
(some false))
else
(some false))
| (.inr r) => some r
theorem w_spec_IsValidGame (a0 : Int) (a1 : List Int) (r : Bool) (h : m_spec_IsValidGame a0 a1 = some r) : AM.Spec Try.prog 18 [.agg [.int .i64 a0, .list (.ints a1)]] [] (.bool r) [] := by
  refine spec_of (E := E_spec_IsValidGame) Try.func18 rfl rfl rfl rfl ?_
  refine Tri.run 2 [] [.keep [1, 3] [1]] (K' := [.code [(1, 0), (1, 0)] 0, .blk 0, .code [] 2]) (σ' := ⟨[(1, .ptr 1 0), (3, .int .i64 (0 : Int))], [(1, .box [.int .i64 a0, .list (.ints a1)])]⟩) rfl trivial rfl ?_
  obtain ⟨x1, hk5, h⟩ := bind_some h
  refine Tri.loop (K1 := [.code [(1, 0), (1, 0), (0, 0)] 0]) (K2 := [.blk 0, .code [] 2]) (fun v1 => ⟨[(1, .ptr 1 0), (3, .int .i64 v1)], [(1, .box [.int .i64 a0, .list (.ints a1)])]⟩) (fun x e σ' => match x with | (.inl _) => e = .exit 0 ∧ σ' = ⟨[(1, .ptr 1 0)], [(1, .box [.int .i64 a0, .list (.ints a1)])]⟩ | (.inr r) => e = .ret ∧ q_spec_IsValidGame r σ') hk5 rfl rfl ?_ ?_
  · intro v1 x hs
    clear h
    have h := hs
    clear hs
    refine Tri.run 1 [] [.keep [1, 3, 8] [1]] (K' := [.code [(1, 0), (1, 0), (0, 0), (0, 0)] 1, .code [(1, 0), (1, 0), (0, 0)] 1]) (σ' := ⟨[(1, .ptr 1 0), (3, .int .i64 v1), (8, .bool (decide (v1 < (a1.length : Int))))], [(1, .box [.int .i64 a0, .list (.ints a1)])]⟩) rfl trivial rfl ?_
    rcases bif_some h with ⟨hd1, h⟩ | ⟨hd1, h⟩
    · obtain ⟨hg2, h⟩ := grd_some h
      obtain ⟨v2, hk3, h⟩ := bind_some h
      refine Tri.run 2 [.g true, .r ⟨[], .bool v2, []⟩] [.keep [1, 3, 17] [1]] (K' := [.code [(1, 0), (1, 0), (0, 0), (1, 0), (0, 0)] 1, .blk 1, .code [(1, 0), (1, 0), (0, 0)] 2]) (σ' := ⟨[(1, .ptr 1 0), (3, .int .i64 v1), (17, .bool (!v2))], [(1, .box [.int .i64 a0, .list (.ints a1)])]⟩) rfl ⟨(w_spec_l1In (a1.getD v1.toNat 0) (-500 : Int) (500 : Int) v2 hk3), hg2, hd1, trivial⟩ rfl ?_
      rcases bif_some h with ⟨hd4, h⟩ | ⟨hd4, h⟩
      · refine Tri.run 2 [.g true] [.keep [2] []] (K' := [.code [(1, 0), (1, 0), (0, 0), (1, 0), (0, 0), (1, 0)] 1, .blk 1, .code [(1, 0), (1, 0), (0, 0)] 2]) (σ' := ⟨[(2, .bool false)], []⟩) rfl ⟨hd4, trivial⟩ rfl ?_
        have h := Option.some.inj h
        subst h
        exact Tri.ret rfl ⟨nofun, rfl, rfl, rfl⟩
      · refine Tri.run 2 [.g false] [.keep [1, 3] [1]] (K' := []) (σ' := ⟨[(1, .ptr 1 0), (3, .int .i64 (IntKind.i64.wrap (v1 + (1 : Int))))], [(1, .box [.int .i64 a0, .list (.ints a1)])]⟩) rfl ⟨hd4, trivial⟩ rfl ?_
        have h := Option.some.inj h
        subst h
        exact Tri.nil ⟨rfl, rfl⟩
    · refine Tri.run 1 [.g false] [.keep [1] [1]] (K' := [.code [(1, 0), (1, 0), (0, 0), (0, 0), (1, 1)] 0, .code [(1, 0), (1, 0), (0, 0)] 1]) (σ' := ⟨[(1, .ptr 1 0)], [(1, .box [.int .i64 a0, .list (.ints a1)])]⟩) rfl ⟨hd1, trivial⟩ rfl ?_
      have h := Option.some.inj h
      subst h
      exact Tri.out 0 rfl ⟨nofun, rfl, rfl⟩
  · intro e σ' hne hq
    rcases x1 with _ | r
    · obtain ⟨rfl, rfl⟩ := hq
      refine TriX.exit (K' := [.code [] 2]) rfl ?_
      obtain ⟨v3, hk6, h⟩ := bind_some h
      rcases bif_some h with ⟨hd7, h⟩ | ⟨hd7, h⟩
      · obtain ⟨v4, hk8, h⟩ := bind_some h
        rcases bif_some h with ⟨hd9, h⟩ | ⟨hd9, h⟩
        · obtain ⟨hg10, h⟩ := grd_some h
          refine Tri.run 1 [.r ⟨[], .bool v3, []⟩, .g true, .r ⟨[], .int .i64 v4, []⟩, .g true] [.keep [2] []] (K' := [.code [] 3]) (σ' := ⟨[(2, .bool ((a1.getD ((0 : Int).toNat) 0) == (0 : Int)))], []⟩) rfl ⟨hg10, hd9, (w_spec_CountCoalitions a0 v4 hk8), hd7, (w_spec_l1In a0 (1 : Int) (5 : Int) v3 hk6), trivial⟩ rfl ?_
          have h := Option.some.inj h
          subst h
          exact Tri.ret rfl ⟨.inl rfl, rfl, rfl⟩
        · refine Tri.run 1 [.r ⟨[], .bool v3, []⟩, .g true, .r ⟨[], .int .i64 v4, []⟩, .g false] [.keep [2] []] (K' := [.code [] 3]) (σ' := ⟨[(2, .bool false)], []⟩) rfl ⟨hd9, (w_spec_CountCoalitions a0 v4 hk8), hd7, (w_spec_l1In a0 (1 : Int) (5 : Int) v3 hk6), trivial⟩ rfl ?_
          have h := Option.some.inj h
          subst h
          exact Tri.ret rfl ⟨.inl rfl, rfl, rfl⟩
      · refine Tri.run 1 [.r ⟨[], .bool v3, []⟩, .g false, .g false] [.keep [2] []] (K' := [.code [] 3]) (σ' := ⟨[(2, .bool false)], []⟩) rfl ⟨rfl, hd7, (w_spec_l1In a0 (1 : Int) (5 : Int) v3 hk6), trivial⟩ rfl ?_
        have h := Option.some.inj h
        subst h
        exact Tri.ret rfl ⟨.inl rfl, rfl, rfl⟩
    · obtain ⟨rfl, hq⟩ := hq
      have h := Option.some.inj h
      subst h
      exact TriX.ret ⟨.inl rfl, hq⟩
/-! impl.IsValidGame$1 -/
noncomputable def E_impl_IsValidGame_1 : Env := ⟨Try.prog, tys, (Try.f37.body).getD .skip, 6, tysOk, mixedOk⟩
abbrev q_impl_IsValidGame_1 (r : Bool) (σ' : ASt) : Prop := resAV E_impl_IsValidGame_1.T σ' Try.f37.results.toList = some (.bool r) ∧ keepO σ'.ob (namesO []) = []
noncomputable def m_impl_IsValidGame_1 (a0 : Int) : Option Bool :=
(m_impl_within a0 (-500 : Int) (500 : Int)).bind fun v1 =>
some (!v1)
theorem w_impl_IsValidGame_1 (a0 : Int) (r : Bool) (h : m_impl_IsValidGame_1 a0 = some r) : AM.Spec Try.prog 37 [.int .i64 a0] [] (.bool r) [] := by
  refine spec_of (E := E_impl_IsValidGame_1) Try.func37 rfl rfl rfl rfl ?_
  refine Tri.run 1 [] [.keep [0] []] (K' := [.code [(1, 0)] 0, .code [] 2]) (σ' := ⟨[(0, .int .i64 a0)], []⟩) rfl trivial rfl ?_
  obtain ⟨v1, hk1, h⟩ := bind_some h
  refine Tri.run 1 [.r ⟨[], .bool v1, []⟩] [.keep [2] []] (K' := [.code [] 2]) (σ' := ⟨[(2, .bool (!v1))], []⟩) rfl ⟨(w_impl_within a0 (-500 : Int) (500 : Int) v1 hk1), trivial⟩ rfl ?_
  have h := Option.some.inj h
  subst h
  exact Tri.ret rfl ⟨.inl rfl, rfl, rfl⟩
/-! slices.IndexFunc(()int,int) -/
noncomputable def E_slices_IndexFunc_int_int : Env := ⟨Try.prog, tys, (Try.f45.body).getD .skip, 19, tysOk, mixedOk⟩
abbrev q_slices_IndexFunc_int_int_impl_IsValidGame_1 (r : Int) (σ' : ASt) : Prop := resAV E_slices_IndexFunc_int_int.T σ' Try.f45.results.toList = some (.int .i64 r) ∧ keepO σ'.ob (namesO []) = []
noncomputable def l_slices_IndexFunc_int_int_impl_IsValidGame_1_0 (a0 : List Int) (v1 : Int) : Option (Int ⊕ (Unit ⊕ Int)) :=
bif decide (v1 < (a0.length : Int)) then
(grd ((0 : Int) ≤ v1 ∧ v1 < (a0.length : Int)) <|
(m_impl_IsValidGame_1 (a0.getD v1.toNat 0)).bind fun v2 =>
bif v2 then
(some (.inr (.inr v1)))
else
(some (.inl (IntKind.i64.wrap (v1 + (1 : Int))))))
else
(some (.inr (.inl ())))
noncomputable def m_slices_IndexFunc_int_int_impl_IsValidGame_1 (a0 : List Int) : Option Int :=
(iter (l_slices_IndexFunc_int_int_impl_IsValidGame_1_0 a0) (0 : Int)).bind fun
| (.inl _) => (
some (-1 : Int))
| (.inr r) => some r
theorem w_slices_IndexFunc_int_int_impl_IsValidGame_1 (a0 : List Int) (r : Int) (h : m_slices_IndexFunc_int_int_impl_IsValidGame_1 a0 = some r) : AM.Spec Try.prog 45 [.list (.ints a0), .func 37 [] []] [] (.int .i64 r) [] := by
  refine spec_of (E := E_slices_IndexFunc_int_int) Try.func45 rfl rfl rfl rfl ?_
  refine Tri.run 2 [] [.keep [0, 1, 7, 8] []] (K' := [.code [(1, 0), (1, 0)] 0, .blk 0, .code [] 2]) (σ' := ⟨[(0, .list (.ints a0)), (1, .func 37 [] []), (7, .int .i64 (a0.length : Int)), (8, .int .i64 (0 : Int))], []⟩) rfl trivial rfl ?_
  obtain ⟨x1, hk5, h⟩ := bind_some h
  refine Tri.loop (K1 := [.code [(1, 0), (1, 0), (0, 0)] 0]) (K2 := [.blk 0, .code [] 2]) (fun v1 => ⟨[(0, .list (.ints a0)), (1, .func 37 [] []), (7, .int .i64 (a0.length : Int)), (8, .int .i64 v1)], []⟩) (fun x e σ' => match x with | (.inl _) => e = .exit 0 ∧ σ' = ⟨[], []⟩ | (.inr r) => e = .ret ∧ q_slices_IndexFunc_int_int_impl_IsValidGame_1 r σ') hk5 rfl rfl ?_ ?_
  · intro v1 x hs
    clear h
    have h := hs
    clear hs
    refine Tri.run 1 [] [.keep [0, 1, 7, 8, 9] []] (K' := [.code [(1, 0), (1, 0), (0, 0), (1, 0)] 0, .code [(1, 0), (1, 0), (0, 0)] 2]) (σ' := ⟨[(0, .list (.ints a0)), (1, .func 37 [] []), (7, .int .i64 (a0.length : Int)), (8, .int .i64 v1), (9, .bool (decide (v1 < (a0.length : Int))))], []⟩) rfl trivial rfl ?_
    rcases bif_some h with ⟨hd1, h⟩ | ⟨hd1, h⟩
    · refine Tri.run 2 [.g true] [.keep [0, 1, 5, 7, 8] []] (K' := [.code [(1, 0), (1, 0), (0, 0), (2, 0), (0, 0), (1, 0)] 0, .code [(1, 0), (1, 0), (0, 0), (2, 0), (0, 0)] 2, .blk 1, .code [(1, 0), (1, 0), (0, 0)] 3]) (σ' := ⟨[(0, .list (.ints a0)), (1, .func 37 [] []), (5, .int .i64 v1), (7, .int .i64 (a0.length : Int)), (8, .int .i64 v1)], []⟩) rfl ⟨hd1, trivial⟩ rfl ?_
      obtain ⟨hg2, h⟩ := grd_some h
      obtain ⟨v2, hk3, h⟩ := bind_some h
      refine Tri.run 1 [.r ⟨[], .bool v2, []⟩] [.keep [0, 1, 5, 7, 8, 16] []] (K' := [.code [(1, 0), (1, 0), (0, 0), (2, 0), (0, 0)] 2, .blk 1, .code [(1, 0), (1, 0), (0, 0)] 3]) (σ' := ⟨[(0, .list (.ints a0)), (1, .func 37 [] []), (5, .int .i64 v1), (7, .int .i64 (a0.length : Int)), (8, .int .i64 v1), (16, .bool v2)], []⟩) rfl ⟨(w_impl_IsValidGame_1 (a0.getD v1.toNat 0) v2 hk3), hg2, trivial⟩ rfl ?_
      rcases bif_some h with ⟨hd4, h⟩ | ⟨hd4, h⟩
      · refine Tri.run 2 [.g true] [.keep [4] []] (K' := [.code [(1, 0), (1, 0), (0, 0), (2, 0), (0, 0), (2, 0)] 1, .blk 1, .code [(1, 0), (1, 0), (0, 0)] 3]) (σ' := ⟨[(4, .int .i64 v1)], []⟩) rfl ⟨hd4, trivial⟩ rfl ?_
        have h := Option.some.inj h
        subst h
        exact Tri.ret rfl ⟨nofun, rfl, rfl, rfl⟩
      · refine Tri.run 2 [.g false] [.keep [0, 1, 7, 8] []] (K' := []) (σ' := ⟨[(0, .list (.ints a0)), (1, .func 37 [] []), (7, .int .i64 (a0.length : Int)), (8, .int .i64 (IntKind.i64.wrap (v1 + (1 : Int))))], []⟩) rfl ⟨hd4, trivial⟩ rfl ?_
        have h := Option.some.inj h
        subst h
        exact Tri.nil ⟨rfl, rfl⟩
    · refine Tri.run 1 [.g false] [.keep [] []] (K' := [.code [(1, 0), (1, 0), (0, 0), (1, 0), (0, 1)] 0, .code [(1, 0), (1, 0), (0, 0)] 2]) (σ' := ⟨[], []⟩) rfl ⟨hd1, trivial⟩ rfl ?_
      have h := Option.some.inj h
      subst h
      exact Tri.out 0 rfl ⟨nofun, rfl, rfl⟩
  · intro e σ' hne hq
    rcases x1 with _ | r
    · obtain ⟨rfl, rfl⟩ := hq
      refine TriX.exit (K' := [.code [] 2]) rfl ?_
      refine Tri.run 1 [] [.keep [4] []] (K' := [.code [] 3]) (σ' := ⟨[(4, .int .i64 (-1 : Int))], []⟩) rfl trivial rfl ?_
      have h := Option.some.inj h
      subst h
      exact Tri.ret rfl ⟨.inl rfl, rfl, rfl⟩
    · obtain ⟨rfl, hq⟩ := hq
      have h := Option.some.inj h
      subst h
      exact TriX.ret ⟨.inl rfl, hq⟩
/-! slices.ContainsFunc(()int,int) -/
noncomputable def E_slices_ContainsFunc_int_int : Env := ⟨Try.prog, tys, (Try.f36.body).getD .skip, 9, tysOk, mixedOk⟩
abbrev q_slices_ContainsFunc_int_int_impl_IsValidGame_1 (r : Bool) (σ' : ASt) : Prop := resAV E_slices_ContainsFunc_int_int.T σ' Try.f36.results.toList = some (.bool r) ∧ keepO σ'.ob (namesO []) = []
noncomputable def m_slices_ContainsFunc_int_int_impl_IsValidGame_1 (a0 : List Int) : Option Bool :=
(m_slices_IndexFunc_int_int_impl_IsValidGame_1 a0).bind fun v1 =>
some (decide (v1 ≥ (0 : Int)))
theorem w_slices_ContainsFunc_int_int_impl_IsValidGame_1 (a0 : List Int) (r : Bool) (h : m_slices_ContainsFunc_int_int_impl_IsValidGame_1 a0 = some r) : AM.Spec Try.prog 36 [.list (.ints a0), .func 37 [] []] [] (.bool r) [] := by
  refine spec_of (E := E_slices_ContainsFunc_int_int) Try.func36 rfl rfl rfl rfl ?_
  refine Tri.run 1 [] [.keep [0, 1] []] (K' := [.code [(1, 0)] 0, .code [] 2]) (σ' := ⟨[(0, .list (.ints a0)), (1, .func 37 [] [])], []⟩) rfl trivial rfl ?_
  obtain ⟨v1, hk1, h⟩ := bind_some h
  refine Tri.run 1 [.r ⟨[], .int .i64 v1, []⟩] [.keep [4] []] (K' := [.code [] 2]) (σ' := ⟨[(4, .bool (decide (v1 ≥ (0 : Int))))], []⟩) rfl ⟨(w_slices_IndexFunc_int_int_impl_IsValidGame_1 a0 v1 hk1), trivial⟩ rfl ?_
  have h := Option.some.inj h
  subst h
  exact Tri.ret rfl ⟨.inl rfl, rfl, rfl⟩
/-! impl.IsValidGame -/
noncomputable def E_impl_IsValidGame : Env := ⟨Try.prog, tys, (Try.f19.body).getD .skip, 27, tysOk, mixedOk⟩
abbrev q_impl_IsValidGame (r : Bool) (σ' : ASt) : Prop := resAV E_impl_IsValidGame.T σ' Try.f19.results.toList = some (.bool r) ∧ keepO σ'.ob (namesO []) = []
noncomputable def m_impl_IsValidGame (a0 : Int) (a1 : List Int) : Option Bool :=
(m_impl_within a0 (1 : Int) (5 : Int)).bind fun v1 =>
bif !v1 then
(some false)
else
(grd ((0 : Int) ≤ a0) <|
bif (a1.length : Int) != (IntKind.i64.wrap ((1 : Int) * 2 ^ (min a0.toNat 64))) then
(some false)
else
(grd ((0 : Int) ≤ (0 : Int) ∧ (0 : Int) < (a1.length : Int)) <|
bif (a1.getD ((0 : Int).toNat) 0) != (0 : Int) then
(some false)
else
((m_slices_ContainsFunc_int_int_impl_IsValidGame_1 a1).bind fun v2 =>
some (!v2))))
theorem w_impl_IsValidGame (a0 : Int) (a1 : List Int) (r : Bool) (h : m_impl_IsValidGame a0 a1 = some r) : AM.Spec Try.prog 19 [.agg [.int .i64 a0, .list (.ints a1)]] [] (.bool r) [] := by
  refine spec_of (E := E_impl_IsValidGame) Try.func19 rfl rfl rfl rfl ?_
  refine Tri.run 1 [] [.keep [1] [1]] (K' := [.code [(1, 0), (0, 0)] 0, .code [(1, 0)] 1, .code [] 2]) (σ' := ⟨[(1, .ptr 1 0)], [(1, .box [.int .i64 a0, .list (.ints a1)])]⟩) rfl trivial rfl ?_
  obtain ⟨v1, hk1, h⟩ := bind_some h
  rcases bif_some h with ⟨hd2, h⟩ | ⟨hd2, h⟩
  · refine Tri.run 1 [.r ⟨[], .bool v1, []⟩, .g true, .g true] [.keep [1, 22] [1]] (K' := [.code [(1, 0)] 1, .code [] 2]) (σ' := ⟨[(1, .ptr 1 0), (22, .bool true)], [(1, .box [.int .i64 a0, .list (.ints a1)])]⟩) rfl ⟨rfl, hd2, (w_impl_within a0 (1 : Int) (5 : Int) v1 hk1), trivial⟩ rfl ?_
    refine Tri.run 2 [.g true] [.keep [2] []] (K' := [.code [(1, 0), (1, 0)] 1, .code [] 2]) (σ' := ⟨[(2, .bool false)], []⟩) rfl ⟨rfl, trivial⟩ rfl ?_
    have h := Option.some.inj h
    subst h
    exact Tri.ret rfl ⟨.inl rfl, rfl, rfl⟩
  · obtain ⟨hg3, h⟩ := grd_some h
    rcases bif_some h with ⟨hd4, h⟩ | ⟨hd4, h⟩
    · refine Tri.run 1 [.r ⟨[], .bool v1, []⟩, .g false, .g true] [.keep [1, 22] [1]] (K' := [.code [(1, 0)] 1, .code [] 2]) (σ' := ⟨[(1, .ptr 1 0), (22, .bool true)], [(1, .box [.int .i64 a0, .list (.ints a1)])]⟩) rfl ⟨hd4, hg3, hd2, (w_impl_within a0 (1 : Int) (5 : Int) v1 hk1), trivial⟩ rfl ?_
      refine Tri.run 2 [.g true] [.keep [2] []] (K' := [.code [(1, 0), (1, 0)] 1, .code [] 2]) (σ' := ⟨[(2, .bool false)], []⟩) rfl ⟨rfl, trivial⟩ rfl ?_
      have h := Option.some.inj h
      subst h
      exact Tri.ret rfl ⟨.inl rfl, rfl, rfl⟩
    · obtain ⟨hg5, h⟩ := grd_some h
      refine Tri.run 1 [.r ⟨[], .bool v1, []⟩, .g false, .g false] [.keep [1, 22] [1]] (K' := [.code [(1, 0)] 1, .code [] 2]) (σ' := ⟨[(1, .ptr 1 0), (22, .bool ((a1.getD ((0 : Int).toNat) 0) != (0 : Int)))], [(1, .box [.int .i64 a0, .list (.ints a1)])]⟩) rfl ⟨hg5, hd4, hg3, hd2, (w_impl_within a0 (1 : Int) (5 : Int) v1 hk1), trivial⟩ rfl ?_
      rcases bif_some h with ⟨hd6, h⟩ | ⟨hd6, h⟩
      · refine Tri.run 2 [.g true] [.keep [2] []] (K' := [.code [(1, 0), (1, 0)] 1, .code [] 2]) (σ' := ⟨[(2, .bool false)], []⟩) rfl ⟨hd6, trivial⟩ rfl ?_
        have h := Option.some.inj h
        subst h
        exact Tri.ret rfl ⟨.inl rfl, rfl, rfl⟩
      · obtain ⟨v2, hk7, h⟩ := bind_some h
        refine Tri.run 2 [.g false, .r ⟨[], .bool v2, []⟩] [.keep [2] []] (K' := [.code [] 3]) (σ' := ⟨[(2, .bool (!v2))], []⟩) rfl ⟨(w_slices_ContainsFunc_int_int_impl_IsValidGame_1 a1 v2 hk7), hd6, trivial⟩ rfl ?_
        have h := Option.some.inj h
        subst h
        exact Tri.ret rfl ⟨.inl rfl, rfl, rfl⟩
/-! laws.FnExactIsValidGame -/
noncomputable def E_laws_FnExactIsValidGame : Env := ⟨Try.prog, tys, (Try.f6.body).getD .skip, 27, tysOk, mixedOk⟩
abbrev q_laws_FnExactIsValidGame (r : Bool) (σ' : ASt) : Prop := resAV E_laws_FnExactIsValidGame.T σ' Try.f6.results.toList = some (.bool r) ∧ keepO σ'.ob (namesO []) = []
noncomputable def m_laws_FnExactIsValidGame (a0 : Int) (a1 : List Int) : Option Bool :=
(m_laws_szGame a0 a1 (1048576 : Int)).bind fun v1 =>
bif decide (v1 < (0 : Int)) then
(some true)
else
((m_laws_toGame a0 a1).bind fun (v2, v3) =>
(m_spec_IsValidGame v2 v3).bind fun v4 =>
(m_laws_toGame a0 a1).bind fun (v5, v6) =>
(m_impl_IsValidGame v5 v6).bind fun v7 =>
bif v7 != v4 then
(some false)
else
((m_laws_toGame a0 a1).bind fun (v8, v9) =>
(m_laws_eqGame v5 v6 v8 v9).bind fun v10 =>
bif !v10 then
(some false)
else
(some true)))
theorem w_laws_FnExactIsValidGame (a0 : Int) (a1 : List Int) (r : Bool) (h : m_laws_FnExactIsValidGame a0 a1 = some r) : AM.Spec Try.prog 6 [.agg [.int .i64 a0, .list (.ints a1)]] [] (.bool r) [] := by
  refine spec_of (E := E_laws_FnExactIsValidGame) Try.func6 rfl rfl rfl rfl ?_
  refine Tri.run 2 [] [.keep [1, 3] [1]] (K' := [.code [(2, 0)] 0, .code [] 3]) (σ' := ⟨[(1, .ptr 1 0), (3, .int .i64 (1048576 : Int))], [(1, .box [.int .i64 a0, .list (.ints a1)])]⟩) rfl trivial rfl ?_
  obtain ⟨v1, hk1, h⟩ := bind_some h
  refine Tri.run 2 [.r ⟨[], .int .i64 v1, []⟩] [.keep [1, 11] [1]] (K' := [.code [(3, 0)] 1, .code [] 4]) (σ' := ⟨[(1, .ptr 1 0), (11, .bool (decide (v1 < (0 : Int))))], [(1, .box [.int .i64 a0, .list (.ints a1)])]⟩) rfl ⟨(w_laws_szGame a0 a1 (1048576 : Int) v1 hk1), trivial⟩ rfl ?_
  rcases bif_some h with ⟨hd2, h⟩ | ⟨hd2, h⟩
  · refine Tri.run 2 [.g true] [.keep [2] []] (K' := [.code [(3, 0), (1, 0)] 1, .code [] 4]) (σ' := ⟨[(2, .bool true)], []⟩) rfl ⟨hd2, trivial⟩ rfl ?_
    have h := Option.some.inj h
    subst h
    exact Tri.ret rfl ⟨.inl rfl, rfl, rfl⟩
  · obtain ⟨⟨v2, v3⟩, hk3, h⟩ := bind_some h
    obtain ⟨v4, hk4, h⟩ := bind_some h
    refine Tri.run 2 [.g false, .r ⟨[], .agg [.int .i64 v2, .sl 1100 0], [(1100, .arr 3 0 0 (.ints v3))]⟩, .r ⟨[], .bool v4, []⟩] [.keep [1, 4] [1]] (K' := [.code [(5, 0)] 0, .code [] 6]) (σ' := ⟨[(1, .ptr 1 0), (4, .bool v4)], [(1, .box [.int .i64 a0, .list (.ints a1)])]⟩) rfl ⟨(w_spec_IsValidGame v2 v3 v4 hk4), ((w_laws_toGame a0 a1 (v2, v3) hk3).swap 1000 1100), hd2, trivial⟩ rfl ?_
    obtain ⟨⟨v5, v6⟩, hk5, h⟩ := bind_some h
    obtain ⟨v7, hk6, h⟩ := bind_some h
    refine Tri.run 3 [.r ⟨[], .agg [.int .i64 v5, .sl 1101 0], [(1101, .arr 3 0 0 (.ints v6))]⟩, .r ⟨[], .bool v7, []⟩] [.keep [1, 5, 21] [1, 5, 1101]] (K' := [.code [(7, 0)] 1, .code [] 8]) (σ' := ⟨[(1, .ptr 1 0), (5, .ptr 5 0), (21, .bool (v7 != v4))], [(1, .box [.int .i64 a0, .list (.ints a1)]), (5, .box [.int .i64 v5, .sl 1101 0]), (1101, .arr 3 0 0 (.ints v6))]⟩) rfl ⟨(w_impl_IsValidGame v5 v6 v7 hk6), ((w_laws_toGame a0 a1 (v5, v6) hk5).swap 1000 1101), trivial⟩ rfl ?_
    rcases bif_some h with ⟨hd7, h⟩ | ⟨hd7, h⟩
    · refine Tri.run 2 [.g true] [.keep [2] []] (K' := [.code [(7, 0), (1, 0)] 1, .code [] 8]) (σ' := ⟨[(2, .bool false)], []⟩) rfl ⟨hd7, trivial⟩ rfl ?_
      have h := Option.some.inj h
      subst h
      exact Tri.ret rfl ⟨.inl rfl, rfl, rfl⟩
    · obtain ⟨⟨v8, v9⟩, hk8, h⟩ := bind_some h
      obtain ⟨v10, hk9, h⟩ := bind_some h
      refine Tri.run 2 [.g false, .r ⟨[], .agg [.int .i64 v8, .sl 1102 0], [(1102, .arr 3 0 0 (.ints v9))]⟩, .r ⟨[], .bool v10, []⟩] [.keep [26] []] (K' := [.code [(8, 0)] 1, .code [] 9]) (σ' := ⟨[(26, .bool (!v10))], []⟩) rfl ⟨(w_laws_eqGame v5 v6 v8 v9 v10 hk9), ((w_laws_toGame a0 a1 (v8, v9) hk8).swap 1000 1102), hd7, trivial⟩ rfl ?_
      rcases bif_some h with ⟨hd10, h⟩ | ⟨hd10, h⟩
      · refine Tri.run 2 [.g true] [.keep [2] []] (K' := [.code [(8, 0), (1, 0)] 1, .code [] 9]) (σ' := ⟨[(2, .bool false)], []⟩) rfl ⟨hd10, trivial⟩ rfl ?_
        have h := Option.some.inj h
        subst h
        exact Tri.ret rfl ⟨.inl rfl, rfl, rfl⟩
      · refine Tri.run 2 [.g false] [.keep [2] []] (K' := [.code [] 10]) (σ' := ⟨[(2, .bool true)], []⟩) rfl ⟨hd10, trivial⟩ rfl ?_
        have h := Option.some.inj h
        subst h
        exact Tri.ret rfl ⟨.inl rfl, rfl, rfl⟩
/-! spec.GrandValue -/
noncomputable def E_spec_GrandValue : Env := ⟨Try.prog, tys, (Try.f20.body).getD .skip, 14, tysOk, mixedOk⟩
abbrev q_spec_GrandValue (r : Int) (σ' : ASt) : Prop := resAV E_spec_GrandValue.T σ' Try.f20.results.toList = some (.int .i64 r) ∧ keepO σ'.ob (namesO []) = []
noncomputable def m_spec_GrandValue (a0 : Int) (a1 : List Int) : Option Int :=
(m_spec_IsValidGame a0 a1).bind fun v1 =>
bif !v1 then
(some (0 : Int))
else
(grd ((0 : Int) ≤ IntKind.i64.wrap ((a1.length : Int) - (1 : Int)) ∧ IntKind.i64.wrap ((a1.length : Int) - (1 : Int)) < (a1.length : Int)) <|
some (a1.getD ((IntKind.i64.wrap ((a1.length : Int) - (1 : Int))).toNat) 0))
theorem w_spec_GrandValue (a0 : Int) (a1 : List Int) (r : Int) (h : m_spec_GrandValue a0 a1 = some r) : AM.Spec Try.prog 20 [.agg [.int .i64 a0, .list (.ints a1)]] [] (.int .i64 r) [] := by
  refine spec_of (E := E_spec_GrandValue) Try.func20 rfl rfl rfl rfl ?_
  refine Tri.run 1 [] [.keep [1] [1]] (K' := [.code [(1, 0), (0, 0)] 0, .code [(1, 0)] 1, .code [] 2]) (σ' := ⟨[(1, .ptr 1 0)], [(1, .box [.int .i64 a0, .list (.ints a1)])]⟩) rfl trivial rfl ?_
  obtain ⟨v1, hk1, h⟩ := bind_some h
  refine Tri.run 1 [.r ⟨[], .bool v1, []⟩] [.keep [1, 5] [1]] (K' := [.code [(1, 0)] 1, .code [] 2]) (σ' := ⟨[(1, .ptr 1 0), (5, .bool (!v1))], [(1, .box [.int .i64 a0, .list (.ints a1)])]⟩) rfl ⟨(w_spec_IsValidGame a0 a1 v1 hk1), trivial⟩ rfl ?_
  rcases bif_some h with ⟨hd2, h⟩ | ⟨hd2, h⟩
  · refine Tri.run 2 [.g true] [.keep [2] []] (K' := [.code [(1, 0), (1, 0)] 1, .code [] 2]) (σ' := ⟨[(2, .int .i64 (0 : Int))], []⟩) rfl ⟨hd2, trivial⟩ rfl ?_
    have h := Option.some.inj h
    subst h
    exact Tri.ret rfl ⟨.inl rfl, rfl, rfl⟩
  · obtain ⟨hg3, h⟩ := grd_some h
    refine Tri.run 2 [.g false] [.keep [2] []] (K' := [.code [] 3]) (σ' := ⟨[(2, .int .i64 (a1.getD ((IntKind.i64.wrap ((a1.length : Int) - (1 : Int))).toNat) 0))], []⟩) rfl ⟨hg3, hd2, trivial⟩ rfl ?_
    have h := Option.some.inj h
    subst h
    exact Tri.ret rfl ⟨.inl rfl, rfl, rfl⟩
/-! impl.GrandValue -/
noncomputable def E_impl_GrandValue : Env := ⟨Try.prog, tys, (Try.f21.body).getD .skip, 14, tysOk, mixedOk⟩
abbrev q_impl_GrandValue (r : Int) (σ' : ASt) : Prop := resAV E_impl_GrandValue.T σ' Try.f21.results.toList = some (.int .i64 r) ∧ keepO σ'.ob (namesO []) = []
noncomputable def m_impl_GrandValue (a0 : Int) (a1 : List Int) : Option Int :=
(m_impl_IsValidGame a0 a1).bind fun v1 =>
bif !v1 then
(some (0 : Int))
else
(grd ((0 : Int) ≤ IntKind.i64.wrap ((a1.length : Int) - (1 : Int)) ∧ IntKind.i64.wrap ((a1.length : Int) - (1 : Int)) < (a1.length : Int)) <|
some (a1.getD ((IntKind.i64.wrap ((a1.length : Int) - (1 : Int))).toNat) 0))
theorem w_impl_GrandValue (a0 : Int) (a1 : List Int) (r : Int) (h : m_impl_GrandValue a0 a1 = some r) : AM.Spec Try.prog 21 [.agg [.int .i64 a0, .list (.ints a1)]] [] (.int .i64 r) [] := by
  refine spec_of (E := E_impl_GrandValue) Try.func21 rfl rfl rfl rfl ?_
  refine Tri.run 1 [] [.keep [1] [1]] (K' := [.code [(1, 0), (0, 0)] 0, .code [(1, 0)] 1, .code [] 2]) (σ' := ⟨[(1, .ptr 1 0)], [(1, .box [.int .i64 a0, .list (.ints a1)])]⟩) rfl trivial rfl ?_
  obtain ⟨v1, hk1, h⟩ := bind_some h
  refine Tri.run 1 [.r ⟨[], .bool v1, []⟩] [.keep [1, 5] [1]] (K' := [.code [(1, 0)] 1, .code [] 2]) (σ' := ⟨[(1, .ptr 1 0), (5, .bool (!v1))], [(1, .box [.int .i64 a0, .list (.ints a1)])]⟩) rfl ⟨(w_impl_IsValidGame a0 a1 v1 hk1), trivial⟩ rfl ?_
  rcases bif_some h with ⟨hd2, h⟩ | ⟨hd2, h⟩
  · refine Tri.run 2 [.g true] [.keep [2] []] (K' := [.code [(1, 0), (1, 0)] 1, .code [] 2]) (σ' := ⟨[(2, .int .i64 (0 : Int))], []⟩) rfl ⟨hd2, trivial⟩ rfl ?_
    have h := Option.some.inj h
    subst h
    exact Tri.ret rfl ⟨.inl rfl, rfl, rfl⟩
  · obtain ⟨hg3, h⟩ := grd_some h
    refine Tri.run 2 [.g false] [.keep [2] []] (K' := [.code [] 3]) (σ' := ⟨[(2, .int .i64 (a1.getD ((IntKind.i64.wrap ((a1.length : Int) - (1 : Int))).toNat) 0))], []⟩) rfl ⟨hg3, hd2, trivial⟩ rfl ?_
    have h := Option.some.inj h
    subst h
    exact Tri.ret rfl ⟨.inl rfl, rfl, rfl⟩
/-! laws.FnExactGrandValue -/
noncomputable def E_laws_FnExactGrandValue : Env := ⟨Try.prog, tys, (Try.f7.body).getD .skip, 27, tysOk, mixedOk⟩
abbrev q_laws_FnExactGrandValue (r : Bool) (σ' : ASt) : Prop := resAV E_laws_FnExactGrandValue.T σ' Try.f7.results.toList = some (.bool r) ∧ keepO σ'.ob (namesO []) = []
noncomputable def m_laws_FnExactGrandValue (a0 : Int) (a1 : List Int) : Option Bool :=
(m_laws_szGame a0 a1 (1048576 : Int)).bind fun v1 =>
bif decide (v1 < (0 : Int)) then
(some true)
else
((m_laws_toGame a0 a1).bind fun (v2, v3) =>
(m_spec_GrandValue v2 v3).bind fun v4 =>
(m_laws_toGame a0 a1).bind fun (v5, v6) =>
(m_impl_GrandValue v5 v6).bind fun v7 =>
bif v7 != v4 then
(some false)
else
((m_laws_toGame a0 a1).bind fun (v8, v9) =>
(m_laws_eqGame v5 v6 v8 v9).bind fun v10 =>
bif !v10 then
(some false)
else
(some true)))
theorem w_laws_FnExactGrandValue (a0 : Int) (a1 : List Int) (r : Bool) (h : m_laws_FnExactGrandValue a0 a1 = some r) : AM.Spec Try.prog 7 [.agg [.int .i64 a0, .list (.ints a1)]] [] (.bool r) [] := by
  refine spec_of (E := E_laws_FnExactGrandValue) Try.func7 rfl rfl rfl rfl ?_
  refine Tri.run 2 [] [.keep [1, 3] [1]] (K' := [.code [(2, 0)] 0, .code [] 3]) (σ' := ⟨[(1, .ptr 1 0), (3, .int .i64 (1048576 : Int))], [(1, .box [.int .i64 a0, .list (.ints a1)])]⟩) rfl trivial rfl ?_
  obtain ⟨v1, hk1, h⟩ := bind_some h
  refine Tri.run 2 [.r ⟨[], .int .i64 v1, []⟩] [.keep [1, 11] [1]] (K' := [.code [(3, 0)] 1, .code [] 4]) (σ' := ⟨[(1, .ptr 1 0), (11, .bool (decide (v1 < (0 : Int))))], [(1, .box [.int .i64 a0, .list (.ints a1)])]⟩) rfl ⟨(w_laws_szGame a0 a1 (1048576 : Int) v1 hk1), trivial⟩ rfl ?_
  rcases bif_some h with ⟨hd2, h⟩ | ⟨hd2, h⟩
  · refine Tri.run 2 [.g true] [.keep [2] []] (K' := [.code [(3, 0), (1, 0)] 1, .code [] 4]) (σ' := ⟨[(2, .bool true)], []⟩) rfl ⟨hd2, trivial⟩ rfl ?_
    have h := Option.some.inj h
    subst h
    exact Tri.ret rfl ⟨.inl rfl, rfl, rfl⟩
  · obtain ⟨⟨v2, v3⟩, hk3, h⟩ := bind_some h
    obtain ⟨v4, hk4, h⟩ := bind_some h
    refine Tri.run 2 [.g false, .r ⟨[], .agg [.int .i64 v2, .sl 1100 0], [(1100, .arr 3 0 0 (.ints v3))]⟩, .r ⟨[], .int .i64 v4, []⟩] [.keep [1, 4] [1]] (K' := [.code [(5, 0)] 0, .code [] 6]) (σ' := ⟨[(1, .ptr 1 0), (4, .int .i64 v4)], [(1, .box [.int .i64 a0, .list (.ints a1)])]⟩) rfl ⟨(w_spec_GrandValue v2 v3 v4 hk4), ((w_laws_toGame a0 a1 (v2, v3) hk3).swap 1000 1100), hd2, trivial⟩ rfl ?_
    obtain ⟨⟨v5, v6⟩, hk5, h⟩ := bind_some h
    obtain ⟨v7, hk6, h⟩ := bind_some h
    refine Tri.run 3 [.r ⟨[], .agg [.int .i64 v5, .sl 1101 0], [(1101, .arr 3 0 0 (.ints v6))]⟩, .r ⟨[], .int .i64 v7, []⟩] [.keep [1, 5, 21] [1, 5, 1101]] (K' := [.code [(7, 0)] 1, .code [] 8]) (σ' := ⟨[(1, .ptr 1 0), (5, .ptr 5 0), (21, .bool (v7 != v4))], [(1, .box [.int .i64 a0, .list (.ints a1)]), (5, .box [.int .i64 v5, .sl 1101 0]), (1101, .arr 3 0 0 (.ints v6))]⟩) rfl ⟨(w_impl_GrandValue v5 v6 v7 hk6), ((w_laws_toGame a0 a1 (v5, v6) hk5).swap 1000 1101), trivial⟩ rfl ?_
    rcases bif_some h with ⟨hd7, h⟩ | ⟨hd7, h⟩
    · refine Tri.run 2 [.g true] [.keep [2] []] (K' := [.code [(7, 0), (1, 0)] 1, .code [] 8]) (σ' := ⟨[(2, .bool false)], []⟩) rfl ⟨hd7, trivial⟩ rfl ?_
      have h := Option.some.inj h
      subst h
      exact Tri.ret rfl ⟨.inl rfl, rfl, rfl⟩
    · obtain ⟨⟨v8, v9⟩, hk8, h⟩ := bind_some h
      obtain ⟨v10, hk9, h⟩ := bind_some h
      refine Tri.run 2 [.g false, .r ⟨[], .agg [.int .i64 v8, .sl 1102 0], [(1102, .arr 3 0 0 (.ints v9))]⟩, .r ⟨[], .bool v10, []⟩] [.keep [26] []] (K' := [.code [(8, 0)] 1, .code [] 9]) (σ' := ⟨[(26, .bool (!v10))], []⟩) rfl ⟨(w_laws_eqGame v5 v6 v8 v9 v10 hk9), ((w_laws_toGame a0 a1 (v8, v9) hk8).swap 1000 1102), hd7, trivial⟩ rfl ?_
      rcases bif_some h with ⟨hd10, h⟩ | ⟨hd10, h⟩
      · refine Tri.run 2 [.g true] [.keep [2] []] (K' := [.code [(8, 0), (1, 0)] 1, .code [] 9]) (σ' := ⟨[(2, .bool false)], []⟩) rfl ⟨hd10, trivial⟩ rfl ?_
        have h := Option.some.inj h
        subst h
        exact Tri.ret rfl ⟨.inl rfl, rfl, rfl⟩
      · refine Tri.run 2 [.g false] [.keep [2] []] (K' := [.code [] 10]) (σ' := ⟨[(2, .bool true)], []⟩) rfl ⟨hd10, trivial⟩ rfl ?_
        have h := Option.some.inj h
        subst h
        exact Tri.ret rfl ⟨.inl rfl, rfl, rfl⟩
/-! laws.szRatS -/
noncomputable def E_laws_szRatS : Env := ⟨Try.prog, tys, (Try.f38.body).getD .skip, 12, tysOk, mixedOk⟩
abbrev q_laws_szRatS (r : Int) (σ' : ASt) : Prop := resAV E_laws_szRatS.T σ' Try.f38.results.toList = some (.int .i64 r) ∧ keepO σ'.ob (namesO []) = []
noncomputable def m_laws_szRatS (a0 : List Q) (a1 : Int) : Option Int :=
bif decide ((IntKind.i64.wrap (a1 - (a0.length : Int))) < (0 : Int)) then
(some (-1 : Int))
else
(some (IntKind.i64.wrap (a1 - (a0.length : Int))))
theorem w_laws_szRatS (a0 : List Q) (a1 : Int) (r : Int) (h : m_laws_szRatS a0 a1 = some r) : AM.Spec Try.prog 38 [.list (.rats a0), .int .i64 a1] [] (.int .i64 r) [] := by
  refine spec_of (E := E_laws_szRatS) Try.func38 rfl rfl rfl rfl ?_
  refine Tri.run 3 [] [.keep [1, 10] []] (K' := [.code [(2, 0)] 1, .code [] 3]) (σ' := ⟨[(1, .int .i64 (IntKind.i64.wrap (a1 - (a0.length : Int)))), (10, .bool (decide ((IntKind.i64.wrap (a1 - (a0.length : Int))) < (0 : Int))))], []⟩) rfl trivial rfl ?_
  rcases bif_some h with ⟨hd1, h⟩ | ⟨hd1, h⟩
  · refine Tri.run 2 [.g true] [.keep [4] []] (K' := [.code [(2, 0), (1, 0)] 1, .code [] 3]) (σ' := ⟨[(4, .int .i64 (-1 : Int))], []⟩) rfl ⟨hd1, trivial⟩ rfl ?_
    have h := Option.some.inj h
    subst h
    exact Tri.ret rfl ⟨.inl rfl, rfl, rfl⟩
  · refine Tri.run 2 [.g false] [.keep [4] []] (K' := [.code [] 4]) (σ' := ⟨[(4, .int .i64 (IntKind.i64.wrap (a1 - (a0.length : Int))))], []⟩) rfl ⟨hd1, trivial⟩ rfl ?_
    have h := Option.some.inj h
    subst h
    exact Tri.ret rfl ⟨.inl rfl, rfl, rfl⟩
/-! laws.szLeastResult -/
noncomputable def E_laws_szLeastResult : Env := ⟨Try.prog, tys, (Try.f22.body).getD .skip, 18, tysOk, mixedOk⟩
abbrev q_laws_szLeastResult (r : Int) (σ' : ASt) : Prop := resAV E_laws_szLeastResult.T σ' Try.f22.results.toList = some (.int .i64 r) ∧ keepO σ'.ob (namesO []) = []
noncomputable def m_laws_szLeastResult (_a0 : Bool) (_a1 : Int) (_a2 : Int) (a3 : List Q) (a4 : List Q) (a5 : Int) : Option Int :=
(m_laws_szRatS a3 a5).bind fun v1 =>
bif decide (v1 < (0 : Int)) then
(some (-1 : Int))
else
((m_laws_szRatS a4 v1).bind fun v2 =>
bif decide (v2 < (0 : Int)) then
(some (-1 : Int))
else
(some v2))
theorem w_laws_szLeastResult (a0 : Bool) (a1 : Int) (a2 : Int) (a3 : List Q) (a4 : List Q) (a5 : Int) (r : Int) (h : m_laws_szLeastResult a0 a1 a2 a3 a4 a5 = some r) : AM.Spec Try.prog 22 [.agg [.bool a0, .int .i64 a1, .int .i64 a2, .list (.rats a3), .list (.rats a4)], .int .i64 a5] [] (.int .i64 r) [] := by
  refine spec_of (E := E_laws_szLeastResult) Try.func22 rfl rfl rfl rfl ?_
  refine Tri.run 1 [] [.keep [1, 2] [2]] (K' := [.code [(1, 0)] 0, .code [] 2]) (σ' := ⟨[(1, .int .i64 a5), (2, .ptr 2 0)], [(2, .box [.bool a0, .int .i64 a1, .int .i64 a2, .list (.rats a3), .list (.rats a4)])]⟩) rfl trivial rfl ?_
  obtain ⟨v1, hk1, h⟩ := bind_some h
  refine Tri.run 2 [.r ⟨[], .int .i64 v1, []⟩] [.keep [1, 2, 10] [2]] (K' := [.code [(2, 0)] 1, .code [] 3]) (σ' := ⟨[(1, .int .i64 v1), (2, .ptr 2 0), (10, .bool (decide (v1 < (0 : Int))))], [(2, .box [.bool a0, .int .i64 a1, .int .i64 a2, .list (.rats a3), .list (.rats a4)])]⟩) rfl ⟨(w_laws_szRatS a3 a5 v1 hk1), trivial⟩ rfl ?_
  rcases bif_some h with ⟨hd2, h⟩ | ⟨hd2, h⟩
  · refine Tri.run 2 [.g true] [.keep [4] []] (K' := [.code [(2, 0), (1, 0)] 1, .code [] 3]) (σ' := ⟨[(4, .int .i64 (-1 : Int))], []⟩) rfl ⟨hd2, trivial⟩ rfl ?_
    have h := Option.some.inj h
    subst h
    exact Tri.ret rfl ⟨.inl rfl, rfl, rfl⟩
  · obtain ⟨v2, hk3, h⟩ := bind_some h
    refine Tri.run 3 [.g false, .r ⟨[], .int .i64 v2, []⟩] [.keep [1, 16] []] (K' := [.code [(4, 0)] 1, .code [] 5]) (σ' := ⟨[(1, .int .i64 v2), (16, .bool (decide (v2 < (0 : Int))))], []⟩) rfl ⟨(w_laws_szRatS a4 v1 v2 hk3), hd2, trivial⟩ rfl ?_
    rcases bif_some h with ⟨hd4, h⟩ | ⟨hd4, h⟩
    · refine Tri.run 2 [.g true] [.keep [4] []] (K' := [.code [(4, 0), (1, 0)] 1, .code [] 5]) (σ' := ⟨[(4, .int .i64 (-1 : Int))], []⟩) rfl ⟨hd4, trivial⟩ rfl ?_
      have h := Option.some.inj h
      subst h
      exact Tri.ret rfl ⟨.inl rfl, rfl, rfl⟩
    · refine Tri.run 2 [.g false] [.keep [4] []] (K' := [.code [] 6]) (σ' := ⟨[(4, .int .i64 v2)], []⟩) rfl ⟨hd4, trivial⟩ rfl ?_
      have h := Option.some.inj h
      subst h
      exact Tri.ret rfl ⟨.inl rfl, rfl, rfl⟩
/-! laws.toRat -/
noncomputable def E_laws_toRat : Env := ⟨Try.prog, tys, (Try.f40.body).getD .skip, 11, tysOk, mixedOk⟩
abbrev q_laws_toRat (r : Int × Int) (σ' : ASt) : Prop := resAV E_laws_toRat.T σ' Try.f40.results.toList = some (.agg [.int .i64 r.1, .int .i64 r.2]) ∧ keepO σ'.ob (namesO []) = []
noncomputable def m_laws_toRat (a0 : Int) (a1 : Int) : Option (Int × Int) :=
some (a0, a1)
theorem w_laws_toRat (a0 : Int) (a1 : Int) (r : Int × Int) (h : m_laws_toRat a0 a1 = some r) : AM.Spec Try.prog 40 [.agg [.int .i64 a0, .int .i64 a1]] [] (.agg [.int .i64 r.1, .int .i64 r.2]) [] := by
  refine spec_of (E := E_laws_toRat) Try.func40 rfl rfl rfl rfl ?_
  refine Tri.run 3 [] [.keep [1, 2, 3] [1, 2, 3]] (K' := [.code [(3, 0)] 0, .code [] 4]) (σ' := ⟨[(1, .ptr 1 0), (2, .ptr 2 0), (3, .ptr 3 0)], [(1, .box [.int .i64 a0, .int .i64 a1]), (2, .box [.int .i64 0, .int .i64 0]), (3, .box [.int .i64 a0, .int .i64 0])]⟩) rfl trivial rfl ?_
  refine Tri.run 2 [] [.keep [2] [2]] (K' := [.code [] 5]) (σ' := ⟨[(2, .ptr 2 0)], [(2, .box [.int .i64 a0, .int .i64 a1])]⟩) rfl trivial rfl ?_
  have h := Option.some.inj h
  subst h
  exact Tri.ret rfl ⟨.inl rfl, rfl, rfl⟩
/-! laws.toRatS -/
noncomputable def E_laws_toRatS : Env := ⟨Try.prog, tys, (Try.f41.body).getD .skip, 23, tysOk, mixedOk⟩
abbrev q_laws_toRatS (r : List Q) (σ' : ASt) : Prop := resAV E_laws_toRatS.T σ' Try.f41.results.toList = some (.sl 1000 0) ∧ keepO σ'.ob (namesO [(1000, .arr 44 0 0 (.rats r))]) = [(1000, .arr 44 0 0 (.rats r))]
noncomputable def l_laws_toRatS_0 (a0 : List Q) : (Int × (List Q)) → Option ((Int × (List Q)) ⊕ ((List Q)))
  | (v1, v2) => (
bif decide (v1 < (a0.length : Int)) then
(grd ((0 : Int) ≤ v1 ∧ v1 < (a0.length : Int)) <|
(m_laws_toRat ((a0.getD v1.toNat ⟨0, 0⟩).num) ((a0.getD v1.toNat ⟨0, 0⟩).den)).bind fun (v3, v4) =>
grd ((0 : Int) ≤ v1 ∧ v1 < (v2.length : Int)) <|
some (.inl (IntKind.i64.wrap (v1 + (1 : Int)), v2.set v1.toNat ⟨v3, v4⟩)))
else
(some (.inr v2)))
noncomputable def m_laws_toRatS (a0 : List Q) : Option (List Q) :=
grd ((0 : Int) ≤ (a0.length : Int) ∧ (a0.length : Int) = (a0.length : Int) ∧ (a0.length : Int) ≤ (room : Int)) <|
(iter (l_laws_toRatS_0 a0) ((0 : Int), List.replicate (a0.length : Int).toNat (⟨0, 0⟩ : Q))).bind fun
| v5 => (
some v5)
theorem w_laws_toRatS (a0 : List Q) (r : List Q) (h : m_laws_toRatS a0 = some r) : AM.Spec Try.prog 41 [.list (.rats a0)] [] (.sl 1000 0) [(1000, .arr 44 0 0 (.rats r))] := by
  refine spec_of (E := E_laws_toRatS) Try.func41 rfl rfl rfl rfl ?_
  obtain ⟨hg1, h⟩ := grd_some h
  refine Tri.run 3 [] [.keep [0, 3, 4] [7]] (K' := [.code [(2, 0), (1, 0)] 0, .blk 0, .code [] 3]) (σ' := ⟨[(0, .list (.rats a0)), (3, .sl 7 0), (4, .int .i64 (0 : Int))], [(7, .arr 44 0 0 (.rats (List.replicate (a0.length : Int).toNat (⟨0, 0⟩ : Q))))]⟩) rfl ⟨hg1, trivial⟩ rfl ?_
  obtain ⟨v5, hk6, h⟩ := bind_some h
  refine Tri.loop (K1 := [.code [(2, 0), (1, 0), (0, 0)] 0]) (K2 := [.blk 0, .code [] 3]) (fun (v1, v2) => ⟨[(0, .list (.rats a0)), (3, .sl 7 0), (4, .int .i64 v1)], [(7, .arr 44 0 0 (.rats v2))]⟩) (fun x e σ' => match x with | v5 => e = .exit 0 ∧ σ' = ⟨[(3, .sl 7 0)], [(7, .arr 44 0 0 (.rats v5))]⟩) hk6 rfl rfl ?_ ?_
  · intro s x hs
    clear h
    have h := hs
    clear hs
    obtain ⟨v1, v2⟩ := s
    refine Tri.run 1 [] [.keep [0, 3, 4, 11] [7]] (K' := [.code [(2, 0), (1, 0), (0, 0), (0, 0)] 1, .code [(2, 0), (1, 0), (0, 0)] 1]) (σ' := ⟨[(0, .list (.rats a0)), (3, .sl 7 0), (4, .int .i64 v1), (11, .bool (decide (v1 < (a0.length : Int))))], [(7, .arr 44 0 0 (.rats v2))]⟩) rfl trivial rfl ?_
    rcases bif_some h with ⟨hd2, h⟩ | ⟨hd2, h⟩
    · obtain ⟨hg3, h⟩ := grd_some h
      obtain ⟨⟨v3, v4⟩, hk4, h⟩ := bind_some h
      obtain ⟨hg5, h⟩ := grd_some h
      refine Tri.run 3 [.g true, .r ⟨[], .agg [.int .i64 v3, .int .i64 v4], []⟩] [.keep [0, 3, 4] [7]] (K' := []) (σ' := ⟨[(0, .list (.rats a0)), (3, .sl 7 0), (4, .int .i64 (IntKind.i64.wrap (v1 + (1 : Int))))], [(7, .arr 44 0 0 (.rats (v2.set v1.toNat ⟨v3, v4⟩)))]⟩) rfl ⟨hg5, (w_laws_toRat ((a0.getD v1.toNat ⟨0, 0⟩).num) ((a0.getD v1.toNat ⟨0, 0⟩).den) (v3, v4) hk4), hg3, hd2, trivial⟩ rfl ?_
      have h := Option.some.inj h
      subst h
      exact Tri.nil ⟨rfl, rfl⟩
    · refine Tri.run 1 [.g false] [.keep [3] [7]] (K' := [.code [(2, 0), (1, 0), (0, 0), (0, 0), (1, 1)] 0, .code [(2, 0), (1, 0), (0, 0)] 1]) (σ' := ⟨[(3, .sl 7 0)], [(7, .arr 44 0 0 (.rats v2))]⟩) rfl ⟨hd2, trivial⟩ rfl ?_
      have h := Option.some.inj h
      subst h
      exact Tri.out 0 rfl ⟨nofun, rfl, rfl⟩
  · intro e σ' hne hq
    obtain ⟨rfl, rfl⟩ := hq
    refine TriX.exit (K' := [.code [] 3]) rfl ?_
    refine Tri.run 1 [] [.swap 7 1000, .keep [2] [1000]] (K' := [.code [] 4]) (σ' := ⟨[(2, .sl 1000 0)], [(1000, .arr 44 0 0 (.rats v5))]⟩) rfl trivial rfl ?_
    have h := Option.some.inj h
    subst h
    exact Tri.ret rfl ⟨.inl rfl, rfl, rfl⟩
/-! laws.toLeastResult -/
noncomputable def E_laws_toLeastResult : Env := ⟨Try.prog, tys, (Try.f24.body).getD .skip, 20, tysOk, mixedOk⟩
abbrev q_laws_toLeastResult (r : Bool × Int × Int × (List Q) × (List Q)) (σ' : ASt) : Prop := resAV E_laws_toLeastResult.T σ' Try.f24.results.toList = some (.agg [.bool r.1, .int .i64 r.2.1, .int .i64 r.2.2.1, .sl 1000 0, .sl 1001 0]) ∧ keepO σ'.ob (namesO [(1000, .arr 44 0 0 (.rats r.2.2.2.1)), (1001, .arr 44 0 0 (.rats r.2.2.2.2))]) = [(1000, .arr 44 0 0 (.rats r.2.2.2.1)), (1001, .arr 44 0 0 (.rats r.2.2.2.2))]
noncomputable def m_laws_toLeastResult (a0 : Bool) (a1 : Int) (a2 : Int) (a3 : List Q) (a4 : List Q) : Option (Bool × Int × Int × (List Q) × (List Q)) :=
(m_laws_toRat a1 a2).bind fun (v1, v2) =>
(m_laws_toRatS a3).bind fun v3 =>
(m_laws_toRatS a4).bind fun v4 =>
some (a0, v1, v2, v3, v4)
theorem w_laws_toLeastResult (a0 : Bool) (a1 : Int) (a2 : Int) (a3 : List Q) (a4 : List Q) (r : Bool × Int × Int × (List Q) × (List Q)) (h : m_laws_toLeastResult a0 a1 a2 a3 a4 = some r) : AM.Spec Try.prog 24 [.agg [.bool a0, .int .i64 a1, .int .i64 a2, .list (.rats a3), .list (.rats a4)]] [] (.agg [.bool r.1, .int .i64 r.2.1, .int .i64 r.2.2.1, .sl 1000 0, .sl 1001 0]) [(1000, .arr 44 0 0 (.rats r.2.2.2.1)), (1001, .arr 44 0 0 (.rats r.2.2.2.2))] := by
  refine spec_of (E := E_laws_toLeastResult) Try.func24 rfl rfl rfl rfl ?_
  refine Tri.run 3 [] [.keep [1, 2, 3] [1, 2, 3]] (K' := [.code [(3, 0)] 0, .code [] 4]) (σ' := ⟨[(1, .ptr 1 0), (2, .ptr 2 0), (3, .ptr 3 0)], [(1, .box [.bool a0, .int .i64 a1, .int .i64 a2, .list (.rats a3), .list (.rats a4)]), (2, .box [.bool false, .int .i64 0, .int .i64 0, .nil (.rats []), .nil (.rats [])]), (3, .box [.bool a0, .int .i64 0, .int .i64 0, .nil (.rats []), .nil (.rats [])])]⟩) rfl trivial rfl ?_
  obtain ⟨⟨v1, v2⟩, hk1, h⟩ := bind_some h
  obtain ⟨v3, hk2, h⟩ := bind_some h
  refine Tri.run 2 [.r ⟨[], .agg [.int .i64 v1, .int .i64 v2], []⟩, .r ⟨[], .sl 1100 0, [(1100, .arr 44 0 0 (.rats v3))]⟩] [.keep [1, 2, 3] [1, 2, 3, 1100]] (K' := [.code [(5, 0)] 0, .code [] 6]) (σ' := ⟨[(1, .ptr 1 0), (2, .ptr 2 0), (3, .ptr 3 0)], [(1, .box [.bool a0, .int .i64 a1, .int .i64 a2, .list (.rats a3), .list (.rats a4)]), (2, .box [.bool false, .int .i64 0, .int .i64 0, .nil (.rats []), .nil (.rats [])]), (3, .box [.bool a0, .int .i64 v1, .int .i64 v2, .sl 1100 0, .nil (.rats [])]), (1100, .arr 44 0 0 (.rats v3))]⟩) rfl ⟨((w_laws_toRatS a3 v3 hk2).swap 1000 1100), (w_laws_toRat a1 a2 (v1, v2) hk1), trivial⟩ rfl ?_
  obtain ⟨v4, hk3, h⟩ := bind_some h
  refine Tri.run 2 [.r ⟨[], .sl 1101 0, [(1101, .arr 44 0 0 (.rats v4))]⟩] [.swap 1100 1000, .swap 1101 1001, .keep [2] [2, 1000, 1001]] (K' := [.code [] 7]) (σ' := ⟨[(2, .ptr 2 0)], [(2, .box [.bool a0, .int .i64 v1, .int .i64 v2, .sl 1000 0, .sl 1001 0]), (1000, .arr 44 0 0 (.rats v3)), (1001, .arr 44 0 0 (.rats v4))]⟩) rfl ⟨((w_laws_toRatS a4 v4 hk3).swap 1000 1101), trivial⟩ rfl ?_
  have h := Option.some.inj h
  subst h
  exact Tri.ret rfl ⟨.inl rfl, rfl, rfl⟩
/-! spec.EqualVector -/
noncomputable def E_spec_EqualVector : Env := ⟨Try.prog, tys, (Try.f39.body).getD .skip, 26, tysOk, mixedOk⟩
abbrev q_spec_EqualVector (r : Bool) (σ' : ASt) : Prop := resAV E_spec_EqualVector.T σ' Try.f39.results.toList = some (.bool r) ∧ keepO σ'.ob (namesO []) = []
noncomputable def l_spec_EqualVector_0 (a0 : List Q) (a1 : List Q) (v1 : Int) : Option (Int ⊕ (Unit ⊕ Bool)) :=
bif decide (v1 < (a0.length : Int)) then
(grd ((0 : Int) ≤ v1 ∧ v1 < (a0.length : Int)) <|
grd ((0 : Int) ≤ v1 ∧ v1 < (a1.length : Int)) <|
bif !(((a0.getD v1.toNat ⟨0, 0⟩).num) == ((a1.getD v1.toNat ⟨0, 0⟩).num) && ((a0.getD v1.toNat ⟨0, 0⟩).den) == ((a1.getD v1.toNat ⟨0, 0⟩).den)) then
(some (.inr (.inr false)))
else
(some (.inl (IntKind.i64.wrap (v1 + (1 : Int))))))
else
(some (.inr (.inl ())))
noncomputable def m_spec_EqualVector (a0 : List Q) (a1 : List Q) : Option Bool :=
bif (a0.length : Int) != (a1.length : Int) then
(some false)
else
((iter (l_spec_EqualVector_0 a0 a1) (0 : Int)).bind fun
| (.inl _) => (
some true)
| (.inr r) => some r)
theorem w_spec_EqualVector (a0 : List Q) (a1 : List Q) (r : Bool) (h : m_spec_EqualVector a0 a1 = some r) : AM.Spec Try.prog 39 [.list (.rats a0), .list (.rats a1)] [] (.bool r) [] := by
  refine spec_of (E := E_spec_EqualVector) Try.func39 rfl rfl rfl rfl ?_
  refine Tri.run 2 [] [.keep [0, 1, 10] []] (K' := [.code [(1, 0)] 1, .code [] 2]) (σ' := ⟨[(0, .list (.rats a0)), (1, .list (.rats a1)), (10, .bool ((a0.length : Int) != (a1.length : Int)))], []⟩) rfl trivial rfl ?_
  rcases bif_some h with ⟨hd1, h⟩ | ⟨hd1, h⟩
  · refine Tri.run 2 [.g true] [.keep [4] []] (K' := [.code [(1, 0), (1, 0)] 1, .code [] 2]) (σ' := ⟨[(4, .bool false)], []⟩) rfl ⟨hd1, trivial⟩ rfl ?_
    have h := Option.some.inj h
    subst h
    exact Tri.ret rfl ⟨.inl rfl, rfl, rfl⟩
  · refine Tri.run 2 [.g false] [.keep [0, 1, 5] []] (K' := [.code [(2, 0), (1, 0)] 0, .blk 0, .code [] 3]) (σ' := ⟨[(0, .list (.rats a0)), (1, .list (.rats a1)), (5, .int .i64 (0 : Int))], []⟩) rfl ⟨hd1, trivial⟩ rfl ?_
    obtain ⟨x1, hk6, h⟩ := bind_some h
    refine Tri.loop (K1 := [.code [(2, 0), (1, 0), (0, 0)] 0]) (K2 := [.blk 0, .code [] 3]) (fun v1 => ⟨[(0, .list (.rats a0)), (1, .list (.rats a1)), (5, .int .i64 v1)], []⟩) (fun x e σ' => match x with | (.inl _) => e = .exit 0 ∧ σ' = ⟨[], []⟩ | (.inr r) => e = .ret ∧ q_spec_EqualVector r σ') hk6 rfl rfl ?_ ?_
    · intro v1 x hs
      clear h
      have h := hs
      clear hs
      refine Tri.run 1 [] [.keep [0, 1, 5, 14] []] (K' := [.code [(2, 0), (1, 0), (0, 0), (0, 0)] 1, .code [(2, 0), (1, 0), (0, 0)] 1]) (σ' := ⟨[(0, .list (.rats a0)), (1, .list (.rats a1)), (5, .int .i64 v1), (14, .bool (decide (v1 < (a0.length : Int))))], []⟩) rfl trivial rfl ?_
      rcases bif_some h with ⟨hd2, h⟩ | ⟨hd2, h⟩
      · obtain ⟨hg3, h⟩ := grd_some h
        obtain ⟨hg4, h⟩ := grd_some h
        refine Tri.run 2 [.g true] [.keep [0, 1, 5, 25] []] (K' := [.code [(2, 0), (1, 0), (0, 0), (1, 0), (0, 0)] 1, .blk 1, .code [(2, 0), (1, 0), (0, 0)] 2]) (σ' := ⟨[(0, .list (.rats a0)), (1, .list (.rats a1)), (5, .int .i64 v1), (25, .bool (!(((a0.getD v1.toNat ⟨0, 0⟩).num) == ((a1.getD v1.toNat ⟨0, 0⟩).num) && ((a0.getD v1.toNat ⟨0, 0⟩).den) == ((a1.getD v1.toNat ⟨0, 0⟩).den))))], []⟩) rfl ⟨hg4, hg3, hd2, trivial⟩ rfl ?_
        rcases bif_some h with ⟨hd5, h⟩ | ⟨hd5, h⟩
        · refine Tri.run 2 [.g true] [.keep [4] []] (K' := [.code [(2, 0), (1, 0), (0, 0), (1, 0), (0, 0), (1, 0)] 1, .blk 1, .code [(2, 0), (1, 0), (0, 0)] 2]) (σ' := ⟨[(4, .bool false)], []⟩) rfl ⟨hd5, trivial⟩ rfl ?_
          have h := Option.some.inj h
          subst h
          exact Tri.ret rfl ⟨nofun, rfl, rfl, rfl⟩
        · refine Tri.run 2 [.g false] [.keep [0, 1, 5] []] (K' := []) (σ' := ⟨[(0, .list (.rats a0)), (1, .list (.rats a1)), (5, .int .i64 (IntKind.i64.wrap (v1 + (1 : Int))))], []⟩) rfl ⟨hd5, trivial⟩ rfl ?_
          have h := Option.some.inj h
          subst h
          exact Tri.nil ⟨rfl, rfl⟩
      · refine Tri.run 1 [.g false] [.keep [] []] (K' := [.code [(2, 0), (1, 0), (0, 0), (0, 0), (1, 1)] 0, .code [(2, 0), (1, 0), (0, 0)] 1]) (σ' := ⟨[], []⟩) rfl ⟨hd2, trivial⟩ rfl ?_
        have h := Option.some.inj h
        subst h
        exact Tri.out 0 rfl ⟨nofun, rfl, rfl⟩
    · intro e σ' hne hq
      rcases x1 with _ | r
      · obtain ⟨rfl, rfl⟩ := hq
        refine TriX.exit (K' := [.code [] 3]) rfl ?_
        refine Tri.run 1 [] [.keep [4] []] (K' := [.code [] 4]) (σ' := ⟨[(4, .bool true)], []⟩) rfl trivial rfl ?_
        have h := Option.some.inj h
        subst h
        exact Tri.ret rfl ⟨.inl rfl, rfl, rfl⟩
      · obtain ⟨rfl, hq⟩ := hq
        have h := Option.some.inj h
        subst h
        exact TriX.ret ⟨.inl rfl, hq⟩
/-! spec.EqualLeast -/
noncomputable def E_spec_EqualLeast : Env := ⟨Try.prog, tys, (Try.f23.body).getD .skip, 31, tysOk, mixedOk⟩
abbrev q_spec_EqualLeast (r : Bool) (σ' : ASt) : Prop := resAV E_spec_EqualLeast.T σ' Try.f23.results.toList = some (.bool r) ∧ keepO σ'.ob (namesO []) = []
noncomputable def m_spec_EqualLeast (a0 : Bool) (a1 : Int) (a2 : Int) (a3 : List Q) (a4 : List Q) (a5 : Bool) (a6 : Int) (a7 : Int) (a8 : List Q) (a9 : List Q) : Option Bool :=
bif a0 == a5 then
(bif a1 == a6 && a2 == a7 then
((m_spec_EqualVector a3 a8).bind fun v1 =>
bif v1 then
((m_spec_EqualVector a4 a9).bind fun v2 =>
some v2)
else
(some false))
else
(some false))
else
(some false)
theorem w_spec_EqualLeast (a0 : Bool) (a1 : Int) (a2 : Int) (a3 : List Q) (a4 : List Q) (a5 : Bool) (a6 : Int) (a7 : Int) (a8 : List Q) (a9 : List Q) (r : Bool) (h : m_spec_EqualLeast a0 a1 a2 a3 a4 a5 a6 a7 a8 a9 = some r) : AM.Spec Try.prog 23 [.agg [.bool a0, .int .i64 a1, .int .i64 a2, .list (.rats a3), .list (.rats a4)], .agg [.bool a5, .int .i64 a6, .int .i64 a7, .list (.rats a8), .list (.rats a9)]] [] (.bool r) [] := by
  refine spec_of (E := E_spec_EqualLeast) Try.func23 rfl rfl rfl rfl ?_
  refine Tri.run 1 [] [.keep [2, 3] [2, 3]] (K' := [.code [(1, 0)] 0, .code [] 2]) (σ' := ⟨[(2, .ptr 2 0), (3, .ptr 3 0)], [(2, .box [.bool a0, .int .i64 a1, .int .i64 a2, .list (.rats a3), .list (.rats a4)]), (3, .box [.bool a5, .int .i64 a6, .int .i64 a7, .list (.rats a8), .list (.rats a9)])]⟩) rfl trivial rfl ?_
  rcases bif_some h with ⟨hd1, h⟩ | ⟨hd1, h⟩
  · rcases bif_some h with ⟨hd2, h⟩ | ⟨hd2, h⟩
    · obtain ⟨v1, hk3, h⟩ := bind_some h
      rcases bif_some h with ⟨hd4, h⟩ | ⟨hd4, h⟩
      · obtain ⟨v2, hk5, h⟩ := bind_some h
        refine Tri.run 1 [.g true, .g true, .r ⟨[], .bool v1, []⟩, .g true, .r ⟨[], .bool v2, []⟩] [.keep [4] []] (K' := [.code [] 2]) (σ' := ⟨[(4, .bool v2)], []⟩) rfl ⟨(w_spec_EqualVector a4 a9 v2 hk5), hd4, (w_spec_EqualVector a3 a8 v1 hk3), hd2, hd1, trivial⟩ rfl ?_
        have h := Option.some.inj h
        subst h
        exact Tri.ret rfl ⟨.inl rfl, rfl, rfl⟩
      · refine Tri.run 1 [.g true, .g true, .r ⟨[], .bool v1, []⟩, .g false] [.keep [4] []] (K' := [.code [] 2]) (σ' := ⟨[(4, .bool false)], []⟩) rfl ⟨hd4, (w_spec_EqualVector a3 a8 v1 hk3), hd2, hd1, trivial⟩ rfl ?_
        have h := Option.some.inj h
        subst h
        exact Tri.ret rfl ⟨.inl rfl, rfl, rfl⟩
    · refine Tri.run 1 [.g true, .g false, .g false] [.keep [4] []] (K' := [.code [] 2]) (σ' := ⟨[(4, .bool false)], []⟩) rfl ⟨rfl, hd2, hd1, trivial⟩ rfl ?_
      have h := Option.some.inj h
      subst h
      exact Tri.ret rfl ⟨.inl rfl, rfl, rfl⟩
  · refine Tri.run 1 [.g false, .g false, .g false] [.keep [4] []] (K' := [.code [] 2]) (σ' := ⟨[(4, .bool false)], []⟩) rfl ⟨rfl, rfl, hd1, trivial⟩ rfl ?_
    have h := Option.some.inj h
    subst h
    exact Tri.ret rfl ⟨.inl rfl, rfl, rfl⟩
/-! impl.Rat) -/
noncomputable def E_slices_Equal_impl_Rat_impl_Rat : Env := ⟨Try.prog, tys, (Try.f42.body).getD .skip, 26, tysOk, mixedOk⟩
abbrev q_slices_Equal_impl_Rat_impl_Rat (r : Bool) (σ' : ASt) : Prop := resAV E_slices_Equal_impl_Rat_impl_Rat.T σ' Try.f42.results.toList = some (.bool r) ∧ keepO σ'.ob (namesO []) = []
noncomputable def l_slices_Equal_impl_Rat_impl_Rat_0 (a0 : List Q) (a1 : List Q) (v1 : Int) : Option (Int ⊕ (Unit ⊕ Bool)) :=
bif decide (v1 < (a0.length : Int)) then
(grd ((0 : Int) ≤ v1 ∧ v1 < (a0.length : Int)) <|
grd ((0 : Int) ≤ v1 ∧ v1 < (a1.length : Int)) <|
bif !(((a0.getD v1.toNat ⟨0, 0⟩).num) == ((a1.getD v1.toNat ⟨0, 0⟩).num) && ((a0.getD v1.toNat ⟨0, 0⟩).den) == ((a1.getD v1.toNat ⟨0, 0⟩).den)) then
(some (.inr (.inr false)))
else
(some (.inl (IntKind.i64.wrap (v1 + (1 : Int))))))
else
(some (.inr (.inl ())))
noncomputable def m_slices_Equal_impl_Rat_impl_Rat (a0 : List Q) (a1 : List Q) : Option Bool :=
bif (a0.length : Int) != (a1.length : Int) then
(some false)
else
((iter (l_slices_Equal_impl_Rat_impl_Rat_0 a0 a1) (0 : Int)).bind fun
| (.inl _) => (
some true)
| (.inr r) => some r)
theorem w_slices_Equal_impl_Rat_impl_Rat (a0 : List Q) (a1 : List Q) (r : Bool) (h : m_slices_Equal_impl_Rat_impl_Rat a0 a1 = some r) : AM.Spec Try.prog 42 [.list (.rats a0), .list (.rats a1)] [] (.bool r) [] := by
  refine spec_of (E := E_slices_Equal_impl_Rat_impl_Rat) Try.func42 rfl rfl rfl rfl ?_
  refine Tri.run 2 [] [.keep [0, 1, 10] []] (K' := [.code [(1, 0)] 1, .code [] 2]) (σ' := ⟨[(0, .list (.rats a0)), (1, .list (.rats a1)), (10, .bool ((a0.length : Int) != (a1.length : Int)))], []⟩) rfl trivial rfl ?_
  rcases bif_some h with ⟨hd1, h⟩ | ⟨hd1, h⟩
  · refine Tri.run 2 [.g true] [.keep [4] []] (K' := [.code [(1, 0), (1, 0)] 1, .code [] 2]) (σ' := ⟨[(4, .bool false)], []⟩) rfl ⟨hd1, trivial⟩ rfl ?_
    have h := Option.some.inj h
    subst h
    exact Tri.ret rfl ⟨.inl rfl, rfl, rfl⟩
  · refine Tri.run 2 [.g false] [.keep [0, 1, 12, 13] []] (K' := [.code [(2, 0), (1, 0)] 0, .blk 0, .code [] 3]) (σ' := ⟨[(0, .list (.rats a0)), (1, .list (.rats a1)), (12, .int .i64 (a0.length : Int)), (13, .int .i64 (0 : Int))], []⟩) rfl ⟨hd1, trivial⟩ rfl ?_
    obtain ⟨x1, hk6, h⟩ := bind_some h
    refine Tri.loop (K1 := [.code [(2, 0), (1, 0), (0, 0)] 0]) (K2 := [.blk 0, .code [] 3]) (fun v1 => ⟨[(0, .list (.rats a0)), (1, .list (.rats a1)), (12, .int .i64 (a0.length : Int)), (13, .int .i64 v1)], []⟩) (fun x e σ' => match x with | (.inl _) => e = .exit 0 ∧ σ' = ⟨[], []⟩ | (.inr r) => e = .ret ∧ q_slices_Equal_impl_Rat_impl_Rat r σ') hk6 rfl rfl ?_ ?_
    · intro v1 x hs
      clear h
      have h := hs
      clear hs
      refine Tri.run 1 [] [.keep [0, 1, 12, 13, 14] []] (K' := [.code [(2, 0), (1, 0), (0, 0), (1, 0)] 0, .code [(2, 0), (1, 0), (0, 0)] 2]) (σ' := ⟨[(0, .list (.rats a0)), (1, .list (.rats a1)), (12, .int .i64 (a0.length : Int)), (13, .int .i64 v1), (14, .bool (decide (v1 < (a0.length : Int))))], []⟩) rfl trivial rfl ?_
      rcases bif_some h with ⟨hd2, h⟩ | ⟨hd2, h⟩
      · obtain ⟨hg3, h⟩ := grd_some h
        obtain ⟨hg4, h⟩ := grd_some h
        refine Tri.run 3 [.g true] [.keep [0, 1, 12, 13, 24] []] (K' := [.code [(2, 0), (1, 0), (0, 0), (2, 0), (0, 0)] 2, .blk 1, .code [(2, 0), (1, 0), (0, 0)] 3]) (σ' := ⟨[(0, .list (.rats a0)), (1, .list (.rats a1)), (12, .int .i64 (a0.length : Int)), (13, .int .i64 v1), (24, .bool (!(((a0.getD v1.toNat ⟨0, 0⟩).num) == ((a1.getD v1.toNat ⟨0, 0⟩).num) && ((a0.getD v1.toNat ⟨0, 0⟩).den) == ((a1.getD v1.toNat ⟨0, 0⟩).den))))], []⟩) rfl ⟨hg4, hg3, hd2, trivial⟩ rfl ?_
        rcases bif_some h with ⟨hd5, h⟩ | ⟨hd5, h⟩
        · refine Tri.run 2 [.g true] [.keep [4] []] (K' := [.code [(2, 0), (1, 0), (0, 0), (2, 0), (0, 0), (2, 0)] 1, .blk 1, .code [(2, 0), (1, 0), (0, 0)] 3]) (σ' := ⟨[(4, .bool false)], []⟩) rfl ⟨hd5, trivial⟩ rfl ?_
          have h := Option.some.inj h
          subst h
          exact Tri.ret rfl ⟨nofun, rfl, rfl, rfl⟩
        · refine Tri.run 2 [.g false] [.keep [0, 1, 12, 13] []] (K' := []) (σ' := ⟨[(0, .list (.rats a0)), (1, .list (.rats a1)), (12, .int .i64 (a0.length : Int)), (13, .int .i64 (IntKind.i64.wrap (v1 + (1 : Int))))], []⟩) rfl ⟨hd5, trivial⟩ rfl ?_
          have h := Option.some.inj h
          subst h
          exact Tri.nil ⟨rfl, rfl⟩
      · refine Tri.run 1 [.g false] [.keep [] []] (K' := [.code [(2, 0), (1, 0), (0, 0), (1, 0), (0, 1)] 0, .code [(2, 0), (1, 0), (0, 0)] 2]) (σ' := ⟨[], []⟩) rfl ⟨hd2, trivial⟩ rfl ?_
        have h := Option.some.inj h
        subst h
        exact Tri.out 0 rfl ⟨nofun, rfl, rfl⟩
    · intro e σ' hne hq
      rcases x1 with _ | r
      · obtain ⟨rfl, rfl⟩ := hq
        refine TriX.exit (K' := [.code [] 3]) rfl ?_
        refine Tri.run 1 [] [.keep [4] []] (K' := [.code [] 4]) (σ' := ⟨[(4, .bool true)], []⟩) rfl trivial rfl ?_
        have h := Option.some.inj h
        subst h
        exact Tri.ret rfl ⟨.inl rfl, rfl, rfl⟩
      · obtain ⟨rfl, hq⟩ := hq
        have h := Option.some.inj h
        subst h
        exact TriX.ret ⟨.inl rfl, hq⟩
/-! impl.EqualLeast -/
noncomputable def E_impl_EqualLeast : Env := ⟨Try.prog, tys, (Try.f25.body).getD .skip, 31, tysOk, mixedOk⟩
abbrev q_impl_EqualLeast (r : Bool) (σ' : ASt) : Prop := resAV E_impl_EqualLeast.T σ' Try.f25.results.toList = some (.bool r) ∧ keepO σ'.ob (namesO []) = []
noncomputable def m_impl_EqualLeast (a0 : Bool) (a1 : Int) (a2 : Int) (a3 : List Q) (a4 : List Q) (a5 : Bool) (a6 : Int) (a7 : Int) (a8 : List Q) (a9 : List Q) : Option Bool :=
bif a0 == a5 then
(bif a1 == a6 && a2 == a7 then
((m_slices_Equal_impl_Rat_impl_Rat a3 a8).bind fun v1 =>
bif v1 then
((m_slices_Equal_impl_Rat_impl_Rat a4 a9).bind fun v2 =>
some v2)
else
(some false))
else
(some false))
else
(some false)
theorem w_impl_EqualLeast (a0 : Bool) (a1 : Int) (a2 : Int) (a3 : List Q) (a4 : List Q) (a5 : Bool) (a6 : Int) (a7 : Int) (a8 : List Q) (a9 : List Q) (r : Bool) (h : m_impl_EqualLeast a0 a1 a2 a3 a4 a5 a6 a7 a8 a9 = some r) : AM.Spec Try.prog 25 [.agg [.bool a0, .int .i64 a1, .int .i64 a2, .list (.rats a3), .list (.rats a4)], .agg [.bool a5, .int .i64 a6, .int .i64 a7, .list (.rats a8), .list (.rats a9)]] [] (.bool r) [] := by
  refine spec_of (E := E_impl_EqualLeast) Try.func25 rfl rfl rfl rfl ?_
  refine Tri.run 1 [] [.keep [2, 3] [2, 3]] (K' := [.code [(1, 0)] 0, .code [] 2]) (σ' := ⟨[(2, .ptr 2 0), (3, .ptr 3 0)], [(2, .box [.bool a0, .int .i64 a1, .int .i64 a2, .list (.rats a3), .list (.rats a4)]), (3, .box [.bool a5, .int .i64 a6, .int .i64 a7, .list (.rats a8), .list (.rats a9)])]⟩) rfl trivial rfl ?_
  rcases bif_some h with ⟨hd1, h⟩ | ⟨hd1, h⟩
  · rcases bif_some h with ⟨hd2, h⟩ | ⟨hd2, h⟩
    · obtain ⟨v1, hk3, h⟩ := bind_some h
      rcases bif_some h with ⟨hd4, h⟩ | ⟨hd4, h⟩
      · obtain ⟨v2, hk5, h⟩ := bind_some h
        refine Tri.run 1 [.g true, .g true, .r ⟨[], .bool v1, []⟩, .g true, .r ⟨[], .bool v2, []⟩] [.keep [4] []] (K' := [.code [] 2]) (σ' := ⟨[(4, .bool v2)], []⟩) rfl ⟨(w_slices_Equal_impl_Rat_impl_Rat a4 a9 v2 hk5), hd4, (w_slices_Equal_impl_Rat_impl_Rat a3 a8 v1 hk3), hd2, hd1, trivial⟩ rfl ?_
        have h := Option.some.inj h
        subst h
        exact Tri.ret rfl ⟨.inl rfl, rfl, rfl⟩
      · refine Tri.run 1 [.g true, .g true, .r ⟨[], .bool v1, []⟩, .g false] [.keep [4] []] (K' := [.code [] 2]) (σ' := ⟨[(4, .bool false)], []⟩) rfl ⟨hd4, (w_slices_Equal_impl_Rat_impl_Rat a3 a8 v1 hk3), hd2, hd1, trivial⟩ rfl ?_
        have h := Option.some.inj h
        subst h
        exact Tri.ret rfl ⟨.inl rfl, rfl, rfl⟩
    · refine Tri.run 1 [.g true, .g false, .g false] [.keep [4] []] (K' := [.code [] 2]) (σ' := ⟨[(4, .bool false)], []⟩) rfl ⟨rfl, hd2, hd1, trivial⟩ rfl ?_
      have h := Option.some.inj h
      subst h
      exact Tri.ret rfl ⟨.inl rfl, rfl, rfl⟩
  · refine Tri.run 1 [.g false, .g false, .g false] [.keep [4] []] (K' := [.code [] 2]) (σ' := ⟨[(4, .bool false)], []⟩) rfl ⟨rfl, rfl, hd1, trivial⟩ rfl ?_
    have h := Option.some.inj h
    subst h
    exact Tri.ret rfl ⟨.inl rfl, rfl, rfl⟩
/-! laws.eqRat -/
noncomputable def E_laws_eqRat : Env := ⟨Try.prog, tys, (Try.f43.body).getD .skip, 15, tysOk, mixedOk⟩
abbrev q_laws_eqRat (r : Bool) (σ' : ASt) : Prop := resAV E_laws_eqRat.T σ' Try.f43.results.toList = some (.bool r) ∧ keepO σ'.ob (namesO []) = []
noncomputable def m_laws_eqRat (a0 : Int) (a1 : Int) (a2 : Int) (a3 : Int) : Option Bool :=
bif a0 != a2 then
(some false)
else
(bif a1 != a3 then
(some false)
else
(some true))
theorem w_laws_eqRat (a0 : Int) (a1 : Int) (a2 : Int) (a3 : Int) (r : Bool) (h : m_laws_eqRat a0 a1 a2 a3 = some r) : AM.Spec Try.prog 43 [.agg [.int .i64 a0, .int .i64 a1], .agg [.int .i64 a2, .int .i64 a3]] [] (.bool r) [] := by
  refine spec_of (E := E_laws_eqRat) Try.func43 rfl rfl rfl rfl ?_
  refine Tri.run 2 [] [.keep [2, 3, 9] [2, 3]] (K' := [.code [(1, 0)] 1, .code [] 2]) (σ' := ⟨[(2, .ptr 2 0), (3, .ptr 3 0), (9, .bool (a0 != a2))], [(2, .box [.int .i64 a0, .int .i64 a1]), (3, .box [.int .i64 a2, .int .i64 a3])]⟩) rfl trivial rfl ?_
  rcases bif_some h with ⟨hd1, h⟩ | ⟨hd1, h⟩
  · refine Tri.run 2 [.g true] [.keep [4] []] (K' := [.code [(1, 0), (1, 0)] 1, .code [] 2]) (σ' := ⟨[(4, .bool false)], []⟩) rfl ⟨hd1, trivial⟩ rfl ?_
    have h := Option.some.inj h
    subst h
    exact Tri.ret rfl ⟨.inl rfl, rfl, rfl⟩
  · refine Tri.run 2 [.g false] [.keep [14] []] (K' := [.code [(2, 0)] 1, .code [] 3]) (σ' := ⟨[(14, .bool (a1 != a3))], []⟩) rfl ⟨hd1, trivial⟩ rfl ?_
    rcases bif_some h with ⟨hd2, h⟩ | ⟨hd2, h⟩
    · refine Tri.run 2 [.g true] [.keep [4] []] (K' := [.code [(2, 0), (1, 0)] 1, .code [] 3]) (σ' := ⟨[(4, .bool false)], []⟩) rfl ⟨hd2, trivial⟩ rfl ?_
      have h := Option.some.inj h
      subst h
      exact Tri.ret rfl ⟨.inl rfl, rfl, rfl⟩
    · refine Tri.run 2 [.g false] [.keep [4] []] (K' := [.code [] 4]) (σ' := ⟨[(4, .bool true)], []⟩) rfl ⟨hd2, trivial⟩ rfl ?_
      have h := Option.some.inj h
      subst h
      exact Tri.ret rfl ⟨.inl rfl, rfl, rfl⟩
/-! laws.eqRatS -/
noncomputable def E_laws_eqRatS : Env := ⟨Try.prog, tys, (Try.f44.body).getD .skip, 27, tysOk, mixedOk⟩
abbrev q_laws_eqRatS (r : Bool) (σ' : ASt) : Prop := resAV E_laws_eqRatS.T σ' Try.f44.results.toList = some (.bool r) ∧ keepO σ'.ob (namesO []) = []
noncomputable def l_laws_eqRatS_0 (a0 : List Q) (a1 : List Q) (v1 : Int) : Option (Int ⊕ (Unit ⊕ Bool)) :=
bif decide (v1 < (a0.length : Int)) then
(grd ((0 : Int) ≤ v1 ∧ v1 < (a0.length : Int)) <|
grd ((0 : Int) ≤ v1 ∧ v1 < (a1.length : Int)) <|
(m_laws_eqRat ((a0.getD v1.toNat ⟨0, 0⟩).num) ((a0.getD v1.toNat ⟨0, 0⟩).den) ((a1.getD v1.toNat ⟨0, 0⟩).num) ((a1.getD v1.toNat ⟨0, 0⟩).den)).bind fun v2 =>
bif !v2 then
(some (.inr (.inr false)))
else
(some (.inl (IntKind.i64.wrap (v1 + (1 : Int))))))
else
(some (.inr (.inl ())))
noncomputable def m_laws_eqRatS (a0 : List Q) (a1 : List Q) : Option Bool :=
bif (a0.length : Int) != (a1.length : Int) then
(some false)
else
((iter (l_laws_eqRatS_0 a0 a1) (0 : Int)).bind fun
| (.inl _) => (
some true)
| (.inr r) => some r)
theorem w_laws_eqRatS (a0 : List Q) (a1 : List Q) (r : Bool) (h : m_laws_eqRatS a0 a1 = some r) : AM.Spec Try.prog 44 [.list (.rats a0), .list (.rats a1)] [] (.bool r) [] := by
  refine spec_of (E := E_laws_eqRatS) Try.func44 rfl rfl rfl rfl ?_
  refine Tri.run 2 [] [.keep [0, 1, 10] []] (K' := [.code [(1, 0)] 1, .code [] 2]) (σ' := ⟨[(0, .list (.rats a0)), (1, .list (.rats a1)), (10, .bool ((a0.length : Int) != (a1.length : Int)))], []⟩) rfl trivial rfl ?_
  rcases bif_some h with ⟨hd1, h⟩ | ⟨hd1, h⟩
  · refine Tri.run 2 [.g true] [.keep [4] []] (K' := [.code [(1, 0), (1, 0)] 1, .code [] 2]) (σ' := ⟨[(4, .bool false)], []⟩) rfl ⟨hd1, trivial⟩ rfl ?_
    have h := Option.some.inj h
    subst h
    exact Tri.ret rfl ⟨.inl rfl, rfl, rfl⟩
  · refine Tri.run 2 [.g false] [.keep [0, 1, 5] []] (K' := [.code [(2, 0), (1, 0)] 0, .blk 0, .code [] 3]) (σ' := ⟨[(0, .list (.rats a0)), (1, .list (.rats a1)), (5, .int .i64 (0 : Int))], []⟩) rfl ⟨hd1, trivial⟩ rfl ?_
    obtain ⟨x1, hk7, h⟩ := bind_some h
    refine Tri.loop (K1 := [.code [(2, 0), (1, 0), (0, 0)] 0]) (K2 := [.blk 0, .code [] 3]) (fun v1 => ⟨[(0, .list (.rats a0)), (1, .list (.rats a1)), (5, .int .i64 v1)], []⟩) (fun x e σ' => match x with | (.inl _) => e = .exit 0 ∧ σ' = ⟨[], []⟩ | (.inr r) => e = .ret ∧ q_laws_eqRatS r σ') hk7 rfl rfl ?_ ?_
    · intro v1 x hs
      clear h
      have h := hs
      clear hs
      refine Tri.run 1 [] [.keep [0, 1, 5, 14] []] (K' := [.code [(2, 0), (1, 0), (0, 0), (0, 0)] 1, .code [(2, 0), (1, 0), (0, 0)] 1]) (σ' := ⟨[(0, .list (.rats a0)), (1, .list (.rats a1)), (5, .int .i64 v1), (14, .bool (decide (v1 < (a0.length : Int))))], []⟩) rfl trivial rfl ?_
      rcases bif_some h with ⟨hd2, h⟩ | ⟨hd2, h⟩
      · obtain ⟨hg3, h⟩ := grd_some h
        obtain ⟨hg4, h⟩ := grd_some h
        obtain ⟨v2, hk5, h⟩ := bind_some h
        refine Tri.run 2 [.g true, .r ⟨[], .bool v2, []⟩] [.keep [0, 1, 5, 26] []] (K' := [.code [(2, 0), (1, 0), (0, 0), (1, 0), (0, 0)] 1, .blk 1, .code [(2, 0), (1, 0), (0, 0)] 2]) (σ' := ⟨[(0, .list (.rats a0)), (1, .list (.rats a1)), (5, .int .i64 v1), (26, .bool (!v2))], []⟩) rfl ⟨(w_laws_eqRat ((a0.getD v1.toNat ⟨0, 0⟩).num) ((a0.getD v1.toNat ⟨0, 0⟩).den) ((a1.getD v1.toNat ⟨0, 0⟩).num) ((a1.getD v1.toNat ⟨0, 0⟩).den) v2 hk5), hg4, hg3, hd2, trivial⟩ rfl ?_
        rcases bif_some h with ⟨hd6, h⟩ | ⟨hd6, h⟩
        · refine Tri.run 2 [.g true] [.keep [4] []] (K' := [.code [(2, 0), (1, 0), (0, 0), (1, 0), (0, 0), (1, 0)] 1, .blk 1, .code [(2, 0), (1, 0), (0, 0)] 2]) (σ' := ⟨[(4, .bool false)], []⟩) rfl ⟨hd6, trivial⟩ rfl ?_
          have h := Option.some.inj h
          subst h
          exact Tri.ret rfl ⟨nofun, rfl, rfl, rfl⟩
        · refine Tri.run 2 [.g false] [.keep [0, 1, 5] []] (K' := []) (σ' := ⟨[(0, .list (.rats a0)), (1, .list (.rats a1)), (5, .int .i64 (IntKind.i64.wrap (v1 + (1 : Int))))], []⟩) rfl ⟨hd6, trivial⟩ rfl ?_
          have h := Option.some.inj h
          subst h
          exact Tri.nil ⟨rfl, rfl⟩
      · refine Tri.run 1 [.g false] [.keep [] []] (K' := [.code [(2, 0), (1, 0), (0, 0), (0, 0), (1, 1)] 0, .code [(2, 0), (1, 0), (0, 0)] 1]) (σ' := ⟨[], []⟩) rfl ⟨hd2, trivial⟩ rfl ?_
        have h := Option.some.inj h
        subst h
        exact Tri.out 0 rfl ⟨nofun, rfl, rfl⟩
    · intro e σ' hne hq
      rcases x1 with _ | r
      · obtain ⟨rfl, rfl⟩ := hq
        refine TriX.exit (K' := [.code [] 3]) rfl ?_
        refine Tri.run 1 [] [.keep [4] []] (K' := [.code [] 4]) (σ' := ⟨[(4, .bool true)], []⟩) rfl trivial rfl ?_
        have h := Option.some.inj h
        subst h
        exact Tri.ret rfl ⟨.inl rfl, rfl, rfl⟩
      · obtain ⟨rfl, hq⟩ := hq
        have h := Option.some.inj h
        subst h
        exact TriX.ret ⟨.inl rfl, hq⟩
/-! laws.eqLeastResult -/
noncomputable def E_laws_eqLeastResult : Env := ⟨Try.prog, tys, (Try.f26.body).getD .skip, 28, tysOk, mixedOk⟩
abbrev q_laws_eqLeastResult (r : Bool) (σ' : ASt) : Prop := resAV E_laws_eqLeastResult.T σ' Try.f26.results.toList = some (.bool r) ∧ keepO σ'.ob (namesO []) = []
noncomputable def m_laws_eqLeastResult (a0 : Bool) (a1 : Int) (a2 : Int) (a3 : List Q) (a4 : List Q) (a5 : Bool) (a6 : Int) (a7 : Int) (a8 : List Q) (a9 : List Q) : Option Bool :=
bif a0 != a5 then
(some false)
else
((m_laws_eqRat a1 a2 a6 a7).bind fun v1 =>
bif !v1 then
(some false)
else
((m_laws_eqRatS a3 a8).bind fun v2 =>
bif !v2 then
(some false)
else
((m_laws_eqRatS a4 a9).bind fun v3 =>
bif !v3 then
(some false)
else
(some true))))
theorem w_laws_eqLeastResult (a0 : Bool) (a1 : Int) (a2 : Int) (a3 : List Q) (a4 : List Q) (a5 : Bool) (a6 : Int) (a7 : Int) (a8 : List Q) (a9 : List Q) (r : Bool) (h : m_laws_eqLeastResult a0 a1 a2 a3 a4 a5 a6 a7 a8 a9 = some r) : AM.Spec Try.prog 26 [.agg [.bool a0, .int .i64 a1, .int .i64 a2, .list (.rats a3), .list (.rats a4)], .agg [.bool a5, .int .i64 a6, .int .i64 a7, .list (.rats a8), .list (.rats a9)]] [] (.bool r) [] := by
  refine spec_of (E := E_laws_eqLeastResult) Try.func26 rfl rfl rfl rfl ?_
  refine Tri.run 2 [] [.keep [2, 3, 9] [2, 3]] (K' := [.code [(1, 0)] 1, .code [] 2]) (σ' := ⟨[(2, .ptr 2 0), (3, .ptr 3 0), (9, .bool (a0 != a5))], [(2, .box [.bool a0, .int .i64 a1, .int .i64 a2, .list (.rats a3), .list (.rats a4)]), (3, .box [.bool a5, .int .i64 a6, .int .i64 a7, .list (.rats a8), .list (.rats a9)])]⟩) rfl trivial rfl ?_
  rcases bif_some h with ⟨hd1, h⟩ | ⟨hd1, h⟩
  · refine Tri.run 2 [.g true] [.keep [4] []] (K' := [.code [(1, 0), (1, 0)] 1, .code [] 2]) (σ' := ⟨[(4, .bool false)], []⟩) rfl ⟨hd1, trivial⟩ rfl ?_
    have h := Option.some.inj h
    subst h
    exact Tri.ret rfl ⟨.inl rfl, rfl, rfl⟩
  · obtain ⟨v1, hk2, h⟩ := bind_some h
    refine Tri.run 2 [.g false, .r ⟨[], .bool v1, []⟩] [.keep [2, 3, 15] [2, 3]] (K' := [.code [(2, 0)] 1, .code [] 3]) (σ' := ⟨[(2, .ptr 2 0), (3, .ptr 3 0), (15, .bool (!v1))], [(2, .box [.bool a0, .int .i64 a1, .int .i64 a2, .list (.rats a3), .list (.rats a4)]), (3, .box [.bool a5, .int .i64 a6, .int .i64 a7, .list (.rats a8), .list (.rats a9)])]⟩) rfl ⟨(w_laws_eqRat a1 a2 a6 a7 v1 hk2), hd1, trivial⟩ rfl ?_
    rcases bif_some h with ⟨hd3, h⟩ | ⟨hd3, h⟩
    · refine Tri.run 2 [.g true] [.keep [4] []] (K' := [.code [(2, 0), (1, 0)] 1, .code [] 3]) (σ' := ⟨[(4, .bool false)], []⟩) rfl ⟨hd3, trivial⟩ rfl ?_
      have h := Option.some.inj h
      subst h
      exact Tri.ret rfl ⟨.inl rfl, rfl, rfl⟩
    · obtain ⟨v2, hk4, h⟩ := bind_some h
      refine Tri.run 2 [.g false, .r ⟨[], .bool v2, []⟩] [.keep [2, 3, 21] [2, 3]] (K' := [.code [(3, 0)] 1, .code [] 4]) (σ' := ⟨[(2, .ptr 2 0), (3, .ptr 3 0), (21, .bool (!v2))], [(2, .box [.bool a0, .int .i64 a1, .int .i64 a2, .list (.rats a3), .list (.rats a4)]), (3, .box [.bool a5, .int .i64 a6, .int .i64 a7, .list (.rats a8), .list (.rats a9)])]⟩) rfl ⟨(w_laws_eqRatS a3 a8 v2 hk4), hd3, trivial⟩ rfl ?_
      rcases bif_some h with ⟨hd5, h⟩ | ⟨hd5, h⟩
      · refine Tri.run 2 [.g true] [.keep [4] []] (K' := [.code [(3, 0), (1, 0)] 1, .code [] 4]) (σ' := ⟨[(4, .bool false)], []⟩) rfl ⟨hd5, trivial⟩ rfl ?_
        have h := Option.some.inj h
        subst h
        exact Tri.ret rfl ⟨.inl rfl, rfl, rfl⟩
      · obtain ⟨v3, hk6, h⟩ := bind_some h
        refine Tri.run 2 [.g false, .r ⟨[], .bool v3, []⟩] [.keep [27] []] (K' := [.code [(4, 0)] 1, .code [] 5]) (σ' := ⟨[(27, .bool (!v3))], []⟩) rfl ⟨(w_laws_eqRatS a4 a9 v3 hk6), hd5, trivial⟩ rfl ?_
        rcases bif_some h with ⟨hd7, h⟩ | ⟨hd7, h⟩
        · refine Tri.run 2 [.g true] [.keep [4] []] (K' := [.code [(4, 0), (1, 0)] 1, .code [] 5]) (σ' := ⟨[(4, .bool false)], []⟩) rfl ⟨hd7, trivial⟩ rfl ?_
          have h := Option.some.inj h
          subst h
          exact Tri.ret rfl ⟨.inl rfl, rfl, rfl⟩
        · refine Tri.run 2 [.g false] [.keep [4] []] (K' := [.code [] 6]) (σ' := ⟨[(4, .bool true)], []⟩) rfl ⟨hd7, trivial⟩ rfl ?_
          have h := Option.some.inj h
          subst h
          exact Tri.ret rfl ⟨.inl rfl, rfl, rfl⟩
/-! laws.FnExactEqualLeast -/
noncomputable def E_laws_FnExactEqualLeast : Env := ⟨Try.prog, tys, (Try.f8.body).getD .skip, 45, tysOk, mixedOk⟩
abbrev q_laws_FnExactEqualLeast (r : Bool) (σ' : ASt) : Prop := resAV E_laws_FnExactEqualLeast.T σ' Try.f8.results.toList = some (.bool r) ∧ keepO σ'.ob (namesO []) = []
noncomputable def m_laws_FnExactEqualLeast (a0 : Bool) (a1 : Int) (a2 : Int) (a3 : List Q) (a4 : List Q) (a5 : Bool) (a6 : Int) (a7 : Int) (a8 : List Q) (a9 : List Q) : Option Bool :=
(m_laws_szLeastResult a0 a1 a2 a3 a4 (1048576 : Int)).bind fun v1 =>
bif decide (v1 < (0 : Int)) then
(some true)
else
((m_laws_szLeastResult a5 a6 a7 a8 a9 v1).bind fun v2 =>
bif decide (v2 < (0 : Int)) then
(some true)
else
((m_laws_toLeastResult a0 a1 a2 a3 a4).bind fun (v3, v4, v5, v6, v7) =>
(m_laws_toLeastResult a5 a6 a7 a8 a9).bind fun (v8, v9, v10, v11, v12) =>
(m_spec_EqualLeast v3 v4 v5 v6 v7 v8 v9 v10 v11 v12).bind fun v13 =>
(m_laws_toLeastResult a0 a1 a2 a3 a4).bind fun (v14, v15, v16, v17, v18) =>
(m_laws_toLeastResult a5 a6 a7 a8 a9).bind fun (v19, v20, v21, v22, v23) =>
(m_impl_EqualLeast v14 v15 v16 v17 v18 v19 v20 v21 v22 v23).bind fun v24 =>
bif v24 != v13 then
(some false)
else
((m_laws_toLeastResult a0 a1 a2 a3 a4).bind fun (v25, v26, v27, v28, v29) =>
(m_laws_eqLeastResult v14 v15 v16 v17 v18 v25 v26 v27 v28 v29).bind fun v30 =>
bif !v30 then
(some false)
else
((m_laws_toLeastResult a5 a6 a7 a8 a9).bind fun (v31, v32, v33, v34, v35) =>
(m_laws_eqLeastResult v19 v20 v21 v22 v23 v31 v32 v33 v34 v35).bind fun v36 =>
bif !v36 then
(some false)
else
(some true)))))
theorem w_laws_FnExactEqualLeast (a0 : Bool) (a1 : Int) (a2 : Int) (a3 : List Q) (a4 : List Q) (a5 : Bool) (a6 : Int) (a7 : Int) (a8 : List Q) (a9 : List Q) (r : Bool) (h : m_laws_FnExactEqualLeast a0 a1 a2 a3 a4 a5 a6 a7 a8 a9 = some r) : AM.Spec Try.prog 8 [.agg [.bool a0, .int .i64 a1, .int .i64 a2, .list (.rats a3), .list (.rats a4)], .agg [.bool a5, .int .i64 a6, .int .i64 a7, .list (.rats a8), .list (.rats a9)]] [] (.bool r) [] := by
  refine spec_of (E := E_laws_FnExactEqualLeast) Try.func8 rfl rfl rfl rfl ?_
  refine Tri.run 2 [] [.keep [2, 3, 5] [2, 3]] (K' := [.code [(2, 0)] 0, .code [] 3]) (σ' := ⟨[(2, .ptr 2 0), (3, .ptr 3 0), (5, .int .i64 (1048576 : Int))], [(2, .box [.bool a0, .int .i64 a1, .int .i64 a2, .list (.rats a3), .list (.rats a4)]), (3, .box [.bool a5, .int .i64 a6, .int .i64 a7, .list (.rats a8), .list (.rats a9)])]⟩) rfl trivial rfl ?_
  obtain ⟨v1, hk1, h⟩ := bind_some h
  refine Tri.run 2 [.r ⟨[], .int .i64 v1, []⟩] [.keep [2, 3, 5, 14] [2, 3]] (K' := [.code [(3, 0)] 1, .code [] 4]) (σ' := ⟨[(2, .ptr 2 0), (3, .ptr 3 0), (5, .int .i64 v1), (14, .bool (decide (v1 < (0 : Int))))], [(2, .box [.bool a0, .int .i64 a1, .int .i64 a2, .list (.rats a3), .list (.rats a4)]), (3, .box [.bool a5, .int .i64 a6, .int .i64 a7, .list (.rats a8), .list (.rats a9)])]⟩) rfl ⟨(w_laws_szLeastResult a0 a1 a2 a3 a4 (1048576 : Int) v1 hk1), trivial⟩ rfl ?_
  rcases bif_some h with ⟨hd2, h⟩ | ⟨hd2, h⟩
  · refine Tri.run 2 [.g true] [.keep [4] []] (K' := [.code [(3, 0), (1, 0)] 1, .code [] 4]) (σ' := ⟨[(4, .bool true)], []⟩) rfl ⟨hd2, trivial⟩ rfl ?_
    have h := Option.some.inj h
    subst h
    exact Tri.ret rfl ⟨.inl rfl, rfl, rfl⟩
  · obtain ⟨v2, hk3, h⟩ := bind_some h
    refine Tri.run 3 [.g false, .r ⟨[], .int .i64 v2, []⟩] [.keep [2, 3, 19] [2, 3]] (K' := [.code [(5, 0)] 1, .code [] 6]) (σ' := ⟨[(2, .ptr 2 0), (3, .ptr 3 0), (19, .bool (decide (v2 < (0 : Int))))], [(2, .box [.bool a0, .int .i64 a1, .int .i64 a2, .list (.rats a3), .list (.rats a4)]), (3, .box [.bool a5, .int .i64 a6, .int .i64 a7, .list (.rats a8), .list (.rats a9)])]⟩) rfl ⟨(w_laws_szLeastResult a5 a6 a7 a8 a9 v1 v2 hk3), hd2, trivial⟩ rfl ?_
    rcases bif_some h with ⟨hd4, h⟩ | ⟨hd4, h⟩
    · refine Tri.run 2 [.g true] [.keep [4] []] (K' := [.code [(5, 0), (1, 0)] 1, .code [] 6]) (σ' := ⟨[(4, .bool true)], []⟩) rfl ⟨hd4, trivial⟩ rfl ?_
      have h := Option.some.inj h
      subst h
      exact Tri.ret rfl ⟨.inl rfl, rfl, rfl⟩
    · obtain ⟨⟨v3, v4, v5, v6, v7⟩, hk5, h⟩ := bind_some h
      obtain ⟨⟨v8, v9, v10, v11, v12⟩, hk6, h⟩ := bind_some h
      obtain ⟨v13, hk7, h⟩ := bind_some h
      refine Tri.run 2 [.g false, .r ⟨[], .agg [.bool v3, .int .i64 v4, .int .i64 v5, .sl 1100 0, .sl 1101 0], [(1100, .arr 44 0 0 (.rats v6)), (1101, .arr 44 0 0 (.rats v7))]⟩, .r ⟨[], .agg [.bool v8, .int .i64 v9, .int .i64 v10, .sl 1102 0, .sl 1103 0], [(1102, .arr 44 0 0 (.rats v11)), (1103, .arr 44 0 0 (.rats v12))]⟩, .r ⟨[], .bool v13, []⟩] [.keep [2, 3, 6] [2, 3]] (K' := [.code [(7, 0)] 0, .code [] 8]) (σ' := ⟨[(2, .ptr 2 0), (3, .ptr 3 0), (6, .bool v13)], [(2, .box [.bool a0, .int .i64 a1, .int .i64 a2, .list (.rats a3), .list (.rats a4)]), (3, .box [.bool a5, .int .i64 a6, .int .i64 a7, .list (.rats a8), .list (.rats a9)])]⟩) rfl ⟨(w_spec_EqualLeast v3 v4 v5 v6 v7 v8 v9 v10 v11 v12 v13 hk7), (((w_laws_toLeastResult a5 a6 a7 a8 a9 (v8, v9, v10, v11, v12) hk6).swap 1000 1102).swap 1001 1103), (((w_laws_toLeastResult a0 a1 a2 a3 a4 (v3, v4, v5, v6, v7) hk5).swap 1000 1100).swap 1001 1101), hd4, trivial⟩ rfl ?_
      obtain ⟨⟨v14, v15, v16, v17, v18⟩, hk8, h⟩ := bind_some h
      obtain ⟨⟨v19, v20, v21, v22, v23⟩, hk9, h⟩ := bind_some h
      refine Tri.run 2 [.r ⟨[], .agg [.bool v14, .int .i64 v15, .int .i64 v16, .sl 1104 0, .sl 1105 0], [(1104, .arr 44 0 0 (.rats v17)), (1105, .arr 44 0 0 (.rats v18))]⟩, .r ⟨[], .agg [.bool v19, .int .i64 v20, .int .i64 v21, .sl 1106 0, .sl 1107 0], [(1106, .arr 44 0 0 (.rats v22)), (1107, .arr 44 0 0 (.rats v23))]⟩] [.keep [2, 3, 6, 7, 8] [2, 3, 7, 8, 1104, 1105, 1106, 1107]] (K' := [.code [(9, 0)] 0, .code [] 10]) (σ' := ⟨[(2, .ptr 2 0), (3, .ptr 3 0), (6, .bool v13), (7, .ptr 7 0), (8, .ptr 8 0)], [(2, .box [.bool a0, .int .i64 a1, .int .i64 a2, .list (.rats a3), .list (.rats a4)]), (3, .box [.bool a5, .int .i64 a6, .int .i64 a7, .list (.rats a8), .list (.rats a9)]), (7, .box [.bool v14, .int .i64 v15, .int .i64 v16, .sl 1104 0, .sl 1105 0]), (8, .box [.bool v19, .int .i64 v20, .int .i64 v21, .sl 1106 0, .sl 1107 0]), (1104, .arr 44 0 0 (.rats v17)), (1105, .arr 44 0 0 (.rats v18)), (1106, .arr 44 0 0 (.rats v22)), (1107, .arr 44 0 0 (.rats v23))]⟩) rfl ⟨(((w_laws_toLeastResult a5 a6 a7 a8 a9 (v19, v20, v21, v22, v23) hk9).swap 1000 1106).swap 1001 1107), (((w_laws_toLeastResult a0 a1 a2 a3 a4 (v14, v15, v16, v17, v18) hk8).swap 1000 1104).swap 1001 1105), trivial⟩ rfl ?_
      obtain ⟨v24, hk10, h⟩ := bind_some h
      refine Tri.run 2 [.r ⟨[], .bool v24, []⟩] [.keep [2, 3, 7, 8, 34] [2, 3, 7, 8, 1104, 1105, 1106, 1107]] (K' := [.code [(10, 0)] 1, .code [] 11]) (σ' := ⟨[(2, .ptr 2 0), (3, .ptr 3 0), (7, .ptr 7 0), (8, .ptr 8 0), (34, .bool (v24 != v13))], [(2, .box [.bool a0, .int .i64 a1, .int .i64 a2, .list (.rats a3), .list (.rats a4)]), (3, .box [.bool a5, .int .i64 a6, .int .i64 a7, .list (.rats a8), .list (.rats a9)]), (7, .box [.bool v14, .int .i64 v15, .int .i64 v16, .sl 1104 0, .sl 1105 0]), (8, .box [.bool v19, .int .i64 v20, .int .i64 v21, .sl 1106 0, .sl 1107 0]), (1104, .arr 44 0 0 (.rats v17)), (1105, .arr 44 0 0 (.rats v18)), (1106, .arr 44 0 0 (.rats v22)), (1107, .arr 44 0 0 (.rats v23))]⟩) rfl ⟨(w_impl_EqualLeast v14 v15 v16 v17 v18 v19 v20 v21 v22 v23 v24 hk10), trivial⟩ rfl ?_
      rcases bif_some h with ⟨hd11, h⟩ | ⟨hd11, h⟩
      · refine Tri.run 2 [.g true] [.keep [4] []] (K' := [.code [(10, 0), (1, 0)] 1, .code [] 11]) (σ' := ⟨[(4, .bool false)], []⟩) rfl ⟨hd11, trivial⟩ rfl ?_
        have h := Option.some.inj h
        subst h
        exact Tri.ret rfl ⟨.inl rfl, rfl, rfl⟩
      · obtain ⟨⟨v25, v26, v27, v28, v29⟩, hk12, h⟩ := bind_some h
        obtain ⟨v30, hk13, h⟩ := bind_some h
        refine Tri.run 2 [.g false, .r ⟨[], .agg [.bool v25, .int .i64 v26, .int .i64 v27, .sl 1108 0, .sl 1109 0], [(1108, .arr 44 0 0 (.rats v28)), (1109, .arr 44 0 0 (.rats v29))]⟩, .r ⟨[], .bool v30, []⟩] [.keep [3, 8, 39] [3, 8, 1106, 1107]] (K' := [.code [(11, 0)] 1, .code [] 12]) (σ' := ⟨[(3, .ptr 3 0), (8, .ptr 8 0), (39, .bool (!v30))], [(3, .box [.bool a5, .int .i64 a6, .int .i64 a7, .list (.rats a8), .list (.rats a9)]), (8, .box [.bool v19, .int .i64 v20, .int .i64 v21, .sl 1106 0, .sl 1107 0]), (1106, .arr 44 0 0 (.rats v22)), (1107, .arr 44 0 0 (.rats v23))]⟩) rfl ⟨(w_laws_eqLeastResult v14 v15 v16 v17 v18 v25 v26 v27 v28 v29 v30 hk13), (((w_laws_toLeastResult a0 a1 a2 a3 a4 (v25, v26, v27, v28, v29) hk12).swap 1000 1108).swap 1001 1109), hd11, trivial⟩ rfl ?_
        rcases bif_some h with ⟨hd14, h⟩ | ⟨hd14, h⟩
        · refine Tri.run 2 [.g true] [.keep [4] []] (K' := [.code [(11, 0), (1, 0)] 1, .code [] 12]) (σ' := ⟨[(4, .bool false)], []⟩) rfl ⟨hd14, trivial⟩ rfl ?_
          have h := Option.some.inj h
          subst h
          exact Tri.ret rfl ⟨.inl rfl, rfl, rfl⟩
        · obtain ⟨⟨v31, v32, v33, v34, v35⟩, hk15, h⟩ := bind_some h
          obtain ⟨v36, hk16, h⟩ := bind_some h
          refine Tri.run 2 [.g false, .r ⟨[], .agg [.bool v31, .int .i64 v32, .int .i64 v33, .sl 1110 0, .sl 1111 0], [(1110, .arr 44 0 0 (.rats v34)), (1111, .arr 44 0 0 (.rats v35))]⟩, .r ⟨[], .bool v36, []⟩] [.keep [44] []] (K' := [.code [(12, 0)] 1, .code [] 13]) (σ' := ⟨[(44, .bool (!v36))], []⟩) rfl ⟨(w_laws_eqLeastResult v19 v20 v21 v22 v23 v31 v32 v33 v34 v35 v36 hk16), (((w_laws_toLeastResult a5 a6 a7 a8 a9 (v31, v32, v33, v34, v35) hk15).swap 1000 1110).swap 1001 1111), hd14, trivial⟩ rfl ?_
          rcases bif_some h with ⟨hd17, h⟩ | ⟨hd17, h⟩
          · refine Tri.run 2 [.g true] [.keep [4] []] (K' := [.code [(12, 0), (1, 0)] 1, .code [] 13]) (σ' := ⟨[(4, .bool false)], []⟩) rfl ⟨hd17, trivial⟩ rfl ?_
            have h := Option.some.inj h
            subst h
            exact Tri.ret rfl ⟨.inl rfl, rfl, rfl⟩
          · refine Tri.run 2 [.g false] [.keep [4] []] (K' := [.code [] 14]) (σ' := ⟨[(4, .bool true)], []⟩) rfl ⟨hd17, trivial⟩ rfl ?_
            have h := Option.some.inj h
            subst h
            exact Tri.ret rfl ⟨.inl rfl, rfl, rfl⟩
end Go.Proofs.Ythfbjmiancgeeaa
