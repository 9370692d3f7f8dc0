/- models and walks -/
import Derived.Test.YtoefgmmmcpikfaaProg
import Derived.Test.YtoefgmmmcpikfaaAmB
namespace Go.Proofs.Ytoefgmmmcpikfaa
open Go.AM
set_option maxRecDepth 100000
set_option maxHeartbeats 4000000
noncomputable def tys : TEnv := [(3, .int .i64),
  (4, .bool),
  (22, .slice 3 (.ints [])),
  (24, .struct [(0, 3), (1, 22)] [.int .i64 0, .nil (.ints [])] false),
  (29, .struct [(0, 3), (1, 3)] [.int .i64 0, .int .i64 0] true),
  (32, .struct [(0, 3), (1, 22)] [.int .i64 0, .nil (.ints [])] false),
  (34, .slice 29 (.rats [])),
  (59, .slice 22 (.intss [])),
  (61, .struct [(0, 59), (1, 22), (2, 34)] [.nil (.intss []), .nil (.ints []), .nil (.rats [])] false)]
theorem tysOk : TOk Try.prog tys := tok_of (by kernel_rfl)
theorem mixedOk : Try.prog.follows .mixedOrders = true := by kernel_rfl
/-! laws.szIntS -/
noncomputable def E64_laws_szIntS : Env := ⟨Try.prog, tys, (Try.f64.body).getD .skip, 12, tysOk, mixedOk⟩
abbrev q_laws_szIntS (r : Int) (σ' : ASt) : Prop := resAV E64_laws_szIntS.T σ' Try.f64.results.toList = some (.int .i64 r) ∧ keepO σ'.ob (namesO []) = []
noncomputable def m_laws_szIntS (a0 : List Int) (a1 : Int) : Option Int :=
bif decide ((IntKind.i64.wrap (a1 - (a0.length : Int))) < (0 : Int)) then
(some (-1 : Int))
else
(some (IntKind.i64.wrap (a1 - (a0.length : Int))))
theorem w_laws_szIntS (a0 : List Int) (a1 : Int) (r : Int) (h : m_laws_szIntS a0 a1 = some r) : AM.Spec Try.prog 64 [.list (.ints a0), .int .i64 a1] [] (.int .i64 r) [] := by
  refine spec_of (E := E64_laws_szIntS) Try.func64 rfl rfl rfl rfl ?_
  refine Tri.run 3 [] [.keep [1, 10] []] (K' := [.code [(2, 0)] 1, .code [] 3]) (σ' := ⟨[(1, .int .i64 (IntKind.i64.wrap (a1 - (a0.length : Int)))), (10, .bool (decide ((IntKind.i64.wrap (a1 - (a0.length : Int))) < (0 : Int))))], []⟩) rfl trivial rfl ?_
  rcases bif_some h with ⟨hd1, h⟩ | ⟨hd1, h⟩
  · refine Tri.run 2 [.g true] [.keep [4] []] (K' := [.code [(2, 0), (1, 0)] 1, .code [] 3]) (σ' := ⟨[(4, .int .i64 (-1 : Int))], []⟩) rfl ⟨hd1, trivial⟩ rfl ?_
    have h := Option.some.inj h
    subst h
    exact Tri.ret rfl ⟨.inl rfl, rfl, rfl⟩
  · refine Tri.run 2 [.g false] [.keep [4] []] (K' := [.code [] 4]) (σ' := ⟨[(4, .int .i64 (IntKind.i64.wrap (a1 - (a0.length : Int))))], []⟩) rfl ⟨hd1, trivial⟩ rfl ?_
    have h := Option.some.inj h
    subst h
    exact Tri.ret rfl ⟨.inl rfl, rfl, rfl⟩
/-! laws.szGame -/
noncomputable def E15_laws_szGame : Env := ⟨Try.prog, tys, (Try.f15.body).getD .skip, 12, tysOk, mixedOk⟩
abbrev q_laws_szGame (r : Int) (σ' : ASt) : Prop := resAV E15_laws_szGame.T σ' Try.f15.results.toList = some (.int .i64 r) ∧ keepO σ'.ob (namesO []) = []
noncomputable def m_laws_szGame (_a0 : Int) (a1 : List Int) (a2 : Int) : Option Int :=
(m_laws_szIntS a1 a2).bind fun v1 =>
bif decide (v1 < (0 : Int)) then
(some (-1 : Int))
else
(some v1)
theorem w_laws_szGame (a0 : Int) (a1 : List Int) (a2 : Int) (r : Int) (h : m_laws_szGame a0 a1 a2 = some r) : AM.Spec Try.prog 15 [.agg [.int .i64 a0, .list (.ints a1)], .int .i64 a2] [] (.int .i64 r) [] := by
  refine spec_of (E := E15_laws_szGame) Try.func15 rfl rfl rfl rfl ?_
  refine Tri.run 1 [] [.keep [1, 2] [2]] (K' := [.code [(1, 0)] 0, .code [] 2]) (σ' := ⟨[(1, .int .i64 a2), (2, .ptr 2 0)], [(2, .box [.int .i64 a0, .list (.ints a1)])]⟩) rfl trivial rfl ?_
  obtain ⟨v1, hk1, h⟩ := bind_some h
  refine Tri.run 2 [.r ⟨[], .int .i64 v1, []⟩] [.keep [1, 10] []] (K' := [.code [(2, 0)] 1, .code [] 3]) (σ' := ⟨[(1, .int .i64 v1), (10, .bool (decide (v1 < (0 : Int))))], []⟩) rfl ⟨(w_laws_szIntS a1 a2 v1 hk1), trivial⟩ rfl ?_
  rcases bif_some h with ⟨hd2, h⟩ | ⟨hd2, h⟩
  · refine Tri.run 2 [.g true] [.keep [4] []] (K' := [.code [(2, 0), (1, 0)] 1, .code [] 3]) (σ' := ⟨[(4, .int .i64 (-1 : Int))], []⟩) rfl ⟨hd2, trivial⟩ rfl ?_
    have h := Option.some.inj h
    subst h
    exact Tri.ret rfl ⟨.inl rfl, rfl, rfl⟩
  · refine Tri.run 2 [.g false] [.keep [4] []] (K' := [.code [] 4]) (σ' := ⟨[(4, .int .i64 v1)], []⟩) rfl ⟨hd2, trivial⟩ rfl ?_
    have h := Option.some.inj h
    subst h
    exact Tri.ret rfl ⟨.inl rfl, rfl, rfl⟩
/-! laws.toIntS -/
noncomputable def E70_laws_toIntS : Env := ⟨Try.prog, tys, (Try.f70.body).getD .skip, 22, tysOk, mixedOk⟩
abbrev q_laws_toIntS (r : List Int) (σ' : ASt) : Prop := resAV E70_laws_toIntS.T σ' Try.f70.results.toList = some (.sl 1000 0) ∧ keepO σ'.ob (namesO [(1000, .arr 3 0 0 (.ints r))]) = [(1000, .arr 3 0 0 (.ints r))]
noncomputable def l_laws_toIntS_0 (a0 : List Int) : (Int × (List Int)) → Option ((Int × (List Int)) ⊕ ((List Int)))
  | (v1, v2) => (
bif decide (v1 < (a0.length : Int)) then
(grd ((0 : Int) ≤ v1 ∧ v1 < (a0.length : Int)) <|
grd ((0 : Int) ≤ v1 ∧ v1 < (v2.length : Int)) <|
some (.inl (IntKind.i64.wrap (v1 + (1 : Int)), v2.set v1.toNat (a0.getD v1.toNat 0))))
else
(some (.inr v2)))
noncomputable def m_laws_toIntS (a0 : List Int) : Option (List Int) :=
grd ((0 : Int) ≤ (a0.length : Int) ∧ (a0.length : Int) = (a0.length : Int) ∧ (a0.length : Int) ≤ (room : Int)) <|
(iter (l_laws_toIntS_0 a0) ((0 : Int), List.replicate (a0.length : Int).toNat (0 : Int))).bind fun
| v3 => (
some v3)
theorem w_laws_toIntS (a0 : List Int) (r : List Int) (h : m_laws_toIntS a0 = some r) : AM.Spec Try.prog 70 [.list (.ints a0)] [] (.sl 1000 0) [(1000, .arr 3 0 0 (.ints r))] := by
  refine spec_of (E := E70_laws_toIntS) Try.func70 rfl rfl rfl rfl ?_
  obtain ⟨hg1, h⟩ := grd_some h
  refine Tri.run 3 [] [.keep [0, 3, 4] [7]] (K' := [.code [(2, 0), (1, 0)] 0, .blk 0, .code [] 3]) (σ' := ⟨[(0, .list (.ints a0)), (3, .sl 7 0), (4, .int .i64 (0 : Int))], [(7, .arr 3 0 0 (.ints (List.replicate (a0.length : Int).toNat (0 : Int))))]⟩) rfl ⟨hg1, trivial⟩ rfl ?_
  obtain ⟨v3, hk5, h⟩ := bind_some h
  refine Tri.loop (K1 := [.code [(2, 0), (1, 0), (0, 0)] 0]) (K2 := [.blk 0, .code [] 3]) (fun (v1, v2) => ⟨[(0, .list (.ints a0)), (3, .sl 7 0), (4, .int .i64 v1)], [(7, .arr 3 0 0 (.ints v2))]⟩) (fun x e σ' => match x with | v3 => e = .exit 0 ∧ σ' = ⟨[(3, .sl 7 0)], [(7, .arr 3 0 0 (.ints v3))]⟩) hk5 rfl rfl ?_ ?_
  · intro s x hs
    clear h
    have h := hs
    clear hs
    obtain ⟨v1, v2⟩ := s
    refine Tri.run 1 [] [.keep [0, 3, 4, 11] [7]] (K' := [.code [(2, 0), (1, 0), (0, 0), (0, 0)] 1, .code [(2, 0), (1, 0), (0, 0)] 1]) (σ' := ⟨[(0, .list (.ints a0)), (3, .sl 7 0), (4, .int .i64 v1), (11, .bool (decide (v1 < (a0.length : Int))))], [(7, .arr 3 0 0 (.ints v2))]⟩) rfl trivial rfl ?_
    rcases bif_some h with ⟨hd2, h⟩ | ⟨hd2, h⟩
    · obtain ⟨hg3, h⟩ := grd_some h
      obtain ⟨hg4, h⟩ := grd_some h
      refine Tri.run 3 [.g true] [.keep [0, 3, 4] [7]] (K' := []) (σ' := ⟨[(0, .list (.ints a0)), (3, .sl 7 0), (4, .int .i64 (IntKind.i64.wrap (v1 + (1 : Int))))], [(7, .arr 3 0 0 (.ints (v2.set v1.toNat (a0.getD v1.toNat 0))))]⟩) rfl ⟨hg4, hg3, hd2, trivial⟩ rfl ?_
      have h := Option.some.inj h
      subst h
      exact Tri.nil ⟨rfl, rfl⟩
    · refine Tri.run 1 [.g false] [.keep [3] [7]] (K' := [.code [(2, 0), (1, 0), (0, 0), (0, 0), (1, 1)] 0, .code [(2, 0), (1, 0), (0, 0)] 1]) (σ' := ⟨[(3, .sl 7 0)], [(7, .arr 3 0 0 (.ints v2))]⟩) rfl ⟨hd2, trivial⟩ rfl ?_
      have h := Option.some.inj h
      subst h
      exact Tri.out 0 rfl ⟨nofun, rfl, rfl⟩
  · intro e σ' hne hq
    obtain ⟨rfl, rfl⟩ := hq
    refine TriX.exit (K' := [.code [] 3]) rfl ?_
    refine Tri.run 1 [] [.swap 7 1000, .keep [2] [1000]] (K' := [.code [] 4]) (σ' := ⟨[(2, .sl 1000 0)], [(1000, .arr 3 0 0 (.ints v3))]⟩) rfl trivial rfl ?_
    have h := Option.some.inj h
    subst h
    exact Tri.ret rfl ⟨.inl rfl, rfl, rfl⟩
/-! laws.toGame -/
noncomputable def E18_laws_toGame : Env := ⟨Try.prog, tys, (Try.f18.body).getD .skip, 12, tysOk, mixedOk⟩
abbrev q_laws_toGame (r : Int × (List Int)) (σ' : ASt) : Prop := resAV E18_laws_toGame.T σ' Try.f18.results.toList = some (.agg [.int .i64 r.1, .sl 1000 0]) ∧ keepO σ'.ob (namesO [(1000, .arr 3 0 0 (.ints r.2))]) = [(1000, .arr 3 0 0 (.ints r.2))]
noncomputable def m_laws_toGame (a0 : Int) (a1 : List Int) : Option (Int × (List Int)) :=
(m_laws_toIntS a1).bind fun v1 =>
some (a0, v1)
theorem w_laws_toGame (a0 : Int) (a1 : List Int) (r : Int × (List Int)) (h : m_laws_toGame a0 a1 = some r) : AM.Spec Try.prog 18 [.agg [.int .i64 a0, .list (.ints a1)]] [] (.agg [.int .i64 r.1, .sl 1000 0]) [(1000, .arr 3 0 0 (.ints r.2))] := by
  refine spec_of (E := E18_laws_toGame) Try.func18 rfl rfl rfl rfl ?_
  refine Tri.run 3 [] [.keep [1, 2, 3] [1, 2, 3]] (K' := [.code [(3, 0)] 0, .code [] 4]) (σ' := ⟨[(1, .ptr 1 0), (2, .ptr 2 0), (3, .ptr 3 0)], [(1, .box [.int .i64 a0, .list (.ints a1)]), (2, .box [.int .i64 0, .nil (.ints [])]), (3, .box [.int .i64 a0, .nil (.ints [])])]⟩) rfl trivial rfl ?_
  obtain ⟨v1, hk1, h⟩ := bind_some h
  refine Tri.run 2 [.r ⟨[], .sl 1100 0, [(1100, .arr 3 0 0 (.ints v1))]⟩] [.swap 1100 1000, .keep [2] [2, 1000]] (K' := [.code [] 5]) (σ' := ⟨[(2, .ptr 2 0)], [(2, .box [.int .i64 a0, .sl 1000 0]), (1000, .arr 3 0 0 (.ints v1))]⟩) rfl ⟨((w_laws_toIntS a1 v1 hk1).swap 1000 1100), trivial⟩ rfl ?_
  have h := Option.some.inj h
  subst h
  exact Tri.ret rfl ⟨.inl rfl, rfl, rfl⟩
/-! spec.l1In -/
noncomputable def E66_spec_l1In : Env := ⟨Try.prog, tys, (Try.f66.body).getD .skip, 15, tysOk, mixedOk⟩
abbrev q_spec_l1In (r : Bool) (σ' : ASt) : Prop := resAV E66_spec_l1In.T σ' Try.f66.results.toList = some (.bool r) ∧ keepO σ'.ob (namesO []) = []
noncomputable def m_spec_l1In (a0 : Int) (a1 : Int) (a2 : Int) : Option Bool :=
bif decide (a0 ≥ a1) then
(some (decide (a0 ≤ a2)))
else
(some false)
theorem w_spec_l1In (a0 : Int) (a1 : Int) (a2 : Int) (r : Bool) (h : m_spec_l1In a0 a1 a2 = some r) : AM.Spec Try.prog 66 [.int .i64 a0, .int .i64 a1, .int .i64 a2] [] (.bool r) [] := by
  refine spec_of (E := E66_spec_l1In) Try.func66 rfl rfl rfl rfl ?_
  refine Tri.run 1 [] [.keep [0, 1, 2] []] (K' := [.code [(1, 0)] 0, .code [] 2]) (σ' := ⟨[(0, .int .i64 a0), (1, .int .i64 a1), (2, .int .i64 a2)], []⟩) rfl trivial rfl ?_
  rcases bif_some h with ⟨hd1, h⟩ | ⟨hd1, h⟩
  · refine Tri.run 1 [.g true] [.keep [6] []] (K' := [.code [] 2]) (σ' := ⟨[(6, .bool (decide (a0 ≤ a2)))], []⟩) rfl ⟨hd1, trivial⟩ rfl ?_
    have h := Option.some.inj h
    subst h
    exact Tri.ret rfl ⟨.inl rfl, rfl, rfl⟩
  · refine Tri.run 1 [.g false] [.keep [6] []] (K' := [.code [] 2]) (σ' := ⟨[(6, .bool false)], []⟩) rfl ⟨hd1, trivial⟩ rfl ?_
    have h := Option.some.inj h
    subst h
    exact Tri.ret rfl ⟨.inl rfl, rfl, rfl⟩
/-! spec.CountCoalitions -/
noncomputable def E131_spec_CountCoalitions : Env := ⟨Try.prog, tys, (Try.f131.body).getD .skip, 16, tysOk, mixedOk⟩
abbrev q_spec_CountCoalitions (r : Int) (σ' : ASt) : Prop := resAV E131_spec_CountCoalitions.T σ' Try.f131.results.toList = some (.int .i64 r) ∧ keepO σ'.ob (namesO []) = []
noncomputable def l_spec_CountCoalitions_0 (a0 : Int) : (Int × Int) → Option ((Int × Int) ⊕ Int)
  | (v2, v3) => (
bif decide (v3 < a0) then
(some (.inl (IntKind.i64.wrap (v2 * (2 : Int)), IntKind.i64.wrap (v3 + (1 : Int)))))
else
(some (.inr v2)))
noncomputable def m_spec_CountCoalitions (a0 : Int) : Option Int :=
(m_spec_l1In a0 (0 : Int) (5 : Int)).bind fun v1 =>
bif !v1 then
(some (0 : Int))
else
((iter (l_spec_CountCoalitions_0 a0) ((1 : Int), (0 : Int))).bind fun
| v4 => (
some v4))
theorem w_spec_CountCoalitions (a0 : Int) (r : Int) (h : m_spec_CountCoalitions a0 = some r) : AM.Spec Try.prog 131 [.int .i64 a0] [] (.int .i64 r) [] := by
  refine spec_of (E := E131_spec_CountCoalitions) Try.func131 rfl rfl rfl rfl ?_
  refine Tri.run 1 [] [.keep [0] []] (K' := [.code [(1, 0), (0, 0)] 0, .code [(1, 0)] 1, .code [] 2]) (σ' := ⟨[(0, .int .i64 a0)], []⟩) rfl trivial rfl ?_
  obtain ⟨v1, hk1, h⟩ := bind_some h
  refine Tri.run 1 [.r ⟨[], .bool v1, []⟩] [.keep [0, 7] []] (K' := [.code [(1, 0)] 1, .code [] 2]) (σ' := ⟨[(0, .int .i64 a0), (7, .bool (!v1))], []⟩) rfl ⟨(w_spec_l1In a0 (0 : Int) (5 : Int) v1 hk1), trivial⟩ rfl ?_
  rcases bif_some h with ⟨hd2, h⟩ | ⟨hd2, h⟩
  · refine Tri.run 2 [.g true] [.keep [2] []] (K' := [.code [(1, 0), (1, 0)] 1, .code [] 2]) (σ' := ⟨[(2, .int .i64 (0 : Int))], []⟩) rfl ⟨hd2, trivial⟩ rfl ?_
    have h := Option.some.inj h
    subst h
    exact Tri.ret rfl ⟨.inl rfl, rfl, rfl⟩
  · refine Tri.run 3 [.g false] [.keep [0, 3, 4] []] (K' := [.code [(3, 0), (1, 0)] 0, .blk 0, .code [] 4]) (σ' := ⟨[(0, .int .i64 a0), (3, .int .i64 (1 : Int)), (4, .int .i64 (0 : Int))], []⟩) rfl ⟨hd2, trivial⟩ rfl ?_
    obtain ⟨v4, hk4, h⟩ := bind_some h
    refine Tri.loop (K1 := [.code [(3, 0), (1, 0), (0, 0)] 0]) (K2 := [.blk 0, .code [] 4]) (fun (v2, v3) => ⟨[(0, .int .i64 a0), (3, .int .i64 v2), (4, .int .i64 v3)], []⟩) (fun x e σ' => match x with | v4 => e = .exit 0 ∧ σ' = ⟨[(3, .int .i64 v4)], []⟩) hk4 rfl rfl ?_ ?_
    · intro s x hs
      clear h
      have h := hs
      clear hs
      obtain ⟨v2, v3⟩ := s
      refine Tri.run 1 [] [.keep [0, 3, 4, 10] []] (K' := [.code [(3, 0), (1, 0), (0, 0), (0, 0)] 1, .code [(3, 0), (1, 0), (0, 0)] 1]) (σ' := ⟨[(0, .int .i64 a0), (3, .int .i64 v2), (4, .int .i64 v3), (10, .bool (decide (v3 < a0)))], []⟩) rfl trivial rfl ?_
      rcases bif_some h with ⟨hd3, h⟩ | ⟨hd3, h⟩
      · refine Tri.run 3 [.g true] [.keep [0, 3, 4] []] (K' := []) (σ' := ⟨[(0, .int .i64 a0), (3, .int .i64 (IntKind.i64.wrap (v2 * (2 : Int)))), (4, .int .i64 (IntKind.i64.wrap (v3 + (1 : Int))))], []⟩) rfl ⟨hd3, trivial⟩ rfl ?_
        have h := Option.some.inj h
        subst h
        exact Tri.nil ⟨rfl, rfl⟩
      · refine Tri.run 1 [.g false] [.keep [3] []] (K' := [.code [(3, 0), (1, 0), (0, 0), (0, 0), (1, 1)] 0, .code [(3, 0), (1, 0), (0, 0)] 1]) (σ' := ⟨[(3, .int .i64 v2)], []⟩) rfl ⟨hd3, trivial⟩ rfl ?_
        have h := Option.some.inj h
        subst h
        exact Tri.out 0 rfl ⟨nofun, rfl, rfl⟩
    · intro e σ' hne hq
      obtain ⟨rfl, rfl⟩ := hq
      refine TriX.exit (K' := [.code [] 4]) rfl ?_
      refine Tri.run 1 [] [.keep [2] []] (K' := [.code [] 5]) (σ' := ⟨[(2, .int .i64 v4)], []⟩) rfl trivial rfl ?_
      have h := Option.some.inj h
      subst h
      exact Tri.ret rfl ⟨.inl rfl, rfl, rfl⟩
/-! spec.IsValidGame -/
noncomputable def E65_spec_IsValidGame : Env := ⟨Try.prog, tys, (Try.f65.body).getD .skip, 37, tysOk, mixedOk⟩
abbrev q_spec_IsValidGame (r : Bool) (σ' : ASt) : Prop := resAV E65_spec_IsValidGame.T σ' Try.f65.results.toList = some (.bool r) ∧ keepO σ'.ob (namesO []) = []
noncomputable def l_spec_IsValidGame_0 (a1 : List Int) (v1 : Int) : Option (Int ⊕ (Unit ⊕ Bool)) :=
bif decide (v1 < (a1.length : Int)) then
(grd ((0 : Int) ≤ v1 ∧ v1 < (a1.length : Int)) <|
(m_spec_l1In (a1.getD v1.toNat 0) (-500 : Int) (500 : Int)).bind fun v2 =>
bif !v2 then
(some (.inr (.inr false)))
else
(some (.inl (IntKind.i64.wrap (v1 + (1 : Int))))))
else
(some (.inr (.inl ())))
noncomputable def m_spec_IsValidGame (a0 : Int) (a1 : List Int) : Option Bool :=
(iter (l_spec_IsValidGame_0 a1) (0 : Int)).bind fun
| (.inl _) => (
(m_spec_l1In a0 (1 : Int) (5 : Int)).bind fun v3 =>
bif v3 then
((m_spec_CountCoalitions a0).bind fun v4 =>
bif (a1.length : Int) == v4 then
(grd ((0 : Int) ≤ (0 : Int) ∧ (0 : Int) < (a1.length : Int)) <|
some ((a1.getD ((0 : Int).toNat) 0) == (0 : Int)))
else
(some false))
else
(some false))
| (.inr r) => some r
theorem w_spec_IsValidGame (a0 : Int) (a1 : List Int) (r : Bool) (h : m_spec_IsValidGame a0 a1 = some r) : AM.Spec Try.prog 65 [.agg [.int .i64 a0, .list (.ints a1)]] [] (.bool r) [] := by
  refine spec_of (E := E65_spec_IsValidGame) Try.func65 rfl rfl rfl rfl ?_
  refine Tri.run 2 [] [.keep [1, 3] [1]] (K' := [.code [(1, 0), (1, 0)] 0, .blk 0, .code [] 2]) (σ' := ⟨[(1, .ptr 1 0), (3, .int .i64 (0 : Int))], [(1, .box [.int .i64 a0, .list (.ints a1)])]⟩) rfl trivial rfl ?_
  obtain ⟨x1, hk5, h⟩ := bind_some h
  refine Tri.loop (K1 := [.code [(1, 0), (1, 0), (0, 0)] 0]) (K2 := [.blk 0, .code [] 2]) (fun v1 => ⟨[(1, .ptr 1 0), (3, .int .i64 v1)], [(1, .box [.int .i64 a0, .list (.ints a1)])]⟩) (fun x e σ' => match x with | (.inl _) => e = .exit 0 ∧ σ' = ⟨[(1, .ptr 1 0)], [(1, .box [.int .i64 a0, .list (.ints a1)])]⟩ | (.inr r) => e = .ret ∧ q_spec_IsValidGame r σ') hk5 rfl rfl ?_ ?_
  · intro v1 x hs
    clear h
    have h := hs
    clear hs
    refine Tri.run 1 [] [.keep [1, 3, 8] [1]] (K' := [.code [(1, 0), (1, 0), (0, 0), (0, 0)] 1, .code [(1, 0), (1, 0), (0, 0)] 1]) (σ' := ⟨[(1, .ptr 1 0), (3, .int .i64 v1), (8, .bool (decide (v1 < (a1.length : Int))))], [(1, .box [.int .i64 a0, .list (.ints a1)])]⟩) rfl trivial rfl ?_
    rcases bif_some h with ⟨hd1, h⟩ | ⟨hd1, h⟩
    · obtain ⟨hg2, h⟩ := grd_some h
      obtain ⟨v2, hk3, h⟩ := bind_some h
      refine Tri.run 2 [.g true, .r ⟨[], .bool v2, []⟩] [.keep [1, 3, 17] [1]] (K' := [.code [(1, 0), (1, 0), (0, 0), (1, 0), (0, 0)] 1, .blk 1, .code [(1, 0), (1, 0), (0, 0)] 2]) (σ' := ⟨[(1, .ptr 1 0), (3, .int .i64 v1), (17, .bool (!v2))], [(1, .box [.int .i64 a0, .list (.ints a1)])]⟩) rfl ⟨(w_spec_l1In (a1.getD v1.toNat 0) (-500 : Int) (500 : Int) v2 hk3), hg2, hd1, trivial⟩ rfl ?_
      rcases bif_some h with ⟨hd4, h⟩ | ⟨hd4, h⟩
      · refine Tri.run 2 [.g true] [.keep [2] []] (K' := [.code [(1, 0), (1, 0), (0, 0), (1, 0), (0, 0), (1, 0)] 1, .blk 1, .code [(1, 0), (1, 0), (0, 0)] 2]) (σ' := ⟨[(2, .bool false)], []⟩) rfl ⟨hd4, trivial⟩ rfl ?_
        have h := Option.some.inj h
        subst h
        exact Tri.ret rfl ⟨nofun, rfl, rfl, rfl⟩
      · refine Tri.run 2 [.g false] [.keep [1, 3] [1]] (K' := []) (σ' := ⟨[(1, .ptr 1 0), (3, .int .i64 (IntKind.i64.wrap (v1 + (1 : Int))))], [(1, .box [.int .i64 a0, .list (.ints a1)])]⟩) rfl ⟨hd4, trivial⟩ rfl ?_
        have h := Option.some.inj h
        subst h
        exact Tri.nil ⟨rfl, rfl⟩
    · refine Tri.run 1 [.g false] [.keep [1] [1]] (K' := [.code [(1, 0), (1, 0), (0, 0), (0, 0), (1, 1)] 0, .code [(1, 0), (1, 0), (0, 0)] 1]) (σ' := ⟨[(1, .ptr 1 0)], [(1, .box [.int .i64 a0, .list (.ints a1)])]⟩) rfl ⟨hd1, trivial⟩ rfl ?_
      have h := Option.some.inj h
      subst h
      exact Tri.out 0 rfl ⟨nofun, rfl, rfl⟩
  · intro e σ' hne hq
    rcases x1 with _ | r
    · obtain ⟨rfl, rfl⟩ := hq
      refine TriX.exit (K' := [.code [] 2]) rfl ?_
      obtain ⟨v3, hk6, h⟩ := bind_some h
      rcases bif_some h with ⟨hd7, h⟩ | ⟨hd7, h⟩
      · obtain ⟨v4, hk8, h⟩ := bind_some h
        rcases bif_some h with ⟨hd9, h⟩ | ⟨hd9, h⟩
        · obtain ⟨hg10, h⟩ := grd_some h
          refine Tri.run 1 [.r ⟨[], .bool v3, []⟩, .g true, .r ⟨[], .int .i64 v4, []⟩, .g true] [.keep [2] []] (K' := [.code [] 3]) (σ' := ⟨[(2, .bool ((a1.getD ((0 : Int).toNat) 0) == (0 : Int)))], []⟩) rfl ⟨hg10, hd9, (w_spec_CountCoalitions a0 v4 hk8), hd7, (w_spec_l1In a0 (1 : Int) (5 : Int) v3 hk6), trivial⟩ rfl ?_
          have h := Option.some.inj h
          subst h
          exact Tri.ret rfl ⟨.inl rfl, rfl, rfl⟩
        · refine Tri.run 1 [.r ⟨[], .bool v3, []⟩, .g true, .r ⟨[], .int .i64 v4, []⟩, .g false] [.keep [2] []] (K' := [.code [] 3]) (σ' := ⟨[(2, .bool false)], []⟩) rfl ⟨hd9, (w_spec_CountCoalitions a0 v4 hk8), hd7, (w_spec_l1In a0 (1 : Int) (5 : Int) v3 hk6), trivial⟩ rfl ?_
          have h := Option.some.inj h
          subst h
          exact Tri.ret rfl ⟨.inl rfl, rfl, rfl⟩
      · refine Tri.run 1 [.r ⟨[], .bool v3, []⟩, .g false, .g false] [.keep [2] []] (K' := [.code [] 3]) (σ' := ⟨[(2, .bool false)], []⟩) rfl ⟨rfl, hd7, (w_spec_l1In a0 (1 : Int) (5 : Int) v3 hk6), trivial⟩ rfl ?_
        have h := Option.some.inj h
        subst h
        exact Tri.ret rfl ⟨.inl rfl, rfl, rfl⟩
    · obtain ⟨rfl, hq⟩ := hq
      have h := Option.some.inj h
      subst h
      exact TriX.ret ⟨.inl rfl, hq⟩
/-! spec.l3Int -/
noncomputable def E69_spec_l3Int : Env := ⟨Try.prog, tys, (Try.f69.body).getD .skip, 5, tysOk, mixedOk⟩
abbrev q_spec_l3Int (r : Int × Int) (σ' : ASt) : Prop := resAV E69_spec_l3Int.T σ' Try.f69.results.toList = some (.agg [.int .i64 r.1, .int .i64 r.2]) ∧ keepO σ'.ob (namesO []) = []
noncomputable def m_spec_l3Int (a0 : Int) : Option (Int × Int) :=
some (a0, (1 : Int))
theorem w_spec_l3Int (a0 : Int) (r : Int × Int) (h : m_spec_l3Int a0 = some r) : AM.Spec Try.prog 69 [.int .i64 a0] [] (.agg [.int .i64 r.1, .int .i64 r.2]) [] := by
  refine spec_of (E := E69_spec_l3Int) Try.func69 rfl rfl rfl rfl ?_
  refine Tri.run 2 [] [.keep [2] [2]] (K' := [.code [] 2]) (σ' := ⟨[(2, .ptr 2 0)], [(2, .box [.int .i64 a0, .int .i64 (1 : Int)])]⟩) rfl trivial rfl ?_
  have h := Option.some.inj h
  subst h
  exact Tri.ret rfl ⟨.inl rfl, rfl, rfl⟩
/-! spec.GrandValue -/
noncomputable def E78_spec_GrandValue : Env := ⟨Try.prog, tys, (Try.f78.body).getD .skip, 14, tysOk, mixedOk⟩
abbrev q_spec_GrandValue (r : Int) (σ' : ASt) : Prop := resAV E78_spec_GrandValue.T σ' Try.f78.results.toList = some (.int .i64 r) ∧ keepO σ'.ob (namesO []) = []
noncomputable def m_spec_GrandValue (a0 : Int) (a1 : List Int) : Option Int :=
(m_spec_IsValidGame a0 a1).bind fun v1 =>
bif !v1 then
(some (0 : Int))
else
(grd ((0 : Int) ≤ IntKind.i64.wrap ((a1.length : Int) - (1 : Int)) ∧ IntKind.i64.wrap ((a1.length : Int) - (1 : Int)) < (a1.length : Int)) <|
some (a1.getD ((IntKind.i64.wrap ((a1.length : Int) - (1 : Int))).toNat) 0))
theorem w_spec_GrandValue (a0 : Int) (a1 : List Int) (r : Int) (h : m_spec_GrandValue a0 a1 = some r) : AM.Spec Try.prog 78 [.agg [.int .i64 a0, .list (.ints a1)]] [] (.int .i64 r) [] := by
  refine spec_of (E := E78_spec_GrandValue) Try.func78 rfl rfl rfl rfl ?_
  refine Tri.run 1 [] [.keep [1] [1]] (K' := [.code [(1, 0), (0, 0)] 0, .code [(1, 0)] 1, .code [] 2]) (σ' := ⟨[(1, .ptr 1 0)], [(1, .box [.int .i64 a0, .list (.ints a1)])]⟩) rfl trivial rfl ?_
  obtain ⟨v1, hk1, h⟩ := bind_some h
  refine Tri.run 1 [.r ⟨[], .bool v1, []⟩] [.keep [1, 5] [1]] (K' := [.code [(1, 0)] 1, .code [] 2]) (σ' := ⟨[(1, .ptr 1 0), (5, .bool (!v1))], [(1, .box [.int .i64 a0, .list (.ints a1)])]⟩) rfl ⟨(w_spec_IsValidGame a0 a1 v1 hk1), trivial⟩ rfl ?_
  rcases bif_some h with ⟨hd2, h⟩ | ⟨hd2, h⟩
  · refine Tri.run 2 [.g true] [.keep [2] []] (K' := [.code [(1, 0), (1, 0)] 1, .code [] 2]) (σ' := ⟨[(2, .int .i64 (0 : Int))], []⟩) rfl ⟨hd2, trivial⟩ rfl ?_
    have h := Option.some.inj h
    subst h
    exact Tri.ret rfl ⟨.inl rfl, rfl, rfl⟩
  · obtain ⟨hg3, h⟩ := grd_some h
    refine Tri.run 2 [.g false] [.keep [2] []] (K' := [.code [] 3]) (σ' := ⟨[(2, .int .i64 (a1.getD ((IntKind.i64.wrap ((a1.length : Int) - (1 : Int))).toNat) 0))], []⟩) rfl ⟨hg3, hd2, trivial⟩ rfl ?_
    have h := Option.some.inj h
    subst h
    exact Tri.ret rfl ⟨.inl rfl, rfl, rfl⟩
/-! spec.l2Bit -/
noncomputable def E83_spec_l2Bit : Env := ⟨Try.prog, tys, (Try.f83.body).getD .skip, 5, tysOk, mixedOk⟩
abbrev q_spec_l2Bit (r : Int) (σ' : ASt) : Prop := resAV E83_spec_l2Bit.T σ' Try.f83.results.toList = some (.int .i64 r) ∧ keepO σ'.ob (namesO []) = []
noncomputable def m_spec_l2Bit (a0 : Int) : Option Int :=
(m_spec_CountCoalitions a0).bind fun v1 =>
some v1
theorem w_spec_l2Bit (a0 : Int) (r : Int) (h : m_spec_l2Bit a0 = some r) : AM.Spec Try.prog 83 [.int .i64 a0] [] (.int .i64 r) [] := by
  refine spec_of (E := E83_spec_l2Bit) Try.func83 rfl rfl rfl rfl ?_
  refine Tri.run 1 [] [.keep [0] []] (K' := [.code [(1, 0)] 0, .code [] 2]) (σ' := ⟨[(0, .int .i64 a0)], []⟩) rfl trivial rfl ?_
  obtain ⟨v1, hk1, h⟩ := bind_some h
  refine Tri.run 1 [.r ⟨[], .int .i64 v1, []⟩] [.keep [2] []] (K' := [.code [] 2]) (σ' := ⟨[(2, .int .i64 v1)], []⟩) rfl ⟨(w_spec_CountCoalitions a0 v1 hk1), trivial⟩ rfl ?_
  have h := Option.some.inj h
  subst h
  exact Tri.ret rfl ⟨.inl rfl, rfl, rfl⟩
/-! spec.HasPlayer -/
noncomputable def E89_spec_HasPlayer : Env := ⟨Try.prog, tys, (Try.f89.body).getD .skip, 19, tysOk, mixedOk⟩
abbrev q_spec_HasPlayer (r : Bool) (σ' : ASt) : Prop := resAV E89_spec_HasPlayer.T σ' Try.f89.results.toList = some (.bool r) ∧ keepO σ'.ob (namesO []) = []
noncomputable def m_spec_HasPlayer (a0 : Int) (a1 : Int) : Option Bool :=
(m_spec_l1In a1 (0 : Int) (4 : Int)).bind fun v1 =>
bif v1 then
(bif decide (a0 ≥ (0 : Int)) then
((m_spec_l2Bit a1).bind fun v2 =>
grd (v2 ≠ 0) <|
grd ((2 : Int) ≠ 0) <|
some (((IntKind.i64.wrap (a0.tdiv v2)).tmod (2 : Int)) == (1 : Int)))
else
(some false))
else
(some false)
theorem w_spec_HasPlayer (a0 : Int) (a1 : Int) (r : Bool) (h : m_spec_HasPlayer a0 a1 = some r) : AM.Spec Try.prog 89 [.int .i64 a0, .int .i64 a1] [] (.bool r) [] := by
  refine spec_of (E := E89_spec_HasPlayer) Try.func89 rfl rfl rfl rfl ?_
  refine Tri.run 1 [] [.keep [0, 1] []] (K' := [.code [(1, 0)] 0, .code [] 2]) (σ' := ⟨[(0, .int .i64 a0), (1, .int .i64 a1)], []⟩) rfl trivial rfl ?_
  obtain ⟨v1, hk1, h⟩ := bind_some h
  rcases bif_some h with ⟨hd2, h⟩ | ⟨hd2, h⟩
  · rcases bif_some h with ⟨hd3, h⟩ | ⟨hd3, h⟩
    · obtain ⟨v2, hk4, h⟩ := bind_some h
      obtain ⟨hg5, h⟩ := grd_some h
      obtain ⟨hg6, h⟩ := grd_some h
      refine Tri.run 1 [.r ⟨[], .bool v1, []⟩, .g true, .g true, .r ⟨[], .int .i64 v2, []⟩] [.keep [4] []] (K' := [.code [] 2]) (σ' := ⟨[(4, .bool (((IntKind.i64.wrap (a0.tdiv v2)).tmod (2 : Int)) == (1 : Int)))], []⟩) rfl ⟨hg6, hg5, (w_spec_l2Bit a1 v2 hk4), hd3, hd2, (w_spec_l1In a1 (0 : Int) (4 : Int) v1 hk1), trivial⟩ rfl ?_
      have h := Option.some.inj h
      subst h
      exact Tri.ret rfl ⟨.inl rfl, rfl, rfl⟩
    · refine Tri.run 1 [.r ⟨[], .bool v1, []⟩, .g true, .g false] [.keep [4] []] (K' := [.code [] 2]) (σ' := ⟨[(4, .bool false)], []⟩) rfl ⟨hd3, hd2, (w_spec_l1In a1 (0 : Int) (4 : Int) v1 hk1), trivial⟩ rfl ?_
      have h := Option.some.inj h
      subst h
      exact Tri.ret rfl ⟨.inl rfl, rfl, rfl⟩
  · refine Tri.run 1 [.r ⟨[], .bool v1, []⟩, .g false, .g false] [.keep [4] []] (K' := [.code [] 2]) (σ' := ⟨[(4, .bool false)], []⟩) rfl ⟨rfl, hd2, (w_spec_l1In a1 (0 : Int) (4 : Int) v1 hk1), trivial⟩ rfl ?_
    have h := Option.some.inj h
    subst h
    exact Tri.ret rfl ⟨.inl rfl, rfl, rfl⟩
/-! spec.l1Bit -/
noncomputable def E105_spec_l1Bit : Env := ⟨Try.prog, tys, (Try.f105.body).getD .skip, 4, tysOk, mixedOk⟩
abbrev q_spec_l1Bit (r : Int) (σ' : ASt) : Prop := resAV E105_spec_l1Bit.T σ' Try.f105.results.toList = some (.int .i64 r) ∧ keepO σ'.ob (namesO []) = []
noncomputable def m_spec_l1Bit (a0 : Bool) : Option Int :=
bif a0 then
(some (1 : Int))
else
(some (0 : Int))
theorem w_spec_l1Bit (a0 : Bool) (r : Int) (h : m_spec_l1Bit a0 = some r) : AM.Spec Try.prog 105 [.bool a0] [] (.int .i64 r) [] := by
  refine spec_of (E := E105_spec_l1Bit) Try.func105 rfl rfl rfl rfl ?_
  refine Tri.run 2 [] [.keep [3] []] (K' := [.code [(1, 0)] 1, .code [] 2]) (σ' := ⟨[(3, .bool a0)], []⟩) rfl trivial rfl ?_
  rcases bif_some h with ⟨hd1, h⟩ | ⟨hd1, h⟩
  · refine Tri.run 2 [.g true] [.keep [2] []] (K' := [.code [(1, 0), (1, 0)] 1, .code [] 2]) (σ' := ⟨[(2, .int .i64 (1 : Int))], []⟩) rfl ⟨hd1, trivial⟩ rfl ?_
    have h := Option.some.inj h
    subst h
    exact Tri.ret rfl ⟨.inl rfl, rfl, rfl⟩
  · refine Tri.run 2 [.g false] [.keep [2] []] (K' := [.code [] 3]) (σ' := ⟨[(2, .int .i64 (0 : Int))], []⟩) rfl ⟨hd1, trivial⟩ rfl ?_
    have h := Option.some.inj h
    subst h
    exact Tri.ret rfl ⟨.inl rfl, rfl, rfl⟩
/-! spec.LeastLP -/
noncomputable def E38_spec_LeastLP : Env := ⟨Try.prog, tys, (Try.f38.body).getD .skip, 101, tysOk, mixedOk⟩
abbrev q_spec_LeastLP (r : Bool × (List (List Int)) × (List Int) × (List Q)) (σ' : ASt) : Prop := resAV E38_spec_LeastLP.T σ' Try.f38.results.toList = some (.tuple [.agg [.sl 1000 0, .sl 1001 0, .sl 1002 0], .bool r.1]) ∧ keepO σ'.ob (namesO [(1000, .arr 22 0 0 (.intss r.2.1)), (1001, .arr 3 0 0 (.ints r.2.2.1)), (1002, .arr 29 0 0 (.rats r.2.2.2))]) = [(1000, .arr 22 0 0 (.intss r.2.1)), (1001, .arr 3 0 0 (.ints r.2.2.1)), (1002, .arr 29 0 0 (.rats r.2.2.2))]
noncomputable def l_spec_LeastLP_0 (a1 : List Int) : (Int × (List Int) × (List Q)) → Option ((Int × (List Int) × (List Q)) ⊕ (((List Int) × (List Q))))
  | (v2, v3, v4) => (
bif decide (v2 < (IntKind.i64.wrap ((a1.length : Int) - (1 : Int)))) then
(grd ((0 : Int) ≤ v2 ∧ v2 < (a1.length : Int)) <|
(m_spec_l3Int (IntKind.i64.wrap (0 - (a1.getD v2.toNat 0)))).bind fun (v5, v6) =>
grd (v4.length + ([⟨v5, v6⟩] : List Q).length ≤ room) <|
grd (v3.length + ([(1 : Int)] : List Int).length ≤ room) <|
some (.inl (IntKind.i64.wrap (v2 + (1 : Int)), v3 ++ [(1 : Int)], v4 ++ [⟨v5, v6⟩])))
else
(some (.inr (v3, v4))))
noncomputable def l_spec_LeastLP_2 (a1 : List Int) (v12 : Int) : (Int × (List Int)) → Option ((Int × (List Int)) ⊕ ((List Int)))
  | (v15, v16) => (
bif decide (v15 < (IntKind.i64.wrap ((a1.length : Int) - (1 : Int)))) then
((m_spec_HasPlayer v15 v12).bind fun v17 =>
(m_spec_l1Bit v17).bind fun v18 =>
grd (v16.length + ([v18] : List Int).length ≤ room) <|
some (.inl (IntKind.i64.wrap (v15 + (1 : Int)), v16 ++ [v18])))
else
(some (.inr v16)))
noncomputable def l_spec_LeastLP_1 (a0 : Int) (a1 : List Int) : (Int × (List (List Int)) × (List Int)) → Option ((Int × (List (List Int)) × (List Int)) ⊕ (((List (List Int)) × (List Int))))
  | (v12, v13, v14) => (
bif decide (v12 < a0) then
((iter (l_spec_LeastLP_2 a1 v12) ((1 : Int), [])).bind fun
| v19 => (
grd (v19.length + ([(-1 : Int)] : List Int).length ≤ room) <|
grd (v13.length + ([v19 ++ [(-1 : Int)]] : List (List Int)).length ≤ room) <|
grd (v14.length + ([(0 : Int)] : List Int).length ≤ room) <|
some (.inl (IntKind.i64.wrap (v12 + (1 : Int)), v13 ++ [v19 ++ [(-1 : Int)]], v14 ++ [(0 : Int)]))))
else
(some (.inr (v13, v14))))
noncomputable def m_spec_LeastLP (a0 : Int) (a1 : List Int) : Option (Bool × (List (List Int)) × (List Int) × (List Q)) :=
(m_spec_IsValidGame a0 a1).bind fun v1 =>
bif !v1 then
(some (false, [], [], []))
else
(bif decide (a0 < (2 : Int)) then
(some (false, [], [], []))
else
((iter (l_spec_LeastLP_0 a1) ((1 : Int), [], [])).bind fun
| (v7, v8) => (
(m_spec_GrandValue a0 a1).bind fun v9 =>
(m_spec_l3Int v9).bind fun (v10, v11) =>
grd (v8.length + ([⟨v10, v11⟩] : List Q).length ≤ room) <|
(iter (l_spec_LeastLP_1 a0 a1) ((0 : Int), [], [])).bind fun
| (v20, v21) => (
grd (v7.length + ([(0 : Int)] : List Int).length ≤ room) <|
grd (v20.length + ([v7 ++ [(0 : Int)]] : List (List Int)).length ≤ room) <|
grd (v21.length + ([(1 : Int)] : List Int).length ≤ room) <|
some (true, v20 ++ [v7 ++ [(0 : Int)]], v21 ++ [(1 : Int)], v8 ++ [⟨v10, v11⟩])))))
theorem w_spec_LeastLP (a0 : Int) (a1 : List Int) (r : Bool × (List (List Int)) × (List Int) × (List Q)) (h : m_spec_LeastLP a0 a1 = some r) : AM.Spec Try.prog 38 [.agg [.int .i64 a0, .list (.ints a1)]] [] (.tuple [.agg [.sl 1000 0, .sl 1001 0, .sl 1002 0], .bool r.1]) [(1000, .arr 22 0 0 (.intss r.2.1)), (1001, .arr 3 0 0 (.ints r.2.2.1)), (1002, .arr 29 0 0 (.rats r.2.2.2))] := by
  refine spec_of (E := E38_spec_LeastLP) Try.func38 rfl rfl rfl rfl ?_
  refine Tri.run 1 [] [.keep [1, 2] [1, 2]] (K' := [.code [(1, 0), (0, 0)] 0, .code [(1, 0)] 1, .code [] 2]) (σ' := ⟨[(1, .ptr 1 0), (2, .ptr 2 0)], [(1, .box [.int .i64 a0, .list (.ints a1)]), (2, .box [.nil (.intss []), .nil (.ints []), .nil (.rats [])])]⟩) rfl trivial rfl ?_
  obtain ⟨v1, hk1, h⟩ := bind_some h
  rcases bif_some h with ⟨hd2, h⟩ | ⟨hd2, h⟩
  · refine Tri.run 1 [.r ⟨[], .bool v1, []⟩, .g true] [.keep [1, 2, 17] [1, 2]] (K' := [.code [(1, 0)] 1, .code [] 2]) (σ' := ⟨[(1, .ptr 1 0), (2, .ptr 2 0), (17, .bool true)], [(1, .box [.int .i64 a0, .list (.ints a1)]), (2, .box [.nil (.intss []), .nil (.ints []), .nil (.rats [])])]⟩) rfl ⟨hd2, (w_spec_IsValidGame a0 a1 v1 hk1), trivial⟩ rfl ?_
    refine Tri.run 2 [.g true] [.ownc 2 0 1100 22, .ownc 2 1 1101 3, .ownc 2 2 1102 29, .swap 1100 1000, .swap 1101 1001, .swap 1102 1002, .keep [2, 3] [2, 1000, 1001, 1002]] (K' := [.code [(1, 0), (1, 0)] 1, .code [] 2]) (σ' := ⟨[(2, .ptr 2 0), (3, .bool false)], [(2, .box [.sl 1000 0, .sl 1001 0, .sl 1002 0]), (1000, .arr 22 0 0 (.intss [])), (1001, .arr 3 0 0 (.ints [])), (1002, .arr 29 0 0 (.rats []))]⟩) rfl ⟨rfl, trivial⟩ rfl ?_
    have h := Option.some.inj h
    subst h
    exact Tri.ret rfl ⟨.inl rfl, rfl, rfl⟩
  · refine Tri.run 1 [.r ⟨[], .bool v1, []⟩, .g false] [.keep [1, 2, 17] [1, 2]] (K' := [.code [(1, 0)] 1, .code [] 2]) (σ' := ⟨[(1, .ptr 1 0), (2, .ptr 2 0), (17, .bool (decide (a0 < (2 : Int))))], [(1, .box [.int .i64 a0, .list (.ints a1)]), (2, .box [.nil (.intss []), .nil (.ints []), .nil (.rats [])])]⟩) rfl ⟨hd2, (w_spec_IsValidGame a0 a1 v1 hk1), trivial⟩ rfl ?_
    rcases bif_some h with ⟨hd3, h⟩ | ⟨hd3, h⟩
    · refine Tri.run 2 [.g true] [.ownc 2 0 1103 22, .ownc 2 1 1104 3, .ownc 2 2 1105 29, .swap 1103 1000, .swap 1104 1001, .swap 1105 1002, .keep [2, 3] [2, 1000, 1001, 1002]] (K' := [.code [(1, 0), (1, 0)] 1, .code [] 2]) (σ' := ⟨[(2, .ptr 2 0), (3, .bool false)], [(2, .box [.sl 1000 0, .sl 1001 0, .sl 1002 0]), (1000, .arr 22 0 0 (.intss [])), (1001, .arr 3 0 0 (.ints [])), (1002, .arr 29 0 0 (.rats []))]⟩) rfl ⟨hd3, trivial⟩ rfl ?_
      have h := Option.some.inj h
      subst h
      exact Tri.ret rfl ⟨.inl rfl, rfl, rfl⟩
    · refine Tri.run 3 [.g false] [.keep [1, 2, 4, 5] [1, 2, 4, 20]] (K' := [.code [(4, 0), (0, 0)] 0, .code [(4, 0)] 1, .code [] 5]) (σ' := ⟨[(1, .ptr 1 0), (2, .ptr 2 0), (4, .ptr 4 0), (5, .sl 20 0)], [(1, .box [.int .i64 a0, .list (.ints a1)]), (2, .box [.nil (.intss []), .nil (.ints []), .nil (.rats [])]), (4, .box [.nil (.intss []), .nil (.ints []), .nil (.rats [])]), (20, .arr 3 0 0 (.ints []))]⟩) rfl ⟨hd3, trivial⟩ rfl ?_
      refine Tri.run 1 [] [.ownc 2 0 1106 22, .ownc 2 1 1107 3, .ownc 2 2 1108 29, .ownc 4 0 1109 22, .ownc 4 1 1110 3, .ownc 4 2 1111 29, .keep [1, 2, 4, 5, 6] [1, 2, 4, 20, 1106, 1107, 1108, 1109, 1110, 1111]] (K' := [.code [(4, 0), (1, 0)] 0, .blk 0, .code [] 5]) (σ' := ⟨[(1, .ptr 1 0), (2, .ptr 2 0), (4, .ptr 4 0), (5, .sl 20 0), (6, .int .i64 (1 : Int))], [(1, .box [.int .i64 a0, .list (.ints a1)]), (2, .box [.sl 1106 0, .sl 1107 0, .sl 1108 0]), (4, .box [.sl 1109 0, .sl 1110 0, .sl 1111 0]), (20, .arr 3 0 0 (.ints [])), (1106, .arr 22 0 0 (.intss [])), (1107, .arr 3 0 0 (.ints [])), (1108, .arr 29 0 0 (.rats [])), (1109, .arr 22 0 0 (.intss [])), (1110, .arr 3 0 0 (.ints [])), (1111, .arr 29 0 0 (.rats []))]⟩) rfl trivial rfl ?_
      obtain ⟨x1, hk9, h⟩ := bind_some h
      refine Tri.loop (K1 := [.code [(4, 0), (1, 0), (0, 0)] 0]) (K2 := [.blk 0, .code [] 5]) (fun (v2, v3, v4) => ⟨[(1, .ptr 1 0), (2, .ptr 2 0), (4, .ptr 4 0), (5, .sl 20 0), (6, .int .i64 v2)], [(1, .box [.int .i64 a0, .list (.ints a1)]), (2, .box [.sl 1106 0, .sl 1107 0, .sl 1108 0]), (4, .box [.sl 1109 0, .sl 1110 0, .sl 1111 0]), (20, .arr 3 0 0 (.ints v3)), (1106, .arr 22 0 0 (.intss [])), (1107, .arr 3 0 0 (.ints [])), (1108, .arr 29 0 0 (.rats [])), (1109, .arr 22 0 0 (.intss [])), (1110, .arr 3 0 0 (.ints [])), (1111, .arr 29 0 0 (.rats v4))]⟩) (fun x e σ' => match x with | (v7, v8) => e = .exit 0 ∧ σ' = ⟨[(1, .ptr 1 0), (2, .ptr 2 0), (4, .ptr 4 0), (5, .sl 20 0)], [(1, .box [.int .i64 a0, .list (.ints a1)]), (2, .box [.sl 1106 0, .sl 1107 0, .sl 1108 0]), (4, .box [.sl 1109 0, .sl 1110 0, .sl 1111 0]), (20, .arr 3 0 0 (.ints v7)), (1106, .arr 22 0 0 (.intss [])), (1107, .arr 3 0 0 (.ints [])), (1108, .arr 29 0 0 (.rats [])), (1109, .arr 22 0 0 (.intss [])), (1110, .arr 3 0 0 (.ints [])), (1111, .arr 29 0 0 (.rats v8))]⟩) hk9 rfl rfl ?_ ?_
      · intro s x hs
        clear h
        have h := hs
        clear hs
        obtain ⟨v2, v3, v4⟩ := s
        refine Tri.run 1 [] [.keep [1, 2, 4, 5, 6, 26] [1, 2, 4, 20, 1106, 1107, 1108, 1109, 1110, 1111]] (K' := [.code [(4, 0), (1, 0), (0, 0), (0, 0)] 1, .code [(4, 0), (1, 0), (0, 0)] 1]) (σ' := ⟨[(1, .ptr 1 0), (2, .ptr 2 0), (4, .ptr 4 0), (5, .sl 20 0), (6, .int .i64 v2), (26, .bool (decide (v2 < (IntKind.i64.wrap ((a1.length : Int) - (1 : Int))))))], [(1, .box [.int .i64 a0, .list (.ints a1)]), (2, .box [.sl 1106 0, .sl 1107 0, .sl 1108 0]), (4, .box [.sl 1109 0, .sl 1110 0, .sl 1111 0]), (20, .arr 3 0 0 (.ints v3)), (1106, .arr 22 0 0 (.intss [])), (1107, .arr 3 0 0 (.ints [])), (1108, .arr 29 0 0 (.rats [])), (1109, .arr 22 0 0 (.intss [])), (1110, .arr 3 0 0 (.ints [])), (1111, .arr 29 0 0 (.rats v4))]⟩) rfl trivial rfl ?_
        rcases bif_some h with ⟨hd4, h⟩ | ⟨hd4, h⟩
        · obtain ⟨hg5, h⟩ := grd_some h
          obtain ⟨⟨v5, v6⟩, hk6, h⟩ := bind_some h
          obtain ⟨hg7, h⟩ := grd_some h
          obtain ⟨hg8, h⟩ := grd_some h
          refine Tri.run 3 [.g true, .r ⟨[], .agg [.int .i64 v5, .int .i64 v6], []⟩] [.keep [1, 2, 4, 5, 6] [1, 2, 4, 20, 1106, 1107, 1108, 1109, 1110, 1111]] (K' := [.code [(4, 0), (1, 0), (0, 0)] 2]) (σ' := ⟨[(1, .ptr 1 0), (2, .ptr 2 0), (4, .ptr 4 0), (5, .sl 20 1), (6, .int .i64 v2)], [(1, .box [.int .i64 a0, .list (.ints a1)]), (2, .box [.sl 1106 0, .sl 1107 0, .sl 1108 0]), (4, .box [.sl 1109 0, .sl 1110 0, .sl 1111 1]), (20, .arr 3 1 0 (.ints (v3 ++ [(1 : Int)]))), (1106, .arr 22 0 0 (.intss [])), (1107, .arr 3 0 0 (.ints [])), (1108, .arr 29 0 0 (.rats [])), (1109, .arr 22 0 0 (.intss [])), (1110, .arr 3 0 0 (.ints [])), (1111, .arr 29 1 0 (.rats (v4 ++ [⟨v5, v6⟩])))]⟩) rfl ⟨hg8, hg7, (w_spec_l3Int (IntKind.i64.wrap (0 - (a1.getD v2.toNat 0))) (v5, v6) hk6), hg5, hd4, trivial⟩ rfl ?_
          refine Tri.run 1 [] [.rever 20, .rever 1111, .keep [1, 2, 4, 5, 6] [1, 2, 4, 20, 1106, 1107, 1108, 1109, 1110, 1111]] (K' := []) (σ' := ⟨[(1, .ptr 1 0), (2, .ptr 2 0), (4, .ptr 4 0), (5, .sl 20 0), (6, .int .i64 (IntKind.i64.wrap (v2 + (1 : Int))))], [(1, .box [.int .i64 a0, .list (.ints a1)]), (2, .box [.sl 1106 0, .sl 1107 0, .sl 1108 0]), (4, .box [.sl 1109 0, .sl 1110 0, .sl 1111 0]), (20, .arr 3 0 0 (.ints (v3 ++ [(1 : Int)]))), (1106, .arr 22 0 0 (.intss [])), (1107, .arr 3 0 0 (.ints [])), (1108, .arr 29 0 0 (.rats [])), (1109, .arr 22 0 0 (.intss [])), (1110, .arr 3 0 0 (.ints [])), (1111, .arr 29 0 0 (.rats (v4 ++ [⟨v5, v6⟩])))]⟩) rfl trivial rfl ?_
          have h := Option.some.inj h
          subst h
          exact Tri.nil ⟨rfl, rfl⟩
        · refine Tri.run 1 [.g false] [.keep [1, 2, 4, 5] [1, 2, 4, 20, 1106, 1107, 1108, 1109, 1110, 1111]] (K' := [.code [(4, 0), (1, 0), (0, 0), (0, 0), (1, 1)] 0, .code [(4, 0), (1, 0), (0, 0)] 1]) (σ' := ⟨[(1, .ptr 1 0), (2, .ptr 2 0), (4, .ptr 4 0), (5, .sl 20 0)], [(1, .box [.int .i64 a0, .list (.ints a1)]), (2, .box [.sl 1106 0, .sl 1107 0, .sl 1108 0]), (4, .box [.sl 1109 0, .sl 1110 0, .sl 1111 0]), (20, .arr 3 0 0 (.ints v3)), (1106, .arr 22 0 0 (.intss [])), (1107, .arr 3 0 0 (.ints [])), (1108, .arr 29 0 0 (.rats [])), (1109, .arr 22 0 0 (.intss [])), (1110, .arr 3 0 0 (.ints [])), (1111, .arr 29 0 0 (.rats v4))]⟩) rfl ⟨hd4, trivial⟩ rfl ?_
          have h := Option.some.inj h
          subst h
          exact Tri.out 0 rfl ⟨nofun, rfl, rfl⟩
      · intro e σ' hne hq
        obtain ⟨v7, v8⟩ := x1
        obtain ⟨rfl, rfl⟩ := hq
        refine TriX.exit (K' := [.code [] 5]) rfl ?_
        obtain ⟨v9, hk10, h⟩ := bind_some h
        obtain ⟨⟨v10, v11⟩, hk11, h⟩ := bind_some h
        obtain ⟨hg12, h⟩ := grd_some h
        refine Tri.run 2 [.r ⟨[], .int .i64 v9, []⟩, .r ⟨[], .agg [.int .i64 v10, .int .i64 v11], []⟩] [.rever 1111, .keep [1, 2, 4, 5, 7] [1, 2, 4, 20, 1106, 1107, 1108, 1109, 1110, 1111]] (K' := [.code [(6, 0), (1, 0)] 0, .blk 2, .code [] 7]) (σ' := ⟨[(1, .ptr 1 0), (2, .ptr 2 0), (4, .ptr 4 0), (5, .sl 20 0), (7, .int .i64 (0 : Int))], [(1, .box [.int .i64 a0, .list (.ints a1)]), (2, .box [.sl 1106 0, .sl 1107 0, .sl 1108 0]), (4, .box [.sl 1109 0, .sl 1110 0, .sl 1111 0]), (20, .arr 3 0 0 (.ints v7)), (1106, .arr 22 0 0 (.intss [])), (1107, .arr 3 0 0 (.ints [])), (1108, .arr 29 0 0 (.rats [])), (1109, .arr 22 0 0 (.intss [])), (1110, .arr 3 0 0 (.ints [])), (1111, .arr 29 0 0 (.rats (v8 ++ [⟨v10, v11⟩])))]⟩) rfl ⟨hg12, (w_spec_l3Int v9 (v10, v11) hk11), (w_spec_GrandValue a0 a1 v9 hk10), trivial⟩ rfl ?_
        obtain ⟨x3, hk22, h⟩ := bind_some h
        refine Tri.loop (K1 := [.code [(6, 0), (1, 0), (0, 0)] 0]) (K2 := [.blk 2, .code [] 7]) (fun (v12, v13, v14) => ⟨[(1, .ptr 1 0), (2, .ptr 2 0), (4, .ptr 4 0), (5, .sl 20 0), (7, .int .i64 v12)], [(1, .box [.int .i64 a0, .list (.ints a1)]), (2, .box [.sl 1106 0, .sl 1107 0, .sl 1108 0]), (4, .box [.sl 1109 0, .sl 1110 0, .sl 1111 0]), (20, .arr 3 0 0 (.ints v7)), (1106, .arr 22 0 0 (.intss [])), (1107, .arr 3 0 0 (.ints [])), (1108, .arr 29 0 0 (.rats [])), (1109, .arr 22 0 0 (.intss v13)), (1110, .arr 3 0 0 (.ints v14)), (1111, .arr 29 0 0 (.rats (v8 ++ [⟨v10, v11⟩])))]⟩) (fun x e σ' => match x with | (v20, v21) => e = .exit 2 ∧ σ' = ⟨[(2, .ptr 2 0), (4, .ptr 4 0), (5, .sl 20 0)], [(2, .box [.sl 1106 0, .sl 1107 0, .sl 1108 0]), (4, .box [.sl 1109 0, .sl 1110 0, .sl 1111 0]), (20, .arr 3 0 0 (.ints v7)), (1106, .arr 22 0 0 (.intss [])), (1107, .arr 3 0 0 (.ints [])), (1108, .arr 29 0 0 (.rats [])), (1109, .arr 22 0 0 (.intss v20)), (1110, .arr 3 0 0 (.ints v21)), (1111, .arr 29 0 0 (.rats (v8 ++ [⟨v10, v11⟩])))]⟩) hk22 rfl rfl ?_ ?_
        · intro s x hs
          clear h
          have h := hs
          clear hs
          obtain ⟨v12, v13, v14⟩ := s
          refine Tri.run 1 [] [.keep [1, 2, 4, 5, 7, 55] [1, 2, 4, 20, 1106, 1107, 1108, 1109, 1110, 1111]] (K' := [.code [(6, 0), (1, 0), (0, 0), (0, 0)] 1, .code [(6, 0), (1, 0), (0, 0)] 1]) (σ' := ⟨[(1, .ptr 1 0), (2, .ptr 2 0), (4, .ptr 4 0), (5, .sl 20 0), (7, .int .i64 v12), (55, .bool (decide (v12 < a0)))], [(1, .box [.int .i64 a0, .list (.ints a1)]), (2, .box [.sl 1106 0, .sl 1107 0, .sl 1108 0]), (4, .box [.sl 1109 0, .sl 1110 0, .sl 1111 0]), (20, .arr 3 0 0 (.ints v7)), (1106, .arr 22 0 0 (.intss [])), (1107, .arr 3 0 0 (.ints [])), (1108, .arr 29 0 0 (.rats [])), (1109, .arr 22 0 0 (.intss v13)), (1110, .arr 3 0 0 (.ints v14)), (1111, .arr 29 0 0 (.rats (v8 ++ [⟨v10, v11⟩])))]⟩) rfl trivial rfl ?_
          rcases bif_some h with ⟨hd13, h⟩ | ⟨hd13, h⟩
          · refine Tri.run 3 [.g true] [.keep [1, 2, 4, 5, 7, 8, 9] [1, 2, 4, 20, 58, 1106, 1107, 1108, 1109, 1110, 1111]] (K' := [.code [(6, 0), (1, 0), (0, 0), (1, 0), (0, 0), (1, 0), (1, 0)] 0, .blk 4, .code [(6, 0), (1, 0), (0, 0), (1, 0), (0, 0)] 2, .blk 3, .code [(6, 0), (1, 0), (0, 0)] 2]) (σ' := ⟨[(1, .ptr 1 0), (2, .ptr 2 0), (4, .ptr 4 0), (5, .sl 20 0), (7, .int .i64 v12), (8, .sl 58 0), (9, .int .i64 (1 : Int))], [(1, .box [.int .i64 a0, .list (.ints a1)]), (2, .box [.sl 1106 0, .sl 1107 0, .sl 1108 0]), (4, .box [.sl 1109 0, .sl 1110 0, .sl 1111 0]), (20, .arr 3 0 0 (.ints v7)), (58, .arr 3 0 0 (.ints [])), (1106, .arr 22 0 0 (.intss [])), (1107, .arr 3 0 0 (.ints [])), (1108, .arr 29 0 0 (.rats [])), (1109, .arr 22 0 0 (.intss v13)), (1110, .arr 3 0 0 (.ints v14)), (1111, .arr 29 0 0 (.rats (v8 ++ [⟨v10, v11⟩])))]⟩) rfl ⟨hd13, trivial⟩ rfl ?_
            obtain ⟨v19, hk18, h⟩ := bind_some h
            refine Tri.loop (K1 := [.code [(6, 0), (1, 0), (0, 0), (1, 0), (0, 0), (1, 0), (1, 0), (0, 0)] 0]) (K2 := [.blk 4, .code [(6, 0), (1, 0), (0, 0), (1, 0), (0, 0)] 2, .blk 3, .code [(6, 0), (1, 0), (0, 0)] 2]) (fun (v15, v16) => ⟨[(1, .ptr 1 0), (2, .ptr 2 0), (4, .ptr 4 0), (5, .sl 20 0), (7, .int .i64 v12), (8, .sl 58 0), (9, .int .i64 v15)], [(1, .box [.int .i64 a0, .list (.ints a1)]), (2, .box [.sl 1106 0, .sl 1107 0, .sl 1108 0]), (4, .box [.sl 1109 0, .sl 1110 0, .sl 1111 0]), (20, .arr 3 0 0 (.ints v7)), (58, .arr 3 0 0 (.ints v16)), (1106, .arr 22 0 0 (.intss [])), (1107, .arr 3 0 0 (.ints [])), (1108, .arr 29 0 0 (.rats [])), (1109, .arr 22 0 0 (.intss v13)), (1110, .arr 3 0 0 (.ints v14)), (1111, .arr 29 0 0 (.rats (v8 ++ [⟨v10, v11⟩])))]⟩) (fun x e σ' => match x with | v19 => e = .exit 4 ∧ σ' = ⟨[(1, .ptr 1 0), (2, .ptr 2 0), (4, .ptr 4 0), (5, .sl 20 0), (7, .int .i64 v12), (8, .sl 58 0)], [(1, .box [.int .i64 a0, .list (.ints a1)]), (2, .box [.sl 1106 0, .sl 1107 0, .sl 1108 0]), (4, .box [.sl 1109 0, .sl 1110 0, .sl 1111 0]), (20, .arr 3 0 0 (.ints v7)), (58, .arr 3 0 0 (.ints v19)), (1106, .arr 22 0 0 (.intss [])), (1107, .arr 3 0 0 (.ints [])), (1108, .arr 29 0 0 (.rats [])), (1109, .arr 22 0 0 (.intss v13)), (1110, .arr 3 0 0 (.ints v14)), (1111, .arr 29 0 0 (.rats (v8 ++ [⟨v10, v11⟩])))]⟩) hk18 rfl rfl ?_ ?_
            · intro s x hs
              clear h
              have h := hs
              clear hs
              obtain ⟨v15, v16⟩ := s
              refine Tri.run 1 [] [.keep [1, 2, 4, 5, 7, 8, 9, 64] [1, 2, 4, 20, 58, 1106, 1107, 1108, 1109, 1110, 1111]] (K' := [.code [(6, 0), (1, 0), (0, 0), (1, 0), (0, 0), (1, 0), (1, 0), (0, 0), (0, 0)] 1, .code [(6, 0), (1, 0), (0, 0), (1, 0), (0, 0), (1, 0), (1, 0), (0, 0)] 1]) (σ' := ⟨[(1, .ptr 1 0), (2, .ptr 2 0), (4, .ptr 4 0), (5, .sl 20 0), (7, .int .i64 v12), (8, .sl 58 0), (9, .int .i64 v15), (64, .bool (decide (v15 < (IntKind.i64.wrap ((a1.length : Int) - (1 : Int))))))], [(1, .box [.int .i64 a0, .list (.ints a1)]), (2, .box [.sl 1106 0, .sl 1107 0, .sl 1108 0]), (4, .box [.sl 1109 0, .sl 1110 0, .sl 1111 0]), (20, .arr 3 0 0 (.ints v7)), (58, .arr 3 0 0 (.ints v16)), (1106, .arr 22 0 0 (.intss [])), (1107, .arr 3 0 0 (.ints [])), (1108, .arr 29 0 0 (.rats [])), (1109, .arr 22 0 0 (.intss v13)), (1110, .arr 3 0 0 (.ints v14)), (1111, .arr 29 0 0 (.rats (v8 ++ [⟨v10, v11⟩])))]⟩) rfl trivial rfl ?_
              rcases bif_some h with ⟨hd14, h⟩ | ⟨hd14, h⟩
              · obtain ⟨v17, hk15, h⟩ := bind_some h
                obtain ⟨v18, hk16, h⟩ := bind_some h
                obtain ⟨hg17, h⟩ := grd_some h
                refine Tri.run 3 [.g true, .r ⟨[], .bool v17, []⟩, .r ⟨[], .int .i64 v18, []⟩] [.rever 58, .keep [1, 2, 4, 5, 7, 8, 9] [1, 2, 4, 20, 58, 1106, 1107, 1108, 1109, 1110, 1111]] (K' := []) (σ' := ⟨[(1, .ptr 1 0), (2, .ptr 2 0), (4, .ptr 4 0), (5, .sl 20 0), (7, .int .i64 v12), (8, .sl 58 0), (9, .int .i64 (IntKind.i64.wrap (v15 + (1 : Int))))], [(1, .box [.int .i64 a0, .list (.ints a1)]), (2, .box [.sl 1106 0, .sl 1107 0, .sl 1108 0]), (4, .box [.sl 1109 0, .sl 1110 0, .sl 1111 0]), (20, .arr 3 0 0 (.ints v7)), (58, .arr 3 0 0 (.ints (v16 ++ [v18]))), (1106, .arr 22 0 0 (.intss [])), (1107, .arr 3 0 0 (.ints [])), (1108, .arr 29 0 0 (.rats [])), (1109, .arr 22 0 0 (.intss v13)), (1110, .arr 3 0 0 (.ints v14)), (1111, .arr 29 0 0 (.rats (v8 ++ [⟨v10, v11⟩])))]⟩) rfl ⟨hg17, (w_spec_l1Bit v17 v18 hk16), (w_spec_HasPlayer v15 v12 v17 hk15), hd14, trivial⟩ rfl ?_
                have h := Option.some.inj h
                subst h
                exact Tri.nil ⟨rfl, rfl⟩
              · refine Tri.run 1 [.g false] [.keep [1, 2, 4, 5, 7, 8] [1, 2, 4, 20, 58, 1106, 1107, 1108, 1109, 1110, 1111]] (K' := [.code [(6, 0), (1, 0), (0, 0), (1, 0), (0, 0), (1, 0), (1, 0), (0, 0), (0, 0), (1, 1)] 0, .code [(6, 0), (1, 0), (0, 0), (1, 0), (0, 0), (1, 0), (1, 0), (0, 0)] 1]) (σ' := ⟨[(1, .ptr 1 0), (2, .ptr 2 0), (4, .ptr 4 0), (5, .sl 20 0), (7, .int .i64 v12), (8, .sl 58 0)], [(1, .box [.int .i64 a0, .list (.ints a1)]), (2, .box [.sl 1106 0, .sl 1107 0, .sl 1108 0]), (4, .box [.sl 1109 0, .sl 1110 0, .sl 1111 0]), (20, .arr 3 0 0 (.ints v7)), (58, .arr 3 0 0 (.ints v16)), (1106, .arr 22 0 0 (.intss [])), (1107, .arr 3 0 0 (.ints [])), (1108, .arr 29 0 0 (.rats [])), (1109, .arr 22 0 0 (.intss v13)), (1110, .arr 3 0 0 (.ints v14)), (1111, .arr 29 0 0 (.rats (v8 ++ [⟨v10, v11⟩])))]⟩) rfl ⟨hd14, trivial⟩ rfl ?_
                have h := Option.some.inj h
                subst h
                exact Tri.out 4 rfl ⟨nofun, rfl, rfl⟩
            · intro e σ' hne hq
              obtain ⟨rfl, rfl⟩ := hq
              refine TriX.exit (K' := [.code [(6, 0), (1, 0), (0, 0), (1, 0), (0, 0)] 2, .blk 3, .code [(6, 0), (1, 0), (0, 0)] 2]) rfl ?_
              obtain ⟨hg19, h⟩ := grd_some h
              obtain ⟨hg20, h⟩ := grd_some h
              obtain ⟨hg21, h⟩ := grd_some h
              refine Tri.run 3 [] [.rever 1109, .rever 1110, .keep [1, 2, 4, 5, 7] [1, 2, 4, 20, 1106, 1107, 1108, 1109, 1110, 1111]] (K' := []) (σ' := ⟨[(1, .ptr 1 0), (2, .ptr 2 0), (4, .ptr 4 0), (5, .sl 20 0), (7, .int .i64 (IntKind.i64.wrap (v12 + (1 : Int))))], [(1, .box [.int .i64 a0, .list (.ints a1)]), (2, .box [.sl 1106 0, .sl 1107 0, .sl 1108 0]), (4, .box [.sl 1109 0, .sl 1110 0, .sl 1111 0]), (20, .arr 3 0 0 (.ints v7)), (1106, .arr 22 0 0 (.intss [])), (1107, .arr 3 0 0 (.ints [])), (1108, .arr 29 0 0 (.rats [])), (1109, .arr 22 0 0 (.intss (v13 ++ [v19 ++ [(-1 : Int)]]))), (1110, .arr 3 0 0 (.ints (v14 ++ [(0 : Int)]))), (1111, .arr 29 0 0 (.rats (v8 ++ [⟨v10, v11⟩])))]⟩) rfl ⟨hg21, hg20, hg19, trivial⟩ rfl ?_
              have h := Option.some.inj h
              subst h
              exact Tri.nil ⟨rfl, rfl⟩
          · refine Tri.run 1 [.g false] [.keep [2, 4, 5] [2, 4, 20, 1106, 1107, 1108, 1109, 1110, 1111]] (K' := [.code [(6, 0), (1, 0), (0, 0), (0, 0), (1, 1)] 0, .code [(6, 0), (1, 0), (0, 0)] 1]) (σ' := ⟨[(2, .ptr 2 0), (4, .ptr 4 0), (5, .sl 20 0)], [(2, .box [.sl 1106 0, .sl 1107 0, .sl 1108 0]), (4, .box [.sl 1109 0, .sl 1110 0, .sl 1111 0]), (20, .arr 3 0 0 (.ints v7)), (1106, .arr 22 0 0 (.intss [])), (1107, .arr 3 0 0 (.ints [])), (1108, .arr 29 0 0 (.rats [])), (1109, .arr 22 0 0 (.intss v13)), (1110, .arr 3 0 0 (.ints v14)), (1111, .arr 29 0 0 (.rats (v8 ++ [⟨v10, v11⟩])))]⟩) rfl ⟨hd13, trivial⟩ rfl ?_
            have h := Option.some.inj h
            subst h
            exact Tri.out 2 rfl ⟨nofun, rfl, rfl⟩
        · intro e σ' hne hq
          obtain ⟨v20, v21⟩ := x3
          obtain ⟨rfl, rfl⟩ := hq
          refine TriX.exit (K' := [.code [] 7]) rfl ?_
          obtain ⟨hg23, h⟩ := grd_some h
          obtain ⟨hg24, h⟩ := grd_some h
          obtain ⟨hg25, h⟩ := grd_some h
          refine Tri.run 3 [] [.rever 1109, .rever 1110, .swap 1109 1000, .swap 1110 1001, .swap 1111 1002, .keep [2, 3] [2, 1000, 1001, 1002]] (K' := [.code [] 10]) (σ' := ⟨[(2, .ptr 2 0), (3, .bool true)], [(2, .box [.sl 1000 0, .sl 1001 0, .sl 1002 0]), (1000, .arr 22 0 0 (.intss (v20 ++ [v7 ++ [(0 : Int)]]))), (1001, .arr 3 0 0 (.ints (v21 ++ [(1 : Int)]))), (1002, .arr 29 0 0 (.rats (v8 ++ [⟨v10, v11⟩])))]⟩) rfl ⟨hg25, hg24, hg23, trivial⟩ rfl ?_
          have h := Option.some.inj h
          subst h
          exact Tri.ret rfl ⟨.inl rfl, rfl, rfl⟩
/-! impl.within -/
noncomputable def E73_impl_within : Env := ⟨Try.prog, tys, (Try.f73.body).getD .skip, 15, tysOk, mixedOk⟩
abbrev q_impl_within (r : Bool) (σ' : ASt) : Prop := resAV E73_impl_within.T σ' Try.f73.results.toList = some (.bool r) ∧ keepO σ'.ob (namesO []) = []
noncomputable def m_impl_within (a0 : Int) (a1 : Int) (a2 : Int) : Option Bool :=
bif decide (a0 ≥ a1) then
(some (decide (a0 ≤ a2)))
else
(some false)
theorem w_impl_within (a0 : Int) (a1 : Int) (a2 : Int) (r : Bool) (h : m_impl_within a0 a1 a2 = some r) : AM.Spec Try.prog 73 [.int .i64 a0, .int .i64 a1, .int .i64 a2] [] (.bool r) [] := by
  refine spec_of (E := E73_impl_within) Try.func73 rfl rfl rfl rfl ?_
  refine Tri.run 1 [] [.keep [0, 1, 2] []] (K' := [.code [(1, 0)] 0, .code [] 2]) (σ' := ⟨[(0, .int .i64 a0), (1, .int .i64 a1), (2, .int .i64 a2)], []⟩) rfl trivial rfl ?_
  rcases bif_some h with ⟨hd1, h⟩ | ⟨hd1, h⟩
  · refine Tri.run 1 [.g true] [.keep [6] []] (K' := [.code [] 2]) (σ' := ⟨[(6, .bool (decide (a0 ≤ a2)))], []⟩) rfl ⟨hd1, trivial⟩ rfl ?_
    have h := Option.some.inj h
    subst h
    exact Tri.ret rfl ⟨.inl rfl, rfl, rfl⟩
  · refine Tri.run 1 [.g false] [.keep [6] []] (K' := [.code [] 2]) (σ' := ⟨[(6, .bool false)], []⟩) rfl ⟨hd1, trivial⟩ rfl ?_
    have h := Option.some.inj h
    subst h
    exact Tri.ret rfl ⟨.inl rfl, rfl, rfl⟩
/-! impl.IsValidGame$1 -/
noncomputable def E134_impl_IsValidGame_1 : Env := ⟨Try.prog, tys, (Try.f134.body).getD .skip, 6, tysOk, mixedOk⟩
abbrev q_impl_IsValidGame_1 (r : Bool) (σ' : ASt) : Prop := resAV E134_impl_IsValidGame_1.T σ' Try.f134.results.toList = some (.bool r) ∧ keepO σ'.ob (namesO []) = []
noncomputable def m_impl_IsValidGame_1 (a0 : Int) : Option Bool :=
(m_impl_within a0 (-500 : Int) (500 : Int)).bind fun v1 =>
some (!v1)
theorem w_impl_IsValidGame_1 (a0 : Int) (r : Bool) (h : m_impl_IsValidGame_1 a0 = some r) : AM.Spec Try.prog 134 [.int .i64 a0] [] (.bool r) [] := by
  refine spec_of (E := E134_impl_IsValidGame_1) Try.func134 rfl rfl rfl rfl ?_
  refine Tri.run 1 [] [.keep [0] []] (K' := [.code [(1, 0)] 0, .code [] 2]) (σ' := ⟨[(0, .int .i64 a0)], []⟩) rfl trivial rfl ?_
  obtain ⟨v1, hk1, h⟩ := bind_some h
  refine Tri.run 1 [.r ⟨[], .bool v1, []⟩] [.keep [2] []] (K' := [.code [] 2]) (σ' := ⟨[(2, .bool (!v1))], []⟩) rfl ⟨(w_impl_within a0 (-500 : Int) (500 : Int) v1 hk1), trivial⟩ rfl ?_
  have h := Option.some.inj h
  subst h
  exact Tri.ret rfl ⟨.inl rfl, rfl, rfl⟩
/-! slices.IndexFunc(()int,int) -/
noncomputable def E159_slices_IndexFunc_int_int : Env := ⟨Try.prog, tys, (Try.f159.body).getD .skip, 19, tysOk, mixedOk⟩
abbrev q_slices_IndexFunc_int_int_impl_IsValidGame_1 (r : Int) (σ' : ASt) : Prop := resAV E159_slices_IndexFunc_int_int.T σ' Try.f159.results.toList = some (.int .i64 r) ∧ keepO σ'.ob (namesO []) = []
noncomputable def l_slices_IndexFunc_int_int_impl_IsValidGame_1_0 (a0 : List Int) (v1 : Int) : Option (Int ⊕ (Unit ⊕ Int)) :=
bif decide (v1 < (a0.length : Int)) then
(grd ((0 : Int) ≤ v1 ∧ v1 < (a0.length : Int)) <|
(m_impl_IsValidGame_1 (a0.getD v1.toNat 0)).bind fun v2 =>
bif v2 then
(some (.inr (.inr v1)))
else
(some (.inl (IntKind.i64.wrap (v1 + (1 : Int))))))
else
(some (.inr (.inl ())))
noncomputable def m_slices_IndexFunc_int_int_impl_IsValidGame_1 (a0 : List Int) : Option Int :=
(iter (l_slices_IndexFunc_int_int_impl_IsValidGame_1_0 a0) (0 : Int)).bind fun
| (.inl _) => (
some (-1 : Int))
| (.inr r) => some r
theorem w_slices_IndexFunc_int_int_impl_IsValidGame_1 (a0 : List Int) (r : Int) (h : m_slices_IndexFunc_int_int_impl_IsValidGame_1 a0 = some r) : AM.Spec Try.prog 159 [.list (.ints a0), .func 134 [] []] [] (.int .i64 r) [] := by
  refine spec_of (E := E159_slices_IndexFunc_int_int) Try.func159 rfl rfl rfl rfl ?_
  refine Tri.run 2 [] [.keep [0, 1, 7, 8] []] (K' := [.code [(1, 0), (1, 0)] 0, .blk 0, .code [] 2]) (σ' := ⟨[(0, .list (.ints a0)), (1, .func 134 [] []), (7, .int .i64 (a0.length : Int)), (8, .int .i64 (0 : Int))], []⟩) rfl trivial rfl ?_
  obtain ⟨x1, hk5, h⟩ := bind_some h
  refine Tri.loop (K1 := [.code [(1, 0), (1, 0), (0, 0)] 0]) (K2 := [.blk 0, .code [] 2]) (fun v1 => ⟨[(0, .list (.ints a0)), (1, .func 134 [] []), (7, .int .i64 (a0.length : Int)), (8, .int .i64 v1)], []⟩) (fun x e σ' => match x with | (.inl _) => e = .exit 0 ∧ σ' = ⟨[], []⟩ | (.inr r) => e = .ret ∧ q_slices_IndexFunc_int_int_impl_IsValidGame_1 r σ') hk5 rfl rfl ?_ ?_
  · intro v1 x hs
    clear h
    have h := hs
    clear hs
    refine Tri.run 1 [] [.keep [0, 1, 7, 8, 9] []] (K' := [.code [(1, 0), (1, 0), (0, 0), (1, 0)] 0, .code [(1, 0), (1, 0), (0, 0)] 2]) (σ' := ⟨[(0, .list (.ints a0)), (1, .func 134 [] []), (7, .int .i64 (a0.length : Int)), (8, .int .i64 v1), (9, .bool (decide (v1 < (a0.length : Int))))], []⟩) rfl trivial rfl ?_
    rcases bif_some h with ⟨hd1, h⟩ | ⟨hd1, h⟩
    · refine Tri.run 2 [.g true] [.keep [0, 1, 5, 7, 8] []] (K' := [.code [(1, 0), (1, 0), (0, 0), (2, 0), (0, 0), (1, 0)] 0, .code [(1, 0), (1, 0), (0, 0), (2, 0), (0, 0)] 2, .blk 1, .code [(1, 0), (1, 0), (0, 0)] 3]) (σ' := ⟨[(0, .list (.ints a0)), (1, .func 134 [] []), (5, .int .i64 v1), (7, .int .i64 (a0.length : Int)), (8, .int .i64 v1)], []⟩) rfl ⟨hd1, trivial⟩ rfl ?_
      obtain ⟨hg2, h⟩ := grd_some h
      obtain ⟨v2, hk3, h⟩ := bind_some h
      refine Tri.run 1 [.r ⟨[], .bool v2, []⟩] [.keep [0, 1, 5, 7, 8, 16] []] (K' := [.code [(1, 0), (1, 0), (0, 0), (2, 0), (0, 0)] 2, .blk 1, .code [(1, 0), (1, 0), (0, 0)] 3]) (σ' := ⟨[(0, .list (.ints a0)), (1, .func 134 [] []), (5, .int .i64 v1), (7, .int .i64 (a0.length : Int)), (8, .int .i64 v1), (16, .bool v2)], []⟩) rfl ⟨(w_impl_IsValidGame_1 (a0.getD v1.toNat 0) v2 hk3), hg2, trivial⟩ rfl ?_
      rcases bif_some h with ⟨hd4, h⟩ | ⟨hd4, h⟩
      · refine Tri.run 2 [.g true] [.keep [4] []] (K' := [.code [(1, 0), (1, 0), (0, 0), (2, 0), (0, 0), (2, 0)] 1, .blk 1, .code [(1, 0), (1, 0), (0, 0)] 3]) (σ' := ⟨[(4, .int .i64 v1)], []⟩) rfl ⟨hd4, trivial⟩ rfl ?_
        have h := Option.some.inj h
        subst h
        exact Tri.ret rfl ⟨nofun, rfl, rfl, rfl⟩
      · refine Tri.run 2 [.g false] [.keep [0, 1, 7, 8] []] (K' := []) (σ' := ⟨[(0, .list (.ints a0)), (1, .func 134 [] []), (7, .int .i64 (a0.length : Int)), (8, .int .i64 (IntKind.i64.wrap (v1 + (1 : Int))))], []⟩) rfl ⟨hd4, trivial⟩ rfl ?_
        have h := Option.some.inj h
        subst h
        exact Tri.nil ⟨rfl, rfl⟩
    · refine Tri.run 1 [.g false] [.keep [] []] (K' := [.code [(1, 0), (1, 0), (0, 0), (1, 0), (0, 1)] 0, .code [(1, 0), (1, 0), (0, 0)] 2]) (σ' := ⟨[], []⟩) rfl ⟨hd1, trivial⟩ rfl ?_
      have h := Option.some.inj h
      subst h
      exact Tri.out 0 rfl ⟨nofun, rfl, rfl⟩
  · intro e σ' hne hq
    rcases x1 with _ | r
    · obtain ⟨rfl, rfl⟩ := hq
      refine TriX.exit (K' := [.code [] 2]) rfl ?_
      refine Tri.run 1 [] [.keep [4] []] (K' := [.code [] 3]) (σ' := ⟨[(4, .int .i64 (-1 : Int))], []⟩) rfl trivial rfl ?_
      have h := Option.some.inj h
      subst h
      exact Tri.ret rfl ⟨.inl rfl, rfl, rfl⟩
    · obtain ⟨rfl, hq⟩ := hq
      have h := Option.some.inj h
      subst h
      exact TriX.ret ⟨.inl rfl, hq⟩
/-! slices.ContainsFunc(()int,int) -/
noncomputable def E133_slices_ContainsFunc_int_int : Env := ⟨Try.prog, tys, (Try.f133.body).getD .skip, 9, tysOk, mixedOk⟩
abbrev q_slices_ContainsFunc_int_int_impl_IsValidGame_1 (r : Bool) (σ' : ASt) : Prop := resAV E133_slices_ContainsFunc_int_int.T σ' Try.f133.results.toList = some (.bool r) ∧ keepO σ'.ob (namesO []) = []
noncomputable def m_slices_ContainsFunc_int_int_impl_IsValidGame_1 (a0 : List Int) : Option Bool :=
(m_slices_IndexFunc_int_int_impl_IsValidGame_1 a0).bind fun v1 =>
some (decide (v1 ≥ (0 : Int)))
theorem w_slices_ContainsFunc_int_int_impl_IsValidGame_1 (a0 : List Int) (r : Bool) (h : m_slices_ContainsFunc_int_int_impl_IsValidGame_1 a0 = some r) : AM.Spec Try.prog 133 [.list (.ints a0), .func 134 [] []] [] (.bool r) [] := by
  refine spec_of (E := E133_slices_ContainsFunc_int_int) Try.func133 rfl rfl rfl rfl ?_
  refine Tri.run 1 [] [.keep [0, 1] []] (K' := [.code [(1, 0)] 0, .code [] 2]) (σ' := ⟨[(0, .list (.ints a0)), (1, .func 134 [] [])], []⟩) rfl trivial rfl ?_
  obtain ⟨v1, hk1, h⟩ := bind_some h
  refine Tri.run 1 [.r ⟨[], .int .i64 v1, []⟩] [.keep [4] []] (K' := [.code [] 2]) (σ' := ⟨[(4, .bool (decide (v1 ≥ (0 : Int))))], []⟩) rfl ⟨(w_slices_IndexFunc_int_int_impl_IsValidGame_1 a0 v1 hk1), trivial⟩ rfl ?_
  have h := Option.some.inj h
  subst h
  exact Tri.ret rfl ⟨.inl rfl, rfl, rfl⟩
/-! impl.IsValidGame -/
noncomputable def E72_impl_IsValidGame : Env := ⟨Try.prog, tys, (Try.f72.body).getD .skip, 27, tysOk, mixedOk⟩
abbrev q_impl_IsValidGame (r : Bool) (σ' : ASt) : Prop := resAV E72_impl_IsValidGame.T σ' Try.f72.results.toList = some (.bool r) ∧ keepO σ'.ob (namesO []) = []
noncomputable def m_impl_IsValidGame (a0 : Int) (a1 : List Int) : Option Bool :=
(m_impl_within a0 (1 : Int) (5 : Int)).bind fun v1 =>
bif !v1 then
(some false)
else
(grd ((0 : Int) ≤ a0) <|
bif (a1.length : Int) != (IntKind.i64.wrap ((1 : Int) * 2 ^ (min a0.toNat 64))) then
(some false)
else
(grd ((0 : Int) ≤ (0 : Int) ∧ (0 : Int) < (a1.length : Int)) <|
bif (a1.getD ((0 : Int).toNat) 0) != (0 : Int) then
(some false)
else
((m_slices_ContainsFunc_int_int_impl_IsValidGame_1 a1).bind fun v2 =>
some (!v2))))
theorem w_impl_IsValidGame (a0 : Int) (a1 : List Int) (r : Bool) (h : m_impl_IsValidGame a0 a1 = some r) : AM.Spec Try.prog 72 [.agg [.int .i64 a0, .list (.ints a1)]] [] (.bool r) [] := by
  refine spec_of (E := E72_impl_IsValidGame) Try.func72 rfl rfl rfl rfl ?_
  refine Tri.run 1 [] [.keep [1] [1]] (K' := [.code [(1, 0), (0, 0)] 0, .code [(1, 0)] 1, .code [] 2]) (σ' := ⟨[(1, .ptr 1 0)], [(1, .box [.int .i64 a0, .list (.ints a1)])]⟩) rfl trivial rfl ?_
  obtain ⟨v1, hk1, h⟩ := bind_some h
  rcases bif_some h with ⟨hd2, h⟩ | ⟨hd2, h⟩
  · refine Tri.run 1 [.r ⟨[], .bool v1, []⟩, .g true, .g true] [.keep [1, 22] [1]] (K' := [.code [(1, 0)] 1, .code [] 2]) (σ' := ⟨[(1, .ptr 1 0), (22, .bool true)], [(1, .box [.int .i64 a0, .list (.ints a1)])]⟩) rfl ⟨rfl, hd2, (w_impl_within a0 (1 : Int) (5 : Int) v1 hk1), trivial⟩ rfl ?_
    refine Tri.run 2 [.g true] [.keep [2] []] (K' := [.code [(1, 0), (1, 0)] 1, .code [] 2]) (σ' := ⟨[(2, .bool false)], []⟩) rfl ⟨rfl, trivial⟩ rfl ?_
    have h := Option.some.inj h
    subst h
    exact Tri.ret rfl ⟨.inl rfl, rfl, rfl⟩
  · obtain ⟨hg3, h⟩ := grd_some h
    rcases bif_some h with ⟨hd4, h⟩ | ⟨hd4, h⟩
    · refine Tri.run 1 [.r ⟨[], .bool v1, []⟩, .g false, .g true] [.keep [1, 22] [1]] (K' := [.code [(1, 0)] 1, .code [] 2]) (σ' := ⟨[(1, .ptr 1 0), (22, .bool true)], [(1, .box [.int .i64 a0, .list (.ints a1)])]⟩) rfl ⟨hd4, hg3, hd2, (w_impl_within a0 (1 : Int) (5 : Int) v1 hk1), trivial⟩ rfl ?_
      refine Tri.run 2 [.g true] [.keep [2] []] (K' := [.code [(1, 0), (1, 0)] 1, .code [] 2]) (σ' := ⟨[(2, .bool false)], []⟩) rfl ⟨rfl, trivial⟩ rfl ?_
      have h := Option.some.inj h
      subst h
      exact Tri.ret rfl ⟨.inl rfl, rfl, rfl⟩
    · obtain ⟨hg5, h⟩ := grd_some h
      refine Tri.run 1 [.r ⟨[], .bool v1, []⟩, .g false, .g false] [.keep [1, 22] [1]] (K' := [.code [(1, 0)] 1, .code [] 2]) (σ' := ⟨[(1, .ptr 1 0), (22, .bool ((a1.getD ((0 : Int).toNat) 0) != (0 : Int)))], [(1, .box [.int .i64 a0, .list (.ints a1)])]⟩) rfl ⟨hg5, hd4, hg3, hd2, (w_impl_within a0 (1 : Int) (5 : Int) v1 hk1), trivial⟩ rfl ?_
      rcases bif_some h with ⟨hd6, h⟩ | ⟨hd6, h⟩
      · refine Tri.run 2 [.g true] [.keep [2] []] (K' := [.code [(1, 0), (1, 0)] 1, .code [] 2]) (σ' := ⟨[(2, .bool false)], []⟩) rfl ⟨hd6, trivial⟩ rfl ?_
        have h := Option.some.inj h
        subst h
        exact Tri.ret rfl ⟨.inl rfl, rfl, rfl⟩
      · obtain ⟨v2, hk7, h⟩ := bind_some h
        refine Tri.run 2 [.g false, .r ⟨[], .bool v2, []⟩] [.keep [2] []] (K' := [.code [] 3]) (σ' := ⟨[(2, .bool (!v2))], []⟩) rfl ⟨(w_slices_ContainsFunc_int_int_impl_IsValidGame_1 a1 v2 hk7), hd6, trivial⟩ rfl ?_
        have h := Option.some.inj h
        subst h
        exact Tri.ret rfl ⟨.inl rfl, rfl, rfl⟩
/-! impl.coalitions -/
noncomputable def E107_impl_coalitions : Env := ⟨Try.prog, tys, (Try.f107.body).getD .skip, 19, tysOk, mixedOk⟩
abbrev q_impl_coalitions (r : List Int) (σ' : ASt) : Prop := resAV E107_impl_coalitions.T σ' Try.f107.results.toList = some (.sl 1000 0) ∧ keepO σ'.ob (namesO [(1000, .arr 3 0 0 (.ints r))]) = [(1000, .arr 3 0 0 (.ints r))]
noncomputable def l_impl_coalitions_0 (a1 : Int) : (Int × (List Int)) → Option ((Int × (List Int)) ⊕ ((List Int)))
  | (v1, v2) => (
bif decide (v1 ≤ a1) then
(grd (v2.length + ([v1] : List Int).length ≤ room) <|
some (.inl (IntKind.i64.wrap (v1 + (1 : Int)), v2 ++ [v1])))
else
(some (.inr v2)))
noncomputable def m_impl_coalitions (a0 : Int) (a1 : Int) : Option (List Int) :=
(iter (l_impl_coalitions_0 a1) (a0, [])).bind fun
| v3 => (
some v3)
theorem w_impl_coalitions (a0 : Int) (a1 : Int) (r : List Int) (h : m_impl_coalitions a0 a1 = some r) : AM.Spec Try.prog 107 [.int .i64 a0, .int .i64 a1] [] (.sl 1000 0) [(1000, .arr 3 0 0 (.ints r))] := by
  refine spec_of (E := E107_impl_coalitions) Try.func107 rfl rfl rfl rfl ?_
  refine Tri.run 3 [] [.keep [1, 5, 6] [7]] (K' := [.code [(2, 0), (1, 0)] 0, .blk 0, .code [] 3]) (σ' := ⟨[(1, .int .i64 a1), (5, .sl 7 0), (6, .int .i64 a0)], [(7, .arr 3 0 0 (.ints []))]⟩) rfl trivial rfl ?_
  obtain ⟨v3, hk3, h⟩ := bind_some h
  refine Tri.loop (K1 := [.code [(2, 0), (1, 0), (0, 0)] 0]) (K2 := [.blk 0, .code [] 3]) (fun (v1, v2) => ⟨[(1, .int .i64 a1), (5, .sl 7 0), (6, .int .i64 v1)], [(7, .arr 3 0 0 (.ints v2))]⟩) (fun x e σ' => match x with | v3 => e = .exit 0 ∧ σ' = ⟨[(5, .sl 7 0)], [(7, .arr 3 0 0 (.ints v3))]⟩) hk3 rfl rfl ?_ ?_
  · intro s x hs
    clear h
    have h := hs
    clear hs
    obtain ⟨v1, v2⟩ := s
    refine Tri.run 1 [] [.keep [1, 5, 6, 11] [7]] (K' := [.code [(2, 0), (1, 0), (0, 0), (0, 0)] 1, .code [(2, 0), (1, 0), (0, 0)] 1]) (σ' := ⟨[(1, .int .i64 a1), (5, .sl 7 0), (6, .int .i64 v1), (11, .bool (decide (v1 ≤ a1)))], [(7, .arr 3 0 0 (.ints v2))]⟩) rfl trivial rfl ?_
    rcases bif_some h with ⟨hd1, h⟩ | ⟨hd1, h⟩
    · obtain ⟨hg2, h⟩ := grd_some h
      refine Tri.run 3 [.g true] [.rever 7, .keep [1, 5, 6] [7]] (K' := []) (σ' := ⟨[(1, .int .i64 a1), (5, .sl 7 0), (6, .int .i64 (IntKind.i64.wrap (v1 + (1 : Int))))], [(7, .arr 3 0 0 (.ints (v2 ++ [v1])))]⟩) rfl ⟨hg2, hd1, trivial⟩ rfl ?_
      have h := Option.some.inj h
      subst h
      exact Tri.nil ⟨rfl, rfl⟩
    · refine Tri.run 1 [.g false] [.keep [5] [7]] (K' := [.code [(2, 0), (1, 0), (0, 0), (0, 0), (1, 1)] 0, .code [(2, 0), (1, 0), (0, 0)] 1]) (σ' := ⟨[(5, .sl 7 0)], [(7, .arr 3 0 0 (.ints v2))]⟩) rfl ⟨hd1, trivial⟩ rfl ?_
      have h := Option.some.inj h
      subst h
      exact Tri.out 0 rfl ⟨nofun, rfl, rfl⟩
  · intro e σ' hne hq
    obtain ⟨rfl, rfl⟩ := hq
    refine TriX.exit (K' := [.code [] 3]) rfl ?_
    refine Tri.run 1 [] [.swap 7 1000, .keep [4] [1000]] (K' := [.code [] 4]) (σ' := ⟨[(4, .sl 1000 0)], [(1000, .arr 3 0 0 (.ints v3))]⟩) rfl trivial rfl ?_
    have h := Option.some.inj h
    subst h
    exact Tri.ret rfl ⟨.inl rfl, rfl, rfl⟩
/-! impl.HasPlayer -/
noncomputable def E139_impl_HasPlayer : Env := ⟨Try.prog, tys, (Try.f139.body).getD .skip, 18, tysOk, mixedOk⟩
abbrev q_impl_HasPlayer (r : Bool) (σ' : ASt) : Prop := resAV E139_impl_HasPlayer.T σ' Try.f139.results.toList = some (.bool r) ∧ keepO σ'.ob (namesO []) = []
noncomputable def m_impl_HasPlayer (a0 : Int) (a1 : Int) : Option Bool :=
bif decide (a0 ≥ (0 : Int)) then
((m_impl_within a1 (0 : Int) (4 : Int)).bind fun v1 =>
bif v1 then
(grd ((0 : Int) ≤ a1) <|
some ((bitsOf .and .i64 (a0.fdiv (2 ^ (min a1.toNat 64))) (1 : Int)) == (1 : Int)))
else
(some false))
else
(some false)
theorem w_impl_HasPlayer (a0 : Int) (a1 : Int) (r : Bool) (h : m_impl_HasPlayer a0 a1 = some r) : AM.Spec Try.prog 139 [.int .i64 a0, .int .i64 a1] [] (.bool r) [] := by
  refine spec_of (E := E139_impl_HasPlayer) Try.func139 rfl rfl rfl rfl ?_
  refine Tri.run 1 [] [.keep [0, 1] []] (K' := [.code [(1, 0)] 0, .code [] 2]) (σ' := ⟨[(0, .int .i64 a0), (1, .int .i64 a1)], []⟩) rfl trivial rfl ?_
  rcases bif_some h with ⟨hd1, h⟩ | ⟨hd1, h⟩
  · obtain ⟨v1, hk2, h⟩ := bind_some h
    rcases bif_some h with ⟨hd3, h⟩ | ⟨hd3, h⟩
    · obtain ⟨hg4, h⟩ := grd_some h
      refine Tri.run 1 [.g true, .r ⟨[], .bool v1, []⟩, .g true] [.keep [4] []] (K' := [.code [] 2]) (σ' := ⟨[(4, .bool ((bitsOf .and .i64 (a0.fdiv (2 ^ (min a1.toNat 64))) (1 : Int)) == (1 : Int)))], []⟩) rfl ⟨hg4, hd3, (w_impl_within a1 (0 : Int) (4 : Int) v1 hk2), hd1, trivial⟩ rfl ?_
      have h := Option.some.inj h
      subst h
      exact Tri.ret rfl ⟨.inl rfl, rfl, rfl⟩
    · refine Tri.run 1 [.g true, .r ⟨[], .bool v1, []⟩, .g false] [.keep [4] []] (K' := [.code [] 2]) (σ' := ⟨[(4, .bool false)], []⟩) rfl ⟨hd3, (w_impl_within a1 (0 : Int) (4 : Int) v1 hk2), hd1, trivial⟩ rfl ?_
      have h := Option.some.inj h
      subst h
      exact Tri.ret rfl ⟨.inl rfl, rfl, rfl⟩
  · refine Tri.run 1 [.g false, .g false] [.keep [4] []] (K' := [.code [] 2]) (σ' := ⟨[(4, .bool false)], []⟩) rfl ⟨rfl, hd1, trivial⟩ rfl ?_
    have h := Option.some.inj h
    subst h
    exact Tri.ret rfl ⟨.inl rfl, rfl, rfl⟩
/-! impl.members -/
noncomputable def E106_impl_members : Env := ⟨Try.prog, tys, (Try.f106.body).getD .skip, 37, tysOk, mixedOk⟩
abbrev q_impl_members (r : List (List Int)) (σ' : ASt) : Prop := resAV E106_impl_members.T σ' Try.f106.results.toList = some (.sl 1000 0) ∧ keepO σ'.ob (namesO [(1000, .arr 22 0 0 (.intss r))]) = [(1000, .arr 22 0 0 (.intss r))]
noncomputable def l_impl_members_1 (a1 : List Int) (v1 : Int) : (Int × (List Int)) → Option ((Int × (List Int)) ⊕ ((List Int)))
  | (v3, v4) => (
bif decide (v3 < (a1.length : Int)) then
(grd ((0 : Int) ≤ v3 ∧ v3 < (a1.length : Int)) <|
(m_impl_HasPlayer (a1.getD v3.toNat 0) v1).bind fun v5 =>
bif v5 then
(grd (v4.length + ([(1 : Int)] : List Int).length ≤ room) <|
some (.inl (IntKind.i64.wrap (v3 + (1 : Int)), v4 ++ [(1 : Int)])))
else
(grd (v4.length + ([(0 : Int)] : List Int).length ≤ room) <|
some (.inl (IntKind.i64.wrap (v3 + (1 : Int)), v4 ++ [(0 : Int)]))))
else
(some (.inr v4)))
noncomputable def l_impl_members_0 (a0 : Int) (a1 : List Int) : (Int × (List (List Int))) → Option ((Int × (List (List Int))) ⊕ ((List (List Int))))
  | (v1, v2) => (
bif decide (v1 < a0) then
((iter (l_impl_members_1 a1 v1) ((0 : Int), [])).bind fun
| v6 => (
grd (v2.length + ([v6] : List (List Int)).length ≤ room) <|
some (.inl (IntKind.i64.wrap (v1 + (1 : Int)), v2 ++ [v6]))))
else
(some (.inr v2)))
noncomputable def m_impl_members (a0 : Int) (a1 : List Int) : Option (List (List Int)) :=
(iter (l_impl_members_0 a0 a1) ((0 : Int), [])).bind fun
| v7 => (
some v7)
theorem w_impl_members (a0 : Int) (a1 : List Int) (r : List (List Int)) (h : m_impl_members a0 a1 = some r) : AM.Spec Try.prog 106 [.int .i64 a0, .list (.ints a1)] [] (.sl 1000 0) [(1000, .arr 22 0 0 (.intss r))] := by
  refine spec_of (E := E106_impl_members) Try.func106 rfl rfl rfl rfl ?_
  refine Tri.run 3 [] [.keep [1, 5, 12, 13] [11]] (K' := [.code [(2, 0), (1, 0)] 0, .blk 0, .code [] 3]) (σ' := ⟨[(1, .list (.ints a1)), (5, .sl 11 0), (12, .int .i64 a0), (13, .int .i64 (0 : Int))], [(11, .arr 22 0 0 (.intss []))]⟩) rfl trivial rfl ?_
  obtain ⟨v7, hk10, h⟩ := bind_some h
  refine Tri.loop (K1 := [.code [(2, 0), (1, 0), (0, 0)] 0]) (K2 := [.blk 0, .code [] 3]) (fun (v1, v2) => ⟨[(1, .list (.ints a1)), (5, .sl 11 0), (12, .int .i64 a0), (13, .int .i64 v1)], [(11, .arr 22 0 0 (.intss v2))]⟩) (fun x e σ' => match x with | v7 => e = .exit 0 ∧ σ' = ⟨[(5, .sl 11 0)], [(11, .arr 22 0 0 (.intss v7))]⟩) hk10 rfl rfl ?_ ?_
  · intro s x hs
    clear h
    have h := hs
    clear hs
    obtain ⟨v1, v2⟩ := s
    refine Tri.run 1 [] [.keep [1, 5, 12, 13, 14] [11]] (K' := [.code [(2, 0), (1, 0), (0, 0), (1, 0)] 0, .code [(2, 0), (1, 0), (0, 0)] 2]) (σ' := ⟨[(1, .list (.ints a1)), (5, .sl 11 0), (12, .int .i64 a0), (13, .int .i64 v1), (14, .bool (decide (v1 < a0)))], [(11, .arr 22 0 0 (.intss v2))]⟩) rfl trivial rfl ?_
    rcases bif_some h with ⟨hd1, h⟩ | ⟨hd1, h⟩
    · refine Tri.run 3 [.g true] [.keep [1, 5, 6, 7, 12, 13] [11, 16]] (K' := [.code [(2, 0), (1, 0), (0, 0), (2, 0), (0, 0), (2, 0), (0, 0)] 0, .code [(2, 0), (1, 0), (0, 0), (2, 0), (0, 0), (2, 0)] 1, .code [(2, 0), (1, 0), (0, 0), (2, 0), (0, 0)] 3, .blk 1, .code [(2, 0), (1, 0), (0, 0)] 3]) (σ' := ⟨[(1, .list (.ints a1)), (5, .sl 11 0), (6, .int .i64 v1), (7, .sl 16 0), (12, .int .i64 a0), (13, .int .i64 v1)], [(11, .arr 22 0 0 (.intss v2)), (16, .arr 3 0 0 (.ints []))]⟩) rfl ⟨hd1, trivial⟩ rfl ?_
      refine Tri.run 1 [] [.keep [1, 5, 6, 7, 12, 13, 17, 18, 19] [11, 16]] (K' := [.code [(2, 0), (1, 0), (0, 0), (2, 0), (0, 0), (2, 0), (1, 0)] 0, .blk 2, .code [(2, 0), (1, 0), (0, 0), (2, 0), (0, 0)] 3, .blk 1, .code [(2, 0), (1, 0), (0, 0)] 3]) (σ' := ⟨[(1, .list (.ints a1)), (5, .sl 11 0), (6, .int .i64 v1), (7, .sl 16 0), (12, .int .i64 a0), (13, .int .i64 v1), (17, .list (.ints a1)), (18, .int .i64 (a1.length : Int)), (19, .int .i64 (0 : Int))], [(11, .arr 22 0 0 (.intss v2)), (16, .arr 3 0 0 (.ints []))]⟩) rfl trivial rfl ?_
      obtain ⟨v6, hk8, h⟩ := bind_some h
      refine Tri.loop (K1 := [.code [(2, 0), (1, 0), (0, 0), (2, 0), (0, 0), (2, 0), (1, 0), (0, 0)] 0]) (K2 := [.blk 2, .code [(2, 0), (1, 0), (0, 0), (2, 0), (0, 0)] 3, .blk 1, .code [(2, 0), (1, 0), (0, 0)] 3]) (fun (v3, v4) => ⟨[(1, .list (.ints a1)), (5, .sl 11 0), (6, .int .i64 v1), (7, .sl 16 0), (12, .int .i64 a0), (13, .int .i64 v1), (17, .list (.ints a1)), (18, .int .i64 (a1.length : Int)), (19, .int .i64 v3)], [(11, .arr 22 0 0 (.intss v2)), (16, .arr 3 0 0 (.ints v4))]⟩) (fun x e σ' => match x with | v6 => e = .exit 2 ∧ σ' = ⟨[(1, .list (.ints a1)), (5, .sl 11 0), (7, .sl 16 0), (12, .int .i64 a0), (13, .int .i64 v1)], [(11, .arr 22 0 0 (.intss v2)), (16, .arr 3 0 0 (.ints v6))]⟩) hk8 rfl rfl ?_ ?_
      · intro s x hs
        clear h
        have h := hs
        clear hs
        obtain ⟨v3, v4⟩ := s
        refine Tri.run 1 [] [.keep [1, 5, 6, 7, 12, 13, 17, 18, 19, 20] [11, 16]] (K' := [.code [(2, 0), (1, 0), (0, 0), (2, 0), (0, 0), (2, 0), (1, 0), (0, 0), (1, 0)] 0, .code [(2, 0), (1, 0), (0, 0), (2, 0), (0, 0), (2, 0), (1, 0), (0, 0)] 2]) (σ' := ⟨[(1, .list (.ints a1)), (5, .sl 11 0), (6, .int .i64 v1), (7, .sl 16 0), (12, .int .i64 a0), (13, .int .i64 v1), (17, .list (.ints a1)), (18, .int .i64 (a1.length : Int)), (19, .int .i64 v3), (20, .bool (decide (v3 < (a1.length : Int))))], [(11, .arr 22 0 0 (.intss v2)), (16, .arr 3 0 0 (.ints v4))]⟩) rfl trivial rfl ?_
        rcases bif_some h with ⟨hd2, h⟩ | ⟨hd2, h⟩
        · obtain ⟨hg3, h⟩ := grd_some h
          refine Tri.run 3 [.g true] [.keep [1, 5, 6, 7, 9, 10, 12, 13, 17, 18, 19] [11, 16]] (K' := [.code [(2, 0), (1, 0), (0, 0), (2, 0), (0, 0), (2, 0), (1, 0), (0, 0), (2, 0), (0, 0), (2, 0), (0, 0)] 0, .code [(2, 0), (1, 0), (0, 0), (2, 0), (0, 0), (2, 0), (1, 0), (0, 0), (2, 0), (0, 0), (2, 0)] 1, .code [(2, 0), (1, 0), (0, 0), (2, 0), (0, 0), (2, 0), (1, 0), (0, 0), (2, 0), (0, 0)] 3, .blk 3, .code [(2, 0), (1, 0), (0, 0), (2, 0), (0, 0), (2, 0), (1, 0), (0, 0)] 3]) (σ' := ⟨[(1, .list (.ints a1)), (5, .sl 11 0), (6, .int .i64 v1), (7, .sl 16 0), (9, .int .i64 (a1.getD v3.toNat 0)), (10, .int .i64 (0 : Int)), (12, .int .i64 a0), (13, .int .i64 v1), (17, .list (.ints a1)), (18, .int .i64 (a1.length : Int)), (19, .int .i64 v3)], [(11, .arr 22 0 0 (.intss v2)), (16, .arr 3 0 0 (.ints v4))]⟩) rfl ⟨hg3, hd2, trivial⟩ rfl ?_
          obtain ⟨v5, hk4, h⟩ := bind_some h
          refine Tri.run 1 [.r ⟨[], .bool v5, []⟩] [.keep [1, 5, 6, 7, 10, 12, 13, 17, 18, 19, 25] [11, 16]] (K' := [.code [(2, 0), (1, 0), (0, 0), (2, 0), (0, 0), (2, 0), (1, 0), (0, 0), (2, 0), (0, 0), (2, 0)] 1, .code [(2, 0), (1, 0), (0, 0), (2, 0), (0, 0), (2, 0), (1, 0), (0, 0), (2, 0), (0, 0)] 3, .blk 3, .code [(2, 0), (1, 0), (0, 0), (2, 0), (0, 0), (2, 0), (1, 0), (0, 0)] 3]) (σ' := ⟨[(1, .list (.ints a1)), (5, .sl 11 0), (6, .int .i64 v1), (7, .sl 16 0), (10, .int .i64 (0 : Int)), (12, .int .i64 a0), (13, .int .i64 v1), (17, .list (.ints a1)), (18, .int .i64 (a1.length : Int)), (19, .int .i64 v3), (25, .bool v5)], [(11, .arr 22 0 0 (.intss v2)), (16, .arr 3 0 0 (.ints v4))]⟩) rfl ⟨(w_impl_HasPlayer (a1.getD v3.toNat 0) v1 v5 hk4), trivial⟩ rfl ?_
          rcases bif_some h with ⟨hd5, h⟩ | ⟨hd5, h⟩
          · obtain ⟨hg6, h⟩ := grd_some h
            refine Tri.run 3 [.g true] [.keep [1, 5, 6, 7, 12, 13, 17, 18, 19] [11, 16]] (K' := [.code [(2, 0), (1, 0), (0, 0), (2, 0), (0, 0), (2, 0), (1, 0), (0, 0)] 3]) (σ' := ⟨[(1, .list (.ints a1)), (5, .sl 11 0), (6, .int .i64 v1), (7, .sl 16 1), (12, .int .i64 a0), (13, .int .i64 v1), (17, .list (.ints a1)), (18, .int .i64 (a1.length : Int)), (19, .int .i64 v3)], [(11, .arr 22 0 0 (.intss v2)), (16, .arr 3 1 0 (.ints (v4 ++ [(1 : Int)])))]⟩) rfl ⟨hg6, hd5, trivial⟩ rfl ?_
            refine Tri.run 1 [] [.rever 16, .keep [1, 5, 6, 7, 12, 13, 17, 18, 19] [11, 16]] (K' := []) (σ' := ⟨[(1, .list (.ints a1)), (5, .sl 11 0), (6, .int .i64 v1), (7, .sl 16 0), (12, .int .i64 a0), (13, .int .i64 v1), (17, .list (.ints a1)), (18, .int .i64 (a1.length : Int)), (19, .int .i64 (IntKind.i64.wrap (v3 + (1 : Int))))], [(11, .arr 22 0 0 (.intss v2)), (16, .arr 3 0 0 (.ints (v4 ++ [(1 : Int)])))]⟩) rfl trivial rfl ?_
            have h := Option.some.inj h
            subst h
            exact Tri.nil ⟨rfl, rfl⟩
          · obtain ⟨hg7, h⟩ := grd_some h
            refine Tri.run 3 [.g false] [.rever 16, .keep [1, 5, 6, 7, 12, 13, 17, 18, 19] [11, 16]] (K' := []) (σ' := ⟨[(1, .list (.ints a1)), (5, .sl 11 0), (6, .int .i64 v1), (7, .sl 16 0), (12, .int .i64 a0), (13, .int .i64 v1), (17, .list (.ints a1)), (18, .int .i64 (a1.length : Int)), (19, .int .i64 (IntKind.i64.wrap (v3 + (1 : Int))))], [(11, .arr 22 0 0 (.intss v2)), (16, .arr 3 0 0 (.ints (v4 ++ [(0 : Int)])))]⟩) rfl ⟨hg7, hd5, trivial⟩ rfl ?_
            have h := Option.some.inj h
            subst h
            exact Tri.nil ⟨rfl, rfl⟩
        · refine Tri.run 1 [.g false] [.keep [1, 5, 7, 12, 13] [11, 16]] (K' := [.code [(2, 0), (1, 0), (0, 0), (2, 0), (0, 0), (2, 0), (1, 0), (0, 0), (1, 0), (0, 1)] 0, .code [(2, 0), (1, 0), (0, 0), (2, 0), (0, 0), (2, 0), (1, 0), (0, 0)] 2]) (σ' := ⟨[(1, .list (.ints a1)), (5, .sl 11 0), (7, .sl 16 0), (12, .int .i64 a0), (13, .int .i64 v1)], [(11, .arr 22 0 0 (.intss v2)), (16, .arr 3 0 0 (.ints v4))]⟩) rfl ⟨hd2, trivial⟩ rfl ?_
          have h := Option.some.inj h
          subst h
          exact Tri.out 2 rfl ⟨nofun, rfl, rfl⟩
      · intro e σ' hne hq
        obtain ⟨rfl, rfl⟩ := hq
        refine TriX.exit (K' := [.code [(2, 0), (1, 0), (0, 0), (2, 0), (0, 0)] 3, .blk 1, .code [(2, 0), (1, 0), (0, 0)] 3]) rfl ?_
        obtain ⟨hg9, h⟩ := grd_some h
        refine Tri.run 2 [] [.rever 11, .keep [1, 5, 12, 13] [11]] (K' := []) (σ' := ⟨[(1, .list (.ints a1)), (5, .sl 11 0), (12, .int .i64 a0), (13, .int .i64 (IntKind.i64.wrap (v1 + (1 : Int))))], [(11, .arr 22 0 0 (.intss (v2 ++ [v6])))]⟩) rfl ⟨hg9, trivial⟩ rfl ?_
        have h := Option.some.inj h
        subst h
        exact Tri.nil ⟨rfl, rfl⟩
    · refine Tri.run 1 [.g false] [.keep [5] [11]] (K' := [.code [(2, 0), (1, 0), (0, 0), (1, 0), (0, 1)] 0, .code [(2, 0), (1, 0), (0, 0)] 2]) (σ' := ⟨[(5, .sl 11 0)], [(11, .arr 22 0 0 (.intss v2))]⟩) rfl ⟨hd1, trivial⟩ rfl ?_
      have h := Option.some.inj h
      subst h
      exact Tri.out 0 rfl ⟨nofun, rfl, rfl⟩
  · intro e σ' hne hq
    obtain ⟨rfl, rfl⟩ := hq
    refine TriX.exit (K' := [.code [] 3]) rfl ?_
    refine Tri.run 1 [] [.swap 11 1000, .keep [4] [1000]] (K' := [.code [] 4]) (σ' := ⟨[(4, .sl 1000 0)], [(1000, .arr 22 0 0 (.intss v7))]⟩) rfl trivial rfl ?_
    have h := Option.some.inj h
    subst h
    exact Tri.ret rfl ⟨.inl rfl, rfl, rfl⟩
/-! impl.times -/
noncomputable def E108_impl_times : Env := ⟨Try.prog, tys, (Try.f108.body).getD .skip, 20, tysOk, mixedOk⟩
abbrev q_impl_times (r : List Int) (σ' : ASt) : Prop := resAV E108_impl_times.T σ' Try.f108.results.toList = some (.sl 1000 0) ∧ keepO σ'.ob (namesO [(1000, .arr 3 0 0 (.ints r))]) = [(1000, .arr 3 0 0 (.ints r))]
noncomputable def l_impl_times_0 (a0 : Int) (a1 : Int) : (Int × (List Int)) → Option ((Int × (List Int)) ⊕ ((List Int)))
  | (v1, v2) => (
bif decide (v1 < ((List.replicate a0.toNat (0 : Int)).length : Int)) then
(grd ((0 : Int) ≤ v1 ∧ v1 < (v2.length : Int)) <|
some (.inl (IntKind.i64.wrap (v1 + (1 : Int)), v2.set v1.toNat a1)))
else
(some (.inr v2)))
noncomputable def m_impl_times (a0 : Int) (a1 : Int) : Option (List Int) :=
grd ((0 : Int) ≤ a0 ∧ a0 = a0 ∧ a0 ≤ (room : Int)) <|
(iter (l_impl_times_0 a0 a1) ((0 : Int), List.replicate a0.toNat (0 : Int))).bind fun
| v3 => (
some v3)
theorem w_impl_times (a0 : Int) (a1 : Int) (r : List Int) (h : m_impl_times a0 a1 = some r) : AM.Spec Try.prog 108 [.int .i64 a0, .int .i64 a1] [] (.sl 1000 0) [(1000, .arr 3 0 0 (.ints r))] := by
  refine spec_of (E := E108_impl_times) Try.func108 rfl rfl rfl rfl ?_
  obtain ⟨hg1, h⟩ := grd_some h
  refine Tri.run 3 [] [.keep [1, 5, 10, 11] [8]] (K' := [.code [(2, 0), (1, 0)] 0, .blk 0, .code [] 3]) (σ' := ⟨[(1, .int .i64 a1), (5, .sl 8 0), (10, .int .i64 ((List.replicate a0.toNat (0 : Int)).length : Int)), (11, .int .i64 (0 : Int))], [(8, .arr 3 0 0 (.ints (List.replicate a0.toNat (0 : Int))))]⟩) rfl ⟨hg1, trivial⟩ rfl ?_
  obtain ⟨v3, hk4, h⟩ := bind_some h
  refine Tri.loop (K1 := [.code [(2, 0), (1, 0), (0, 0)] 0]) (K2 := [.blk 0, .code [] 3]) (fun (v1, v2) => ⟨[(1, .int .i64 a1), (5, .sl 8 0), (10, .int .i64 ((List.replicate a0.toNat (0 : Int)).length : Int)), (11, .int .i64 v1)], [(8, .arr 3 0 0 (.ints v2))]⟩) (fun x e σ' => match x with | v3 => e = .exit 0 ∧ σ' = ⟨[(5, .sl 8 0)], [(8, .arr 3 0 0 (.ints v3))]⟩) hk4 rfl rfl ?_ ?_
  · intro s x hs
    clear h
    have h := hs
    clear hs
    obtain ⟨v1, v2⟩ := s
    refine Tri.run 1 [] [.keep [1, 5, 10, 11, 12] [8]] (K' := [.code [(2, 0), (1, 0), (0, 0), (1, 0)] 0, .code [(2, 0), (1, 0), (0, 0)] 2]) (σ' := ⟨[(1, .int .i64 a1), (5, .sl 8 0), (10, .int .i64 ((List.replicate a0.toNat (0 : Int)).length : Int)), (11, .int .i64 v1), (12, .bool (decide (v1 < ((List.replicate a0.toNat (0 : Int)).length : Int))))], [(8, .arr 3 0 0 (.ints v2))]⟩) rfl trivial rfl ?_
    rcases bif_some h with ⟨hd2, h⟩ | ⟨hd2, h⟩
    · obtain ⟨hg3, h⟩ := grd_some h
      refine Tri.run 3 [.g true] [.keep [1, 5, 10, 11] [8]] (K' := [.code [(2, 0), (1, 0), (0, 0)] 3]) (σ' := ⟨[(1, .int .i64 a1), (5, .sl 8 0), (10, .int .i64 ((List.replicate a0.toNat (0 : Int)).length : Int)), (11, .int .i64 v1)], [(8, .arr 3 0 0 (.ints (v2.set v1.toNat a1)))]⟩) rfl ⟨hg3, hd2, trivial⟩ rfl ?_
      refine Tri.run 1 [] [.keep [1, 5, 10, 11] [8]] (K' := []) (σ' := ⟨[(1, .int .i64 a1), (5, .sl 8 0), (10, .int .i64 ((List.replicate a0.toNat (0 : Int)).length : Int)), (11, .int .i64 (IntKind.i64.wrap (v1 + (1 : Int))))], [(8, .arr 3 0 0 (.ints (v2.set v1.toNat a1)))]⟩) rfl trivial rfl ?_
      have h := Option.some.inj h
      subst h
      exact Tri.nil ⟨rfl, rfl⟩
    · refine Tri.run 1 [.g false] [.keep [5] [8]] (K' := [.code [(2, 0), (1, 0), (0, 0), (1, 0), (0, 1)] 0, .code [(2, 0), (1, 0), (0, 0)] 2]) (σ' := ⟨[(5, .sl 8 0)], [(8, .arr 3 0 0 (.ints v2))]⟩) rfl ⟨hd2, trivial⟩ rfl ?_
      have h := Option.some.inj h
      subst h
      exact Tri.out 0 rfl ⟨nofun, rfl, rfl⟩
  · intro e σ' hne hq
    obtain ⟨rfl, rfl⟩ := hq
    refine TriX.exit (K' := [.code [] 3]) rfl ?_
    refine Tri.run 1 [] [.swap 8 1000, .keep [4] [1000]] (K' := [.code [] 4]) (σ' := ⟨[(4, .sl 1000 0)], [(1000, .arr 3 0 0 (.ints v3))]⟩) rfl trivial rfl ?_
    have h := Option.some.inj h
    subst h
    exact Tri.ret rfl ⟨.inl rfl, rfl, rfl⟩
/-! impl.whole -/
noncomputable def E76_impl_whole : Env := ⟨Try.prog, tys, (Try.f76.body).getD .skip, 5, tysOk, mixedOk⟩
abbrev q_impl_whole (r : Int × Int) (σ' : ASt) : Prop := resAV E76_impl_whole.T σ' Try.f76.results.toList = some (.agg [.int .i64 r.1, .int .i64 r.2]) ∧ keepO σ'.ob (namesO []) = []
noncomputable def m_impl_whole (a0 : Int) : Option (Int × Int) :=
some (a0, (1 : Int))
theorem w_impl_whole (a0 : Int) (r : Int × Int) (h : m_impl_whole a0 = some r) : AM.Spec Try.prog 76 [.int .i64 a0] [] (.agg [.int .i64 r.1, .int .i64 r.2]) [] := by
  refine spec_of (E := E76_impl_whole) Try.func76 rfl rfl rfl rfl ?_
  refine Tri.run 2 [] [.keep [2] [2]] (K' := [.code [] 2]) (σ' := ⟨[(2, .ptr 2 0)], [(2, .box [.int .i64 a0, .int .i64 (1 : Int)])]⟩) rfl trivial rfl ?_
  have h := Option.some.inj h
  subst h
  exact Tri.ret rfl ⟨.inl rfl, rfl, rfl⟩
/-! impl.minusValues -/
noncomputable def E109_impl_minusValues : Env := ⟨Try.prog, tys, (Try.f109.body).getD .skip, 27, tysOk, mixedOk⟩
abbrev q_impl_minusValues (r : List Q) (σ' : ASt) : Prop := resAV E109_impl_minusValues.T σ' Try.f109.results.toList = some (.sl 1000 0) ∧ keepO σ'.ob (namesO [(1000, .arr 29 0 0 (.rats r))]) = [(1000, .arr 29 0 0 (.rats r))]
noncomputable def l_impl_minusValues_0 (a1 : List Int) (a3 : Int) : (Int × (List Q)) → Option ((Int × (List Q)) ⊕ ((List Q)))
  | (v1, v2) => (
bif decide (v1 ≤ a3) then
(grd ((0 : Int) ≤ v1 ∧ v1 < (a1.length : Int)) <|
(m_impl_whole (IntKind.i64.wrap (0 - (a1.getD v1.toNat 0)))).bind fun (v3, v4) =>
grd (v2.length + ([⟨v3, v4⟩] : List Q).length ≤ room) <|
some (.inl (IntKind.i64.wrap (v1 + (1 : Int)), v2 ++ [⟨v3, v4⟩])))
else
(some (.inr v2)))
noncomputable def m_impl_minusValues (_a0 : Int) (a1 : List Int) (a2 : Int) (a3 : Int) : Option (List Q) :=
(iter (l_impl_minusValues_0 a1 a3) (a2, [])).bind fun
| v5 => (
some v5)
theorem w_impl_minusValues (a0 : Int) (a1 : List Int) (a2 : Int) (a3 : Int) (r : List Q) (h : m_impl_minusValues a0 a1 a2 a3 = some r) : AM.Spec Try.prog 109 [.agg [.int .i64 a0, .list (.ints a1)], .int .i64 a2, .int .i64 a3] [] (.sl 1000 0) [(1000, .arr 29 0 0 (.rats r))] := by
  refine spec_of (E := E109_impl_minusValues) Try.func109 rfl rfl rfl rfl ?_
  refine Tri.run 3 [] [.keep [2, 3, 7, 8] [3, 9]] (K' := [.code [(2, 0), (1, 0)] 0, .blk 0, .code [] 3]) (σ' := ⟨[(2, .int .i64 a3), (3, .ptr 3 0), (7, .sl 9 0), (8, .int .i64 a2)], [(3, .box [.int .i64 a0, .list (.ints a1)]), (9, .arr 29 0 0 (.rats []))]⟩) rfl trivial rfl ?_
  obtain ⟨v5, hk5, h⟩ := bind_some h
  refine Tri.loop (K1 := [.code [(2, 0), (1, 0), (0, 0)] 0]) (K2 := [.blk 0, .code [] 3]) (fun (v1, v2) => ⟨[(2, .int .i64 a3), (3, .ptr 3 0), (7, .sl 9 0), (8, .int .i64 v1)], [(3, .box [.int .i64 a0, .list (.ints a1)]), (9, .arr 29 0 0 (.rats v2))]⟩) (fun x e σ' => match x with | v5 => e = .exit 0 ∧ σ' = ⟨[(7, .sl 9 0)], [(9, .arr 29 0 0 (.rats v5))]⟩) hk5 rfl rfl ?_ ?_
  · intro s x hs
    clear h
    have h := hs
    clear hs
    obtain ⟨v1, v2⟩ := s
    refine Tri.run 1 [] [.keep [2, 3, 7, 8, 13] [3, 9]] (K' := [.code [(2, 0), (1, 0), (0, 0), (0, 0)] 1, .code [(2, 0), (1, 0), (0, 0)] 1]) (σ' := ⟨[(2, .int .i64 a3), (3, .ptr 3 0), (7, .sl 9 0), (8, .int .i64 v1), (13, .bool (decide (v1 ≤ a3)))], [(3, .box [.int .i64 a0, .list (.ints a1)]), (9, .arr 29 0 0 (.rats v2))]⟩) rfl trivial rfl ?_
    rcases bif_some h with ⟨hd1, h⟩ | ⟨hd1, h⟩
    · obtain ⟨hg2, h⟩ := grd_some h
      obtain ⟨⟨v3, v4⟩, hk3, h⟩ := bind_some h
      obtain ⟨hg4, h⟩ := grd_some h
      refine Tri.run 3 [.g true, .r ⟨[], .agg [.int .i64 v3, .int .i64 v4], []⟩] [.rever 9, .keep [2, 3, 7, 8] [3, 9]] (K' := []) (σ' := ⟨[(2, .int .i64 a3), (3, .ptr 3 0), (7, .sl 9 0), (8, .int .i64 (IntKind.i64.wrap (v1 + (1 : Int))))], [(3, .box [.int .i64 a0, .list (.ints a1)]), (9, .arr 29 0 0 (.rats (v2 ++ [⟨v3, v4⟩])))]⟩) rfl ⟨hg4, (w_impl_whole (IntKind.i64.wrap (0 - (a1.getD v1.toNat 0))) (v3, v4) hk3), hg2, hd1, trivial⟩ rfl ?_
      have h := Option.some.inj h
      subst h
      exact Tri.nil ⟨rfl, rfl⟩
    · refine Tri.run 1 [.g false] [.keep [7] [9]] (K' := [.code [(2, 0), (1, 0), (0, 0), (0, 0), (1, 1)] 0, .code [(2, 0), (1, 0), (0, 0)] 1]) (σ' := ⟨[(7, .sl 9 0)], [(9, .arr 29 0 0 (.rats v2))]⟩) rfl ⟨hd1, trivial⟩ rfl ?_
      have h := Option.some.inj h
      subst h
      exact Tri.out 0 rfl ⟨nofun, rfl, rfl⟩
  · intro e σ' hne hq
    obtain ⟨rfl, rfl⟩ := hq
    refine TriX.exit (K' := [.code [] 3]) rfl ?_
    refine Tri.run 1 [] [.swap 9 1000, .keep [6] [1000]] (K' := [.code [] 4]) (σ' := ⟨[(6, .sl 1000 0)], [(1000, .arr 29 0 0 (.rats v5))]⟩) rfl trivial rfl ?_
    have h := Option.some.inj h
    subst h
    exact Tri.ret rfl ⟨.inl rfl, rfl, rfl⟩
/-! impl.GrandValue -/
noncomputable def E80_impl_GrandValue : Env := ⟨Try.prog, tys, (Try.f80.body).getD .skip, 14, tysOk, mixedOk⟩
abbrev q_impl_GrandValue (r : Int) (σ' : ASt) : Prop := resAV E80_impl_GrandValue.T σ' Try.f80.results.toList = some (.int .i64 r) ∧ keepO σ'.ob (namesO []) = []
noncomputable def m_impl_GrandValue (a0 : Int) (a1 : List Int) : Option Int :=
(m_impl_IsValidGame a0 a1).bind fun v1 =>
bif !v1 then
(some (0 : Int))
else
(grd ((0 : Int) ≤ IntKind.i64.wrap ((a1.length : Int) - (1 : Int)) ∧ IntKind.i64.wrap ((a1.length : Int) - (1 : Int)) < (a1.length : Int)) <|
some (a1.getD ((IntKind.i64.wrap ((a1.length : Int) - (1 : Int))).toNat) 0))
theorem w_impl_GrandValue (a0 : Int) (a1 : List Int) (r : Int) (h : m_impl_GrandValue a0 a1 = some r) : AM.Spec Try.prog 80 [.agg [.int .i64 a0, .list (.ints a1)]] [] (.int .i64 r) [] := by
  refine spec_of (E := E80_impl_GrandValue) Try.func80 rfl rfl rfl rfl ?_
  refine Tri.run 1 [] [.keep [1] [1]] (K' := [.code [(1, 0), (0, 0)] 0, .code [(1, 0)] 1, .code [] 2]) (σ' := ⟨[(1, .ptr 1 0)], [(1, .box [.int .i64 a0, .list (.ints a1)])]⟩) rfl trivial rfl ?_
  obtain ⟨v1, hk1, h⟩ := bind_some h
  refine Tri.run 1 [.r ⟨[], .bool v1, []⟩] [.keep [1, 5] [1]] (K' := [.code [(1, 0)] 1, .code [] 2]) (σ' := ⟨[(1, .ptr 1 0), (5, .bool (!v1))], [(1, .box [.int .i64 a0, .list (.ints a1)])]⟩) rfl ⟨(w_impl_IsValidGame a0 a1 v1 hk1), trivial⟩ rfl ?_
  rcases bif_some h with ⟨hd2, h⟩ | ⟨hd2, h⟩
  · refine Tri.run 2 [.g true] [.keep [2] []] (K' := [.code [(1, 0), (1, 0)] 1, .code [] 2]) (σ' := ⟨[(2, .int .i64 (0 : Int))], []⟩) rfl ⟨hd2, trivial⟩ rfl ?_
    have h := Option.some.inj h
    subst h
    exact Tri.ret rfl ⟨.inl rfl, rfl, rfl⟩
  · obtain ⟨hg3, h⟩ := grd_some h
    refine Tri.run 2 [.g false] [.keep [2] []] (K' := [.code [] 3]) (σ' := ⟨[(2, .int .i64 (a1.getD ((IntKind.i64.wrap ((a1.length : Int) - (1 : Int))).toNat) 0))], []⟩) rfl ⟨hg3, hd2, trivial⟩ rfl ?_
    have h := Option.some.inj h
    subst h
    exact Tri.ret rfl ⟨.inl rfl, rfl, rfl⟩
/-! impl.LeastLP -/
noncomputable def E39_impl_LeastLP : Env := ⟨Try.prog, tys, (Try.f39.body).getD .skip, 66, tysOk, mixedOk⟩
abbrev q_impl_LeastLP (r : Bool × (List (List Int)) × (List Int) × (List Q)) (σ' : ASt) : Prop := resAV E39_impl_LeastLP.T σ' Try.f39.results.toList = some (.tuple [.agg [.sl 1000 0, .sl 1001 0, .sl 1002 0], .bool r.1]) ∧ keepO σ'.ob (namesO [(1000, .arr 22 0 0 (.intss r.2.1)), (1001, .arr 3 0 0 (.ints r.2.2.1)), (1002, .arr 29 0 0 (.rats r.2.2.2))]) = [(1000, .arr 22 0 0 (.intss r.2.1)), (1001, .arr 3 0 0 (.ints r.2.2.1)), (1002, .arr 29 0 0 (.rats r.2.2.2))]
noncomputable def l_impl_LeastLP_0 (a1 : List Int) (v3 : List (List Int)) : (Int × (List (List Int))) → Option ((Int × (List (List Int))) ⊕ ((List (List Int))))
  | (v4, v5) => (
bif decide (v4 < (v3.length : Int)) then
(grd ((0 : Int) ≤ v4 ∧ v4 < (v5.length : Int)) <|
grd ((0 : Int) ≤ IntKind.i64.wrap ((IntKind.i64.wrap ((a1.length : Int) - (1 : Int))) - (1 : Int)) ∧ IntKind.i64.wrap ((IntKind.i64.wrap ((a1.length : Int) - (1 : Int))) - (1 : Int)) < ((v5.getD v4.toNat []).length : Int)) <|
some (.inl (IntKind.i64.wrap (v4 + (1 : Int)), v5.set v4.toNat ((v5.getD v4.toNat []).set ((IntKind.i64.wrap ((IntKind.i64.wrap ((a1.length : Int) - (1 : Int))) - (1 : Int))).toNat) (-1 : Int)))))
else
(some (.inr v5)))
noncomputable def m_impl_LeastLP (a0 : Int) (a1 : List Int) : Option (Bool × (List (List Int)) × (List Int) × (List Q)) :=
(m_impl_IsValidGame a0 a1).bind fun v1 =>
bif !v1 then
(some (false, [], [], []))
else
(bif decide (a0 < (2 : Int)) then
(some (false, [], [], []))
else
((m_impl_coalitions (1 : Int) (IntKind.i64.wrap ((a1.length : Int) - (1 : Int)))).bind fun v2 =>
(m_impl_members a0 v2).bind fun v3 =>
(iter (l_impl_LeastLP_0 a1 v3) ((0 : Int), v3)).bind fun
| v6 => (
(m_impl_times (IntKind.i64.wrap ((a1.length : Int) - (1 : Int))) (1 : Int)).bind fun v7 =>
grd ((0 : Int) ≤ IntKind.i64.wrap ((IntKind.i64.wrap ((a1.length : Int) - (1 : Int))) - (1 : Int)) ∧ IntKind.i64.wrap ((IntKind.i64.wrap ((a1.length : Int) - (1 : Int))) - (1 : Int)) < (v7.length : Int)) <|
(m_impl_minusValues a0 a1 (1 : Int) (IntKind.i64.wrap ((a1.length : Int) - (1 : Int)))).bind fun v8 =>
(m_impl_GrandValue a0 a1).bind fun v9 =>
(m_impl_whole v9).bind fun (v10, v11) =>
grd ((0 : Int) ≤ IntKind.i64.wrap ((IntKind.i64.wrap ((a1.length : Int) - (1 : Int))) - (1 : Int)) ∧ IntKind.i64.wrap ((IntKind.i64.wrap ((a1.length : Int) - (1 : Int))) - (1 : Int)) < (v8.length : Int)) <|
grd (v6.length + ([v7.set ((IntKind.i64.wrap ((IntKind.i64.wrap ((a1.length : Int) - (1 : Int))) - (1 : Int))).toNat) (0 : Int)] : List (List Int)).length ≤ room) <|
(m_impl_times a0 (0 : Int)).bind fun v12 =>
grd (v12.length + ([(1 : Int)] : List Int).length ≤ room) <|
some (true, v6 ++ [v7.set ((IntKind.i64.wrap ((IntKind.i64.wrap ((a1.length : Int) - (1 : Int))) - (1 : Int))).toNat) (0 : Int)], v12 ++ [(1 : Int)], v8.set ((IntKind.i64.wrap ((IntKind.i64.wrap ((a1.length : Int) - (1 : Int))) - (1 : Int))).toNat) ⟨v10, v11⟩))))
theorem w_impl_LeastLP (a0 : Int) (a1 : List Int) (r : Bool × (List (List Int)) × (List Int) × (List Q)) (h : m_impl_LeastLP a0 a1 = some r) : AM.Spec Try.prog 39 [.agg [.int .i64 a0, .list (.ints a1)]] [] (.tuple [.agg [.sl 1000 0, .sl 1001 0, .sl 1002 0], .bool r.1]) [(1000, .arr 22 0 0 (.intss r.2.1)), (1001, .arr 3 0 0 (.ints r.2.2.1)), (1002, .arr 29 0 0 (.rats r.2.2.2))] := by
  refine spec_of (E := E39_impl_LeastLP) Try.func39 rfl rfl rfl rfl ?_
  refine Tri.run 1 [] [.keep [1, 2] [1, 2]] (K' := [.code [(1, 0), (0, 0)] 0, .code [(1, 0)] 1, .code [] 2]) (σ' := ⟨[(1, .ptr 1 0), (2, .ptr 2 0)], [(1, .box [.int .i64 a0, .list (.ints a1)]), (2, .box [.nil (.intss []), .nil (.ints []), .nil (.rats [])])]⟩) rfl trivial rfl ?_
  obtain ⟨v1, hk1, h⟩ := bind_some h
  rcases bif_some h with ⟨hd2, h⟩ | ⟨hd2, h⟩
  · refine Tri.run 1 [.r ⟨[], .bool v1, []⟩, .g true] [.keep [1, 2, 17] [1, 2]] (K' := [.code [(1, 0)] 1, .code [] 2]) (σ' := ⟨[(1, .ptr 1 0), (2, .ptr 2 0), (17, .bool true)], [(1, .box [.int .i64 a0, .list (.ints a1)]), (2, .box [.nil (.intss []), .nil (.ints []), .nil (.rats [])])]⟩) rfl ⟨hd2, (w_impl_IsValidGame a0 a1 v1 hk1), trivial⟩ rfl ?_
    refine Tri.run 2 [.g true] [.ownc 2 0 1100 22, .ownc 2 1 1101 3, .ownc 2 2 1102 29, .swap 1100 1000, .swap 1101 1001, .swap 1102 1002, .keep [2, 3] [2, 1000, 1001, 1002]] (K' := [.code [(1, 0), (1, 0)] 1, .code [] 2]) (σ' := ⟨[(2, .ptr 2 0), (3, .bool false)], [(2, .box [.sl 1000 0, .sl 1001 0, .sl 1002 0]), (1000, .arr 22 0 0 (.intss [])), (1001, .arr 3 0 0 (.ints [])), (1002, .arr 29 0 0 (.rats []))]⟩) rfl ⟨rfl, trivial⟩ rfl ?_
    have h := Option.some.inj h
    subst h
    exact Tri.ret rfl ⟨.inl rfl, rfl, rfl⟩
  · refine Tri.run 1 [.r ⟨[], .bool v1, []⟩, .g false] [.keep [1, 2, 17] [1, 2]] (K' := [.code [(1, 0)] 1, .code [] 2]) (σ' := ⟨[(1, .ptr 1 0), (2, .ptr 2 0), (17, .bool (decide (a0 < (2 : Int))))], [(1, .box [.int .i64 a0, .list (.ints a1)]), (2, .box [.nil (.intss []), .nil (.ints []), .nil (.rats [])])]⟩) rfl ⟨hd2, (w_impl_IsValidGame a0 a1 v1 hk1), trivial⟩ rfl ?_
    rcases bif_some h with ⟨hd3, h⟩ | ⟨hd3, h⟩
    · refine Tri.run 2 [.g true] [.ownc 2 0 1103 22, .ownc 2 1 1104 3, .ownc 2 2 1105 29, .swap 1103 1000, .swap 1104 1001, .swap 1105 1002, .keep [2, 3] [2, 1000, 1001, 1002]] (K' := [.code [(1, 0), (1, 0)] 1, .code [] 2]) (σ' := ⟨[(2, .ptr 2 0), (3, .bool false)], [(2, .box [.sl 1000 0, .sl 1001 0, .sl 1002 0]), (1000, .arr 22 0 0 (.intss [])), (1001, .arr 3 0 0 (.ints [])), (1002, .arr 29 0 0 (.rats []))]⟩) rfl ⟨hd3, trivial⟩ rfl ?_
      have h := Option.some.inj h
      subst h
      exact Tri.ret rfl ⟨.inl rfl, rfl, rfl⟩
    · refine Tri.run 2 [.g false] [.keep [1, 2, 4] [1, 2]] (K' := [.code [(3, 0)] 0, .code [] 4]) (σ' := ⟨[(1, .ptr 1 0), (2, .ptr 2 0), (4, .int .i64 (IntKind.i64.wrap ((a1.length : Int) - (1 : Int))))], [(1, .box [.int .i64 a0, .list (.ints a1)]), (2, .box [.nil (.intss []), .nil (.ints []), .nil (.rats [])])]⟩) rfl ⟨hd3, trivial⟩ rfl ?_
      obtain ⟨v2, hk4, h⟩ := bind_some h
      obtain ⟨v3, hk5, h⟩ := bind_some h
      refine Tri.run 2 [.r ⟨[], .sl 1106 0, [(1106, .arr 3 0 0 (.ints v2))]⟩, .r ⟨[], .sl 1107 0, [(1107, .arr 22 0 0 (.intss v3))]⟩] [.ownc 2 0 1108 22, .ownc 2 1 1109 3, .ownc 2 2 1110 29, .keep [1, 2, 4, 5, 28, 29, 30] [1, 2, 1107, 1108, 1109, 1110]] (K' := [.code [(4, 0), (1, 0)] 0, .blk 0, .code [] 5]) (σ' := ⟨[(1, .ptr 1 0), (2, .ptr 2 0), (4, .int .i64 (IntKind.i64.wrap ((a1.length : Int) - (1 : Int)))), (5, .sl 1107 0), (28, .sl 1107 0), (29, .int .i64 (v3.length : Int)), (30, .int .i64 (0 : Int))], [(1, .box [.int .i64 a0, .list (.ints a1)]), (2, .box [.sl 1108 0, .sl 1109 0, .sl 1110 0]), (1107, .arr 22 0 0 (.intss v3)), (1108, .arr 22 0 0 (.intss [])), (1109, .arr 3 0 0 (.ints [])), (1110, .arr 29 0 0 (.rats []))]⟩) rfl ⟨((w_impl_members a0 v2 v3 hk5).swap 1000 1107), ((w_impl_coalitions (1 : Int) (IntKind.i64.wrap ((a1.length : Int) - (1 : Int))) v2 hk4).swap 1000 1106), trivial⟩ rfl ?_
      obtain ⟨v6, hk9, h⟩ := bind_some h
      refine Tri.loop (K1 := [.code [(4, 0), (1, 0), (0, 0)] 0]) (K2 := [.blk 0, .code [] 5]) (fun (v4, v5) => ⟨[(1, .ptr 1 0), (2, .ptr 2 0), (4, .int .i64 (IntKind.i64.wrap ((a1.length : Int) - (1 : Int)))), (5, .sl 1107 0), (28, .sl 1107 0), (29, .int .i64 (v3.length : Int)), (30, .int .i64 v4)], [(1, .box [.int .i64 a0, .list (.ints a1)]), (2, .box [.sl 1108 0, .sl 1109 0, .sl 1110 0]), (1107, .arr 22 0 0 (.intss v5)), (1108, .arr 22 0 0 (.intss [])), (1109, .arr 3 0 0 (.ints [])), (1110, .arr 29 0 0 (.rats []))]⟩) (fun x e σ' => match x with | v6 => e = .exit 0 ∧ σ' = ⟨[(1, .ptr 1 0), (2, .ptr 2 0), (4, .int .i64 (IntKind.i64.wrap ((a1.length : Int) - (1 : Int)))), (5, .sl 1107 0)], [(1, .box [.int .i64 a0, .list (.ints a1)]), (2, .box [.sl 1108 0, .sl 1109 0, .sl 1110 0]), (1107, .arr 22 0 0 (.intss v6)), (1108, .arr 22 0 0 (.intss [])), (1109, .arr 3 0 0 (.ints [])), (1110, .arr 29 0 0 (.rats []))]⟩) hk9 rfl rfl ?_ ?_
      · intro s x hs
        clear h
        have h := hs
        clear hs
        obtain ⟨v4, v5⟩ := s
        refine Tri.run 1 [] [.keep [1, 2, 4, 5, 28, 29, 30, 31] [1, 2, 1107, 1108, 1109, 1110]] (K' := [.code [(4, 0), (1, 0), (0, 0), (1, 0)] 0, .code [(4, 0), (1, 0), (0, 0)] 2]) (σ' := ⟨[(1, .ptr 1 0), (2, .ptr 2 0), (4, .int .i64 (IntKind.i64.wrap ((a1.length : Int) - (1 : Int)))), (5, .sl 1107 0), (28, .sl 1107 0), (29, .int .i64 (v3.length : Int)), (30, .int .i64 v4), (31, .bool (decide (v4 < (v3.length : Int))))], [(1, .box [.int .i64 a0, .list (.ints a1)]), (2, .box [.sl 1108 0, .sl 1109 0, .sl 1110 0]), (1107, .arr 22 0 0 (.intss v5)), (1108, .arr 22 0 0 (.intss [])), (1109, .arr 3 0 0 (.ints [])), (1110, .arr 29 0 0 (.rats []))]⟩) rfl trivial rfl ?_
        rcases bif_some h with ⟨hd6, h⟩ | ⟨hd6, h⟩
        · obtain ⟨hg7, h⟩ := grd_some h
          obtain ⟨hg8, h⟩ := grd_some h
          refine Tri.run 3 [.g true] [.keep [1, 2, 4, 5, 28, 29, 30] [1, 2, 1107, 1108, 1109, 1110]] (K' := [.code [(4, 0), (1, 0), (0, 0)] 3]) (σ' := ⟨[(1, .ptr 1 0), (2, .ptr 2 0), (4, .int .i64 (IntKind.i64.wrap ((a1.length : Int) - (1 : Int)))), (5, .sl 1107 0), (28, .sl 1107 0), (29, .int .i64 (v3.length : Int)), (30, .int .i64 v4)], [(1, .box [.int .i64 a0, .list (.ints a1)]), (2, .box [.sl 1108 0, .sl 1109 0, .sl 1110 0]), (1107, .arr 22 0 0 (.intss (v5.set v4.toNat ((v5.getD v4.toNat []).set ((IntKind.i64.wrap ((IntKind.i64.wrap ((a1.length : Int) - (1 : Int))) - (1 : Int))).toNat) (-1 : Int))))), (1108, .arr 22 0 0 (.intss [])), (1109, .arr 3 0 0 (.ints [])), (1110, .arr 29 0 0 (.rats []))]⟩) rfl ⟨hg8, hg7, hd6, trivial⟩ rfl ?_
          refine Tri.run 1 [] [.keep [1, 2, 4, 5, 28, 29, 30] [1, 2, 1107, 1108, 1109, 1110]] (K' := []) (σ' := ⟨[(1, .ptr 1 0), (2, .ptr 2 0), (4, .int .i64 (IntKind.i64.wrap ((a1.length : Int) - (1 : Int)))), (5, .sl 1107 0), (28, .sl 1107 0), (29, .int .i64 (v3.length : Int)), (30, .int .i64 (IntKind.i64.wrap (v4 + (1 : Int))))], [(1, .box [.int .i64 a0, .list (.ints a1)]), (2, .box [.sl 1108 0, .sl 1109 0, .sl 1110 0]), (1107, .arr 22 0 0 (.intss (v5.set v4.toNat ((v5.getD v4.toNat []).set ((IntKind.i64.wrap ((IntKind.i64.wrap ((a1.length : Int) - (1 : Int))) - (1 : Int))).toNat) (-1 : Int))))), (1108, .arr 22 0 0 (.intss [])), (1109, .arr 3 0 0 (.ints [])), (1110, .arr 29 0 0 (.rats []))]⟩) rfl trivial rfl ?_
          have h := Option.some.inj h
          subst h
          exact Tri.nil ⟨rfl, rfl⟩
        · refine Tri.run 1 [.g false] [.keep [1, 2, 4, 5] [1, 2, 1107, 1108, 1109, 1110]] (K' := [.code [(4, 0), (1, 0), (0, 0), (1, 0), (0, 1)] 0, .code [(4, 0), (1, 0), (0, 0)] 2]) (σ' := ⟨[(1, .ptr 1 0), (2, .ptr 2 0), (4, .int .i64 (IntKind.i64.wrap ((a1.length : Int) - (1 : Int)))), (5, .sl 1107 0)], [(1, .box [.int .i64 a0, .list (.ints a1)]), (2, .box [.sl 1108 0, .sl 1109 0, .sl 1110 0]), (1107, .arr 22 0 0 (.intss v5)), (1108, .arr 22 0 0 (.intss [])), (1109, .arr 3 0 0 (.ints [])), (1110, .arr 29 0 0 (.rats []))]⟩) rfl ⟨hd6, trivial⟩ rfl ?_
          have h := Option.some.inj h
          subst h
          exact Tri.out 0 rfl ⟨nofun, rfl, rfl⟩
      · intro e σ' hne hq
        obtain ⟨rfl, rfl⟩ := hq
        refine TriX.exit (K' := [.code [] 5]) rfl ?_
        obtain ⟨v7, hk10, h⟩ := bind_some h
        obtain ⟨hg11, h⟩ := grd_some h
        refine Tri.run 2 [.r ⟨[], .sl 1111 0, [(1111, .arr 3 0 0 (.ints v7))]⟩] [.keep [1, 2, 4, 5, 8] [1, 2, 1107, 1108, 1109, 1110, 1111]] (K' := [.code [(7, 0)] 0, .code [] 8]) (σ' := ⟨[(1, .ptr 1 0), (2, .ptr 2 0), (4, .int .i64 (IntKind.i64.wrap ((a1.length : Int) - (1 : Int)))), (5, .sl 1107 0), (8, .sl 1111 0)], [(1, .box [.int .i64 a0, .list (.ints a1)]), (2, .box [.sl 1108 0, .sl 1109 0, .sl 1110 0]), (1107, .arr 22 0 0 (.intss v6)), (1108, .arr 22 0 0 (.intss [])), (1109, .arr 3 0 0 (.ints [])), (1110, .arr 29 0 0 (.rats [])), (1111, .arr 3 0 0 (.ints (v7.set ((IntKind.i64.wrap ((IntKind.i64.wrap ((a1.length : Int) - (1 : Int))) - (1 : Int))).toNat) (0 : Int))))]⟩) rfl ⟨hg11, ((w_impl_times (IntKind.i64.wrap ((a1.length : Int) - (1 : Int))) (1 : Int) v7 hk10).swap 1000 1111), trivial⟩ rfl ?_
        obtain ⟨v8, hk12, h⟩ := bind_some h
        obtain ⟨v9, hk13, h⟩ := bind_some h
        obtain ⟨⟨v10, v11⟩, hk14, h⟩ := bind_some h
        obtain ⟨hg15, h⟩ := grd_some h
        refine Tri.run 2 [.r ⟨[], .sl 1112 0, [(1112, .arr 29 0 0 (.rats v8))]⟩, .r ⟨[], .int .i64 v9, []⟩, .r ⟨[], .agg [.int .i64 v10, .int .i64 v11], []⟩] [.keep [1, 2, 5, 8, 9] [1, 2, 1107, 1108, 1109, 1110, 1111, 1112]] (K' := [.code [(9, 0)] 0, .code [] 10]) (σ' := ⟨[(1, .ptr 1 0), (2, .ptr 2 0), (5, .sl 1107 0), (8, .sl 1111 0), (9, .sl 1112 0)], [(1, .box [.int .i64 a0, .list (.ints a1)]), (2, .box [.sl 1108 0, .sl 1109 0, .sl 1110 0]), (1107, .arr 22 0 0 (.intss v6)), (1108, .arr 22 0 0 (.intss [])), (1109, .arr 3 0 0 (.ints [])), (1110, .arr 29 0 0 (.rats [])), (1111, .arr 3 0 0 (.ints (v7.set ((IntKind.i64.wrap ((IntKind.i64.wrap ((a1.length : Int) - (1 : Int))) - (1 : Int))).toNat) (0 : Int)))), (1112, .arr 29 0 0 (.rats (v8.set ((IntKind.i64.wrap ((IntKind.i64.wrap ((a1.length : Int) - (1 : Int))) - (1 : Int))).toNat) ⟨v10, v11⟩)))]⟩) rfl ⟨hg15, (w_impl_whole v9 (v10, v11) hk14), (w_impl_GrandValue a0 a1 v9 hk13), ((w_impl_minusValues a0 a1 (1 : Int) (IntKind.i64.wrap ((a1.length : Int) - (1 : Int))) v8 hk12).swap 1000 1112), trivial⟩ rfl ?_
        obtain ⟨hg16, h⟩ := grd_some h
        obtain ⟨v12, hk17, h⟩ := bind_some h
        obtain ⟨hg18, h⟩ := grd_some h
        refine Tri.run 1 [.r ⟨[], .sl 1113 0, [(1113, .arr 3 0 0 (.ints v12))]⟩] [.rever 1107, .rever 1113, .swap 1107 1000, .swap 1113 1001, .swap 1112 1002, .keep [2, 3] [2, 1000, 1001, 1002]] (K' := [.code [] 10]) (σ' := ⟨[(2, .ptr 2 0), (3, .bool true)], [(2, .box [.sl 1000 0, .sl 1001 0, .sl 1002 0]), (1000, .arr 22 0 0 (.intss (v6 ++ [v7.set ((IntKind.i64.wrap ((IntKind.i64.wrap ((a1.length : Int) - (1 : Int))) - (1 : Int))).toNat) (0 : Int)]))), (1001, .arr 3 0 0 (.ints (v12 ++ [(1 : Int)]))), (1002, .arr 29 0 0 (.rats (v8.set ((IntKind.i64.wrap ((IntKind.i64.wrap ((a1.length : Int) - (1 : Int))) - (1 : Int))).toNat) ⟨v10, v11⟩)))]⟩) rfl ⟨hg18, ((w_impl_times a0 (0 : Int) v12 hk17).swap 1000 1113), hg16, trivial⟩ rfl ?_
        have h := Option.some.inj h
        subst h
        exact Tri.ret rfl ⟨.inl rfl, rfl, rfl⟩
/-! laws.eqIntS -/
noncomputable def E49_laws_eqIntS : Env := ⟨Try.prog, tys, (Try.f49.body).getD .skip, 26, tysOk, mixedOk⟩
abbrev q_laws_eqIntS (r : Bool) (σ' : ASt) : Prop := resAV E49_laws_eqIntS.T σ' Try.f49.results.toList = some (.bool r) ∧ keepO σ'.ob (namesO []) = []
noncomputable def l_laws_eqIntS_0 (a0 : List Int) (a1 : List Int) (v1 : Int) : Option (Int ⊕ (Unit ⊕ Bool)) :=
bif decide (v1 < (a0.length : Int)) then
(grd ((0 : Int) ≤ v1 ∧ v1 < (a0.length : Int)) <|
grd ((0 : Int) ≤ v1 ∧ v1 < (a1.length : Int)) <|
bif (a0.getD v1.toNat 0) != (a1.getD v1.toNat 0) then
(some (.inr (.inr false)))
else
(some (.inl (IntKind.i64.wrap (v1 + (1 : Int))))))
else
(some (.inr (.inl ())))
noncomputable def m_laws_eqIntS (a0 : List Int) (a1 : List Int) : Option Bool :=
bif (a0.length : Int) != (a1.length : Int) then
(some false)
else
((iter (l_laws_eqIntS_0 a0 a1) (0 : Int)).bind fun
| (.inl _) => (
some true)
| (.inr r) => some r)
theorem w_laws_eqIntS (a0 : List Int) (a1 : List Int) (r : Bool) (h : m_laws_eqIntS a0 a1 = some r) : AM.Spec Try.prog 49 [.list (.ints a0), .list (.ints a1)] [] (.bool r) [] := by
  refine spec_of (E := E49_laws_eqIntS) Try.func49 rfl rfl rfl rfl ?_
  refine Tri.run 2 [] [.keep [0, 1, 10] []] (K' := [.code [(1, 0)] 1, .code [] 2]) (σ' := ⟨[(0, .list (.ints a0)), (1, .list (.ints a1)), (10, .bool ((a0.length : Int) != (a1.length : Int)))], []⟩) rfl trivial rfl ?_
  rcases bif_some h with ⟨hd1, h⟩ | ⟨hd1, h⟩
  · refine Tri.run 2 [.g true] [.keep [4] []] (K' := [.code [(1, 0), (1, 0)] 1, .code [] 2]) (σ' := ⟨[(4, .bool false)], []⟩) rfl ⟨hd1, trivial⟩ rfl ?_
    have h := Option.some.inj h
    subst h
    exact Tri.ret rfl ⟨.inl rfl, rfl, rfl⟩
  · refine Tri.run 2 [.g false] [.keep [0, 1, 5] []] (K' := [.code [(2, 0), (1, 0)] 0, .blk 0, .code [] 3]) (σ' := ⟨[(0, .list (.ints a0)), (1, .list (.ints a1)), (5, .int .i64 (0 : Int))], []⟩) rfl ⟨hd1, trivial⟩ rfl ?_
    obtain ⟨x1, hk6, h⟩ := bind_some h
    refine Tri.loop (K1 := [.code [(2, 0), (1, 0), (0, 0)] 0]) (K2 := [.blk 0, .code [] 3]) (fun v1 => ⟨[(0, .list (.ints a0)), (1, .list (.ints a1)), (5, .int .i64 v1)], []⟩) (fun x e σ' => match x with | (.inl _) => e = .exit 0 ∧ σ' = ⟨[], []⟩ | (.inr r) => e = .ret ∧ q_laws_eqIntS r σ') hk6 rfl rfl ?_ ?_
    · intro v1 x hs
      clear h
      have h := hs
      clear hs
      refine Tri.run 1 [] [.keep [0, 1, 5, 14] []] (K' := [.code [(2, 0), (1, 0), (0, 0), (0, 0)] 1, .code [(2, 0), (1, 0), (0, 0)] 1]) (σ' := ⟨[(0, .list (.ints a0)), (1, .list (.ints a1)), (5, .int .i64 v1), (14, .bool (decide (v1 < (a0.length : Int))))], []⟩) rfl trivial rfl ?_
      rcases bif_some h with ⟨hd2, h⟩ | ⟨hd2, h⟩
      · obtain ⟨hg3, h⟩ := grd_some h
        obtain ⟨hg4, h⟩ := grd_some h
        refine Tri.run 2 [.g true] [.keep [0, 1, 5, 25] []] (K' := [.code [(2, 0), (1, 0), (0, 0), (1, 0), (0, 0)] 1, .blk 1, .code [(2, 0), (1, 0), (0, 0)] 2]) (σ' := ⟨[(0, .list (.ints a0)), (1, .list (.ints a1)), (5, .int .i64 v1), (25, .bool ((a0.getD v1.toNat 0) != (a1.getD v1.toNat 0)))], []⟩) rfl ⟨hg4, hg3, hd2, trivial⟩ rfl ?_
        rcases bif_some h with ⟨hd5, h⟩ | ⟨hd5, h⟩
        · refine Tri.run 2 [.g true] [.keep [4] []] (K' := [.code [(2, 0), (1, 0), (0, 0), (1, 0), (0, 0), (1, 0)] 1, .blk 1, .code [(2, 0), (1, 0), (0, 0)] 2]) (σ' := ⟨[(4, .bool false)], []⟩) rfl ⟨hd5, trivial⟩ rfl ?_
          have h := Option.some.inj h
          subst h
          exact Tri.ret rfl ⟨nofun, rfl, rfl, rfl⟩
        · refine Tri.run 2 [.g false] [.keep [0, 1, 5] []] (K' := []) (σ' := ⟨[(0, .list (.ints a0)), (1, .list (.ints a1)), (5, .int .i64 (IntKind.i64.wrap (v1 + (1 : Int))))], []⟩) rfl ⟨hd5, trivial⟩ rfl ?_
          have h := Option.some.inj h
          subst h
          exact Tri.nil ⟨rfl, rfl⟩
      · refine Tri.run 1 [.g false] [.keep [] []] (K' := [.code [(2, 0), (1, 0), (0, 0), (0, 0), (1, 1)] 0, .code [(2, 0), (1, 0), (0, 0)] 1]) (σ' := ⟨[], []⟩) rfl ⟨hd2, trivial⟩ rfl ?_
        have h := Option.some.inj h
        subst h
        exact Tri.out 0 rfl ⟨nofun, rfl, rfl⟩
    · intro e σ' hne hq
      rcases x1 with _ | r
      · obtain ⟨rfl, rfl⟩ := hq
        refine TriX.exit (K' := [.code [] 3]) rfl ?_
        refine Tri.run 1 [] [.keep [4] []] (K' := [.code [] 4]) (σ' := ⟨[(4, .bool true)], []⟩) rfl trivial rfl ?_
        have h := Option.some.inj h
        subst h
        exact Tri.ret rfl ⟨.inl rfl, rfl, rfl⟩
      · obtain ⟨rfl, hq⟩ := hq
        have h := Option.some.inj h
        subst h
        exact TriX.ret ⟨.inl rfl, hq⟩
/-! laws.eqIntSS -/
noncomputable def E110_laws_eqIntSS : Env := ⟨Try.prog, tys, (Try.f110.body).getD .skip, 27, tysOk, mixedOk⟩
abbrev q_laws_eqIntSS (r : Bool) (σ' : ASt) : Prop := resAV E110_laws_eqIntSS.T σ' Try.f110.results.toList = some (.bool r) ∧ keepO σ'.ob (namesO []) = []
noncomputable def l_laws_eqIntSS_0 (a0 : List (List Int)) (a1 : List (List Int)) (v1 : Int) : Option (Int ⊕ (Unit ⊕ Bool)) :=
bif decide (v1 < (a0.length : Int)) then
(grd ((0 : Int) ≤ v1 ∧ v1 < (a0.length : Int)) <|
grd ((0 : Int) ≤ v1 ∧ v1 < (a1.length : Int)) <|
(m_laws_eqIntS (a0.getD v1.toNat []) (a1.getD v1.toNat [])).bind fun v2 =>
bif !v2 then
(some (.inr (.inr false)))
else
(some (.inl (IntKind.i64.wrap (v1 + (1 : Int))))))
else
(some (.inr (.inl ())))
noncomputable def m_laws_eqIntSS (a0 : List (List Int)) (a1 : List (List Int)) : Option Bool :=
bif (a0.length : Int) != (a1.length : Int) then
(some false)
else
((iter (l_laws_eqIntSS_0 a0 a1) (0 : Int)).bind fun
| (.inl _) => (
some true)
| (.inr r) => some r)
theorem w_laws_eqIntSS (a0 : List (List Int)) (a1 : List (List Int)) (r : Bool) (h : m_laws_eqIntSS a0 a1 = some r) : AM.Spec Try.prog 110 [.list (.intss a0), .list (.intss a1)] [] (.bool r) [] := by
  refine spec_of (E := E110_laws_eqIntSS) Try.func110 rfl rfl rfl rfl ?_
  refine Tri.run 2 [] [.keep [0, 1, 10] []] (K' := [.code [(1, 0)] 1, .code [] 2]) (σ' := ⟨[(0, .list (.intss a0)), (1, .list (.intss a1)), (10, .bool ((a0.length : Int) != (a1.length : Int)))], []⟩) rfl trivial rfl ?_
  rcases bif_some h with ⟨hd1, h⟩ | ⟨hd1, h⟩
  · refine Tri.run 2 [.g true] [.keep [4] []] (K' := [.code [(1, 0), (1, 0)] 1, .code [] 2]) (σ' := ⟨[(4, .bool false)], []⟩) rfl ⟨hd1, trivial⟩ rfl ?_
    have h := Option.some.inj h
    subst h
    exact Tri.ret rfl ⟨.inl rfl, rfl, rfl⟩
  · refine Tri.run 2 [.g false] [.keep [0, 1, 5] []] (K' := [.code [(2, 0), (1, 0)] 0, .blk 0, .code [] 3]) (σ' := ⟨[(0, .list (.intss a0)), (1, .list (.intss a1)), (5, .int .i64 (0 : Int))], []⟩) rfl ⟨hd1, trivial⟩ rfl ?_
    obtain ⟨x1, hk7, h⟩ := bind_some h
    refine Tri.loop (K1 := [.code [(2, 0), (1, 0), (0, 0)] 0]) (K2 := [.blk 0, .code [] 3]) (fun v1 => ⟨[(0, .list (.intss a0)), (1, .list (.intss a1)), (5, .int .i64 v1)], []⟩) (fun x e σ' => match x with | (.inl _) => e = .exit 0 ∧ σ' = ⟨[], []⟩ | (.inr r) => e = .ret ∧ q_laws_eqIntSS r σ') hk7 rfl rfl ?_ ?_
    · intro v1 x hs
      clear h
      have h := hs
      clear hs
      refine Tri.run 1 [] [.keep [0, 1, 5, 14] []] (K' := [.code [(2, 0), (1, 0), (0, 0), (0, 0)] 1, .code [(2, 0), (1, 0), (0, 0)] 1]) (σ' := ⟨[(0, .list (.intss a0)), (1, .list (.intss a1)), (5, .int .i64 v1), (14, .bool (decide (v1 < (a0.length : Int))))], []⟩) rfl trivial rfl ?_
      rcases bif_some h with ⟨hd2, h⟩ | ⟨hd2, h⟩
      · obtain ⟨hg3, h⟩ := grd_some h
        obtain ⟨hg4, h⟩ := grd_some h
        obtain ⟨v2, hk5, h⟩ := bind_some h
        refine Tri.run 2 [.g true, .r ⟨[], .bool v2, []⟩] [.keep [0, 1, 5, 26] []] (K' := [.code [(2, 0), (1, 0), (0, 0), (1, 0), (0, 0)] 1, .blk 1, .code [(2, 0), (1, 0), (0, 0)] 2]) (σ' := ⟨[(0, .list (.intss a0)), (1, .list (.intss a1)), (5, .int .i64 v1), (26, .bool (!v2))], []⟩) rfl ⟨(w_laws_eqIntS (a0.getD v1.toNat []) (a1.getD v1.toNat []) v2 hk5), hg4, hg3, hd2, trivial⟩ rfl ?_
        rcases bif_some h with ⟨hd6, h⟩ | ⟨hd6, h⟩
        · refine Tri.run 2 [.g true] [.keep [4] []] (K' := [.code [(2, 0), (1, 0), (0, 0), (1, 0), (0, 0), (1, 0)] 1, .blk 1, .code [(2, 0), (1, 0), (0, 0)] 2]) (σ' := ⟨[(4, .bool false)], []⟩) rfl ⟨hd6, trivial⟩ rfl ?_
          have h := Option.some.inj h
          subst h
          exact Tri.ret rfl ⟨nofun, rfl, rfl, rfl⟩
        · refine Tri.run 2 [.g false] [.keep [0, 1, 5] []] (K' := []) (σ' := ⟨[(0, .list (.intss a0)), (1, .list (.intss a1)), (5, .int .i64 (IntKind.i64.wrap (v1 + (1 : Int))))], []⟩) rfl ⟨hd6, trivial⟩ rfl ?_
          have h := Option.some.inj h
          subst h
          exact Tri.nil ⟨rfl, rfl⟩
      · refine Tri.run 1 [.g false] [.keep [] []] (K' := [.code [(2, 0), (1, 0), (0, 0), (0, 0), (1, 1)] 0, .code [(2, 0), (1, 0), (0, 0)] 1]) (σ' := ⟨[], []⟩) rfl ⟨hd2, trivial⟩ rfl ?_
        have h := Option.some.inj h
        subst h
        exact Tri.out 0 rfl ⟨nofun, rfl, rfl⟩
    · intro e σ' hne hq
      rcases x1 with _ | r
      · obtain ⟨rfl, rfl⟩ := hq
        refine TriX.exit (K' := [.code [] 3]) rfl ?_
        refine Tri.run 1 [] [.keep [4] []] (K' := [.code [] 4]) (σ' := ⟨[(4, .bool true)], []⟩) rfl trivial rfl ?_
        have h := Option.some.inj h
        subst h
        exact Tri.ret rfl ⟨.inl rfl, rfl, rfl⟩
      · obtain ⟨rfl, hq⟩ := hq
        have h := Option.some.inj h
        subst h
        exact TriX.ret ⟨.inl rfl, hq⟩
/-! laws.eqRat -/
noncomputable def E21_laws_eqRat : Env := ⟨Try.prog, tys, (Try.f21.body).getD .skip, 15, tysOk, mixedOk⟩
abbrev q_laws_eqRat (r : Bool) (σ' : ASt) : Prop := resAV E21_laws_eqRat.T σ' Try.f21.results.toList = some (.bool r) ∧ keepO σ'.ob (namesO []) = []
noncomputable def m_laws_eqRat (a0 : Int) (a1 : Int) (a2 : Int) (a3 : Int) : Option Bool :=
bif a0 != a2 then
(some false)
else
(bif a1 != a3 then
(some false)
else
(some true))
theorem w_laws_eqRat (a0 : Int) (a1 : Int) (a2 : Int) (a3 : Int) (r : Bool) (h : m_laws_eqRat a0 a1 a2 a3 = some r) : AM.Spec Try.prog 21 [.agg [.int .i64 a0, .int .i64 a1], .agg [.int .i64 a2, .int .i64 a3]] [] (.bool r) [] := by
  refine spec_of (E := E21_laws_eqRat) Try.func21 rfl rfl rfl rfl ?_
  refine Tri.run 2 [] [.keep [2, 3, 9] [2, 3]] (K' := [.code [(1, 0)] 1, .code [] 2]) (σ' := ⟨[(2, .ptr 2 0), (3, .ptr 3 0), (9, .bool (a0 != a2))], [(2, .box [.int .i64 a0, .int .i64 a1]), (3, .box [.int .i64 a2, .int .i64 a3])]⟩) rfl trivial rfl ?_
  rcases bif_some h with ⟨hd1, h⟩ | ⟨hd1, h⟩
  · refine Tri.run 2 [.g true] [.keep [4] []] (K' := [.code [(1, 0), (1, 0)] 1, .code [] 2]) (σ' := ⟨[(4, .bool false)], []⟩) rfl ⟨hd1, trivial⟩ rfl ?_
    have h := Option.some.inj h
    subst h
    exact Tri.ret rfl ⟨.inl rfl, rfl, rfl⟩
  · refine Tri.run 2 [.g false] [.keep [14] []] (K' := [.code [(2, 0)] 1, .code [] 3]) (σ' := ⟨[(14, .bool (a1 != a3))], []⟩) rfl ⟨hd1, trivial⟩ rfl ?_
    rcases bif_some h with ⟨hd2, h⟩ | ⟨hd2, h⟩
    · refine Tri.run 2 [.g true] [.keep [4] []] (K' := [.code [(2, 0), (1, 0)] 1, .code [] 3]) (σ' := ⟨[(4, .bool false)], []⟩) rfl ⟨hd2, trivial⟩ rfl ?_
      have h := Option.some.inj h
      subst h
      exact Tri.ret rfl ⟨.inl rfl, rfl, rfl⟩
    · refine Tri.run 2 [.g false] [.keep [4] []] (K' := [.code [] 4]) (σ' := ⟨[(4, .bool true)], []⟩) rfl ⟨hd2, trivial⟩ rfl ?_
      have h := Option.some.inj h
      subst h
      exact Tri.ret rfl ⟨.inl rfl, rfl, rfl⟩
/-! laws.eqRatS -/
noncomputable def E23_laws_eqRatS : Env := ⟨Try.prog, tys, (Try.f23.body).getD .skip, 27, tysOk, mixedOk⟩
abbrev q_laws_eqRatS (r : Bool) (σ' : ASt) : Prop := resAV E23_laws_eqRatS.T σ' Try.f23.results.toList = some (.bool r) ∧ keepO σ'.ob (namesO []) = []
noncomputable def l_laws_eqRatS_0 (a0 : List Q) (a1 : List Q) (v1 : Int) : Option (Int ⊕ (Unit ⊕ Bool)) :=
bif decide (v1 < (a0.length : Int)) then
(grd ((0 : Int) ≤ v1 ∧ v1 < (a0.length : Int)) <|
grd ((0 : Int) ≤ v1 ∧ v1 < (a1.length : Int)) <|
(m_laws_eqRat ((a0.getD v1.toNat ⟨0, 0⟩).num) ((a0.getD v1.toNat ⟨0, 0⟩).den) ((a1.getD v1.toNat ⟨0, 0⟩).num) ((a1.getD v1.toNat ⟨0, 0⟩).den)).bind fun v2 =>
bif !v2 then
(some (.inr (.inr false)))
else
(some (.inl (IntKind.i64.wrap (v1 + (1 : Int))))))
else
(some (.inr (.inl ())))
noncomputable def m_laws_eqRatS (a0 : List Q) (a1 : List Q) : Option Bool :=
bif (a0.length : Int) != (a1.length : Int) then
(some false)
else
((iter (l_laws_eqRatS_0 a0 a1) (0 : Int)).bind fun
| (.inl _) => (
some true)
| (.inr r) => some r)
theorem w_laws_eqRatS (a0 : List Q) (a1 : List Q) (r : Bool) (h : m_laws_eqRatS a0 a1 = some r) : AM.Spec Try.prog 23 [.list (.rats a0), .list (.rats a1)] [] (.bool r) [] := by
  refine spec_of (E := E23_laws_eqRatS) Try.func23 rfl rfl rfl rfl ?_
  refine Tri.run 2 [] [.keep [0, 1, 10] []] (K' := [.code [(1, 0)] 1, .code [] 2]) (σ' := ⟨[(0, .list (.rats a0)), (1, .list (.rats a1)), (10, .bool ((a0.length : Int) != (a1.length : Int)))], []⟩) rfl trivial rfl ?_
  rcases bif_some h with ⟨hd1, h⟩ | ⟨hd1, h⟩
  · refine Tri.run 2 [.g true] [.keep [4] []] (K' := [.code [(1, 0), (1, 0)] 1, .code [] 2]) (σ' := ⟨[(4, .bool false)], []⟩) rfl ⟨hd1, trivial⟩ rfl ?_
    have h := Option.some.inj h
    subst h
    exact Tri.ret rfl ⟨.inl rfl, rfl, rfl⟩
  · refine Tri.run 2 [.g false] [.keep [0, 1, 5] []] (K' := [.code [(2, 0), (1, 0)] 0, .blk 0, .code [] 3]) (σ' := ⟨[(0, .list (.rats a0)), (1, .list (.rats a1)), (5, .int .i64 (0 : Int))], []⟩) rfl ⟨hd1, trivial⟩ rfl ?_
    obtain ⟨x1, hk7, h⟩ := bind_some h
    refine Tri.loop (K1 := [.code [(2, 0), (1, 0), (0, 0)] 0]) (K2 := [.blk 0, .code [] 3]) (fun v1 => ⟨[(0, .list (.rats a0)), (1, .list (.rats a1)), (5, .int .i64 v1)], []⟩) (fun x e σ' => match x with | (.inl _) => e = .exit 0 ∧ σ' = ⟨[], []⟩ | (.inr r) => e = .ret ∧ q_laws_eqRatS r σ') hk7 rfl rfl ?_ ?_
    · intro v1 x hs
      clear h
      have h := hs
      clear hs
      refine Tri.run 1 [] [.keep [0, 1, 5, 14] []] (K' := [.code [(2, 0), (1, 0), (0, 0), (0, 0)] 1, .code [(2, 0), (1, 0), (0, 0)] 1]) (σ' := ⟨[(0, .list (.rats a0)), (1, .list (.rats a1)), (5, .int .i64 v1), (14, .bool (decide (v1 < (a0.length : Int))))], []⟩) rfl trivial rfl ?_
      rcases bif_some h with ⟨hd2, h⟩ | ⟨hd2, h⟩
      · obtain ⟨hg3, h⟩ := grd_some h
        obtain ⟨hg4, h⟩ := grd_some h
        obtain ⟨v2, hk5, h⟩ := bind_some h
        refine Tri.run 2 [.g true, .r ⟨[], .bool v2, []⟩] [.keep [0, 1, 5, 26] []] (K' := [.code [(2, 0), (1, 0), (0, 0), (1, 0), (0, 0)] 1, .blk 1, .code [(2, 0), (1, 0), (0, 0)] 2]) (σ' := ⟨[(0, .list (.rats a0)), (1, .list (.rats a1)), (5, .int .i64 v1), (26, .bool (!v2))], []⟩) rfl ⟨(w_laws_eqRat ((a0.getD v1.toNat ⟨0, 0⟩).num) ((a0.getD v1.toNat ⟨0, 0⟩).den) ((a1.getD v1.toNat ⟨0, 0⟩).num) ((a1.getD v1.toNat ⟨0, 0⟩).den) v2 hk5), hg4, hg3, hd2, trivial⟩ rfl ?_
        rcases bif_some h with ⟨hd6, h⟩ | ⟨hd6, h⟩
        · refine Tri.run 2 [.g true] [.keep [4] []] (K' := [.code [(2, 0), (1, 0), (0, 0), (1, 0), (0, 0), (1, 0)] 1, .blk 1, .code [(2, 0), (1, 0), (0, 0)] 2]) (σ' := ⟨[(4, .bool false)], []⟩) rfl ⟨hd6, trivial⟩ rfl ?_
          have h := Option.some.inj h
          subst h
          exact Tri.ret rfl ⟨nofun, rfl, rfl, rfl⟩
        · refine Tri.run 2 [.g false] [.keep [0, 1, 5] []] (K' := []) (σ' := ⟨[(0, .list (.rats a0)), (1, .list (.rats a1)), (5, .int .i64 (IntKind.i64.wrap (v1 + (1 : Int))))], []⟩) rfl ⟨hd6, trivial⟩ rfl ?_
          have h := Option.some.inj h
          subst h
          exact Tri.nil ⟨rfl, rfl⟩
      · refine Tri.run 1 [.g false] [.keep [] []] (K' := [.code [(2, 0), (1, 0), (0, 0), (0, 0), (1, 1)] 0, .code [(2, 0), (1, 0), (0, 0)] 1]) (σ' := ⟨[], []⟩) rfl ⟨hd2, trivial⟩ rfl ?_
        have h := Option.some.inj h
        subst h
        exact Tri.out 0 rfl ⟨nofun, rfl, rfl⟩
    · intro e σ' hne hq
      rcases x1 with _ | r
      · obtain ⟨rfl, rfl⟩ := hq
        refine TriX.exit (K' := [.code [] 3]) rfl ?_
        refine Tri.run 1 [] [.keep [4] []] (K' := [.code [] 4]) (σ' := ⟨[(4, .bool true)], []⟩) rfl trivial rfl ?_
        have h := Option.some.inj h
        subst h
        exact Tri.ret rfl ⟨.inl rfl, rfl, rfl⟩
      · obtain ⟨rfl, hq⟩ := hq
        have h := Option.some.inj h
        subst h
        exact TriX.ret ⟨.inl rfl, hq⟩
/-! laws.eqLP -/
noncomputable def E40_laws_eqLP : Env := ⟨Try.prog, tys, (Try.f40.body).getD .skip, 23, tysOk, mixedOk⟩
abbrev q_laws_eqLP (r : Bool) (σ' : ASt) : Prop := resAV E40_laws_eqLP.T σ' Try.f40.results.toList = some (.bool r) ∧ keepO σ'.ob (namesO []) = []
noncomputable def m_laws_eqLP (a0 : List (List Int)) (a1 : List Int) (a2 : List Q) (a3 : List (List Int)) (a4 : List Int) (a5 : List Q) : Option Bool :=
(m_laws_eqIntSS a0 a3).bind fun v1 =>
bif !v1 then
(some false)
else
((m_laws_eqIntS a1 a4).bind fun v2 =>
bif !v2 then
(some false)
else
((m_laws_eqRatS a2 a5).bind fun v3 =>
bif !v3 then
(some false)
else
(some true)))
theorem w_laws_eqLP (a0 : List (List Int)) (a1 : List Int) (a2 : List Q) (a3 : List (List Int)) (a4 : List Int) (a5 : List Q) (r : Bool) (h : m_laws_eqLP a0 a1 a2 a3 a4 a5 = some r) : AM.Spec Try.prog 40 [.agg [.list (.intss a0), .list (.ints a1), .list (.rats a2)], .agg [.list (.intss a3), .list (.ints a4), .list (.rats a5)]] [] (.bool r) [] := by
  refine spec_of (E := E40_laws_eqLP) Try.func40 rfl rfl rfl rfl ?_
  refine Tri.run 1 [] [.keep [2, 3] [2, 3]] (K' := [.code [(1, 0), (0, 0)] 0, .code [(1, 0)] 1, .code [] 2]) (σ' := ⟨[(2, .ptr 2 0), (3, .ptr 3 0)], [(2, .box [.list (.intss a0), .list (.ints a1), .list (.rats a2)]), (3, .box [.list (.intss a3), .list (.ints a4), .list (.rats a5)])]⟩) rfl trivial rfl ?_
  obtain ⟨v1, hk1, h⟩ := bind_some h
  refine Tri.run 1 [.r ⟨[], .bool v1, []⟩] [.keep [2, 3, 10] [2, 3]] (K' := [.code [(1, 0)] 1, .code [] 2]) (σ' := ⟨[(2, .ptr 2 0), (3, .ptr 3 0), (10, .bool (!v1))], [(2, .box [.list (.intss a0), .list (.ints a1), .list (.rats a2)]), (3, .box [.list (.intss a3), .list (.ints a4), .list (.rats a5)])]⟩) rfl ⟨(w_laws_eqIntSS a0 a3 v1 hk1), trivial⟩ rfl ?_
  rcases bif_some h with ⟨hd2, h⟩ | ⟨hd2, h⟩
  · refine Tri.run 2 [.g true] [.keep [4] []] (K' := [.code [(1, 0), (1, 0)] 1, .code [] 2]) (σ' := ⟨[(4, .bool false)], []⟩) rfl ⟨hd2, trivial⟩ rfl ?_
    have h := Option.some.inj h
    subst h
    exact Tri.ret rfl ⟨.inl rfl, rfl, rfl⟩
  · obtain ⟨v2, hk3, h⟩ := bind_some h
    refine Tri.run 2 [.g false, .r ⟨[], .bool v2, []⟩] [.keep [2, 3, 16] [2, 3]] (K' := [.code [(2, 0)] 1, .code [] 3]) (σ' := ⟨[(2, .ptr 2 0), (3, .ptr 3 0), (16, .bool (!v2))], [(2, .box [.list (.intss a0), .list (.ints a1), .list (.rats a2)]), (3, .box [.list (.intss a3), .list (.ints a4), .list (.rats a5)])]⟩) rfl ⟨(w_laws_eqIntS a1 a4 v2 hk3), hd2, trivial⟩ rfl ?_
    rcases bif_some h with ⟨hd4, h⟩ | ⟨hd4, h⟩
    · refine Tri.run 2 [.g true] [.keep [4] []] (K' := [.code [(2, 0), (1, 0)] 1, .code [] 3]) (σ' := ⟨[(4, .bool false)], []⟩) rfl ⟨hd4, trivial⟩ rfl ?_
      have h := Option.some.inj h
      subst h
      exact Tri.ret rfl ⟨.inl rfl, rfl, rfl⟩
    · obtain ⟨v3, hk5, h⟩ := bind_some h
      refine Tri.run 2 [.g false, .r ⟨[], .bool v3, []⟩] [.keep [22] []] (K' := [.code [(3, 0)] 1, .code [] 4]) (σ' := ⟨[(22, .bool (!v3))], []⟩) rfl ⟨(w_laws_eqRatS a2 a5 v3 hk5), hd4, trivial⟩ rfl ?_
      rcases bif_some h with ⟨hd6, h⟩ | ⟨hd6, h⟩
      · refine Tri.run 2 [.g true] [.keep [4] []] (K' := [.code [(3, 0), (1, 0)] 1, .code [] 4]) (σ' := ⟨[(4, .bool false)], []⟩) rfl ⟨hd6, trivial⟩ rfl ?_
        have h := Option.some.inj h
        subst h
        exact Tri.ret rfl ⟨.inl rfl, rfl, rfl⟩
      · refine Tri.run 2 [.g false] [.keep [4] []] (K' := [.code [] 5]) (σ' := ⟨[(4, .bool true)], []⟩) rfl ⟨hd6, trivial⟩ rfl ?_
        have h := Option.some.inj h
        subst h
        exact Tri.ret rfl ⟨.inl rfl, rfl, rfl⟩
/-! laws.eqGame -/
noncomputable def E22_laws_eqGame : Env := ⟨Try.prog, tys, (Try.f22.body).getD .skip, 16, tysOk, mixedOk⟩
abbrev q_laws_eqGame (r : Bool) (σ' : ASt) : Prop := resAV E22_laws_eqGame.T σ' Try.f22.results.toList = some (.bool r) ∧ keepO σ'.ob (namesO []) = []
noncomputable def m_laws_eqGame (a0 : Int) (a1 : List Int) (a2 : Int) (a3 : List Int) : Option Bool :=
bif a0 != a2 then
(some false)
else
((m_laws_eqIntS a1 a3).bind fun v1 =>
bif !v1 then
(some false)
else
(some true))
theorem w_laws_eqGame (a0 : Int) (a1 : List Int) (a2 : Int) (a3 : List Int) (r : Bool) (h : m_laws_eqGame a0 a1 a2 a3 = some r) : AM.Spec Try.prog 22 [.agg [.int .i64 a0, .list (.ints a1)], .agg [.int .i64 a2, .list (.ints a3)]] [] (.bool r) [] := by
  refine spec_of (E := E22_laws_eqGame) Try.func22 rfl rfl rfl rfl ?_
  refine Tri.run 2 [] [.keep [2, 3, 9] [2, 3]] (K' := [.code [(1, 0)] 1, .code [] 2]) (σ' := ⟨[(2, .ptr 2 0), (3, .ptr 3 0), (9, .bool (a0 != a2))], [(2, .box [.int .i64 a0, .list (.ints a1)]), (3, .box [.int .i64 a2, .list (.ints a3)])]⟩) rfl trivial rfl ?_
  rcases bif_some h with ⟨hd1, h⟩ | ⟨hd1, h⟩
  · refine Tri.run 2 [.g true] [.keep [4] []] (K' := [.code [(1, 0), (1, 0)] 1, .code [] 2]) (σ' := ⟨[(4, .bool false)], []⟩) rfl ⟨hd1, trivial⟩ rfl ?_
    have h := Option.some.inj h
    subst h
    exact Tri.ret rfl ⟨.inl rfl, rfl, rfl⟩
  · obtain ⟨v1, hk2, h⟩ := bind_some h
    refine Tri.run 2 [.g false, .r ⟨[], .bool v1, []⟩] [.keep [15] []] (K' := [.code [(2, 0)] 1, .code [] 3]) (σ' := ⟨[(15, .bool (!v1))], []⟩) rfl ⟨(w_laws_eqIntS a1 a3 v1 hk2), hd1, trivial⟩ rfl ?_
    rcases bif_some h with ⟨hd3, h⟩ | ⟨hd3, h⟩
    · refine Tri.run 2 [.g true] [.keep [4] []] (K' := [.code [(2, 0), (1, 0)] 1, .code [] 3]) (σ' := ⟨[(4, .bool false)], []⟩) rfl ⟨hd3, trivial⟩ rfl ?_
      have h := Option.some.inj h
      subst h
      exact Tri.ret rfl ⟨.inl rfl, rfl, rfl⟩
    · refine Tri.run 2 [.g false] [.keep [4] []] (K' := [.code [] 4]) (σ' := ⟨[(4, .bool true)], []⟩) rfl ⟨hd3, trivial⟩ rfl ?_
      have h := Option.some.inj h
      subst h
      exact Tri.ret rfl ⟨.inl rfl, rfl, rfl⟩
/-! laws.markIntS -/
noncomputable def E50_laws_markIntS : Env := ⟨Try.prog, tys, (Try.f50.body).getD .skip, 19, tysOk, mixedOk⟩
abbrev q_laws_markIntS_io1 (r : Int × (List Int)) (σ' : ASt) : Prop := resAV E50_laws_markIntS.T σ' Try.f50.results.toList = some (.int .i64 r.1) ∧ keepO σ'.ob (namesO [(2020, .arr 3 0 0 (.ints r.2))]) = [(2020, .arr 3 0 0 (.ints r.2))]
noncomputable def l_laws_markIntS_io1_0 : (Int × Int × (List Int)) → Option ((Int × Int × (List Int)) ⊕ ((Int × (List Int))))
  | (v1, v2, v3) => (
bif decide (v2 < (v3.length : Int)) then
(grd ((0 : Int) ≤ v2 ∧ v2 < (v3.length : Int)) <|
some (.inl (IntKind.i64.wrap (v1 + (1 : Int)), IntKind.i64.wrap (v2 + (1 : Int)), v3.set v2.toNat v1)))
else
(some (.inr (v1, v3))))
noncomputable def m_laws_markIntS_io1 (a0 : List Int) (a1 : Int) : Option (Int × (List Int)) :=
(iter (l_laws_markIntS_io1_0) (a1, (0 : Int), a0)).bind fun
| (v4, v5) => (
some (v4, v5))
theorem w_laws_markIntS_io1 (a0 : List Int) (a1 : Int) (r : Int × (List Int)) (h : m_laws_markIntS_io1 a0 a1 = some r) : AM.Spec Try.prog 50 [.sl 2020 0, .int .i64 a1] [(2020, .arr 3 0 0 (.ints a0))] (.int .i64 r.1) [(2020, .arr 3 0 0 (.ints r.2))] := by
  refine spec_of (E := E50_laws_markIntS) Try.func50 rfl rfl rfl rfl ?_
  refine Tri.run 2 [] [.keep [0, 1, 5] [2020]] (K' := [.code [(1, 0), (1, 0)] 0, .blk 0, .code [] 2]) (σ' := ⟨[(0, .sl 2020 0), (1, .int .i64 a1), (5, .int .i64 (0 : Int))], [(2020, .arr 3 0 0 (.ints a0))]⟩) rfl trivial rfl ?_
  obtain ⟨x1, hk3, h⟩ := bind_some h
  refine Tri.loop (K1 := [.code [(1, 0), (1, 0), (0, 0)] 0]) (K2 := [.blk 0, .code [] 2]) (fun (v1, v2, v3) => ⟨[(0, .sl 2020 0), (1, .int .i64 v1), (5, .int .i64 v2)], [(2020, .arr 3 0 0 (.ints v3))]⟩) (fun x e σ' => match x with | (v4, v5) => e = .exit 0 ∧ σ' = ⟨[(1, .int .i64 v4)], [(2020, .arr 3 0 0 (.ints v5))]⟩) hk3 rfl rfl ?_ ?_
  · intro s x hs
    clear h
    have h := hs
    clear hs
    obtain ⟨v1, v2, v3⟩ := s
    refine Tri.run 1 [] [.keep [0, 1, 5, 9] [2020]] (K' := [.code [(1, 0), (1, 0), (0, 0), (0, 0)] 1, .code [(1, 0), (1, 0), (0, 0)] 1]) (σ' := ⟨[(0, .sl 2020 0), (1, .int .i64 v1), (5, .int .i64 v2), (9, .bool (decide (v2 < (v3.length : Int))))], [(2020, .arr 3 0 0 (.ints v3))]⟩) rfl trivial rfl ?_
    rcases bif_some h with ⟨hd1, h⟩ | ⟨hd1, h⟩
    · obtain ⟨hg2, h⟩ := grd_some h
      refine Tri.run 3 [.g true] [.keep [0, 1, 5] [2020]] (K' := [.code [(1, 0), (1, 0), (0, 0)] 2]) (σ' := ⟨[(0, .sl 2020 0), (1, .int .i64 (IntKind.i64.wrap (v1 + (1 : Int)))), (5, .int .i64 v2)], [(2020, .arr 3 0 0 (.ints (v3.set v2.toNat v1)))]⟩) rfl ⟨hg2, hd1, trivial⟩ rfl ?_
      refine Tri.run 1 [] [.keep [0, 1, 5] [2020]] (K' := []) (σ' := ⟨[(0, .sl 2020 0), (1, .int .i64 (IntKind.i64.wrap (v1 + (1 : Int)))), (5, .int .i64 (IntKind.i64.wrap (v2 + (1 : Int))))], [(2020, .arr 3 0 0 (.ints (v3.set v2.toNat v1)))]⟩) rfl trivial rfl ?_
      have h := Option.some.inj h
      subst h
      exact Tri.nil ⟨rfl, rfl⟩
    · refine Tri.run 1 [.g false] [.keep [1] [2020]] (K' := [.code [(1, 0), (1, 0), (0, 0), (0, 0), (1, 1)] 0, .code [(1, 0), (1, 0), (0, 0)] 1]) (σ' := ⟨[(1, .int .i64 v1)], [(2020, .arr 3 0 0 (.ints v3))]⟩) rfl ⟨hd1, trivial⟩ rfl ?_
      have h := Option.some.inj h
      subst h
      exact Tri.out 0 rfl ⟨nofun, rfl, rfl⟩
  · intro e σ' hne hq
    obtain ⟨v4, v5⟩ := x1
    obtain ⟨rfl, rfl⟩ := hq
    refine TriX.exit (K' := [.code [] 2]) rfl ?_
    refine Tri.run 1 [] [.keep [4] [2020]] (K' := [.code [] 3]) (σ' := ⟨[(4, .int .i64 v4)], [(2020, .arr 3 0 0 (.ints v5))]⟩) rfl trivial rfl ?_
    have h := Option.some.inj h
    subst h
    exact Tri.ret rfl ⟨.inl rfl, rfl, rfl⟩
/-! laws.markGame -/
noncomputable def E28_laws_markGame : Env := ⟨Try.prog, tys, (Try.f28.body).getD .skip, 10, tysOk, mixedOk⟩
abbrev q_laws_markGame_io1 (r : Int × (List Int)) (σ' : ASt) : Prop := resAV E28_laws_markGame.T σ' Try.f28.results.toList = some (.int .i64 r.1) ∧ keepO σ'.ob (namesO [(2000, .arr 3 0 0 (.ints r.2))]) = [(2000, .arr 3 0 0 (.ints r.2))]
noncomputable def m_laws_markGame_io1 (_a0 : Int) (a1 : List Int) (a2 : Int) : Option (Int × (List Int)) :=
(m_laws_markIntS_io1 a1 a2).bind fun (v1, v2) =>
some (v1, v2)
theorem w_laws_markGame_io1 (a0 : Int) (a1 : List Int) (a2 : Int) (r : Int × (List Int)) (h : m_laws_markGame_io1 a0 a1 a2 = some r) : AM.Spec Try.prog 28 [.agg [.int .i64 a0, .sl 2000 0], .int .i64 a2] [(2000, .arr 3 0 0 (.ints a1))] (.int .i64 r.1) [(2000, .arr 3 0 0 (.ints r.2))] := by
  refine spec_of (E := E28_laws_markGame) Try.func28 rfl rfl rfl rfl ?_
  refine Tri.run 1 [] [.keep [1, 2] [2, 2000]] (K' := [.code [(1, 0)] 0, .code [] 2]) (σ' := ⟨[(1, .int .i64 a2), (2, .ptr 2 0)], [(2, .box [.int .i64 a0, .sl 2000 0]), (2000, .arr 3 0 0 (.ints a1))]⟩) rfl trivial rfl ?_
  obtain ⟨⟨v1, v2⟩, hk1, h⟩ := bind_some h
  refine Tri.run 2 [.r ⟨[2000], .int .i64 v1, [(2000, .arr 3 0 0 (.ints v2))]⟩] [.keep [4] [2000]] (K' := [.code [] 3]) (σ' := ⟨[(4, .int .i64 v1)], [(2000, .arr 3 0 0 (.ints v2))]⟩) rfl ⟨((w_laws_markIntS_io1 a1 a2 (v1, v2) hk1).swap 2020 2000), trivial⟩ rfl ?_
  have h := Option.some.inj h
  subst h
  exact Tri.ret rfl ⟨.inl rfl, rfl, rfl⟩
/-! laws.markIntS -/
abbrev q_laws_markIntS_io1_b (r : Int × (List (List Int))) (σ' : ASt) : Prop := resAV E50_laws_markIntS.T σ' Try.f50.results.toList = some (.int .i64 r.1) ∧ keepO σ'.ob (namesO [(2020, .arr 22 0 0 (.intss r.2))]) = [(2020, .arr 22 0 0 (.intss r.2))]
noncomputable def l_laws_markIntS_io1_b_0 (a1 : Nat) : (Int × Int × (List (List Int))) → Option ((Int × Int × (List (List Int))) ⊕ ((Int × (List (List Int)))))
  | (v1, v2, v3) => (
bif decide (v2 < ((v3.getD a1 []).length : Int)) then
(grd ((0 : Int) ≤ v2 ∧ v2 < ((v3.getD a1 []).length : Int)) <|
some (.inl (IntKind.i64.wrap (v1 + (1 : Int)), IntKind.i64.wrap (v2 + (1 : Int)), v3.set a1 ((v3.getD a1 []).set v2.toNat v1))))
else
(some (.inr (v1, v3))))
noncomputable def m_laws_markIntS_io1_b (a0 : List (List Int)) (a1 : Nat) (a2 : Int) : Option (Int × (List (List Int))) :=
(iter (l_laws_markIntS_io1_b_0 a1) (a2, (0 : Int), a0)).bind fun
| (v4, v5) => (
some (v4, v5))
theorem w_laws_markIntS_io1_b (a0 : List (List Int)) (a1 : Nat) (a2 : Int) (r : Int × (List (List Int))) (h : m_laws_markIntS_io1_b a0 a1 a2 = some r) : AM.Spec Try.prog 50 [.sub 2020 0 0 a1, .int .i64 a2] [(2020, .arr 22 0 0 (.intss a0))] (.int .i64 r.1) [(2020, .arr 22 0 0 (.intss r.2))] := by
  refine spec_of (E := E50_laws_markIntS) Try.func50 rfl rfl rfl rfl ?_
  refine Tri.run 2 [] [.keep [0, 1, 5] [2020]] (K' := [.code [(1, 0), (1, 0)] 0, .blk 0, .code [] 2]) (σ' := ⟨[(0, .sub 2020 0 0 a1), (1, .int .i64 a2), (5, .int .i64 (0 : Int))], [(2020, .arr 22 0 0 (.intss a0))]⟩) rfl trivial rfl ?_
  obtain ⟨x1, hk3, h⟩ := bind_some h
  refine Tri.loop (K1 := [.code [(1, 0), (1, 0), (0, 0)] 0]) (K2 := [.blk 0, .code [] 2]) (fun (v1, v2, v3) => ⟨[(0, .sub 2020 0 0 a1), (1, .int .i64 v1), (5, .int .i64 v2)], [(2020, .arr 22 0 0 (.intss v3))]⟩) (fun x e σ' => match x with | (v4, v5) => e = .exit 0 ∧ σ' = ⟨[(1, .int .i64 v4)], [(2020, .arr 22 0 0 (.intss v5))]⟩) hk3 rfl rfl ?_ ?_
  · intro s x hs
    clear h
    have h := hs
    clear hs
    obtain ⟨v1, v2, v3⟩ := s
    refine Tri.run 1 [] [.keep [0, 1, 5, 9] [2020]] (K' := [.code [(1, 0), (1, 0), (0, 0), (0, 0)] 1, .code [(1, 0), (1, 0), (0, 0)] 1]) (σ' := ⟨[(0, .sub 2020 0 0 a1), (1, .int .i64 v1), (5, .int .i64 v2), (9, .bool (decide (v2 < ((v3.getD a1 []).length : Int))))], [(2020, .arr 22 0 0 (.intss v3))]⟩) rfl trivial rfl ?_
    rcases bif_some h with ⟨hd1, h⟩ | ⟨hd1, h⟩
    · obtain ⟨hg2, h⟩ := grd_some h
      refine Tri.run 3 [.g true] [.keep [0, 1, 5] [2020]] (K' := [.code [(1, 0), (1, 0), (0, 0)] 2]) (σ' := ⟨[(0, .sub 2020 0 0 a1), (1, .int .i64 (IntKind.i64.wrap (v1 + (1 : Int)))), (5, .int .i64 v2)], [(2020, .arr 22 0 0 (.intss (v3.set a1 ((v3.getD a1 []).set v2.toNat v1))))]⟩) rfl ⟨hg2, hd1, trivial⟩ rfl ?_
      refine Tri.run 1 [] [.keep [0, 1, 5] [2020]] (K' := []) (σ' := ⟨[(0, .sub 2020 0 0 a1), (1, .int .i64 (IntKind.i64.wrap (v1 + (1 : Int)))), (5, .int .i64 (IntKind.i64.wrap (v2 + (1 : Int))))], [(2020, .arr 22 0 0 (.intss (v3.set a1 ((v3.getD a1 []).set v2.toNat v1))))]⟩) rfl trivial rfl ?_
      have h := Option.some.inj h
      subst h
      exact Tri.nil ⟨rfl, rfl⟩
    · refine Tri.run 1 [.g false] [.keep [1] [2020]] (K' := [.code [(1, 0), (1, 0), (0, 0), (0, 0), (1, 1)] 0, .code [(1, 0), (1, 0), (0, 0)] 1]) (σ' := ⟨[(1, .int .i64 v1)], [(2020, .arr 22 0 0 (.intss v3))]⟩) rfl ⟨hd1, trivial⟩ rfl ?_
      have h := Option.some.inj h
      subst h
      exact Tri.out 0 rfl ⟨nofun, rfl, rfl⟩
  · intro e σ' hne hq
    obtain ⟨v4, v5⟩ := x1
    obtain ⟨rfl, rfl⟩ := hq
    refine TriX.exit (K' := [.code [] 2]) rfl ?_
    refine Tri.run 1 [] [.keep [4] [2020]] (K' := [.code [] 3]) (σ' := ⟨[(4, .int .i64 v4)], [(2020, .arr 22 0 0 (.intss v5))]⟩) rfl trivial rfl ?_
    have h := Option.some.inj h
    subst h
    exact Tri.ret rfl ⟨.inl rfl, rfl, rfl⟩
/-! laws.markIntSS -/
noncomputable def E111_laws_markIntSS : Env := ⟨Try.prog, tys, (Try.f111.body).getD .skip, 19, tysOk, mixedOk⟩
abbrev q_laws_markIntSS_io1 (r : Int × (List (List Int))) (σ' : ASt) : Prop := resAV E111_laws_markIntSS.T σ' Try.f111.results.toList = some (.int .i64 r.1) ∧ keepO σ'.ob (namesO [(2060, .arr 22 0 0 (.intss r.2))]) = [(2060, .arr 22 0 0 (.intss r.2))]
noncomputable def l_laws_markIntSS_io1_0 : (Int × Int × (List (List Int))) → Option ((Int × Int × (List (List Int))) ⊕ ((Int × (List (List Int)))))
  | (v1, v2, v3) => (
bif decide (v2 < (v3.length : Int)) then
(grd ((0 : Int) ≤ v2 ∧ v2 < (v3.length : Int)) <|
(m_laws_markIntS_io1_b v3 v2.toNat v1).bind fun (v4, v5) =>
some (.inl (v4, IntKind.i64.wrap (v2 + (1 : Int)), v5)))
else
(some (.inr (v1, v3))))
noncomputable def m_laws_markIntSS_io1 (a0 : List (List Int)) (a1 : Int) : Option (Int × (List (List Int))) :=
(iter (l_laws_markIntSS_io1_0) (a1, (0 : Int), a0)).bind fun
| (v6, v7) => (
some (v6, v7))
theorem w_laws_markIntSS_io1 (a0 : List (List Int)) (a1 : Int) (r : Int × (List (List Int))) (h : m_laws_markIntSS_io1 a0 a1 = some r) : AM.Spec Try.prog 111 [.sl 2060 0, .int .i64 a1] [(2060, .arr 22 0 0 (.intss a0))] (.int .i64 r.1) [(2060, .arr 22 0 0 (.intss r.2))] := by
  refine spec_of (E := E111_laws_markIntSS) Try.func111 rfl rfl rfl rfl ?_
  refine Tri.run 2 [] [.keep [0, 1, 5] [2060]] (K' := [.code [(1, 0), (1, 0)] 0, .blk 0, .code [] 2]) (σ' := ⟨[(0, .sl 2060 0), (1, .int .i64 a1), (5, .int .i64 (0 : Int))], [(2060, .arr 22 0 0 (.intss a0))]⟩) rfl trivial rfl ?_
  obtain ⟨x1, hk4, h⟩ := bind_some h
  refine Tri.loop (K1 := [.code [(1, 0), (1, 0), (0, 0)] 0]) (K2 := [.blk 0, .code [] 2]) (fun (v1, v2, v3) => ⟨[(0, .sl 2060 0), (1, .int .i64 v1), (5, .int .i64 v2)], [(2060, .arr 22 0 0 (.intss v3))]⟩) (fun x e σ' => match x with | (v6, v7) => e = .exit 0 ∧ σ' = ⟨[(1, .int .i64 v6)], [(2060, .arr 22 0 0 (.intss v7))]⟩) hk4 rfl rfl ?_ ?_
  · intro s x hs
    clear h
    have h := hs
    clear hs
    obtain ⟨v1, v2, v3⟩ := s
    refine Tri.run 1 [] [.keep [0, 1, 5, 9] [2060]] (K' := [.code [(1, 0), (1, 0), (0, 0), (0, 0)] 1, .code [(1, 0), (1, 0), (0, 0)] 1]) (σ' := ⟨[(0, .sl 2060 0), (1, .int .i64 v1), (5, .int .i64 v2), (9, .bool (decide (v2 < (v3.length : Int))))], [(2060, .arr 22 0 0 (.intss v3))]⟩) rfl trivial rfl ?_
    rcases bif_some h with ⟨hd1, h⟩ | ⟨hd1, h⟩
    · obtain ⟨hg2, h⟩ := grd_some h
      obtain ⟨⟨v4, v5⟩, hk3, h⟩ := bind_some h
      refine Tri.run 3 [.g true, .r ⟨[2060], .int .i64 v4, [(2060, .arr 22 0 0 (.intss v5))]⟩] [.keep [0, 1, 5] [2060]] (K' := []) (σ' := ⟨[(0, .sl 2060 0), (1, .int .i64 v4), (5, .int .i64 (IntKind.i64.wrap (v2 + (1 : Int))))], [(2060, .arr 22 0 0 (.intss v5))]⟩) rfl ⟨((w_laws_markIntS_io1_b v3 v2.toNat v1 (v4, v5) hk3).swap 2020 2060), hg2, hd1, trivial⟩ rfl ?_
      have h := Option.some.inj h
      subst h
      exact Tri.nil ⟨rfl, rfl⟩
    · refine Tri.run 1 [.g false] [.keep [1] [2060]] (K' := [.code [(1, 0), (1, 0), (0, 0), (0, 0), (1, 1)] 0, .code [(1, 0), (1, 0), (0, 0)] 1]) (σ' := ⟨[(1, .int .i64 v1)], [(2060, .arr 22 0 0 (.intss v3))]⟩) rfl ⟨hd1, trivial⟩ rfl ?_
      have h := Option.some.inj h
      subst h
      exact Tri.out 0 rfl ⟨nofun, rfl, rfl⟩
  · intro e σ' hne hq
    obtain ⟨v6, v7⟩ := x1
    obtain ⟨rfl, rfl⟩ := hq
    refine TriX.exit (K' := [.code [] 2]) rfl ?_
    refine Tri.run 1 [] [.keep [4] [2060]] (K' := [.code [] 3]) (σ' := ⟨[(4, .int .i64 v6)], [(2060, .arr 22 0 0 (.intss v7))]⟩) rfl trivial rfl ?_
    have h := Option.some.inj h
    subst h
    exact Tri.ret rfl ⟨.inl rfl, rfl, rfl⟩
/-! laws.markRatS -/
noncomputable def E29_laws_markRatS : Env := ⟨Try.prog, tys, (Try.f29.body).getD .skip, 27, tysOk, mixedOk⟩
abbrev q_laws_markRatS_io1 (r : Int × (List Q)) (σ' : ASt) : Prop := resAV E29_laws_markRatS.T σ' Try.f29.results.toList = some (.int .i64 r.1) ∧ keepO σ'.ob (namesO [(2080, .arr 29 0 0 (.rats r.2))]) = [(2080, .arr 29 0 0 (.rats r.2))]
noncomputable def l_laws_markRatS_io1_0 : (Int × Int × (List Q)) → Option ((Int × Int × (List Q)) ⊕ ((Int × (List Q))))
  | (v1, v2, v3) => (
bif decide (v2 < (v3.length : Int)) then
(grd ((0 : Int) ≤ v2 ∧ v2 < (v3.length : Int)) <|
grd ((0 : Int) ≤ v2 ∧ v2 < ((v3.set v2.toNat ⟨v1, (v3.getD v2.toNat ⟨0, 0⟩).den⟩).length : Int)) <|
some (.inl (IntKind.i64.wrap ((IntKind.i64.wrap (v1 + (1 : Int))) + (1 : Int)), IntKind.i64.wrap (v2 + (1 : Int)), (v3.set v2.toNat ⟨v1, (v3.getD v2.toNat ⟨0, 0⟩).den⟩).set v2.toNat ⟨((v3.set v2.toNat ⟨v1, (v3.getD v2.toNat ⟨0, 0⟩).den⟩).getD v2.toNat ⟨0, 0⟩).num, IntKind.i64.wrap (v1 + (1 : Int))⟩)))
else
(some (.inr (v1, v3))))
noncomputable def m_laws_markRatS_io1 (a0 : List Q) (a1 : Int) : Option (Int × (List Q)) :=
(iter (l_laws_markRatS_io1_0) (a1, (0 : Int), a0)).bind fun
| (v4, v5) => (
some (v4, v5))
theorem w_laws_markRatS_io1 (a0 : List Q) (a1 : Int) (r : Int × (List Q)) (h : m_laws_markRatS_io1 a0 a1 = some r) : AM.Spec Try.prog 29 [.sl 2080 0, .int .i64 a1] [(2080, .arr 29 0 0 (.rats a0))] (.int .i64 r.1) [(2080, .arr 29 0 0 (.rats r.2))] := by
  refine spec_of (E := E29_laws_markRatS) Try.func29 rfl rfl rfl rfl ?_
  refine Tri.run 2 [] [.keep [0, 1, 5] [2080]] (K' := [.code [(1, 0), (1, 0)] 0, .blk 0, .code [] 2]) (σ' := ⟨[(0, .sl 2080 0), (1, .int .i64 a1), (5, .int .i64 (0 : Int))], [(2080, .arr 29 0 0 (.rats a0))]⟩) rfl trivial rfl ?_
  obtain ⟨x1, hk4, h⟩ := bind_some h
  refine Tri.loop (K1 := [.code [(1, 0), (1, 0), (0, 0)] 0]) (K2 := [.blk 0, .code [] 2]) (fun (v1, v2, v3) => ⟨[(0, .sl 2080 0), (1, .int .i64 v1), (5, .int .i64 v2)], [(2080, .arr 29 0 0 (.rats v3))]⟩) (fun x e σ' => match x with | (v4, v5) => e = .exit 0 ∧ σ' = ⟨[(1, .int .i64 v4)], [(2080, .arr 29 0 0 (.rats v5))]⟩) hk4 rfl rfl ?_ ?_
  · intro s x hs
    clear h
    have h := hs
    clear hs
    obtain ⟨v1, v2, v3⟩ := s
    refine Tri.run 1 [] [.keep [0, 1, 5, 9] [2080]] (K' := [.code [(1, 0), (1, 0), (0, 0), (0, 0)] 1, .code [(1, 0), (1, 0), (0, 0)] 1]) (σ' := ⟨[(0, .sl 2080 0), (1, .int .i64 v1), (5, .int .i64 v2), (9, .bool (decide (v2 < (v3.length : Int))))], [(2080, .arr 29 0 0 (.rats v3))]⟩) rfl trivial rfl ?_
    rcases bif_some h with ⟨hd1, h⟩ | ⟨hd1, h⟩
    · obtain ⟨hg2, h⟩ := grd_some h
      refine Tri.run 3 [.g true] [.keep [0, 1, 5] [2080]] (K' := [.code [(1, 0), (1, 0), (0, 0), (1, 0), (0, 0), (2, 0)] 0, .code [(1, 0), (1, 0), (0, 0), (1, 0), (0, 0)] 3, .blk 1, .code [(1, 0), (1, 0), (0, 0)] 2]) (σ' := ⟨[(0, .sl 2080 0), (1, .int .i64 (IntKind.i64.wrap (v1 + (1 : Int)))), (5, .int .i64 v2)], [(2080, .arr 29 0 0 (.rats (v3.set v2.toNat ⟨v1, (v3.getD v2.toNat ⟨0, 0⟩).den⟩)))]⟩) rfl ⟨hg2, hd1, trivial⟩ rfl ?_
      obtain ⟨hg3, h⟩ := grd_some h
      refine Tri.run 3 [] [.keep [0, 1, 5] [2080]] (K' := []) (σ' := ⟨[(0, .sl 2080 0), (1, .int .i64 (IntKind.i64.wrap ((IntKind.i64.wrap (v1 + (1 : Int))) + (1 : Int)))), (5, .int .i64 (IntKind.i64.wrap (v2 + (1 : Int))))], [(2080, .arr 29 0 0 (.rats ((v3.set v2.toNat ⟨v1, (v3.getD v2.toNat ⟨0, 0⟩).den⟩).set v2.toNat ⟨((v3.set v2.toNat ⟨v1, (v3.getD v2.toNat ⟨0, 0⟩).den⟩).getD v2.toNat ⟨0, 0⟩).num, IntKind.i64.wrap (v1 + (1 : Int))⟩)))]⟩) rfl ⟨hg3, trivial⟩ rfl ?_
      have h := Option.some.inj h
      subst h
      exact Tri.nil ⟨rfl, rfl⟩
    · refine Tri.run 1 [.g false] [.keep [1] [2080]] (K' := [.code [(1, 0), (1, 0), (0, 0), (0, 0), (1, 1)] 0, .code [(1, 0), (1, 0), (0, 0)] 1]) (σ' := ⟨[(1, .int .i64 v1)], [(2080, .arr 29 0 0 (.rats v3))]⟩) rfl ⟨hd1, trivial⟩ rfl ?_
      have h := Option.some.inj h
      subst h
      exact Tri.out 0 rfl ⟨nofun, rfl, rfl⟩
  · intro e σ' hne hq
    obtain ⟨v4, v5⟩ := x1
    obtain ⟨rfl, rfl⟩ := hq
    refine TriX.exit (K' := [.code [] 2]) rfl ?_
    refine Tri.run 1 [] [.keep [4] [2080]] (K' := [.code [] 3]) (σ' := ⟨[(4, .int .i64 v4)], [(2080, .arr 29 0 0 (.rats v5))]⟩) rfl trivial rfl ?_
    have h := Option.some.inj h
    subst h
    exact Tri.ret rfl ⟨.inl rfl, rfl, rfl⟩
/-! laws.markLP -/
noncomputable def E41_laws_markLP : Env := ⟨Try.prog, tys, (Try.f41.body).getD .skip, 18, tysOk, mixedOk⟩
abbrev q_laws_markLP_io3 (r : Int × (List (List Int)) × (List Int) × (List Q)) (σ' : ASt) : Prop := resAV E41_laws_markLP.T σ' Try.f41.results.toList = some (.int .i64 r.1) ∧ keepO σ'.ob (namesO [(2040, .arr 22 0 0 (.intss r.2.1)), (2041, .arr 3 0 0 (.ints r.2.2.1)), (2042, .arr 29 0 0 (.rats r.2.2.2))]) = [(2040, .arr 22 0 0 (.intss r.2.1)), (2041, .arr 3 0 0 (.ints r.2.2.1)), (2042, .arr 29 0 0 (.rats r.2.2.2))]
noncomputable def m_laws_markLP_io3 (a0 : List (List Int)) (a1 : List Int) (a2 : List Q) (a3 : Int) : Option (Int × (List (List Int)) × (List Int) × (List Q)) :=
(m_laws_markIntSS_io1 a0 a3).bind fun (v1, v2) =>
(m_laws_markIntS_io1 a1 v1).bind fun (v3, v4) =>
(m_laws_markRatS_io1 a2 v3).bind fun (v5, v6) =>
some (v5, v2, v4, v6)
theorem w_laws_markLP_io3 (a0 : List (List Int)) (a1 : List Int) (a2 : List Q) (a3 : Int) (r : Int × (List (List Int)) × (List Int) × (List Q)) (h : m_laws_markLP_io3 a0 a1 a2 a3 = some r) : AM.Spec Try.prog 41 [.agg [.sl 2040 0, .sl 2041 0, .sl 2042 0], .int .i64 a3] [(2040, .arr 22 0 0 (.intss a0)), (2041, .arr 3 0 0 (.ints a1)), (2042, .arr 29 0 0 (.rats a2))] (.int .i64 r.1) [(2040, .arr 22 0 0 (.intss r.2.1)), (2041, .arr 3 0 0 (.ints r.2.2.1)), (2042, .arr 29 0 0 (.rats r.2.2.2))] := by
  refine spec_of (E := E41_laws_markLP) Try.func41 rfl rfl rfl rfl ?_
  refine Tri.run 1 [] [.keep [1, 2] [2, 2040, 2041, 2042]] (K' := [.code [(1, 0)] 0, .code [] 2]) (σ' := ⟨[(1, .int .i64 a3), (2, .ptr 2 0)], [(2, .box [.sl 2040 0, .sl 2041 0, .sl 2042 0]), (2040, .arr 22 0 0 (.intss a0)), (2041, .arr 3 0 0 (.ints a1)), (2042, .arr 29 0 0 (.rats a2))]⟩) rfl trivial rfl ?_
  obtain ⟨⟨v1, v2⟩, hk1, h⟩ := bind_some h
  obtain ⟨⟨v3, v4⟩, hk2, h⟩ := bind_some h
  refine Tri.run 2 [.r ⟨[2040], .int .i64 v1, [(2040, .arr 22 0 0 (.intss v2))]⟩, .r ⟨[2041], .int .i64 v3, [(2041, .arr 3 0 0 (.ints v4))]⟩] [.keep [1, 2] [2, 2040, 2041, 2042]] (K' := [.code [(3, 0)] 0, .code [] 4]) (σ' := ⟨[(1, .int .i64 v3), (2, .ptr 2 0)], [(2, .box [.sl 2040 0, .sl 2041 0, .sl 2042 0]), (2040, .arr 22 0 0 (.intss v2)), (2041, .arr 3 0 0 (.ints v4)), (2042, .arr 29 0 0 (.rats a2))]⟩) rfl ⟨((w_laws_markIntS_io1 a1 v1 (v3, v4) hk2).swap 2020 2041), ((w_laws_markIntSS_io1 a0 a3 (v1, v2) hk1).swap 2060 2040), trivial⟩ rfl ?_
  obtain ⟨⟨v5, v6⟩, hk3, h⟩ := bind_some h
  refine Tri.run 2 [.r ⟨[2042], .int .i64 v5, [(2042, .arr 29 0 0 (.rats v6))]⟩] [.keep [4] [2040, 2041, 2042]] (K' := [.code [] 5]) (σ' := ⟨[(4, .int .i64 v5)], [(2040, .arr 22 0 0 (.intss v2)), (2041, .arr 3 0 0 (.ints v4)), (2042, .arr 29 0 0 (.rats v6))]⟩) rfl ⟨((w_laws_markRatS_io1 a2 v3 (v5, v6) hk3).swap 2080 2042), trivial⟩ rfl ?_
  have h := Option.some.inj h
  subst h
  exact Tri.ret rfl ⟨.inl rfl, rfl, rfl⟩
/-! laws.heldIntS -/
noncomputable def E51_laws_heldIntS : Env := ⟨Try.prog, tys, (Try.f51.body).getD .skip, 21, tysOk, mixedOk⟩
abbrev q_laws_heldIntS (r : Int) (σ' : ASt) : Prop := resAV E51_laws_heldIntS.T σ' Try.f51.results.toList = some (.int .i64 r) ∧ keepO σ'.ob (namesO []) = []
noncomputable def l_laws_heldIntS_0 (a0 : List Int) : (Int × Int) → Option ((Int × Int) ⊕ (Int ⊕ Int))
  | (v1, v2) => (
bif decide (v2 < (a0.length : Int)) then
(grd ((0 : Int) ≤ v2 ∧ v2 < (a0.length : Int)) <|
bif (a0.getD v2.toNat 0) != v1 then
(some (.inr (.inr (-1 : Int))))
else
(some (.inl (IntKind.i64.wrap (v1 + (1 : Int)), IntKind.i64.wrap (v2 + (1 : Int))))))
else
(some (.inr (.inl v1))))
noncomputable def m_laws_heldIntS (a0 : List Int) (a1 : Int) : Option Int :=
(iter (l_laws_heldIntS_0 a0) (a1, (0 : Int))).bind fun
| (.inl v3) => (
some v3)
| (.inr r) => some r
theorem w_laws_heldIntS (a0 : List Int) (a1 : Int) (r : Int) (h : m_laws_heldIntS a0 a1 = some r) : AM.Spec Try.prog 51 [.list (.ints a0), .int .i64 a1] [] (.int .i64 r) [] := by
  refine spec_of (E := E51_laws_heldIntS) Try.func51 rfl rfl rfl rfl ?_
  refine Tri.run 2 [] [.keep [0, 1, 5] []] (K' := [.code [(1, 0), (1, 0)] 0, .blk 0, .code [] 2]) (σ' := ⟨[(0, .list (.ints a0)), (1, .int .i64 a1), (5, .int .i64 (0 : Int))], []⟩) rfl trivial rfl ?_
  obtain ⟨x1, hk4, h⟩ := bind_some h
  refine Tri.loop (K1 := [.code [(1, 0), (1, 0), (0, 0)] 0]) (K2 := [.blk 0, .code [] 2]) (fun (v1, v2) => ⟨[(0, .list (.ints a0)), (1, .int .i64 v1), (5, .int .i64 v2)], []⟩) (fun x e σ' => match x with | (.inl v3) => e = .exit 0 ∧ σ' = ⟨[(1, .int .i64 v3)], []⟩ | (.inr r) => e = .ret ∧ q_laws_heldIntS r σ') hk4 rfl rfl ?_ ?_
  · intro s x hs
    clear h
    have h := hs
    clear hs
    obtain ⟨v1, v2⟩ := s
    refine Tri.run 1 [] [.keep [0, 1, 5, 9] []] (K' := [.code [(1, 0), (1, 0), (0, 0), (0, 0)] 1, .code [(1, 0), (1, 0), (0, 0)] 1]) (σ' := ⟨[(0, .list (.ints a0)), (1, .int .i64 v1), (5, .int .i64 v2), (9, .bool (decide (v2 < (a0.length : Int))))], []⟩) rfl trivial rfl ?_
    rcases bif_some h with ⟨hd1, h⟩ | ⟨hd1, h⟩
    · obtain ⟨hg2, h⟩ := grd_some h
      refine Tri.run 2 [.g true] [.keep [0, 1, 5, 17] []] (K' := [.code [(1, 0), (1, 0), (0, 0), (1, 0), (0, 0), (0, 0)] 1, .code [(1, 0), (1, 0), (0, 0), (1, 0), (0, 0)] 1, .blk 1, .code [(1, 0), (1, 0), (0, 0)] 2]) (σ' := ⟨[(0, .list (.ints a0)), (1, .int .i64 v1), (5, .int .i64 v2), (17, .bool ((a0.getD v2.toNat 0) != v1))], []⟩) rfl ⟨hg2, hd1, trivial⟩ rfl ?_
      rcases bif_some h with ⟨hd3, h⟩ | ⟨hd3, h⟩
      · refine Tri.run 2 [.g true] [.keep [4] []] (K' := [.code [(1, 0), (1, 0), (0, 0), (1, 0), (0, 0), (0, 0), (1, 0)] 1, .code [(1, 0), (1, 0), (0, 0), (1, 0), (0, 0)] 1, .blk 1, .code [(1, 0), (1, 0), (0, 0)] 2]) (σ' := ⟨[(4, .int .i64 (-1 : Int))], []⟩) rfl ⟨hd3, trivial⟩ rfl ?_
        have h := Option.some.inj h
        subst h
        exact Tri.ret rfl ⟨nofun, rfl, rfl, rfl⟩
      · refine Tri.run 3 [.g false] [.keep [0, 1, 5] []] (K' := []) (σ' := ⟨[(0, .list (.ints a0)), (1, .int .i64 (IntKind.i64.wrap (v1 + (1 : Int)))), (5, .int .i64 (IntKind.i64.wrap (v2 + (1 : Int))))], []⟩) rfl ⟨hd3, trivial⟩ rfl ?_
        have h := Option.some.inj h
        subst h
        exact Tri.nil ⟨rfl, rfl⟩
    · refine Tri.run 1 [.g false] [.keep [1] []] (K' := [.code [(1, 0), (1, 0), (0, 0), (0, 0), (1, 1)] 0, .code [(1, 0), (1, 0), (0, 0)] 1]) (σ' := ⟨[(1, .int .i64 v1)], []⟩) rfl ⟨hd1, trivial⟩ rfl ?_
      have h := Option.some.inj h
      subst h
      exact Tri.out 0 rfl ⟨nofun, rfl, rfl⟩
  · intro e σ' hne hq
    rcases x1 with v3 | r
    · obtain ⟨rfl, rfl⟩ := hq
      refine TriX.exit (K' := [.code [] 2]) rfl ?_
      refine Tri.run 1 [] [.keep [4] []] (K' := [.code [] 3]) (σ' := ⟨[(4, .int .i64 v3)], []⟩) rfl trivial rfl ?_
      have h := Option.some.inj h
      subst h
      exact Tri.ret rfl ⟨.inl rfl, rfl, rfl⟩
    · obtain ⟨rfl, hq⟩ := hq
      have h := Option.some.inj h
      subst h
      exact TriX.ret ⟨.inl rfl, hq⟩
/-! laws.heldIntSS -/
noncomputable def E112_laws_heldIntSS : Env := ⟨Try.prog, tys, (Try.f112.body).getD .skip, 21, tysOk, mixedOk⟩
abbrev q_laws_heldIntSS (r : Int) (σ' : ASt) : Prop := resAV E112_laws_heldIntSS.T σ' Try.f112.results.toList = some (.int .i64 r) ∧ keepO σ'.ob (namesO []) = []
noncomputable def l_laws_heldIntSS_0 (a0 : List (List Int)) : (Int × Int) → Option ((Int × Int) ⊕ (Int ⊕ Int))
  | (v1, v2) => (
bif decide (v2 < (a0.length : Int)) then
(grd ((0 : Int) ≤ v2 ∧ v2 < (a0.length : Int)) <|
(m_laws_heldIntS (a0.getD v2.toNat []) v1).bind fun v3 =>
bif decide (v3 < (0 : Int)) then
(some (.inr (.inr (-1 : Int))))
else
(some (.inl (v3, IntKind.i64.wrap (v2 + (1 : Int))))))
else
(some (.inr (.inl v1))))
noncomputable def m_laws_heldIntSS (a0 : List (List Int)) (a1 : Int) : Option Int :=
(iter (l_laws_heldIntSS_0 a0) (a1, (0 : Int))).bind fun
| (.inl v4) => (
some v4)
| (.inr r) => some r
theorem w_laws_heldIntSS (a0 : List (List Int)) (a1 : Int) (r : Int) (h : m_laws_heldIntSS a0 a1 = some r) : AM.Spec Try.prog 112 [.list (.intss a0), .int .i64 a1] [] (.int .i64 r) [] := by
  refine spec_of (E := E112_laws_heldIntSS) Try.func112 rfl rfl rfl rfl ?_
  refine Tri.run 2 [] [.keep [0, 1, 5] []] (K' := [.code [(1, 0), (1, 0)] 0, .blk 0, .code [] 2]) (σ' := ⟨[(0, .list (.intss a0)), (1, .int .i64 a1), (5, .int .i64 (0 : Int))], []⟩) rfl trivial rfl ?_
  obtain ⟨x1, hk5, h⟩ := bind_some h
  refine Tri.loop (K1 := [.code [(1, 0), (1, 0), (0, 0)] 0]) (K2 := [.blk 0, .code [] 2]) (fun (v1, v2) => ⟨[(0, .list (.intss a0)), (1, .int .i64 v1), (5, .int .i64 v2)], []⟩) (fun x e σ' => match x with | (.inl v4) => e = .exit 0 ∧ σ' = ⟨[(1, .int .i64 v4)], []⟩ | (.inr r) => e = .ret ∧ q_laws_heldIntSS r σ') hk5 rfl rfl ?_ ?_
  · intro s x hs
    clear h
    have h := hs
    clear hs
    obtain ⟨v1, v2⟩ := s
    refine Tri.run 1 [] [.keep [0, 1, 5, 9] []] (K' := [.code [(1, 0), (1, 0), (0, 0), (0, 0)] 1, .code [(1, 0), (1, 0), (0, 0)] 1]) (σ' := ⟨[(0, .list (.intss a0)), (1, .int .i64 v1), (5, .int .i64 v2), (9, .bool (decide (v2 < (a0.length : Int))))], []⟩) rfl trivial rfl ?_
    rcases bif_some h with ⟨hd1, h⟩ | ⟨hd1, h⟩
    · obtain ⟨hg2, h⟩ := grd_some h
      obtain ⟨v3, hk3, h⟩ := bind_some h
      refine Tri.run 3 [.g true, .r ⟨[], .int .i64 v3, []⟩] [.keep [0, 1, 5, 19] []] (K' := [.code [(1, 0), (1, 0), (0, 0), (1, 0), (0, 0)] 2, .blk 1, .code [(1, 0), (1, 0), (0, 0)] 2]) (σ' := ⟨[(0, .list (.intss a0)), (1, .int .i64 v3), (5, .int .i64 v2), (19, .bool (decide (v3 < (0 : Int))))], []⟩) rfl ⟨(w_laws_heldIntS (a0.getD v2.toNat []) v1 v3 hk3), hg2, hd1, trivial⟩ rfl ?_
      rcases bif_some h with ⟨hd4, h⟩ | ⟨hd4, h⟩
      · refine Tri.run 2 [.g true] [.keep [4] []] (K' := [.code [(1, 0), (1, 0), (0, 0), (1, 0), (0, 0), (2, 0)] 1, .blk 1, .code [(1, 0), (1, 0), (0, 0)] 2]) (σ' := ⟨[(4, .int .i64 (-1 : Int))], []⟩) rfl ⟨hd4, trivial⟩ rfl ?_
        have h := Option.some.inj h
        subst h
        exact Tri.ret rfl ⟨nofun, rfl, rfl, rfl⟩
      · refine Tri.run 2 [.g false] [.keep [0, 1, 5] []] (K' := []) (σ' := ⟨[(0, .list (.intss a0)), (1, .int .i64 v3), (5, .int .i64 (IntKind.i64.wrap (v2 + (1 : Int))))], []⟩) rfl ⟨hd4, trivial⟩ rfl ?_
        have h := Option.some.inj h
        subst h
        exact Tri.nil ⟨rfl, rfl⟩
    · refine Tri.run 1 [.g false] [.keep [1] []] (K' := [.code [(1, 0), (1, 0), (0, 0), (0, 0), (1, 1)] 0, .code [(1, 0), (1, 0), (0, 0)] 1]) (σ' := ⟨[(1, .int .i64 v1)], []⟩) rfl ⟨hd1, trivial⟩ rfl ?_
      have h := Option.some.inj h
      subst h
      exact Tri.out 0 rfl ⟨nofun, rfl, rfl⟩
  · intro e σ' hne hq
    rcases x1 with v4 | r
    · obtain ⟨rfl, rfl⟩ := hq
      refine TriX.exit (K' := [.code [] 2]) rfl ?_
      refine Tri.run 1 [] [.keep [4] []] (K' := [.code [] 3]) (σ' := ⟨[(4, .int .i64 v4)], []⟩) rfl trivial rfl ?_
      have h := Option.some.inj h
      subst h
      exact Tri.ret rfl ⟨.inl rfl, rfl, rfl⟩
    · obtain ⟨rfl, hq⟩ := hq
      have h := Option.some.inj h
      subst h
      exact TriX.ret ⟨.inl rfl, hq⟩
/-! laws.heldRatS -/
noncomputable def E30_laws_heldRatS : Env := ⟨Try.prog, tys, (Try.f30.body).getD .skip, 31, tysOk, mixedOk⟩
abbrev q_laws_heldRatS (r : Int) (σ' : ASt) : Prop := resAV E30_laws_heldRatS.T σ' Try.f30.results.toList = some (.int .i64 r) ∧ keepO σ'.ob (namesO []) = []
noncomputable def l_laws_heldRatS_0 (a0 : List Q) : (Int × Int) → Option ((Int × Int) ⊕ (Int ⊕ Int))
  | (v1, v2) => (
bif decide (v2 < (a0.length : Int)) then
(grd ((0 : Int) ≤ v2 ∧ v2 < (a0.length : Int)) <|
bif ((a0.getD v2.toNat ⟨0, 0⟩).num) != v1 then
(some (.inr (.inr (-1 : Int))))
else
(grd ((0 : Int) ≤ v2 ∧ v2 < (a0.length : Int)) <|
bif ((a0.getD v2.toNat ⟨0, 0⟩).den) != (IntKind.i64.wrap (v1 + (1 : Int))) then
(some (.inr (.inr (-1 : Int))))
else
(some (.inl (IntKind.i64.wrap ((IntKind.i64.wrap (v1 + (1 : Int))) + (1 : Int)), IntKind.i64.wrap (v2 + (1 : Int)))))))
else
(some (.inr (.inl v1))))
noncomputable def m_laws_heldRatS (a0 : List Q) (a1 : Int) : Option Int :=
(iter (l_laws_heldRatS_0 a0) (a1, (0 : Int))).bind fun
| (.inl v3) => (
some v3)
| (.inr r) => some r
theorem w_laws_heldRatS (a0 : List Q) (a1 : Int) (r : Int) (h : m_laws_heldRatS a0 a1 = some r) : AM.Spec Try.prog 30 [.list (.rats a0), .int .i64 a1] [] (.int .i64 r) [] := by
  refine spec_of (E := E30_laws_heldRatS) Try.func30 rfl rfl rfl rfl ?_
  refine Tri.run 2 [] [.keep [0, 1, 5] []] (K' := [.code [(1, 0), (1, 0)] 0, .blk 0, .code [] 2]) (σ' := ⟨[(0, .list (.rats a0)), (1, .int .i64 a1), (5, .int .i64 (0 : Int))], []⟩) rfl trivial rfl ?_
  obtain ⟨x1, hk6, h⟩ := bind_some h
  refine Tri.loop (K1 := [.code [(1, 0), (1, 0), (0, 0)] 0]) (K2 := [.blk 0, .code [] 2]) (fun (v1, v2) => ⟨[(0, .list (.rats a0)), (1, .int .i64 v1), (5, .int .i64 v2)], []⟩) (fun x e σ' => match x with | (.inl v3) => e = .exit 0 ∧ σ' = ⟨[(1, .int .i64 v3)], []⟩ | (.inr r) => e = .ret ∧ q_laws_heldRatS r σ') hk6 rfl rfl ?_ ?_
  · intro s x hs
    clear h
    have h := hs
    clear hs
    obtain ⟨v1, v2⟩ := s
    refine Tri.run 1 [] [.keep [0, 1, 5, 9] []] (K' := [.code [(1, 0), (1, 0), (0, 0), (0, 0)] 1, .code [(1, 0), (1, 0), (0, 0)] 1]) (σ' := ⟨[(0, .list (.rats a0)), (1, .int .i64 v1), (5, .int .i64 v2), (9, .bool (decide (v2 < (a0.length : Int))))], []⟩) rfl trivial rfl ?_
    rcases bif_some h with ⟨hd1, h⟩ | ⟨hd1, h⟩
    · obtain ⟨hg2, h⟩ := grd_some h
      refine Tri.run 2 [.g true] [.keep [0, 1, 5, 18] []] (K' := [.code [(1, 0), (1, 0), (0, 0), (1, 0), (0, 0), (0, 0)] 1, .code [(1, 0), (1, 0), (0, 0), (1, 0), (0, 0)] 1, .blk 1, .code [(1, 0), (1, 0), (0, 0)] 2]) (σ' := ⟨[(0, .list (.rats a0)), (1, .int .i64 v1), (5, .int .i64 v2), (18, .bool (((a0.getD v2.toNat ⟨0, 0⟩).num) != v1))], []⟩) rfl ⟨hg2, hd1, trivial⟩ rfl ?_
      rcases bif_some h with ⟨hd3, h⟩ | ⟨hd3, h⟩
      · refine Tri.run 2 [.g true] [.keep [4] []] (K' := [.code [(1, 0), (1, 0), (0, 0), (1, 0), (0, 0), (0, 0), (1, 0)] 1, .code [(1, 0), (1, 0), (0, 0), (1, 0), (0, 0)] 1, .blk 1, .code [(1, 0), (1, 0), (0, 0)] 2]) (σ' := ⟨[(4, .int .i64 (-1 : Int))], []⟩) rfl ⟨hd3, trivial⟩ rfl ?_
        have h := Option.some.inj h
        subst h
        exact Tri.ret rfl ⟨nofun, rfl, rfl, rfl⟩
      · obtain ⟨hg4, h⟩ := grd_some h
        refine Tri.run 3 [.g false] [.keep [0, 1, 5, 27] []] (K' := [.code [(1, 0), (1, 0), (0, 0), (1, 0), (0, 0), (2, 0)] 1, .code [(1, 0), (1, 0), (0, 0), (1, 0), (0, 0)] 3, .blk 1, .code [(1, 0), (1, 0), (0, 0)] 2]) (σ' := ⟨[(0, .list (.rats a0)), (1, .int .i64 (IntKind.i64.wrap (v1 + (1 : Int)))), (5, .int .i64 v2), (27, .bool (((a0.getD v2.toNat ⟨0, 0⟩).den) != (IntKind.i64.wrap (v1 + (1 : Int)))))], []⟩) rfl ⟨hg4, hd3, trivial⟩ rfl ?_
        rcases bif_some h with ⟨hd5, h⟩ | ⟨hd5, h⟩
        · refine Tri.run 2 [.g true] [.keep [4] []] (K' := [.code [(1, 0), (1, 0), (0, 0), (1, 0), (0, 0), (2, 0), (1, 0)] 1, .code [(1, 0), (1, 0), (0, 0), (1, 0), (0, 0)] 3, .blk 1, .code [(1, 0), (1, 0), (0, 0)] 2]) (σ' := ⟨[(4, .int .i64 (-1 : Int))], []⟩) rfl ⟨hd5, trivial⟩ rfl ?_
          have h := Option.some.inj h
          subst h
          exact Tri.ret rfl ⟨nofun, rfl, rfl, rfl⟩
        · refine Tri.run 3 [.g false] [.keep [0, 1, 5] []] (K' := []) (σ' := ⟨[(0, .list (.rats a0)), (1, .int .i64 (IntKind.i64.wrap ((IntKind.i64.wrap (v1 + (1 : Int))) + (1 : Int)))), (5, .int .i64 (IntKind.i64.wrap (v2 + (1 : Int))))], []⟩) rfl ⟨hd5, trivial⟩ rfl ?_
          have h := Option.some.inj h
          subst h
          exact Tri.nil ⟨rfl, rfl⟩
    · refine Tri.run 1 [.g false] [.keep [1] []] (K' := [.code [(1, 0), (1, 0), (0, 0), (0, 0), (1, 1)] 0, .code [(1, 0), (1, 0), (0, 0)] 1]) (σ' := ⟨[(1, .int .i64 v1)], []⟩) rfl ⟨hd1, trivial⟩ rfl ?_
      have h := Option.some.inj h
      subst h
      exact Tri.out 0 rfl ⟨nofun, rfl, rfl⟩
  · intro e σ' hne hq
    rcases x1 with v3 | r
    · obtain ⟨rfl, rfl⟩ := hq
      refine TriX.exit (K' := [.code [] 2]) rfl ?_
      refine Tri.run 1 [] [.keep [4] []] (K' := [.code [] 3]) (σ' := ⟨[(4, .int .i64 v3)], []⟩) rfl trivial rfl ?_
      have h := Option.some.inj h
      subst h
      exact Tri.ret rfl ⟨.inl rfl, rfl, rfl⟩
    · obtain ⟨rfl, hq⟩ := hq
      have h := Option.some.inj h
      subst h
      exact TriX.ret ⟨.inl rfl, hq⟩
/-! laws.heldLP -/
noncomputable def E42_laws_heldLP : Env := ⟨Try.prog, tys, (Try.f42.body).getD .skip, 24, tysOk, mixedOk⟩
abbrev q_laws_heldLP (r : Int) (σ' : ASt) : Prop := resAV E42_laws_heldLP.T σ' Try.f42.results.toList = some (.int .i64 r) ∧ keepO σ'.ob (namesO []) = []
noncomputable def m_laws_heldLP (a0 : List (List Int)) (a1 : List Int) (a2 : List Q) (a3 : Int) : Option Int :=
(m_laws_heldIntSS a0 a3).bind fun v1 =>
bif decide (v1 < (0 : Int)) then
(some (-1 : Int))
else
((m_laws_heldIntS a1 v1).bind fun v2 =>
bif decide (v2 < (0 : Int)) then
(some (-1 : Int))
else
((m_laws_heldRatS a2 v2).bind fun v3 =>
bif decide (v3 < (0 : Int)) then
(some (-1 : Int))
else
(some v3)))
theorem w_laws_heldLP (a0 : List (List Int)) (a1 : List Int) (a2 : List Q) (a3 : Int) (r : Int) (h : m_laws_heldLP a0 a1 a2 a3 = some r) : AM.Spec Try.prog 42 [.agg [.list (.intss a0), .list (.ints a1), .list (.rats a2)], .int .i64 a3] [] (.int .i64 r) [] := by
  refine spec_of (E := E42_laws_heldLP) Try.func42 rfl rfl rfl rfl ?_
  refine Tri.run 1 [] [.keep [1, 2] [2]] (K' := [.code [(1, 0)] 0, .code [] 2]) (σ' := ⟨[(1, .int .i64 a3), (2, .ptr 2 0)], [(2, .box [.list (.intss a0), .list (.ints a1), .list (.rats a2)])]⟩) rfl trivial rfl ?_
  obtain ⟨v1, hk1, h⟩ := bind_some h
  refine Tri.run 2 [.r ⟨[], .int .i64 v1, []⟩] [.keep [1, 2, 10] [2]] (K' := [.code [(2, 0)] 1, .code [] 3]) (σ' := ⟨[(1, .int .i64 v1), (2, .ptr 2 0), (10, .bool (decide (v1 < (0 : Int))))], [(2, .box [.list (.intss a0), .list (.ints a1), .list (.rats a2)])]⟩) rfl ⟨(w_laws_heldIntSS a0 a3 v1 hk1), trivial⟩ rfl ?_
  rcases bif_some h with ⟨hd2, h⟩ | ⟨hd2, h⟩
  · refine Tri.run 2 [.g true] [.keep [4] []] (K' := [.code [(2, 0), (1, 0)] 1, .code [] 3]) (σ' := ⟨[(4, .int .i64 (-1 : Int))], []⟩) rfl ⟨hd2, trivial⟩ rfl ?_
    have h := Option.some.inj h
    subst h
    exact Tri.ret rfl ⟨.inl rfl, rfl, rfl⟩
  · obtain ⟨v2, hk3, h⟩ := bind_some h
    refine Tri.run 3 [.g false, .r ⟨[], .int .i64 v2, []⟩] [.keep [1, 2, 16] [2]] (K' := [.code [(4, 0)] 1, .code [] 5]) (σ' := ⟨[(1, .int .i64 v2), (2, .ptr 2 0), (16, .bool (decide (v2 < (0 : Int))))], [(2, .box [.list (.intss a0), .list (.ints a1), .list (.rats a2)])]⟩) rfl ⟨(w_laws_heldIntS a1 v1 v2 hk3), hd2, trivial⟩ rfl ?_
    rcases bif_some h with ⟨hd4, h⟩ | ⟨hd4, h⟩
    · refine Tri.run 2 [.g true] [.keep [4] []] (K' := [.code [(4, 0), (1, 0)] 1, .code [] 5]) (σ' := ⟨[(4, .int .i64 (-1 : Int))], []⟩) rfl ⟨hd4, trivial⟩ rfl ?_
      have h := Option.some.inj h
      subst h
      exact Tri.ret rfl ⟨.inl rfl, rfl, rfl⟩
    · obtain ⟨v3, hk5, h⟩ := bind_some h
      refine Tri.run 3 [.g false, .r ⟨[], .int .i64 v3, []⟩] [.keep [1, 22] []] (K' := [.code [(6, 0)] 1, .code [] 7]) (σ' := ⟨[(1, .int .i64 v3), (22, .bool (decide (v3 < (0 : Int))))], []⟩) rfl ⟨(w_laws_heldRatS a2 v2 v3 hk5), hd4, trivial⟩ rfl ?_
      rcases bif_some h with ⟨hd6, h⟩ | ⟨hd6, h⟩
      · refine Tri.run 2 [.g true] [.keep [4] []] (K' := [.code [(6, 0), (1, 0)] 1, .code [] 7]) (σ' := ⟨[(4, .int .i64 (-1 : Int))], []⟩) rfl ⟨hd6, trivial⟩ rfl ?_
        have h := Option.some.inj h
        subst h
        exact Tri.ret rfl ⟨.inl rfl, rfl, rfl⟩
      · refine Tri.run 2 [.g false] [.keep [4] []] (K' := [.code [] 8]) (σ' := ⟨[(4, .int .i64 v3)], []⟩) rfl ⟨hd6, trivial⟩ rfl ?_
        have h := Option.some.inj h
        subst h
        exact Tri.ret rfl ⟨.inl rfl, rfl, rfl⟩
/-! laws.FnExactLeastLP -/
noncomputable def E8_laws_FnExactLeastLP : Env := ⟨Try.prog, tys, (Try.f8.body).getD .skip, 96, tysOk, mixedOk⟩
abbrev q_laws_FnExactLeastLP (r : Bool) (σ' : ASt) : Prop := resAV E8_laws_FnExactLeastLP.T σ' Try.f8.results.toList = some (.bool r) ∧ keepO σ'.ob (namesO []) = []
noncomputable def m_laws_FnExactLeastLP (a0 : Int) (a1 : List Int) : Option Bool :=
(m_laws_szGame a0 a1 (1048576 : Int)).bind fun v1 =>
bif decide (v1 < (0 : Int)) then
(some true)
else
((m_laws_toGame a0 a1).bind fun (v2, v3) =>
(m_spec_LeastLP v2 v3).bind fun (v4, v5, v6, v7) =>
(m_laws_toGame a0 a1).bind fun (v8, v9) =>
(m_impl_LeastLP v8 v9).bind fun (v10, v11, v12, v13) =>
(m_laws_eqLP v11 v12 v13 v5 v6 v7).bind fun v14 =>
bif !v14 then
(some false)
else
(bif v10 != v4 then
(some false)
else
((m_laws_toGame a0 a1).bind fun (v15, v16) =>
(m_laws_eqGame v8 v9 v15 v16).bind fun v17 =>
bif !v17 then
(some false)
else
((m_laws_markGame_io1 v8 v9 (1 : Int)).bind fun (v18, _) =>
bif decide (v18 < (0 : Int)) then
(some false)
else
((m_laws_eqLP v11 v12 v13 v5 v6 v7).bind fun v20 =>
bif !v20 then
(some false)
else
(bif v10 != v4 then
(some false)
else
((m_laws_markLP_io3 v11 v12 v13 (1 : Int)).bind fun (v21, v22, v23, v24) =>
(m_laws_heldLP v22 v23 v24 (1 : Int)).bind fun v25 =>
bif decide (v25 < (0 : Int)) then
(some false)
else
(bif v25 != v21 then
(some false)
else
((m_laws_toGame a0 a1).bind fun (v26, v27) =>
(m_impl_LeastLP v26 v27).bind fun (v28, v29, v30, v31) =>
(m_laws_eqLP v29 v30 v31 v5 v6 v7).bind fun v32 =>
bif !v32 then
(some false)
else
(bif v28 != v4 then
(some false)
else
((m_laws_heldLP v22 v23 v24 (1 : Int)).bind fun v33 =>
bif decide (v33 < (0 : Int)) then
(some false)
else
(bif v33 != v21 then
(some false)
else
(some true)))))))))))))
theorem w_laws_FnExactLeastLP (a0 : Int) (a1 : List Int) (r : Bool) (h : m_laws_FnExactLeastLP a0 a1 = some r) : AM.Spec Try.prog 8 [.agg [.int .i64 a0, .list (.ints a1)]] [] (.bool r) [] := by
  refine spec_of (E := E8_laws_FnExactLeastLP) Try.func8 rfl rfl rfl rfl ?_
  refine Tri.run 2 [] [.keep [1, 3] [1]] (K' := [.code [(2, 0)] 0, .code [] 3]) (σ' := ⟨[(1, .ptr 1 0), (3, .int .i64 (1048576 : Int))], [(1, .box [.int .i64 a0, .list (.ints a1)])]⟩) rfl trivial rfl ?_
  obtain ⟨v1, hk1, h⟩ := bind_some h
  refine Tri.run 2 [.r ⟨[], .int .i64 v1, []⟩] [.keep [1, 18] [1]] (K' := [.code [(3, 0)] 1, .code [] 4]) (σ' := ⟨[(1, .ptr 1 0), (18, .bool (decide (v1 < (0 : Int))))], [(1, .box [.int .i64 a0, .list (.ints a1)])]⟩) rfl ⟨(w_laws_szGame a0 a1 (1048576 : Int) v1 hk1), trivial⟩ rfl ?_
  rcases bif_some h with ⟨hd2, h⟩ | ⟨hd2, h⟩
  · refine Tri.run 2 [.g true] [.keep [2] []] (K' := [.code [(3, 0), (1, 0)] 1, .code [] 4]) (σ' := ⟨[(2, .bool true)], []⟩) rfl ⟨hd2, trivial⟩ rfl ?_
    have h := Option.some.inj h
    subst h
    exact Tri.ret rfl ⟨.inl rfl, rfl, rfl⟩
  · obtain ⟨⟨v2, v3⟩, hk3, h⟩ := bind_some h
    obtain ⟨⟨v4, v5, v6, v7⟩, hk4, h⟩ := bind_some h
    refine Tri.run 2 [.g false, .r ⟨[], .agg [.int .i64 v2, .sl 1100 0], [(1100, .arr 3 0 0 (.ints v3))]⟩, .r ⟨[], .tuple [.agg [.sl 1101 0, .sl 1102 0, .sl 1103 0], .bool v4], [(1101, .arr 22 0 0 (.intss v5)), (1102, .arr 3 0 0 (.ints v6)), (1103, .arr 29 0 0 (.rats v7))]⟩] [.keep [1, 4, 5] [1, 4, 1101, 1102, 1103]] (K' := [.code [(5, 0)] 0, .code [] 6]) (σ' := ⟨[(1, .ptr 1 0), (4, .ptr 4 0), (5, .bool v4)], [(1, .box [.int .i64 a0, .list (.ints a1)]), (4, .box [.sl 1101 0, .sl 1102 0, .sl 1103 0]), (1101, .arr 22 0 0 (.intss v5)), (1102, .arr 3 0 0 (.ints v6)), (1103, .arr 29 0 0 (.rats v7))]⟩) rfl ⟨((((w_spec_LeastLP v2 v3 (v4, v5, v6, v7) hk4).swap 1000 1101).swap 1001 1102).swap 1002 1103), ((w_laws_toGame a0 a1 (v2, v3) hk3).swap 1000 1100), hd2, trivial⟩ rfl ?_
    obtain ⟨⟨v8, v9⟩, hk5, h⟩ := bind_some h
    obtain ⟨⟨v10, v11, v12, v13⟩, hk6, h⟩ := bind_some h
    refine Tri.run 2 [.r ⟨[], .agg [.int .i64 v8, .sl 1104 0], [(1104, .arr 3 0 0 (.ints v9))]⟩, .r ⟨[], .tuple [.agg [.sl 1105 0, .sl 1106 0, .sl 1107 0], .bool v10], [(1105, .arr 22 0 0 (.intss v11)), (1106, .arr 3 0 0 (.ints v12)), (1107, .arr 29 0 0 (.rats v13))]⟩] [.keep [1, 4, 5, 6, 7, 8] [1, 4, 6, 7, 1101, 1102, 1103, 1104, 1105, 1106, 1107]] (K' := [.code [(7, 0), (0, 0)] 0, .code [(7, 0)] 1, .code [] 8]) (σ' := ⟨[(1, .ptr 1 0), (4, .ptr 4 0), (5, .bool v4), (6, .ptr 6 0), (7, .ptr 7 0), (8, .bool v10)], [(1, .box [.int .i64 a0, .list (.ints a1)]), (4, .box [.sl 1101 0, .sl 1102 0, .sl 1103 0]), (6, .box [.int .i64 v8, .sl 1104 0]), (7, .box [.sl 1105 0, .sl 1106 0, .sl 1107 0]), (1101, .arr 22 0 0 (.intss v5)), (1102, .arr 3 0 0 (.ints v6)), (1103, .arr 29 0 0 (.rats v7)), (1104, .arr 3 0 0 (.ints v9)), (1105, .arr 22 0 0 (.intss v11)), (1106, .arr 3 0 0 (.ints v12)), (1107, .arr 29 0 0 (.rats v13))]⟩) rfl ⟨((((w_impl_LeastLP v8 v9 (v10, v11, v12, v13) hk6).swap 1000 1105).swap 1001 1106).swap 1002 1107), ((w_laws_toGame a0 a1 (v8, v9) hk5).swap 1000 1104), trivial⟩ rfl ?_
    obtain ⟨v14, hk7, h⟩ := bind_some h
    rcases bif_some h with ⟨hd8, h⟩ | ⟨hd8, h⟩
    · refine Tri.run 1 [.r ⟨[], .bool v14, []⟩, .g true] [.keep [1, 4, 5, 6, 7, 8, 40] [1, 4, 6, 7, 1101, 1102, 1103, 1104, 1105, 1106, 1107]] (K' := [.code [(7, 0)] 1, .code [] 8]) (σ' := ⟨[(1, .ptr 1 0), (4, .ptr 4 0), (5, .bool v4), (6, .ptr 6 0), (7, .ptr 7 0), (8, .bool v10), (40, .bool true)], [(1, .box [.int .i64 a0, .list (.ints a1)]), (4, .box [.sl 1101 0, .sl 1102 0, .sl 1103 0]), (6, .box [.int .i64 v8, .sl 1104 0]), (7, .box [.sl 1105 0, .sl 1106 0, .sl 1107 0]), (1101, .arr 22 0 0 (.intss v5)), (1102, .arr 3 0 0 (.ints v6)), (1103, .arr 29 0 0 (.rats v7)), (1104, .arr 3 0 0 (.ints v9)), (1105, .arr 22 0 0 (.intss v11)), (1106, .arr 3 0 0 (.ints v12)), (1107, .arr 29 0 0 (.rats v13))]⟩) rfl ⟨hd8, (w_laws_eqLP v11 v12 v13 v5 v6 v7 v14 hk7), trivial⟩ rfl ?_
      refine Tri.run 2 [.g true] [.keep [2] []] (K' := [.code [(7, 0), (1, 0)] 1, .code [] 8]) (σ' := ⟨[(2, .bool false)], []⟩) rfl ⟨rfl, trivial⟩ rfl ?_
      have h := Option.some.inj h
      subst h
      exact Tri.ret rfl ⟨.inl rfl, rfl, rfl⟩
    · refine Tri.run 1 [.r ⟨[], .bool v14, []⟩, .g false] [.keep [1, 4, 5, 6, 7, 8, 40] [1, 4, 6, 7, 1101, 1102, 1103, 1104, 1105, 1106, 1107]] (K' := [.code [(7, 0)] 1, .code [] 8]) (σ' := ⟨[(1, .ptr 1 0), (4, .ptr 4 0), (5, .bool v4), (6, .ptr 6 0), (7, .ptr 7 0), (8, .bool v10), (40, .bool (v10 != v4))], [(1, .box [.int .i64 a0, .list (.ints a1)]), (4, .box [.sl 1101 0, .sl 1102 0, .sl 1103 0]), (6, .box [.int .i64 v8, .sl 1104 0]), (7, .box [.sl 1105 0, .sl 1106 0, .sl 1107 0]), (1101, .arr 22 0 0 (.intss v5)), (1102, .arr 3 0 0 (.ints v6)), (1103, .arr 29 0 0 (.rats v7)), (1104, .arr 3 0 0 (.ints v9)), (1105, .arr 22 0 0 (.intss v11)), (1106, .arr 3 0 0 (.ints v12)), (1107, .arr 29 0 0 (.rats v13))]⟩) rfl ⟨hd8, (w_laws_eqLP v11 v12 v13 v5 v6 v7 v14 hk7), trivial⟩ rfl ?_
      rcases bif_some h with ⟨hd9, h⟩ | ⟨hd9, h⟩
      · refine Tri.run 2 [.g true] [.keep [2] []] (K' := [.code [(7, 0), (1, 0)] 1, .code [] 8]) (σ' := ⟨[(2, .bool false)], []⟩) rfl ⟨hd9, trivial⟩ rfl ?_
        have h := Option.some.inj h
        subst h
        exact Tri.ret rfl ⟨.inl rfl, rfl, rfl⟩
      · obtain ⟨⟨v15, v16⟩, hk10, h⟩ := bind_some h
        obtain ⟨v17, hk11, h⟩ := bind_some h
        refine Tri.run 2 [.g false, .r ⟨[], .agg [.int .i64 v15, .sl 1108 0], [(1108, .arr 3 0 0 (.ints v16))]⟩, .r ⟨[], .bool v17, []⟩] [.keep [1, 4, 5, 6, 7, 8, 45] [1, 4, 6, 7, 1101, 1102, 1103, 1104, 1105, 1106, 1107]] (K' := [.code [(8, 0)] 1, .code [] 9]) (σ' := ⟨[(1, .ptr 1 0), (4, .ptr 4 0), (5, .bool v4), (6, .ptr 6 0), (7, .ptr 7 0), (8, .bool v10), (45, .bool (!v17))], [(1, .box [.int .i64 a0, .list (.ints a1)]), (4, .box [.sl 1101 0, .sl 1102 0, .sl 1103 0]), (6, .box [.int .i64 v8, .sl 1104 0]), (7, .box [.sl 1105 0, .sl 1106 0, .sl 1107 0]), (1101, .arr 22 0 0 (.intss v5)), (1102, .arr 3 0 0 (.ints v6)), (1103, .arr 29 0 0 (.rats v7)), (1104, .arr 3 0 0 (.ints v9)), (1105, .arr 22 0 0 (.intss v11)), (1106, .arr 3 0 0 (.ints v12)), (1107, .arr 29 0 0 (.rats v13))]⟩) rfl ⟨(w_laws_eqGame v8 v9 v15 v16 v17 hk11), ((w_laws_toGame a0 a1 (v15, v16) hk10).swap 1000 1108), hd9, trivial⟩ rfl ?_
        rcases bif_some h with ⟨hd12, h⟩ | ⟨hd12, h⟩
        · refine Tri.run 2 [.g true] [.keep [2] []] (K' := [.code [(8, 0), (1, 0)] 1, .code [] 9]) (σ' := ⟨[(2, .bool false)], []⟩) rfl ⟨hd12, trivial⟩ rfl ?_
          have h := Option.some.inj h
          subst h
          exact Tri.ret rfl ⟨.inl rfl, rfl, rfl⟩
        · refine Tri.run 2 [.g false] [.keep [1, 4, 5, 6, 7, 8, 9] [1, 4, 6, 7, 1101, 1102, 1103, 1104, 1105, 1106, 1107]] (K' := [.code [(10, 0)] 0, .code [] 11]) (σ' := ⟨[(1, .ptr 1 0), (4, .ptr 4 0), (5, .bool v4), (6, .ptr 6 0), (7, .ptr 7 0), (8, .bool v10), (9, .int .i64 (1 : Int))], [(1, .box [.int .i64 a0, .list (.ints a1)]), (4, .box [.sl 1101 0, .sl 1102 0, .sl 1103 0]), (6, .box [.int .i64 v8, .sl 1104 0]), (7, .box [.sl 1105 0, .sl 1106 0, .sl 1107 0]), (1101, .arr 22 0 0 (.intss v5)), (1102, .arr 3 0 0 (.ints v6)), (1103, .arr 29 0 0 (.rats v7)), (1104, .arr 3 0 0 (.ints v9)), (1105, .arr 22 0 0 (.intss v11)), (1106, .arr 3 0 0 (.ints v12)), (1107, .arr 29 0 0 (.rats v13))]⟩) rfl ⟨hd12, trivial⟩ rfl ?_
          obtain ⟨⟨v18, v19⟩, hk13, h⟩ := bind_some h
          rcases bif_some h with ⟨hd14, h⟩ | ⟨hd14, h⟩
          · refine Tri.run 2 [.r ⟨[1104], .int .i64 v18, [(1104, .arr 3 0 0 (.ints v19))]⟩, .g true, .g true] [.keep [1, 4, 5, 7, 61] [1, 4, 7, 1101, 1102, 1103, 1105, 1106, 1107]] (K' := [.code [(11, 0)] 1, .code [] 12]) (σ' := ⟨[(1, .ptr 1 0), (4, .ptr 4 0), (5, .bool v4), (7, .ptr 7 0), (61, .bool true)], [(1, .box [.int .i64 a0, .list (.ints a1)]), (4, .box [.sl 1101 0, .sl 1102 0, .sl 1103 0]), (7, .box [.sl 1105 0, .sl 1106 0, .sl 1107 0]), (1101, .arr 22 0 0 (.intss v5)), (1102, .arr 3 0 0 (.ints v6)), (1103, .arr 29 0 0 (.rats v7)), (1105, .arr 22 0 0 (.intss v11)), (1106, .arr 3 0 0 (.ints v12)), (1107, .arr 29 0 0 (.rats v13))]⟩) rfl ⟨rfl, hd14, ((w_laws_markGame_io1 v8 v9 (1 : Int) (v18, v19) hk13).swap 2000 1104), trivial⟩ rfl ?_
            refine Tri.run 2 [.g true] [.keep [2] []] (K' := [.code [(11, 0), (1, 0)] 1, .code [] 12]) (σ' := ⟨[(2, .bool false)], []⟩) rfl ⟨rfl, trivial⟩ rfl ?_
            have h := Option.some.inj h
            subst h
            exact Tri.ret rfl ⟨.inl rfl, rfl, rfl⟩
          · obtain ⟨v20, hk15, h⟩ := bind_some h
            rcases bif_some h with ⟨hd16, h⟩ | ⟨hd16, h⟩
            · refine Tri.run 2 [.r ⟨[1104], .int .i64 v18, [(1104, .arr 3 0 0 (.ints v19))]⟩, .g false, .r ⟨[], .bool v20, []⟩, .g true] [.keep [1, 4, 5, 7, 61] [1, 4, 7, 1101, 1102, 1103, 1105, 1106, 1107]] (K' := [.code [(11, 0)] 1, .code [] 12]) (σ' := ⟨[(1, .ptr 1 0), (4, .ptr 4 0), (5, .bool v4), (7, .ptr 7 0), (61, .bool true)], [(1, .box [.int .i64 a0, .list (.ints a1)]), (4, .box [.sl 1101 0, .sl 1102 0, .sl 1103 0]), (7, .box [.sl 1105 0, .sl 1106 0, .sl 1107 0]), (1101, .arr 22 0 0 (.intss v5)), (1102, .arr 3 0 0 (.ints v6)), (1103, .arr 29 0 0 (.rats v7)), (1105, .arr 22 0 0 (.intss v11)), (1106, .arr 3 0 0 (.ints v12)), (1107, .arr 29 0 0 (.rats v13))]⟩) rfl ⟨hd16, (w_laws_eqLP v11 v12 v13 v5 v6 v7 v20 hk15), hd14, ((w_laws_markGame_io1 v8 v9 (1 : Int) (v18, v19) hk13).swap 2000 1104), trivial⟩ rfl ?_
              refine Tri.run 2 [.g true] [.keep [2] []] (K' := [.code [(11, 0), (1, 0)] 1, .code [] 12]) (σ' := ⟨[(2, .bool false)], []⟩) rfl ⟨rfl, trivial⟩ rfl ?_
              have h := Option.some.inj h
              subst h
              exact Tri.ret rfl ⟨.inl rfl, rfl, rfl⟩
            · refine Tri.run 2 [.r ⟨[1104], .int .i64 v18, [(1104, .arr 3 0 0 (.ints v19))]⟩, .g false, .r ⟨[], .bool v20, []⟩, .g false] [.keep [1, 4, 5, 7, 61] [1, 4, 7, 1101, 1102, 1103, 1105, 1106, 1107]] (K' := [.code [(11, 0)] 1, .code [] 12]) (σ' := ⟨[(1, .ptr 1 0), (4, .ptr 4 0), (5, .bool v4), (7, .ptr 7 0), (61, .bool (v10 != v4))], [(1, .box [.int .i64 a0, .list (.ints a1)]), (4, .box [.sl 1101 0, .sl 1102 0, .sl 1103 0]), (7, .box [.sl 1105 0, .sl 1106 0, .sl 1107 0]), (1101, .arr 22 0 0 (.intss v5)), (1102, .arr 3 0 0 (.ints v6)), (1103, .arr 29 0 0 (.rats v7)), (1105, .arr 22 0 0 (.intss v11)), (1106, .arr 3 0 0 (.ints v12)), (1107, .arr 29 0 0 (.rats v13))]⟩) rfl ⟨hd16, (w_laws_eqLP v11 v12 v13 v5 v6 v7 v20 hk15), hd14, ((w_laws_markGame_io1 v8 v9 (1 : Int) (v18, v19) hk13).swap 2000 1104), trivial⟩ rfl ?_
              rcases bif_some h with ⟨hd17, h⟩ | ⟨hd17, h⟩
              · refine Tri.run 2 [.g true] [.keep [2] []] (K' := [.code [(11, 0), (1, 0)] 1, .code [] 12]) (σ' := ⟨[(2, .bool false)], []⟩) rfl ⟨hd17, trivial⟩ rfl ?_
                have h := Option.some.inj h
                subst h
                exact Tri.ret rfl ⟨.inl rfl, rfl, rfl⟩
              · refine Tri.run 2 [.g false] [.keep [1, 4, 5, 7, 10] [1, 4, 7, 1101, 1102, 1103, 1105, 1106, 1107]] (K' := [.code [(13, 0)] 0, .code [] 14]) (σ' := ⟨[(1, .ptr 1 0), (4, .ptr 4 0), (5, .bool v4), (7, .ptr 7 0), (10, .int .i64 (1 : Int))], [(1, .box [.int .i64 a0, .list (.ints a1)]), (4, .box [.sl 1101 0, .sl 1102 0, .sl 1103 0]), (7, .box [.sl 1105 0, .sl 1106 0, .sl 1107 0]), (1101, .arr 22 0 0 (.intss v5)), (1102, .arr 3 0 0 (.ints v6)), (1103, .arr 29 0 0 (.rats v7)), (1105, .arr 22 0 0 (.intss v11)), (1106, .arr 3 0 0 (.ints v12)), (1107, .arr 29 0 0 (.rats v13))]⟩) rfl ⟨hd17, trivial⟩ rfl ?_
                obtain ⟨⟨v21, v22, v23, v24⟩, hk18, h⟩ := bind_some h
                refine Tri.run 2 [.r ⟨[1105, 1106, 1107], .int .i64 v21, [(1105, .arr 22 0 0 (.intss v22)), (1106, .arr 3 0 0 (.ints v23)), (1107, .arr 29 0 0 (.rats v24))]⟩] [.keep [1, 4, 5, 7, 10, 11] [1, 4, 7, 1101, 1102, 1103, 1105, 1106, 1107]] (K' := [.code [(15, 0)] 0, .code [] 16]) (σ' := ⟨[(1, .ptr 1 0), (4, .ptr 4 0), (5, .bool v4), (7, .ptr 7 0), (10, .int .i64 v21), (11, .int .i64 (1 : Int))], [(1, .box [.int .i64 a0, .list (.ints a1)]), (4, .box [.sl 1101 0, .sl 1102 0, .sl 1103 0]), (7, .box [.sl 1105 0, .sl 1106 0, .sl 1107 0]), (1101, .arr 22 0 0 (.intss v5)), (1102, .arr 3 0 0 (.ints v6)), (1103, .arr 29 0 0 (.rats v7)), (1105, .arr 22 0 0 (.intss v22)), (1106, .arr 3 0 0 (.ints v23)), (1107, .arr 29 0 0 (.rats v24))]⟩) rfl ⟨((((w_laws_markLP_io3 v11 v12 v13 (1 : Int) (v21, v22, v23, v24) hk18).swap 2040 1105).swap 2041 1106).swap 2042 1107), trivial⟩ rfl ?_
                obtain ⟨v25, hk19, h⟩ := bind_some h
                refine Tri.run 2 [.r ⟨[], .int .i64 v25, []⟩] [.keep [1, 4, 5, 7, 10, 11, 69] [1, 4, 7, 1101, 1102, 1103, 1105, 1106, 1107]] (K' := [.code [(16, 0)] 1, .code [] 17]) (σ' := ⟨[(1, .ptr 1 0), (4, .ptr 4 0), (5, .bool v4), (7, .ptr 7 0), (10, .int .i64 v21), (11, .int .i64 v25), (69, .bool (decide (v25 < (0 : Int))))], [(1, .box [.int .i64 a0, .list (.ints a1)]), (4, .box [.sl 1101 0, .sl 1102 0, .sl 1103 0]), (7, .box [.sl 1105 0, .sl 1106 0, .sl 1107 0]), (1101, .arr 22 0 0 (.intss v5)), (1102, .arr 3 0 0 (.ints v6)), (1103, .arr 29 0 0 (.rats v7)), (1105, .arr 22 0 0 (.intss v22)), (1106, .arr 3 0 0 (.ints v23)), (1107, .arr 29 0 0 (.rats v24))]⟩) rfl ⟨(w_laws_heldLP v22 v23 v24 (1 : Int) v25 hk19), trivial⟩ rfl ?_
                rcases bif_some h with ⟨hd20, h⟩ | ⟨hd20, h⟩
                · refine Tri.run 2 [.g true] [.keep [2] []] (K' := [.code [(16, 0), (1, 0)] 1, .code [] 17]) (σ' := ⟨[(2, .bool false)], []⟩) rfl ⟨hd20, trivial⟩ rfl ?_
                  have h := Option.some.inj h
                  subst h
                  exact Tri.ret rfl ⟨.inl rfl, rfl, rfl⟩
                · refine Tri.run 2 [.g false] [.keep [1, 4, 5, 7, 10, 72] [1, 4, 7, 1101, 1102, 1103, 1105, 1106, 1107]] (K' := [.code [(17, 0)] 1, .code [] 18]) (σ' := ⟨[(1, .ptr 1 0), (4, .ptr 4 0), (5, .bool v4), (7, .ptr 7 0), (10, .int .i64 v21), (72, .bool (v25 != v21))], [(1, .box [.int .i64 a0, .list (.ints a1)]), (4, .box [.sl 1101 0, .sl 1102 0, .sl 1103 0]), (7, .box [.sl 1105 0, .sl 1106 0, .sl 1107 0]), (1101, .arr 22 0 0 (.intss v5)), (1102, .arr 3 0 0 (.ints v6)), (1103, .arr 29 0 0 (.rats v7)), (1105, .arr 22 0 0 (.intss v22)), (1106, .arr 3 0 0 (.ints v23)), (1107, .arr 29 0 0 (.rats v24))]⟩) rfl ⟨hd20, trivial⟩ rfl ?_
                  rcases bif_some h with ⟨hd21, h⟩ | ⟨hd21, h⟩
                  · refine Tri.run 2 [.g true] [.keep [2] []] (K' := [.code [(17, 0), (1, 0)] 1, .code [] 18]) (σ' := ⟨[(2, .bool false)], []⟩) rfl ⟨hd21, trivial⟩ rfl ?_
                    have h := Option.some.inj h
                    subst h
                    exact Tri.ret rfl ⟨.inl rfl, rfl, rfl⟩
                  · obtain ⟨⟨v26, v27⟩, hk22, h⟩ := bind_some h
                    obtain ⟨⟨v28, v29, v30, v31⟩, hk23, h⟩ := bind_some h
                    refine Tri.run 2 [.g false, .r ⟨[], .agg [.int .i64 v26, .sl 1109 0], [(1109, .arr 3 0 0 (.ints v27))]⟩, .r ⟨[], .tuple [.agg [.sl 1110 0, .sl 1111 0, .sl 1112 0], .bool v28], [(1110, .arr 22 0 0 (.intss v29)), (1111, .arr 3 0 0 (.ints v30)), (1112, .arr 29 0 0 (.rats v31))]⟩] [.keep [4, 5, 7, 10, 12, 13] [4, 7, 12, 1101, 1102, 1103, 1105, 1106, 1107, 1110, 1111, 1112]] (K' := [.code [(19, 0), (0, 0)] 0, .code [(19, 0)] 1, .code [] 20]) (σ' := ⟨[(4, .ptr 4 0), (5, .bool v4), (7, .ptr 7 0), (10, .int .i64 v21), (12, .ptr 12 0), (13, .bool v28)], [(4, .box [.sl 1101 0, .sl 1102 0, .sl 1103 0]), (7, .box [.sl 1105 0, .sl 1106 0, .sl 1107 0]), (12, .box [.sl 1110 0, .sl 1111 0, .sl 1112 0]), (1101, .arr 22 0 0 (.intss v5)), (1102, .arr 3 0 0 (.ints v6)), (1103, .arr 29 0 0 (.rats v7)), (1105, .arr 22 0 0 (.intss v22)), (1106, .arr 3 0 0 (.ints v23)), (1107, .arr 29 0 0 (.rats v24)), (1110, .arr 22 0 0 (.intss v29)), (1111, .arr 3 0 0 (.ints v30)), (1112, .arr 29 0 0 (.rats v31))]⟩) rfl ⟨((((w_impl_LeastLP v26 v27 (v28, v29, v30, v31) hk23).swap 1000 1110).swap 1001 1111).swap 1002 1112), ((w_laws_toGame a0 a1 (v26, v27) hk22).swap 1000 1109), hd21, trivial⟩ rfl ?_
                    obtain ⟨v32, hk24, h⟩ := bind_some h
                    rcases bif_some h with ⟨hd25, h⟩ | ⟨hd25, h⟩
                    · refine Tri.run 1 [.r ⟨[], .bool v32, []⟩, .g true] [.keep [7, 10, 87] [7, 1105, 1106, 1107]] (K' := [.code [(19, 0)] 1, .code [] 20]) (σ' := ⟨[(7, .ptr 7 0), (10, .int .i64 v21), (87, .bool true)], [(7, .box [.sl 1105 0, .sl 1106 0, .sl 1107 0]), (1105, .arr 22 0 0 (.intss v22)), (1106, .arr 3 0 0 (.ints v23)), (1107, .arr 29 0 0 (.rats v24))]⟩) rfl ⟨hd25, (w_laws_eqLP v29 v30 v31 v5 v6 v7 v32 hk24), trivial⟩ rfl ?_
                      refine Tri.run 2 [.g true] [.keep [2] []] (K' := [.code [(19, 0), (1, 0)] 1, .code [] 20]) (σ' := ⟨[(2, .bool false)], []⟩) rfl ⟨rfl, trivial⟩ rfl ?_
                      have h := Option.some.inj h
                      subst h
                      exact Tri.ret rfl ⟨.inl rfl, rfl, rfl⟩
                    · refine Tri.run 1 [.r ⟨[], .bool v32, []⟩, .g false] [.keep [7, 10, 87] [7, 1105, 1106, 1107]] (K' := [.code [(19, 0)] 1, .code [] 20]) (σ' := ⟨[(7, .ptr 7 0), (10, .int .i64 v21), (87, .bool (v28 != v4))], [(7, .box [.sl 1105 0, .sl 1106 0, .sl 1107 0]), (1105, .arr 22 0 0 (.intss v22)), (1106, .arr 3 0 0 (.ints v23)), (1107, .arr 29 0 0 (.rats v24))]⟩) rfl ⟨hd25, (w_laws_eqLP v29 v30 v31 v5 v6 v7 v32 hk24), trivial⟩ rfl ?_
                      rcases bif_some h with ⟨hd26, h⟩ | ⟨hd26, h⟩
                      · refine Tri.run 2 [.g true] [.keep [2] []] (K' := [.code [(19, 0), (1, 0)] 1, .code [] 20]) (σ' := ⟨[(2, .bool false)], []⟩) rfl ⟨hd26, trivial⟩ rfl ?_
                        have h := Option.some.inj h
                        subst h
                        exact Tri.ret rfl ⟨.inl rfl, rfl, rfl⟩
                      · refine Tri.run 2 [.g false] [.keep [7, 10, 11] [7, 1105, 1106, 1107]] (K' := [.code [(21, 0)] 0, .code [] 22]) (σ' := ⟨[(7, .ptr 7 0), (10, .int .i64 v21), (11, .int .i64 (1 : Int))], [(7, .box [.sl 1105 0, .sl 1106 0, .sl 1107 0]), (1105, .arr 22 0 0 (.intss v22)), (1106, .arr 3 0 0 (.ints v23)), (1107, .arr 29 0 0 (.rats v24))]⟩) rfl ⟨hd26, trivial⟩ rfl ?_
                        obtain ⟨v33, hk27, h⟩ := bind_some h
                        refine Tri.run 2 [.r ⟨[], .int .i64 v33, []⟩] [.keep [10, 11, 92] []] (K' := [.code [(22, 0)] 1, .code [] 23]) (σ' := ⟨[(10, .int .i64 v21), (11, .int .i64 v33), (92, .bool (decide (v33 < (0 : Int))))], []⟩) rfl ⟨(w_laws_heldLP v22 v23 v24 (1 : Int) v33 hk27), trivial⟩ rfl ?_
                        rcases bif_some h with ⟨hd28, h⟩ | ⟨hd28, h⟩
                        · refine Tri.run 2 [.g true] [.keep [2] []] (K' := [.code [(22, 0), (1, 0)] 1, .code [] 23]) (σ' := ⟨[(2, .bool false)], []⟩) rfl ⟨hd28, trivial⟩ rfl ?_
                          have h := Option.some.inj h
                          subst h
                          exact Tri.ret rfl ⟨.inl rfl, rfl, rfl⟩
                        · refine Tri.run 2 [.g false] [.keep [95] []] (K' := [.code [(23, 0)] 1, .code [] 24]) (σ' := ⟨[(95, .bool (v33 != v21))], []⟩) rfl ⟨hd28, trivial⟩ rfl ?_
                          rcases bif_some h with ⟨hd29, h⟩ | ⟨hd29, h⟩
                          · refine Tri.run 2 [.g true] [.keep [2] []] (K' := [.code [(23, 0), (1, 0)] 1, .code [] 24]) (σ' := ⟨[(2, .bool false)], []⟩) rfl ⟨hd29, trivial⟩ rfl ?_
                            have h := Option.some.inj h
                            subst h
                            exact Tri.ret rfl ⟨.inl rfl, rfl, rfl⟩
                          · refine Tri.run 2 [.g false] [.keep [2] []] (K' := [.code [] 25]) (σ' := ⟨[(2, .bool true)], []⟩) rfl ⟨hd29, trivial⟩ rfl ?_
                            have h := Option.some.inj h
                            subst h
                            exact Tri.ret rfl ⟨.inl rfl, rfl, rfl⟩
end Go.Proofs.Ytoefgmmmcpikfaa
