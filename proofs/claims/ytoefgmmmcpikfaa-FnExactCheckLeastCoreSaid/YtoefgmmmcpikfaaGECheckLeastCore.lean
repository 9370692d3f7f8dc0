/- models and walks -/
import Derived.Test.YtoefgmmmcpikfaaProg
import Derived.Test.YtoefgmmmcpikfaaAmB
namespace Go.Proofs.Ytoefgmmmcpikfaa
open Go.AM
set_option maxRecDepth 100000
set_option maxHeartbeats 4000000
noncomputable def tys : TEnv := [(3, .int .i64),
  (4, .bool),
  (22, .slice 3 (.ints [])),
  (24, .struct [(0, 3), (1, 22)] [.int .i64 0, .nil (.ints [])] false),
  (25, .slice 79 (.rats [])),
  (29, .struct [(0, 3), (1, 3)] [.int .i64 0, .int .i64 0] true),
  (32, .struct [(0, 3), (1, 22)] [.int .i64 0, .nil (.ints [])] false),
  (34, .slice 29 (.rats [])),
  (59, .slice 22 (.intss [])),
  (61, .struct [(0, 59), (1, 22), (2, 34)] [.nil (.intss []), .nil (.ints []), .nil (.rats [])] false),
  (79, .struct [(0, 3), (1, 3)] [.int .i64 0, .int .i64 0] true),
  (81, .struct [(0, 4), (1, 79), (3, 25), (4, 25)] [.bool false, .int .i64 0, .int .i64 0, .nil (.rats []), .nil (.rats [])] false),
  (85, .struct [(0, 4), (1, 29), (3, 34), (4, 34)] [.bool false, .int .i64 0, .int .i64 0, .nil (.rats []), .nil (.rats [])] false)]
theorem tysOk : TOk Try.prog tys := tok_of (by kernel_rfl)
theorem mixedOk : Try.prog.follows .mixedOrders = true := by kernel_rfl
/-! laws.szIntS -/
noncomputable def E64_laws_szIntS : Env := ⟨Try.prog, tys, (Try.f64.body).getD .skip, 12, tysOk, mixedOk⟩
abbrev q_laws_szIntS (r : Int) (σ' : ASt) : Prop := resAV E64_laws_szIntS.T σ' Try.f64.results.toList = some (.int .i64 r) ∧ keepO σ'.ob (namesO []) = []
noncomputable def m_laws_szIntS (a0 : List Int) (a1 : Int) : Option Int :=
bif decide ((IntKind.i64.wrap (a1 - (a0.length : Int))) < (0 : Int)) then
(some (-1 : Int))
else
(some (IntKind.i64.wrap (a1 - (a0.length : Int))))
theorem w_laws_szIntS (a0 : List Int) (a1 : Int) (r : Int) (h : m_laws_szIntS a0 a1 = some r) : AM.Spec Try.prog 64 [.list (.ints a0), .int .i64 a1] [] (.int .i64 r) [] := by
  refine spec_of (E := E64_laws_szIntS) Try.func64 rfl rfl rfl rfl ?_
  refine Tri.run 3 [] [.keep [1, 10] []] (K' := [.code [(2, 0)] 1, .code [] 3]) (σ' := ⟨[(1, .int .i64 (IntKind.i64.wrap (a1 - (a0.length : Int)))), (10, .bool (decide ((IntKind.i64.wrap (a1 - (a0.length : Int))) < (0 : Int))))], []⟩) rfl trivial rfl ?_
  rcases bif_some h with ⟨hd1, h⟩ | ⟨hd1, h⟩
  · refine Tri.run 2 [.g true] [.keep [4] []] (K' := [.code [(2, 0), (1, 0)] 1, .code [] 3]) (σ' := ⟨[(4, .int .i64 (-1 : Int))], []⟩) rfl ⟨hd1, trivial⟩ rfl ?_
    have h := Option.some.inj h
    subst h
    exact Tri.ret rfl ⟨.inl rfl, rfl, rfl⟩
  · refine Tri.run 2 [.g false] [.keep [4] []] (K' := [.code [] 4]) (σ' := ⟨[(4, .int .i64 (IntKind.i64.wrap (a1 - (a0.length : Int))))], []⟩) rfl ⟨hd1, trivial⟩ rfl ?_
    have h := Option.some.inj h
    subst h
    exact Tri.ret rfl ⟨.inl rfl, rfl, rfl⟩
/-! laws.szGame -/
noncomputable def E15_laws_szGame : Env := ⟨Try.prog, tys, (Try.f15.body).getD .skip, 12, tysOk, mixedOk⟩
abbrev q_laws_szGame (r : Int) (σ' : ASt) : Prop := resAV E15_laws_szGame.T σ' Try.f15.results.toList = some (.int .i64 r) ∧ keepO σ'.ob (namesO []) = []
noncomputable def m_laws_szGame (_a0 : Int) (a1 : List Int) (a2 : Int) : Option Int :=
(m_laws_szIntS a1 a2).bind fun v1 =>
bif decide (v1 < (0 : Int)) then
(some (-1 : Int))
else
(some v1)
theorem w_laws_szGame (a0 : Int) (a1 : List Int) (a2 : Int) (r : Int) (h : m_laws_szGame a0 a1 a2 = some r) : AM.Spec Try.prog 15 [.agg [.int .i64 a0, .list (.ints a1)], .int .i64 a2] [] (.int .i64 r) [] := by
  refine spec_of (E := E15_laws_szGame) Try.func15 rfl rfl rfl rfl ?_
  refine Tri.run 1 [] [.keep [1, 2] [2]] (K' := [.code [(1, 0)] 0, .code [] 2]) (σ' := ⟨[(1, .int .i64 a2), (2, .ptr 2 0)], [(2, .box [.int .i64 a0, .list (.ints a1)])]⟩) rfl trivial rfl ?_
  obtain ⟨v1, hk1, h⟩ := bind_some h
  refine Tri.run 2 [.r ⟨[], .int .i64 v1, []⟩] [.keep [1, 10] []] (K' := [.code [(2, 0)] 1, .code [] 3]) (σ' := ⟨[(1, .int .i64 v1), (10, .bool (decide (v1 < (0 : Int))))], []⟩) rfl ⟨(w_laws_szIntS a1 a2 v1 hk1), trivial⟩ rfl ?_
  rcases bif_some h with ⟨hd2, h⟩ | ⟨hd2, h⟩
  · refine Tri.run 2 [.g true] [.keep [4] []] (K' := [.code [(2, 0), (1, 0)] 1, .code [] 3]) (σ' := ⟨[(4, .int .i64 (-1 : Int))], []⟩) rfl ⟨hd2, trivial⟩ rfl ?_
    have h := Option.some.inj h
    subst h
    exact Tri.ret rfl ⟨.inl rfl, rfl, rfl⟩
  · refine Tri.run 2 [.g false] [.keep [4] []] (K' := [.code [] 4]) (σ' := ⟨[(4, .int .i64 v1)], []⟩) rfl ⟨hd2, trivial⟩ rfl ?_
    have h := Option.some.inj h
    subst h
    exact Tri.ret rfl ⟨.inl rfl, rfl, rfl⟩
/-! laws.szRatS -/
noncomputable def E16_laws_szRatS : Env := ⟨Try.prog, tys, (Try.f16.body).getD .skip, 12, tysOk, mixedOk⟩
abbrev q_laws_szRatS (r : Int) (σ' : ASt) : Prop := resAV E16_laws_szRatS.T σ' Try.f16.results.toList = some (.int .i64 r) ∧ keepO σ'.ob (namesO []) = []
noncomputable def m_laws_szRatS (a0 : List Q) (a1 : Int) : Option Int :=
bif decide ((IntKind.i64.wrap (a1 - (a0.length : Int))) < (0 : Int)) then
(some (-1 : Int))
else
(some (IntKind.i64.wrap (a1 - (a0.length : Int))))
theorem w_laws_szRatS (a0 : List Q) (a1 : Int) (r : Int) (h : m_laws_szRatS a0 a1 = some r) : AM.Spec Try.prog 16 [.list (.rats a0), .int .i64 a1] [] (.int .i64 r) [] := by
  refine spec_of (E := E16_laws_szRatS) Try.func16 rfl rfl rfl rfl ?_
  refine Tri.run 3 [] [.keep [1, 10] []] (K' := [.code [(2, 0)] 1, .code [] 3]) (σ' := ⟨[(1, .int .i64 (IntKind.i64.wrap (a1 - (a0.length : Int)))), (10, .bool (decide ((IntKind.i64.wrap (a1 - (a0.length : Int))) < (0 : Int))))], []⟩) rfl trivial rfl ?_
  rcases bif_some h with ⟨hd1, h⟩ | ⟨hd1, h⟩
  · refine Tri.run 2 [.g true] [.keep [4] []] (K' := [.code [(2, 0), (1, 0)] 1, .code [] 3]) (σ' := ⟨[(4, .int .i64 (-1 : Int))], []⟩) rfl ⟨hd1, trivial⟩ rfl ?_
    have h := Option.some.inj h
    subst h
    exact Tri.ret rfl ⟨.inl rfl, rfl, rfl⟩
  · refine Tri.run 2 [.g false] [.keep [4] []] (K' := [.code [] 4]) (σ' := ⟨[(4, .int .i64 (IntKind.i64.wrap (a1 - (a0.length : Int))))], []⟩) rfl ⟨hd1, trivial⟩ rfl ?_
    have h := Option.some.inj h
    subst h
    exact Tri.ret rfl ⟨.inl rfl, rfl, rfl⟩
/-! laws.szLeastResult -/
noncomputable def E57_laws_szLeastResult : Env := ⟨Try.prog, tys, (Try.f57.body).getD .skip, 18, tysOk, mixedOk⟩
abbrev q_laws_szLeastResult (r : Int) (σ' : ASt) : Prop := resAV E57_laws_szLeastResult.T σ' Try.f57.results.toList = some (.int .i64 r) ∧ keepO σ'.ob (namesO []) = []
noncomputable def m_laws_szLeastResult (_a0 : Bool) (_a1 : Int) (_a2 : Int) (a3 : List Q) (a4 : List Q) (a5 : Int) : Option Int :=
(m_laws_szRatS a3 a5).bind fun v1 =>
bif decide (v1 < (0 : Int)) then
(some (-1 : Int))
else
((m_laws_szRatS a4 v1).bind fun v2 =>
bif decide (v2 < (0 : Int)) then
(some (-1 : Int))
else
(some v2))
theorem w_laws_szLeastResult (a0 : Bool) (a1 : Int) (a2 : Int) (a3 : List Q) (a4 : List Q) (a5 : Int) (r : Int) (h : m_laws_szLeastResult a0 a1 a2 a3 a4 a5 = some r) : AM.Spec Try.prog 57 [.agg [.bool a0, .int .i64 a1, .int .i64 a2, .list (.rats a3), .list (.rats a4)], .int .i64 a5] [] (.int .i64 r) [] := by
  refine spec_of (E := E57_laws_szLeastResult) Try.func57 rfl rfl rfl rfl ?_
  refine Tri.run 1 [] [.keep [1, 2] [2]] (K' := [.code [(1, 0)] 0, .code [] 2]) (σ' := ⟨[(1, .int .i64 a5), (2, .ptr 2 0)], [(2, .box [.bool a0, .int .i64 a1, .int .i64 a2, .list (.rats a3), .list (.rats a4)])]⟩) rfl trivial rfl ?_
  obtain ⟨v1, hk1, h⟩ := bind_some h
  refine Tri.run 2 [.r ⟨[], .int .i64 v1, []⟩] [.keep [1, 2, 10] [2]] (K' := [.code [(2, 0)] 1, .code [] 3]) (σ' := ⟨[(1, .int .i64 v1), (2, .ptr 2 0), (10, .bool (decide (v1 < (0 : Int))))], [(2, .box [.bool a0, .int .i64 a1, .int .i64 a2, .list (.rats a3), .list (.rats a4)])]⟩) rfl ⟨(w_laws_szRatS a3 a5 v1 hk1), trivial⟩ rfl ?_
  rcases bif_some h with ⟨hd2, h⟩ | ⟨hd2, h⟩
  · refine Tri.run 2 [.g true] [.keep [4] []] (K' := [.code [(2, 0), (1, 0)] 1, .code [] 3]) (σ' := ⟨[(4, .int .i64 (-1 : Int))], []⟩) rfl ⟨hd2, trivial⟩ rfl ?_
    have h := Option.some.inj h
    subst h
    exact Tri.ret rfl ⟨.inl rfl, rfl, rfl⟩
  · obtain ⟨v2, hk3, h⟩ := bind_some h
    refine Tri.run 3 [.g false, .r ⟨[], .int .i64 v2, []⟩] [.keep [1, 16] []] (K' := [.code [(4, 0)] 1, .code [] 5]) (σ' := ⟨[(1, .int .i64 v2), (16, .bool (decide (v2 < (0 : Int))))], []⟩) rfl ⟨(w_laws_szRatS a4 v1 v2 hk3), hd2, trivial⟩ rfl ?_
    rcases bif_some h with ⟨hd4, h⟩ | ⟨hd4, h⟩
    · refine Tri.run 2 [.g true] [.keep [4] []] (K' := [.code [(4, 0), (1, 0)] 1, .code [] 5]) (σ' := ⟨[(4, .int .i64 (-1 : Int))], []⟩) rfl ⟨hd4, trivial⟩ rfl ?_
      have h := Option.some.inj h
      subst h
      exact Tri.ret rfl ⟨.inl rfl, rfl, rfl⟩
    · refine Tri.run 2 [.g false] [.keep [4] []] (K' := [.code [] 6]) (σ' := ⟨[(4, .int .i64 v2)], []⟩) rfl ⟨hd4, trivial⟩ rfl ?_
      have h := Option.some.inj h
      subst h
      exact Tri.ret rfl ⟨.inl rfl, rfl, rfl⟩
/-! laws.toIntS -/
noncomputable def E70_laws_toIntS : Env := ⟨Try.prog, tys, (Try.f70.body).getD .skip, 22, tysOk, mixedOk⟩
abbrev q_laws_toIntS (r : List Int) (σ' : ASt) : Prop := resAV E70_laws_toIntS.T σ' Try.f70.results.toList = some (.sl 1000 0) ∧ keepO σ'.ob (namesO [(1000, .arr 3 0 0 (.ints r))]) = [(1000, .arr 3 0 0 (.ints r))]
noncomputable def l_laws_toIntS_0 (a0 : List Int) : (Int × (List Int)) → Option ((Int × (List Int)) ⊕ ((List Int)))
  | (v1, v2) => (
bif decide (v1 < (a0.length : Int)) then
(grd ((0 : Int) ≤ v1 ∧ v1 < (a0.length : Int)) <|
grd ((0 : Int) ≤ v1 ∧ v1 < (v2.length : Int)) <|
some (.inl (IntKind.i64.wrap (v1 + (1 : Int)), v2.set v1.toNat (a0.getD v1.toNat 0))))
else
(some (.inr v2)))
noncomputable def m_laws_toIntS (a0 : List Int) : Option (List Int) :=
grd ((0 : Int) ≤ (a0.length : Int) ∧ (a0.length : Int) = (a0.length : Int) ∧ (a0.length : Int) ≤ (room : Int)) <|
(iter (l_laws_toIntS_0 a0) ((0 : Int), List.replicate (a0.length : Int).toNat (0 : Int))).bind fun
| v3 => (
some v3)
theorem w_laws_toIntS (a0 : List Int) (r : List Int) (h : m_laws_toIntS a0 = some r) : AM.Spec Try.prog 70 [.list (.ints a0)] [] (.sl 1000 0) [(1000, .arr 3 0 0 (.ints r))] := by
  refine spec_of (E := E70_laws_toIntS) Try.func70 rfl rfl rfl rfl ?_
  obtain ⟨hg1, h⟩ := grd_some h
  refine Tri.run 3 [] [.keep [0, 3, 4] [7]] (K' := [.code [(2, 0), (1, 0)] 0, .blk 0, .code [] 3]) (σ' := ⟨[(0, .list (.ints a0)), (3, .sl 7 0), (4, .int .i64 (0 : Int))], [(7, .arr 3 0 0 (.ints (List.replicate (a0.length : Int).toNat (0 : Int))))]⟩) rfl ⟨hg1, trivial⟩ rfl ?_
  obtain ⟨v3, hk5, h⟩ := bind_some h
  refine Tri.loop (K1 := [.code [(2, 0), (1, 0), (0, 0)] 0]) (K2 := [.blk 0, .code [] 3]) (fun (v1, v2) => ⟨[(0, .list (.ints a0)), (3, .sl 7 0), (4, .int .i64 v1)], [(7, .arr 3 0 0 (.ints v2))]⟩) (fun x e σ' => match x with | v3 => e = .exit 0 ∧ σ' = ⟨[(3, .sl 7 0)], [(7, .arr 3 0 0 (.ints v3))]⟩) hk5 rfl rfl ?_ ?_
  · intro s x hs
    clear h
    have h := hs
    clear hs
    obtain ⟨v1, v2⟩ := s
    refine Tri.run 1 [] [.keep [0, 3, 4, 11] [7]] (K' := [.code [(2, 0), (1, 0), (0, 0), (0, 0)] 1, .code [(2, 0), (1, 0), (0, 0)] 1]) (σ' := ⟨[(0, .list (.ints a0)), (3, .sl 7 0), (4, .int .i64 v1), (11, .bool (decide (v1 < (a0.length : Int))))], [(7, .arr 3 0 0 (.ints v2))]⟩) rfl trivial rfl ?_
    rcases bif_some h with ⟨hd2, h⟩ | ⟨hd2, h⟩
    · obtain ⟨hg3, h⟩ := grd_some h
      obtain ⟨hg4, h⟩ := grd_some h
      refine Tri.run 3 [.g true] [.keep [0, 3, 4] [7]] (K' := []) (σ' := ⟨[(0, .list (.ints a0)), (3, .sl 7 0), (4, .int .i64 (IntKind.i64.wrap (v1 + (1 : Int))))], [(7, .arr 3 0 0 (.ints (v2.set v1.toNat (a0.getD v1.toNat 0))))]⟩) rfl ⟨hg4, hg3, hd2, trivial⟩ rfl ?_
      have h := Option.some.inj h
      subst h
      exact Tri.nil ⟨rfl, rfl⟩
    · refine Tri.run 1 [.g false] [.keep [3] [7]] (K' := [.code [(2, 0), (1, 0), (0, 0), (0, 0), (1, 1)] 0, .code [(2, 0), (1, 0), (0, 0)] 1]) (σ' := ⟨[(3, .sl 7 0)], [(7, .arr 3 0 0 (.ints v2))]⟩) rfl ⟨hd2, trivial⟩ rfl ?_
      have h := Option.some.inj h
      subst h
      exact Tri.out 0 rfl ⟨nofun, rfl, rfl⟩
  · intro e σ' hne hq
    obtain ⟨rfl, rfl⟩ := hq
    refine TriX.exit (K' := [.code [] 3]) rfl ?_
    refine Tri.run 1 [] [.swap 7 1000, .keep [2] [1000]] (K' := [.code [] 4]) (σ' := ⟨[(2, .sl 1000 0)], [(1000, .arr 3 0 0 (.ints v3))]⟩) rfl trivial rfl ?_
    have h := Option.some.inj h
    subst h
    exact Tri.ret rfl ⟨.inl rfl, rfl, rfl⟩
/-! laws.toGame -/
noncomputable def E18_laws_toGame : Env := ⟨Try.prog, tys, (Try.f18.body).getD .skip, 12, tysOk, mixedOk⟩
abbrev q_laws_toGame (r : Int × (List Int)) (σ' : ASt) : Prop := resAV E18_laws_toGame.T σ' Try.f18.results.toList = some (.agg [.int .i64 r.1, .sl 1000 0]) ∧ keepO σ'.ob (namesO [(1000, .arr 3 0 0 (.ints r.2))]) = [(1000, .arr 3 0 0 (.ints r.2))]
noncomputable def m_laws_toGame (a0 : Int) (a1 : List Int) : Option (Int × (List Int)) :=
(m_laws_toIntS a1).bind fun v1 =>
some (a0, v1)
theorem w_laws_toGame (a0 : Int) (a1 : List Int) (r : Int × (List Int)) (h : m_laws_toGame a0 a1 = some r) : AM.Spec Try.prog 18 [.agg [.int .i64 a0, .list (.ints a1)]] [] (.agg [.int .i64 r.1, .sl 1000 0]) [(1000, .arr 3 0 0 (.ints r.2))] := by
  refine spec_of (E := E18_laws_toGame) Try.func18 rfl rfl rfl rfl ?_
  refine Tri.run 3 [] [.keep [1, 2, 3] [1, 2, 3]] (K' := [.code [(3, 0)] 0, .code [] 4]) (σ' := ⟨[(1, .ptr 1 0), (2, .ptr 2 0), (3, .ptr 3 0)], [(1, .box [.int .i64 a0, .list (.ints a1)]), (2, .box [.int .i64 0, .nil (.ints [])]), (3, .box [.int .i64 a0, .nil (.ints [])])]⟩) rfl trivial rfl ?_
  obtain ⟨v1, hk1, h⟩ := bind_some h
  refine Tri.run 2 [.r ⟨[], .sl 1100 0, [(1100, .arr 3 0 0 (.ints v1))]⟩] [.swap 1100 1000, .keep [2] [2, 1000]] (K' := [.code [] 5]) (σ' := ⟨[(2, .ptr 2 0)], [(2, .box [.int .i64 a0, .sl 1000 0]), (1000, .arr 3 0 0 (.ints v1))]⟩) rfl ⟨((w_laws_toIntS a1 v1 hk1).swap 1000 1100), trivial⟩ rfl ?_
  have h := Option.some.inj h
  subst h
  exact Tri.ret rfl ⟨.inl rfl, rfl, rfl⟩
/-! laws.toRat -/
noncomputable def E71_laws_toRat : Env := ⟨Try.prog, tys, (Try.f71.body).getD .skip, 11, tysOk, mixedOk⟩
abbrev q_laws_toRat (r : Int × Int) (σ' : ASt) : Prop := resAV E71_laws_toRat.T σ' Try.f71.results.toList = some (.agg [.int .i64 r.1, .int .i64 r.2]) ∧ keepO σ'.ob (namesO []) = []
noncomputable def m_laws_toRat (a0 : Int) (a1 : Int) : Option (Int × Int) :=
some (a0, a1)
theorem w_laws_toRat (a0 : Int) (a1 : Int) (r : Int × Int) (h : m_laws_toRat a0 a1 = some r) : AM.Spec Try.prog 71 [.agg [.int .i64 a0, .int .i64 a1]] [] (.agg [.int .i64 r.1, .int .i64 r.2]) [] := by
  refine spec_of (E := E71_laws_toRat) Try.func71 rfl rfl rfl rfl ?_
  refine Tri.run 3 [] [.keep [1, 2, 3] [1, 2, 3]] (K' := [.code [(3, 0)] 0, .code [] 4]) (σ' := ⟨[(1, .ptr 1 0), (2, .ptr 2 0), (3, .ptr 3 0)], [(1, .box [.int .i64 a0, .int .i64 a1]), (2, .box [.int .i64 0, .int .i64 0]), (3, .box [.int .i64 a0, .int .i64 0])]⟩) rfl trivial rfl ?_
  refine Tri.run 2 [] [.keep [2] [2]] (K' := [.code [] 5]) (σ' := ⟨[(2, .ptr 2 0)], [(2, .box [.int .i64 a0, .int .i64 a1])]⟩) rfl trivial rfl ?_
  have h := Option.some.inj h
  subst h
  exact Tri.ret rfl ⟨.inl rfl, rfl, rfl⟩
/-! laws.toRatS -/
noncomputable def E19_laws_toRatS : Env := ⟨Try.prog, tys, (Try.f19.body).getD .skip, 23, tysOk, mixedOk⟩
abbrev q_laws_toRatS (r : List Q) (σ' : ASt) : Prop := resAV E19_laws_toRatS.T σ' Try.f19.results.toList = some (.sl 1000 0) ∧ keepO σ'.ob (namesO [(1000, .arr 29 0 0 (.rats r))]) = [(1000, .arr 29 0 0 (.rats r))]
noncomputable def l_laws_toRatS_0 (a0 : List Q) : (Int × (List Q)) → Option ((Int × (List Q)) ⊕ ((List Q)))
  | (v1, v2) => (
bif decide (v1 < (a0.length : Int)) then
(grd ((0 : Int) ≤ v1 ∧ v1 < (a0.length : Int)) <|
(m_laws_toRat ((a0.getD v1.toNat ⟨0, 0⟩).num) ((a0.getD v1.toNat ⟨0, 0⟩).den)).bind fun (v3, v4) =>
grd ((0 : Int) ≤ v1 ∧ v1 < (v2.length : Int)) <|
some (.inl (IntKind.i64.wrap (v1 + (1 : Int)), v2.set v1.toNat ⟨v3, v4⟩)))
else
(some (.inr v2)))
noncomputable def m_laws_toRatS (a0 : List Q) : Option (List Q) :=
grd ((0 : Int) ≤ (a0.length : Int) ∧ (a0.length : Int) = (a0.length : Int) ∧ (a0.length : Int) ≤ (room : Int)) <|
(iter (l_laws_toRatS_0 a0) ((0 : Int), List.replicate (a0.length : Int).toNat (⟨0, 0⟩ : Q))).bind fun
| v5 => (
some v5)
theorem w_laws_toRatS (a0 : List Q) (r : List Q) (h : m_laws_toRatS a0 = some r) : AM.Spec Try.prog 19 [.list (.rats a0)] [] (.sl 1000 0) [(1000, .arr 29 0 0 (.rats r))] := by
  refine spec_of (E := E19_laws_toRatS) Try.func19 rfl rfl rfl rfl ?_
  obtain ⟨hg1, h⟩ := grd_some h
  refine Tri.run 3 [] [.keep [0, 3, 4] [7]] (K' := [.code [(2, 0), (1, 0)] 0, .blk 0, .code [] 3]) (σ' := ⟨[(0, .list (.rats a0)), (3, .sl 7 0), (4, .int .i64 (0 : Int))], [(7, .arr 29 0 0 (.rats (List.replicate (a0.length : Int).toNat (⟨0, 0⟩ : Q))))]⟩) rfl ⟨hg1, trivial⟩ rfl ?_
  obtain ⟨v5, hk6, h⟩ := bind_some h
  refine Tri.loop (K1 := [.code [(2, 0), (1, 0), (0, 0)] 0]) (K2 := [.blk 0, .code [] 3]) (fun (v1, v2) => ⟨[(0, .list (.rats a0)), (3, .sl 7 0), (4, .int .i64 v1)], [(7, .arr 29 0 0 (.rats v2))]⟩) (fun x e σ' => match x with | v5 => e = .exit 0 ∧ σ' = ⟨[(3, .sl 7 0)], [(7, .arr 29 0 0 (.rats v5))]⟩) hk6 rfl rfl ?_ ?_
  · intro s x hs
    clear h
    have h := hs
    clear hs
    obtain ⟨v1, v2⟩ := s
    refine Tri.run 1 [] [.keep [0, 3, 4, 11] [7]] (K' := [.code [(2, 0), (1, 0), (0, 0), (0, 0)] 1, .code [(2, 0), (1, 0), (0, 0)] 1]) (σ' := ⟨[(0, .list (.rats a0)), (3, .sl 7 0), (4, .int .i64 v1), (11, .bool (decide (v1 < (a0.length : Int))))], [(7, .arr 29 0 0 (.rats v2))]⟩) rfl trivial rfl ?_
    rcases bif_some h with ⟨hd2, h⟩ | ⟨hd2, h⟩
    · obtain ⟨hg3, h⟩ := grd_some h
      obtain ⟨⟨v3, v4⟩, hk4, h⟩ := bind_some h
      obtain ⟨hg5, h⟩ := grd_some h
      refine Tri.run 3 [.g true, .r ⟨[], .agg [.int .i64 v3, .int .i64 v4], []⟩] [.keep [0, 3, 4] [7]] (K' := []) (σ' := ⟨[(0, .list (.rats a0)), (3, .sl 7 0), (4, .int .i64 (IntKind.i64.wrap (v1 + (1 : Int))))], [(7, .arr 29 0 0 (.rats (v2.set v1.toNat ⟨v3, v4⟩)))]⟩) rfl ⟨hg5, (w_laws_toRat ((a0.getD v1.toNat ⟨0, 0⟩).num) ((a0.getD v1.toNat ⟨0, 0⟩).den) (v3, v4) hk4), hg3, hd2, trivial⟩ rfl ?_
      have h := Option.some.inj h
      subst h
      exact Tri.nil ⟨rfl, rfl⟩
    · refine Tri.run 1 [.g false] [.keep [3] [7]] (K' := [.code [(2, 0), (1, 0), (0, 0), (0, 0), (1, 1)] 0, .code [(2, 0), (1, 0), (0, 0)] 1]) (σ' := ⟨[(3, .sl 7 0)], [(7, .arr 29 0 0 (.rats v2))]⟩) rfl ⟨hd2, trivial⟩ rfl ?_
      have h := Option.some.inj h
      subst h
      exact Tri.out 0 rfl ⟨nofun, rfl, rfl⟩
  · intro e σ' hne hq
    obtain ⟨rfl, rfl⟩ := hq
    refine TriX.exit (K' := [.code [] 3]) rfl ?_
    refine Tri.run 1 [] [.swap 7 1000, .keep [2] [1000]] (K' := [.code [] 4]) (σ' := ⟨[(2, .sl 1000 0)], [(1000, .arr 29 0 0 (.rats v5))]⟩) rfl trivial rfl ?_
    have h := Option.some.inj h
    subst h
    exact Tri.ret rfl ⟨.inl rfl, rfl, rfl⟩
/-! laws.toLeastResult -/
noncomputable def E59_laws_toLeastResult : Env := ⟨Try.prog, tys, (Try.f59.body).getD .skip, 20, tysOk, mixedOk⟩
abbrev q_laws_toLeastResult (r : Bool × Int × Int × (List Q) × (List Q)) (σ' : ASt) : Prop := resAV E59_laws_toLeastResult.T σ' Try.f59.results.toList = some (.agg [.bool r.1, .int .i64 r.2.1, .int .i64 r.2.2.1, .sl 1000 0, .sl 1001 0]) ∧ keepO σ'.ob (namesO [(1000, .arr 29 0 0 (.rats r.2.2.2.1)), (1001, .arr 29 0 0 (.rats r.2.2.2.2))]) = [(1000, .arr 29 0 0 (.rats r.2.2.2.1)), (1001, .arr 29 0 0 (.rats r.2.2.2.2))]
noncomputable def m_laws_toLeastResult (a0 : Bool) (a1 : Int) (a2 : Int) (a3 : List Q) (a4 : List Q) : Option (Bool × Int × Int × (List Q) × (List Q)) :=
(m_laws_toRat a1 a2).bind fun (v1, v2) =>
(m_laws_toRatS a3).bind fun v3 =>
(m_laws_toRatS a4).bind fun v4 =>
some (a0, v1, v2, v3, v4)
theorem w_laws_toLeastResult (a0 : Bool) (a1 : Int) (a2 : Int) (a3 : List Q) (a4 : List Q) (r : Bool × Int × Int × (List Q) × (List Q)) (h : m_laws_toLeastResult a0 a1 a2 a3 a4 = some r) : AM.Spec Try.prog 59 [.agg [.bool a0, .int .i64 a1, .int .i64 a2, .list (.rats a3), .list (.rats a4)]] [] (.agg [.bool r.1, .int .i64 r.2.1, .int .i64 r.2.2.1, .sl 1000 0, .sl 1001 0]) [(1000, .arr 29 0 0 (.rats r.2.2.2.1)), (1001, .arr 29 0 0 (.rats r.2.2.2.2))] := by
  refine spec_of (E := E59_laws_toLeastResult) Try.func59 rfl rfl rfl rfl ?_
  refine Tri.run 3 [] [.keep [1, 2, 3] [1, 2, 3]] (K' := [.code [(3, 0)] 0, .code [] 4]) (σ' := ⟨[(1, .ptr 1 0), (2, .ptr 2 0), (3, .ptr 3 0)], [(1, .box [.bool a0, .int .i64 a1, .int .i64 a2, .list (.rats a3), .list (.rats a4)]), (2, .box [.bool false, .int .i64 0, .int .i64 0, .nil (.rats []), .nil (.rats [])]), (3, .box [.bool a0, .int .i64 0, .int .i64 0, .nil (.rats []), .nil (.rats [])])]⟩) rfl trivial rfl ?_
  obtain ⟨⟨v1, v2⟩, hk1, h⟩ := bind_some h
  obtain ⟨v3, hk2, h⟩ := bind_some h
  refine Tri.run 2 [.r ⟨[], .agg [.int .i64 v1, .int .i64 v2], []⟩, .r ⟨[], .sl 1100 0, [(1100, .arr 29 0 0 (.rats v3))]⟩] [.keep [1, 2, 3] [1, 2, 3, 1100]] (K' := [.code [(5, 0)] 0, .code [] 6]) (σ' := ⟨[(1, .ptr 1 0), (2, .ptr 2 0), (3, .ptr 3 0)], [(1, .box [.bool a0, .int .i64 a1, .int .i64 a2, .list (.rats a3), .list (.rats a4)]), (2, .box [.bool false, .int .i64 0, .int .i64 0, .nil (.rats []), .nil (.rats [])]), (3, .box [.bool a0, .int .i64 v1, .int .i64 v2, .sl 1100 0, .nil (.rats [])]), (1100, .arr 29 0 0 (.rats v3))]⟩) rfl ⟨((w_laws_toRatS a3 v3 hk2).swap 1000 1100), (w_laws_toRat a1 a2 (v1, v2) hk1), trivial⟩ rfl ?_
  obtain ⟨v4, hk3, h⟩ := bind_some h
  refine Tri.run 2 [.r ⟨[], .sl 1101 0, [(1101, .arr 29 0 0 (.rats v4))]⟩] [.swap 1100 1000, .swap 1101 1001, .keep [2] [2, 1000, 1001]] (K' := [.code [] 7]) (σ' := ⟨[(2, .ptr 2 0)], [(2, .box [.bool a0, .int .i64 v1, .int .i64 v2, .sl 1000 0, .sl 1001 0]), (1000, .arr 29 0 0 (.rats v3)), (1001, .arr 29 0 0 (.rats v4))]⟩) rfl ⟨((w_laws_toRatS a4 v4 hk3).swap 1000 1101), trivial⟩ rfl ?_
  have h := Option.some.inj h
  subst h
  exact Tri.ret rfl ⟨.inl rfl, rfl, rfl⟩
/-! spec.l1In -/
noncomputable def E66_spec_l1In : Env := ⟨Try.prog, tys, (Try.f66.body).getD .skip, 15, tysOk, mixedOk⟩
abbrev q_spec_l1In (r : Bool) (σ' : ASt) : Prop := resAV E66_spec_l1In.T σ' Try.f66.results.toList = some (.bool r) ∧ keepO σ'.ob (namesO []) = []
noncomputable def m_spec_l1In (a0 : Int) (a1 : Int) (a2 : Int) : Option Bool :=
bif decide (a0 ≥ a1) then
(some (decide (a0 ≤ a2)))
else
(some false)
theorem w_spec_l1In (a0 : Int) (a1 : Int) (a2 : Int) (r : Bool) (h : m_spec_l1In a0 a1 a2 = some r) : AM.Spec Try.prog 66 [.int .i64 a0, .int .i64 a1, .int .i64 a2] [] (.bool r) [] := by
  refine spec_of (E := E66_spec_l1In) Try.func66 rfl rfl rfl rfl ?_
  refine Tri.run 1 [] [.keep [0, 1, 2] []] (K' := [.code [(1, 0)] 0, .code [] 2]) (σ' := ⟨[(0, .int .i64 a0), (1, .int .i64 a1), (2, .int .i64 a2)], []⟩) rfl trivial rfl ?_
  rcases bif_some h with ⟨hd1, h⟩ | ⟨hd1, h⟩
  · refine Tri.run 1 [.g true] [.keep [6] []] (K' := [.code [] 2]) (σ' := ⟨[(6, .bool (decide (a0 ≤ a2)))], []⟩) rfl ⟨hd1, trivial⟩ rfl ?_
    have h := Option.some.inj h
    subst h
    exact Tri.ret rfl ⟨.inl rfl, rfl, rfl⟩
  · refine Tri.run 1 [.g false] [.keep [6] []] (K' := [.code [] 2]) (σ' := ⟨[(6, .bool false)], []⟩) rfl ⟨hd1, trivial⟩ rfl ?_
    have h := Option.some.inj h
    subst h
    exact Tri.ret rfl ⟨.inl rfl, rfl, rfl⟩
/-! spec.CountCoalitions -/
noncomputable def E131_spec_CountCoalitions : Env := ⟨Try.prog, tys, (Try.f131.body).getD .skip, 16, tysOk, mixedOk⟩
abbrev q_spec_CountCoalitions (r : Int) (σ' : ASt) : Prop := resAV E131_spec_CountCoalitions.T σ' Try.f131.results.toList = some (.int .i64 r) ∧ keepO σ'.ob (namesO []) = []
noncomputable def l_spec_CountCoalitions_0 (a0 : Int) : (Int × Int) → Option ((Int × Int) ⊕ Int)
  | (v2, v3) => (
bif decide (v3 < a0) then
(some (.inl (IntKind.i64.wrap (v2 * (2 : Int)), IntKind.i64.wrap (v3 + (1 : Int)))))
else
(some (.inr v2)))
noncomputable def m_spec_CountCoalitions (a0 : Int) : Option Int :=
(m_spec_l1In a0 (0 : Int) (5 : Int)).bind fun v1 =>
bif !v1 then
(some (0 : Int))
else
((iter (l_spec_CountCoalitions_0 a0) ((1 : Int), (0 : Int))).bind fun
| v4 => (
some v4))
theorem w_spec_CountCoalitions (a0 : Int) (r : Int) (h : m_spec_CountCoalitions a0 = some r) : AM.Spec Try.prog 131 [.int .i64 a0] [] (.int .i64 r) [] := by
  refine spec_of (E := E131_spec_CountCoalitions) Try.func131 rfl rfl rfl rfl ?_
  refine Tri.run 1 [] [.keep [0] []] (K' := [.code [(1, 0), (0, 0)] 0, .code [(1, 0)] 1, .code [] 2]) (σ' := ⟨[(0, .int .i64 a0)], []⟩) rfl trivial rfl ?_
  obtain ⟨v1, hk1, h⟩ := bind_some h
  refine Tri.run 1 [.r ⟨[], .bool v1, []⟩] [.keep [0, 7] []] (K' := [.code [(1, 0)] 1, .code [] 2]) (σ' := ⟨[(0, .int .i64 a0), (7, .bool (!v1))], []⟩) rfl ⟨(w_spec_l1In a0 (0 : Int) (5 : Int) v1 hk1), trivial⟩ rfl ?_
  rcases bif_some h with ⟨hd2, h⟩ | ⟨hd2, h⟩
  · refine Tri.run 2 [.g true] [.keep [2] []] (K' := [.code [(1, 0), (1, 0)] 1, .code [] 2]) (σ' := ⟨[(2, .int .i64 (0 : Int))], []⟩) rfl ⟨hd2, trivial⟩ rfl ?_
    have h := Option.some.inj h
    subst h
    exact Tri.ret rfl ⟨.inl rfl, rfl, rfl⟩
  · refine Tri.run 3 [.g false] [.keep [0, 3, 4] []] (K' := [.code [(3, 0), (1, 0)] 0, .blk 0, .code [] 4]) (σ' := ⟨[(0, .int .i64 a0), (3, .int .i64 (1 : Int)), (4, .int .i64 (0 : Int))], []⟩) rfl ⟨hd2, trivial⟩ rfl ?_
    obtain ⟨v4, hk4, h⟩ := bind_some h
    refine Tri.loop (K1 := [.code [(3, 0), (1, 0), (0, 0)] 0]) (K2 := [.blk 0, .code [] 4]) (fun (v2, v3) => ⟨[(0, .int .i64 a0), (3, .int .i64 v2), (4, .int .i64 v3)], []⟩) (fun x e σ' => match x with | v4 => e = .exit 0 ∧ σ' = ⟨[(3, .int .i64 v4)], []⟩) hk4 rfl rfl ?_ ?_
    · intro s x hs
      clear h
      have h := hs
      clear hs
      obtain ⟨v2, v3⟩ := s
      refine Tri.run 1 [] [.keep [0, 3, 4, 10] []] (K' := [.code [(3, 0), (1, 0), (0, 0), (0, 0)] 1, .code [(3, 0), (1, 0), (0, 0)] 1]) (σ' := ⟨[(0, .int .i64 a0), (3, .int .i64 v2), (4, .int .i64 v3), (10, .bool (decide (v3 < a0)))], []⟩) rfl trivial rfl ?_
      rcases bif_some h with ⟨hd3, h⟩ | ⟨hd3, h⟩
      · refine Tri.run 3 [.g true] [.keep [0, 3, 4] []] (K' := []) (σ' := ⟨[(0, .int .i64 a0), (3, .int .i64 (IntKind.i64.wrap (v2 * (2 : Int)))), (4, .int .i64 (IntKind.i64.wrap (v3 + (1 : Int))))], []⟩) rfl ⟨hd3, trivial⟩ rfl ?_
        have h := Option.some.inj h
        subst h
        exact Tri.nil ⟨rfl, rfl⟩
      · refine Tri.run 1 [.g false] [.keep [3] []] (K' := [.code [(3, 0), (1, 0), (0, 0), (0, 0), (1, 1)] 0, .code [(3, 0), (1, 0), (0, 0)] 1]) (σ' := ⟨[(3, .int .i64 v2)], []⟩) rfl ⟨hd3, trivial⟩ rfl ?_
        have h := Option.some.inj h
        subst h
        exact Tri.out 0 rfl ⟨nofun, rfl, rfl⟩
    · intro e σ' hne hq
      obtain ⟨rfl, rfl⟩ := hq
      refine TriX.exit (K' := [.code [] 4]) rfl ?_
      refine Tri.run 1 [] [.keep [2] []] (K' := [.code [] 5]) (σ' := ⟨[(2, .int .i64 v4)], []⟩) rfl trivial rfl ?_
      have h := Option.some.inj h
      subst h
      exact Tri.ret rfl ⟨.inl rfl, rfl, rfl⟩
/-! spec.IsValidGame -/
noncomputable def E65_spec_IsValidGame : Env := ⟨Try.prog, tys, (Try.f65.body).getD .skip, 37, tysOk, mixedOk⟩
abbrev q_spec_IsValidGame (r : Bool) (σ' : ASt) : Prop := resAV E65_spec_IsValidGame.T σ' Try.f65.results.toList = some (.bool r) ∧ keepO σ'.ob (namesO []) = []
noncomputable def l_spec_IsValidGame_0 (a1 : List Int) (v1 : Int) : Option (Int ⊕ (Unit ⊕ Bool)) :=
bif decide (v1 < (a1.length : Int)) then
(grd ((0 : Int) ≤ v1 ∧ v1 < (a1.length : Int)) <|
(m_spec_l1In (a1.getD v1.toNat 0) (-500 : Int) (500 : Int)).bind fun v2 =>
bif !v2 then
(some (.inr (.inr false)))
else
(some (.inl (IntKind.i64.wrap (v1 + (1 : Int))))))
else
(some (.inr (.inl ())))
noncomputable def m_spec_IsValidGame (a0 : Int) (a1 : List Int) : Option Bool :=
(iter (l_spec_IsValidGame_0 a1) (0 : Int)).bind fun
| (.inl _) => (
(m_spec_l1In a0 (1 : Int) (5 : Int)).bind fun v3 =>
bif v3 then
((m_spec_CountCoalitions a0).bind fun v4 =>
bif (a1.length : Int) == v4 then
(grd ((0 : Int) ≤ (0 : Int) ∧ (0 : Int) < (a1.length : Int)) <|
some ((a1.getD ((0 : Int).toNat) 0) == (0 : Int)))
else
(some false))
else
(some false))
| (.inr r) => some r
theorem w_spec_IsValidGame (a0 : Int) (a1 : List Int) (r : Bool) (h : m_spec_IsValidGame a0 a1 = some r) : AM.Spec Try.prog 65 [.agg [.int .i64 a0, .list (.ints a1)]] [] (.bool r) [] := by
  refine spec_of (E := E65_spec_IsValidGame) Try.func65 rfl rfl rfl rfl ?_
  refine Tri.run 2 [] [.keep [1, 3] [1]] (K' := [.code [(1, 0), (1, 0)] 0, .blk 0, .code [] 2]) (σ' := ⟨[(1, .ptr 1 0), (3, .int .i64 (0 : Int))], [(1, .box [.int .i64 a0, .list (.ints a1)])]⟩) rfl trivial rfl ?_
  obtain ⟨x1, hk5, h⟩ := bind_some h
  refine Tri.loop (K1 := [.code [(1, 0), (1, 0), (0, 0)] 0]) (K2 := [.blk 0, .code [] 2]) (fun v1 => ⟨[(1, .ptr 1 0), (3, .int .i64 v1)], [(1, .box [.int .i64 a0, .list (.ints a1)])]⟩) (fun x e σ' => match x with | (.inl _) => e = .exit 0 ∧ σ' = ⟨[(1, .ptr 1 0)], [(1, .box [.int .i64 a0, .list (.ints a1)])]⟩ | (.inr r) => e = .ret ∧ q_spec_IsValidGame r σ') hk5 rfl rfl ?_ ?_
  · intro v1 x hs
    clear h
    have h := hs
    clear hs
    refine Tri.run 1 [] [.keep [1, 3, 8] [1]] (K' := [.code [(1, 0), (1, 0), (0, 0), (0, 0)] 1, .code [(1, 0), (1, 0), (0, 0)] 1]) (σ' := ⟨[(1, .ptr 1 0), (3, .int .i64 v1), (8, .bool (decide (v1 < (a1.length : Int))))], [(1, .box [.int .i64 a0, .list (.ints a1)])]⟩) rfl trivial rfl ?_
    rcases bif_some h with ⟨hd1, h⟩ | ⟨hd1, h⟩
    · obtain ⟨hg2, h⟩ := grd_some h
      obtain ⟨v2, hk3, h⟩ := bind_some h
      refine Tri.run 2 [.g true, .r ⟨[], .bool v2, []⟩] [.keep [1, 3, 17] [1]] (K' := [.code [(1, 0), (1, 0), (0, 0), (1, 0), (0, 0)] 1, .blk 1, .code [(1, 0), (1, 0), (0, 0)] 2]) (σ' := ⟨[(1, .ptr 1 0), (3, .int .i64 v1), (17, .bool (!v2))], [(1, .box [.int .i64 a0, .list (.ints a1)])]⟩) rfl ⟨(w_spec_l1In (a1.getD v1.toNat 0) (-500 : Int) (500 : Int) v2 hk3), hg2, hd1, trivial⟩ rfl ?_
      rcases bif_some h with ⟨hd4, h⟩ | ⟨hd4, h⟩
      · refine Tri.run 2 [.g true] [.keep [2] []] (K' := [.code [(1, 0), (1, 0), (0, 0), (1, 0), (0, 0), (1, 0)] 1, .blk 1, .code [(1, 0), (1, 0), (0, 0)] 2]) (σ' := ⟨[(2, .bool false)], []⟩) rfl ⟨hd4, trivial⟩ rfl ?_
        have h := Option.some.inj h
        subst h
        exact Tri.ret rfl ⟨nofun, rfl, rfl, rfl⟩
      · refine Tri.run 2 [.g false] [.keep [1, 3] [1]] (K' := []) (σ' := ⟨[(1, .ptr 1 0), (3, .int .i64 (IntKind.i64.wrap (v1 + (1 : Int))))], [(1, .box [.int .i64 a0, .list (.ints a1)])]⟩) rfl ⟨hd4, trivial⟩ rfl ?_
        have h := Option.some.inj h
        subst h
        exact Tri.nil ⟨rfl, rfl⟩
    · refine Tri.run 1 [.g false] [.keep [1] [1]] (K' := [.code [(1, 0), (1, 0), (0, 0), (0, 0), (1, 1)] 0, .code [(1, 0), (1, 0), (0, 0)] 1]) (σ' := ⟨[(1, .ptr 1 0)], [(1, .box [.int .i64 a0, .list (.ints a1)])]⟩) rfl ⟨hd1, trivial⟩ rfl ?_
      have h := Option.some.inj h
      subst h
      exact Tri.out 0 rfl ⟨nofun, rfl, rfl⟩
  · intro e σ' hne hq
    rcases x1 with _ | r
    · obtain ⟨rfl, rfl⟩ := hq
      refine TriX.exit (K' := [.code [] 2]) rfl ?_
      obtain ⟨v3, hk6, h⟩ := bind_some h
      rcases bif_some h with ⟨hd7, h⟩ | ⟨hd7, h⟩
      · obtain ⟨v4, hk8, h⟩ := bind_some h
        rcases bif_some h with ⟨hd9, h⟩ | ⟨hd9, h⟩
        · obtain ⟨hg10, h⟩ := grd_some h
          refine Tri.run 1 [.r ⟨[], .bool v3, []⟩, .g true, .r ⟨[], .int .i64 v4, []⟩, .g true] [.keep [2] []] (K' := [.code [] 3]) (σ' := ⟨[(2, .bool ((a1.getD ((0 : Int).toNat) 0) == (0 : Int)))], []⟩) rfl ⟨hg10, hd9, (w_spec_CountCoalitions a0 v4 hk8), hd7, (w_spec_l1In a0 (1 : Int) (5 : Int) v3 hk6), trivial⟩ rfl ?_
          have h := Option.some.inj h
          subst h
          exact Tri.ret rfl ⟨.inl rfl, rfl, rfl⟩
        · refine Tri.run 1 [.r ⟨[], .bool v3, []⟩, .g true, .r ⟨[], .int .i64 v4, []⟩, .g false] [.keep [2] []] (K' := [.code [] 3]) (σ' := ⟨[(2, .bool false)], []⟩) rfl ⟨hd9, (w_spec_CountCoalitions a0 v4 hk8), hd7, (w_spec_l1In a0 (1 : Int) (5 : Int) v3 hk6), trivial⟩ rfl ?_
          have h := Option.some.inj h
          subst h
          exact Tri.ret rfl ⟨.inl rfl, rfl, rfl⟩
      · refine Tri.run 1 [.r ⟨[], .bool v3, []⟩, .g false, .g false] [.keep [2] []] (K' := [.code [] 3]) (σ' := ⟨[(2, .bool false)], []⟩) rfl ⟨rfl, hd7, (w_spec_l1In a0 (1 : Int) (5 : Int) v3 hk6), trivial⟩ rfl ?_
        have h := Option.some.inj h
        subst h
        exact Tri.ret rfl ⟨.inl rfl, rfl, rfl⟩
    · obtain ⟨rfl, hq⟩ := hq
      have h := Option.some.inj h
      subst h
      exact TriX.ret ⟨.inl rfl, hq⟩
/-! spec.l3Int -/
noncomputable def E69_spec_l3Int : Env := ⟨Try.prog, tys, (Try.f69.body).getD .skip, 5, tysOk, mixedOk⟩
abbrev q_spec_l3Int (r : Int × Int) (σ' : ASt) : Prop := resAV E69_spec_l3Int.T σ' Try.f69.results.toList = some (.agg [.int .i64 r.1, .int .i64 r.2]) ∧ keepO σ'.ob (namesO []) = []
noncomputable def m_spec_l3Int (a0 : Int) : Option (Int × Int) :=
some (a0, (1 : Int))
theorem w_spec_l3Int (a0 : Int) (r : Int × Int) (h : m_spec_l3Int a0 = some r) : AM.Spec Try.prog 69 [.int .i64 a0] [] (.agg [.int .i64 r.1, .int .i64 r.2]) [] := by
  refine spec_of (E := E69_spec_l3Int) Try.func69 rfl rfl rfl rfl ?_
  refine Tri.run 2 [] [.keep [2] [2]] (K' := [.code [] 2]) (σ' := ⟨[(2, .ptr 2 0)], [(2, .box [.int .i64 a0, .int .i64 (1 : Int)])]⟩) rfl trivial rfl ?_
  have h := Option.some.inj h
  subst h
  exact Tri.ret rfl ⟨.inl rfl, rfl, rfl⟩
/-! spec.GrandValue -/
noncomputable def E78_spec_GrandValue : Env := ⟨Try.prog, tys, (Try.f78.body).getD .skip, 14, tysOk, mixedOk⟩
abbrev q_spec_GrandValue (r : Int) (σ' : ASt) : Prop := resAV E78_spec_GrandValue.T σ' Try.f78.results.toList = some (.int .i64 r) ∧ keepO σ'.ob (namesO []) = []
noncomputable def m_spec_GrandValue (a0 : Int) (a1 : List Int) : Option Int :=
(m_spec_IsValidGame a0 a1).bind fun v1 =>
bif !v1 then
(some (0 : Int))
else
(grd ((0 : Int) ≤ IntKind.i64.wrap ((a1.length : Int) - (1 : Int)) ∧ IntKind.i64.wrap ((a1.length : Int) - (1 : Int)) < (a1.length : Int)) <|
some (a1.getD ((IntKind.i64.wrap ((a1.length : Int) - (1 : Int))).toNat) 0))
theorem w_spec_GrandValue (a0 : Int) (a1 : List Int) (r : Int) (h : m_spec_GrandValue a0 a1 = some r) : AM.Spec Try.prog 78 [.agg [.int .i64 a0, .list (.ints a1)]] [] (.int .i64 r) [] := by
  refine spec_of (E := E78_spec_GrandValue) Try.func78 rfl rfl rfl rfl ?_
  refine Tri.run 1 [] [.keep [1] [1]] (K' := [.code [(1, 0), (0, 0)] 0, .code [(1, 0)] 1, .code [] 2]) (σ' := ⟨[(1, .ptr 1 0)], [(1, .box [.int .i64 a0, .list (.ints a1)])]⟩) rfl trivial rfl ?_
  obtain ⟨v1, hk1, h⟩ := bind_some h
  refine Tri.run 1 [.r ⟨[], .bool v1, []⟩] [.keep [1, 5] [1]] (K' := [.code [(1, 0)] 1, .code [] 2]) (σ' := ⟨[(1, .ptr 1 0), (5, .bool (!v1))], [(1, .box [.int .i64 a0, .list (.ints a1)])]⟩) rfl ⟨(w_spec_IsValidGame a0 a1 v1 hk1), trivial⟩ rfl ?_
  rcases bif_some h with ⟨hd2, h⟩ | ⟨hd2, h⟩
  · refine Tri.run 2 [.g true] [.keep [2] []] (K' := [.code [(1, 0), (1, 0)] 1, .code [] 2]) (σ' := ⟨[(2, .int .i64 (0 : Int))], []⟩) rfl ⟨hd2, trivial⟩ rfl ?_
    have h := Option.some.inj h
    subst h
    exact Tri.ret rfl ⟨.inl rfl, rfl, rfl⟩
  · obtain ⟨hg3, h⟩ := grd_some h
    refine Tri.run 2 [.g false] [.keep [2] []] (K' := [.code [] 3]) (σ' := ⟨[(2, .int .i64 (a1.getD ((IntKind.i64.wrap ((a1.length : Int) - (1 : Int))).toNat) 0))], []⟩) rfl ⟨hg3, hd2, trivial⟩ rfl ?_
    have h := Option.some.inj h
    subst h
    exact Tri.ret rfl ⟨.inl rfl, rfl, rfl⟩
/-! spec.l2Bit -/
noncomputable def E83_spec_l2Bit : Env := ⟨Try.prog, tys, (Try.f83.body).getD .skip, 5, tysOk, mixedOk⟩
abbrev q_spec_l2Bit (r : Int) (σ' : ASt) : Prop := resAV E83_spec_l2Bit.T σ' Try.f83.results.toList = some (.int .i64 r) ∧ keepO σ'.ob (namesO []) = []
noncomputable def m_spec_l2Bit (a0 : Int) : Option Int :=
(m_spec_CountCoalitions a0).bind fun v1 =>
some v1
theorem w_spec_l2Bit (a0 : Int) (r : Int) (h : m_spec_l2Bit a0 = some r) : AM.Spec Try.prog 83 [.int .i64 a0] [] (.int .i64 r) [] := by
  refine spec_of (E := E83_spec_l2Bit) Try.func83 rfl rfl rfl rfl ?_
  refine Tri.run 1 [] [.keep [0] []] (K' := [.code [(1, 0)] 0, .code [] 2]) (σ' := ⟨[(0, .int .i64 a0)], []⟩) rfl trivial rfl ?_
  obtain ⟨v1, hk1, h⟩ := bind_some h
  refine Tri.run 1 [.r ⟨[], .int .i64 v1, []⟩] [.keep [2] []] (K' := [.code [] 2]) (σ' := ⟨[(2, .int .i64 v1)], []⟩) rfl ⟨(w_spec_CountCoalitions a0 v1 hk1), trivial⟩ rfl ?_
  have h := Option.some.inj h
  subst h
  exact Tri.ret rfl ⟨.inl rfl, rfl, rfl⟩
/-! spec.HasPlayer -/
noncomputable def E89_spec_HasPlayer : Env := ⟨Try.prog, tys, (Try.f89.body).getD .skip, 19, tysOk, mixedOk⟩
abbrev q_spec_HasPlayer (r : Bool) (σ' : ASt) : Prop := resAV E89_spec_HasPlayer.T σ' Try.f89.results.toList = some (.bool r) ∧ keepO σ'.ob (namesO []) = []
noncomputable def m_spec_HasPlayer (a0 : Int) (a1 : Int) : Option Bool :=
(m_spec_l1In a1 (0 : Int) (4 : Int)).bind fun v1 =>
bif v1 then
(bif decide (a0 ≥ (0 : Int)) then
((m_spec_l2Bit a1).bind fun v2 =>
grd (v2 ≠ 0) <|
grd ((2 : Int) ≠ 0) <|
some (((IntKind.i64.wrap (a0.tdiv v2)).tmod (2 : Int)) == (1 : Int)))
else
(some false))
else
(some false)
theorem w_spec_HasPlayer (a0 : Int) (a1 : Int) (r : Bool) (h : m_spec_HasPlayer a0 a1 = some r) : AM.Spec Try.prog 89 [.int .i64 a0, .int .i64 a1] [] (.bool r) [] := by
  refine spec_of (E := E89_spec_HasPlayer) Try.func89 rfl rfl rfl rfl ?_
  refine Tri.run 1 [] [.keep [0, 1] []] (K' := [.code [(1, 0)] 0, .code [] 2]) (σ' := ⟨[(0, .int .i64 a0), (1, .int .i64 a1)], []⟩) rfl trivial rfl ?_
  obtain ⟨v1, hk1, h⟩ := bind_some h
  rcases bif_some h with ⟨hd2, h⟩ | ⟨hd2, h⟩
  · rcases bif_some h with ⟨hd3, h⟩ | ⟨hd3, h⟩
    · obtain ⟨v2, hk4, h⟩ := bind_some h
      obtain ⟨hg5, h⟩ := grd_some h
      obtain ⟨hg6, h⟩ := grd_some h
      refine Tri.run 1 [.r ⟨[], .bool v1, []⟩, .g true, .g true, .r ⟨[], .int .i64 v2, []⟩] [.keep [4] []] (K' := [.code [] 2]) (σ' := ⟨[(4, .bool (((IntKind.i64.wrap (a0.tdiv v2)).tmod (2 : Int)) == (1 : Int)))], []⟩) rfl ⟨hg6, hg5, (w_spec_l2Bit a1 v2 hk4), hd3, hd2, (w_spec_l1In a1 (0 : Int) (4 : Int) v1 hk1), trivial⟩ rfl ?_
      have h := Option.some.inj h
      subst h
      exact Tri.ret rfl ⟨.inl rfl, rfl, rfl⟩
    · refine Tri.run 1 [.r ⟨[], .bool v1, []⟩, .g true, .g false] [.keep [4] []] (K' := [.code [] 2]) (σ' := ⟨[(4, .bool false)], []⟩) rfl ⟨hd3, hd2, (w_spec_l1In a1 (0 : Int) (4 : Int) v1 hk1), trivial⟩ rfl ?_
      have h := Option.some.inj h
      subst h
      exact Tri.ret rfl ⟨.inl rfl, rfl, rfl⟩
  · refine Tri.run 1 [.r ⟨[], .bool v1, []⟩, .g false, .g false] [.keep [4] []] (K' := [.code [] 2]) (σ' := ⟨[(4, .bool false)], []⟩) rfl ⟨rfl, hd2, (w_spec_l1In a1 (0 : Int) (4 : Int) v1 hk1), trivial⟩ rfl ?_
    have h := Option.some.inj h
    subst h
    exact Tri.ret rfl ⟨.inl rfl, rfl, rfl⟩
/-! spec.l1Bit -/
noncomputable def E105_spec_l1Bit : Env := ⟨Try.prog, tys, (Try.f105.body).getD .skip, 4, tysOk, mixedOk⟩
abbrev q_spec_l1Bit (r : Int) (σ' : ASt) : Prop := resAV E105_spec_l1Bit.T σ' Try.f105.results.toList = some (.int .i64 r) ∧ keepO σ'.ob (namesO []) = []
noncomputable def m_spec_l1Bit (a0 : Bool) : Option Int :=
bif a0 then
(some (1 : Int))
else
(some (0 : Int))
theorem w_spec_l1Bit (a0 : Bool) (r : Int) (h : m_spec_l1Bit a0 = some r) : AM.Spec Try.prog 105 [.bool a0] [] (.int .i64 r) [] := by
  refine spec_of (E := E105_spec_l1Bit) Try.func105 rfl rfl rfl rfl ?_
  refine Tri.run 2 [] [.keep [3] []] (K' := [.code [(1, 0)] 1, .code [] 2]) (σ' := ⟨[(3, .bool a0)], []⟩) rfl trivial rfl ?_
  rcases bif_some h with ⟨hd1, h⟩ | ⟨hd1, h⟩
  · refine Tri.run 2 [.g true] [.keep [2] []] (K' := [.code [(1, 0), (1, 0)] 1, .code [] 2]) (σ' := ⟨[(2, .int .i64 (1 : Int))], []⟩) rfl ⟨hd1, trivial⟩ rfl ?_
    have h := Option.some.inj h
    subst h
    exact Tri.ret rfl ⟨.inl rfl, rfl, rfl⟩
  · refine Tri.run 2 [.g false] [.keep [2] []] (K' := [.code [] 3]) (σ' := ⟨[(2, .int .i64 (0 : Int))], []⟩) rfl ⟨hd1, trivial⟩ rfl ?_
    have h := Option.some.inj h
    subst h
    exact Tri.ret rfl ⟨.inl rfl, rfl, rfl⟩
/-! spec.LeastLP -/
noncomputable def E38_spec_LeastLP : Env := ⟨Try.prog, tys, (Try.f38.body).getD .skip, 101, tysOk, mixedOk⟩
abbrev q_spec_LeastLP (r : Bool × (List (List Int)) × (List Int) × (List Q)) (σ' : ASt) : Prop := resAV E38_spec_LeastLP.T σ' Try.f38.results.toList = some (.tuple [.agg [.sl 1000 0, .sl 1001 0, .sl 1002 0], .bool r.1]) ∧ keepO σ'.ob (namesO [(1000, .arr 22 0 0 (.intss r.2.1)), (1001, .arr 3 0 0 (.ints r.2.2.1)), (1002, .arr 29 0 0 (.rats r.2.2.2))]) = [(1000, .arr 22 0 0 (.intss r.2.1)), (1001, .arr 3 0 0 (.ints r.2.2.1)), (1002, .arr 29 0 0 (.rats r.2.2.2))]
noncomputable def l_spec_LeastLP_0 (a1 : List Int) : (Int × (List Int) × (List Q)) → Option ((Int × (List Int) × (List Q)) ⊕ (((List Int) × (List Q))))
  | (v2, v3, v4) => (
bif decide (v2 < (IntKind.i64.wrap ((a1.length : Int) - (1 : Int)))) then
(grd ((0 : Int) ≤ v2 ∧ v2 < (a1.length : Int)) <|
(m_spec_l3Int (IntKind.i64.wrap (0 - (a1.getD v2.toNat 0)))).bind fun (v5, v6) =>
grd (v4.length + ([⟨v5, v6⟩] : List Q).length ≤ room) <|
grd (v3.length + ([(1 : Int)] : List Int).length ≤ room) <|
some (.inl (IntKind.i64.wrap (v2 + (1 : Int)), v3 ++ [(1 : Int)], v4 ++ [⟨v5, v6⟩])))
else
(some (.inr (v3, v4))))
noncomputable def l_spec_LeastLP_2 (a1 : List Int) (v12 : Int) : (Int × (List Int)) → Option ((Int × (List Int)) ⊕ ((List Int)))
  | (v15, v16) => (
bif decide (v15 < (IntKind.i64.wrap ((a1.length : Int) - (1 : Int)))) then
((m_spec_HasPlayer v15 v12).bind fun v17 =>
(m_spec_l1Bit v17).bind fun v18 =>
grd (v16.length + ([v18] : List Int).length ≤ room) <|
some (.inl (IntKind.i64.wrap (v15 + (1 : Int)), v16 ++ [v18])))
else
(some (.inr v16)))
noncomputable def l_spec_LeastLP_1 (a0 : Int) (a1 : List Int) : (Int × (List (List Int)) × (List Int)) → Option ((Int × (List (List Int)) × (List Int)) ⊕ (((List (List Int)) × (List Int))))
  | (v12, v13, v14) => (
bif decide (v12 < a0) then
((iter (l_spec_LeastLP_2 a1 v12) ((1 : Int), [])).bind fun
| v19 => (
grd (v19.length + ([(-1 : Int)] : List Int).length ≤ room) <|
grd (v13.length + ([v19 ++ [(-1 : Int)]] : List (List Int)).length ≤ room) <|
grd (v14.length + ([(0 : Int)] : List Int).length ≤ room) <|
some (.inl (IntKind.i64.wrap (v12 + (1 : Int)), v13 ++ [v19 ++ [(-1 : Int)]], v14 ++ [(0 : Int)]))))
else
(some (.inr (v13, v14))))
noncomputable def m_spec_LeastLP (a0 : Int) (a1 : List Int) : Option (Bool × (List (List Int)) × (List Int) × (List Q)) :=
(m_spec_IsValidGame a0 a1).bind fun v1 =>
bif !v1 then
(some (false, [], [], []))
else
(bif decide (a0 < (2 : Int)) then
(some (false, [], [], []))
else
((iter (l_spec_LeastLP_0 a1) ((1 : Int), [], [])).bind fun
| (v7, v8) => (
(m_spec_GrandValue a0 a1).bind fun v9 =>
(m_spec_l3Int v9).bind fun (v10, v11) =>
grd (v8.length + ([⟨v10, v11⟩] : List Q).length ≤ room) <|
(iter (l_spec_LeastLP_1 a0 a1) ((0 : Int), [], [])).bind fun
| (v20, v21) => (
grd (v7.length + ([(0 : Int)] : List Int).length ≤ room) <|
grd (v20.length + ([v7 ++ [(0 : Int)]] : List (List Int)).length ≤ room) <|
grd (v21.length + ([(1 : Int)] : List Int).length ≤ room) <|
some (true, v20 ++ [v7 ++ [(0 : Int)]], v21 ++ [(1 : Int)], v8 ++ [⟨v10, v11⟩])))))
theorem w_spec_LeastLP (a0 : Int) (a1 : List Int) (r : Bool × (List (List Int)) × (List Int) × (List Q)) (h : m_spec_LeastLP a0 a1 = some r) : AM.Spec Try.prog 38 [.agg [.int .i64 a0, .list (.ints a1)]] [] (.tuple [.agg [.sl 1000 0, .sl 1001 0, .sl 1002 0], .bool r.1]) [(1000, .arr 22 0 0 (.intss r.2.1)), (1001, .arr 3 0 0 (.ints r.2.2.1)), (1002, .arr 29 0 0 (.rats r.2.2.2))] := by
  refine spec_of (E := E38_spec_LeastLP) Try.func38 rfl rfl rfl rfl ?_
  refine Tri.run 1 [] [.keep [1, 2] [1, 2]] (K' := [.code [(1, 0), (0, 0)] 0, .code [(1, 0)] 1, .code [] 2]) (σ' := ⟨[(1, .ptr 1 0), (2, .ptr 2 0)], [(1, .box [.int .i64 a0, .list (.ints a1)]), (2, .box [.nil (.intss []), .nil (.ints []), .nil (.rats [])])]⟩) rfl trivial rfl ?_
  obtain ⟨v1, hk1, h⟩ := bind_some h
  rcases bif_some h with ⟨hd2, h⟩ | ⟨hd2, h⟩
  · refine Tri.run 1 [.r ⟨[], .bool v1, []⟩, .g true] [.keep [1, 2, 17] [1, 2]] (K' := [.code [(1, 0)] 1, .code [] 2]) (σ' := ⟨[(1, .ptr 1 0), (2, .ptr 2 0), (17, .bool true)], [(1, .box [.int .i64 a0, .list (.ints a1)]), (2, .box [.nil (.intss []), .nil (.ints []), .nil (.rats [])])]⟩) rfl ⟨hd2, (w_spec_IsValidGame a0 a1 v1 hk1), trivial⟩ rfl ?_
    refine Tri.run 2 [.g true] [.ownc 2 0 1100 22, .ownc 2 1 1101 3, .ownc 2 2 1102 29, .swap 1100 1000, .swap 1101 1001, .swap 1102 1002, .keep [2, 3] [2, 1000, 1001, 1002]] (K' := [.code [(1, 0), (1, 0)] 1, .code [] 2]) (σ' := ⟨[(2, .ptr 2 0), (3, .bool false)], [(2, .box [.sl 1000 0, .sl 1001 0, .sl 1002 0]), (1000, .arr 22 0 0 (.intss [])), (1001, .arr 3 0 0 (.ints [])), (1002, .arr 29 0 0 (.rats []))]⟩) rfl ⟨rfl, trivial⟩ rfl ?_
    have h := Option.some.inj h
    subst h
    exact Tri.ret rfl ⟨.inl rfl, rfl, rfl⟩
  · refine Tri.run 1 [.r ⟨[], .bool v1, []⟩, .g false] [.keep [1, 2, 17] [1, 2]] (K' := [.code [(1, 0)] 1, .code [] 2]) (σ' := ⟨[(1, .ptr 1 0), (2, .ptr 2 0), (17, .bool (decide (a0 < (2 : Int))))], [(1, .box [.int .i64 a0, .list (.ints a1)]), (2, .box [.nil (.intss []), .nil (.ints []), .nil (.rats [])])]⟩) rfl ⟨hd2, (w_spec_IsValidGame a0 a1 v1 hk1), trivial⟩ rfl ?_
    rcases bif_some h with ⟨hd3, h⟩ | ⟨hd3, h⟩
    · refine Tri.run 2 [.g true] [.ownc 2 0 1103 22, .ownc 2 1 1104 3, .ownc 2 2 1105 29, .swap 1103 1000, .swap 1104 1001, .swap 1105 1002, .keep [2, 3] [2, 1000, 1001, 1002]] (K' := [.code [(1, 0), (1, 0)] 1, .code [] 2]) (σ' := ⟨[(2, .ptr 2 0), (3, .bool false)], [(2, .box [.sl 1000 0, .sl 1001 0, .sl 1002 0]), (1000, .arr 22 0 0 (.intss [])), (1001, .arr 3 0 0 (.ints [])), (1002, .arr 29 0 0 (.rats []))]⟩) rfl ⟨hd3, trivial⟩ rfl ?_
      have h := Option.some.inj h
      subst h
      exact Tri.ret rfl ⟨.inl rfl, rfl, rfl⟩
    · refine Tri.run 3 [.g false] [.keep [1, 2, 4, 5] [1, 2, 4, 20]] (K' := [.code [(4, 0), (0, 0)] 0, .code [(4, 0)] 1, .code [] 5]) (σ' := ⟨[(1, .ptr 1 0), (2, .ptr 2 0), (4, .ptr 4 0), (5, .sl 20 0)], [(1, .box [.int .i64 a0, .list (.ints a1)]), (2, .box [.nil (.intss []), .nil (.ints []), .nil (.rats [])]), (4, .box [.nil (.intss []), .nil (.ints []), .nil (.rats [])]), (20, .arr 3 0 0 (.ints []))]⟩) rfl ⟨hd3, trivial⟩ rfl ?_
      refine Tri.run 1 [] [.ownc 2 0 1106 22, .ownc 2 1 1107 3, .ownc 2 2 1108 29, .ownc 4 0 1109 22, .ownc 4 1 1110 3, .ownc 4 2 1111 29, .keep [1, 2, 4, 5, 6] [1, 2, 4, 20, 1106, 1107, 1108, 1109, 1110, 1111]] (K' := [.code [(4, 0), (1, 0)] 0, .blk 0, .code [] 5]) (σ' := ⟨[(1, .ptr 1 0), (2, .ptr 2 0), (4, .ptr 4 0), (5, .sl 20 0), (6, .int .i64 (1 : Int))], [(1, .box [.int .i64 a0, .list (.ints a1)]), (2, .box [.sl 1106 0, .sl 1107 0, .sl 1108 0]), (4, .box [.sl 1109 0, .sl 1110 0, .sl 1111 0]), (20, .arr 3 0 0 (.ints [])), (1106, .arr 22 0 0 (.intss [])), (1107, .arr 3 0 0 (.ints [])), (1108, .arr 29 0 0 (.rats [])), (1109, .arr 22 0 0 (.intss [])), (1110, .arr 3 0 0 (.ints [])), (1111, .arr 29 0 0 (.rats []))]⟩) rfl trivial rfl ?_
      obtain ⟨x1, hk9, h⟩ := bind_some h
      refine Tri.loop (K1 := [.code [(4, 0), (1, 0), (0, 0)] 0]) (K2 := [.blk 0, .code [] 5]) (fun (v2, v3, v4) => ⟨[(1, .ptr 1 0), (2, .ptr 2 0), (4, .ptr 4 0), (5, .sl 20 0), (6, .int .i64 v2)], [(1, .box [.int .i64 a0, .list (.ints a1)]), (2, .box [.sl 1106 0, .sl 1107 0, .sl 1108 0]), (4, .box [.sl 1109 0, .sl 1110 0, .sl 1111 0]), (20, .arr 3 0 0 (.ints v3)), (1106, .arr 22 0 0 (.intss [])), (1107, .arr 3 0 0 (.ints [])), (1108, .arr 29 0 0 (.rats [])), (1109, .arr 22 0 0 (.intss [])), (1110, .arr 3 0 0 (.ints [])), (1111, .arr 29 0 0 (.rats v4))]⟩) (fun x e σ' => match x with | (v7, v8) => e = .exit 0 ∧ σ' = ⟨[(1, .ptr 1 0), (2, .ptr 2 0), (4, .ptr 4 0), (5, .sl 20 0)], [(1, .box [.int .i64 a0, .list (.ints a1)]), (2, .box [.sl 1106 0, .sl 1107 0, .sl 1108 0]), (4, .box [.sl 1109 0, .sl 1110 0, .sl 1111 0]), (20, .arr 3 0 0 (.ints v7)), (1106, .arr 22 0 0 (.intss [])), (1107, .arr 3 0 0 (.ints [])), (1108, .arr 29 0 0 (.rats [])), (1109, .arr 22 0 0 (.intss [])), (1110, .arr 3 0 0 (.ints [])), (1111, .arr 29 0 0 (.rats v8))]⟩) hk9 rfl rfl ?_ ?_
      · intro s x hs
        clear h
        have h := hs
        clear hs
        obtain ⟨v2, v3, v4⟩ := s
        refine Tri.run 1 [] [.keep [1, 2, 4, 5, 6, 26] [1, 2, 4, 20, 1106, 1107, 1108, 1109, 1110, 1111]] (K' := [.code [(4, 0), (1, 0), (0, 0), (0, 0)] 1, .code [(4, 0), (1, 0), (0, 0)] 1]) (σ' := ⟨[(1, .ptr 1 0), (2, .ptr 2 0), (4, .ptr 4 0), (5, .sl 20 0), (6, .int .i64 v2), (26, .bool (decide (v2 < (IntKind.i64.wrap ((a1.length : Int) - (1 : Int))))))], [(1, .box [.int .i64 a0, .list (.ints a1)]), (2, .box [.sl 1106 0, .sl 1107 0, .sl 1108 0]), (4, .box [.sl 1109 0, .sl 1110 0, .sl 1111 0]), (20, .arr 3 0 0 (.ints v3)), (1106, .arr 22 0 0 (.intss [])), (1107, .arr 3 0 0 (.ints [])), (1108, .arr 29 0 0 (.rats [])), (1109, .arr 22 0 0 (.intss [])), (1110, .arr 3 0 0 (.ints [])), (1111, .arr 29 0 0 (.rats v4))]⟩) rfl trivial rfl ?_
        rcases bif_some h with ⟨hd4, h⟩ | ⟨hd4, h⟩
        · obtain ⟨hg5, h⟩ := grd_some h
          obtain ⟨⟨v5, v6⟩, hk6, h⟩ := bind_some h
          obtain ⟨hg7, h⟩ := grd_some h
          obtain ⟨hg8, h⟩ := grd_some h
          refine Tri.run 3 [.g true, .r ⟨[], .agg [.int .i64 v5, .int .i64 v6], []⟩] [.keep [1, 2, 4, 5, 6] [1, 2, 4, 20, 1106, 1107, 1108, 1109, 1110, 1111]] (K' := [.code [(4, 0), (1, 0), (0, 0)] 2]) (σ' := ⟨[(1, .ptr 1 0), (2, .ptr 2 0), (4, .ptr 4 0), (5, .sl 20 1), (6, .int .i64 v2)], [(1, .box [.int .i64 a0, .list (.ints a1)]), (2, .box [.sl 1106 0, .sl 1107 0, .sl 1108 0]), (4, .box [.sl 1109 0, .sl 1110 0, .sl 1111 1]), (20, .arr 3 1 0 (.ints (v3 ++ [(1 : Int)]))), (1106, .arr 22 0 0 (.intss [])), (1107, .arr 3 0 0 (.ints [])), (1108, .arr 29 0 0 (.rats [])), (1109, .arr 22 0 0 (.intss [])), (1110, .arr 3 0 0 (.ints [])), (1111, .arr 29 1 0 (.rats (v4 ++ [⟨v5, v6⟩])))]⟩) rfl ⟨hg8, hg7, (w_spec_l3Int (IntKind.i64.wrap (0 - (a1.getD v2.toNat 0))) (v5, v6) hk6), hg5, hd4, trivial⟩ rfl ?_
          refine Tri.run 1 [] [.rever 20, .rever 1111, .keep [1, 2, 4, 5, 6] [1, 2, 4, 20, 1106, 1107, 1108, 1109, 1110, 1111]] (K' := []) (σ' := ⟨[(1, .ptr 1 0), (2, .ptr 2 0), (4, .ptr 4 0), (5, .sl 20 0), (6, .int .i64 (IntKind.i64.wrap (v2 + (1 : Int))))], [(1, .box [.int .i64 a0, .list (.ints a1)]), (2, .box [.sl 1106 0, .sl 1107 0, .sl 1108 0]), (4, .box [.sl 1109 0, .sl 1110 0, .sl 1111 0]), (20, .arr 3 0 0 (.ints (v3 ++ [(1 : Int)]))), (1106, .arr 22 0 0 (.intss [])), (1107, .arr 3 0 0 (.ints [])), (1108, .arr 29 0 0 (.rats [])), (1109, .arr 22 0 0 (.intss [])), (1110, .arr 3 0 0 (.ints [])), (1111, .arr 29 0 0 (.rats (v4 ++ [⟨v5, v6⟩])))]⟩) rfl trivial rfl ?_
          have h := Option.some.inj h
          subst h
          exact Tri.nil ⟨rfl, rfl⟩
        · refine Tri.run 1 [.g false] [.keep [1, 2, 4, 5] [1, 2, 4, 20, 1106, 1107, 1108, 1109, 1110, 1111]] (K' := [.code [(4, 0), (1, 0), (0, 0), (0, 0), (1, 1)] 0, .code [(4, 0), (1, 0), (0, 0)] 1]) (σ' := ⟨[(1, .ptr 1 0), (2, .ptr 2 0), (4, .ptr 4 0), (5, .sl 20 0)], [(1, .box [.int .i64 a0, .list (.ints a1)]), (2, .box [.sl 1106 0, .sl 1107 0, .sl 1108 0]), (4, .box [.sl 1109 0, .sl 1110 0, .sl 1111 0]), (20, .arr 3 0 0 (.ints v3)), (1106, .arr 22 0 0 (.intss [])), (1107, .arr 3 0 0 (.ints [])), (1108, .arr 29 0 0 (.rats [])), (1109, .arr 22 0 0 (.intss [])), (1110, .arr 3 0 0 (.ints [])), (1111, .arr 29 0 0 (.rats v4))]⟩) rfl ⟨hd4, trivial⟩ rfl ?_
          have h := Option.some.inj h
          subst h
          exact Tri.out 0 rfl ⟨nofun, rfl, rfl⟩
      · intro e σ' hne hq
        obtain ⟨v7, v8⟩ := x1
        obtain ⟨rfl, rfl⟩ := hq
        refine TriX.exit (K' := [.code [] 5]) rfl ?_
        obtain ⟨v9, hk10, h⟩ := bind_some h
        obtain ⟨⟨v10, v11⟩, hk11, h⟩ := bind_some h
        obtain ⟨hg12, h⟩ := grd_some h
        refine Tri.run 2 [.r ⟨[], .int .i64 v9, []⟩, .r ⟨[], .agg [.int .i64 v10, .int .i64 v11], []⟩] [.rever 1111, .keep [1, 2, 4, 5, 7] [1, 2, 4, 20, 1106, 1107, 1108, 1109, 1110, 1111]] (K' := [.code [(6, 0), (1, 0)] 0, .blk 2, .code [] 7]) (σ' := ⟨[(1, .ptr 1 0), (2, .ptr 2 0), (4, .ptr 4 0), (5, .sl 20 0), (7, .int .i64 (0 : Int))], [(1, .box [.int .i64 a0, .list (.ints a1)]), (2, .box [.sl 1106 0, .sl 1107 0, .sl 1108 0]), (4, .box [.sl 1109 0, .sl 1110 0, .sl 1111 0]), (20, .arr 3 0 0 (.ints v7)), (1106, .arr 22 0 0 (.intss [])), (1107, .arr 3 0 0 (.ints [])), (1108, .arr 29 0 0 (.rats [])), (1109, .arr 22 0 0 (.intss [])), (1110, .arr 3 0 0 (.ints [])), (1111, .arr 29 0 0 (.rats (v8 ++ [⟨v10, v11⟩])))]⟩) rfl ⟨hg12, (w_spec_l3Int v9 (v10, v11) hk11), (w_spec_GrandValue a0 a1 v9 hk10), trivial⟩ rfl ?_
        obtain ⟨x3, hk22, h⟩ := bind_some h
        refine Tri.loop (K1 := [.code [(6, 0), (1, 0), (0, 0)] 0]) (K2 := [.blk 2, .code [] 7]) (fun (v12, v13, v14) => ⟨[(1, .ptr 1 0), (2, .ptr 2 0), (4, .ptr 4 0), (5, .sl 20 0), (7, .int .i64 v12)], [(1, .box [.int .i64 a0, .list (.ints a1)]), (2, .box [.sl 1106 0, .sl 1107 0, .sl 1108 0]), (4, .box [.sl 1109 0, .sl 1110 0, .sl 1111 0]), (20, .arr 3 0 0 (.ints v7)), (1106, .arr 22 0 0 (.intss [])), (1107, .arr 3 0 0 (.ints [])), (1108, .arr 29 0 0 (.rats [])), (1109, .arr 22 0 0 (.intss v13)), (1110, .arr 3 0 0 (.ints v14)), (1111, .arr 29 0 0 (.rats (v8 ++ [⟨v10, v11⟩])))]⟩) (fun x e σ' => match x with | (v20, v21) => e = .exit 2 ∧ σ' = ⟨[(2, .ptr 2 0), (4, .ptr 4 0), (5, .sl 20 0)], [(2, .box [.sl 1106 0, .sl 1107 0, .sl 1108 0]), (4, .box [.sl 1109 0, .sl 1110 0, .sl 1111 0]), (20, .arr 3 0 0 (.ints v7)), (1106, .arr 22 0 0 (.intss [])), (1107, .arr 3 0 0 (.ints [])), (1108, .arr 29 0 0 (.rats [])), (1109, .arr 22 0 0 (.intss v20)), (1110, .arr 3 0 0 (.ints v21)), (1111, .arr 29 0 0 (.rats (v8 ++ [⟨v10, v11⟩])))]⟩) hk22 rfl rfl ?_ ?_
        · intro s x hs
          clear h
          have h := hs
          clear hs
          obtain ⟨v12, v13, v14⟩ := s
          refine Tri.run 1 [] [.keep [1, 2, 4, 5, 7, 55] [1, 2, 4, 20, 1106, 1107, 1108, 1109, 1110, 1111]] (K' := [.code [(6, 0), (1, 0), (0, 0), (0, 0)] 1, .code [(6, 0), (1, 0), (0, 0)] 1]) (σ' := ⟨[(1, .ptr 1 0), (2, .ptr 2 0), (4, .ptr 4 0), (5, .sl 20 0), (7, .int .i64 v12), (55, .bool (decide (v12 < a0)))], [(1, .box [.int .i64 a0, .list (.ints a1)]), (2, .box [.sl 1106 0, .sl 1107 0, .sl 1108 0]), (4, .box [.sl 1109 0, .sl 1110 0, .sl 1111 0]), (20, .arr 3 0 0 (.ints v7)), (1106, .arr 22 0 0 (.intss [])), (1107, .arr 3 0 0 (.ints [])), (1108, .arr 29 0 0 (.rats [])), (1109, .arr 22 0 0 (.intss v13)), (1110, .arr 3 0 0 (.ints v14)), (1111, .arr 29 0 0 (.rats (v8 ++ [⟨v10, v11⟩])))]⟩) rfl trivial rfl ?_
          rcases bif_some h with ⟨hd13, h⟩ | ⟨hd13, h⟩
          · refine Tri.run 3 [.g true] [.keep [1, 2, 4, 5, 7, 8, 9] [1, 2, 4, 20, 58, 1106, 1107, 1108, 1109, 1110, 1111]] (K' := [.code [(6, 0), (1, 0), (0, 0), (1, 0), (0, 0), (1, 0), (1, 0)] 0, .blk 4, .code [(6, 0), (1, 0), (0, 0), (1, 0), (0, 0)] 2, .blk 3, .code [(6, 0), (1, 0), (0, 0)] 2]) (σ' := ⟨[(1, .ptr 1 0), (2, .ptr 2 0), (4, .ptr 4 0), (5, .sl 20 0), (7, .int .i64 v12), (8, .sl 58 0), (9, .int .i64 (1 : Int))], [(1, .box [.int .i64 a0, .list (.ints a1)]), (2, .box [.sl 1106 0, .sl 1107 0, .sl 1108 0]), (4, .box [.sl 1109 0, .sl 1110 0, .sl 1111 0]), (20, .arr 3 0 0 (.ints v7)), (58, .arr 3 0 0 (.ints [])), (1106, .arr 22 0 0 (.intss [])), (1107, .arr 3 0 0 (.ints [])), (1108, .arr 29 0 0 (.rats [])), (1109, .arr 22 0 0 (.intss v13)), (1110, .arr 3 0 0 (.ints v14)), (1111, .arr 29 0 0 (.rats (v8 ++ [⟨v10, v11⟩])))]⟩) rfl ⟨hd13, trivial⟩ rfl ?_
            obtain ⟨v19, hk18, h⟩ := bind_some h
            refine Tri.loop (K1 := [.code [(6, 0), (1, 0), (0, 0), (1, 0), (0, 0), (1, 0), (1, 0), (0, 0)] 0]) (K2 := [.blk 4, .code [(6, 0), (1, 0), (0, 0), (1, 0), (0, 0)] 2, .blk 3, .code [(6, 0), (1, 0), (0, 0)] 2]) (fun (v15, v16) => ⟨[(1, .ptr 1 0), (2, .ptr 2 0), (4, .ptr 4 0), (5, .sl 20 0), (7, .int .i64 v12), (8, .sl 58 0), (9, .int .i64 v15)], [(1, .box [.int .i64 a0, .list (.ints a1)]), (2, .box [.sl 1106 0, .sl 1107 0, .sl 1108 0]), (4, .box [.sl 1109 0, .sl 1110 0, .sl 1111 0]), (20, .arr 3 0 0 (.ints v7)), (58, .arr 3 0 0 (.ints v16)), (1106, .arr 22 0 0 (.intss [])), (1107, .arr 3 0 0 (.ints [])), (1108, .arr 29 0 0 (.rats [])), (1109, .arr 22 0 0 (.intss v13)), (1110, .arr 3 0 0 (.ints v14)), (1111, .arr 29 0 0 (.rats (v8 ++ [⟨v10, v11⟩])))]⟩) (fun x e σ' => match x with | v19 => e = .exit 4 ∧ σ' = ⟨[(1, .ptr 1 0), (2, .ptr 2 0), (4, .ptr 4 0), (5, .sl 20 0), (7, .int .i64 v12), (8, .sl 58 0)], [(1, .box [.int .i64 a0, .list (.ints a1)]), (2, .box [.sl 1106 0, .sl 1107 0, .sl 1108 0]), (4, .box [.sl 1109 0, .sl 1110 0, .sl 1111 0]), (20, .arr 3 0 0 (.ints v7)), (58, .arr 3 0 0 (.ints v19)), (1106, .arr 22 0 0 (.intss [])), (1107, .arr 3 0 0 (.ints [])), (1108, .arr 29 0 0 (.rats [])), (1109, .arr 22 0 0 (.intss v13)), (1110, .arr 3 0 0 (.ints v14)), (1111, .arr 29 0 0 (.rats (v8 ++ [⟨v10, v11⟩])))]⟩) hk18 rfl rfl ?_ ?_
            · intro s x hs
              clear h
              have h := hs
              clear hs
              obtain ⟨v15, v16⟩ := s
              refine Tri.run 1 [] [.keep [1, 2, 4, 5, 7, 8, 9, 64] [1, 2, 4, 20, 58, 1106, 1107, 1108, 1109, 1110, 1111]] (K' := [.code [(6, 0), (1, 0), (0, 0), (1, 0), (0, 0), (1, 0), (1, 0), (0, 0), (0, 0)] 1, .code [(6, 0), (1, 0), (0, 0), (1, 0), (0, 0), (1, 0), (1, 0), (0, 0)] 1]) (σ' := ⟨[(1, .ptr 1 0), (2, .ptr 2 0), (4, .ptr 4 0), (5, .sl 20 0), (7, .int .i64 v12), (8, .sl 58 0), (9, .int .i64 v15), (64, .bool (decide (v15 < (IntKind.i64.wrap ((a1.length : Int) - (1 : Int))))))], [(1, .box [.int .i64 a0, .list (.ints a1)]), (2, .box [.sl 1106 0, .sl 1107 0, .sl 1108 0]), (4, .box [.sl 1109 0, .sl 1110 0, .sl 1111 0]), (20, .arr 3 0 0 (.ints v7)), (58, .arr 3 0 0 (.ints v16)), (1106, .arr 22 0 0 (.intss [])), (1107, .arr 3 0 0 (.ints [])), (1108, .arr 29 0 0 (.rats [])), (1109, .arr 22 0 0 (.intss v13)), (1110, .arr 3 0 0 (.ints v14)), (1111, .arr 29 0 0 (.rats (v8 ++ [⟨v10, v11⟩])))]⟩) rfl trivial rfl ?_
              rcases bif_some h with ⟨hd14, h⟩ | ⟨hd14, h⟩
              · obtain ⟨v17, hk15, h⟩ := bind_some h
                obtain ⟨v18, hk16, h⟩ := bind_some h
                obtain ⟨hg17, h⟩ := grd_some h
                refine Tri.run 3 [.g true, .r ⟨[], .bool v17, []⟩, .r ⟨[], .int .i64 v18, []⟩] [.rever 58, .keep [1, 2, 4, 5, 7, 8, 9] [1, 2, 4, 20, 58, 1106, 1107, 1108, 1109, 1110, 1111]] (K' := []) (σ' := ⟨[(1, .ptr 1 0), (2, .ptr 2 0), (4, .ptr 4 0), (5, .sl 20 0), (7, .int .i64 v12), (8, .sl 58 0), (9, .int .i64 (IntKind.i64.wrap (v15 + (1 : Int))))], [(1, .box [.int .i64 a0, .list (.ints a1)]), (2, .box [.sl 1106 0, .sl 1107 0, .sl 1108 0]), (4, .box [.sl 1109 0, .sl 1110 0, .sl 1111 0]), (20, .arr 3 0 0 (.ints v7)), (58, .arr 3 0 0 (.ints (v16 ++ [v18]))), (1106, .arr 22 0 0 (.intss [])), (1107, .arr 3 0 0 (.ints [])), (1108, .arr 29 0 0 (.rats [])), (1109, .arr 22 0 0 (.intss v13)), (1110, .arr 3 0 0 (.ints v14)), (1111, .arr 29 0 0 (.rats (v8 ++ [⟨v10, v11⟩])))]⟩) rfl ⟨hg17, (w_spec_l1Bit v17 v18 hk16), (w_spec_HasPlayer v15 v12 v17 hk15), hd14, trivial⟩ rfl ?_
                have h := Option.some.inj h
                subst h
                exact Tri.nil ⟨rfl, rfl⟩
              · refine Tri.run 1 [.g false] [.keep [1, 2, 4, 5, 7, 8] [1, 2, 4, 20, 58, 1106, 1107, 1108, 1109, 1110, 1111]] (K' := [.code [(6, 0), (1, 0), (0, 0), (1, 0), (0, 0), (1, 0), (1, 0), (0, 0), (0, 0), (1, 1)] 0, .code [(6, 0), (1, 0), (0, 0), (1, 0), (0, 0), (1, 0), (1, 0), (0, 0)] 1]) (σ' := ⟨[(1, .ptr 1 0), (2, .ptr 2 0), (4, .ptr 4 0), (5, .sl 20 0), (7, .int .i64 v12), (8, .sl 58 0)], [(1, .box [.int .i64 a0, .list (.ints a1)]), (2, .box [.sl 1106 0, .sl 1107 0, .sl 1108 0]), (4, .box [.sl 1109 0, .sl 1110 0, .sl 1111 0]), (20, .arr 3 0 0 (.ints v7)), (58, .arr 3 0 0 (.ints v16)), (1106, .arr 22 0 0 (.intss [])), (1107, .arr 3 0 0 (.ints [])), (1108, .arr 29 0 0 (.rats [])), (1109, .arr 22 0 0 (.intss v13)), (1110, .arr 3 0 0 (.ints v14)), (1111, .arr 29 0 0 (.rats (v8 ++ [⟨v10, v11⟩])))]⟩) rfl ⟨hd14, trivial⟩ rfl ?_
                have h := Option.some.inj h
                subst h
                exact Tri.out 4 rfl ⟨nofun, rfl, rfl⟩
            · intro e σ' hne hq
              obtain ⟨rfl, rfl⟩ := hq
              refine TriX.exit (K' := [.code [(6, 0), (1, 0), (0, 0), (1, 0), (0, 0)] 2, .blk 3, .code [(6, 0), (1, 0), (0, 0)] 2]) rfl ?_
              obtain ⟨hg19, h⟩ := grd_some h
              obtain ⟨hg20, h⟩ := grd_some h
              obtain ⟨hg21, h⟩ := grd_some h
              refine Tri.run 3 [] [.rever 1109, .rever 1110, .keep [1, 2, 4, 5, 7] [1, 2, 4, 20, 1106, 1107, 1108, 1109, 1110, 1111]] (K' := []) (σ' := ⟨[(1, .ptr 1 0), (2, .ptr 2 0), (4, .ptr 4 0), (5, .sl 20 0), (7, .int .i64 (IntKind.i64.wrap (v12 + (1 : Int))))], [(1, .box [.int .i64 a0, .list (.ints a1)]), (2, .box [.sl 1106 0, .sl 1107 0, .sl 1108 0]), (4, .box [.sl 1109 0, .sl 1110 0, .sl 1111 0]), (20, .arr 3 0 0 (.ints v7)), (1106, .arr 22 0 0 (.intss [])), (1107, .arr 3 0 0 (.ints [])), (1108, .arr 29 0 0 (.rats [])), (1109, .arr 22 0 0 (.intss (v13 ++ [v19 ++ [(-1 : Int)]]))), (1110, .arr 3 0 0 (.ints (v14 ++ [(0 : Int)]))), (1111, .arr 29 0 0 (.rats (v8 ++ [⟨v10, v11⟩])))]⟩) rfl ⟨hg21, hg20, hg19, trivial⟩ rfl ?_
              have h := Option.some.inj h
              subst h
              exact Tri.nil ⟨rfl, rfl⟩
          · refine Tri.run 1 [.g false] [.keep [2, 4, 5] [2, 4, 20, 1106, 1107, 1108, 1109, 1110, 1111]] (K' := [.code [(6, 0), (1, 0), (0, 0), (0, 0), (1, 1)] 0, .code [(6, 0), (1, 0), (0, 0)] 1]) (σ' := ⟨[(2, .ptr 2 0), (4, .ptr 4 0), (5, .sl 20 0)], [(2, .box [.sl 1106 0, .sl 1107 0, .sl 1108 0]), (4, .box [.sl 1109 0, .sl 1110 0, .sl 1111 0]), (20, .arr 3 0 0 (.ints v7)), (1106, .arr 22 0 0 (.intss [])), (1107, .arr 3 0 0 (.ints [])), (1108, .arr 29 0 0 (.rats [])), (1109, .arr 22 0 0 (.intss v13)), (1110, .arr 3 0 0 (.ints v14)), (1111, .arr 29 0 0 (.rats (v8 ++ [⟨v10, v11⟩])))]⟩) rfl ⟨hd13, trivial⟩ rfl ?_
            have h := Option.some.inj h
            subst h
            exact Tri.out 2 rfl ⟨nofun, rfl, rfl⟩
        · intro e σ' hne hq
          obtain ⟨v20, v21⟩ := x3
          obtain ⟨rfl, rfl⟩ := hq
          refine TriX.exit (K' := [.code [] 7]) rfl ?_
          obtain ⟨hg23, h⟩ := grd_some h
          obtain ⟨hg24, h⟩ := grd_some h
          obtain ⟨hg25, h⟩ := grd_some h
          refine Tri.run 3 [] [.rever 1109, .rever 1110, .swap 1109 1000, .swap 1110 1001, .swap 1111 1002, .keep [2, 3] [2, 1000, 1001, 1002]] (K' := [.code [] 10]) (σ' := ⟨[(2, .ptr 2 0), (3, .bool true)], [(2, .box [.sl 1000 0, .sl 1001 0, .sl 1002 0]), (1000, .arr 22 0 0 (.intss (v20 ++ [v7 ++ [(0 : Int)]]))), (1001, .arr 3 0 0 (.ints (v21 ++ [(1 : Int)]))), (1002, .arr 29 0 0 (.rats (v8 ++ [⟨v10, v11⟩])))]⟩) rfl ⟨hg25, hg24, hg23, trivial⟩ rfl ?_
          have h := Option.some.inj h
          subst h
          exact Tri.ret rfl ⟨.inl rfl, rfl, rfl⟩
/-! spec.l3Gcd -/
noncomputable def E140_spec_l3Gcd : Env := ⟨Try.prog, tys, (Try.f140.body).getD .skip, 22, tysOk, mixedOk⟩
abbrev q_spec_l3Gcd (r : Int) (σ' : ASt) : Prop := resAV E140_spec_l3Gcd.T σ' Try.f140.results.toList = some (.int .i64 r) ∧ keepO σ'.ob (namesO []) = []
noncomputable def l_spec_l3Gcd_0 : (Int × Int) → Option ((Int × Int) ⊕ Int)
  | (v1, v2) => (
bif decide (v2 > (0 : Int)) then
(grd (v2 ≠ 0) <|
some (.inl (v2, v1.tmod v2)))
else
(some (.inr v1)))
noncomputable def l_spec_l3Gcd_1 : (Int × Int) → Option ((Int × Int) ⊕ Int)
  | (v4, v5) => (
bif decide (v5 > (0 : Int)) then
(grd (v5 ≠ 0) <|
some (.inl (v5, v4.tmod v5)))
else
(some (.inr v4)))
noncomputable def l_spec_l3Gcd_2 : (Int × Int) → Option ((Int × Int) ⊕ Int)
  | (v7, v8) => (
bif decide (v8 > (0 : Int)) then
(grd (v8 ≠ 0) <|
some (.inl (v8, v7.tmod v8)))
else
(some (.inr v7)))
noncomputable def l_spec_l3Gcd_3 : (Int × Int) → Option ((Int × Int) ⊕ Int)
  | (v10, v11) => (
bif decide (v11 > (0 : Int)) then
(grd (v11 ≠ 0) <|
some (.inl (v11, v10.tmod v11)))
else
(some (.inr v10)))
noncomputable def m_spec_l3Gcd (a0 : Int) (a1 : Int) : Option Int :=
bif decide (a0 < (0 : Int)) then
(bif decide (a1 < (0 : Int)) then
((iter (l_spec_l3Gcd_0) (IntKind.i64.wrap (0 - a0), IntKind.i64.wrap (0 - a1))).bind fun
| v3 => (
some v3))
else
((iter (l_spec_l3Gcd_1) (IntKind.i64.wrap (0 - a0), a1)).bind fun
| v6 => (
some v6)))
else
(bif decide (a1 < (0 : Int)) then
((iter (l_spec_l3Gcd_2) (a0, IntKind.i64.wrap (0 - a1))).bind fun
| v9 => (
some v9))
else
((iter (l_spec_l3Gcd_3) (a0, a1)).bind fun
| v12 => (
some v12)))
theorem w_spec_l3Gcd (a0 : Int) (a1 : Int) (r : Int) (h : m_spec_l3Gcd a0 a1 = some r) : AM.Spec Try.prog 140 [.int .i64 a0, .int .i64 a1] [] (.int .i64 r) [] := by
  refine spec_of (E := E140_spec_l3Gcd) Try.func140 rfl rfl rfl rfl ?_
  refine Tri.run 2 [] [.keep [0, 1, 7] []] (K' := [.code [(1, 0)] 1, .code [] 2]) (σ' := ⟨[(0, .int .i64 a0), (1, .int .i64 a1), (7, .bool (decide (a0 < (0 : Int))))], []⟩) rfl trivial rfl ?_
  rcases bif_some h with ⟨hd1, h⟩ | ⟨hd1, h⟩
  · refine Tri.run 3 [.g true] [.keep [0, 1, 11] []] (K' := [.code [(2, 0)] 1, .code [] 3]) (σ' := ⟨[(0, .int .i64 (IntKind.i64.wrap (0 - a0))), (1, .int .i64 a1), (11, .bool (decide (a1 < (0 : Int))))], []⟩) rfl ⟨hd1, trivial⟩ rfl ?_
    rcases bif_some h with ⟨hd2, h⟩ | ⟨hd2, h⟩
    · refine Tri.run 2 [.g true] [.keep [0, 1] []] (K' := [.code [(3, 0), (0, 0)] 0, .blk 0, .code [] 4]) (σ' := ⟨[(0, .int .i64 (IntKind.i64.wrap (0 - a0))), (1, .int .i64 (IntKind.i64.wrap (0 - a1)))], []⟩) rfl ⟨hd2, trivial⟩ rfl ?_
      obtain ⟨v3, hk5, h⟩ := bind_some h
      refine Tri.loop (K1 := [.code [(3, 0), (0, 0), (0, 0)] 0]) (K2 := [.blk 0, .code [] 4]) (fun (v1, v2) => ⟨[(0, .int .i64 v1), (1, .int .i64 v2)], []⟩) (fun x e σ' => match x with | v3 => e = .exit 0 ∧ σ' = ⟨[(0, .int .i64 v3)], []⟩) hk5 rfl rfl ?_ ?_
      · intro s x hs
        clear h
        have h := hs
        clear hs
        obtain ⟨v1, v2⟩ := s
        refine Tri.run 1 [] [.keep [0, 1, 15] []] (K' := [.code [(3, 0), (0, 0), (0, 0), (0, 0)] 1, .code [(3, 0), (0, 0), (0, 0)] 1]) (σ' := ⟨[(0, .int .i64 v1), (1, .int .i64 v2), (15, .bool (decide (v2 > (0 : Int))))], []⟩) rfl trivial rfl ?_
        rcases bif_some h with ⟨hd3, h⟩ | ⟨hd3, h⟩
        · obtain ⟨hg4, h⟩ := grd_some h
          refine Tri.run 3 [.g true] [.keep [0, 5] []] (K' := [.code [(3, 0), (0, 0), (0, 0), (1, 0)] 2, .blk 1]) (σ' := ⟨[(0, .int .i64 v2), (5, .int .i64 (v1.tmod v2))], []⟩) rfl ⟨hg4, hd3, trivial⟩ rfl ?_
          refine Tri.run 1 [] [.keep [0, 1] []] (K' := []) (σ' := ⟨[(0, .int .i64 v2), (1, .int .i64 (v1.tmod v2))], []⟩) rfl trivial rfl ?_
          have h := Option.some.inj h
          subst h
          exact Tri.nil ⟨rfl, rfl⟩
        · refine Tri.run 1 [.g false] [.keep [0] []] (K' := [.code [(3, 0), (0, 0), (0, 0), (0, 0), (1, 1)] 0, .code [(3, 0), (0, 0), (0, 0)] 1]) (σ' := ⟨[(0, .int .i64 v1)], []⟩) rfl ⟨hd3, trivial⟩ rfl ?_
          have h := Option.some.inj h
          subst h
          exact Tri.out 0 rfl ⟨nofun, rfl, rfl⟩
      · intro e σ' hne hq
        obtain ⟨rfl, rfl⟩ := hq
        refine TriX.exit (K' := [.code [] 4]) rfl ?_
        refine Tri.run 1 [] [.keep [4] []] (K' := [.code [] 5]) (σ' := ⟨[(4, .int .i64 v3)], []⟩) rfl trivial rfl ?_
        have h := Option.some.inj h
        subst h
        exact Tri.ret rfl ⟨.inl rfl, rfl, rfl⟩
    · refine Tri.run 1 [.g false] [.keep [0, 1] []] (K' := [.code [(3, 0), (0, 0)] 0, .blk 0, .code [] 4]) (σ' := ⟨[(0, .int .i64 (IntKind.i64.wrap (0 - a0))), (1, .int .i64 a1)], []⟩) rfl ⟨hd2, trivial⟩ rfl ?_
      obtain ⟨v6, hk8, h⟩ := bind_some h
      refine Tri.loop (K1 := [.code [(3, 0), (0, 0), (0, 0)] 0]) (K2 := [.blk 0, .code [] 4]) (fun (v4, v5) => ⟨[(0, .int .i64 v4), (1, .int .i64 v5)], []⟩) (fun x e σ' => match x with | v6 => e = .exit 0 ∧ σ' = ⟨[(0, .int .i64 v6)], []⟩) hk8 rfl rfl ?_ ?_
      · intro s x hs
        clear h
        have h := hs
        clear hs
        obtain ⟨v4, v5⟩ := s
        refine Tri.run 1 [] [.keep [0, 1, 15] []] (K' := [.code [(3, 0), (0, 0), (0, 0), (0, 0)] 1, .code [(3, 0), (0, 0), (0, 0)] 1]) (σ' := ⟨[(0, .int .i64 v4), (1, .int .i64 v5), (15, .bool (decide (v5 > (0 : Int))))], []⟩) rfl trivial rfl ?_
        rcases bif_some h with ⟨hd6, h⟩ | ⟨hd6, h⟩
        · obtain ⟨hg7, h⟩ := grd_some h
          refine Tri.run 3 [.g true] [.keep [0, 5] []] (K' := [.code [(3, 0), (0, 0), (0, 0), (1, 0)] 2, .blk 1]) (σ' := ⟨[(0, .int .i64 v5), (5, .int .i64 (v4.tmod v5))], []⟩) rfl ⟨hg7, hd6, trivial⟩ rfl ?_
          refine Tri.run 1 [] [.keep [0, 1] []] (K' := []) (σ' := ⟨[(0, .int .i64 v5), (1, .int .i64 (v4.tmod v5))], []⟩) rfl trivial rfl ?_
          have h := Option.some.inj h
          subst h
          exact Tri.nil ⟨rfl, rfl⟩
        · refine Tri.run 1 [.g false] [.keep [0] []] (K' := [.code [(3, 0), (0, 0), (0, 0), (0, 0), (1, 1)] 0, .code [(3, 0), (0, 0), (0, 0)] 1]) (σ' := ⟨[(0, .int .i64 v4)], []⟩) rfl ⟨hd6, trivial⟩ rfl ?_
          have h := Option.some.inj h
          subst h
          exact Tri.out 0 rfl ⟨nofun, rfl, rfl⟩
      · intro e σ' hne hq
        obtain ⟨rfl, rfl⟩ := hq
        refine TriX.exit (K' := [.code [] 4]) rfl ?_
        refine Tri.run 1 [] [.keep [4] []] (K' := [.code [] 5]) (σ' := ⟨[(4, .int .i64 v6)], []⟩) rfl trivial rfl ?_
        have h := Option.some.inj h
        subst h
        exact Tri.ret rfl ⟨.inl rfl, rfl, rfl⟩
  · refine Tri.run 2 [.g false] [.keep [0, 1, 11] []] (K' := [.code [(2, 0)] 1, .code [] 3]) (σ' := ⟨[(0, .int .i64 a0), (1, .int .i64 a1), (11, .bool (decide (a1 < (0 : Int))))], []⟩) rfl ⟨hd1, trivial⟩ rfl ?_
    rcases bif_some h with ⟨hd9, h⟩ | ⟨hd9, h⟩
    · refine Tri.run 2 [.g true] [.keep [0, 1] []] (K' := [.code [(3, 0), (0, 0)] 0, .blk 0, .code [] 4]) (σ' := ⟨[(0, .int .i64 a0), (1, .int .i64 (IntKind.i64.wrap (0 - a1)))], []⟩) rfl ⟨hd9, trivial⟩ rfl ?_
      obtain ⟨v9, hk12, h⟩ := bind_some h
      refine Tri.loop (K1 := [.code [(3, 0), (0, 0), (0, 0)] 0]) (K2 := [.blk 0, .code [] 4]) (fun (v7, v8) => ⟨[(0, .int .i64 v7), (1, .int .i64 v8)], []⟩) (fun x e σ' => match x with | v9 => e = .exit 0 ∧ σ' = ⟨[(0, .int .i64 v9)], []⟩) hk12 rfl rfl ?_ ?_
      · intro s x hs
        clear h
        have h := hs
        clear hs
        obtain ⟨v7, v8⟩ := s
        refine Tri.run 1 [] [.keep [0, 1, 15] []] (K' := [.code [(3, 0), (0, 0), (0, 0), (0, 0)] 1, .code [(3, 0), (0, 0), (0, 0)] 1]) (σ' := ⟨[(0, .int .i64 v7), (1, .int .i64 v8), (15, .bool (decide (v8 > (0 : Int))))], []⟩) rfl trivial rfl ?_
        rcases bif_some h with ⟨hd10, h⟩ | ⟨hd10, h⟩
        · obtain ⟨hg11, h⟩ := grd_some h
          refine Tri.run 3 [.g true] [.keep [0, 5] []] (K' := [.code [(3, 0), (0, 0), (0, 0), (1, 0)] 2, .blk 1]) (σ' := ⟨[(0, .int .i64 v8), (5, .int .i64 (v7.tmod v8))], []⟩) rfl ⟨hg11, hd10, trivial⟩ rfl ?_
          refine Tri.run 1 [] [.keep [0, 1] []] (K' := []) (σ' := ⟨[(0, .int .i64 v8), (1, .int .i64 (v7.tmod v8))], []⟩) rfl trivial rfl ?_
          have h := Option.some.inj h
          subst h
          exact Tri.nil ⟨rfl, rfl⟩
        · refine Tri.run 1 [.g false] [.keep [0] []] (K' := [.code [(3, 0), (0, 0), (0, 0), (0, 0), (1, 1)] 0, .code [(3, 0), (0, 0), (0, 0)] 1]) (σ' := ⟨[(0, .int .i64 v7)], []⟩) rfl ⟨hd10, trivial⟩ rfl ?_
          have h := Option.some.inj h
          subst h
          exact Tri.out 0 rfl ⟨nofun, rfl, rfl⟩
      · intro e σ' hne hq
        obtain ⟨rfl, rfl⟩ := hq
        refine TriX.exit (K' := [.code [] 4]) rfl ?_
        refine Tri.run 1 [] [.keep [4] []] (K' := [.code [] 5]) (σ' := ⟨[(4, .int .i64 v9)], []⟩) rfl trivial rfl ?_
        have h := Option.some.inj h
        subst h
        exact Tri.ret rfl ⟨.inl rfl, rfl, rfl⟩
    · refine Tri.run 1 [.g false] [.keep [0, 1] []] (K' := [.code [(3, 0), (0, 0)] 0, .blk 0, .code [] 4]) (σ' := ⟨[(0, .int .i64 a0), (1, .int .i64 a1)], []⟩) rfl ⟨hd9, trivial⟩ rfl ?_
      obtain ⟨v12, hk15, h⟩ := bind_some h
      refine Tri.loop (K1 := [.code [(3, 0), (0, 0), (0, 0)] 0]) (K2 := [.blk 0, .code [] 4]) (fun (v10, v11) => ⟨[(0, .int .i64 v10), (1, .int .i64 v11)], []⟩) (fun x e σ' => match x with | v12 => e = .exit 0 ∧ σ' = ⟨[(0, .int .i64 v12)], []⟩) hk15 rfl rfl ?_ ?_
      · intro s x hs
        clear h
        have h := hs
        clear hs
        obtain ⟨v10, v11⟩ := s
        refine Tri.run 1 [] [.keep [0, 1, 15] []] (K' := [.code [(3, 0), (0, 0), (0, 0), (0, 0)] 1, .code [(3, 0), (0, 0), (0, 0)] 1]) (σ' := ⟨[(0, .int .i64 v10), (1, .int .i64 v11), (15, .bool (decide (v11 > (0 : Int))))], []⟩) rfl trivial rfl ?_
        rcases bif_some h with ⟨hd13, h⟩ | ⟨hd13, h⟩
        · obtain ⟨hg14, h⟩ := grd_some h
          refine Tri.run 3 [.g true] [.keep [0, 5] []] (K' := [.code [(3, 0), (0, 0), (0, 0), (1, 0)] 2, .blk 1]) (σ' := ⟨[(0, .int .i64 v11), (5, .int .i64 (v10.tmod v11))], []⟩) rfl ⟨hg14, hd13, trivial⟩ rfl ?_
          refine Tri.run 1 [] [.keep [0, 1] []] (K' := []) (σ' := ⟨[(0, .int .i64 v11), (1, .int .i64 (v10.tmod v11))], []⟩) rfl trivial rfl ?_
          have h := Option.some.inj h
          subst h
          exact Tri.nil ⟨rfl, rfl⟩
        · refine Tri.run 1 [.g false] [.keep [0] []] (K' := [.code [(3, 0), (0, 0), (0, 0), (0, 0), (1, 1)] 0, .code [(3, 0), (0, 0), (0, 0)] 1]) (σ' := ⟨[(0, .int .i64 v10)], []⟩) rfl ⟨hd13, trivial⟩ rfl ?_
          have h := Option.some.inj h
          subst h
          exact Tri.out 0 rfl ⟨nofun, rfl, rfl⟩
      · intro e σ' hne hq
        obtain ⟨rfl, rfl⟩ := hq
        refine TriX.exit (K' := [.code [] 4]) rfl ?_
        refine Tri.run 1 [] [.keep [4] []] (K' := [.code [] 5]) (σ' := ⟨[(4, .int .i64 v12)], []⟩) rfl trivial rfl ?_
        have h := Option.some.inj h
        subst h
        exact Tri.ret rfl ⟨.inl rfl, rfl, rfl⟩
/-! spec.IsValidRat -/
noncomputable def E132_spec_IsValidRat : Env := ⟨Try.prog, tys, (Try.f132.body).getD .skip, 19, tysOk, mixedOk⟩
abbrev q_spec_IsValidRat (r : Bool) (σ' : ASt) : Prop := resAV E132_spec_IsValidRat.T σ' Try.f132.results.toList = some (.bool r) ∧ keepO σ'.ob (namesO []) = []
noncomputable def m_spec_IsValidRat (a0 : Int) (a1 : Int) : Option Bool :=
(m_spec_l1In a1 (1 : Int) (1000000000 : Int)).bind fun v1 =>
bif v1 then
((m_spec_l1In a0 (-1000000000 : Int) (1000000000 : Int)).bind fun v2 =>
bif v2 then
((m_spec_l3Gcd a0 a1).bind fun v3 =>
some (v3 == (1 : Int)))
else
(some false))
else
(some false)
theorem w_spec_IsValidRat (a0 : Int) (a1 : Int) (r : Bool) (h : m_spec_IsValidRat a0 a1 = some r) : AM.Spec Try.prog 132 [.agg [.int .i64 a0, .int .i64 a1]] [] (.bool r) [] := by
  refine spec_of (E := E132_spec_IsValidRat) Try.func132 rfl rfl rfl rfl ?_
  refine Tri.run 1 [] [.keep [1] [1]] (K' := [.code [(1, 0)] 0, .code [] 2]) (σ' := ⟨[(1, .ptr 1 0)], [(1, .box [.int .i64 a0, .int .i64 a1])]⟩) rfl trivial rfl ?_
  obtain ⟨v1, hk1, h⟩ := bind_some h
  rcases bif_some h with ⟨hd2, h⟩ | ⟨hd2, h⟩
  · obtain ⟨v2, hk3, h⟩ := bind_some h
    rcases bif_some h with ⟨hd4, h⟩ | ⟨hd4, h⟩
    · obtain ⟨v3, hk5, h⟩ := bind_some h
      refine Tri.run 1 [.r ⟨[], .bool v1, []⟩, .g true, .r ⟨[], .bool v2, []⟩, .g true, .r ⟨[], .int .i64 v3, []⟩] [.keep [2] []] (K' := [.code [] 2]) (σ' := ⟨[(2, .bool (v3 == (1 : Int)))], []⟩) rfl ⟨(w_spec_l3Gcd a0 a1 v3 hk5), hd4, (w_spec_l1In a0 (-1000000000 : Int) (1000000000 : Int) v2 hk3), hd2, (w_spec_l1In a1 (1 : Int) (1000000000 : Int) v1 hk1), trivial⟩ rfl ?_
      have h := Option.some.inj h
      subst h
      exact Tri.ret rfl ⟨.inl rfl, rfl, rfl⟩
    · refine Tri.run 1 [.r ⟨[], .bool v1, []⟩, .g true, .r ⟨[], .bool v2, []⟩, .g false] [.keep [2] []] (K' := [.code [] 2]) (σ' := ⟨[(2, .bool false)], []⟩) rfl ⟨hd4, (w_spec_l1In a0 (-1000000000 : Int) (1000000000 : Int) v2 hk3), hd2, (w_spec_l1In a1 (1 : Int) (1000000000 : Int) v1 hk1), trivial⟩ rfl ?_
      have h := Option.some.inj h
      subst h
      exact Tri.ret rfl ⟨.inl rfl, rfl, rfl⟩
  · refine Tri.run 1 [.r ⟨[], .bool v1, []⟩, .g false, .g false] [.keep [2] []] (K' := [.code [] 2]) (σ' := ⟨[(2, .bool false)], []⟩) rfl ⟨rfl, hd2, (w_spec_l1In a1 (1 : Int) (1000000000 : Int) v1 hk1), trivial⟩ rfl ?_
    have h := Option.some.inj h
    subst h
    exact Tri.ret rfl ⟨.inl rfl, rfl, rfl⟩
/-! spec.AllValid -/
noncomputable def E77_spec_AllValid : Env := ⟨Try.prog, tys, (Try.f77.body).getD .skip, 16, tysOk, mixedOk⟩
abbrev q_spec_AllValid (r : Bool) (σ' : ASt) : Prop := resAV E77_spec_AllValid.T σ' Try.f77.results.toList = some (.bool r) ∧ keepO σ'.ob (namesO []) = []
noncomputable def l_spec_AllValid_0 (a0 : List Q) (v1 : Int) : Option (Int ⊕ (Unit ⊕ Bool)) :=
bif decide (v1 < (a0.length : Int)) then
(grd ((0 : Int) ≤ v1 ∧ v1 < (a0.length : Int)) <|
(m_spec_IsValidRat ((a0.getD v1.toNat ⟨0, 0⟩).num) ((a0.getD v1.toNat ⟨0, 0⟩).den)).bind fun v2 =>
bif !v2 then
(some (.inr (.inr false)))
else
(some (.inl (IntKind.i64.wrap (v1 + (1 : Int))))))
else
(some (.inr (.inl ())))
noncomputable def m_spec_AllValid (a0 : List Q) : Option Bool :=
(iter (l_spec_AllValid_0 a0) (0 : Int)).bind fun
| (.inl _) => (
some true)
| (.inr r) => some r
theorem w_spec_AllValid (a0 : List Q) (r : Bool) (h : m_spec_AllValid a0 = some r) : AM.Spec Try.prog 77 [.list (.rats a0)] [] (.bool r) [] := by
  refine spec_of (E := E77_spec_AllValid) Try.func77 rfl rfl rfl rfl ?_
  refine Tri.run 2 [] [.keep [0, 3] []] (K' := [.code [(1, 0), (1, 0)] 0, .blk 0, .code [] 2]) (σ' := ⟨[(0, .list (.rats a0)), (3, .int .i64 (0 : Int))], []⟩) rfl trivial rfl ?_
  obtain ⟨x1, hk5, h⟩ := bind_some h
  refine Tri.loop (K1 := [.code [(1, 0), (1, 0), (0, 0)] 0]) (K2 := [.blk 0, .code [] 2]) (fun v1 => ⟨[(0, .list (.rats a0)), (3, .int .i64 v1)], []⟩) (fun x e σ' => match x with | (.inl _) => e = .exit 0 ∧ σ' = ⟨[], []⟩ | (.inr r) => e = .ret ∧ q_spec_AllValid r σ') hk5 rfl rfl ?_ ?_
  · intro v1 x hs
    clear h
    have h := hs
    clear hs
    refine Tri.run 1 [] [.keep [0, 3, 7] []] (K' := [.code [(1, 0), (1, 0), (0, 0), (0, 0)] 1, .code [(1, 0), (1, 0), (0, 0)] 1]) (σ' := ⟨[(0, .list (.rats a0)), (3, .int .i64 v1), (7, .bool (decide (v1 < (a0.length : Int))))], []⟩) rfl trivial rfl ?_
    rcases bif_some h with ⟨hd1, h⟩ | ⟨hd1, h⟩
    · obtain ⟨hg2, h⟩ := grd_some h
      obtain ⟨v2, hk3, h⟩ := bind_some h
      refine Tri.run 2 [.g true, .r ⟨[], .bool v2, []⟩] [.keep [0, 3, 15] []] (K' := [.code [(1, 0), (1, 0), (0, 0), (1, 0), (0, 0)] 1, .blk 1, .code [(1, 0), (1, 0), (0, 0)] 2]) (σ' := ⟨[(0, .list (.rats a0)), (3, .int .i64 v1), (15, .bool (!v2))], []⟩) rfl ⟨(w_spec_IsValidRat ((a0.getD v1.toNat ⟨0, 0⟩).num) ((a0.getD v1.toNat ⟨0, 0⟩).den) v2 hk3), hg2, hd1, trivial⟩ rfl ?_
      rcases bif_some h with ⟨hd4, h⟩ | ⟨hd4, h⟩
      · refine Tri.run 2 [.g true] [.keep [2] []] (K' := [.code [(1, 0), (1, 0), (0, 0), (1, 0), (0, 0), (1, 0)] 1, .blk 1, .code [(1, 0), (1, 0), (0, 0)] 2]) (σ' := ⟨[(2, .bool false)], []⟩) rfl ⟨hd4, trivial⟩ rfl ?_
        have h := Option.some.inj h
        subst h
        exact Tri.ret rfl ⟨nofun, rfl, rfl, rfl⟩
      · refine Tri.run 2 [.g false] [.keep [0, 3] []] (K' := []) (σ' := ⟨[(0, .list (.rats a0)), (3, .int .i64 (IntKind.i64.wrap (v1 + (1 : Int))))], []⟩) rfl ⟨hd4, trivial⟩ rfl ?_
        have h := Option.some.inj h
        subst h
        exact Tri.nil ⟨rfl, rfl⟩
    · refine Tri.run 1 [.g false] [.keep [] []] (K' := [.code [(1, 0), (1, 0), (0, 0), (0, 0), (1, 1)] 0, .code [(1, 0), (1, 0), (0, 0)] 1]) (σ' := ⟨[], []⟩) rfl ⟨hd1, trivial⟩ rfl ?_
      have h := Option.some.inj h
      subst h
      exact Tri.out 0 rfl ⟨nofun, rfl, rfl⟩
  · intro e σ' hne hq
    rcases x1 with _ | r
    · obtain ⟨rfl, rfl⟩ := hq
      refine TriX.exit (K' := [.code [] 2]) rfl ?_
      refine Tri.run 1 [] [.keep [2] []] (K' := [.code [] 3]) (σ' := ⟨[(2, .bool true)], []⟩) rfl trivial rfl ?_
      have h := Option.some.inj h
      subst h
      exact Tri.ret rfl ⟨.inl rfl, rfl, rfl⟩
    · obtain ⟨rfl, hq⟩ := hq
      have h := Option.some.inj h
      subst h
      exact TriX.ret ⟨.inl rfl, hq⟩
/-! spec.l2Good -/
noncomputable def E138_spec_l2Good : Env := ⟨Try.prog, tys, (Try.f138.body).getD .skip, 5, tysOk, mixedOk⟩
abbrev q_spec_l2Good (r : Bool) (σ' : ASt) : Prop := resAV E138_spec_l2Good.T σ' Try.f138.results.toList = some (.bool r) ∧ keepO σ'.ob (namesO []) = []
noncomputable def m_spec_l2Good (a0 : Int) : Option Bool :=
(m_spec_l1In a0 (0 : Int) (31 : Int)).bind fun v1 =>
some v1
theorem w_spec_l2Good (a0 : Int) (r : Bool) (h : m_spec_l2Good a0 = some r) : AM.Spec Try.prog 138 [.int .i64 a0] [] (.bool r) [] := by
  refine spec_of (E := E138_spec_l2Good) Try.func138 rfl rfl rfl rfl ?_
  refine Tri.run 1 [] [.keep [0] []] (K' := [.code [(1, 0)] 0, .code [] 2]) (σ' := ⟨[(0, .int .i64 a0)], []⟩) rfl trivial rfl ?_
  obtain ⟨v1, hk1, h⟩ := bind_some h
  refine Tri.run 1 [.r ⟨[], .bool v1, []⟩] [.keep [2] []] (K' := [.code [] 2]) (σ' := ⟨[(2, .bool v1)], []⟩) rfl ⟨(w_spec_l1In a0 (0 : Int) (31 : Int) v1 hk1), trivial⟩ rfl ?_
  have h := Option.some.inj h
  subst h
  exact Tri.ret rfl ⟨.inl rfl, rfl, rfl⟩
/-! spec.MembersOf -/
noncomputable def E81_spec_MembersOf : Env := ⟨Try.prog, tys, (Try.f81.body).getD .skip, 22, tysOk, mixedOk⟩
abbrev q_spec_MembersOf (r : List Int) (σ' : ASt) : Prop := resAV E81_spec_MembersOf.T σ' Try.f81.results.toList = some (.sl 1000 0) ∧ keepO σ'.ob (namesO [(1000, .arr 3 0 0 (.ints r))]) = [(1000, .arr 3 0 0 (.ints r))]
noncomputable def l_spec_MembersOf_0 (a0 : Int) : (Int × (List Int)) → Option ((Int × (List Int)) ⊕ ((List Int)))
  | (v1, v2) => (
bif decide (v1 < (5 : Int)) then
((m_spec_l2Good a0).bind fun v3 =>
bif v3 then
((m_spec_HasPlayer a0 v1).bind fun v4 =>
bif v4 then
(grd (v2.length + ([v1] : List Int).length ≤ room) <|
some (.inl (IntKind.i64.wrap (v1 + (1 : Int)), v2 ++ [v1])))
else
(some (.inl (IntKind.i64.wrap (v1 + (1 : Int)), v2))))
else
(some (.inr v2)))
else
(some (.inr v2)))
noncomputable def m_spec_MembersOf (a0 : Int) : Option (List Int) :=
(iter (l_spec_MembersOf_0 a0) ((0 : Int), [])).bind fun
| v5 => (
some v5)
theorem w_spec_MembersOf (a0 : Int) (r : List Int) (h : m_spec_MembersOf a0 = some r) : AM.Spec Try.prog 81 [.int .i64 a0] [] (.sl 1000 0) [(1000, .arr 3 0 0 (.ints r))] := by
  refine spec_of (E := E81_spec_MembersOf) Try.func81 rfl rfl rfl rfl ?_
  refine Tri.run 3 [] [.keep [0, 3, 4] [5]] (K' := [.code [(2, 0), (1, 0)] 0, .blk 0, .code [] 3]) (σ' := ⟨[(0, .int .i64 a0), (3, .sl 5 0), (4, .int .i64 (0 : Int))], [(5, .arr 3 0 0 (.ints []))]⟩) rfl trivial rfl ?_
  obtain ⟨v5, hk7, h⟩ := bind_some h
  refine Tri.loop (K1 := [.code [(2, 0), (1, 0), (0, 0)] 0]) (K2 := [.blk 0, .code [] 3]) (fun (v1, v2) => ⟨[(0, .int .i64 a0), (3, .sl 5 0), (4, .int .i64 v1)], [(5, .arr 3 0 0 (.ints v2))]⟩) (fun x e σ' => match x with | v5 => e = .exit 0 ∧ σ' = ⟨[(3, .sl 5 0)], [(5, .arr 3 0 0 (.ints v5))]⟩) hk7 rfl rfl ?_ ?_
  · intro s x hs
    clear h
    have h := hs
    clear hs
    obtain ⟨v1, v2⟩ := s
    rcases bif_some h with ⟨hd1, h⟩ | ⟨hd1, h⟩
    · obtain ⟨v3, hk2, h⟩ := bind_some h
      refine Tri.run 1 [.g true, .r ⟨[], .bool v3, []⟩] [.keep [0, 3, 4, 11] [5]] (K' := [.code [(2, 0), (1, 0), (0, 0), (0, 0)] 1, .code [(2, 0), (1, 0), (0, 0)] 1]) (σ' := ⟨[(0, .int .i64 a0), (3, .sl 5 0), (4, .int .i64 v1), (11, .bool v3)], [(5, .arr 3 0 0 (.ints v2))]⟩) rfl ⟨(w_spec_l2Good a0 v3 hk2), hd1, trivial⟩ rfl ?_
      rcases bif_some h with ⟨hd3, h⟩ | ⟨hd3, h⟩
      · obtain ⟨v4, hk4, h⟩ := bind_some h
        refine Tri.run 2 [.g true, .r ⟨[], .bool v4, []⟩] [.keep [0, 3, 4, 16] [5]] (K' := [.code [(2, 0), (1, 0), (0, 0), (1, 0), (0, 0)] 1, .blk 1, .code [(2, 0), (1, 0), (0, 0)] 2]) (σ' := ⟨[(0, .int .i64 a0), (3, .sl 5 0), (4, .int .i64 v1), (16, .bool v4)], [(5, .arr 3 0 0 (.ints v2))]⟩) rfl ⟨(w_spec_HasPlayer a0 v1 v4 hk4), hd3, trivial⟩ rfl ?_
        rcases bif_some h with ⟨hd5, h⟩ | ⟨hd5, h⟩
        · obtain ⟨hg6, h⟩ := grd_some h
          refine Tri.run 3 [.g true] [.rever 5, .keep [0, 3, 4] [5]] (K' := []) (σ' := ⟨[(0, .int .i64 a0), (3, .sl 5 0), (4, .int .i64 (IntKind.i64.wrap (v1 + (1 : Int))))], [(5, .arr 3 0 0 (.ints (v2 ++ [v1])))]⟩) rfl ⟨hg6, hd5, trivial⟩ rfl ?_
          have h := Option.some.inj h
          subst h
          exact Tri.nil ⟨rfl, rfl⟩
        · refine Tri.run 2 [.g false] [.keep [0, 3, 4] [5]] (K' := []) (σ' := ⟨[(0, .int .i64 a0), (3, .sl 5 0), (4, .int .i64 (IntKind.i64.wrap (v1 + (1 : Int))))], [(5, .arr 3 0 0 (.ints v2))]⟩) rfl ⟨hd5, trivial⟩ rfl ?_
          have h := Option.some.inj h
          subst h
          exact Tri.nil ⟨rfl, rfl⟩
      · refine Tri.run 1 [.g false] [.keep [3] [5]] (K' := [.code [(2, 0), (1, 0), (0, 0), (0, 0), (1, 1)] 0, .code [(2, 0), (1, 0), (0, 0)] 1]) (σ' := ⟨[(3, .sl 5 0)], [(5, .arr 3 0 0 (.ints v2))]⟩) rfl ⟨hd3, trivial⟩ rfl ?_
        have h := Option.some.inj h
        subst h
        exact Tri.out 0 rfl ⟨nofun, rfl, rfl⟩
    · refine Tri.run 1 [.g false] [.keep [0, 3, 4, 11] [5]] (K' := [.code [(2, 0), (1, 0), (0, 0), (0, 0)] 1, .code [(2, 0), (1, 0), (0, 0)] 1]) (σ' := ⟨[(0, .int .i64 a0), (3, .sl 5 0), (4, .int .i64 v1), (11, .bool false)], [(5, .arr 3 0 0 (.ints v2))]⟩) rfl ⟨hd1, trivial⟩ rfl ?_
      refine Tri.run 1 [.g false] [.keep [3] [5]] (K' := [.code [(2, 0), (1, 0), (0, 0), (0, 0), (1, 1)] 0, .code [(2, 0), (1, 0), (0, 0)] 1]) (σ' := ⟨[(3, .sl 5 0)], [(5, .arr 3 0 0 (.ints v2))]⟩) rfl ⟨rfl, trivial⟩ rfl ?_
      have h := Option.some.inj h
      subst h
      exact Tri.out 0 rfl ⟨nofun, rfl, rfl⟩
  · intro e σ' hne hq
    obtain ⟨rfl, rfl⟩ := hq
    refine TriX.exit (K' := [.code [] 3]) rfl ?_
    refine Tri.run 1 [] [.swap 5 1000, .keep [2] [1000]] (K' := [.code [] 4]) (σ' := ⟨[(2, .sl 1000 0)], [(1000, .arr 3 0 0 (.ints v5))]⟩) rfl trivial rfl ?_
    have h := Option.some.inj h
    subst h
    exact Tri.ret rfl ⟨.inl rfl, rfl, rfl⟩
/-! spec.RatOf -/
noncomputable def E92_spec_RatOf : Env := ⟨Try.prog, tys, (Try.f92.body).getD .skip, 42, tysOk, mixedOk⟩
abbrev q_spec_RatOf (r : Int × Int × Bool) (σ' : ASt) : Prop := resAV E92_spec_RatOf.T σ' Try.f92.results.toList = some (.tuple [.agg [.int .i64 r.1, .int .i64 r.2.1], .bool r.2.2]) ∧ keepO σ'.ob (namesO []) = []
noncomputable def m_spec_RatOf (a0 : Int) (a1 : Int) : Option (Int × Int × Bool) :=
bif a1 == (0 : Int) then
(some (0, 0, false))
else
((m_spec_l1In a0 (-1000000000000000000 : Int) (1000000000000000000 : Int)).bind fun v1 =>
bif !v1 then
(some (0, 0, false))
else
((m_spec_l1In a1 (-1000000000000000000 : Int) (1000000000000000000 : Int)).bind fun v2 =>
bif !v2 then
(some (0, 0, false))
else
(bif decide (a1 < (0 : Int)) then
((m_spec_l3Gcd (IntKind.i64.wrap (0 - a0)) (IntKind.i64.wrap (0 - a1))).bind fun v3 =>
grd (v3 ≠ 0) <|
grd (v3 ≠ 0) <|
(m_spec_IsValidRat (IntKind.i64.wrap ((IntKind.i64.wrap (0 - a0)).tdiv v3)) (IntKind.i64.wrap ((IntKind.i64.wrap (0 - a1)).tdiv v3))).bind fun v4 =>
bif !v4 then
(some (0, 0, false))
else
(some (IntKind.i64.wrap ((IntKind.i64.wrap (0 - a0)).tdiv v3), IntKind.i64.wrap ((IntKind.i64.wrap (0 - a1)).tdiv v3), true)))
else
((m_spec_l3Gcd a0 a1).bind fun v5 =>
grd (v5 ≠ 0) <|
grd (v5 ≠ 0) <|
(m_spec_IsValidRat (IntKind.i64.wrap (a0.tdiv v5)) (IntKind.i64.wrap (a1.tdiv v5))).bind fun v6 =>
bif !v6 then
(some (0, 0, false))
else
(some (IntKind.i64.wrap (a0.tdiv v5), IntKind.i64.wrap (a1.tdiv v5), true))))))
theorem w_spec_RatOf (a0 : Int) (a1 : Int) (r : Int × Int × Bool) (h : m_spec_RatOf a0 a1 = some r) : AM.Spec Try.prog 92 [.int .i64 a0, .int .i64 a1] [] (.tuple [.agg [.int .i64 r.1, .int .i64 r.2.1], .bool r.2.2]) [] := by
  refine spec_of (E := E92_spec_RatOf) Try.func92 rfl rfl rfl rfl ?_
  refine Tri.run 1 [] [.keep [0, 1, 4] [4]] (K' := [.code [(1, 0), (0, 0)] 0, .code [(1, 0)] 1, .code [] 2]) (σ' := ⟨[(0, .int .i64 a0), (1, .int .i64 a1), (4, .ptr 4 0)], [(4, .box [.int .i64 0, .int .i64 0])]⟩) rfl trivial rfl ?_
  rcases bif_some h with ⟨hd1, h⟩ | ⟨hd1, h⟩
  · refine Tri.run 1 [.g true, .g true] [.keep [0, 1, 4, 19] [4]] (K' := [.code [(1, 0)] 1, .code [] 2]) (σ' := ⟨[(0, .int .i64 a0), (1, .int .i64 a1), (4, .ptr 4 0), (19, .bool true)], [(4, .box [.int .i64 0, .int .i64 0])]⟩) rfl ⟨rfl, hd1, trivial⟩ rfl ?_
    refine Tri.run 2 [.g true] [.keep [4, 5] [4]] (K' := [.code [(1, 0), (1, 0)] 1, .code [] 2]) (σ' := ⟨[(4, .ptr 4 0), (5, .bool false)], [(4, .box [.int .i64 0, .int .i64 0])]⟩) rfl ⟨rfl, trivial⟩ rfl ?_
    have h := Option.some.inj h
    subst h
    exact Tri.ret rfl ⟨.inl rfl, rfl, rfl⟩
  · obtain ⟨v1, hk2, h⟩ := bind_some h
    rcases bif_some h with ⟨hd3, h⟩ | ⟨hd3, h⟩
    · refine Tri.run 1 [.g false, .r ⟨[], .bool v1, []⟩, .g true] [.keep [0, 1, 4, 19] [4]] (K' := [.code [(1, 0)] 1, .code [] 2]) (σ' := ⟨[(0, .int .i64 a0), (1, .int .i64 a1), (4, .ptr 4 0), (19, .bool true)], [(4, .box [.int .i64 0, .int .i64 0])]⟩) rfl ⟨hd3, (w_spec_l1In a0 (-1000000000000000000 : Int) (1000000000000000000 : Int) v1 hk2), hd1, trivial⟩ rfl ?_
      refine Tri.run 2 [.g true] [.keep [4, 5] [4]] (K' := [.code [(1, 0), (1, 0)] 1, .code [] 2]) (σ' := ⟨[(4, .ptr 4 0), (5, .bool false)], [(4, .box [.int .i64 0, .int .i64 0])]⟩) rfl ⟨rfl, trivial⟩ rfl ?_
      have h := Option.some.inj h
      subst h
      exact Tri.ret rfl ⟨.inl rfl, rfl, rfl⟩
    · obtain ⟨v2, hk4, h⟩ := bind_some h
      refine Tri.run 1 [.g false, .r ⟨[], .bool v1, []⟩, .g false, .r ⟨[], .bool v2, []⟩] [.keep [0, 1, 4, 19] [4]] (K' := [.code [(1, 0)] 1, .code [] 2]) (σ' := ⟨[(0, .int .i64 a0), (1, .int .i64 a1), (4, .ptr 4 0), (19, .bool (!v2))], [(4, .box [.int .i64 0, .int .i64 0])]⟩) rfl ⟨(w_spec_l1In a1 (-1000000000000000000 : Int) (1000000000000000000 : Int) v2 hk4), hd3, (w_spec_l1In a0 (-1000000000000000000 : Int) (1000000000000000000 : Int) v1 hk2), hd1, trivial⟩ rfl ?_
      rcases bif_some h with ⟨hd5, h⟩ | ⟨hd5, h⟩
      · refine Tri.run 2 [.g true] [.keep [4, 5] [4]] (K' := [.code [(1, 0), (1, 0)] 1, .code [] 2]) (σ' := ⟨[(4, .ptr 4 0), (5, .bool false)], [(4, .box [.int .i64 0, .int .i64 0])]⟩) rfl ⟨hd5, trivial⟩ rfl ?_
        have h := Option.some.inj h
        subst h
        exact Tri.ret rfl ⟨.inl rfl, rfl, rfl⟩
      · refine Tri.run 2 [.g false] [.keep [0, 1, 4, 22] [4]] (K' := [.code [(2, 0)] 1, .code [] 3]) (σ' := ⟨[(0, .int .i64 a0), (1, .int .i64 a1), (4, .ptr 4 0), (22, .bool (decide (a1 < (0 : Int))))], [(4, .box [.int .i64 0, .int .i64 0])]⟩) rfl ⟨hd5, trivial⟩ rfl ?_
        rcases bif_some h with ⟨hd6, h⟩ | ⟨hd6, h⟩
        · refine Tri.run 3 [.g true] [.keep [0, 1, 4] [4]] (K' := [.code [(3, 0)] 0, .code [] 4]) (σ' := ⟨[(0, .int .i64 (IntKind.i64.wrap (0 - a0))), (1, .int .i64 (IntKind.i64.wrap (0 - a1))), (4, .ptr 4 0)], [(4, .box [.int .i64 0, .int .i64 0])]⟩) rfl ⟨hd6, trivial⟩ rfl ?_
          obtain ⟨v3, hk7, h⟩ := bind_some h
          obtain ⟨hg8, h⟩ := grd_some h
          obtain ⟨hg9, h⟩ := grd_some h
          refine Tri.run 2 [.r ⟨[], .int .i64 v3, []⟩] [.keep [4, 7] [4, 7]] (K' := [.code [(5, 0), (0, 0)] 0, .code [(5, 0)] 1, .code [] 6]) (σ' := ⟨[(4, .ptr 4 0), (7, .ptr 7 0)], [(4, .box [.int .i64 0, .int .i64 0]), (7, .box [.int .i64 (IntKind.i64.wrap ((IntKind.i64.wrap (0 - a0)).tdiv v3)), .int .i64 (IntKind.i64.wrap ((IntKind.i64.wrap (0 - a1)).tdiv v3))])]⟩) rfl ⟨hg9, hg8, (w_spec_l3Gcd (IntKind.i64.wrap (0 - a0)) (IntKind.i64.wrap (0 - a1)) v3 hk7), trivial⟩ rfl ?_
          obtain ⟨v4, hk10, h⟩ := bind_some h
          refine Tri.run 1 [.r ⟨[], .bool v4, []⟩] [.keep [4, 7, 39] [4, 7]] (K' := [.code [(5, 0)] 1, .code [] 6]) (σ' := ⟨[(4, .ptr 4 0), (7, .ptr 7 0), (39, .bool (!v4))], [(4, .box [.int .i64 0, .int .i64 0]), (7, .box [.int .i64 (IntKind.i64.wrap ((IntKind.i64.wrap (0 - a0)).tdiv v3)), .int .i64 (IntKind.i64.wrap ((IntKind.i64.wrap (0 - a1)).tdiv v3))])]⟩) rfl ⟨(w_spec_IsValidRat (IntKind.i64.wrap ((IntKind.i64.wrap (0 - a0)).tdiv v3)) (IntKind.i64.wrap ((IntKind.i64.wrap (0 - a1)).tdiv v3)) v4 hk10), trivial⟩ rfl ?_
          rcases bif_some h with ⟨hd11, h⟩ | ⟨hd11, h⟩
          · refine Tri.run 2 [.g true] [.keep [4, 5] [4]] (K' := [.code [(5, 0), (1, 0)] 1, .code [] 6]) (σ' := ⟨[(4, .ptr 4 0), (5, .bool false)], [(4, .box [.int .i64 0, .int .i64 0])]⟩) rfl ⟨hd11, trivial⟩ rfl ?_
            have h := Option.some.inj h
            subst h
            exact Tri.ret rfl ⟨.inl rfl, rfl, rfl⟩
          · refine Tri.run 2 [.g false] [.keep [4, 5] [4]] (K' := [.code [] 7]) (σ' := ⟨[(4, .ptr 4 0), (5, .bool true)], [(4, .box [.int .i64 (IntKind.i64.wrap ((IntKind.i64.wrap (0 - a0)).tdiv v3)), .int .i64 (IntKind.i64.wrap ((IntKind.i64.wrap (0 - a1)).tdiv v3))])]⟩) rfl ⟨hd11, trivial⟩ rfl ?_
            have h := Option.some.inj h
            subst h
            exact Tri.ret rfl ⟨.inl rfl, rfl, rfl⟩
        · obtain ⟨v5, hk12, h⟩ := bind_some h
          obtain ⟨hg13, h⟩ := grd_some h
          obtain ⟨hg14, h⟩ := grd_some h
          refine Tri.run 3 [.g false, .r ⟨[], .int .i64 v5, []⟩] [.keep [4, 7] [4, 7]] (K' := [.code [(5, 0), (0, 0)] 0, .code [(5, 0)] 1, .code [] 6]) (σ' := ⟨[(4, .ptr 4 0), (7, .ptr 7 0)], [(4, .box [.int .i64 0, .int .i64 0]), (7, .box [.int .i64 (IntKind.i64.wrap (a0.tdiv v5)), .int .i64 (IntKind.i64.wrap (a1.tdiv v5))])]⟩) rfl ⟨hg14, hg13, (w_spec_l3Gcd a0 a1 v5 hk12), hd6, trivial⟩ rfl ?_
          obtain ⟨v6, hk15, h⟩ := bind_some h
          refine Tri.run 1 [.r ⟨[], .bool v6, []⟩] [.keep [4, 7, 39] [4, 7]] (K' := [.code [(5, 0)] 1, .code [] 6]) (σ' := ⟨[(4, .ptr 4 0), (7, .ptr 7 0), (39, .bool (!v6))], [(4, .box [.int .i64 0, .int .i64 0]), (7, .box [.int .i64 (IntKind.i64.wrap (a0.tdiv v5)), .int .i64 (IntKind.i64.wrap (a1.tdiv v5))])]⟩) rfl ⟨(w_spec_IsValidRat (IntKind.i64.wrap (a0.tdiv v5)) (IntKind.i64.wrap (a1.tdiv v5)) v6 hk15), trivial⟩ rfl ?_
          rcases bif_some h with ⟨hd16, h⟩ | ⟨hd16, h⟩
          · refine Tri.run 2 [.g true] [.keep [4, 5] [4]] (K' := [.code [(5, 0), (1, 0)] 1, .code [] 6]) (σ' := ⟨[(4, .ptr 4 0), (5, .bool false)], [(4, .box [.int .i64 0, .int .i64 0])]⟩) rfl ⟨hd16, trivial⟩ rfl ?_
            have h := Option.some.inj h
            subst h
            exact Tri.ret rfl ⟨.inl rfl, rfl, rfl⟩
          · refine Tri.run 2 [.g false] [.keep [4, 5] [4]] (K' := [.code [] 7]) (σ' := ⟨[(4, .ptr 4 0), (5, .bool true)], [(4, .box [.int .i64 (IntKind.i64.wrap (a0.tdiv v5)), .int .i64 (IntKind.i64.wrap (a1.tdiv v5))])]⟩) rfl ⟨hd16, trivial⟩ rfl ?_
            have h := Option.some.inj h
            subst h
            exact Tri.ret rfl ⟨.inl rfl, rfl, rfl⟩
/-! spec.AddRat -/
noncomputable def E82_spec_AddRat : Env := ⟨Try.prog, tys, (Try.f82.body).getD .skip, 34, tysOk, mixedOk⟩
abbrev q_spec_AddRat (r : Int × Int × Bool) (σ' : ASt) : Prop := resAV E82_spec_AddRat.T σ' Try.f82.results.toList = some (.tuple [.agg [.int .i64 r.1, .int .i64 r.2.1], .bool r.2.2]) ∧ keepO σ'.ob (namesO []) = []
noncomputable def m_spec_AddRat (a0 : Int) (a1 : Int) (a2 : Int) (a3 : Int) : Option (Int × Int × Bool) :=
(m_spec_IsValidRat a0 a1).bind fun v1 =>
bif !v1 then
(some (0, 0, false))
else
((m_spec_IsValidRat a2 a3).bind fun v2 =>
bif !v2 then
(some (0, 0, false))
else
((m_spec_RatOf (IntKind.i64.wrap ((IntKind.i64.wrap (a0 * a3)) + (IntKind.i64.wrap (a2 * a1)))) (IntKind.i64.wrap (a1 * a3))).bind fun (v3, v4, v5) =>
some (v3, v4, v5)))
theorem w_spec_AddRat (a0 : Int) (a1 : Int) (a2 : Int) (a3 : Int) (r : Int × Int × Bool) (h : m_spec_AddRat a0 a1 a2 a3 = some r) : AM.Spec Try.prog 82 [.agg [.int .i64 a0, .int .i64 a1], .agg [.int .i64 a2, .int .i64 a3]] [] (.tuple [.agg [.int .i64 r.1, .int .i64 r.2.1], .bool r.2.2]) [] := by
  refine spec_of (E := E82_spec_AddRat) Try.func82 rfl rfl rfl rfl ?_
  refine Tri.run 1 [] [.keep [2, 3, 4] [2, 3, 4]] (K' := [.code [(1, 0), (0, 0)] 0, .code [(1, 0)] 1, .code [] 2]) (σ' := ⟨[(2, .ptr 2 0), (3, .ptr 3 0), (4, .ptr 4 0)], [(2, .box [.int .i64 a0, .int .i64 a1]), (3, .box [.int .i64 a2, .int .i64 a3]), (4, .box [.int .i64 0, .int .i64 0])]⟩) rfl trivial rfl ?_
  obtain ⟨v1, hk1, h⟩ := bind_some h
  rcases bif_some h with ⟨hd2, h⟩ | ⟨hd2, h⟩
  · refine Tri.run 1 [.r ⟨[], .bool v1, []⟩, .g true] [.keep [2, 3, 4, 13] [2, 3, 4]] (K' := [.code [(1, 0)] 1, .code [] 2]) (σ' := ⟨[(2, .ptr 2 0), (3, .ptr 3 0), (4, .ptr 4 0), (13, .bool true)], [(2, .box [.int .i64 a0, .int .i64 a1]), (3, .box [.int .i64 a2, .int .i64 a3]), (4, .box [.int .i64 0, .int .i64 0])]⟩) rfl ⟨hd2, (w_spec_IsValidRat a0 a1 v1 hk1), trivial⟩ rfl ?_
    refine Tri.run 2 [.g true] [.keep [4, 5] [4]] (K' := [.code [(1, 0), (1, 0)] 1, .code [] 2]) (σ' := ⟨[(4, .ptr 4 0), (5, .bool false)], [(4, .box [.int .i64 0, .int .i64 0])]⟩) rfl ⟨rfl, trivial⟩ rfl ?_
    have h := Option.some.inj h
    subst h
    exact Tri.ret rfl ⟨.inl rfl, rfl, rfl⟩
  · obtain ⟨v2, hk3, h⟩ := bind_some h
    refine Tri.run 1 [.r ⟨[], .bool v1, []⟩, .g false, .r ⟨[], .bool v2, []⟩] [.keep [2, 3, 4, 13] [2, 3, 4]] (K' := [.code [(1, 0)] 1, .code [] 2]) (σ' := ⟨[(2, .ptr 2 0), (3, .ptr 3 0), (4, .ptr 4 0), (13, .bool (!v2))], [(2, .box [.int .i64 a0, .int .i64 a1]), (3, .box [.int .i64 a2, .int .i64 a3]), (4, .box [.int .i64 0, .int .i64 0])]⟩) rfl ⟨(w_spec_IsValidRat a2 a3 v2 hk3), hd2, (w_spec_IsValidRat a0 a1 v1 hk1), trivial⟩ rfl ?_
    rcases bif_some h with ⟨hd4, h⟩ | ⟨hd4, h⟩
    · refine Tri.run 2 [.g true] [.keep [4, 5] [4]] (K' := [.code [(1, 0), (1, 0)] 1, .code [] 2]) (σ' := ⟨[(4, .ptr 4 0), (5, .bool false)], [(4, .box [.int .i64 0, .int .i64 0])]⟩) rfl ⟨hd4, trivial⟩ rfl ?_
      have h := Option.some.inj h
      subst h
      exact Tri.ret rfl ⟨.inl rfl, rfl, rfl⟩
    · obtain ⟨⟨v3, v4, v5⟩, hk5, h⟩ := bind_some h
      refine Tri.run 2 [.g false, .r ⟨[], .tuple [.agg [.int .i64 v3, .int .i64 v4], .bool v5], []⟩] [.keep [4, 5] [4]] (K' := [.code [] 3]) (σ' := ⟨[(4, .ptr 4 0), (5, .bool v5)], [(4, .box [.int .i64 v3, .int .i64 v4])]⟩) rfl ⟨(w_spec_RatOf (IntKind.i64.wrap ((IntKind.i64.wrap (a0 * a3)) + (IntKind.i64.wrap (a2 * a1)))) (IntKind.i64.wrap (a1 * a3)) (v3, v4, v5) hk5), hd4, trivial⟩ rfl ?_
      have h := Option.some.inj h
      subst h
      exact Tri.ret rfl ⟨.inl rfl, rfl, rfl⟩
/-! spec.ShareOf -/
noncomputable def E67_spec_ShareOf : Env := ⟨Try.prog, tys, (Try.f67.body).getD .skip, 52, tysOk, mixedOk⟩
abbrev q_spec_ShareOf (r : Int × Int × Bool) (σ' : ASt) : Prop := resAV E67_spec_ShareOf.T σ' Try.f67.results.toList = some (.tuple [.agg [.int .i64 r.1, .int .i64 r.2.1], .bool r.2.2]) ∧ keepO σ'.ob (namesO []) = []
noncomputable def l_spec_ShareOf_0 (a0 : List Q) (v3 : List Int) : (Int × Int × Int) → Option ((Int × Int × Int) ⊕ ((Int × Int) ⊕ ((Int × Int × Bool))))
  | (v4, v5, v6) => (
bif decide (v4 < (v3.length : Int)) then
(grd ((0 : Int) ≤ v4 ∧ v4 < (v3.length : Int)) <|
bif decide ((v3.getD v4.toNat 0) ≥ (a0.length : Int)) then
(some (.inr (.inr (0, 0, false))))
else
(grd ((0 : Int) ≤ v4 ∧ v4 < (v3.length : Int)) <|
grd ((0 : Int) ≤ v3.getD v4.toNat 0 ∧ v3.getD v4.toNat 0 < (a0.length : Int)) <|
(m_spec_AddRat v5 v6 ((a0.getD ((v3.getD v4.toNat 0).toNat) ⟨0, 0⟩).num) ((a0.getD ((v3.getD v4.toNat 0).toNat) ⟨0, 0⟩).den)).bind fun (v7, v8, v9) =>
bif !v9 then
(some (.inr (.inr (0, 0, false))))
else
(some (.inl (IntKind.i64.wrap (v4 + (1 : Int)), v7, v8)))))
else
(some (.inr (.inl (v5, v6)))))
noncomputable def m_spec_ShareOf (a0 : List Q) (a1 : Int) : Option (Int × Int × Bool) :=
(m_spec_l3Int (0 : Int)).bind fun (v1, v2) =>
bif decide (a1 < (0 : Int)) then
(some (0, 0, false))
else
(bif decide (a1 > (31 : Int)) then
(some (0, 0, false))
else
((m_spec_MembersOf a1).bind fun v3 =>
(iter (l_spec_ShareOf_0 a0 v3) ((0 : Int), v1, v2)).bind fun
| (.inl (v10, v11)) => (
some (v10, v11, true))
| (.inr r) => some r))
theorem w_spec_ShareOf (a0 : List Q) (a1 : Int) (r : Int × Int × Bool) (h : m_spec_ShareOf a0 a1 = some r) : AM.Spec Try.prog 67 [.list (.rats a0), .int .i64 a1] [] (.tuple [.agg [.int .i64 r.1, .int .i64 r.2.1], .bool r.2.2]) [] := by
  refine spec_of (E := E67_spec_ShareOf) Try.func67 rfl rfl rfl rfl ?_
  refine Tri.run 1 [] [.keep [0, 1, 4] [4]] (K' := [.code [(1, 0)] 0, .code [] 2]) (σ' := ⟨[(0, .list (.rats a0)), (1, .int .i64 a1), (4, .ptr 4 0)], [(4, .box [.int .i64 0, .int .i64 0])]⟩) rfl trivial rfl ?_
  obtain ⟨⟨v1, v2⟩, hk1, h⟩ := bind_some h
  rcases bif_some h with ⟨hd2, h⟩ | ⟨hd2, h⟩
  · refine Tri.run 2 [.r ⟨[], .agg [.int .i64 v1, .int .i64 v2], []⟩, .g true] [.keep [0, 1, 4, 6, 17] [4, 6]] (K' := [.code [(2, 0)] 1, .code [] 3]) (σ' := ⟨[(0, .list (.rats a0)), (1, .int .i64 a1), (4, .ptr 4 0), (6, .ptr 6 0), (17, .bool true)], [(4, .box [.int .i64 0, .int .i64 0]), (6, .box [.int .i64 v1, .int .i64 v2])]⟩) rfl ⟨hd2, (w_spec_l3Int (0 : Int) (v1, v2) hk1), trivial⟩ rfl ?_
    refine Tri.run 2 [.g true] [.keep [4, 5] [4]] (K' := [.code [(2, 0), (1, 0)] 1, .code [] 3]) (σ' := ⟨[(4, .ptr 4 0), (5, .bool false)], [(4, .box [.int .i64 0, .int .i64 0])]⟩) rfl ⟨rfl, trivial⟩ rfl ?_
    have h := Option.some.inj h
    subst h
    exact Tri.ret rfl ⟨.inl rfl, rfl, rfl⟩
  · refine Tri.run 2 [.r ⟨[], .agg [.int .i64 v1, .int .i64 v2], []⟩, .g false] [.keep [0, 1, 4, 6, 17] [4, 6]] (K' := [.code [(2, 0)] 1, .code [] 3]) (σ' := ⟨[(0, .list (.rats a0)), (1, .int .i64 a1), (4, .ptr 4 0), (6, .ptr 6 0), (17, .bool (decide (a1 > (31 : Int))))], [(4, .box [.int .i64 0, .int .i64 0]), (6, .box [.int .i64 v1, .int .i64 v2])]⟩) rfl ⟨hd2, (w_spec_l3Int (0 : Int) (v1, v2) hk1), trivial⟩ rfl ?_
    rcases bif_some h with ⟨hd3, h⟩ | ⟨hd3, h⟩
    · refine Tri.run 2 [.g true] [.keep [4, 5] [4]] (K' := [.code [(2, 0), (1, 0)] 1, .code [] 3]) (σ' := ⟨[(4, .ptr 4 0), (5, .bool false)], [(4, .box [.int .i64 0, .int .i64 0])]⟩) rfl ⟨hd3, trivial⟩ rfl ?_
      have h := Option.some.inj h
      subst h
      exact Tri.ret rfl ⟨.inl rfl, rfl, rfl⟩
    · obtain ⟨v3, hk4, h⟩ := bind_some h
      refine Tri.run 3 [.g false, .r ⟨[], .sl 1100 0, [(1100, .arr 3 0 0 (.ints v3))]⟩] [.keep [0, 4, 6, 7, 8] [4, 6, 1100]] (K' := [.code [(4, 0), (1, 0)] 0, .blk 0, .code [] 5]) (σ' := ⟨[(0, .list (.rats a0)), (4, .ptr 4 0), (6, .ptr 6 0), (7, .sl 1100 0), (8, .int .i64 (0 : Int))], [(4, .box [.int .i64 0, .int .i64 0]), (6, .box [.int .i64 v1, .int .i64 v2]), (1100, .arr 3 0 0 (.ints v3))]⟩) rfl ⟨((w_spec_MembersOf a1 v3 hk4).swap 1000 1100), hd3, trivial⟩ rfl ?_
      obtain ⟨x1, hk12, h⟩ := bind_some h
      refine Tri.loop (K1 := [.code [(4, 0), (1, 0), (0, 0)] 0]) (K2 := [.blk 0, .code [] 5]) (fun (v4, v5, v6) => ⟨[(0, .list (.rats a0)), (4, .ptr 4 0), (6, .ptr 6 0), (7, .sl 1100 0), (8, .int .i64 v4)], [(4, .box [.int .i64 0, .int .i64 0]), (6, .box [.int .i64 v5, .int .i64 v6]), (1100, .arr 3 0 0 (.ints v3))]⟩) (fun x e σ' => match x with | (.inl (v10, v11)) => e = .exit 0 ∧ σ' = ⟨[(4, .ptr 4 0), (6, .ptr 6 0)], [(4, .box [.int .i64 0, .int .i64 0]), (6, .box [.int .i64 v10, .int .i64 v11])]⟩ | (.inr r) => e = .ret ∧ q_spec_ShareOf r σ') hk12 rfl rfl ?_ ?_
      · intro s x hs
        clear h
        have h := hs
        clear hs
        obtain ⟨v4, v5, v6⟩ := s
        refine Tri.run 1 [] [.keep [0, 4, 6, 7, 8, 24] [4, 6, 1100]] (K' := [.code [(4, 0), (1, 0), (0, 0), (0, 0)] 1, .code [(4, 0), (1, 0), (0, 0)] 1]) (σ' := ⟨[(0, .list (.rats a0)), (4, .ptr 4 0), (6, .ptr 6 0), (7, .sl 1100 0), (8, .int .i64 v4), (24, .bool (decide (v4 < (v3.length : Int))))], [(4, .box [.int .i64 0, .int .i64 0]), (6, .box [.int .i64 v5, .int .i64 v6]), (1100, .arr 3 0 0 (.ints v3))]⟩) rfl trivial rfl ?_
        rcases bif_some h with ⟨hd5, h⟩ | ⟨hd5, h⟩
        · obtain ⟨hg6, h⟩ := grd_some h
          refine Tri.run 2 [.g true] [.keep [0, 4, 6, 7, 8, 33] [4, 6, 1100]] (K' := [.code [(4, 0), (1, 0), (0, 0), (1, 0), (0, 0), (0, 0)] 1, .code [(4, 0), (1, 0), (0, 0), (1, 0), (0, 0)] 1, .blk 1, .code [(4, 0), (1, 0), (0, 0)] 2]) (σ' := ⟨[(0, .list (.rats a0)), (4, .ptr 4 0), (6, .ptr 6 0), (7, .sl 1100 0), (8, .int .i64 v4), (33, .bool (decide ((v3.getD v4.toNat 0) ≥ (a0.length : Int))))], [(4, .box [.int .i64 0, .int .i64 0]), (6, .box [.int .i64 v5, .int .i64 v6]), (1100, .arr 3 0 0 (.ints v3))]⟩) rfl ⟨hg6, hd5, trivial⟩ rfl ?_
          rcases bif_some h with ⟨hd7, h⟩ | ⟨hd7, h⟩
          · refine Tri.run 2 [.g true] [.keep [4, 5] [4]] (K' := [.code [(4, 0), (1, 0), (0, 0), (1, 0), (0, 0), (0, 0), (1, 0)] 1, .code [(4, 0), (1, 0), (0, 0), (1, 0), (0, 0)] 1, .blk 1, .code [(4, 0), (1, 0), (0, 0)] 2]) (σ' := ⟨[(4, .ptr 4 0), (5, .bool false)], [(4, .box [.int .i64 0, .int .i64 0])]⟩) rfl ⟨hd7, trivial⟩ rfl ?_
            have h := Option.some.inj h
            subst h
            exact Tri.ret rfl ⟨nofun, rfl, rfl, rfl⟩
          · obtain ⟨hg8, h⟩ := grd_some h
            obtain ⟨hg9, h⟩ := grd_some h
            obtain ⟨⟨v7, v8, v9⟩, hk10, h⟩ := bind_some h
            refine Tri.run 3 [.g false, .r ⟨[], .tuple [.agg [.int .i64 v7, .int .i64 v8], .bool v9], []⟩] [.keep [0, 4, 6, 7, 8, 9, 48] [4, 6, 9, 1100]] (K' := [.code [(4, 0), (1, 0), (0, 0), (1, 0), (0, 0), (2, 0)] 1, .code [(4, 0), (1, 0), (0, 0), (1, 0), (0, 0)] 3, .blk 1, .code [(4, 0), (1, 0), (0, 0)] 2]) (σ' := ⟨[(0, .list (.rats a0)), (4, .ptr 4 0), (6, .ptr 6 0), (7, .sl 1100 0), (8, .int .i64 v4), (9, .ptr 9 0), (48, .bool (!v9))], [(4, .box [.int .i64 0, .int .i64 0]), (6, .box [.int .i64 v5, .int .i64 v6]), (9, .box [.int .i64 v7, .int .i64 v8]), (1100, .arr 3 0 0 (.ints v3))]⟩) rfl ⟨(w_spec_AddRat v5 v6 ((a0.getD ((v3.getD v4.toNat 0).toNat) ⟨0, 0⟩).num) ((a0.getD ((v3.getD v4.toNat 0).toNat) ⟨0, 0⟩).den) (v7, v8, v9) hk10), hg9, hg8, hd7, trivial⟩ rfl ?_
            rcases bif_some h with ⟨hd11, h⟩ | ⟨hd11, h⟩
            · refine Tri.run 2 [.g true] [.keep [4, 5] [4]] (K' := [.code [(4, 0), (1, 0), (0, 0), (1, 0), (0, 0), (2, 0), (1, 0)] 1, .code [(4, 0), (1, 0), (0, 0), (1, 0), (0, 0)] 3, .blk 1, .code [(4, 0), (1, 0), (0, 0)] 2]) (σ' := ⟨[(4, .ptr 4 0), (5, .bool false)], [(4, .box [.int .i64 0, .int .i64 0])]⟩) rfl ⟨hd11, trivial⟩ rfl ?_
              have h := Option.some.inj h
              subst h
              exact Tri.ret rfl ⟨nofun, rfl, rfl, rfl⟩
            · refine Tri.run 3 [.g false] [.keep [0, 4, 6, 7, 8] [4, 6, 1100]] (K' := []) (σ' := ⟨[(0, .list (.rats a0)), (4, .ptr 4 0), (6, .ptr 6 0), (7, .sl 1100 0), (8, .int .i64 (IntKind.i64.wrap (v4 + (1 : Int))))], [(4, .box [.int .i64 0, .int .i64 0]), (6, .box [.int .i64 v7, .int .i64 v8]), (1100, .arr 3 0 0 (.ints v3))]⟩) rfl ⟨hd11, trivial⟩ rfl ?_
              have h := Option.some.inj h
              subst h
              exact Tri.nil ⟨rfl, rfl⟩
        · refine Tri.run 1 [.g false] [.keep [4, 6] [4, 6]] (K' := [.code [(4, 0), (1, 0), (0, 0), (0, 0), (1, 1)] 0, .code [(4, 0), (1, 0), (0, 0)] 1]) (σ' := ⟨[(4, .ptr 4 0), (6, .ptr 6 0)], [(4, .box [.int .i64 0, .int .i64 0]), (6, .box [.int .i64 v5, .int .i64 v6])]⟩) rfl ⟨hd5, trivial⟩ rfl ?_
          have h := Option.some.inj h
          subst h
          exact Tri.out 0 rfl ⟨nofun, rfl, rfl⟩
      · intro e σ' hne hq
        rcases x1 with ⟨v10, v11⟩ | r
        · obtain ⟨rfl, rfl⟩ := hq
          refine TriX.exit (K' := [.code [] 5]) rfl ?_
          refine Tri.run 1 [] [.keep [4, 5] [4]] (K' := [.code [] 6]) (σ' := ⟨[(4, .ptr 4 0), (5, .bool true)], [(4, .box [.int .i64 v10, .int .i64 v11])]⟩) rfl trivial rfl ?_
          have h := Option.some.inj h
          subst h
          exact Tri.ret rfl ⟨.inl rfl, rfl, rfl⟩
        · obtain ⟨rfl, hq⟩ := hq
          have h := Option.some.inj h
          subst h
          exact TriX.ret ⟨.inl rfl, hq⟩
/-! spec.IsPayoff -/
noncomputable def E24_spec_IsPayoff : Env := ⟨Try.prog, tys, (Try.f24.body).getD .skip, 39, tysOk, mixedOk⟩
abbrev q_spec_IsPayoff (r : Bool) (σ' : ASt) : Prop := resAV E24_spec_IsPayoff.T σ' Try.f24.results.toList = some (.bool r) ∧ keepO σ'.ob (namesO []) = []
noncomputable def m_spec_IsPayoff (a0 : Int) (a1 : List Int) (a2 : List Q) : Option Bool :=
(m_spec_IsValidGame a0 a1).bind fun v1 =>
bif !v1 then
(some false)
else
(bif (a2.length : Int) != a0 then
(some false)
else
((m_spec_AllValid a2).bind fun v2 =>
bif !v2 then
(some false)
else
((m_spec_ShareOf a2 (IntKind.i64.wrap ((a1.length : Int) - (1 : Int)))).bind fun (v3, v4, v5) =>
bif v5 then
((m_spec_GrandValue a0 a1).bind fun v6 =>
(m_spec_l3Int v6).bind fun (v7, v8) =>
some (v3 == v7 && v4 == v8))
else
(some false))))
theorem w_spec_IsPayoff (a0 : Int) (a1 : List Int) (a2 : List Q) (r : Bool) (h : m_spec_IsPayoff a0 a1 a2 = some r) : AM.Spec Try.prog 24 [.agg [.int .i64 a0, .list (.ints a1)], .list (.rats a2)] [] (.bool r) [] := by
  refine spec_of (E := E24_spec_IsPayoff) Try.func24 rfl rfl rfl rfl ?_
  refine Tri.run 1 [] [.keep [1, 2] [2]] (K' := [.code [(1, 0), (0, 0)] 0, .code [(1, 0)] 1, .code [] 2]) (σ' := ⟨[(1, .list (.rats a2)), (2, .ptr 2 0)], [(2, .box [.int .i64 a0, .list (.ints a1)])]⟩) rfl trivial rfl ?_
  obtain ⟨v1, hk1, h⟩ := bind_some h
  rcases bif_some h with ⟨hd2, h⟩ | ⟨hd2, h⟩
  · refine Tri.run 1 [.r ⟨[], .bool v1, []⟩, .g true, .g true] [.keep [1, 2, 21] [2]] (K' := [.code [(1, 0)] 1, .code [] 2]) (σ' := ⟨[(1, .list (.rats a2)), (2, .ptr 2 0), (21, .bool true)], [(2, .box [.int .i64 a0, .list (.ints a1)])]⟩) rfl ⟨rfl, hd2, (w_spec_IsValidGame a0 a1 v1 hk1), trivial⟩ rfl ?_
    refine Tri.run 2 [.g true] [.keep [4] []] (K' := [.code [(1, 0), (1, 0)] 1, .code [] 2]) (σ' := ⟨[(4, .bool false)], []⟩) rfl ⟨rfl, trivial⟩ rfl ?_
    have h := Option.some.inj h
    subst h
    exact Tri.ret rfl ⟨.inl rfl, rfl, rfl⟩
  · rcases bif_some h with ⟨hd3, h⟩ | ⟨hd3, h⟩
    · refine Tri.run 1 [.r ⟨[], .bool v1, []⟩, .g false, .g true] [.keep [1, 2, 21] [2]] (K' := [.code [(1, 0)] 1, .code [] 2]) (σ' := ⟨[(1, .list (.rats a2)), (2, .ptr 2 0), (21, .bool true)], [(2, .box [.int .i64 a0, .list (.ints a1)])]⟩) rfl ⟨hd3, hd2, (w_spec_IsValidGame a0 a1 v1 hk1), trivial⟩ rfl ?_
      refine Tri.run 2 [.g true] [.keep [4] []] (K' := [.code [(1, 0), (1, 0)] 1, .code [] 2]) (σ' := ⟨[(4, .bool false)], []⟩) rfl ⟨rfl, trivial⟩ rfl ?_
      have h := Option.some.inj h
      subst h
      exact Tri.ret rfl ⟨.inl rfl, rfl, rfl⟩
    · obtain ⟨v2, hk4, h⟩ := bind_some h
      refine Tri.run 1 [.r ⟨[], .bool v1, []⟩, .g false, .g false, .r ⟨[], .bool v2, []⟩] [.keep [1, 2, 21] [2]] (K' := [.code [(1, 0)] 1, .code [] 2]) (σ' := ⟨[(1, .list (.rats a2)), (2, .ptr 2 0), (21, .bool (!v2))], [(2, .box [.int .i64 a0, .list (.ints a1)])]⟩) rfl ⟨(w_spec_AllValid a2 v2 hk4), hd3, hd2, (w_spec_IsValidGame a0 a1 v1 hk1), trivial⟩ rfl ?_
      rcases bif_some h with ⟨hd5, h⟩ | ⟨hd5, h⟩
      · refine Tri.run 2 [.g true] [.keep [4] []] (K' := [.code [(1, 0), (1, 0)] 1, .code [] 2]) (σ' := ⟨[(4, .bool false)], []⟩) rfl ⟨hd5, trivial⟩ rfl ?_
        have h := Option.some.inj h
        subst h
        exact Tri.ret rfl ⟨.inl rfl, rfl, rfl⟩
      · obtain ⟨⟨v3, v4, v5⟩, hk6, h⟩ := bind_some h
        refine Tri.run 2 [.g false, .r ⟨[], .tuple [.agg [.int .i64 v3, .int .i64 v4], .bool v5], []⟩] [.keep [2, 5, 6] [2, 5]] (K' := [.code [(3, 0)] 0, .code [] 4]) (σ' := ⟨[(2, .ptr 2 0), (5, .ptr 5 0), (6, .bool v5)], [(2, .box [.int .i64 a0, .list (.ints a1)]), (5, .box [.int .i64 v3, .int .i64 v4])]⟩) rfl ⟨(w_spec_ShareOf a2 (IntKind.i64.wrap ((a1.length : Int) - (1 : Int))) (v3, v4, v5) hk6), hd5, trivial⟩ rfl ?_
        rcases bif_some h with ⟨hd7, h⟩ | ⟨hd7, h⟩
        · obtain ⟨v6, hk8, h⟩ := bind_some h
          obtain ⟨⟨v7, v8⟩, hk9, h⟩ := bind_some h
          refine Tri.run 1 [.g true, .r ⟨[], .int .i64 v6, []⟩, .r ⟨[], .agg [.int .i64 v7, .int .i64 v8], []⟩] [.keep [4] []] (K' := [.code [] 4]) (σ' := ⟨[(4, .bool (v3 == v7 && v4 == v8))], []⟩) rfl ⟨(w_spec_l3Int v6 (v7, v8) hk9), (w_spec_GrandValue a0 a1 v6 hk8), hd7, trivial⟩ rfl ?_
          have h := Option.some.inj h
          subst h
          exact Tri.ret rfl ⟨.inl rfl, rfl, rfl⟩
        · refine Tri.run 1 [.g false] [.keep [4] []] (K' := [.code [] 4]) (σ' := ⟨[(4, .bool false)], []⟩) rfl ⟨hd7, trivial⟩ rfl ?_
          have h := Option.some.inj h
          subst h
          exact Tri.ret rfl ⟨.inl rfl, rfl, rfl⟩
/-! spec.SubRat -/
noncomputable def E68_spec_SubRat : Env := ⟨Try.prog, tys, (Try.f68.body).getD .skip, 19, tysOk, mixedOk⟩
abbrev q_spec_SubRat (r : Int × Int × Bool) (σ' : ASt) : Prop := resAV E68_spec_SubRat.T σ' Try.f68.results.toList = some (.tuple [.agg [.int .i64 r.1, .int .i64 r.2.1], .bool r.2.2]) ∧ keepO σ'.ob (namesO []) = []
noncomputable def m_spec_SubRat (a0 : Int) (a1 : Int) (a2 : Int) (a3 : Int) : Option (Int × Int × Bool) :=
(m_spec_IsValidRat a2 a3).bind fun v1 =>
bif !v1 then
(some (0, 0, false))
else
((m_spec_AddRat a0 a1 (IntKind.i64.wrap (0 - a2)) a3).bind fun (v2, v3, v4) =>
some (v2, v3, v4))
theorem w_spec_SubRat (a0 : Int) (a1 : Int) (a2 : Int) (a3 : Int) (r : Int × Int × Bool) (h : m_spec_SubRat a0 a1 a2 a3 = some r) : AM.Spec Try.prog 68 [.agg [.int .i64 a0, .int .i64 a1], .agg [.int .i64 a2, .int .i64 a3]] [] (.tuple [.agg [.int .i64 r.1, .int .i64 r.2.1], .bool r.2.2]) [] := by
  refine spec_of (E := E68_spec_SubRat) Try.func68 rfl rfl rfl rfl ?_
  refine Tri.run 1 [] [.keep [2, 3, 4] [2, 3, 4]] (K' := [.code [(1, 0), (0, 0)] 0, .code [(1, 0)] 1, .code [] 2]) (σ' := ⟨[(2, .ptr 2 0), (3, .ptr 3 0), (4, .ptr 4 0)], [(2, .box [.int .i64 a0, .int .i64 a1]), (3, .box [.int .i64 a2, .int .i64 a3]), (4, .box [.int .i64 0, .int .i64 0])]⟩) rfl trivial rfl ?_
  obtain ⟨v1, hk1, h⟩ := bind_some h
  refine Tri.run 1 [.r ⟨[], .bool v1, []⟩] [.keep [2, 3, 4, 8] [2, 3, 4]] (K' := [.code [(1, 0)] 1, .code [] 2]) (σ' := ⟨[(2, .ptr 2 0), (3, .ptr 3 0), (4, .ptr 4 0), (8, .bool (!v1))], [(2, .box [.int .i64 a0, .int .i64 a1]), (3, .box [.int .i64 a2, .int .i64 a3]), (4, .box [.int .i64 0, .int .i64 0])]⟩) rfl ⟨(w_spec_IsValidRat a2 a3 v1 hk1), trivial⟩ rfl ?_
  rcases bif_some h with ⟨hd2, h⟩ | ⟨hd2, h⟩
  · refine Tri.run 2 [.g true] [.keep [4, 5] [4]] (K' := [.code [(1, 0), (1, 0)] 1, .code [] 2]) (σ' := ⟨[(4, .ptr 4 0), (5, .bool false)], [(4, .box [.int .i64 0, .int .i64 0])]⟩) rfl ⟨hd2, trivial⟩ rfl ?_
    have h := Option.some.inj h
    subst h
    exact Tri.ret rfl ⟨.inl rfl, rfl, rfl⟩
  · refine Tri.run 2 [.g false] [.keep [2, 3, 4] [2, 3, 4]] (K' := [.code [(3, 0)] 0, .code [] 4]) (σ' := ⟨[(2, .ptr 2 0), (3, .ptr 3 0), (4, .ptr 4 0)], [(2, .box [.int .i64 a0, .int .i64 a1]), (3, .box [.int .i64 (IntKind.i64.wrap (0 - a2)), .int .i64 a3]), (4, .box [.int .i64 0, .int .i64 0])]⟩) rfl ⟨hd2, trivial⟩ rfl ?_
    obtain ⟨⟨v2, v3, v4⟩, hk3, h⟩ := bind_some h
    refine Tri.run 1 [.r ⟨[], .tuple [.agg [.int .i64 v2, .int .i64 v3], .bool v4], []⟩] [.keep [4, 5] [4]] (K' := [.code [] 4]) (σ' := ⟨[(4, .ptr 4 0), (5, .bool v4)], [(4, .box [.int .i64 v2, .int .i64 v3])]⟩) rfl ⟨(w_spec_AddRat a0 a1 (IntKind.i64.wrap (0 - a2)) a3 (v2, v3, v4) hk3), trivial⟩ rfl ?_
    have h := Option.some.inj h
    subst h
    exact Tri.ret rfl ⟨.inl rfl, rfl, rfl⟩
/-! spec.ExcessOf -/
noncomputable def E17_spec_ExcessOf : Env := ⟨Try.prog, tys, (Try.f17.body).getD .skip, 50, tysOk, mixedOk⟩
abbrev q_spec_ExcessOf (r : Int × Int × Bool) (σ' : ASt) : Prop := resAV E17_spec_ExcessOf.T σ' Try.f17.results.toList = some (.tuple [.agg [.int .i64 r.1, .int .i64 r.2.1], .bool r.2.2]) ∧ keepO σ'.ob (namesO []) = []
noncomputable def m_spec_ExcessOf (a0 : Int) (a1 : List Int) (a2 : List Q) (a3 : Int) : Option (Int × Int × Bool) :=
(m_spec_IsValidGame a0 a1).bind fun v1 =>
bif !v1 then
(some (0, 0, false))
else
((m_spec_l1In a3 (0 : Int) (IntKind.i64.wrap ((a1.length : Int) - (1 : Int)))).bind fun v2 =>
bif !v2 then
(some (0, 0, false))
else
((m_spec_ShareOf a2 a3).bind fun (v3, v4, v5) =>
grd ((0 : Int) ≤ a3 ∧ a3 < (a1.length : Int)) <|
(m_spec_l3Int (a1.getD a3.toNat 0)).bind fun (v6, v7) =>
(m_spec_SubRat v6 v7 v3 v4).bind fun (v8, v9, v10) =>
bif !v5 then
(some (0, 0, false))
else
(bif !v10 then
(some (0, 0, false))
else
(some (v8, v9, true)))))
theorem w_spec_ExcessOf (a0 : Int) (a1 : List Int) (a2 : List Q) (a3 : Int) (r : Int × Int × Bool) (h : m_spec_ExcessOf a0 a1 a2 a3 = some r) : AM.Spec Try.prog 17 [.agg [.int .i64 a0, .list (.ints a1)], .list (.rats a2), .int .i64 a3] [] (.tuple [.agg [.int .i64 r.1, .int .i64 r.2.1], .bool r.2.2]) [] := by
  refine spec_of (E := E17_spec_ExcessOf) Try.func17 rfl rfl rfl rfl ?_
  refine Tri.run 1 [] [.keep [1, 2, 3, 6] [3, 6]] (K' := [.code [(1, 0), (0, 0)] 0, .code [(1, 0)] 1, .code [] 2]) (σ' := ⟨[(1, .list (.rats a2)), (2, .int .i64 a3), (3, .ptr 3 0), (6, .ptr 6 0)], [(3, .box [.int .i64 a0, .list (.ints a1)]), (6, .box [.int .i64 0, .int .i64 0])]⟩) rfl trivial rfl ?_
  obtain ⟨v1, hk1, h⟩ := bind_some h
  rcases bif_some h with ⟨hd2, h⟩ | ⟨hd2, h⟩
  · refine Tri.run 1 [.r ⟨[], .bool v1, []⟩, .g true] [.keep [1, 2, 3, 6, 23] [3, 6]] (K' := [.code [(1, 0)] 1, .code [] 2]) (σ' := ⟨[(1, .list (.rats a2)), (2, .int .i64 a3), (3, .ptr 3 0), (6, .ptr 6 0), (23, .bool true)], [(3, .box [.int .i64 a0, .list (.ints a1)]), (6, .box [.int .i64 0, .int .i64 0])]⟩) rfl ⟨hd2, (w_spec_IsValidGame a0 a1 v1 hk1), trivial⟩ rfl ?_
    refine Tri.run 2 [.g true] [.keep [6, 7] [6]] (K' := [.code [(1, 0), (1, 0)] 1, .code [] 2]) (σ' := ⟨[(6, .ptr 6 0), (7, .bool false)], [(6, .box [.int .i64 0, .int .i64 0])]⟩) rfl ⟨rfl, trivial⟩ rfl ?_
    have h := Option.some.inj h
    subst h
    exact Tri.ret rfl ⟨.inl rfl, rfl, rfl⟩
  · obtain ⟨v2, hk3, h⟩ := bind_some h
    refine Tri.run 1 [.r ⟨[], .bool v1, []⟩, .g false, .r ⟨[], .bool v2, []⟩] [.keep [1, 2, 3, 6, 23] [3, 6]] (K' := [.code [(1, 0)] 1, .code [] 2]) (σ' := ⟨[(1, .list (.rats a2)), (2, .int .i64 a3), (3, .ptr 3 0), (6, .ptr 6 0), (23, .bool (!v2))], [(3, .box [.int .i64 a0, .list (.ints a1)]), (6, .box [.int .i64 0, .int .i64 0])]⟩) rfl ⟨(w_spec_l1In a3 (0 : Int) (IntKind.i64.wrap ((a1.length : Int) - (1 : Int))) v2 hk3), hd2, (w_spec_IsValidGame a0 a1 v1 hk1), trivial⟩ rfl ?_
    rcases bif_some h with ⟨hd4, h⟩ | ⟨hd4, h⟩
    · refine Tri.run 2 [.g true] [.keep [6, 7] [6]] (K' := [.code [(1, 0), (1, 0)] 1, .code [] 2]) (σ' := ⟨[(6, .ptr 6 0), (7, .bool false)], [(6, .box [.int .i64 0, .int .i64 0])]⟩) rfl ⟨hd4, trivial⟩ rfl ?_
      have h := Option.some.inj h
      subst h
      exact Tri.ret rfl ⟨.inl rfl, rfl, rfl⟩
    · obtain ⟨⟨v3, v4, v5⟩, hk5, h⟩ := bind_some h
      refine Tri.run 2 [.g false, .r ⟨[], .tuple [.agg [.int .i64 v3, .int .i64 v4], .bool v5], []⟩] [.keep [2, 3, 6, 8, 9] [3, 6, 8]] (K' := [.code [(3, 0)] 0, .code [] 4]) (σ' := ⟨[(2, .int .i64 a3), (3, .ptr 3 0), (6, .ptr 6 0), (8, .ptr 8 0), (9, .bool v5)], [(3, .box [.int .i64 a0, .list (.ints a1)]), (6, .box [.int .i64 0, .int .i64 0]), (8, .box [.int .i64 v3, .int .i64 v4])]⟩) rfl ⟨(w_spec_ShareOf a2 a3 (v3, v4, v5) hk5), hd4, trivial⟩ rfl ?_
      obtain ⟨hg6, h⟩ := grd_some h
      obtain ⟨⟨v6, v7⟩, hk7, h⟩ := bind_some h
      obtain ⟨⟨v8, v9, v10⟩, hk8, h⟩ := bind_some h
      rcases bif_some h with ⟨hd9, h⟩ | ⟨hd9, h⟩
      · refine Tri.run 2 [.r ⟨[], .agg [.int .i64 v6, .int .i64 v7], []⟩, .r ⟨[], .tuple [.agg [.int .i64 v8, .int .i64 v9], .bool v10], []⟩, .g true] [.keep [6, 10, 47] [6, 10]] (K' := [.code [(4, 0)] 1, .code [] 5]) (σ' := ⟨[(6, .ptr 6 0), (10, .ptr 10 0), (47, .bool true)], [(6, .box [.int .i64 0, .int .i64 0]), (10, .box [.int .i64 v8, .int .i64 v9])]⟩) rfl ⟨hd9, (w_spec_SubRat v6 v7 v3 v4 (v8, v9, v10) hk8), (w_spec_l3Int (a1.getD a3.toNat 0) (v6, v7) hk7), hg6, trivial⟩ rfl ?_
        refine Tri.run 2 [.g true] [.keep [6, 7] [6]] (K' := [.code [(4, 0), (1, 0)] 1, .code [] 5]) (σ' := ⟨[(6, .ptr 6 0), (7, .bool false)], [(6, .box [.int .i64 0, .int .i64 0])]⟩) rfl ⟨rfl, trivial⟩ rfl ?_
        have h := Option.some.inj h
        subst h
        exact Tri.ret rfl ⟨.inl rfl, rfl, rfl⟩
      · refine Tri.run 2 [.r ⟨[], .agg [.int .i64 v6, .int .i64 v7], []⟩, .r ⟨[], .tuple [.agg [.int .i64 v8, .int .i64 v9], .bool v10], []⟩, .g false] [.keep [6, 10, 47] [6, 10]] (K' := [.code [(4, 0)] 1, .code [] 5]) (σ' := ⟨[(6, .ptr 6 0), (10, .ptr 10 0), (47, .bool (!v10))], [(6, .box [.int .i64 0, .int .i64 0]), (10, .box [.int .i64 v8, .int .i64 v9])]⟩) rfl ⟨hd9, (w_spec_SubRat v6 v7 v3 v4 (v8, v9, v10) hk8), (w_spec_l3Int (a1.getD a3.toNat 0) (v6, v7) hk7), hg6, trivial⟩ rfl ?_
        rcases bif_some h with ⟨hd10, h⟩ | ⟨hd10, h⟩
        · refine Tri.run 2 [.g true] [.keep [6, 7] [6]] (K' := [.code [(4, 0), (1, 0)] 1, .code [] 5]) (σ' := ⟨[(6, .ptr 6 0), (7, .bool false)], [(6, .box [.int .i64 0, .int .i64 0])]⟩) rfl ⟨hd10, trivial⟩ rfl ?_
          have h := Option.some.inj h
          subst h
          exact Tri.ret rfl ⟨.inl rfl, rfl, rfl⟩
        · refine Tri.run 2 [.g false] [.keep [6, 7] [6]] (K' := [.code [] 6]) (σ' := ⟨[(6, .ptr 6 0), (7, .bool true)], [(6, .box [.int .i64 v8, .int .i64 v9])]⟩) rfl ⟨hd10, trivial⟩ rfl ?_
          have h := Option.some.inj h
          subst h
          exact Tri.ret rfl ⟨.inl rfl, rfl, rfl⟩
/-! spec.l11All -/
noncomputable def E114_spec_l11All : Env := ⟨Try.prog, tys, (Try.f114.body).getD .skip, 39, tysOk, mixedOk⟩
abbrev q_spec_l11All (r : Bool × (List Q)) (σ' : ASt) : Prop := resAV E114_spec_l11All.T σ' Try.f114.results.toList = some (.tuple [.sl 1000 0, .bool r.1]) ∧ keepO σ'.ob (namesO [(1000, .arr 29 0 0 (.rats r.2))]) = [(1000, .arr 29 0 0 (.rats r.2))]
noncomputable def l_spec_l11All_0 (a0 : Int) (a1 : List Int) (a2 : List Q) : (Int × (List Q)) → Option ((Int × (List Q)) ⊕ ((List Q) ⊕ ((Bool × (List Q)))))
  | (v2, v3) => (
bif decide (v2 < (IntKind.i64.wrap ((a1.length : Int) - (1 : Int)))) then
((m_spec_ExcessOf a0 a1 a2 v2).bind fun (v4, v5, v6) =>
bif !v6 then
(some (.inr (.inr (false, []))))
else
(grd (v3.length + ([⟨v4, v5⟩] : List Q).length ≤ room) <|
some (.inl (IntKind.i64.wrap (v2 + (1 : Int)), v3 ++ [⟨v4, v5⟩]))))
else
(some (.inr (.inl v3))))
noncomputable def m_spec_l11All (a0 : Int) (a1 : List Int) (a2 : List Q) : Option (Bool × (List Q)) :=
(m_spec_IsPayoff a0 a1 a2).bind fun v1 =>
bif !v1 then
(some (false, []))
else
((iter (l_spec_l11All_0 a0 a1 a2) ((1 : Int), [])).bind fun
| (.inl v7) => (
some (true, v7))
| (.inr r) => some r)
theorem w_spec_l11All (a0 : Int) (a1 : List Int) (a2 : List Q) (r : Bool × (List Q)) (h : m_spec_l11All a0 a1 a2 = some r) : AM.Spec Try.prog 114 [.agg [.int .i64 a0, .list (.ints a1)], .list (.rats a2)] [] (.tuple [.sl 1000 0, .bool r.1]) [(1000, .arr 29 0 0 (.rats r.2))] := by
  refine spec_of (E := E114_spec_l11All) Try.func114 rfl rfl rfl rfl ?_
  refine Tri.run 2 [] [.keep [1, 2, 6] [2, 10]] (K' := [.code [(2, 0), (0, 0)] 0, .code [(2, 0)] 1, .code [] 3]) (σ' := ⟨[(1, .list (.rats a2)), (2, .ptr 2 0), (6, .sl 10 0)], [(2, .box [.int .i64 a0, .list (.ints a1)]), (10, .arr 29 0 0 (.rats []))]⟩) rfl trivial rfl ?_
  obtain ⟨v1, hk1, h⟩ := bind_some h
  refine Tri.run 1 [.r ⟨[], .bool v1, []⟩] [.keep [1, 2, 6, 14] [2, 10]] (K' := [.code [(2, 0)] 1, .code [] 3]) (σ' := ⟨[(1, .list (.rats a2)), (2, .ptr 2 0), (6, .sl 10 0), (14, .bool (!v1))], [(2, .box [.int .i64 a0, .list (.ints a1)]), (10, .arr 29 0 0 (.rats []))]⟩) rfl ⟨(w_spec_IsPayoff a0 a1 a2 v1 hk1), trivial⟩ rfl ?_
  rcases bif_some h with ⟨hd2, h⟩ | ⟨hd2, h⟩
  · refine Tri.run 2 [.g true] [.swap 10 1000, .keep [4, 5] [1000]] (K' := [.code [(2, 0), (1, 0)] 1, .code [] 3]) (σ' := ⟨[(4, .sl 1000 0), (5, .bool false)], [(1000, .arr 29 0 0 (.rats []))]⟩) rfl ⟨hd2, trivial⟩ rfl ?_
    have h := Option.some.inj h
    subst h
    exact Tri.ret rfl ⟨.inl rfl, rfl, rfl⟩
  · refine Tri.run 2 [.g false] [.keep [1, 2, 6, 7] [2, 10]] (K' := [.code [(3, 0), (1, 0)] 0, .blk 0, .code [] 4]) (σ' := ⟨[(1, .list (.rats a2)), (2, .ptr 2 0), (6, .sl 10 0), (7, .int .i64 (1 : Int))], [(2, .box [.int .i64 a0, .list (.ints a1)]), (10, .arr 29 0 0 (.rats []))]⟩) rfl ⟨hd2, trivial⟩ rfl ?_
    obtain ⟨x1, hk7, h⟩ := bind_some h
    refine Tri.loop (K1 := [.code [(3, 0), (1, 0), (0, 0)] 0]) (K2 := [.blk 0, .code [] 4]) (fun (v2, v3) => ⟨[(1, .list (.rats a2)), (2, .ptr 2 0), (6, .sl 10 0), (7, .int .i64 v2)], [(2, .box [.int .i64 a0, .list (.ints a1)]), (10, .arr 29 0 0 (.rats v3))]⟩) (fun x e σ' => match x with | (.inl v7) => e = .exit 0 ∧ σ' = ⟨[(6, .sl 10 0)], [(10, .arr 29 0 0 (.rats v7))]⟩ | (.inr r) => e = .ret ∧ q_spec_l11All r σ') hk7 rfl rfl ?_ ?_
    · intro s x hs
      clear h
      have h := hs
      clear hs
      obtain ⟨v2, v3⟩ := s
      refine Tri.run 1 [] [.keep [1, 2, 6, 7, 21] [2, 10]] (K' := [.code [(3, 0), (1, 0), (0, 0), (0, 0)] 1, .code [(3, 0), (1, 0), (0, 0)] 1]) (σ' := ⟨[(1, .list (.rats a2)), (2, .ptr 2 0), (6, .sl 10 0), (7, .int .i64 v2), (21, .bool (decide (v2 < (IntKind.i64.wrap ((a1.length : Int) - (1 : Int))))))], [(2, .box [.int .i64 a0, .list (.ints a1)]), (10, .arr 29 0 0 (.rats v3))]⟩) rfl trivial rfl ?_
      rcases bif_some h with ⟨hd3, h⟩ | ⟨hd3, h⟩
      · obtain ⟨⟨v4, v5, v6⟩, hk4, h⟩ := bind_some h
        refine Tri.run 3 [.g true, .r ⟨[], .tuple [.agg [.int .i64 v4, .int .i64 v5], .bool v6], []⟩] [.keep [1, 2, 6, 7, 8, 32] [2, 8, 10]] (K' := [.code [(3, 0), (1, 0), (0, 0), (1, 0), (0, 0), (1, 0)] 1, .code [(3, 0), (1, 0), (0, 0), (1, 0), (0, 0)] 2, .blk 1, .code [(3, 0), (1, 0), (0, 0)] 2]) (σ' := ⟨[(1, .list (.rats a2)), (2, .ptr 2 0), (6, .sl 10 0), (7, .int .i64 v2), (8, .ptr 8 0), (32, .bool (!v6))], [(2, .box [.int .i64 a0, .list (.ints a1)]), (8, .box [.int .i64 v4, .int .i64 v5]), (10, .arr 29 0 0 (.rats v3))]⟩) rfl ⟨(w_spec_ExcessOf a0 a1 a2 v2 (v4, v5, v6) hk4), hd3, trivial⟩ rfl ?_
        rcases bif_some h with ⟨hd5, h⟩ | ⟨hd5, h⟩
        · refine Tri.run 2 [.g true] [.swap 33 1000, .keep [4, 5] [1000]] (K' := [.code [(3, 0), (1, 0), (0, 0), (1, 0), (0, 0), (1, 0), (1, 0)] 1, .code [(3, 0), (1, 0), (0, 0), (1, 0), (0, 0)] 2, .blk 1, .code [(3, 0), (1, 0), (0, 0)] 2]) (σ' := ⟨[(4, .sl 1000 0), (5, .bool false)], [(1000, .arr 29 0 0 (.rats []))]⟩) rfl ⟨hd5, trivial⟩ rfl ?_
          have h := Option.some.inj h
          subst h
          exact Tri.ret rfl ⟨nofun, rfl, rfl, rfl⟩
        · obtain ⟨hg6, h⟩ := grd_some h
          refine Tri.run 3 [.g false] [.rever 10, .keep [1, 2, 6, 7] [2, 10]] (K' := []) (σ' := ⟨[(1, .list (.rats a2)), (2, .ptr 2 0), (6, .sl 10 0), (7, .int .i64 (IntKind.i64.wrap (v2 + (1 : Int))))], [(2, .box [.int .i64 a0, .list (.ints a1)]), (10, .arr 29 0 0 (.rats (v3 ++ [⟨v4, v5⟩])))]⟩) rfl ⟨hg6, hd5, trivial⟩ rfl ?_
          have h := Option.some.inj h
          subst h
          exact Tri.nil ⟨rfl, rfl⟩
      · refine Tri.run 1 [.g false] [.keep [6] [10]] (K' := [.code [(3, 0), (1, 0), (0, 0), (0, 0), (1, 1)] 0, .code [(3, 0), (1, 0), (0, 0)] 1]) (σ' := ⟨[(6, .sl 10 0)], [(10, .arr 29 0 0 (.rats v3))]⟩) rfl ⟨hd3, trivial⟩ rfl ?_
        have h := Option.some.inj h
        subst h
        exact Tri.out 0 rfl ⟨nofun, rfl, rfl⟩
    · intro e σ' hne hq
      rcases x1 with v7 | r
      · obtain ⟨rfl, rfl⟩ := hq
        refine TriX.exit (K' := [.code [] 4]) rfl ?_
        refine Tri.run 1 [] [.swap 10 1000, .keep [4, 5] [1000]] (K' := [.code [] 5]) (σ' := ⟨[(4, .sl 1000 0), (5, .bool true)], [(1000, .arr 29 0 0 (.rats v7))]⟩) rfl trivial rfl ?_
        have h := Option.some.inj h
        subst h
        exact Tri.ret rfl ⟨.inl rfl, rfl, rfl⟩
      · obtain ⟨rfl, hq⟩ := hq
        have h := Option.some.inj h
        subst h
        exact TriX.ret ⟨.inl rfl, hq⟩
/-! spec.CompareRat -/
noncomputable def E99_spec_CompareRat : Env := ⟨Try.prog, tys, (Try.f99.body).getD .skip, 33, tysOk, mixedOk⟩
abbrev q_spec_CompareRat (r : Int) (σ' : ASt) : Prop := resAV E99_spec_CompareRat.T σ' Try.f99.results.toList = some (.int .i64 r) ∧ keepO σ'.ob (namesO []) = []
noncomputable def m_spec_CompareRat (a0 : Int) (a1 : Int) (a2 : Int) (a3 : Int) : Option Int :=
(m_spec_IsValidRat a0 a1).bind fun v1 =>
bif !v1 then
(some (0 : Int))
else
((m_spec_IsValidRat a2 a3).bind fun v2 =>
bif !v2 then
(some (0 : Int))
else
(bif decide ((IntKind.i64.wrap (a0 * a3)) < (IntKind.i64.wrap (a2 * a1))) then
(some (-1 : Int))
else
(bif decide ((IntKind.i64.wrap (a0 * a3)) > (IntKind.i64.wrap (a2 * a1))) then
(some (1 : Int))
else
(some (0 : Int)))))
theorem w_spec_CompareRat (a0 : Int) (a1 : Int) (a2 : Int) (a3 : Int) (r : Int) (h : m_spec_CompareRat a0 a1 a2 a3 = some r) : AM.Spec Try.prog 99 [.agg [.int .i64 a0, .int .i64 a1], .agg [.int .i64 a2, .int .i64 a3]] [] (.int .i64 r) [] := by
  refine spec_of (E := E99_spec_CompareRat) Try.func99 rfl rfl rfl rfl ?_
  refine Tri.run 1 [] [.keep [2, 3] [2, 3]] (K' := [.code [(1, 0), (0, 0)] 0, .code [(1, 0)] 1, .code [] 2]) (σ' := ⟨[(2, .ptr 2 0), (3, .ptr 3 0)], [(2, .box [.int .i64 a0, .int .i64 a1]), (3, .box [.int .i64 a2, .int .i64 a3])]⟩) rfl trivial rfl ?_
  obtain ⟨v1, hk1, h⟩ := bind_some h
  rcases bif_some h with ⟨hd2, h⟩ | ⟨hd2, h⟩
  · refine Tri.run 1 [.r ⟨[], .bool v1, []⟩, .g true] [.keep [2, 3, 14] [2, 3]] (K' := [.code [(1, 0)] 1, .code [] 2]) (σ' := ⟨[(2, .ptr 2 0), (3, .ptr 3 0), (14, .bool true)], [(2, .box [.int .i64 a0, .int .i64 a1]), (3, .box [.int .i64 a2, .int .i64 a3])]⟩) rfl ⟨hd2, (w_spec_IsValidRat a0 a1 v1 hk1), trivial⟩ rfl ?_
    refine Tri.run 2 [.g true] [.keep [4] []] (K' := [.code [(1, 0), (1, 0)] 1, .code [] 2]) (σ' := ⟨[(4, .int .i64 (0 : Int))], []⟩) rfl ⟨rfl, trivial⟩ rfl ?_
    have h := Option.some.inj h
    subst h
    exact Tri.ret rfl ⟨.inl rfl, rfl, rfl⟩
  · obtain ⟨v2, hk3, h⟩ := bind_some h
    refine Tri.run 1 [.r ⟨[], .bool v1, []⟩, .g false, .r ⟨[], .bool v2, []⟩] [.keep [2, 3, 14] [2, 3]] (K' := [.code [(1, 0)] 1, .code [] 2]) (σ' := ⟨[(2, .ptr 2 0), (3, .ptr 3 0), (14, .bool (!v2))], [(2, .box [.int .i64 a0, .int .i64 a1]), (3, .box [.int .i64 a2, .int .i64 a3])]⟩) rfl ⟨(w_spec_IsValidRat a2 a3 v2 hk3), hd2, (w_spec_IsValidRat a0 a1 v1 hk1), trivial⟩ rfl ?_
    rcases bif_some h with ⟨hd4, h⟩ | ⟨hd4, h⟩
    · refine Tri.run 2 [.g true] [.keep [4] []] (K' := [.code [(1, 0), (1, 0)] 1, .code [] 2]) (σ' := ⟨[(4, .int .i64 (0 : Int))], []⟩) rfl ⟨hd4, trivial⟩ rfl ?_
      have h := Option.some.inj h
      subst h
      exact Tri.ret rfl ⟨.inl rfl, rfl, rfl⟩
    · refine Tri.run 3 [.g false] [.keep [5, 6] []] (K' := [.code [(4, 0), (0, 0), (0, 0)] 0, .code [(4, 0), (0, 0)] 1, .blk 0, .code [] 5]) (σ' := ⟨[(5, .int .i64 (IntKind.i64.wrap (a0 * a3))), (6, .int .i64 (IntKind.i64.wrap (a2 * a1)))], []⟩) rfl ⟨hd4, trivial⟩ rfl ?_
      refine Tri.run 1 [] [.keep [5, 6, 25] []] (K' := [.code [(4, 0), (0, 0)] 1, .blk 0, .code [] 5]) (σ' := ⟨[(5, .int .i64 (IntKind.i64.wrap (a0 * a3))), (6, .int .i64 (IntKind.i64.wrap (a2 * a1))), (25, .bool (decide ((IntKind.i64.wrap (a0 * a3)) < (IntKind.i64.wrap (a2 * a1)))))], []⟩) rfl trivial rfl ?_
      rcases bif_some h with ⟨hd5, h⟩ | ⟨hd5, h⟩
      · refine Tri.run 2 [.g true] [.keep [4] []] (K' := [.code [(4, 0), (0, 0), (1, 0)] 1, .blk 0, .code [] 5]) (σ' := ⟨[(4, .int .i64 (-1 : Int))], []⟩) rfl ⟨hd5, trivial⟩ rfl ?_
        have h := Option.some.inj h
        subst h
        exact Tri.ret rfl ⟨.inl rfl, rfl, rfl⟩
      · refine Tri.run 2 [.g false] [.keep [29] []] (K' := [.code [(4, 0), (0, 0), (1, 1)] 1, .blk 0, .code [] 5]) (σ' := ⟨[(29, .bool (decide ((IntKind.i64.wrap (a0 * a3)) > (IntKind.i64.wrap (a2 * a1)))))], []⟩) rfl ⟨hd5, trivial⟩ rfl ?_
        rcases bif_some h with ⟨hd6, h⟩ | ⟨hd6, h⟩
        · refine Tri.run 2 [.g true] [.keep [4] []] (K' := [.code [(4, 0), (0, 0), (1, 1), (1, 0)] 1, .blk 0, .code [] 5]) (σ' := ⟨[(4, .int .i64 (1 : Int))], []⟩) rfl ⟨hd6, trivial⟩ rfl ?_
          have h := Option.some.inj h
          subst h
          exact Tri.ret rfl ⟨.inl rfl, rfl, rfl⟩
        · refine Tri.run 2 [.g false] [.keep [4] []] (K' := [.code [] 6]) (σ' := ⟨[(4, .int .i64 (0 : Int))], []⟩) rfl ⟨hd6, trivial⟩ rfl ?_
          have h := Option.some.inj h
          subst h
          exact Tri.ret rfl ⟨.inl rfl, rfl, rfl⟩
/-! spec.WorstExcess -/
noncomputable def E47_spec_WorstExcess : Env := ⟨Try.prog, tys, (Try.f47.body).getD .skip, 68, tysOk, mixedOk⟩
abbrev q_spec_WorstExcess (r : Int × Int × Bool × (List Int)) (σ' : ASt) : Prop := resAV E47_spec_WorstExcess.T σ' Try.f47.results.toList = some (.tuple [.agg [.int .i64 r.1, .int .i64 r.2.1], .sl 1000 0, .bool r.2.2.1]) ∧ keepO σ'.ob (namesO [(1000, .arr 3 0 0 (.ints r.2.2.2))]) = [(1000, .arr 3 0 0 (.ints r.2.2.2))]
noncomputable def l_spec_WorstExcess_0 (v2 : List Q) : (Int × Int × Int) → Option ((Int × Int × Int) ⊕ ((Int × Int)))
  | (v3, v4, v5) => (
bif decide (v3 < (v2.length : Int)) then
(grd ((0 : Int) ≤ v3 ∧ v3 < (v2.length : Int)) <|
(m_spec_CompareRat ((v2.getD v3.toNat ⟨0, 0⟩).num) ((v2.getD v3.toNat ⟨0, 0⟩).den) v4 v5).bind fun v6 =>
bif decide (v6 > (0 : Int)) then
(grd ((0 : Int) ≤ v3 ∧ v3 < (v2.length : Int)) <|
some (.inl (IntKind.i64.wrap (v3 + (1 : Int)), (v2.getD v3.toNat ⟨0, 0⟩).num, (v2.getD v3.toNat ⟨0, 0⟩).den)))
else
(some (.inl (IntKind.i64.wrap (v3 + (1 : Int)), v4, v5))))
else
(some (.inr (v4, v5))))
noncomputable def l_spec_WorstExcess_1 (v2 : List Q) (v7 : Int) (v8 : Int) : (Int × (List Int)) → Option ((Int × (List Int)) ⊕ ((List Int)))
  | (v9, v10) => (
bif decide (v9 < (v2.length : Int)) then
(grd ((0 : Int) ≤ v9 ∧ v9 < (v2.length : Int)) <|
bif ((v2.getD v9.toNat ⟨0, 0⟩).num) == v7 && ((v2.getD v9.toNat ⟨0, 0⟩).den) == v8 then
(grd (v10.length + ([IntKind.i64.wrap (v9 + (1 : Int))] : List Int).length ≤ room) <|
some (.inl (IntKind.i64.wrap (v9 + (1 : Int)), v10 ++ [IntKind.i64.wrap (v9 + (1 : Int))])))
else
(some (.inl (IntKind.i64.wrap (v9 + (1 : Int)), v10))))
else
(some (.inr v10)))
noncomputable def m_spec_WorstExcess (a0 : Int) (a1 : List Int) (a2 : List Q) : Option (Int × Int × Bool × (List Int)) :=
(m_spec_l11All a0 a1 a2).bind fun (v1, v2) =>
bif !v1 then
(some (0, 0, false, []))
else
(bif (v2.length : Int) == (0 : Int) then
(some (0, 0, false, []))
else
(grd ((0 : Int) ≤ (0 : Int) ∧ (0 : Int) < (v2.length : Int)) <|
(iter (l_spec_WorstExcess_0 v2) ((0 : Int), (v2.getD ((0 : Int).toNat) ⟨0, 0⟩).num, (v2.getD ((0 : Int).toNat) ⟨0, 0⟩).den)).bind fun
| (v7, v8) => (
(iter (l_spec_WorstExcess_1 v2 v7 v8) ((0 : Int), [])).bind fun
| v11 => (
some (v7, v8, true, v11)))))
theorem w_spec_WorstExcess (a0 : Int) (a1 : List Int) (a2 : List Q) (r : Int × Int × Bool × (List Int)) (h : m_spec_WorstExcess a0 a1 a2 = some r) : AM.Spec Try.prog 47 [.agg [.int .i64 a0, .list (.ints a1)], .list (.rats a2)] [] (.tuple [.agg [.int .i64 r.1, .int .i64 r.2.1], .sl 1000 0, .bool r.2.2.1]) [(1000, .arr 3 0 0 (.ints r.2.2.2))] := by
  refine spec_of (E := E47_spec_WorstExcess) Try.func47 rfl rfl rfl rfl ?_
  refine Tri.run 1 [] [.keep [1, 2, 4] [2, 4]] (K' := [.code [(1, 0)] 0, .code [] 2]) (σ' := ⟨[(1, .list (.rats a2)), (2, .ptr 2 0), (4, .ptr 4 0)], [(2, .box [.int .i64 a0, .list (.ints a1)]), (4, .box [.int .i64 0, .int .i64 0])]⟩) rfl trivial rfl ?_
  obtain ⟨⟨v1, v2⟩, hk1, h⟩ := bind_some h
  rcases bif_some h with ⟨hd2, h⟩ | ⟨hd2, h⟩
  · refine Tri.run 2 [.r ⟨[], .tuple [.sl 1100 0, .bool v1], [(1100, .arr 29 0 0 (.rats v2))]⟩, .g true] [.keep [4, 7, 25] [4, 1100]] (K' := [.code [(2, 0)] 1, .code [] 3]) (σ' := ⟨[(4, .ptr 4 0), (7, .sl 1100 0), (25, .bool true)], [(4, .box [.int .i64 0, .int .i64 0]), (1100, .arr 29 0 0 (.rats v2))]⟩) rfl ⟨hd2, ((w_spec_l11All a0 a1 a2 (v1, v2) hk1).swap 1000 1100), trivial⟩ rfl ?_
    refine Tri.run 2 [.g true] [.swap 27 1000, .keep [4, 5, 6] [4, 1000]] (K' := [.code [(2, 0), (1, 0)] 1, .code [] 3]) (σ' := ⟨[(4, .ptr 4 0), (5, .sl 1000 0), (6, .bool false)], [(4, .box [.int .i64 0, .int .i64 0]), (1000, .arr 3 0 0 (.ints []))]⟩) rfl ⟨rfl, trivial⟩ rfl ?_
    have h := Option.some.inj h
    subst h
    exact Tri.ret rfl ⟨.inl rfl, rfl, rfl⟩
  · refine Tri.run 2 [.r ⟨[], .tuple [.sl 1100 0, .bool v1], [(1100, .arr 29 0 0 (.rats v2))]⟩, .g false] [.keep [4, 7, 25] [4, 1100]] (K' := [.code [(2, 0)] 1, .code [] 3]) (σ' := ⟨[(4, .ptr 4 0), (7, .sl 1100 0), (25, .bool ((v2.length : Int) == (0 : Int)))], [(4, .box [.int .i64 0, .int .i64 0]), (1100, .arr 29 0 0 (.rats v2))]⟩) rfl ⟨hd2, ((w_spec_l11All a0 a1 a2 (v1, v2) hk1).swap 1000 1100), trivial⟩ rfl ?_
    rcases bif_some h with ⟨hd3, h⟩ | ⟨hd3, h⟩
    · refine Tri.run 2 [.g true] [.swap 27 1000, .keep [4, 5, 6] [4, 1000]] (K' := [.code [(2, 0), (1, 0)] 1, .code [] 3]) (σ' := ⟨[(4, .ptr 4 0), (5, .sl 1000 0), (6, .bool false)], [(4, .box [.int .i64 0, .int .i64 0]), (1000, .arr 3 0 0 (.ints []))]⟩) rfl ⟨hd3, trivial⟩ rfl ?_
      have h := Option.some.inj h
      subst h
      exact Tri.ret rfl ⟨.inl rfl, rfl, rfl⟩
    · obtain ⟨hg4, h⟩ := grd_some h
      refine Tri.run 3 [.g false] [.keep [4, 7, 9, 10] [4, 9, 1100]] (K' := [.code [(4, 0), (1, 0)] 0, .blk 0, .code [] 5]) (σ' := ⟨[(4, .ptr 4 0), (7, .sl 1100 0), (9, .ptr 9 0), (10, .int .i64 (0 : Int))], [(4, .box [.int .i64 0, .int .i64 0]), (9, .box [.int .i64 ((v2.getD ((0 : Int).toNat) ⟨0, 0⟩).num), .int .i64 ((v2.getD ((0 : Int).toNat) ⟨0, 0⟩).den)]), (1100, .arr 29 0 0 (.rats v2))]⟩) rfl ⟨hg4, hd3, trivial⟩ rfl ?_
      obtain ⟨x1, hk10, h⟩ := bind_some h
      refine Tri.loop (K1 := [.code [(4, 0), (1, 0), (0, 0)] 0]) (K2 := [.blk 0, .code [] 5]) (fun (v3, v4, v5) => ⟨[(4, .ptr 4 0), (7, .sl 1100 0), (9, .ptr 9 0), (10, .int .i64 v3)], [(4, .box [.int .i64 0, .int .i64 0]), (9, .box [.int .i64 v4, .int .i64 v5]), (1100, .arr 29 0 0 (.rats v2))]⟩) (fun x e σ' => match x with | (v7, v8) => e = .exit 0 ∧ σ' = ⟨[(4, .ptr 4 0), (7, .sl 1100 0), (9, .ptr 9 0)], [(4, .box [.int .i64 0, .int .i64 0]), (9, .box [.int .i64 v7, .int .i64 v8]), (1100, .arr 29 0 0 (.rats v2))]⟩) hk10 rfl rfl ?_ ?_
      · intro s x hs
        clear h
        have h := hs
        clear hs
        obtain ⟨v3, v4, v5⟩ := s
        refine Tri.run 1 [] [.keep [4, 7, 9, 10, 34] [4, 9, 1100]] (K' := [.code [(4, 0), (1, 0), (0, 0), (0, 0)] 1, .code [(4, 0), (1, 0), (0, 0)] 1]) (σ' := ⟨[(4, .ptr 4 0), (7, .sl 1100 0), (9, .ptr 9 0), (10, .int .i64 v3), (34, .bool (decide (v3 < (v2.length : Int))))], [(4, .box [.int .i64 0, .int .i64 0]), (9, .box [.int .i64 v4, .int .i64 v5]), (1100, .arr 29 0 0 (.rats v2))]⟩) rfl trivial rfl ?_
        rcases bif_some h with ⟨hd5, h⟩ | ⟨hd5, h⟩
        · obtain ⟨hg6, h⟩ := grd_some h
          obtain ⟨v6, hk7, h⟩ := bind_some h
          refine Tri.run 2 [.g true, .r ⟨[], .int .i64 v6, []⟩] [.keep [4, 7, 9, 10, 43] [4, 9, 1100]] (K' := [.code [(4, 0), (1, 0), (0, 0), (1, 0), (0, 0)] 1, .blk 1, .code [(4, 0), (1, 0), (0, 0)] 2]) (σ' := ⟨[(4, .ptr 4 0), (7, .sl 1100 0), (9, .ptr 9 0), (10, .int .i64 v3), (43, .bool (decide (v6 > (0 : Int))))], [(4, .box [.int .i64 0, .int .i64 0]), (9, .box [.int .i64 v4, .int .i64 v5]), (1100, .arr 29 0 0 (.rats v2))]⟩) rfl ⟨(w_spec_CompareRat ((v2.getD v3.toNat ⟨0, 0⟩).num) ((v2.getD v3.toNat ⟨0, 0⟩).den) v4 v5 v6 hk7), hg6, hd5, trivial⟩ rfl ?_
          rcases bif_some h with ⟨hd8, h⟩ | ⟨hd8, h⟩
          · obtain ⟨hg9, h⟩ := grd_some h
            refine Tri.run 3 [.g true] [.keep [4, 7, 9, 10] [4, 9, 1100]] (K' := []) (σ' := ⟨[(4, .ptr 4 0), (7, .sl 1100 0), (9, .ptr 9 0), (10, .int .i64 (IntKind.i64.wrap (v3 + (1 : Int))))], [(4, .box [.int .i64 0, .int .i64 0]), (9, .box [.int .i64 ((v2.getD v3.toNat ⟨0, 0⟩).num), .int .i64 ((v2.getD v3.toNat ⟨0, 0⟩).den)]), (1100, .arr 29 0 0 (.rats v2))]⟩) rfl ⟨hg9, hd8, trivial⟩ rfl ?_
            have h := Option.some.inj h
            subst h
            exact Tri.nil ⟨rfl, rfl⟩
          · refine Tri.run 2 [.g false] [.keep [4, 7, 9, 10] [4, 9, 1100]] (K' := []) (σ' := ⟨[(4, .ptr 4 0), (7, .sl 1100 0), (9, .ptr 9 0), (10, .int .i64 (IntKind.i64.wrap (v3 + (1 : Int))))], [(4, .box [.int .i64 0, .int .i64 0]), (9, .box [.int .i64 v4, .int .i64 v5]), (1100, .arr 29 0 0 (.rats v2))]⟩) rfl ⟨hd8, trivial⟩ rfl ?_
            have h := Option.some.inj h
            subst h
            exact Tri.nil ⟨rfl, rfl⟩
        · refine Tri.run 1 [.g false] [.keep [4, 7, 9] [4, 9, 1100]] (K' := [.code [(4, 0), (1, 0), (0, 0), (0, 0), (1, 1)] 0, .code [(4, 0), (1, 0), (0, 0)] 1]) (σ' := ⟨[(4, .ptr 4 0), (7, .sl 1100 0), (9, .ptr 9 0)], [(4, .box [.int .i64 0, .int .i64 0]), (9, .box [.int .i64 v4, .int .i64 v5]), (1100, .arr 29 0 0 (.rats v2))]⟩) rfl ⟨hd5, trivial⟩ rfl ?_
          have h := Option.some.inj h
          subst h
          exact Tri.out 0 rfl ⟨nofun, rfl, rfl⟩
      · intro e σ' hne hq
        obtain ⟨v7, v8⟩ := x1
        obtain ⟨rfl, rfl⟩ := hq
        refine TriX.exit (K' := [.code [] 5]) rfl ?_
        refine Tri.run 2 [] [.keep [4, 7, 9, 11, 12] [4, 9, 48, 1100]] (K' := [.code [(6, 0), (1, 0)] 0, .blk 2, .code [] 7]) (σ' := ⟨[(4, .ptr 4 0), (7, .sl 1100 0), (9, .ptr 9 0), (11, .sl 48 0), (12, .int .i64 (0 : Int))], [(4, .box [.int .i64 0, .int .i64 0]), (9, .box [.int .i64 v7, .int .i64 v8]), (48, .arr 3 0 0 (.ints [])), (1100, .arr 29 0 0 (.rats v2))]⟩) rfl trivial rfl ?_
        obtain ⟨v11, hk15, h⟩ := bind_some h
        refine Tri.loop (K1 := [.code [(6, 0), (1, 0), (0, 0)] 0]) (K2 := [.blk 2, .code [] 7]) (fun (v9, v10) => ⟨[(4, .ptr 4 0), (7, .sl 1100 0), (9, .ptr 9 0), (11, .sl 48 0), (12, .int .i64 v9)], [(4, .box [.int .i64 0, .int .i64 0]), (9, .box [.int .i64 v7, .int .i64 v8]), (48, .arr 3 0 0 (.ints v10)), (1100, .arr 29 0 0 (.rats v2))]⟩) (fun x e σ' => match x with | v11 => e = .exit 2 ∧ σ' = ⟨[(4, .ptr 4 0), (9, .ptr 9 0), (11, .sl 48 0)], [(4, .box [.int .i64 0, .int .i64 0]), (9, .box [.int .i64 v7, .int .i64 v8]), (48, .arr 3 0 0 (.ints v11))]⟩) hk15 rfl rfl ?_ ?_
        · intro s x hs
          clear h
          have h := hs
          clear hs
          obtain ⟨v9, v10⟩ := s
          refine Tri.run 1 [] [.keep [4, 7, 9, 11, 12, 52] [4, 9, 48, 1100]] (K' := [.code [(6, 0), (1, 0), (0, 0), (0, 0)] 1, .code [(6, 0), (1, 0), (0, 0)] 1]) (σ' := ⟨[(4, .ptr 4 0), (7, .sl 1100 0), (9, .ptr 9 0), (11, .sl 48 0), (12, .int .i64 v9), (52, .bool (decide (v9 < (v2.length : Int))))], [(4, .box [.int .i64 0, .int .i64 0]), (9, .box [.int .i64 v7, .int .i64 v8]), (48, .arr 3 0 0 (.ints v10)), (1100, .arr 29 0 0 (.rats v2))]⟩) rfl trivial rfl ?_
          rcases bif_some h with ⟨hd11, h⟩ | ⟨hd11, h⟩
          · obtain ⟨hg12, h⟩ := grd_some h
            refine Tri.run 2 [.g true] [.keep [4, 7, 9, 11, 12, 60] [4, 9, 48, 1100]] (K' := [.code [(6, 0), (1, 0), (0, 0), (1, 0), (0, 0)] 1, .blk 3, .code [(6, 0), (1, 0), (0, 0)] 2]) (σ' := ⟨[(4, .ptr 4 0), (7, .sl 1100 0), (9, .ptr 9 0), (11, .sl 48 0), (12, .int .i64 v9), (60, .bool (((v2.getD v9.toNat ⟨0, 0⟩).num) == v7 && ((v2.getD v9.toNat ⟨0, 0⟩).den) == v8))], [(4, .box [.int .i64 0, .int .i64 0]), (9, .box [.int .i64 v7, .int .i64 v8]), (48, .arr 3 0 0 (.ints v10)), (1100, .arr 29 0 0 (.rats v2))]⟩) rfl ⟨hg12, hd11, trivial⟩ rfl ?_
            rcases bif_some h with ⟨hd13, h⟩ | ⟨hd13, h⟩
            · obtain ⟨hg14, h⟩ := grd_some h
              refine Tri.run 3 [.g true] [.rever 48, .keep [4, 7, 9, 11, 12] [4, 9, 48, 1100]] (K' := []) (σ' := ⟨[(4, .ptr 4 0), (7, .sl 1100 0), (9, .ptr 9 0), (11, .sl 48 0), (12, .int .i64 (IntKind.i64.wrap (v9 + (1 : Int))))], [(4, .box [.int .i64 0, .int .i64 0]), (9, .box [.int .i64 v7, .int .i64 v8]), (48, .arr 3 0 0 (.ints (v10 ++ [IntKind.i64.wrap (v9 + (1 : Int))]))), (1100, .arr 29 0 0 (.rats v2))]⟩) rfl ⟨hg14, hd13, trivial⟩ rfl ?_
              have h := Option.some.inj h
              subst h
              exact Tri.nil ⟨rfl, rfl⟩
            · refine Tri.run 2 [.g false] [.keep [4, 7, 9, 11, 12] [4, 9, 48, 1100]] (K' := []) (σ' := ⟨[(4, .ptr 4 0), (7, .sl 1100 0), (9, .ptr 9 0), (11, .sl 48 0), (12, .int .i64 (IntKind.i64.wrap (v9 + (1 : Int))))], [(4, .box [.int .i64 0, .int .i64 0]), (9, .box [.int .i64 v7, .int .i64 v8]), (48, .arr 3 0 0 (.ints v10)), (1100, .arr 29 0 0 (.rats v2))]⟩) rfl ⟨hd13, trivial⟩ rfl ?_
              have h := Option.some.inj h
              subst h
              exact Tri.nil ⟨rfl, rfl⟩
          · refine Tri.run 1 [.g false] [.keep [4, 9, 11] [4, 9, 48]] (K' := [.code [(6, 0), (1, 0), (0, 0), (0, 0), (1, 1)] 0, .code [(6, 0), (1, 0), (0, 0)] 1]) (σ' := ⟨[(4, .ptr 4 0), (9, .ptr 9 0), (11, .sl 48 0)], [(4, .box [.int .i64 0, .int .i64 0]), (9, .box [.int .i64 v7, .int .i64 v8]), (48, .arr 3 0 0 (.ints v10))]⟩) rfl ⟨hd11, trivial⟩ rfl ?_
            have h := Option.some.inj h
            subst h
            exact Tri.out 2 rfl ⟨nofun, rfl, rfl⟩
        · intro e σ' hne hq
          obtain ⟨rfl, rfl⟩ := hq
          refine TriX.exit (K' := [.code [] 7]) rfl ?_
          refine Tri.run 1 [] [.swap 48 1000, .keep [4, 5, 6] [4, 1000]] (K' := [.code [] 8]) (σ' := ⟨[(4, .ptr 4 0), (5, .sl 1000 0), (6, .bool true)], [(4, .box [.int .i64 v7, .int .i64 v8]), (1000, .arr 3 0 0 (.ints v11))]⟩) rfl trivial rfl ?_
          have h := Option.some.inj h
          subst h
          exact Tri.ret rfl ⟨.inl rfl, rfl, rfl⟩
/-! spec.MulRat -/
noncomputable def E152_spec_MulRat : Env := ⟨Try.prog, tys, (Try.f152.body).getD .skip, 28, tysOk, mixedOk⟩
abbrev q_spec_MulRat (r : Int × Int × Bool) (σ' : ASt) : Prop := resAV E152_spec_MulRat.T σ' Try.f152.results.toList = some (.tuple [.agg [.int .i64 r.1, .int .i64 r.2.1], .bool r.2.2]) ∧ keepO σ'.ob (namesO []) = []
noncomputable def m_spec_MulRat (a0 : Int) (a1 : Int) (a2 : Int) (a3 : Int) : Option (Int × Int × Bool) :=
(m_spec_IsValidRat a0 a1).bind fun v1 =>
bif !v1 then
(some (0, 0, false))
else
((m_spec_IsValidRat a2 a3).bind fun v2 =>
bif !v2 then
(some (0, 0, false))
else
((m_spec_RatOf (IntKind.i64.wrap (a0 * a2)) (IntKind.i64.wrap (a1 * a3))).bind fun (v3, v4, v5) =>
some (v3, v4, v5)))
theorem w_spec_MulRat (a0 : Int) (a1 : Int) (a2 : Int) (a3 : Int) (r : Int × Int × Bool) (h : m_spec_MulRat a0 a1 a2 a3 = some r) : AM.Spec Try.prog 152 [.agg [.int .i64 a0, .int .i64 a1], .agg [.int .i64 a2, .int .i64 a3]] [] (.tuple [.agg [.int .i64 r.1, .int .i64 r.2.1], .bool r.2.2]) [] := by
  refine spec_of (E := E152_spec_MulRat) Try.func152 rfl rfl rfl rfl ?_
  refine Tri.run 1 [] [.keep [2, 3, 4] [2, 3, 4]] (K' := [.code [(1, 0), (0, 0)] 0, .code [(1, 0)] 1, .code [] 2]) (σ' := ⟨[(2, .ptr 2 0), (3, .ptr 3 0), (4, .ptr 4 0)], [(2, .box [.int .i64 a0, .int .i64 a1]), (3, .box [.int .i64 a2, .int .i64 a3]), (4, .box [.int .i64 0, .int .i64 0])]⟩) rfl trivial rfl ?_
  obtain ⟨v1, hk1, h⟩ := bind_some h
  rcases bif_some h with ⟨hd2, h⟩ | ⟨hd2, h⟩
  · refine Tri.run 1 [.r ⟨[], .bool v1, []⟩, .g true] [.keep [2, 3, 4, 13] [2, 3, 4]] (K' := [.code [(1, 0)] 1, .code [] 2]) (σ' := ⟨[(2, .ptr 2 0), (3, .ptr 3 0), (4, .ptr 4 0), (13, .bool true)], [(2, .box [.int .i64 a0, .int .i64 a1]), (3, .box [.int .i64 a2, .int .i64 a3]), (4, .box [.int .i64 0, .int .i64 0])]⟩) rfl ⟨hd2, (w_spec_IsValidRat a0 a1 v1 hk1), trivial⟩ rfl ?_
    refine Tri.run 2 [.g true] [.keep [4, 5] [4]] (K' := [.code [(1, 0), (1, 0)] 1, .code [] 2]) (σ' := ⟨[(4, .ptr 4 0), (5, .bool false)], [(4, .box [.int .i64 0, .int .i64 0])]⟩) rfl ⟨rfl, trivial⟩ rfl ?_
    have h := Option.some.inj h
    subst h
    exact Tri.ret rfl ⟨.inl rfl, rfl, rfl⟩
  · obtain ⟨v2, hk3, h⟩ := bind_some h
    refine Tri.run 1 [.r ⟨[], .bool v1, []⟩, .g false, .r ⟨[], .bool v2, []⟩] [.keep [2, 3, 4, 13] [2, 3, 4]] (K' := [.code [(1, 0)] 1, .code [] 2]) (σ' := ⟨[(2, .ptr 2 0), (3, .ptr 3 0), (4, .ptr 4 0), (13, .bool (!v2))], [(2, .box [.int .i64 a0, .int .i64 a1]), (3, .box [.int .i64 a2, .int .i64 a3]), (4, .box [.int .i64 0, .int .i64 0])]⟩) rfl ⟨(w_spec_IsValidRat a2 a3 v2 hk3), hd2, (w_spec_IsValidRat a0 a1 v1 hk1), trivial⟩ rfl ?_
    rcases bif_some h with ⟨hd4, h⟩ | ⟨hd4, h⟩
    · refine Tri.run 2 [.g true] [.keep [4, 5] [4]] (K' := [.code [(1, 0), (1, 0)] 1, .code [] 2]) (σ' := ⟨[(4, .ptr 4 0), (5, .bool false)], [(4, .box [.int .i64 0, .int .i64 0])]⟩) rfl ⟨hd4, trivial⟩ rfl ?_
      have h := Option.some.inj h
      subst h
      exact Tri.ret rfl ⟨.inl rfl, rfl, rfl⟩
    · obtain ⟨⟨v3, v4, v5⟩, hk5, h⟩ := bind_some h
      refine Tri.run 2 [.g false, .r ⟨[], .tuple [.agg [.int .i64 v3, .int .i64 v4], .bool v5], []⟩] [.keep [4, 5] [4]] (K' := [.code [] 3]) (σ' := ⟨[(4, .ptr 4 0), (5, .bool v5)], [(4, .box [.int .i64 v3, .int .i64 v4])]⟩) rfl ⟨(w_spec_RatOf (IntKind.i64.wrap (a0 * a2)) (IntKind.i64.wrap (a1 * a3)) (v3, v4, v5) hk5), hd4, trivial⟩ rfl ?_
      have h := Option.some.inj h
      subst h
      exact Tri.ret rfl ⟨.inl rfl, rfl, rfl⟩
/-! spec.DotRat -/
noncomputable def E124_spec_DotRat : Env := ⟨Try.prog, tys, (Try.f124.body).getD .skip, 52, tysOk, mixedOk⟩
abbrev q_spec_DotRat (r : Int × Int × Bool) (σ' : ASt) : Prop := resAV E124_spec_DotRat.T σ' Try.f124.results.toList = some (.tuple [.agg [.int .i64 r.1, .int .i64 r.2.1], .bool r.2.2]) ∧ keepO σ'.ob (namesO []) = []
noncomputable def l_spec_DotRat_0 (a0 : List Q) (a1 : List Q) : (Int × Int × Int) → Option ((Int × Int × Int) ⊕ ((Int × Int) ⊕ ((Int × Int × Bool))))
  | (v3, v4, v5) => (
bif decide (v3 < (a0.length : Int)) then
(grd ((0 : Int) ≤ v3 ∧ v3 < (a0.length : Int)) <|
grd ((0 : Int) ≤ v3 ∧ v3 < (a1.length : Int)) <|
(m_spec_MulRat ((a0.getD v3.toNat ⟨0, 0⟩).num) ((a0.getD v3.toNat ⟨0, 0⟩).den) ((a1.getD v3.toNat ⟨0, 0⟩).num) ((a1.getD v3.toNat ⟨0, 0⟩).den)).bind fun (v6, v7, v8) =>
(m_spec_AddRat v4 v5 v6 v7).bind fun (v9, v10, v11) =>
bif !v8 then
(some (.inr (.inr (0, 0, false))))
else
(bif !v11 then
(some (.inr (.inr (0, 0, false))))
else
(some (.inl (IntKind.i64.wrap (v3 + (1 : Int)), v9, v10)))))
else
(some (.inr (.inl (v4, v5)))))
noncomputable def m_spec_DotRat (a0 : List Q) (a1 : List Q) : Option (Int × Int × Bool) :=
bif (a0.length : Int) != (a1.length : Int) then
(some (0, 0, false))
else
((m_spec_l3Int (0 : Int)).bind fun (v1, v2) =>
(iter (l_spec_DotRat_0 a0 a1) ((0 : Int), v1, v2)).bind fun
| (.inl (v12, v13)) => (
some (v12, v13, true))
| (.inr r) => some r)
theorem w_spec_DotRat (a0 : List Q) (a1 : List Q) (r : Int × Int × Bool) (h : m_spec_DotRat a0 a1 = some r) : AM.Spec Try.prog 124 [.list (.rats a0), .list (.rats a1)] [] (.tuple [.agg [.int .i64 r.1, .int .i64 r.2.1], .bool r.2.2]) [] := by
  refine spec_of (E := E124_spec_DotRat) Try.func124 rfl rfl rfl rfl ?_
  refine Tri.run 2 [] [.keep [0, 1, 4, 16] [4]] (K' := [.code [(1, 0)] 1, .code [] 2]) (σ' := ⟨[(0, .list (.rats a0)), (1, .list (.rats a1)), (4, .ptr 4 0), (16, .bool ((a0.length : Int) != (a1.length : Int)))], [(4, .box [.int .i64 0, .int .i64 0])]⟩) rfl trivial rfl ?_
  rcases bif_some h with ⟨hd1, h⟩ | ⟨hd1, h⟩
  · refine Tri.run 2 [.g true] [.keep [4, 5] [4]] (K' := [.code [(1, 0), (1, 0)] 1, .code [] 2]) (σ' := ⟨[(4, .ptr 4 0), (5, .bool false)], [(4, .box [.int .i64 0, .int .i64 0])]⟩) rfl ⟨hd1, trivial⟩ rfl ?_
    have h := Option.some.inj h
    subst h
    exact Tri.ret rfl ⟨.inl rfl, rfl, rfl⟩
  · obtain ⟨⟨v1, v2⟩, hk2, h⟩ := bind_some h
    refine Tri.run 3 [.g false, .r ⟨[], .agg [.int .i64 v1, .int .i64 v2], []⟩] [.keep [0, 1, 4, 6, 7] [4, 6]] (K' := [.code [(3, 0), (1, 0)] 0, .blk 0, .code [] 4]) (σ' := ⟨[(0, .list (.rats a0)), (1, .list (.rats a1)), (4, .ptr 4 0), (6, .ptr 6 0), (7, .int .i64 (0 : Int))], [(4, .box [.int .i64 0, .int .i64 0]), (6, .box [.int .i64 v1, .int .i64 v2])]⟩) rfl ⟨(w_spec_l3Int (0 : Int) (v1, v2) hk2), hd1, trivial⟩ rfl ?_
    obtain ⟨x1, hk10, h⟩ := bind_some h
    refine Tri.loop (K1 := [.code [(3, 0), (1, 0), (0, 0)] 0]) (K2 := [.blk 0, .code [] 4]) (fun (v3, v4, v5) => ⟨[(0, .list (.rats a0)), (1, .list (.rats a1)), (4, .ptr 4 0), (6, .ptr 6 0), (7, .int .i64 v3)], [(4, .box [.int .i64 0, .int .i64 0]), (6, .box [.int .i64 v4, .int .i64 v5])]⟩) (fun x e σ' => match x with | (.inl (v12, v13)) => e = .exit 0 ∧ σ' = ⟨[(4, .ptr 4 0), (6, .ptr 6 0)], [(4, .box [.int .i64 0, .int .i64 0]), (6, .box [.int .i64 v12, .int .i64 v13])]⟩ | (.inr r) => e = .ret ∧ q_spec_DotRat r σ') hk10 rfl rfl ?_ ?_
    · intro s x hs
      clear h
      have h := hs
      clear hs
      obtain ⟨v3, v4, v5⟩ := s
      refine Tri.run 1 [] [.keep [0, 1, 4, 6, 7, 22] [4, 6]] (K' := [.code [(3, 0), (1, 0), (0, 0), (0, 0)] 1, .code [(3, 0), (1, 0), (0, 0)] 1]) (σ' := ⟨[(0, .list (.rats a0)), (1, .list (.rats a1)), (4, .ptr 4 0), (6, .ptr 6 0), (7, .int .i64 v3), (22, .bool (decide (v3 < (a0.length : Int))))], [(4, .box [.int .i64 0, .int .i64 0]), (6, .box [.int .i64 v4, .int .i64 v5])]⟩) rfl trivial rfl ?_
      rcases bif_some h with ⟨hd3, h⟩ | ⟨hd3, h⟩
      · obtain ⟨hg4, h⟩ := grd_some h
        obtain ⟨hg5, h⟩ := grd_some h
        obtain ⟨⟨v6, v7, v8⟩, hk6, h⟩ := bind_some h
        refine Tri.run 2 [.g true, .r ⟨[], .tuple [.agg [.int .i64 v6, .int .i64 v7], .bool v8], []⟩] [.keep [0, 1, 4, 6, 7, 8, 9] [4, 6, 8]] (K' := [.code [(3, 0), (1, 0), (0, 0), (1, 0), (0, 0), (1, 0)] 0, .code [(3, 0), (1, 0), (0, 0), (1, 0), (0, 0)] 2, .blk 1, .code [(3, 0), (1, 0), (0, 0)] 2]) (σ' := ⟨[(0, .list (.rats a0)), (1, .list (.rats a1)), (4, .ptr 4 0), (6, .ptr 6 0), (7, .int .i64 v3), (8, .ptr 8 0), (9, .bool v8)], [(4, .box [.int .i64 0, .int .i64 0]), (6, .box [.int .i64 v4, .int .i64 v5]), (8, .box [.int .i64 v6, .int .i64 v7])]⟩) rfl ⟨(w_spec_MulRat ((a0.getD v3.toNat ⟨0, 0⟩).num) ((a0.getD v3.toNat ⟨0, 0⟩).den) ((a1.getD v3.toNat ⟨0, 0⟩).num) ((a1.getD v3.toNat ⟨0, 0⟩).den) (v6, v7, v8) hk6), hg5, hg4, hd3, trivial⟩ rfl ?_
        obtain ⟨⟨v9, v10, v11⟩, hk7, h⟩ := bind_some h
        rcases bif_some h with ⟨hd8, h⟩ | ⟨hd8, h⟩
        · refine Tri.run 2 [.r ⟨[], .tuple [.agg [.int .i64 v9, .int .i64 v10], .bool v11], []⟩, .g true] [.keep [0, 1, 4, 6, 7, 10, 48] [4, 6, 10]] (K' := [.code [(3, 0), (1, 0), (0, 0), (1, 0), (0, 0), (2, 0)] 1, .code [(3, 0), (1, 0), (0, 0), (1, 0), (0, 0)] 3, .blk 1, .code [(3, 0), (1, 0), (0, 0)] 2]) (σ' := ⟨[(0, .list (.rats a0)), (1, .list (.rats a1)), (4, .ptr 4 0), (6, .ptr 6 0), (7, .int .i64 v3), (10, .ptr 10 0), (48, .bool true)], [(4, .box [.int .i64 0, .int .i64 0]), (6, .box [.int .i64 v4, .int .i64 v5]), (10, .box [.int .i64 v9, .int .i64 v10])]⟩) rfl ⟨hd8, (w_spec_AddRat v4 v5 v6 v7 (v9, v10, v11) hk7), trivial⟩ rfl ?_
          refine Tri.run 2 [.g true] [.keep [4, 5] [4]] (K' := [.code [(3, 0), (1, 0), (0, 0), (1, 0), (0, 0), (2, 0), (1, 0)] 1, .code [(3, 0), (1, 0), (0, 0), (1, 0), (0, 0)] 3, .blk 1, .code [(3, 0), (1, 0), (0, 0)] 2]) (σ' := ⟨[(4, .ptr 4 0), (5, .bool false)], [(4, .box [.int .i64 0, .int .i64 0])]⟩) rfl ⟨rfl, trivial⟩ rfl ?_
          have h := Option.some.inj h
          subst h
          exact Tri.ret rfl ⟨nofun, rfl, rfl, rfl⟩
        · refine Tri.run 2 [.r ⟨[], .tuple [.agg [.int .i64 v9, .int .i64 v10], .bool v11], []⟩, .g false] [.keep [0, 1, 4, 6, 7, 10, 48] [4, 6, 10]] (K' := [.code [(3, 0), (1, 0), (0, 0), (1, 0), (0, 0), (2, 0)] 1, .code [(3, 0), (1, 0), (0, 0), (1, 0), (0, 0)] 3, .blk 1, .code [(3, 0), (1, 0), (0, 0)] 2]) (σ' := ⟨[(0, .list (.rats a0)), (1, .list (.rats a1)), (4, .ptr 4 0), (6, .ptr 6 0), (7, .int .i64 v3), (10, .ptr 10 0), (48, .bool (!v11))], [(4, .box [.int .i64 0, .int .i64 0]), (6, .box [.int .i64 v4, .int .i64 v5]), (10, .box [.int .i64 v9, .int .i64 v10])]⟩) rfl ⟨hd8, (w_spec_AddRat v4 v5 v6 v7 (v9, v10, v11) hk7), trivial⟩ rfl ?_
          rcases bif_some h with ⟨hd9, h⟩ | ⟨hd9, h⟩
          · refine Tri.run 2 [.g true] [.keep [4, 5] [4]] (K' := [.code [(3, 0), (1, 0), (0, 0), (1, 0), (0, 0), (2, 0), (1, 0)] 1, .code [(3, 0), (1, 0), (0, 0), (1, 0), (0, 0)] 3, .blk 1, .code [(3, 0), (1, 0), (0, 0)] 2]) (σ' := ⟨[(4, .ptr 4 0), (5, .bool false)], [(4, .box [.int .i64 0, .int .i64 0])]⟩) rfl ⟨hd9, trivial⟩ rfl ?_
            have h := Option.some.inj h
            subst h
            exact Tri.ret rfl ⟨nofun, rfl, rfl, rfl⟩
          · refine Tri.run 3 [.g false] [.keep [0, 1, 4, 6, 7] [4, 6]] (K' := []) (σ' := ⟨[(0, .list (.rats a0)), (1, .list (.rats a1)), (4, .ptr 4 0), (6, .ptr 6 0), (7, .int .i64 (IntKind.i64.wrap (v3 + (1 : Int))))], [(4, .box [.int .i64 0, .int .i64 0]), (6, .box [.int .i64 v9, .int .i64 v10])]⟩) rfl ⟨hd9, trivial⟩ rfl ?_
            have h := Option.some.inj h
            subst h
            exact Tri.nil ⟨rfl, rfl⟩
      · refine Tri.run 1 [.g false] [.keep [4, 6] [4, 6]] (K' := [.code [(3, 0), (1, 0), (0, 0), (0, 0), (1, 1)] 0, .code [(3, 0), (1, 0), (0, 0)] 1]) (σ' := ⟨[(4, .ptr 4 0), (6, .ptr 6 0)], [(4, .box [.int .i64 0, .int .i64 0]), (6, .box [.int .i64 v4, .int .i64 v5])]⟩) rfl ⟨hd3, trivial⟩ rfl ?_
        have h := Option.some.inj h
        subst h
        exact Tri.out 0 rfl ⟨nofun, rfl, rfl⟩
    · intro e σ' hne hq
      rcases x1 with ⟨v12, v13⟩ | r
      · obtain ⟨rfl, rfl⟩ := hq
        refine TriX.exit (K' := [.code [] 4]) rfl ?_
        refine Tri.run 1 [] [.keep [4, 5] [4]] (K' := [.code [] 5]) (σ' := ⟨[(4, .ptr 4 0), (5, .bool true)], [(4, .box [.int .i64 v12, .int .i64 v13])]⟩) rfl trivial rfl ?_
        have h := Option.some.inj h
        subst h
        exact Tri.ret rfl ⟨.inl rfl, rfl, rfl⟩
      · obtain ⟨rfl, hq⟩ := hq
        have h := Option.some.inj h
        subst h
        exact TriX.ret ⟨.inl rfl, hq⟩
/-! spec.l5Small -/
noncomputable def E165_spec_l5Small : Env := ⟨Try.prog, tys, (Try.f165.body).getD .skip, 16, tysOk, mixedOk⟩
abbrev q_spec_l5Small (r : Bool) (σ' : ASt) : Prop := resAV E165_spec_l5Small.T σ' Try.f165.results.toList = some (.bool r) ∧ keepO σ'.ob (namesO []) = []
noncomputable def l_spec_l5Small_0 (a0 : List Int) (v1 : Int) : Option (Int ⊕ (Unit ⊕ Bool)) :=
bif decide (v1 < (a0.length : Int)) then
(grd ((0 : Int) ≤ v1 ∧ v1 < (a0.length : Int)) <|
(m_spec_l1In (a0.getD v1.toNat 0) (-5000 : Int) (5000 : Int)).bind fun v2 =>
bif !v2 then
(some (.inr (.inr false)))
else
(some (.inl (IntKind.i64.wrap (v1 + (1 : Int))))))
else
(some (.inr (.inl ())))
noncomputable def m_spec_l5Small (a0 : List Int) : Option Bool :=
(iter (l_spec_l5Small_0 a0) (0 : Int)).bind fun
| (.inl _) => (
some true)
| (.inr r) => some r
theorem w_spec_l5Small (a0 : List Int) (r : Bool) (h : m_spec_l5Small a0 = some r) : AM.Spec Try.prog 165 [.list (.ints a0)] [] (.bool r) [] := by
  refine spec_of (E := E165_spec_l5Small) Try.func165 rfl rfl rfl rfl ?_
  refine Tri.run 2 [] [.keep [0, 3] []] (K' := [.code [(1, 0), (1, 0)] 0, .blk 0, .code [] 2]) (σ' := ⟨[(0, .list (.ints a0)), (3, .int .i64 (0 : Int))], []⟩) rfl trivial rfl ?_
  obtain ⟨x1, hk5, h⟩ := bind_some h
  refine Tri.loop (K1 := [.code [(1, 0), (1, 0), (0, 0)] 0]) (K2 := [.blk 0, .code [] 2]) (fun v1 => ⟨[(0, .list (.ints a0)), (3, .int .i64 v1)], []⟩) (fun x e σ' => match x with | (.inl _) => e = .exit 0 ∧ σ' = ⟨[], []⟩ | (.inr r) => e = .ret ∧ q_spec_l5Small r σ') hk5 rfl rfl ?_ ?_
  · intro v1 x hs
    clear h
    have h := hs
    clear hs
    refine Tri.run 1 [] [.keep [0, 3, 7] []] (K' := [.code [(1, 0), (1, 0), (0, 0), (0, 0)] 1, .code [(1, 0), (1, 0), (0, 0)] 1]) (σ' := ⟨[(0, .list (.ints a0)), (3, .int .i64 v1), (7, .bool (decide (v1 < (a0.length : Int))))], []⟩) rfl trivial rfl ?_
    rcases bif_some h with ⟨hd1, h⟩ | ⟨hd1, h⟩
    · obtain ⟨hg2, h⟩ := grd_some h
      obtain ⟨v2, hk3, h⟩ := bind_some h
      refine Tri.run 2 [.g true, .r ⟨[], .bool v2, []⟩] [.keep [0, 3, 15] []] (K' := [.code [(1, 0), (1, 0), (0, 0), (1, 0), (0, 0)] 1, .blk 1, .code [(1, 0), (1, 0), (0, 0)] 2]) (σ' := ⟨[(0, .list (.ints a0)), (3, .int .i64 v1), (15, .bool (!v2))], []⟩) rfl ⟨(w_spec_l1In (a0.getD v1.toNat 0) (-5000 : Int) (5000 : Int) v2 hk3), hg2, hd1, trivial⟩ rfl ?_
      rcases bif_some h with ⟨hd4, h⟩ | ⟨hd4, h⟩
      · refine Tri.run 2 [.g true] [.keep [2] []] (K' := [.code [(1, 0), (1, 0), (0, 0), (1, 0), (0, 0), (1, 0)] 1, .blk 1, .code [(1, 0), (1, 0), (0, 0)] 2]) (σ' := ⟨[(2, .bool false)], []⟩) rfl ⟨hd4, trivial⟩ rfl ?_
        have h := Option.some.inj h
        subst h
        exact Tri.ret rfl ⟨nofun, rfl, rfl, rfl⟩
      · refine Tri.run 2 [.g false] [.keep [0, 3] []] (K' := []) (σ' := ⟨[(0, .list (.ints a0)), (3, .int .i64 (IntKind.i64.wrap (v1 + (1 : Int))))], []⟩) rfl ⟨hd4, trivial⟩ rfl ?_
        have h := Option.some.inj h
        subst h
        exact Tri.nil ⟨rfl, rfl⟩
    · refine Tri.run 1 [.g false] [.keep [] []] (K' := [.code [(1, 0), (1, 0), (0, 0), (0, 0), (1, 1)] 0, .code [(1, 0), (1, 0), (0, 0)] 1]) (σ' := ⟨[], []⟩) rfl ⟨hd1, trivial⟩ rfl ?_
      have h := Option.some.inj h
      subst h
      exact Tri.out 0 rfl ⟨nofun, rfl, rfl⟩
  · intro e σ' hne hq
    rcases x1 with _ | r
    · obtain ⟨rfl, rfl⟩ := hq
      refine TriX.exit (K' := [.code [] 2]) rfl ?_
      refine Tri.run 1 [] [.keep [2] []] (K' := [.code [] 3]) (σ' := ⟨[(2, .bool true)], []⟩) rfl trivial rfl ?_
      have h := Option.some.inj h
      subst h
      exact Tri.ret rfl ⟨.inl rfl, rfl, rfl⟩
    · obtain ⟨rfl, hq⟩ := hq
      have h := Option.some.inj h
      subst h
      exact TriX.ret ⟨.inl rfl, hq⟩
/-! spec.IsValidLP -/
noncomputable def E153_spec_IsValidLP : Env := ⟨Try.prog, tys, (Try.f153.body).getD .skip, 59, tysOk, mixedOk⟩
abbrev q_spec_IsValidLP (r : Bool) (σ' : ASt) : Prop := resAV E153_spec_IsValidLP.T σ' Try.f153.results.toList = some (.bool r) ∧ keepO σ'.ob (namesO []) = []
noncomputable def l_spec_IsValidLP_0 (a0 : List (List Int)) (a2 : List Q) (v1 : Int) : Option (Int ⊕ (Unit ⊕ Bool)) :=
bif decide (v1 < (a0.length : Int)) then
(grd ((0 : Int) ≤ v1 ∧ v1 < (a0.length : Int)) <|
bif ((a0.getD v1.toNat []).length : Int) != (a2.length : Int) then
(some (.inr (.inr false)))
else
(grd ((0 : Int) ≤ v1 ∧ v1 < (a0.length : Int)) <|
(m_spec_l5Small (a0.getD v1.toNat [])).bind fun v2 =>
bif !v2 then
(some (.inr (.inr false)))
else
(some (.inl (IntKind.i64.wrap (v1 + (1 : Int)))))))
else
(some (.inr (.inl ())))
noncomputable def m_spec_IsValidLP (a0 : List (List Int)) (a1 : List Int) (a2 : List Q) : Option Bool :=
(iter (l_spec_IsValidLP_0 a0 a2) (0 : Int)).bind fun
| (.inl _) => (
bif decide ((a2.length : Int) ≤ (70 : Int)) then
(bif decide ((a0.length : Int) ≤ (8 : Int)) then
(bif (a1.length : Int) == (a0.length : Int) then
((m_spec_l5Small a1).bind fun v3 =>
bif v3 then
((m_spec_AllValid a2).bind fun v4 =>
some v4)
else
(some false))
else
(some false))
else
(some false))
else
(some false))
| (.inr r) => some r
theorem w_spec_IsValidLP (a0 : List (List Int)) (a1 : List Int) (a2 : List Q) (r : Bool) (h : m_spec_IsValidLP a0 a1 a2 = some r) : AM.Spec Try.prog 153 [.agg [.list (.intss a0), .list (.ints a1), .list (.rats a2)]] [] (.bool r) [] := by
  refine spec_of (E := E153_spec_IsValidLP) Try.func153 rfl rfl rfl rfl ?_
  refine Tri.run 2 [] [.keep [1, 3] [1]] (K' := [.code [(1, 0), (1, 0)] 0, .blk 0, .code [] 2]) (σ' := ⟨[(1, .ptr 1 0), (3, .int .i64 (0 : Int))], [(1, .box [.list (.intss a0), .list (.ints a1), .list (.rats a2)])]⟩) rfl trivial rfl ?_
  obtain ⟨x1, hk7, h⟩ := bind_some h
  refine Tri.loop (K1 := [.code [(1, 0), (1, 0), (0, 0)] 0]) (K2 := [.blk 0, .code [] 2]) (fun v1 => ⟨[(1, .ptr 1 0), (3, .int .i64 v1)], [(1, .box [.list (.intss a0), .list (.ints a1), .list (.rats a2)])]⟩) (fun x e σ' => match x with | (.inl _) => e = .exit 0 ∧ σ' = ⟨[(1, .ptr 1 0)], [(1, .box [.list (.intss a0), .list (.ints a1), .list (.rats a2)])]⟩ | (.inr r) => e = .ret ∧ q_spec_IsValidLP r σ') hk7 rfl rfl ?_ ?_
  · intro v1 x hs
    clear h
    have h := hs
    clear hs
    refine Tri.run 1 [] [.keep [1, 3, 8] [1]] (K' := [.code [(1, 0), (1, 0), (0, 0), (0, 0)] 1, .code [(1, 0), (1, 0), (0, 0)] 1]) (σ' := ⟨[(1, .ptr 1 0), (3, .int .i64 v1), (8, .bool (decide (v1 < (a0.length : Int))))], [(1, .box [.list (.intss a0), .list (.ints a1), .list (.rats a2)])]⟩) rfl trivial rfl ?_
    rcases bif_some h with ⟨hd1, h⟩ | ⟨hd1, h⟩
    · obtain ⟨hg2, h⟩ := grd_some h
      rcases bif_some h with ⟨hd3, h⟩ | ⟨hd3, h⟩
      · refine Tri.run 2 [.g true, .g true] [.keep [1, 3, 29] [1]] (K' := [.code [(1, 0), (1, 0), (0, 0), (1, 0), (0, 0)] 1, .blk 1, .code [(1, 0), (1, 0), (0, 0)] 2]) (σ' := ⟨[(1, .ptr 1 0), (3, .int .i64 v1), (29, .bool true)], [(1, .box [.list (.intss a0), .list (.ints a1), .list (.rats a2)])]⟩) rfl ⟨hd3, hg2, hd1, trivial⟩ rfl ?_
        refine Tri.run 2 [.g true] [.keep [2] []] (K' := [.code [(1, 0), (1, 0), (0, 0), (1, 0), (0, 0), (1, 0)] 1, .blk 1, .code [(1, 0), (1, 0), (0, 0)] 2]) (σ' := ⟨[(2, .bool false)], []⟩) rfl ⟨rfl, trivial⟩ rfl ?_
        have h := Option.some.inj h
        subst h
        exact Tri.ret rfl ⟨nofun, rfl, rfl, rfl⟩
      · obtain ⟨hg4, h⟩ := grd_some h
        obtain ⟨v2, hk5, h⟩ := bind_some h
        refine Tri.run 2 [.g true, .g false, .r ⟨[], .bool v2, []⟩] [.keep [1, 3, 29] [1]] (K' := [.code [(1, 0), (1, 0), (0, 0), (1, 0), (0, 0)] 1, .blk 1, .code [(1, 0), (1, 0), (0, 0)] 2]) (σ' := ⟨[(1, .ptr 1 0), (3, .int .i64 v1), (29, .bool (!v2))], [(1, .box [.list (.intss a0), .list (.ints a1), .list (.rats a2)])]⟩) rfl ⟨(w_spec_l5Small (a0.getD v1.toNat []) v2 hk5), hg4, hd3, hg2, hd1, trivial⟩ rfl ?_
        rcases bif_some h with ⟨hd6, h⟩ | ⟨hd6, h⟩
        · refine Tri.run 2 [.g true] [.keep [2] []] (K' := [.code [(1, 0), (1, 0), (0, 0), (1, 0), (0, 0), (1, 0)] 1, .blk 1, .code [(1, 0), (1, 0), (0, 0)] 2]) (σ' := ⟨[(2, .bool false)], []⟩) rfl ⟨hd6, trivial⟩ rfl ?_
          have h := Option.some.inj h
          subst h
          exact Tri.ret rfl ⟨nofun, rfl, rfl, rfl⟩
        · refine Tri.run 2 [.g false] [.keep [1, 3] [1]] (K' := []) (σ' := ⟨[(1, .ptr 1 0), (3, .int .i64 (IntKind.i64.wrap (v1 + (1 : Int))))], [(1, .box [.list (.intss a0), .list (.ints a1), .list (.rats a2)])]⟩) rfl ⟨hd6, trivial⟩ rfl ?_
          have h := Option.some.inj h
          subst h
          exact Tri.nil ⟨rfl, rfl⟩
    · refine Tri.run 1 [.g false] [.keep [1] [1]] (K' := [.code [(1, 0), (1, 0), (0, 0), (0, 0), (1, 1)] 0, .code [(1, 0), (1, 0), (0, 0)] 1]) (σ' := ⟨[(1, .ptr 1 0)], [(1, .box [.list (.intss a0), .list (.ints a1), .list (.rats a2)])]⟩) rfl ⟨hd1, trivial⟩ rfl ?_
      have h := Option.some.inj h
      subst h
      exact Tri.out 0 rfl ⟨nofun, rfl, rfl⟩
  · intro e σ' hne hq
    rcases x1 with _ | r
    · obtain ⟨rfl, rfl⟩ := hq
      refine TriX.exit (K' := [.code [] 2]) rfl ?_
      rcases bif_some h with ⟨hd8, h⟩ | ⟨hd8, h⟩
      · rcases bif_some h with ⟨hd9, h⟩ | ⟨hd9, h⟩
        · rcases bif_some h with ⟨hd10, h⟩ | ⟨hd10, h⟩
          · obtain ⟨v3, hk11, h⟩ := bind_some h
            rcases bif_some h with ⟨hd12, h⟩ | ⟨hd12, h⟩
            · obtain ⟨v4, hk13, h⟩ := bind_some h
              refine Tri.run 1 [.g true, .g true, .g true, .r ⟨[], .bool v3, []⟩, .g true, .r ⟨[], .bool v4, []⟩] [.keep [2] []] (K' := [.code [] 3]) (σ' := ⟨[(2, .bool v4)], []⟩) rfl ⟨(w_spec_AllValid a2 v4 hk13), hd12, (w_spec_l5Small a1 v3 hk11), hd10, hd9, hd8, trivial⟩ rfl ?_
              have h := Option.some.inj h
              subst h
              exact Tri.ret rfl ⟨.inl rfl, rfl, rfl⟩
            · refine Tri.run 1 [.g true, .g true, .g true, .r ⟨[], .bool v3, []⟩, .g false] [.keep [2] []] (K' := [.code [] 3]) (σ' := ⟨[(2, .bool false)], []⟩) rfl ⟨hd12, (w_spec_l5Small a1 v3 hk11), hd10, hd9, hd8, trivial⟩ rfl ?_
              have h := Option.some.inj h
              subst h
              exact Tri.ret rfl ⟨.inl rfl, rfl, rfl⟩
          · refine Tri.run 1 [.g true, .g true, .g false, .g false] [.keep [2] []] (K' := [.code [] 3]) (σ' := ⟨[(2, .bool false)], []⟩) rfl ⟨rfl, hd10, hd9, hd8, trivial⟩ rfl ?_
            have h := Option.some.inj h
            subst h
            exact Tri.ret rfl ⟨.inl rfl, rfl, rfl⟩
        · refine Tri.run 1 [.g true, .g false, .g false, .g false] [.keep [2] []] (K' := [.code [] 3]) (σ' := ⟨[(2, .bool false)], []⟩) rfl ⟨rfl, rfl, hd9, hd8, trivial⟩ rfl ?_
          have h := Option.some.inj h
          subst h
          exact Tri.ret rfl ⟨.inl rfl, rfl, rfl⟩
      · refine Tri.run 1 [.g false, .g false, .g false, .g false] [.keep [2] []] (K' := [.code [] 3]) (σ' := ⟨[(2, .bool false)], []⟩) rfl ⟨rfl, rfl, rfl, hd8, trivial⟩ rfl ?_
        have h := Option.some.inj h
        subst h
        exact Tri.ret rfl ⟨.inl rfl, rfl, rfl⟩
    · obtain ⟨rfl, hq⟩ := hq
      have h := Option.some.inj h
      subst h
      exact TriX.ret ⟨.inl rfl, hq⟩
/-! spec.l5NotNegative -/
noncomputable def E147_spec_l5NotNegative : Env := ⟨Try.prog, tys, (Try.f147.body).getD .skip, 24, tysOk, mixedOk⟩
abbrev q_spec_l5NotNegative (r : Bool) (σ' : ASt) : Prop := resAV E147_spec_l5NotNegative.T σ' Try.f147.results.toList = some (.bool r) ∧ keepO σ'.ob (namesO []) = []
noncomputable def l_spec_l5NotNegative_0 (a0 : List Q) (v1 : Int) : Option (Int ⊕ (Unit ⊕ Bool)) :=
bif decide (v1 < (a0.length : Int)) then
(grd ((0 : Int) ≤ v1 ∧ v1 < (a0.length : Int)) <|
(m_spec_IsValidRat ((a0.getD v1.toNat ⟨0, 0⟩).num) ((a0.getD v1.toNat ⟨0, 0⟩).den)).bind fun v2 =>
bif !v2 then
(some (.inr (.inr false)))
else
(grd ((0 : Int) ≤ v1 ∧ v1 < (a0.length : Int)) <|
bif decide (((a0.getD v1.toNat ⟨0, 0⟩).num) < (0 : Int)) then
(some (.inr (.inr false)))
else
(some (.inl (IntKind.i64.wrap (v1 + (1 : Int)))))))
else
(some (.inr (.inl ())))
noncomputable def m_spec_l5NotNegative (a0 : List Q) : Option Bool :=
(iter (l_spec_l5NotNegative_0 a0) (0 : Int)).bind fun
| (.inl _) => (
some true)
| (.inr r) => some r
theorem w_spec_l5NotNegative (a0 : List Q) (r : Bool) (h : m_spec_l5NotNegative a0 = some r) : AM.Spec Try.prog 147 [.list (.rats a0)] [] (.bool r) [] := by
  refine spec_of (E := E147_spec_l5NotNegative) Try.func147 rfl rfl rfl rfl ?_
  refine Tri.run 2 [] [.keep [0, 3] []] (K' := [.code [(1, 0), (1, 0)] 0, .blk 0, .code [] 2]) (σ' := ⟨[(0, .list (.rats a0)), (3, .int .i64 (0 : Int))], []⟩) rfl trivial rfl ?_
  obtain ⟨x1, hk7, h⟩ := bind_some h
  refine Tri.loop (K1 := [.code [(1, 0), (1, 0), (0, 0)] 0]) (K2 := [.blk 0, .code [] 2]) (fun v1 => ⟨[(0, .list (.rats a0)), (3, .int .i64 v1)], []⟩) (fun x e σ' => match x with | (.inl _) => e = .exit 0 ∧ σ' = ⟨[], []⟩ | (.inr r) => e = .ret ∧ q_spec_l5NotNegative r σ') hk7 rfl rfl ?_ ?_
  · intro v1 x hs
    clear h
    have h := hs
    clear hs
    refine Tri.run 1 [] [.keep [0, 3, 7] []] (K' := [.code [(1, 0), (1, 0), (0, 0), (0, 0)] 1, .code [(1, 0), (1, 0), (0, 0)] 1]) (σ' := ⟨[(0, .list (.rats a0)), (3, .int .i64 v1), (7, .bool (decide (v1 < (a0.length : Int))))], []⟩) rfl trivial rfl ?_
    rcases bif_some h with ⟨hd1, h⟩ | ⟨hd1, h⟩
    · obtain ⟨hg2, h⟩ := grd_some h
      obtain ⟨v2, hk3, h⟩ := bind_some h
      rcases bif_some h with ⟨hd4, h⟩ | ⟨hd4, h⟩
      · refine Tri.run 2 [.g true, .r ⟨[], .bool v2, []⟩, .g true] [.keep [0, 3, 23] []] (K' := [.code [(1, 0), (1, 0), (0, 0), (1, 0), (0, 0)] 1, .blk 1, .code [(1, 0), (1, 0), (0, 0)] 2]) (σ' := ⟨[(0, .list (.rats a0)), (3, .int .i64 v1), (23, .bool true)], []⟩) rfl ⟨hd4, (w_spec_IsValidRat ((a0.getD v1.toNat ⟨0, 0⟩).num) ((a0.getD v1.toNat ⟨0, 0⟩).den) v2 hk3), hg2, hd1, trivial⟩ rfl ?_
        refine Tri.run 2 [.g true] [.keep [2] []] (K' := [.code [(1, 0), (1, 0), (0, 0), (1, 0), (0, 0), (1, 0)] 1, .blk 1, .code [(1, 0), (1, 0), (0, 0)] 2]) (σ' := ⟨[(2, .bool false)], []⟩) rfl ⟨rfl, trivial⟩ rfl ?_
        have h := Option.some.inj h
        subst h
        exact Tri.ret rfl ⟨nofun, rfl, rfl, rfl⟩
      · obtain ⟨hg5, h⟩ := grd_some h
        refine Tri.run 2 [.g true, .r ⟨[], .bool v2, []⟩, .g false] [.keep [0, 3, 23] []] (K' := [.code [(1, 0), (1, 0), (0, 0), (1, 0), (0, 0)] 1, .blk 1, .code [(1, 0), (1, 0), (0, 0)] 2]) (σ' := ⟨[(0, .list (.rats a0)), (3, .int .i64 v1), (23, .bool (decide (((a0.getD v1.toNat ⟨0, 0⟩).num) < (0 : Int))))], []⟩) rfl ⟨hg5, hd4, (w_spec_IsValidRat ((a0.getD v1.toNat ⟨0, 0⟩).num) ((a0.getD v1.toNat ⟨0, 0⟩).den) v2 hk3), hg2, hd1, trivial⟩ rfl ?_
        rcases bif_some h with ⟨hd6, h⟩ | ⟨hd6, h⟩
        · refine Tri.run 2 [.g true] [.keep [2] []] (K' := [.code [(1, 0), (1, 0), (0, 0), (1, 0), (0, 0), (1, 0)] 1, .blk 1, .code [(1, 0), (1, 0), (0, 0)] 2]) (σ' := ⟨[(2, .bool false)], []⟩) rfl ⟨hd6, trivial⟩ rfl ?_
          have h := Option.some.inj h
          subst h
          exact Tri.ret rfl ⟨nofun, rfl, rfl, rfl⟩
        · refine Tri.run 2 [.g false] [.keep [0, 3] []] (K' := []) (σ' := ⟨[(0, .list (.rats a0)), (3, .int .i64 (IntKind.i64.wrap (v1 + (1 : Int))))], []⟩) rfl ⟨hd6, trivial⟩ rfl ?_
          have h := Option.some.inj h
          subst h
          exact Tri.nil ⟨rfl, rfl⟩
    · refine Tri.run 1 [.g false] [.keep [] []] (K' := [.code [(1, 0), (1, 0), (0, 0), (0, 0), (1, 1)] 0, .code [(1, 0), (1, 0), (0, 0)] 1]) (σ' := ⟨[], []⟩) rfl ⟨hd1, trivial⟩ rfl ?_
      have h := Option.some.inj h
      subst h
      exact Tri.out 0 rfl ⟨nofun, rfl, rfl⟩
  · intro e σ' hne hq
    rcases x1 with _ | r
    · obtain ⟨rfl, rfl⟩ := hq
      refine TriX.exit (K' := [.code [] 2]) rfl ?_
      refine Tri.run 1 [] [.keep [2] []] (K' := [.code [] 3]) (σ' := ⟨[(2, .bool true)], []⟩) rfl trivial rfl ?_
      have h := Option.some.inj h
      subst h
      exact Tri.ret rfl ⟨.inl rfl, rfl, rfl⟩
    · obtain ⟨rfl, hq⟩ := hq
      have h := Option.some.inj h
      subst h
      exact TriX.ret ⟨.inl rfl, hq⟩
/-! spec.IntsToRats -/
noncomputable def E146_spec_IntsToRats : Env := ⟨Try.prog, tys, (Try.f146.body).getD .skip, 29, tysOk, mixedOk⟩
abbrev q_spec_IntsToRats (r : Bool × (List Q)) (σ' : ASt) : Prop := resAV E146_spec_IntsToRats.T σ' Try.f146.results.toList = some (.tuple [.sl 1000 0, .bool r.1]) ∧ keepO σ'.ob (namesO [(1000, .arr 29 0 0 (.rats r.2))]) = [(1000, .arr 29 0 0 (.rats r.2))]
noncomputable def l_spec_IntsToRats_0 (a0 : List Int) : (Int × (List Q)) → Option ((Int × (List Q)) ⊕ ((List Q) ⊕ ((Bool × (List Q)))))
  | (v1, v2) => (
bif decide (v1 < (a0.length : Int)) then
(grd ((0 : Int) ≤ v1 ∧ v1 < (a0.length : Int)) <|
(m_spec_l1In (a0.getD v1.toNat 0) (-1000000000 : Int) (1000000000 : Int)).bind fun v3 =>
bif !v3 then
(some (.inr (.inr (false, []))))
else
(grd ((0 : Int) ≤ v1 ∧ v1 < (a0.length : Int)) <|
(m_spec_l3Int (a0.getD v1.toNat 0)).bind fun (v4, v5) =>
grd (v2.length + ([⟨v4, v5⟩] : List Q).length ≤ room) <|
some (.inl (IntKind.i64.wrap (v1 + (1 : Int)), v2 ++ [⟨v4, v5⟩]))))
else
(some (.inr (.inl v2))))
noncomputable def m_spec_IntsToRats (a0 : List Int) : Option (Bool × (List Q)) :=
(iter (l_spec_IntsToRats_0 a0) ((0 : Int), [])).bind fun
| (.inl v6) => (
some (true, v6))
| (.inr r) => some r
theorem w_spec_IntsToRats (a0 : List Int) (r : Bool × (List Q)) (h : m_spec_IntsToRats a0 = some r) : AM.Spec Try.prog 146 [.list (.ints a0)] [] (.tuple [.sl 1000 0, .bool r.1]) [(1000, .arr 29 0 0 (.rats r.2))] := by
  refine spec_of (E := E146_spec_IntsToRats) Try.func146 rfl rfl rfl rfl ?_
  refine Tri.run 3 [] [.keep [0, 4, 5] [6]] (K' := [.code [(2, 0), (1, 0)] 0, .blk 0, .code [] 3]) (σ' := ⟨[(0, .list (.ints a0)), (4, .sl 6 0), (5, .int .i64 (0 : Int))], [(6, .arr 29 0 0 (.rats []))]⟩) rfl trivial rfl ?_
  obtain ⟨x1, hk8, h⟩ := bind_some h
  refine Tri.loop (K1 := [.code [(2, 0), (1, 0), (0, 0)] 0]) (K2 := [.blk 0, .code [] 3]) (fun (v1, v2) => ⟨[(0, .list (.ints a0)), (4, .sl 6 0), (5, .int .i64 v1)], [(6, .arr 29 0 0 (.rats v2))]⟩) (fun x e σ' => match x with | (.inl v6) => e = .exit 0 ∧ σ' = ⟨[(4, .sl 6 0)], [(6, .arr 29 0 0 (.rats v6))]⟩ | (.inr r) => e = .ret ∧ q_spec_IntsToRats r σ') hk8 rfl rfl ?_ ?_
  · intro s x hs
    clear h
    have h := hs
    clear hs
    obtain ⟨v1, v2⟩ := s
    refine Tri.run 1 [] [.keep [0, 4, 5, 10] [6]] (K' := [.code [(2, 0), (1, 0), (0, 0), (0, 0)] 1, .code [(2, 0), (1, 0), (0, 0)] 1]) (σ' := ⟨[(0, .list (.ints a0)), (4, .sl 6 0), (5, .int .i64 v1), (10, .bool (decide (v1 < (a0.length : Int))))], [(6, .arr 29 0 0 (.rats v2))]⟩) rfl trivial rfl ?_
    rcases bif_some h with ⟨hd1, h⟩ | ⟨hd1, h⟩
    · obtain ⟨hg2, h⟩ := grd_some h
      obtain ⟨v3, hk3, h⟩ := bind_some h
      refine Tri.run 2 [.g true, .r ⟨[], .bool v3, []⟩] [.keep [0, 4, 5, 18] [6]] (K' := [.code [(2, 0), (1, 0), (0, 0), (1, 0), (0, 0), (0, 0)] 1, .code [(2, 0), (1, 0), (0, 0), (1, 0), (0, 0)] 1, .blk 1, .code [(2, 0), (1, 0), (0, 0)] 2]) (σ' := ⟨[(0, .list (.ints a0)), (4, .sl 6 0), (5, .int .i64 v1), (18, .bool (!v3))], [(6, .arr 29 0 0 (.rats v2))]⟩) rfl ⟨(w_spec_l1In (a0.getD v1.toNat 0) (-1000000000 : Int) (1000000000 : Int) v3 hk3), hg2, hd1, trivial⟩ rfl ?_
      rcases bif_some h with ⟨hd4, h⟩ | ⟨hd4, h⟩
      · refine Tri.run 2 [.g true] [.swap 19 1000, .keep [2, 3] [1000]] (K' := [.code [(2, 0), (1, 0), (0, 0), (1, 0), (0, 0), (0, 0), (1, 0)] 1, .code [(2, 0), (1, 0), (0, 0), (1, 0), (0, 0)] 1, .blk 1, .code [(2, 0), (1, 0), (0, 0)] 2]) (σ' := ⟨[(2, .sl 1000 0), (3, .bool false)], [(1000, .arr 29 0 0 (.rats []))]⟩) rfl ⟨hd4, trivial⟩ rfl ?_
        have h := Option.some.inj h
        subst h
        exact Tri.ret rfl ⟨nofun, rfl, rfl, rfl⟩
      · obtain ⟨hg5, h⟩ := grd_some h
        obtain ⟨⟨v4, v5⟩, hk6, h⟩ := bind_some h
        obtain ⟨hg7, h⟩ := grd_some h
        refine Tri.run 3 [.g false, .r ⟨[], .agg [.int .i64 v4, .int .i64 v5], []⟩] [.rever 6, .keep [0, 4, 5] [6]] (K' := []) (σ' := ⟨[(0, .list (.ints a0)), (4, .sl 6 0), (5, .int .i64 (IntKind.i64.wrap (v1 + (1 : Int))))], [(6, .arr 29 0 0 (.rats (v2 ++ [⟨v4, v5⟩])))]⟩) rfl ⟨hg7, (w_spec_l3Int (a0.getD v1.toNat 0) (v4, v5) hk6), hg5, hd4, trivial⟩ rfl ?_
        have h := Option.some.inj h
        subst h
        exact Tri.nil ⟨rfl, rfl⟩
    · refine Tri.run 1 [.g false] [.keep [4] [6]] (K' := [.code [(2, 0), (1, 0), (0, 0), (0, 0), (1, 1)] 0, .code [(2, 0), (1, 0), (0, 0)] 1]) (σ' := ⟨[(4, .sl 6 0)], [(6, .arr 29 0 0 (.rats v2))]⟩) rfl ⟨hd1, trivial⟩ rfl ?_
      have h := Option.some.inj h
      subst h
      exact Tri.out 0 rfl ⟨nofun, rfl, rfl⟩
  · intro e σ' hne hq
    rcases x1 with v6 | r
    · obtain ⟨rfl, rfl⟩ := hq
      refine TriX.exit (K' := [.code [] 3]) rfl ?_
      refine Tri.run 1 [] [.swap 6 1000, .keep [2, 3] [1000]] (K' := [.code [] 4]) (σ' := ⟨[(2, .sl 1000 0), (3, .bool true)], [(1000, .arr 29 0 0 (.rats v6))]⟩) rfl trivial rfl ?_
      have h := Option.some.inj h
      subst h
      exact Tri.ret rfl ⟨.inl rfl, rfl, rfl⟩
    · obtain ⟨rfl, hq⟩ := hq
      have h := Option.some.inj h
      subst h
      exact TriX.ret ⟨.inl rfl, hq⟩
/-! spec.l5Dot -/
noncomputable def E119_spec_l5Dot : Env := ⟨Try.prog, tys, (Try.f119.body).getD .skip, 29, tysOk, mixedOk⟩
abbrev q_spec_l5Dot (r : Int × Int × Bool) (σ' : ASt) : Prop := resAV E119_spec_l5Dot.T σ' Try.f119.results.toList = some (.tuple [.agg [.int .i64 r.1, .int .i64 r.2.1], .bool r.2.2]) ∧ keepO σ'.ob (namesO []) = []
noncomputable def m_spec_l5Dot (a0 : List Int) (a1 : List Q) : Option (Int × Int × Bool) :=
(m_spec_IntsToRats a0).bind fun (v1, v2) =>
(m_spec_DotRat v2 a1).bind fun (v3, v4, v5) =>
bif !v1 then
(some (0, 0, false))
else
(bif !v5 then
(some (0, 0, false))
else
(some (v3, v4, true)))
theorem w_spec_l5Dot (a0 : List Int) (a1 : List Q) (r : Int × Int × Bool) (h : m_spec_l5Dot a0 a1 = some r) : AM.Spec Try.prog 119 [.list (.ints a0), .list (.rats a1)] [] (.tuple [.agg [.int .i64 r.1, .int .i64 r.2.1], .bool r.2.2]) [] := by
  refine spec_of (E := E119_spec_l5Dot) Try.func119 rfl rfl rfl rfl ?_
  refine Tri.run 1 [] [.keep [0, 1, 4] [4]] (K' := [.code [(1, 0)] 0, .code [] 2]) (σ' := ⟨[(0, .list (.ints a0)), (1, .list (.rats a1)), (4, .ptr 4 0)], [(4, .box [.int .i64 0, .int .i64 0])]⟩) rfl trivial rfl ?_
  obtain ⟨⟨v1, v2⟩, hk1, h⟩ := bind_some h
  obtain ⟨⟨v3, v4, v5⟩, hk2, h⟩ := bind_some h
  refine Tri.run 2 [.r ⟨[], .tuple [.sl 1100 0, .bool v1], [(1100, .arr 29 0 0 (.rats v2))]⟩, .r ⟨[], .tuple [.agg [.int .i64 v3, .int .i64 v4], .bool v5], []⟩] [.keep [4, 7, 8, 9] [4, 8]] (K' := [.code [(3, 0), (0, 0)] 0, .code [(3, 0)] 1, .code [] 4]) (σ' := ⟨[(4, .ptr 4 0), (7, .bool v1), (8, .ptr 8 0), (9, .bool v5)], [(4, .box [.int .i64 0, .int .i64 0]), (8, .box [.int .i64 v3, .int .i64 v4])]⟩) rfl ⟨(w_spec_DotRat v2 a1 (v3, v4, v5) hk2), ((w_spec_IntsToRats a0 (v1, v2) hk1).swap 1000 1100), trivial⟩ rfl ?_
  rcases bif_some h with ⟨hd3, h⟩ | ⟨hd3, h⟩
  · refine Tri.run 1 [.g true] [.keep [4, 8, 26] [4, 8]] (K' := [.code [(3, 0)] 1, .code [] 4]) (σ' := ⟨[(4, .ptr 4 0), (8, .ptr 8 0), (26, .bool true)], [(4, .box [.int .i64 0, .int .i64 0]), (8, .box [.int .i64 v3, .int .i64 v4])]⟩) rfl ⟨hd3, trivial⟩ rfl ?_
    refine Tri.run 2 [.g true] [.keep [4, 5] [4]] (K' := [.code [(3, 0), (1, 0)] 1, .code [] 4]) (σ' := ⟨[(4, .ptr 4 0), (5, .bool false)], [(4, .box [.int .i64 0, .int .i64 0])]⟩) rfl ⟨rfl, trivial⟩ rfl ?_
    have h := Option.some.inj h
    subst h
    exact Tri.ret rfl ⟨.inl rfl, rfl, rfl⟩
  · refine Tri.run 1 [.g false] [.keep [4, 8, 26] [4, 8]] (K' := [.code [(3, 0)] 1, .code [] 4]) (σ' := ⟨[(4, .ptr 4 0), (8, .ptr 8 0), (26, .bool (!v5))], [(4, .box [.int .i64 0, .int .i64 0]), (8, .box [.int .i64 v3, .int .i64 v4])]⟩) rfl ⟨hd3, trivial⟩ rfl ?_
    rcases bif_some h with ⟨hd4, h⟩ | ⟨hd4, h⟩
    · refine Tri.run 2 [.g true] [.keep [4, 5] [4]] (K' := [.code [(3, 0), (1, 0)] 1, .code [] 4]) (σ' := ⟨[(4, .ptr 4 0), (5, .bool false)], [(4, .box [.int .i64 0, .int .i64 0])]⟩) rfl ⟨hd4, trivial⟩ rfl ?_
      have h := Option.some.inj h
      subst h
      exact Tri.ret rfl ⟨.inl rfl, rfl, rfl⟩
    · refine Tri.run 2 [.g false] [.keep [4, 5] [4]] (K' := [.code [] 5]) (σ' := ⟨[(4, .ptr 4 0), (5, .bool true)], [(4, .box [.int .i64 v3, .int .i64 v4])]⟩) rfl ⟨hd4, trivial⟩ rfl ?_
      have h := Option.some.inj h
      subst h
      exact Tri.ret rfl ⟨.inl rfl, rfl, rfl⟩
/-! spec.l5Gives -/
noncomputable def E154_spec_l5Gives : Env := ⟨Try.prog, tys, (Try.f154.body).getD .skip, 38, tysOk, mixedOk⟩
abbrev q_spec_l5Gives (r : Bool) (σ' : ASt) : Prop := resAV E154_spec_l5Gives.T σ' Try.f154.results.toList = some (.bool r) ∧ keepO σ'.ob (namesO []) = []
noncomputable def l_spec_l5Gives_0 (a0 : List (List Int)) (a3 : List Q) (a4 : List Int) (v1 : Int) : Option (Int ⊕ (Unit ⊕ Bool)) :=
bif decide (v1 < (a0.length : Int)) then
(grd ((0 : Int) ≤ v1 ∧ v1 < (a0.length : Int)) <|
(m_spec_l5Dot (a0.getD v1.toNat []) a3).bind fun (v2, v3, v4) =>
bif !v4 then
(some (.inr (.inr false)))
else
(grd ((0 : Int) ≤ v1 ∧ v1 < (a4.length : Int)) <|
(m_spec_l3Int (a4.getD v1.toNat 0)).bind fun (v5, v6) =>
bif !(v2 == v5 && v3 == v6) then
(some (.inr (.inr false)))
else
(some (.inl (IntKind.i64.wrap (v1 + (1 : Int)))))))
else
(some (.inr (.inl ())))
noncomputable def m_spec_l5Gives (a0 : List (List Int)) (_a1 : List Int) (_a2 : List Q) (a3 : List Q) (a4 : List Int) : Option Bool :=
(iter (l_spec_l5Gives_0 a0 a3 a4) (0 : Int)).bind fun
| (.inl _) => (
some true)
| (.inr r) => some r
theorem w_spec_l5Gives (a0 : List (List Int)) (a1 : List Int) (a2 : List Q) (a3 : List Q) (a4 : List Int) (r : Bool) (h : m_spec_l5Gives a0 a1 a2 a3 a4 = some r) : AM.Spec Try.prog 154 [.agg [.list (.intss a0), .list (.ints a1), .list (.rats a2)], .list (.rats a3), .list (.ints a4)] [] (.bool r) [] := by
  refine spec_of (E := E154_spec_l5Gives) Try.func154 rfl rfl rfl rfl ?_
  refine Tri.run 2 [] [.keep [1, 2, 3, 7] [3]] (K' := [.code [(1, 0), (1, 0)] 0, .blk 0, .code [] 2]) (σ' := ⟨[(1, .list (.rats a3)), (2, .list (.ints a4)), (3, .ptr 3 0), (7, .int .i64 (0 : Int))], [(3, .box [.list (.intss a0), .list (.ints a1), .list (.rats a2)])]⟩) rfl trivial rfl ?_
  obtain ⟨x1, hk8, h⟩ := bind_some h
  refine Tri.loop (K1 := [.code [(1, 0), (1, 0), (0, 0)] 0]) (K2 := [.blk 0, .code [] 2]) (fun v1 => ⟨[(1, .list (.rats a3)), (2, .list (.ints a4)), (3, .ptr 3 0), (7, .int .i64 v1)], [(3, .box [.list (.intss a0), .list (.ints a1), .list (.rats a2)])]⟩) (fun x e σ' => match x with | (.inl _) => e = .exit 0 ∧ σ' = ⟨[], []⟩ | (.inr r) => e = .ret ∧ q_spec_l5Gives r σ') hk8 rfl rfl ?_ ?_
  · intro v1 x hs
    clear h
    have h := hs
    clear hs
    refine Tri.run 1 [] [.keep [1, 2, 3, 7, 14] [3]] (K' := [.code [(1, 0), (1, 0), (0, 0), (0, 0)] 1, .code [(1, 0), (1, 0), (0, 0)] 1]) (σ' := ⟨[(1, .list (.rats a3)), (2, .list (.ints a4)), (3, .ptr 3 0), (7, .int .i64 v1), (14, .bool (decide (v1 < (a0.length : Int))))], [(3, .box [.list (.intss a0), .list (.ints a1), .list (.rats a2)])]⟩) rfl trivial rfl ?_
    rcases bif_some h with ⟨hd1, h⟩ | ⟨hd1, h⟩
    · obtain ⟨hg2, h⟩ := grd_some h
      obtain ⟨⟨v2, v3, v4⟩, hk3, h⟩ := bind_some h
      refine Tri.run 2 [.g true, .r ⟨[], .tuple [.agg [.int .i64 v2, .int .i64 v3], .bool v4], []⟩] [.keep [1, 2, 3, 7, 8, 9] [3, 8]] (K' := [.code [(1, 0), (1, 0), (0, 0), (1, 0), (0, 0), (1, 0)] 0, .code [(1, 0), (1, 0), (0, 0), (1, 0), (0, 0)] 2, .blk 1, .code [(1, 0), (1, 0), (0, 0)] 2]) (σ' := ⟨[(1, .list (.rats a3)), (2, .list (.ints a4)), (3, .ptr 3 0), (7, .int .i64 v1), (8, .ptr 8 0), (9, .bool v4)], [(3, .box [.list (.intss a0), .list (.ints a1), .list (.rats a2)]), (8, .box [.int .i64 v2, .int .i64 v3])]⟩) rfl ⟨(w_spec_l5Dot (a0.getD v1.toNat []) a3 (v2, v3, v4) hk3), hg2, hd1, trivial⟩ rfl ?_
      rcases bif_some h with ⟨hd4, h⟩ | ⟨hd4, h⟩
      · refine Tri.run 1 [.g true] [.keep [1, 2, 3, 7, 37] [3]] (K' := [.code [(1, 0), (1, 0), (0, 0), (1, 0), (0, 0)] 2, .blk 1, .code [(1, 0), (1, 0), (0, 0)] 2]) (σ' := ⟨[(1, .list (.rats a3)), (2, .list (.ints a4)), (3, .ptr 3 0), (7, .int .i64 v1), (37, .bool true)], [(3, .box [.list (.intss a0), .list (.ints a1), .list (.rats a2)])]⟩) rfl ⟨hd4, trivial⟩ rfl ?_
        refine Tri.run 2 [.g true] [.keep [6] []] (K' := [.code [(1, 0), (1, 0), (0, 0), (1, 0), (0, 0), (2, 0)] 1, .blk 1, .code [(1, 0), (1, 0), (0, 0)] 2]) (σ' := ⟨[(6, .bool false)], []⟩) rfl ⟨rfl, trivial⟩ rfl ?_
        have h := Option.some.inj h
        subst h
        exact Tri.ret rfl ⟨nofun, rfl, rfl, rfl⟩
      · obtain ⟨hg5, h⟩ := grd_some h
        obtain ⟨⟨v5, v6⟩, hk6, h⟩ := bind_some h
        refine Tri.run 1 [.g false, .r ⟨[], .agg [.int .i64 v5, .int .i64 v6], []⟩] [.keep [1, 2, 3, 7, 37] [3]] (K' := [.code [(1, 0), (1, 0), (0, 0), (1, 0), (0, 0)] 2, .blk 1, .code [(1, 0), (1, 0), (0, 0)] 2]) (σ' := ⟨[(1, .list (.rats a3)), (2, .list (.ints a4)), (3, .ptr 3 0), (7, .int .i64 v1), (37, .bool (!(v2 == v5 && v3 == v6)))], [(3, .box [.list (.intss a0), .list (.ints a1), .list (.rats a2)])]⟩) rfl ⟨(w_spec_l3Int (a4.getD v1.toNat 0) (v5, v6) hk6), hg5, hd4, trivial⟩ rfl ?_
        rcases bif_some h with ⟨hd7, h⟩ | ⟨hd7, h⟩
        · refine Tri.run 2 [.g true] [.keep [6] []] (K' := [.code [(1, 0), (1, 0), (0, 0), (1, 0), (0, 0), (2, 0)] 1, .blk 1, .code [(1, 0), (1, 0), (0, 0)] 2]) (σ' := ⟨[(6, .bool false)], []⟩) rfl ⟨hd7, trivial⟩ rfl ?_
          have h := Option.some.inj h
          subst h
          exact Tri.ret rfl ⟨nofun, rfl, rfl, rfl⟩
        · refine Tri.run 2 [.g false] [.keep [1, 2, 3, 7] [3]] (K' := []) (σ' := ⟨[(1, .list (.rats a3)), (2, .list (.ints a4)), (3, .ptr 3 0), (7, .int .i64 (IntKind.i64.wrap (v1 + (1 : Int))))], [(3, .box [.list (.intss a0), .list (.ints a1), .list (.rats a2)])]⟩) rfl ⟨hd7, trivial⟩ rfl ?_
          have h := Option.some.inj h
          subst h
          exact Tri.nil ⟨rfl, rfl⟩
    · refine Tri.run 1 [.g false] [.keep [] []] (K' := [.code [(1, 0), (1, 0), (0, 0), (0, 0), (1, 1)] 0, .code [(1, 0), (1, 0), (0, 0)] 1]) (σ' := ⟨[], []⟩) rfl ⟨hd1, trivial⟩ rfl ?_
      have h := Option.some.inj h
      subst h
      exact Tri.out 0 rfl ⟨nofun, rfl, rfl⟩
  · intro e σ' hne hq
    rcases x1 with _ | r
    · obtain ⟨rfl, rfl⟩ := hq
      refine TriX.exit (K' := [.code [] 2]) rfl ?_
      refine Tri.run 1 [] [.keep [6] []] (K' := [.code [] 3]) (σ' := ⟨[(6, .bool true)], []⟩) rfl trivial rfl ?_
      have h := Option.some.inj h
      subst h
      exact Tri.ret rfl ⟨.inl rfl, rfl, rfl⟩
    · obtain ⟨rfl, hq⟩ := hq
      have h := Option.some.inj h
      subst h
      exact TriX.ret ⟨.inl rfl, hq⟩
/-! spec.IsFeasible -/
noncomputable def E125_spec_IsFeasible : Env := ⟨Try.prog, tys, (Try.f125.body).getD .skip, 26, tysOk, mixedOk⟩
abbrev q_spec_IsFeasible (r : Bool) (σ' : ASt) : Prop := resAV E125_spec_IsFeasible.T σ' Try.f125.results.toList = some (.bool r) ∧ keepO σ'.ob (namesO []) = []
noncomputable def m_spec_IsFeasible (a0 : List (List Int)) (a1 : List Int) (a2 : List Q) (a3 : List Q) : Option Bool :=
(m_spec_IsValidLP a0 a1 a2).bind fun v1 =>
bif v1 then
(bif (a3.length : Int) == (a2.length : Int) then
((m_spec_l5NotNegative a3).bind fun v2 =>
bif v2 then
((m_spec_l5Gives a0 a1 a2 a3 a1).bind fun v3 =>
some v3)
else
(some false))
else
(some false))
else
(some false)
theorem w_spec_IsFeasible (a0 : List (List Int)) (a1 : List Int) (a2 : List Q) (a3 : List Q) (r : Bool) (h : m_spec_IsFeasible a0 a1 a2 a3 = some r) : AM.Spec Try.prog 125 [.agg [.list (.intss a0), .list (.ints a1), .list (.rats a2)], .list (.rats a3)] [] (.bool r) [] := by
  refine spec_of (E := E125_spec_IsFeasible) Try.func125 rfl rfl rfl rfl ?_
  refine Tri.run 1 [] [.keep [1, 2] [2]] (K' := [.code [(1, 0)] 0, .code [] 2]) (σ' := ⟨[(1, .list (.rats a3)), (2, .ptr 2 0)], [(2, .box [.list (.intss a0), .list (.ints a1), .list (.rats a2)])]⟩) rfl trivial rfl ?_
  obtain ⟨v1, hk1, h⟩ := bind_some h
  rcases bif_some h with ⟨hd2, h⟩ | ⟨hd2, h⟩
  · rcases bif_some h with ⟨hd3, h⟩ | ⟨hd3, h⟩
    · obtain ⟨v2, hk4, h⟩ := bind_some h
      rcases bif_some h with ⟨hd5, h⟩ | ⟨hd5, h⟩
      · obtain ⟨v3, hk6, h⟩ := bind_some h
        refine Tri.run 1 [.r ⟨[], .bool v1, []⟩, .g true, .g true, .r ⟨[], .bool v2, []⟩, .g true, .r ⟨[], .bool v3, []⟩] [.keep [4] []] (K' := [.code [] 2]) (σ' := ⟨[(4, .bool v3)], []⟩) rfl ⟨(w_spec_l5Gives a0 a1 a2 a3 a1 v3 hk6), hd5, (w_spec_l5NotNegative a3 v2 hk4), hd3, hd2, (w_spec_IsValidLP a0 a1 a2 v1 hk1), trivial⟩ rfl ?_
        have h := Option.some.inj h
        subst h
        exact Tri.ret rfl ⟨.inl rfl, rfl, rfl⟩
      · refine Tri.run 1 [.r ⟨[], .bool v1, []⟩, .g true, .g true, .r ⟨[], .bool v2, []⟩, .g false] [.keep [4] []] (K' := [.code [] 2]) (σ' := ⟨[(4, .bool false)], []⟩) rfl ⟨hd5, (w_spec_l5NotNegative a3 v2 hk4), hd3, hd2, (w_spec_IsValidLP a0 a1 a2 v1 hk1), trivial⟩ rfl ?_
        have h := Option.some.inj h
        subst h
        exact Tri.ret rfl ⟨.inl rfl, rfl, rfl⟩
    · refine Tri.run 1 [.r ⟨[], .bool v1, []⟩, .g true, .g false, .g false] [.keep [4] []] (K' := [.code [] 2]) (σ' := ⟨[(4, .bool false)], []⟩) rfl ⟨rfl, hd3, hd2, (w_spec_IsValidLP a0 a1 a2 v1 hk1), trivial⟩ rfl ?_
      have h := Option.some.inj h
      subst h
      exact Tri.ret rfl ⟨.inl rfl, rfl, rfl⟩
  · refine Tri.run 1 [.r ⟨[], .bool v1, []⟩, .g false, .g false, .g false] [.keep [4] []] (K' := [.code [] 2]) (σ' := ⟨[(4, .bool false)], []⟩) rfl ⟨rfl, rfl, hd2, (w_spec_IsValidLP a0 a1 a2 v1 hk1), trivial⟩ rfl ?_
    have h := Option.some.inj h
    subst h
    exact Tri.ret rfl ⟨.inl rfl, rfl, rfl⟩
/-! spec.l7Negated -/
noncomputable def E126_spec_l7Negated : Env := ⟨Try.prog, tys, (Try.f126.body).getD .skip, 9, tysOk, mixedOk⟩
abbrev q_spec_l7Negated (r : Int × Int) (σ' : ASt) : Prop := resAV E126_spec_l7Negated.T σ' Try.f126.results.toList = some (.agg [.int .i64 r.1, .int .i64 r.2]) ∧ keepO σ'.ob (namesO []) = []
noncomputable def m_spec_l7Negated (a0 : Int) (a1 : Int) : Option (Int × Int) :=
some (IntKind.i64.wrap (0 - a0), a1)
theorem w_spec_l7Negated (a0 : Int) (a1 : Int) (r : Int × Int) (h : m_spec_l7Negated a0 a1 = some r) : AM.Spec Try.prog 126 [.agg [.int .i64 a0, .int .i64 a1]] [] (.agg [.int .i64 r.1, .int .i64 r.2]) [] := by
  refine spec_of (E := E126_spec_l7Negated) Try.func126 rfl rfl rfl rfl ?_
  refine Tri.run 2 [] [.keep [2] [2]] (K' := [.code [] 2]) (σ' := ⟨[(2, .ptr 2 0)], [(2, .box [.int .i64 (IntKind.i64.wrap (0 - a0)), .int .i64 a1])]⟩) rfl trivial rfl ?_
  have h := Option.some.inj h
  subst h
  exact Tri.ret rfl ⟨.inl rfl, rfl, rfl⟩
/-! spec.CheckLeastCore -/
noncomputable def E58_spec_CheckLeastCore : Env := ⟨Try.prog, tys, (Try.f58.body).getD .skip, 63, tysOk, mixedOk⟩
abbrev q_spec_CheckLeastCore (r : Bool) (σ' : ASt) : Prop := resAV E58_spec_CheckLeastCore.T σ' Try.f58.results.toList = some (.bool r) ∧ keepO σ'.ob (namesO []) = []
noncomputable def m_spec_CheckLeastCore (a0 : Int) (a1 : List Int) (a2 : Bool) (a3 : Int) (a4 : Int) (a5 : List Q) (a6 : List Q) : Option Bool :=
(m_spec_LeastLP a0 a1).bind fun (v1, v2, v3, v4) =>
(m_spec_WorstExcess a0 a1 a5).bind fun (v5, v6, v7, _) =>
(m_spec_DotRat v4 a6).bind fun (v9, v10, v11) =>
bif v1 then
(bif a2 then
(bif v7 then
(bif v5 == a3 && v6 == a4 then
((m_spec_IsFeasible v2 v3 v4 a6).bind fun v12 =>
bif v12 then
(bif v11 then
((m_spec_l7Negated a3 a4).bind fun (v13, v14) =>
some (v9 == v13 && v10 == v14))
else
(some false))
else
(some false))
else
(some false))
else
(some false))
else
(some false))
else
(some false)
theorem w_spec_CheckLeastCore (a0 : Int) (a1 : List Int) (a2 : Bool) (a3 : Int) (a4 : Int) (a5 : List Q) (a6 : List Q) (r : Bool) (h : m_spec_CheckLeastCore a0 a1 a2 a3 a4 a5 a6 = some r) : AM.Spec Try.prog 58 [.agg [.int .i64 a0, .list (.ints a1)], .agg [.bool a2, .int .i64 a3, .int .i64 a4, .list (.rats a5), .list (.rats a6)]] [] (.bool r) [] := by
  refine spec_of (E := E58_spec_CheckLeastCore) Try.func58 rfl rfl rfl rfl ?_
  refine Tri.run 1 [] [.keep [2, 3] [2, 3]] (K' := [.code [(1, 0)] 0, .code [] 2]) (σ' := ⟨[(2, .ptr 2 0), (3, .ptr 3 0)], [(2, .box [.int .i64 a0, .list (.ints a1)]), (3, .box [.bool a2, .int .i64 a3, .int .i64 a4, .list (.rats a5), .list (.rats a6)])]⟩) rfl trivial rfl ?_
  obtain ⟨⟨v1, v2, v3, v4⟩, hk1, h⟩ := bind_some h
  obtain ⟨⟨v5, v6, v7, v8⟩, hk2, h⟩ := bind_some h
  refine Tri.run 2 [.r ⟨[], .tuple [.agg [.sl 1100 0, .sl 1101 0, .sl 1102 0], .bool v1], [(1100, .arr 22 0 0 (.intss v2)), (1101, .arr 3 0 0 (.ints v3)), (1102, .arr 29 0 0 (.rats v4))]⟩, .r ⟨[], .tuple [.agg [.int .i64 v5, .int .i64 v6], .sl 1103 0, .bool v7], [(1103, .arr 3 0 0 (.ints v8))]⟩] [.keep [3, 5, 6, 7, 9] [3, 5, 7, 1100, 1101, 1102]] (K' := [.code [(3, 0)] 0, .code [] 4]) (σ' := ⟨[(3, .ptr 3 0), (5, .ptr 5 0), (6, .bool v1), (7, .ptr 7 0), (9, .bool v7)], [(3, .box [.bool a2, .int .i64 a3, .int .i64 a4, .list (.rats a5), .list (.rats a6)]), (5, .box [.sl 1100 0, .sl 1101 0, .sl 1102 0]), (7, .box [.int .i64 v5, .int .i64 v6]), (1100, .arr 22 0 0 (.intss v2)), (1101, .arr 3 0 0 (.ints v3)), (1102, .arr 29 0 0 (.rats v4))]⟩) rfl ⟨((w_spec_WorstExcess a0 a1 a5 (v5, v6, v7, v8) hk2).swap 1000 1103), ((((w_spec_LeastLP a0 a1 (v1, v2, v3, v4) hk1).swap 1000 1100).swap 1001 1101).swap 1002 1102), trivial⟩ rfl ?_
  obtain ⟨⟨v9, v10, v11⟩, hk3, h⟩ := bind_some h
  rcases bif_some h with ⟨hd4, h⟩ | ⟨hd4, h⟩
  · rcases bif_some h with ⟨hd5, h⟩ | ⟨hd5, h⟩
    · rcases bif_some h with ⟨hd6, h⟩ | ⟨hd6, h⟩
      · rcases bif_some h with ⟨hd7, h⟩ | ⟨hd7, h⟩
        · obtain ⟨v12, hk8, h⟩ := bind_some h
          rcases bif_some h with ⟨hd9, h⟩ | ⟨hd9, h⟩
          · rcases bif_some h with ⟨hd10, h⟩ | ⟨hd10, h⟩
            · obtain ⟨⟨v13, v14⟩, hk11, h⟩ := bind_some h
              refine Tri.run 2 [.r ⟨[], .tuple [.agg [.int .i64 v9, .int .i64 v10], .bool v11], []⟩, .g true, .g true, .g true, .g true, .r ⟨[], .bool v12, []⟩, .g true, .g true, .r ⟨[], .agg [.int .i64 v13, .int .i64 v14], []⟩] [.keep [4] []] (K' := [.code [] 5]) (σ' := ⟨[(4, .bool (v9 == v13 && v10 == v14))], []⟩) rfl ⟨(w_spec_l7Negated a3 a4 (v13, v14) hk11), hd10, hd9, (w_spec_IsFeasible v2 v3 v4 a6 v12 hk8), hd7, hd6, hd5, hd4, (w_spec_DotRat v4 a6 (v9, v10, v11) hk3), trivial⟩ rfl ?_
              have h := Option.some.inj h
              subst h
              exact Tri.ret rfl ⟨.inl rfl, rfl, rfl⟩
            · refine Tri.run 2 [.r ⟨[], .tuple [.agg [.int .i64 v9, .int .i64 v10], .bool v11], []⟩, .g true, .g true, .g true, .g true, .r ⟨[], .bool v12, []⟩, .g true, .g false] [.keep [4] []] (K' := [.code [] 5]) (σ' := ⟨[(4, .bool false)], []⟩) rfl ⟨hd10, hd9, (w_spec_IsFeasible v2 v3 v4 a6 v12 hk8), hd7, hd6, hd5, hd4, (w_spec_DotRat v4 a6 (v9, v10, v11) hk3), trivial⟩ rfl ?_
              have h := Option.some.inj h
              subst h
              exact Tri.ret rfl ⟨.inl rfl, rfl, rfl⟩
          · refine Tri.run 2 [.r ⟨[], .tuple [.agg [.int .i64 v9, .int .i64 v10], .bool v11], []⟩, .g true, .g true, .g true, .g true, .r ⟨[], .bool v12, []⟩, .g false, .g false] [.keep [4] []] (K' := [.code [] 5]) (σ' := ⟨[(4, .bool false)], []⟩) rfl ⟨rfl, hd9, (w_spec_IsFeasible v2 v3 v4 a6 v12 hk8), hd7, hd6, hd5, hd4, (w_spec_DotRat v4 a6 (v9, v10, v11) hk3), trivial⟩ rfl ?_
            have h := Option.some.inj h
            subst h
            exact Tri.ret rfl ⟨.inl rfl, rfl, rfl⟩
        · refine Tri.run 2 [.r ⟨[], .tuple [.agg [.int .i64 v9, .int .i64 v10], .bool v11], []⟩, .g true, .g true, .g true, .g false, .g false, .g false] [.keep [4] []] (K' := [.code [] 5]) (σ' := ⟨[(4, .bool false)], []⟩) rfl ⟨rfl, rfl, hd7, hd6, hd5, hd4, (w_spec_DotRat v4 a6 (v9, v10, v11) hk3), trivial⟩ rfl ?_
          have h := Option.some.inj h
          subst h
          exact Tri.ret rfl ⟨.inl rfl, rfl, rfl⟩
      · refine Tri.run 2 [.r ⟨[], .tuple [.agg [.int .i64 v9, .int .i64 v10], .bool v11], []⟩, .g true, .g true, .g false, .g false, .g false, .g false] [.keep [4] []] (K' := [.code [] 5]) (σ' := ⟨[(4, .bool false)], []⟩) rfl ⟨rfl, rfl, rfl, hd6, hd5, hd4, (w_spec_DotRat v4 a6 (v9, v10, v11) hk3), trivial⟩ rfl ?_
        have h := Option.some.inj h
        subst h
        exact Tri.ret rfl ⟨.inl rfl, rfl, rfl⟩
    · refine Tri.run 2 [.r ⟨[], .tuple [.agg [.int .i64 v9, .int .i64 v10], .bool v11], []⟩, .g true, .g false, .g false, .g false, .g false, .g false] [.keep [4] []] (K' := [.code [] 5]) (σ' := ⟨[(4, .bool false)], []⟩) rfl ⟨rfl, rfl, rfl, rfl, hd5, hd4, (w_spec_DotRat v4 a6 (v9, v10, v11) hk3), trivial⟩ rfl ?_
      have h := Option.some.inj h
      subst h
      exact Tri.ret rfl ⟨.inl rfl, rfl, rfl⟩
  · refine Tri.run 2 [.r ⟨[], .tuple [.agg [.int .i64 v9, .int .i64 v10], .bool v11], []⟩, .g false, .g false, .g false, .g false, .g false, .g false] [.keep [4] []] (K' := [.code [] 5]) (σ' := ⟨[(4, .bool false)], []⟩) rfl ⟨rfl, rfl, rfl, rfl, rfl, hd4, (w_spec_DotRat v4 a6 (v9, v10, v11) hk3), trivial⟩ rfl ?_
    have h := Option.some.inj h
    subst h
    exact Tri.ret rfl ⟨.inl rfl, rfl, rfl⟩
/-! impl.within -/
noncomputable def E73_impl_within : Env := ⟨Try.prog, tys, (Try.f73.body).getD .skip, 15, tysOk, mixedOk⟩
abbrev q_impl_within (r : Bool) (σ' : ASt) : Prop := resAV E73_impl_within.T σ' Try.f73.results.toList = some (.bool r) ∧ keepO σ'.ob (namesO []) = []
noncomputable def m_impl_within (a0 : Int) (a1 : Int) (a2 : Int) : Option Bool :=
bif decide (a0 ≥ a1) then
(some (decide (a0 ≤ a2)))
else
(some false)
theorem w_impl_within (a0 : Int) (a1 : Int) (a2 : Int) (r : Bool) (h : m_impl_within a0 a1 a2 = some r) : AM.Spec Try.prog 73 [.int .i64 a0, .int .i64 a1, .int .i64 a2] [] (.bool r) [] := by
  refine spec_of (E := E73_impl_within) Try.func73 rfl rfl rfl rfl ?_
  refine Tri.run 1 [] [.keep [0, 1, 2] []] (K' := [.code [(1, 0)] 0, .code [] 2]) (σ' := ⟨[(0, .int .i64 a0), (1, .int .i64 a1), (2, .int .i64 a2)], []⟩) rfl trivial rfl ?_
  rcases bif_some h with ⟨hd1, h⟩ | ⟨hd1, h⟩
  · refine Tri.run 1 [.g true] [.keep [6] []] (K' := [.code [] 2]) (σ' := ⟨[(6, .bool (decide (a0 ≤ a2)))], []⟩) rfl ⟨hd1, trivial⟩ rfl ?_
    have h := Option.some.inj h
    subst h
    exact Tri.ret rfl ⟨.inl rfl, rfl, rfl⟩
  · refine Tri.run 1 [.g false] [.keep [6] []] (K' := [.code [] 2]) (σ' := ⟨[(6, .bool false)], []⟩) rfl ⟨hd1, trivial⟩ rfl ?_
    have h := Option.some.inj h
    subst h
    exact Tri.ret rfl ⟨.inl rfl, rfl, rfl⟩
/-! impl.IsValidGame$1 -/
noncomputable def E134_impl_IsValidGame_1 : Env := ⟨Try.prog, tys, (Try.f134.body).getD .skip, 6, tysOk, mixedOk⟩
abbrev q_impl_IsValidGame_1 (r : Bool) (σ' : ASt) : Prop := resAV E134_impl_IsValidGame_1.T σ' Try.f134.results.toList = some (.bool r) ∧ keepO σ'.ob (namesO []) = []
noncomputable def m_impl_IsValidGame_1 (a0 : Int) : Option Bool :=
(m_impl_within a0 (-500 : Int) (500 : Int)).bind fun v1 =>
some (!v1)
theorem w_impl_IsValidGame_1 (a0 : Int) (r : Bool) (h : m_impl_IsValidGame_1 a0 = some r) : AM.Spec Try.prog 134 [.int .i64 a0] [] (.bool r) [] := by
  refine spec_of (E := E134_impl_IsValidGame_1) Try.func134 rfl rfl rfl rfl ?_
  refine Tri.run 1 [] [.keep [0] []] (K' := [.code [(1, 0)] 0, .code [] 2]) (σ' := ⟨[(0, .int .i64 a0)], []⟩) rfl trivial rfl ?_
  obtain ⟨v1, hk1, h⟩ := bind_some h
  refine Tri.run 1 [.r ⟨[], .bool v1, []⟩] [.keep [2] []] (K' := [.code [] 2]) (σ' := ⟨[(2, .bool (!v1))], []⟩) rfl ⟨(w_impl_within a0 (-500 : Int) (500 : Int) v1 hk1), trivial⟩ rfl ?_
  have h := Option.some.inj h
  subst h
  exact Tri.ret rfl ⟨.inl rfl, rfl, rfl⟩
/-! slices.IndexFunc(()int,int) -/
noncomputable def E159_slices_IndexFunc_int_int : Env := ⟨Try.prog, tys, (Try.f159.body).getD .skip, 19, tysOk, mixedOk⟩
abbrev q_slices_IndexFunc_int_int_impl_IsValidGame_1 (r : Int) (σ' : ASt) : Prop := resAV E159_slices_IndexFunc_int_int.T σ' Try.f159.results.toList = some (.int .i64 r) ∧ keepO σ'.ob (namesO []) = []
noncomputable def l_slices_IndexFunc_int_int_impl_IsValidGame_1_0 (a0 : List Int) (v1 : Int) : Option (Int ⊕ (Unit ⊕ Int)) :=
bif decide (v1 < (a0.length : Int)) then
(grd ((0 : Int) ≤ v1 ∧ v1 < (a0.length : Int)) <|
(m_impl_IsValidGame_1 (a0.getD v1.toNat 0)).bind fun v2 =>
bif v2 then
(some (.inr (.inr v1)))
else
(some (.inl (IntKind.i64.wrap (v1 + (1 : Int))))))
else
(some (.inr (.inl ())))
noncomputable def m_slices_IndexFunc_int_int_impl_IsValidGame_1 (a0 : List Int) : Option Int :=
(iter (l_slices_IndexFunc_int_int_impl_IsValidGame_1_0 a0) (0 : Int)).bind fun
| (.inl _) => (
some (-1 : Int))
| (.inr r) => some r
theorem w_slices_IndexFunc_int_int_impl_IsValidGame_1 (a0 : List Int) (r : Int) (h : m_slices_IndexFunc_int_int_impl_IsValidGame_1 a0 = some r) : AM.Spec Try.prog 159 [.list (.ints a0), .func 134 [] []] [] (.int .i64 r) [] := by
  refine spec_of (E := E159_slices_IndexFunc_int_int) Try.func159 rfl rfl rfl rfl ?_
  refine Tri.run 2 [] [.keep [0, 1, 7, 8] []] (K' := [.code [(1, 0), (1, 0)] 0, .blk 0, .code [] 2]) (σ' := ⟨[(0, .list (.ints a0)), (1, .func 134 [] []), (7, .int .i64 (a0.length : Int)), (8, .int .i64 (0 : Int))], []⟩) rfl trivial rfl ?_
  obtain ⟨x1, hk5, h⟩ := bind_some h
  refine Tri.loop (K1 := [.code [(1, 0), (1, 0), (0, 0)] 0]) (K2 := [.blk 0, .code [] 2]) (fun v1 => ⟨[(0, .list (.ints a0)), (1, .func 134 [] []), (7, .int .i64 (a0.length : Int)), (8, .int .i64 v1)], []⟩) (fun x e σ' => match x with | (.inl _) => e = .exit 0 ∧ σ' = ⟨[], []⟩ | (.inr r) => e = .ret ∧ q_slices_IndexFunc_int_int_impl_IsValidGame_1 r σ') hk5 rfl rfl ?_ ?_
  · intro v1 x hs
    clear h
    have h := hs
    clear hs
    refine Tri.run 1 [] [.keep [0, 1, 7, 8, 9] []] (K' := [.code [(1, 0), (1, 0), (0, 0), (1, 0)] 0, .code [(1, 0), (1, 0), (0, 0)] 2]) (σ' := ⟨[(0, .list (.ints a0)), (1, .func 134 [] []), (7, .int .i64 (a0.length : Int)), (8, .int .i64 v1), (9, .bool (decide (v1 < (a0.length : Int))))], []⟩) rfl trivial rfl ?_
    rcases bif_some h with ⟨hd1, h⟩ | ⟨hd1, h⟩
    · refine Tri.run 2 [.g true] [.keep [0, 1, 5, 7, 8] []] (K' := [.code [(1, 0), (1, 0), (0, 0), (2, 0), (0, 0), (1, 0)] 0, .code [(1, 0), (1, 0), (0, 0), (2, 0), (0, 0)] 2, .blk 1, .code [(1, 0), (1, 0), (0, 0)] 3]) (σ' := ⟨[(0, .list (.ints a0)), (1, .func 134 [] []), (5, .int .i64 v1), (7, .int .i64 (a0.length : Int)), (8, .int .i64 v1)], []⟩) rfl ⟨hd1, trivial⟩ rfl ?_
      obtain ⟨hg2, h⟩ := grd_some h
      obtain ⟨v2, hk3, h⟩ := bind_some h
      refine Tri.run 1 [.r ⟨[], .bool v2, []⟩] [.keep [0, 1, 5, 7, 8, 16] []] (K' := [.code [(1, 0), (1, 0), (0, 0), (2, 0), (0, 0)] 2, .blk 1, .code [(1, 0), (1, 0), (0, 0)] 3]) (σ' := ⟨[(0, .list (.ints a0)), (1, .func 134 [] []), (5, .int .i64 v1), (7, .int .i64 (a0.length : Int)), (8, .int .i64 v1), (16, .bool v2)], []⟩) rfl ⟨(w_impl_IsValidGame_1 (a0.getD v1.toNat 0) v2 hk3), hg2, trivial⟩ rfl ?_
      rcases bif_some h with ⟨hd4, h⟩ | ⟨hd4, h⟩
      · refine Tri.run 2 [.g true] [.keep [4] []] (K' := [.code [(1, 0), (1, 0), (0, 0), (2, 0), (0, 0), (2, 0)] 1, .blk 1, .code [(1, 0), (1, 0), (0, 0)] 3]) (σ' := ⟨[(4, .int .i64 v1)], []⟩) rfl ⟨hd4, trivial⟩ rfl ?_
        have h := Option.some.inj h
        subst h
        exact Tri.ret rfl ⟨nofun, rfl, rfl, rfl⟩
      · refine Tri.run 2 [.g false] [.keep [0, 1, 7, 8] []] (K' := []) (σ' := ⟨[(0, .list (.ints a0)), (1, .func 134 [] []), (7, .int .i64 (a0.length : Int)), (8, .int .i64 (IntKind.i64.wrap (v1 + (1 : Int))))], []⟩) rfl ⟨hd4, trivial⟩ rfl ?_
        have h := Option.some.inj h
        subst h
        exact Tri.nil ⟨rfl, rfl⟩
    · refine Tri.run 1 [.g false] [.keep [] []] (K' := [.code [(1, 0), (1, 0), (0, 0), (1, 0), (0, 1)] 0, .code [(1, 0), (1, 0), (0, 0)] 2]) (σ' := ⟨[], []⟩) rfl ⟨hd1, trivial⟩ rfl ?_
      have h := Option.some.inj h
      subst h
      exact Tri.out 0 rfl ⟨nofun, rfl, rfl⟩
  · intro e σ' hne hq
    rcases x1 with _ | r
    · obtain ⟨rfl, rfl⟩ := hq
      refine TriX.exit (K' := [.code [] 2]) rfl ?_
      refine Tri.run 1 [] [.keep [4] []] (K' := [.code [] 3]) (σ' := ⟨[(4, .int .i64 (-1 : Int))], []⟩) rfl trivial rfl ?_
      have h := Option.some.inj h
      subst h
      exact Tri.ret rfl ⟨.inl rfl, rfl, rfl⟩
    · obtain ⟨rfl, hq⟩ := hq
      have h := Option.some.inj h
      subst h
      exact TriX.ret ⟨.inl rfl, hq⟩
/-! slices.ContainsFunc(()int,int) -/
noncomputable def E133_slices_ContainsFunc_int_int : Env := ⟨Try.prog, tys, (Try.f133.body).getD .skip, 9, tysOk, mixedOk⟩
abbrev q_slices_ContainsFunc_int_int_impl_IsValidGame_1 (r : Bool) (σ' : ASt) : Prop := resAV E133_slices_ContainsFunc_int_int.T σ' Try.f133.results.toList = some (.bool r) ∧ keepO σ'.ob (namesO []) = []
noncomputable def m_slices_ContainsFunc_int_int_impl_IsValidGame_1 (a0 : List Int) : Option Bool :=
(m_slices_IndexFunc_int_int_impl_IsValidGame_1 a0).bind fun v1 =>
some (decide (v1 ≥ (0 : Int)))
theorem w_slices_ContainsFunc_int_int_impl_IsValidGame_1 (a0 : List Int) (r : Bool) (h : m_slices_ContainsFunc_int_int_impl_IsValidGame_1 a0 = some r) : AM.Spec Try.prog 133 [.list (.ints a0), .func 134 [] []] [] (.bool r) [] := by
  refine spec_of (E := E133_slices_ContainsFunc_int_int) Try.func133 rfl rfl rfl rfl ?_
  refine Tri.run 1 [] [.keep [0, 1] []] (K' := [.code [(1, 0)] 0, .code [] 2]) (σ' := ⟨[(0, .list (.ints a0)), (1, .func 134 [] [])], []⟩) rfl trivial rfl ?_
  obtain ⟨v1, hk1, h⟩ := bind_some h
  refine Tri.run 1 [.r ⟨[], .int .i64 v1, []⟩] [.keep [4] []] (K' := [.code [] 2]) (σ' := ⟨[(4, .bool (decide (v1 ≥ (0 : Int))))], []⟩) rfl ⟨(w_slices_IndexFunc_int_int_impl_IsValidGame_1 a0 v1 hk1), trivial⟩ rfl ?_
  have h := Option.some.inj h
  subst h
  exact Tri.ret rfl ⟨.inl rfl, rfl, rfl⟩
/-! impl.IsValidGame -/
noncomputable def E72_impl_IsValidGame : Env := ⟨Try.prog, tys, (Try.f72.body).getD .skip, 27, tysOk, mixedOk⟩
abbrev q_impl_IsValidGame (r : Bool) (σ' : ASt) : Prop := resAV E72_impl_IsValidGame.T σ' Try.f72.results.toList = some (.bool r) ∧ keepO σ'.ob (namesO []) = []
noncomputable def m_impl_IsValidGame (a0 : Int) (a1 : List Int) : Option Bool :=
(m_impl_within a0 (1 : Int) (5 : Int)).bind fun v1 =>
bif !v1 then
(some false)
else
(grd ((0 : Int) ≤ a0) <|
bif (a1.length : Int) != (IntKind.i64.wrap ((1 : Int) * 2 ^ (min a0.toNat 64))) then
(some false)
else
(grd ((0 : Int) ≤ (0 : Int) ∧ (0 : Int) < (a1.length : Int)) <|
bif (a1.getD ((0 : Int).toNat) 0) != (0 : Int) then
(some false)
else
((m_slices_ContainsFunc_int_int_impl_IsValidGame_1 a1).bind fun v2 =>
some (!v2))))
theorem w_impl_IsValidGame (a0 : Int) (a1 : List Int) (r : Bool) (h : m_impl_IsValidGame a0 a1 = some r) : AM.Spec Try.prog 72 [.agg [.int .i64 a0, .list (.ints a1)]] [] (.bool r) [] := by
  refine spec_of (E := E72_impl_IsValidGame) Try.func72 rfl rfl rfl rfl ?_
  refine Tri.run 1 [] [.keep [1] [1]] (K' := [.code [(1, 0), (0, 0)] 0, .code [(1, 0)] 1, .code [] 2]) (σ' := ⟨[(1, .ptr 1 0)], [(1, .box [.int .i64 a0, .list (.ints a1)])]⟩) rfl trivial rfl ?_
  obtain ⟨v1, hk1, h⟩ := bind_some h
  rcases bif_some h with ⟨hd2, h⟩ | ⟨hd2, h⟩
  · refine Tri.run 1 [.r ⟨[], .bool v1, []⟩, .g true, .g true] [.keep [1, 22] [1]] (K' := [.code [(1, 0)] 1, .code [] 2]) (σ' := ⟨[(1, .ptr 1 0), (22, .bool true)], [(1, .box [.int .i64 a0, .list (.ints a1)])]⟩) rfl ⟨rfl, hd2, (w_impl_within a0 (1 : Int) (5 : Int) v1 hk1), trivial⟩ rfl ?_
    refine Tri.run 2 [.g true] [.keep [2] []] (K' := [.code [(1, 0), (1, 0)] 1, .code [] 2]) (σ' := ⟨[(2, .bool false)], []⟩) rfl ⟨rfl, trivial⟩ rfl ?_
    have h := Option.some.inj h
    subst h
    exact Tri.ret rfl ⟨.inl rfl, rfl, rfl⟩
  · obtain ⟨hg3, h⟩ := grd_some h
    rcases bif_some h with ⟨hd4, h⟩ | ⟨hd4, h⟩
    · refine Tri.run 1 [.r ⟨[], .bool v1, []⟩, .g false, .g true] [.keep [1, 22] [1]] (K' := [.code [(1, 0)] 1, .code [] 2]) (σ' := ⟨[(1, .ptr 1 0), (22, .bool true)], [(1, .box [.int .i64 a0, .list (.ints a1)])]⟩) rfl ⟨hd4, hg3, hd2, (w_impl_within a0 (1 : Int) (5 : Int) v1 hk1), trivial⟩ rfl ?_
      refine Tri.run 2 [.g true] [.keep [2] []] (K' := [.code [(1, 0), (1, 0)] 1, .code [] 2]) (σ' := ⟨[(2, .bool false)], []⟩) rfl ⟨rfl, trivial⟩ rfl ?_
      have h := Option.some.inj h
      subst h
      exact Tri.ret rfl ⟨.inl rfl, rfl, rfl⟩
    · obtain ⟨hg5, h⟩ := grd_some h
      refine Tri.run 1 [.r ⟨[], .bool v1, []⟩, .g false, .g false] [.keep [1, 22] [1]] (K' := [.code [(1, 0)] 1, .code [] 2]) (σ' := ⟨[(1, .ptr 1 0), (22, .bool ((a1.getD ((0 : Int).toNat) 0) != (0 : Int)))], [(1, .box [.int .i64 a0, .list (.ints a1)])]⟩) rfl ⟨hg5, hd4, hg3, hd2, (w_impl_within a0 (1 : Int) (5 : Int) v1 hk1), trivial⟩ rfl ?_
      rcases bif_some h with ⟨hd6, h⟩ | ⟨hd6, h⟩
      · refine Tri.run 2 [.g true] [.keep [2] []] (K' := [.code [(1, 0), (1, 0)] 1, .code [] 2]) (σ' := ⟨[(2, .bool false)], []⟩) rfl ⟨hd6, trivial⟩ rfl ?_
        have h := Option.some.inj h
        subst h
        exact Tri.ret rfl ⟨.inl rfl, rfl, rfl⟩
      · obtain ⟨v2, hk7, h⟩ := bind_some h
        refine Tri.run 2 [.g false, .r ⟨[], .bool v2, []⟩] [.keep [2] []] (K' := [.code [] 3]) (σ' := ⟨[(2, .bool (!v2))], []⟩) rfl ⟨(w_slices_ContainsFunc_int_int_impl_IsValidGame_1 a1 v2 hk7), hd6, trivial⟩ rfl ?_
        have h := Option.some.inj h
        subst h
        exact Tri.ret rfl ⟨.inl rfl, rfl, rfl⟩
/-! impl.coalitions -/
noncomputable def E107_impl_coalitions : Env := ⟨Try.prog, tys, (Try.f107.body).getD .skip, 19, tysOk, mixedOk⟩
abbrev q_impl_coalitions (r : List Int) (σ' : ASt) : Prop := resAV E107_impl_coalitions.T σ' Try.f107.results.toList = some (.sl 1000 0) ∧ keepO σ'.ob (namesO [(1000, .arr 3 0 0 (.ints r))]) = [(1000, .arr 3 0 0 (.ints r))]
noncomputable def l_impl_coalitions_0 (a1 : Int) : (Int × (List Int)) → Option ((Int × (List Int)) ⊕ ((List Int)))
  | (v1, v2) => (
bif decide (v1 ≤ a1) then
(grd (v2.length + ([v1] : List Int).length ≤ room) <|
some (.inl (IntKind.i64.wrap (v1 + (1 : Int)), v2 ++ [v1])))
else
(some (.inr v2)))
noncomputable def m_impl_coalitions (a0 : Int) (a1 : Int) : Option (List Int) :=
(iter (l_impl_coalitions_0 a1) (a0, [])).bind fun
| v3 => (
some v3)
theorem w_impl_coalitions (a0 : Int) (a1 : Int) (r : List Int) (h : m_impl_coalitions a0 a1 = some r) : AM.Spec Try.prog 107 [.int .i64 a0, .int .i64 a1] [] (.sl 1000 0) [(1000, .arr 3 0 0 (.ints r))] := by
  refine spec_of (E := E107_impl_coalitions) Try.func107 rfl rfl rfl rfl ?_
  refine Tri.run 3 [] [.keep [1, 5, 6] [7]] (K' := [.code [(2, 0), (1, 0)] 0, .blk 0, .code [] 3]) (σ' := ⟨[(1, .int .i64 a1), (5, .sl 7 0), (6, .int .i64 a0)], [(7, .arr 3 0 0 (.ints []))]⟩) rfl trivial rfl ?_
  obtain ⟨v3, hk3, h⟩ := bind_some h
  refine Tri.loop (K1 := [.code [(2, 0), (1, 0), (0, 0)] 0]) (K2 := [.blk 0, .code [] 3]) (fun (v1, v2) => ⟨[(1, .int .i64 a1), (5, .sl 7 0), (6, .int .i64 v1)], [(7, .arr 3 0 0 (.ints v2))]⟩) (fun x e σ' => match x with | v3 => e = .exit 0 ∧ σ' = ⟨[(5, .sl 7 0)], [(7, .arr 3 0 0 (.ints v3))]⟩) hk3 rfl rfl ?_ ?_
  · intro s x hs
    clear h
    have h := hs
    clear hs
    obtain ⟨v1, v2⟩ := s
    refine Tri.run 1 [] [.keep [1, 5, 6, 11] [7]] (K' := [.code [(2, 0), (1, 0), (0, 0), (0, 0)] 1, .code [(2, 0), (1, 0), (0, 0)] 1]) (σ' := ⟨[(1, .int .i64 a1), (5, .sl 7 0), (6, .int .i64 v1), (11, .bool (decide (v1 ≤ a1)))], [(7, .arr 3 0 0 (.ints v2))]⟩) rfl trivial rfl ?_
    rcases bif_some h with ⟨hd1, h⟩ | ⟨hd1, h⟩
    · obtain ⟨hg2, h⟩ := grd_some h
      refine Tri.run 3 [.g true] [.rever 7, .keep [1, 5, 6] [7]] (K' := []) (σ' := ⟨[(1, .int .i64 a1), (5, .sl 7 0), (6, .int .i64 (IntKind.i64.wrap (v1 + (1 : Int))))], [(7, .arr 3 0 0 (.ints (v2 ++ [v1])))]⟩) rfl ⟨hg2, hd1, trivial⟩ rfl ?_
      have h := Option.some.inj h
      subst h
      exact Tri.nil ⟨rfl, rfl⟩
    · refine Tri.run 1 [.g false] [.keep [5] [7]] (K' := [.code [(2, 0), (1, 0), (0, 0), (0, 0), (1, 1)] 0, .code [(2, 0), (1, 0), (0, 0)] 1]) (σ' := ⟨[(5, .sl 7 0)], [(7, .arr 3 0 0 (.ints v2))]⟩) rfl ⟨hd1, trivial⟩ rfl ?_
      have h := Option.some.inj h
      subst h
      exact Tri.out 0 rfl ⟨nofun, rfl, rfl⟩
  · intro e σ' hne hq
    obtain ⟨rfl, rfl⟩ := hq
    refine TriX.exit (K' := [.code [] 3]) rfl ?_
    refine Tri.run 1 [] [.swap 7 1000, .keep [4] [1000]] (K' := [.code [] 4]) (σ' := ⟨[(4, .sl 1000 0)], [(1000, .arr 3 0 0 (.ints v3))]⟩) rfl trivial rfl ?_
    have h := Option.some.inj h
    subst h
    exact Tri.ret rfl ⟨.inl rfl, rfl, rfl⟩
/-! impl.HasPlayer -/
noncomputable def E139_impl_HasPlayer : Env := ⟨Try.prog, tys, (Try.f139.body).getD .skip, 18, tysOk, mixedOk⟩
abbrev q_impl_HasPlayer (r : Bool) (σ' : ASt) : Prop := resAV E139_impl_HasPlayer.T σ' Try.f139.results.toList = some (.bool r) ∧ keepO σ'.ob (namesO []) = []
noncomputable def m_impl_HasPlayer (a0 : Int) (a1 : Int) : Option Bool :=
bif decide (a0 ≥ (0 : Int)) then
((m_impl_within a1 (0 : Int) (4 : Int)).bind fun v1 =>
bif v1 then
(grd ((0 : Int) ≤ a1) <|
some ((bitsOf .and .i64 (a0.fdiv (2 ^ (min a1.toNat 64))) (1 : Int)) == (1 : Int)))
else
(some false))
else
(some false)
theorem w_impl_HasPlayer (a0 : Int) (a1 : Int) (r : Bool) (h : m_impl_HasPlayer a0 a1 = some r) : AM.Spec Try.prog 139 [.int .i64 a0, .int .i64 a1] [] (.bool r) [] := by
  refine spec_of (E := E139_impl_HasPlayer) Try.func139 rfl rfl rfl rfl ?_
  refine Tri.run 1 [] [.keep [0, 1] []] (K' := [.code [(1, 0)] 0, .code [] 2]) (σ' := ⟨[(0, .int .i64 a0), (1, .int .i64 a1)], []⟩) rfl trivial rfl ?_
  rcases bif_some h with ⟨hd1, h⟩ | ⟨hd1, h⟩
  · obtain ⟨v1, hk2, h⟩ := bind_some h
    rcases bif_some h with ⟨hd3, h⟩ | ⟨hd3, h⟩
    · obtain ⟨hg4, h⟩ := grd_some h
      refine Tri.run 1 [.g true, .r ⟨[], .bool v1, []⟩, .g true] [.keep [4] []] (K' := [.code [] 2]) (σ' := ⟨[(4, .bool ((bitsOf .and .i64 (a0.fdiv (2 ^ (min a1.toNat 64))) (1 : Int)) == (1 : Int)))], []⟩) rfl ⟨hg4, hd3, (w_impl_within a1 (0 : Int) (4 : Int) v1 hk2), hd1, trivial⟩ rfl ?_
      have h := Option.some.inj h
      subst h
      exact Tri.ret rfl ⟨.inl rfl, rfl, rfl⟩
    · refine Tri.run 1 [.g true, .r ⟨[], .bool v1, []⟩, .g false] [.keep [4] []] (K' := [.code [] 2]) (σ' := ⟨[(4, .bool false)], []⟩) rfl ⟨hd3, (w_impl_within a1 (0 : Int) (4 : Int) v1 hk2), hd1, trivial⟩ rfl ?_
      have h := Option.some.inj h
      subst h
      exact Tri.ret rfl ⟨.inl rfl, rfl, rfl⟩
  · refine Tri.run 1 [.g false, .g false] [.keep [4] []] (K' := [.code [] 2]) (σ' := ⟨[(4, .bool false)], []⟩) rfl ⟨rfl, hd1, trivial⟩ rfl ?_
    have h := Option.some.inj h
    subst h
    exact Tri.ret rfl ⟨.inl rfl, rfl, rfl⟩
/-! impl.members -/
noncomputable def E106_impl_members : Env := ⟨Try.prog, tys, (Try.f106.body).getD .skip, 37, tysOk, mixedOk⟩
abbrev q_impl_members (r : List (List Int)) (σ' : ASt) : Prop := resAV E106_impl_members.T σ' Try.f106.results.toList = some (.sl 1000 0) ∧ keepO σ'.ob (namesO [(1000, .arr 22 0 0 (.intss r))]) = [(1000, .arr 22 0 0 (.intss r))]
noncomputable def l_impl_members_1 (a1 : List Int) (v1 : Int) : (Int × (List Int)) → Option ((Int × (List Int)) ⊕ ((List Int)))
  | (v3, v4) => (
bif decide (v3 < (a1.length : Int)) then
(grd ((0 : Int) ≤ v3 ∧ v3 < (a1.length : Int)) <|
(m_impl_HasPlayer (a1.getD v3.toNat 0) v1).bind fun v5 =>
bif v5 then
(grd (v4.length + ([(1 : Int)] : List Int).length ≤ room) <|
some (.inl (IntKind.i64.wrap (v3 + (1 : Int)), v4 ++ [(1 : Int)])))
else
(grd (v4.length + ([(0 : Int)] : List Int).length ≤ room) <|
some (.inl (IntKind.i64.wrap (v3 + (1 : Int)), v4 ++ [(0 : Int)]))))
else
(some (.inr v4)))
noncomputable def l_impl_members_0 (a0 : Int) (a1 : List Int) : (Int × (List (List Int))) → Option ((Int × (List (List Int))) ⊕ ((List (List Int))))
  | (v1, v2) => (
bif decide (v1 < a0) then
((iter (l_impl_members_1 a1 v1) ((0 : Int), [])).bind fun
| v6 => (
grd (v2.length + ([v6] : List (List Int)).length ≤ room) <|
some (.inl (IntKind.i64.wrap (v1 + (1 : Int)), v2 ++ [v6]))))
else
(some (.inr v2)))
noncomputable def m_impl_members (a0 : Int) (a1 : List Int) : Option (List (List Int)) :=
(iter (l_impl_members_0 a0 a1) ((0 : Int), [])).bind fun
| v7 => (
some v7)
theorem w_impl_members (a0 : Int) (a1 : List Int) (r : List (List Int)) (h : m_impl_members a0 a1 = some r) : AM.Spec Try.prog 106 [.int .i64 a0, .list (.ints a1)] [] (.sl 1000 0) [(1000, .arr 22 0 0 (.intss r))] := by
  refine spec_of (E := E106_impl_members) Try.func106 rfl rfl rfl rfl ?_
  refine Tri.run 3 [] [.keep [1, 5, 12, 13] [11]] (K' := [.code [(2, 0), (1, 0)] 0, .blk 0, .code [] 3]) (σ' := ⟨[(1, .list (.ints a1)), (5, .sl 11 0), (12, .int .i64 a0), (13, .int .i64 (0 : Int))], [(11, .arr 22 0 0 (.intss []))]⟩) rfl trivial rfl ?_
  obtain ⟨v7, hk10, h⟩ := bind_some h
  refine Tri.loop (K1 := [.code [(2, 0), (1, 0), (0, 0)] 0]) (K2 := [.blk 0, .code [] 3]) (fun (v1, v2) => ⟨[(1, .list (.ints a1)), (5, .sl 11 0), (12, .int .i64 a0), (13, .int .i64 v1)], [(11, .arr 22 0 0 (.intss v2))]⟩) (fun x e σ' => match x with | v7 => e = .exit 0 ∧ σ' = ⟨[(5, .sl 11 0)], [(11, .arr 22 0 0 (.intss v7))]⟩) hk10 rfl rfl ?_ ?_
  · intro s x hs
    clear h
    have h := hs
    clear hs
    obtain ⟨v1, v2⟩ := s
    refine Tri.run 1 [] [.keep [1, 5, 12, 13, 14] [11]] (K' := [.code [(2, 0), (1, 0), (0, 0), (1, 0)] 0, .code [(2, 0), (1, 0), (0, 0)] 2]) (σ' := ⟨[(1, .list (.ints a1)), (5, .sl 11 0), (12, .int .i64 a0), (13, .int .i64 v1), (14, .bool (decide (v1 < a0)))], [(11, .arr 22 0 0 (.intss v2))]⟩) rfl trivial rfl ?_
    rcases bif_some h with ⟨hd1, h⟩ | ⟨hd1, h⟩
    · refine Tri.run 3 [.g true] [.keep [1, 5, 6, 7, 12, 13] [11, 16]] (K' := [.code [(2, 0), (1, 0), (0, 0), (2, 0), (0, 0), (2, 0), (0, 0)] 0, .code [(2, 0), (1, 0), (0, 0), (2, 0), (0, 0), (2, 0)] 1, .code [(2, 0), (1, 0), (0, 0), (2, 0), (0, 0)] 3, .blk 1, .code [(2, 0), (1, 0), (0, 0)] 3]) (σ' := ⟨[(1, .list (.ints a1)), (5, .sl 11 0), (6, .int .i64 v1), (7, .sl 16 0), (12, .int .i64 a0), (13, .int .i64 v1)], [(11, .arr 22 0 0 (.intss v2)), (16, .arr 3 0 0 (.ints []))]⟩) rfl ⟨hd1, trivial⟩ rfl ?_
      refine Tri.run 1 [] [.keep [1, 5, 6, 7, 12, 13, 17, 18, 19] [11, 16]] (K' := [.code [(2, 0), (1, 0), (0, 0), (2, 0), (0, 0), (2, 0), (1, 0)] 0, .blk 2, .code [(2, 0), (1, 0), (0, 0), (2, 0), (0, 0)] 3, .blk 1, .code [(2, 0), (1, 0), (0, 0)] 3]) (σ' := ⟨[(1, .list (.ints a1)), (5, .sl 11 0), (6, .int .i64 v1), (7, .sl 16 0), (12, .int .i64 a0), (13, .int .i64 v1), (17, .list (.ints a1)), (18, .int .i64 (a1.length : Int)), (19, .int .i64 (0 : Int))], [(11, .arr 22 0 0 (.intss v2)), (16, .arr 3 0 0 (.ints []))]⟩) rfl trivial rfl ?_
      obtain ⟨v6, hk8, h⟩ := bind_some h
      refine Tri.loop (K1 := [.code [(2, 0), (1, 0), (0, 0), (2, 0), (0, 0), (2, 0), (1, 0), (0, 0)] 0]) (K2 := [.blk 2, .code [(2, 0), (1, 0), (0, 0), (2, 0), (0, 0)] 3, .blk 1, .code [(2, 0), (1, 0), (0, 0)] 3]) (fun (v3, v4) => ⟨[(1, .list (.ints a1)), (5, .sl 11 0), (6, .int .i64 v1), (7, .sl 16 0), (12, .int .i64 a0), (13, .int .i64 v1), (17, .list (.ints a1)), (18, .int .i64 (a1.length : Int)), (19, .int .i64 v3)], [(11, .arr 22 0 0 (.intss v2)), (16, .arr 3 0 0 (.ints v4))]⟩) (fun x e σ' => match x with | v6 => e = .exit 2 ∧ σ' = ⟨[(1, .list (.ints a1)), (5, .sl 11 0), (7, .sl 16 0), (12, .int .i64 a0), (13, .int .i64 v1)], [(11, .arr 22 0 0 (.intss v2)), (16, .arr 3 0 0 (.ints v6))]⟩) hk8 rfl rfl ?_ ?_
      · intro s x hs
        clear h
        have h := hs
        clear hs
        obtain ⟨v3, v4⟩ := s
        refine Tri.run 1 [] [.keep [1, 5, 6, 7, 12, 13, 17, 18, 19, 20] [11, 16]] (K' := [.code [(2, 0), (1, 0), (0, 0), (2, 0), (0, 0), (2, 0), (1, 0), (0, 0), (1, 0)] 0, .code [(2, 0), (1, 0), (0, 0), (2, 0), (0, 0), (2, 0), (1, 0), (0, 0)] 2]) (σ' := ⟨[(1, .list (.ints a1)), (5, .sl 11 0), (6, .int .i64 v1), (7, .sl 16 0), (12, .int .i64 a0), (13, .int .i64 v1), (17, .list (.ints a1)), (18, .int .i64 (a1.length : Int)), (19, .int .i64 v3), (20, .bool (decide (v3 < (a1.length : Int))))], [(11, .arr 22 0 0 (.intss v2)), (16, .arr 3 0 0 (.ints v4))]⟩) rfl trivial rfl ?_
        rcases bif_some h with ⟨hd2, h⟩ | ⟨hd2, h⟩
        · obtain ⟨hg3, h⟩ := grd_some h
          refine Tri.run 3 [.g true] [.keep [1, 5, 6, 7, 9, 10, 12, 13, 17, 18, 19] [11, 16]] (K' := [.code [(2, 0), (1, 0), (0, 0), (2, 0), (0, 0), (2, 0), (1, 0), (0, 0), (2, 0), (0, 0), (2, 0), (0, 0)] 0, .code [(2, 0), (1, 0), (0, 0), (2, 0), (0, 0), (2, 0), (1, 0), (0, 0), (2, 0), (0, 0), (2, 0)] 1, .code [(2, 0), (1, 0), (0, 0), (2, 0), (0, 0), (2, 0), (1, 0), (0, 0), (2, 0), (0, 0)] 3, .blk 3, .code [(2, 0), (1, 0), (0, 0), (2, 0), (0, 0), (2, 0), (1, 0), (0, 0)] 3]) (σ' := ⟨[(1, .list (.ints a1)), (5, .sl 11 0), (6, .int .i64 v1), (7, .sl 16 0), (9, .int .i64 (a1.getD v3.toNat 0)), (10, .int .i64 (0 : Int)), (12, .int .i64 a0), (13, .int .i64 v1), (17, .list (.ints a1)), (18, .int .i64 (a1.length : Int)), (19, .int .i64 v3)], [(11, .arr 22 0 0 (.intss v2)), (16, .arr 3 0 0 (.ints v4))]⟩) rfl ⟨hg3, hd2, trivial⟩ rfl ?_
          obtain ⟨v5, hk4, h⟩ := bind_some h
          refine Tri.run 1 [.r ⟨[], .bool v5, []⟩] [.keep [1, 5, 6, 7, 10, 12, 13, 17, 18, 19, 25] [11, 16]] (K' := [.code [(2, 0), (1, 0), (0, 0), (2, 0), (0, 0), (2, 0), (1, 0), (0, 0), (2, 0), (0, 0), (2, 0)] 1, .code [(2, 0), (1, 0), (0, 0), (2, 0), (0, 0), (2, 0), (1, 0), (0, 0), (2, 0), (0, 0)] 3, .blk 3, .code [(2, 0), (1, 0), (0, 0), (2, 0), (0, 0), (2, 0), (1, 0), (0, 0)] 3]) (σ' := ⟨[(1, .list (.ints a1)), (5, .sl 11 0), (6, .int .i64 v1), (7, .sl 16 0), (10, .int .i64 (0 : Int)), (12, .int .i64 a0), (13, .int .i64 v1), (17, .list (.ints a1)), (18, .int .i64 (a1.length : Int)), (19, .int .i64 v3), (25, .bool v5)], [(11, .arr 22 0 0 (.intss v2)), (16, .arr 3 0 0 (.ints v4))]⟩) rfl ⟨(w_impl_HasPlayer (a1.getD v3.toNat 0) v1 v5 hk4), trivial⟩ rfl ?_
          rcases bif_some h with ⟨hd5, h⟩ | ⟨hd5, h⟩
          · obtain ⟨hg6, h⟩ := grd_some h
            refine Tri.run 3 [.g true] [.keep [1, 5, 6, 7, 12, 13, 17, 18, 19] [11, 16]] (K' := [.code [(2, 0), (1, 0), (0, 0), (2, 0), (0, 0), (2, 0), (1, 0), (0, 0)] 3]) (σ' := ⟨[(1, .list (.ints a1)), (5, .sl 11 0), (6, .int .i64 v1), (7, .sl 16 1), (12, .int .i64 a0), (13, .int .i64 v1), (17, .list (.ints a1)), (18, .int .i64 (a1.length : Int)), (19, .int .i64 v3)], [(11, .arr 22 0 0 (.intss v2)), (16, .arr 3 1 0 (.ints (v4 ++ [(1 : Int)])))]⟩) rfl ⟨hg6, hd5, trivial⟩ rfl ?_
            refine Tri.run 1 [] [.rever 16, .keep [1, 5, 6, 7, 12, 13, 17, 18, 19] [11, 16]] (K' := []) (σ' := ⟨[(1, .list (.ints a1)), (5, .sl 11 0), (6, .int .i64 v1), (7, .sl 16 0), (12, .int .i64 a0), (13, .int .i64 v1), (17, .list (.ints a1)), (18, .int .i64 (a1.length : Int)), (19, .int .i64 (IntKind.i64.wrap (v3 + (1 : Int))))], [(11, .arr 22 0 0 (.intss v2)), (16, .arr 3 0 0 (.ints (v4 ++ [(1 : Int)])))]⟩) rfl trivial rfl ?_
            have h := Option.some.inj h
            subst h
            exact Tri.nil ⟨rfl, rfl⟩
          · obtain ⟨hg7, h⟩ := grd_some h
            refine Tri.run 3 [.g false] [.rever 16, .keep [1, 5, 6, 7, 12, 13, 17, 18, 19] [11, 16]] (K' := []) (σ' := ⟨[(1, .list (.ints a1)), (5, .sl 11 0), (6, .int .i64 v1), (7, .sl 16 0), (12, .int .i64 a0), (13, .int .i64 v1), (17, .list (.ints a1)), (18, .int .i64 (a1.length : Int)), (19, .int .i64 (IntKind.i64.wrap (v3 + (1 : Int))))], [(11, .arr 22 0 0 (.intss v2)), (16, .arr 3 0 0 (.ints (v4 ++ [(0 : Int)])))]⟩) rfl ⟨hg7, hd5, trivial⟩ rfl ?_
            have h := Option.some.inj h
            subst h
            exact Tri.nil ⟨rfl, rfl⟩
        · refine Tri.run 1 [.g false] [.keep [1, 5, 7, 12, 13] [11, 16]] (K' := [.code [(2, 0), (1, 0), (0, 0), (2, 0), (0, 0), (2, 0), (1, 0), (0, 0), (1, 0), (0, 1)] 0, .code [(2, 0), (1, 0), (0, 0), (2, 0), (0, 0), (2, 0), (1, 0), (0, 0)] 2]) (σ' := ⟨[(1, .list (.ints a1)), (5, .sl 11 0), (7, .sl 16 0), (12, .int .i64 a0), (13, .int .i64 v1)], [(11, .arr 22 0 0 (.intss v2)), (16, .arr 3 0 0 (.ints v4))]⟩) rfl ⟨hd2, trivial⟩ rfl ?_
          have h := Option.some.inj h
          subst h
          exact Tri.out 2 rfl ⟨nofun, rfl, rfl⟩
      · intro e σ' hne hq
        obtain ⟨rfl, rfl⟩ := hq
        refine TriX.exit (K' := [.code [(2, 0), (1, 0), (0, 0), (2, 0), (0, 0)] 3, .blk 1, .code [(2, 0), (1, 0), (0, 0)] 3]) rfl ?_
        obtain ⟨hg9, h⟩ := grd_some h
        refine Tri.run 2 [] [.rever 11, .keep [1, 5, 12, 13] [11]] (K' := []) (σ' := ⟨[(1, .list (.ints a1)), (5, .sl 11 0), (12, .int .i64 a0), (13, .int .i64 (IntKind.i64.wrap (v1 + (1 : Int))))], [(11, .arr 22 0 0 (.intss (v2 ++ [v6])))]⟩) rfl ⟨hg9, trivial⟩ rfl ?_
        have h := Option.some.inj h
        subst h
        exact Tri.nil ⟨rfl, rfl⟩
    · refine Tri.run 1 [.g false] [.keep [5] [11]] (K' := [.code [(2, 0), (1, 0), (0, 0), (1, 0), (0, 1)] 0, .code [(2, 0), (1, 0), (0, 0)] 2]) (σ' := ⟨[(5, .sl 11 0)], [(11, .arr 22 0 0 (.intss v2))]⟩) rfl ⟨hd1, trivial⟩ rfl ?_
      have h := Option.some.inj h
      subst h
      exact Tri.out 0 rfl ⟨nofun, rfl, rfl⟩
  · intro e σ' hne hq
    obtain ⟨rfl, rfl⟩ := hq
    refine TriX.exit (K' := [.code [] 3]) rfl ?_
    refine Tri.run 1 [] [.swap 11 1000, .keep [4] [1000]] (K' := [.code [] 4]) (σ' := ⟨[(4, .sl 1000 0)], [(1000, .arr 22 0 0 (.intss v7))]⟩) rfl trivial rfl ?_
    have h := Option.some.inj h
    subst h
    exact Tri.ret rfl ⟨.inl rfl, rfl, rfl⟩
/-! impl.times -/
noncomputable def E108_impl_times : Env := ⟨Try.prog, tys, (Try.f108.body).getD .skip, 20, tysOk, mixedOk⟩
abbrev q_impl_times (r : List Int) (σ' : ASt) : Prop := resAV E108_impl_times.T σ' Try.f108.results.toList = some (.sl 1000 0) ∧ keepO σ'.ob (namesO [(1000, .arr 3 0 0 (.ints r))]) = [(1000, .arr 3 0 0 (.ints r))]
noncomputable def l_impl_times_0 (a0 : Int) (a1 : Int) : (Int × (List Int)) → Option ((Int × (List Int)) ⊕ ((List Int)))
  | (v1, v2) => (
bif decide (v1 < ((List.replicate a0.toNat (0 : Int)).length : Int)) then
(grd ((0 : Int) ≤ v1 ∧ v1 < (v2.length : Int)) <|
some (.inl (IntKind.i64.wrap (v1 + (1 : Int)), v2.set v1.toNat a1)))
else
(some (.inr v2)))
noncomputable def m_impl_times (a0 : Int) (a1 : Int) : Option (List Int) :=
grd ((0 : Int) ≤ a0 ∧ a0 = a0 ∧ a0 ≤ (room : Int)) <|
(iter (l_impl_times_0 a0 a1) ((0 : Int), List.replicate a0.toNat (0 : Int))).bind fun
| v3 => (
some v3)
theorem w_impl_times (a0 : Int) (a1 : Int) (r : List Int) (h : m_impl_times a0 a1 = some r) : AM.Spec Try.prog 108 [.int .i64 a0, .int .i64 a1] [] (.sl 1000 0) [(1000, .arr 3 0 0 (.ints r))] := by
  refine spec_of (E := E108_impl_times) Try.func108 rfl rfl rfl rfl ?_
  obtain ⟨hg1, h⟩ := grd_some h
  refine Tri.run 3 [] [.keep [1, 5, 10, 11] [8]] (K' := [.code [(2, 0), (1, 0)] 0, .blk 0, .code [] 3]) (σ' := ⟨[(1, .int .i64 a1), (5, .sl 8 0), (10, .int .i64 ((List.replicate a0.toNat (0 : Int)).length : Int)), (11, .int .i64 (0 : Int))], [(8, .arr 3 0 0 (.ints (List.replicate a0.toNat (0 : Int))))]⟩) rfl ⟨hg1, trivial⟩ rfl ?_
  obtain ⟨v3, hk4, h⟩ := bind_some h
  refine Tri.loop (K1 := [.code [(2, 0), (1, 0), (0, 0)] 0]) (K2 := [.blk 0, .code [] 3]) (fun (v1, v2) => ⟨[(1, .int .i64 a1), (5, .sl 8 0), (10, .int .i64 ((List.replicate a0.toNat (0 : Int)).length : Int)), (11, .int .i64 v1)], [(8, .arr 3 0 0 (.ints v2))]⟩) (fun x e σ' => match x with | v3 => e = .exit 0 ∧ σ' = ⟨[(5, .sl 8 0)], [(8, .arr 3 0 0 (.ints v3))]⟩) hk4 rfl rfl ?_ ?_
  · intro s x hs
    clear h
    have h := hs
    clear hs
    obtain ⟨v1, v2⟩ := s
    refine Tri.run 1 [] [.keep [1, 5, 10, 11, 12] [8]] (K' := [.code [(2, 0), (1, 0), (0, 0), (1, 0)] 0, .code [(2, 0), (1, 0), (0, 0)] 2]) (σ' := ⟨[(1, .int .i64 a1), (5, .sl 8 0), (10, .int .i64 ((List.replicate a0.toNat (0 : Int)).length : Int)), (11, .int .i64 v1), (12, .bool (decide (v1 < ((List.replicate a0.toNat (0 : Int)).length : Int))))], [(8, .arr 3 0 0 (.ints v2))]⟩) rfl trivial rfl ?_
    rcases bif_some h with ⟨hd2, h⟩ | ⟨hd2, h⟩
    · obtain ⟨hg3, h⟩ := grd_some h
      refine Tri.run 3 [.g true] [.keep [1, 5, 10, 11] [8]] (K' := [.code [(2, 0), (1, 0), (0, 0)] 3]) (σ' := ⟨[(1, .int .i64 a1), (5, .sl 8 0), (10, .int .i64 ((List.replicate a0.toNat (0 : Int)).length : Int)), (11, .int .i64 v1)], [(8, .arr 3 0 0 (.ints (v2.set v1.toNat a1)))]⟩) rfl ⟨hg3, hd2, trivial⟩ rfl ?_
      refine Tri.run 1 [] [.keep [1, 5, 10, 11] [8]] (K' := []) (σ' := ⟨[(1, .int .i64 a1), (5, .sl 8 0), (10, .int .i64 ((List.replicate a0.toNat (0 : Int)).length : Int)), (11, .int .i64 (IntKind.i64.wrap (v1 + (1 : Int))))], [(8, .arr 3 0 0 (.ints (v2.set v1.toNat a1)))]⟩) rfl trivial rfl ?_
      have h := Option.some.inj h
      subst h
      exact Tri.nil ⟨rfl, rfl⟩
    · refine Tri.run 1 [.g false] [.keep [5] [8]] (K' := [.code [(2, 0), (1, 0), (0, 0), (1, 0), (0, 1)] 0, .code [(2, 0), (1, 0), (0, 0)] 2]) (σ' := ⟨[(5, .sl 8 0)], [(8, .arr 3 0 0 (.ints v2))]⟩) rfl ⟨hd2, trivial⟩ rfl ?_
      have h := Option.some.inj h
      subst h
      exact Tri.out 0 rfl ⟨nofun, rfl, rfl⟩
  · intro e σ' hne hq
    obtain ⟨rfl, rfl⟩ := hq
    refine TriX.exit (K' := [.code [] 3]) rfl ?_
    refine Tri.run 1 [] [.swap 8 1000, .keep [4] [1000]] (K' := [.code [] 4]) (σ' := ⟨[(4, .sl 1000 0)], [(1000, .arr 3 0 0 (.ints v3))]⟩) rfl trivial rfl ?_
    have h := Option.some.inj h
    subst h
    exact Tri.ret rfl ⟨.inl rfl, rfl, rfl⟩
/-! impl.whole -/
noncomputable def E76_impl_whole : Env := ⟨Try.prog, tys, (Try.f76.body).getD .skip, 5, tysOk, mixedOk⟩
abbrev q_impl_whole (r : Int × Int) (σ' : ASt) : Prop := resAV E76_impl_whole.T σ' Try.f76.results.toList = some (.agg [.int .i64 r.1, .int .i64 r.2]) ∧ keepO σ'.ob (namesO []) = []
noncomputable def m_impl_whole (a0 : Int) : Option (Int × Int) :=
some (a0, (1 : Int))
theorem w_impl_whole (a0 : Int) (r : Int × Int) (h : m_impl_whole a0 = some r) : AM.Spec Try.prog 76 [.int .i64 a0] [] (.agg [.int .i64 r.1, .int .i64 r.2]) [] := by
  refine spec_of (E := E76_impl_whole) Try.func76 rfl rfl rfl rfl ?_
  refine Tri.run 2 [] [.keep [2] [2]] (K' := [.code [] 2]) (σ' := ⟨[(2, .ptr 2 0)], [(2, .box [.int .i64 a0, .int .i64 (1 : Int)])]⟩) rfl trivial rfl ?_
  have h := Option.some.inj h
  subst h
  exact Tri.ret rfl ⟨.inl rfl, rfl, rfl⟩
/-! impl.minusValues -/
noncomputable def E109_impl_minusValues : Env := ⟨Try.prog, tys, (Try.f109.body).getD .skip, 27, tysOk, mixedOk⟩
abbrev q_impl_minusValues (r : List Q) (σ' : ASt) : Prop := resAV E109_impl_minusValues.T σ' Try.f109.results.toList = some (.sl 1000 0) ∧ keepO σ'.ob (namesO [(1000, .arr 29 0 0 (.rats r))]) = [(1000, .arr 29 0 0 (.rats r))]
noncomputable def l_impl_minusValues_0 (a1 : List Int) (a3 : Int) : (Int × (List Q)) → Option ((Int × (List Q)) ⊕ ((List Q)))
  | (v1, v2) => (
bif decide (v1 ≤ a3) then
(grd ((0 : Int) ≤ v1 ∧ v1 < (a1.length : Int)) <|
(m_impl_whole (IntKind.i64.wrap (0 - (a1.getD v1.toNat 0)))).bind fun (v3, v4) =>
grd (v2.length + ([⟨v3, v4⟩] : List Q).length ≤ room) <|
some (.inl (IntKind.i64.wrap (v1 + (1 : Int)), v2 ++ [⟨v3, v4⟩])))
else
(some (.inr v2)))
noncomputable def m_impl_minusValues (_a0 : Int) (a1 : List Int) (a2 : Int) (a3 : Int) : Option (List Q) :=
(iter (l_impl_minusValues_0 a1 a3) (a2, [])).bind fun
| v5 => (
some v5)
theorem w_impl_minusValues (a0 : Int) (a1 : List Int) (a2 : Int) (a3 : Int) (r : List Q) (h : m_impl_minusValues a0 a1 a2 a3 = some r) : AM.Spec Try.prog 109 [.agg [.int .i64 a0, .list (.ints a1)], .int .i64 a2, .int .i64 a3] [] (.sl 1000 0) [(1000, .arr 29 0 0 (.rats r))] := by
  refine spec_of (E := E109_impl_minusValues) Try.func109 rfl rfl rfl rfl ?_
  refine Tri.run 3 [] [.keep [2, 3, 7, 8] [3, 9]] (K' := [.code [(2, 0), (1, 0)] 0, .blk 0, .code [] 3]) (σ' := ⟨[(2, .int .i64 a3), (3, .ptr 3 0), (7, .sl 9 0), (8, .int .i64 a2)], [(3, .box [.int .i64 a0, .list (.ints a1)]), (9, .arr 29 0 0 (.rats []))]⟩) rfl trivial rfl ?_
  obtain ⟨v5, hk5, h⟩ := bind_some h
  refine Tri.loop (K1 := [.code [(2, 0), (1, 0), (0, 0)] 0]) (K2 := [.blk 0, .code [] 3]) (fun (v1, v2) => ⟨[(2, .int .i64 a3), (3, .ptr 3 0), (7, .sl 9 0), (8, .int .i64 v1)], [(3, .box [.int .i64 a0, .list (.ints a1)]), (9, .arr 29 0 0 (.rats v2))]⟩) (fun x e σ' => match x with | v5 => e = .exit 0 ∧ σ' = ⟨[(7, .sl 9 0)], [(9, .arr 29 0 0 (.rats v5))]⟩) hk5 rfl rfl ?_ ?_
  · intro s x hs
    clear h
    have h := hs
    clear hs
    obtain ⟨v1, v2⟩ := s
    refine Tri.run 1 [] [.keep [2, 3, 7, 8, 13] [3, 9]] (K' := [.code [(2, 0), (1, 0), (0, 0), (0, 0)] 1, .code [(2, 0), (1, 0), (0, 0)] 1]) (σ' := ⟨[(2, .int .i64 a3), (3, .ptr 3 0), (7, .sl 9 0), (8, .int .i64 v1), (13, .bool (decide (v1 ≤ a3)))], [(3, .box [.int .i64 a0, .list (.ints a1)]), (9, .arr 29 0 0 (.rats v2))]⟩) rfl trivial rfl ?_
    rcases bif_some h with ⟨hd1, h⟩ | ⟨hd1, h⟩
    · obtain ⟨hg2, h⟩ := grd_some h
      obtain ⟨⟨v3, v4⟩, hk3, h⟩ := bind_some h
      obtain ⟨hg4, h⟩ := grd_some h
      refine Tri.run 3 [.g true, .r ⟨[], .agg [.int .i64 v3, .int .i64 v4], []⟩] [.rever 9, .keep [2, 3, 7, 8] [3, 9]] (K' := []) (σ' := ⟨[(2, .int .i64 a3), (3, .ptr 3 0), (7, .sl 9 0), (8, .int .i64 (IntKind.i64.wrap (v1 + (1 : Int))))], [(3, .box [.int .i64 a0, .list (.ints a1)]), (9, .arr 29 0 0 (.rats (v2 ++ [⟨v3, v4⟩])))]⟩) rfl ⟨hg4, (w_impl_whole (IntKind.i64.wrap (0 - (a1.getD v1.toNat 0))) (v3, v4) hk3), hg2, hd1, trivial⟩ rfl ?_
      have h := Option.some.inj h
      subst h
      exact Tri.nil ⟨rfl, rfl⟩
    · refine Tri.run 1 [.g false] [.keep [7] [9]] (K' := [.code [(2, 0), (1, 0), (0, 0), (0, 0), (1, 1)] 0, .code [(2, 0), (1, 0), (0, 0)] 1]) (σ' := ⟨[(7, .sl 9 0)], [(9, .arr 29 0 0 (.rats v2))]⟩) rfl ⟨hd1, trivial⟩ rfl ?_
      have h := Option.some.inj h
      subst h
      exact Tri.out 0 rfl ⟨nofun, rfl, rfl⟩
  · intro e σ' hne hq
    obtain ⟨rfl, rfl⟩ := hq
    refine TriX.exit (K' := [.code [] 3]) rfl ?_
    refine Tri.run 1 [] [.swap 9 1000, .keep [6] [1000]] (K' := [.code [] 4]) (σ' := ⟨[(6, .sl 1000 0)], [(1000, .arr 29 0 0 (.rats v5))]⟩) rfl trivial rfl ?_
    have h := Option.some.inj h
    subst h
    exact Tri.ret rfl ⟨.inl rfl, rfl, rfl⟩
/-! impl.GrandValue -/
noncomputable def E80_impl_GrandValue : Env := ⟨Try.prog, tys, (Try.f80.body).getD .skip, 14, tysOk, mixedOk⟩
abbrev q_impl_GrandValue (r : Int) (σ' : ASt) : Prop := resAV E80_impl_GrandValue.T σ' Try.f80.results.toList = some (.int .i64 r) ∧ keepO σ'.ob (namesO []) = []
noncomputable def m_impl_GrandValue (a0 : Int) (a1 : List Int) : Option Int :=
(m_impl_IsValidGame a0 a1).bind fun v1 =>
bif !v1 then
(some (0 : Int))
else
(grd ((0 : Int) ≤ IntKind.i64.wrap ((a1.length : Int) - (1 : Int)) ∧ IntKind.i64.wrap ((a1.length : Int) - (1 : Int)) < (a1.length : Int)) <|
some (a1.getD ((IntKind.i64.wrap ((a1.length : Int) - (1 : Int))).toNat) 0))
theorem w_impl_GrandValue (a0 : Int) (a1 : List Int) (r : Int) (h : m_impl_GrandValue a0 a1 = some r) : AM.Spec Try.prog 80 [.agg [.int .i64 a0, .list (.ints a1)]] [] (.int .i64 r) [] := by
  refine spec_of (E := E80_impl_GrandValue) Try.func80 rfl rfl rfl rfl ?_
  refine Tri.run 1 [] [.keep [1] [1]] (K' := [.code [(1, 0), (0, 0)] 0, .code [(1, 0)] 1, .code [] 2]) (σ' := ⟨[(1, .ptr 1 0)], [(1, .box [.int .i64 a0, .list (.ints a1)])]⟩) rfl trivial rfl ?_
  obtain ⟨v1, hk1, h⟩ := bind_some h
  refine Tri.run 1 [.r ⟨[], .bool v1, []⟩] [.keep [1, 5] [1]] (K' := [.code [(1, 0)] 1, .code [] 2]) (σ' := ⟨[(1, .ptr 1 0), (5, .bool (!v1))], [(1, .box [.int .i64 a0, .list (.ints a1)])]⟩) rfl ⟨(w_impl_IsValidGame a0 a1 v1 hk1), trivial⟩ rfl ?_
  rcases bif_some h with ⟨hd2, h⟩ | ⟨hd2, h⟩
  · refine Tri.run 2 [.g true] [.keep [2] []] (K' := [.code [(1, 0), (1, 0)] 1, .code [] 2]) (σ' := ⟨[(2, .int .i64 (0 : Int))], []⟩) rfl ⟨hd2, trivial⟩ rfl ?_
    have h := Option.some.inj h
    subst h
    exact Tri.ret rfl ⟨.inl rfl, rfl, rfl⟩
  · obtain ⟨hg3, h⟩ := grd_some h
    refine Tri.run 2 [.g false] [.keep [2] []] (K' := [.code [] 3]) (σ' := ⟨[(2, .int .i64 (a1.getD ((IntKind.i64.wrap ((a1.length : Int) - (1 : Int))).toNat) 0))], []⟩) rfl ⟨hg3, hd2, trivial⟩ rfl ?_
    have h := Option.some.inj h
    subst h
    exact Tri.ret rfl ⟨.inl rfl, rfl, rfl⟩
/-! impl.LeastLP -/
noncomputable def E39_impl_LeastLP : Env := ⟨Try.prog, tys, (Try.f39.body).getD .skip, 66, tysOk, mixedOk⟩
abbrev q_impl_LeastLP (r : Bool × (List (List Int)) × (List Int) × (List Q)) (σ' : ASt) : Prop := resAV E39_impl_LeastLP.T σ' Try.f39.results.toList = some (.tuple [.agg [.sl 1000 0, .sl 1001 0, .sl 1002 0], .bool r.1]) ∧ keepO σ'.ob (namesO [(1000, .arr 22 0 0 (.intss r.2.1)), (1001, .arr 3 0 0 (.ints r.2.2.1)), (1002, .arr 29 0 0 (.rats r.2.2.2))]) = [(1000, .arr 22 0 0 (.intss r.2.1)), (1001, .arr 3 0 0 (.ints r.2.2.1)), (1002, .arr 29 0 0 (.rats r.2.2.2))]
noncomputable def l_impl_LeastLP_0 (a1 : List Int) (v3 : List (List Int)) : (Int × (List (List Int))) → Option ((Int × (List (List Int))) ⊕ ((List (List Int))))
  | (v4, v5) => (
bif decide (v4 < (v3.length : Int)) then
(grd ((0 : Int) ≤ v4 ∧ v4 < (v5.length : Int)) <|
grd ((0 : Int) ≤ IntKind.i64.wrap ((IntKind.i64.wrap ((a1.length : Int) - (1 : Int))) - (1 : Int)) ∧ IntKind.i64.wrap ((IntKind.i64.wrap ((a1.length : Int) - (1 : Int))) - (1 : Int)) < ((v5.getD v4.toNat []).length : Int)) <|
some (.inl (IntKind.i64.wrap (v4 + (1 : Int)), v5.set v4.toNat ((v5.getD v4.toNat []).set ((IntKind.i64.wrap ((IntKind.i64.wrap ((a1.length : Int) - (1 : Int))) - (1 : Int))).toNat) (-1 : Int)))))
else
(some (.inr v5)))
noncomputable def m_impl_LeastLP (a0 : Int) (a1 : List Int) : Option (Bool × (List (List Int)) × (List Int) × (List Q)) :=
(m_impl_IsValidGame a0 a1).bind fun v1 =>
bif !v1 then
(some (false, [], [], []))
else
(bif decide (a0 < (2 : Int)) then
(some (false, [], [], []))
else
((m_impl_coalitions (1 : Int) (IntKind.i64.wrap ((a1.length : Int) - (1 : Int)))).bind fun v2 =>
(m_impl_members a0 v2).bind fun v3 =>
(iter (l_impl_LeastLP_0 a1 v3) ((0 : Int), v3)).bind fun
| v6 => (
(m_impl_times (IntKind.i64.wrap ((a1.length : Int) - (1 : Int))) (1 : Int)).bind fun v7 =>
grd ((0 : Int) ≤ IntKind.i64.wrap ((IntKind.i64.wrap ((a1.length : Int) - (1 : Int))) - (1 : Int)) ∧ IntKind.i64.wrap ((IntKind.i64.wrap ((a1.length : Int) - (1 : Int))) - (1 : Int)) < (v7.length : Int)) <|
(m_impl_minusValues a0 a1 (1 : Int) (IntKind.i64.wrap ((a1.length : Int) - (1 : Int)))).bind fun v8 =>
(m_impl_GrandValue a0 a1).bind fun v9 =>
(m_impl_whole v9).bind fun (v10, v11) =>
grd ((0 : Int) ≤ IntKind.i64.wrap ((IntKind.i64.wrap ((a1.length : Int) - (1 : Int))) - (1 : Int)) ∧ IntKind.i64.wrap ((IntKind.i64.wrap ((a1.length : Int) - (1 : Int))) - (1 : Int)) < (v8.length : Int)) <|
grd (v6.length + ([v7.set ((IntKind.i64.wrap ((IntKind.i64.wrap ((a1.length : Int) - (1 : Int))) - (1 : Int))).toNat) (0 : Int)] : List (List Int)).length ≤ room) <|
(m_impl_times a0 (0 : Int)).bind fun v12 =>
grd (v12.length + ([(1 : Int)] : List Int).length ≤ room) <|
some (true, v6 ++ [v7.set ((IntKind.i64.wrap ((IntKind.i64.wrap ((a1.length : Int) - (1 : Int))) - (1 : Int))).toNat) (0 : Int)], v12 ++ [(1 : Int)], v8.set ((IntKind.i64.wrap ((IntKind.i64.wrap ((a1.length : Int) - (1 : Int))) - (1 : Int))).toNat) ⟨v10, v11⟩))))
theorem w_impl_LeastLP (a0 : Int) (a1 : List Int) (r : Bool × (List (List Int)) × (List Int) × (List Q)) (h : m_impl_LeastLP a0 a1 = some r) : AM.Spec Try.prog 39 [.agg [.int .i64 a0, .list (.ints a1)]] [] (.tuple [.agg [.sl 1000 0, .sl 1001 0, .sl 1002 0], .bool r.1]) [(1000, .arr 22 0 0 (.intss r.2.1)), (1001, .arr 3 0 0 (.ints r.2.2.1)), (1002, .arr 29 0 0 (.rats r.2.2.2))] := by
  refine spec_of (E := E39_impl_LeastLP) Try.func39 rfl rfl rfl rfl ?_
  refine Tri.run 1 [] [.keep [1, 2] [1, 2]] (K' := [.code [(1, 0), (0, 0)] 0, .code [(1, 0)] 1, .code [] 2]) (σ' := ⟨[(1, .ptr 1 0), (2, .ptr 2 0)], [(1, .box [.int .i64 a0, .list (.ints a1)]), (2, .box [.nil (.intss []), .nil (.ints []), .nil (.rats [])])]⟩) rfl trivial rfl ?_
  obtain ⟨v1, hk1, h⟩ := bind_some h
  rcases bif_some h with ⟨hd2, h⟩ | ⟨hd2, h⟩
  · refine Tri.run 1 [.r ⟨[], .bool v1, []⟩, .g true] [.keep [1, 2, 17] [1, 2]] (K' := [.code [(1, 0)] 1, .code [] 2]) (σ' := ⟨[(1, .ptr 1 0), (2, .ptr 2 0), (17, .bool true)], [(1, .box [.int .i64 a0, .list (.ints a1)]), (2, .box [.nil (.intss []), .nil (.ints []), .nil (.rats [])])]⟩) rfl ⟨hd2, (w_impl_IsValidGame a0 a1 v1 hk1), trivial⟩ rfl ?_
    refine Tri.run 2 [.g true] [.ownc 2 0 1100 22, .ownc 2 1 1101 3, .ownc 2 2 1102 29, .swap 1100 1000, .swap 1101 1001, .swap 1102 1002, .keep [2, 3] [2, 1000, 1001, 1002]] (K' := [.code [(1, 0), (1, 0)] 1, .code [] 2]) (σ' := ⟨[(2, .ptr 2 0), (3, .bool false)], [(2, .box [.sl 1000 0, .sl 1001 0, .sl 1002 0]), (1000, .arr 22 0 0 (.intss [])), (1001, .arr 3 0 0 (.ints [])), (1002, .arr 29 0 0 (.rats []))]⟩) rfl ⟨rfl, trivial⟩ rfl ?_
    have h := Option.some.inj h
    subst h
    exact Tri.ret rfl ⟨.inl rfl, rfl, rfl⟩
  · refine Tri.run 1 [.r ⟨[], .bool v1, []⟩, .g false] [.keep [1, 2, 17] [1, 2]] (K' := [.code [(1, 0)] 1, .code [] 2]) (σ' := ⟨[(1, .ptr 1 0), (2, .ptr 2 0), (17, .bool (decide (a0 < (2 : Int))))], [(1, .box [.int .i64 a0, .list (.ints a1)]), (2, .box [.nil (.intss []), .nil (.ints []), .nil (.rats [])])]⟩) rfl ⟨hd2, (w_impl_IsValidGame a0 a1 v1 hk1), trivial⟩ rfl ?_
    rcases bif_some h with ⟨hd3, h⟩ | ⟨hd3, h⟩
    · refine Tri.run 2 [.g true] [.ownc 2 0 1103 22, .ownc 2 1 1104 3, .ownc 2 2 1105 29, .swap 1103 1000, .swap 1104 1001, .swap 1105 1002, .keep [2, 3] [2, 1000, 1001, 1002]] (K' := [.code [(1, 0), (1, 0)] 1, .code [] 2]) (σ' := ⟨[(2, .ptr 2 0), (3, .bool false)], [(2, .box [.sl 1000 0, .sl 1001 0, .sl 1002 0]), (1000, .arr 22 0 0 (.intss [])), (1001, .arr 3 0 0 (.ints [])), (1002, .arr 29 0 0 (.rats []))]⟩) rfl ⟨hd3, trivial⟩ rfl ?_
      have h := Option.some.inj h
      subst h
      exact Tri.ret rfl ⟨.inl rfl, rfl, rfl⟩
    · refine Tri.run 2 [.g false] [.keep [1, 2, 4] [1, 2]] (K' := [.code [(3, 0)] 0, .code [] 4]) (σ' := ⟨[(1, .ptr 1 0), (2, .ptr 2 0), (4, .int .i64 (IntKind.i64.wrap ((a1.length : Int) - (1 : Int))))], [(1, .box [.int .i64 a0, .list (.ints a1)]), (2, .box [.nil (.intss []), .nil (.ints []), .nil (.rats [])])]⟩) rfl ⟨hd3, trivial⟩ rfl ?_
      obtain ⟨v2, hk4, h⟩ := bind_some h
      obtain ⟨v3, hk5, h⟩ := bind_some h
      refine Tri.run 2 [.r ⟨[], .sl 1106 0, [(1106, .arr 3 0 0 (.ints v2))]⟩, .r ⟨[], .sl 1107 0, [(1107, .arr 22 0 0 (.intss v3))]⟩] [.ownc 2 0 1108 22, .ownc 2 1 1109 3, .ownc 2 2 1110 29, .keep [1, 2, 4, 5, 28, 29, 30] [1, 2, 1107, 1108, 1109, 1110]] (K' := [.code [(4, 0), (1, 0)] 0, .blk 0, .code [] 5]) (σ' := ⟨[(1, .ptr 1 0), (2, .ptr 2 0), (4, .int .i64 (IntKind.i64.wrap ((a1.length : Int) - (1 : Int)))), (5, .sl 1107 0), (28, .sl 1107 0), (29, .int .i64 (v3.length : Int)), (30, .int .i64 (0 : Int))], [(1, .box [.int .i64 a0, .list (.ints a1)]), (2, .box [.sl 1108 0, .sl 1109 0, .sl 1110 0]), (1107, .arr 22 0 0 (.intss v3)), (1108, .arr 22 0 0 (.intss [])), (1109, .arr 3 0 0 (.ints [])), (1110, .arr 29 0 0 (.rats []))]⟩) rfl ⟨((w_impl_members a0 v2 v3 hk5).swap 1000 1107), ((w_impl_coalitions (1 : Int) (IntKind.i64.wrap ((a1.length : Int) - (1 : Int))) v2 hk4).swap 1000 1106), trivial⟩ rfl ?_
      obtain ⟨v6, hk9, h⟩ := bind_some h
      refine Tri.loop (K1 := [.code [(4, 0), (1, 0), (0, 0)] 0]) (K2 := [.blk 0, .code [] 5]) (fun (v4, v5) => ⟨[(1, .ptr 1 0), (2, .ptr 2 0), (4, .int .i64 (IntKind.i64.wrap ((a1.length : Int) - (1 : Int)))), (5, .sl 1107 0), (28, .sl 1107 0), (29, .int .i64 (v3.length : Int)), (30, .int .i64 v4)], [(1, .box [.int .i64 a0, .list (.ints a1)]), (2, .box [.sl 1108 0, .sl 1109 0, .sl 1110 0]), (1107, .arr 22 0 0 (.intss v5)), (1108, .arr 22 0 0 (.intss [])), (1109, .arr 3 0 0 (.ints [])), (1110, .arr 29 0 0 (.rats []))]⟩) (fun x e σ' => match x with | v6 => e = .exit 0 ∧ σ' = ⟨[(1, .ptr 1 0), (2, .ptr 2 0), (4, .int .i64 (IntKind.i64.wrap ((a1.length : Int) - (1 : Int)))), (5, .sl 1107 0)], [(1, .box [.int .i64 a0, .list (.ints a1)]), (2, .box [.sl 1108 0, .sl 1109 0, .sl 1110 0]), (1107, .arr 22 0 0 (.intss v6)), (1108, .arr 22 0 0 (.intss [])), (1109, .arr 3 0 0 (.ints [])), (1110, .arr 29 0 0 (.rats []))]⟩) hk9 rfl rfl ?_ ?_
      · intro s x hs
        clear h
        have h := hs
        clear hs
        obtain ⟨v4, v5⟩ := s
        refine Tri.run 1 [] [.keep [1, 2, 4, 5, 28, 29, 30, 31] [1, 2, 1107, 1108, 1109, 1110]] (K' := [.code [(4, 0), (1, 0), (0, 0), (1, 0)] 0, .code [(4, 0), (1, 0), (0, 0)] 2]) (σ' := ⟨[(1, .ptr 1 0), (2, .ptr 2 0), (4, .int .i64 (IntKind.i64.wrap ((a1.length : Int) - (1 : Int)))), (5, .sl 1107 0), (28, .sl 1107 0), (29, .int .i64 (v3.length : Int)), (30, .int .i64 v4), (31, .bool (decide (v4 < (v3.length : Int))))], [(1, .box [.int .i64 a0, .list (.ints a1)]), (2, .box [.sl 1108 0, .sl 1109 0, .sl 1110 0]), (1107, .arr 22 0 0 (.intss v5)), (1108, .arr 22 0 0 (.intss [])), (1109, .arr 3 0 0 (.ints [])), (1110, .arr 29 0 0 (.rats []))]⟩) rfl trivial rfl ?_
        rcases bif_some h with ⟨hd6, h⟩ | ⟨hd6, h⟩
        · obtain ⟨hg7, h⟩ := grd_some h
          obtain ⟨hg8, h⟩ := grd_some h
          refine Tri.run 3 [.g true] [.keep [1, 2, 4, 5, 28, 29, 30] [1, 2, 1107, 1108, 1109, 1110]] (K' := [.code [(4, 0), (1, 0), (0, 0)] 3]) (σ' := ⟨[(1, .ptr 1 0), (2, .ptr 2 0), (4, .int .i64 (IntKind.i64.wrap ((a1.length : Int) - (1 : Int)))), (5, .sl 1107 0), (28, .sl 1107 0), (29, .int .i64 (v3.length : Int)), (30, .int .i64 v4)], [(1, .box [.int .i64 a0, .list (.ints a1)]), (2, .box [.sl 1108 0, .sl 1109 0, .sl 1110 0]), (1107, .arr 22 0 0 (.intss (v5.set v4.toNat ((v5.getD v4.toNat []).set ((IntKind.i64.wrap ((IntKind.i64.wrap ((a1.length : Int) - (1 : Int))) - (1 : Int))).toNat) (-1 : Int))))), (1108, .arr 22 0 0 (.intss [])), (1109, .arr 3 0 0 (.ints [])), (1110, .arr 29 0 0 (.rats []))]⟩) rfl ⟨hg8, hg7, hd6, trivial⟩ rfl ?_
          refine Tri.run 1 [] [.keep [1, 2, 4, 5, 28, 29, 30] [1, 2, 1107, 1108, 1109, 1110]] (K' := []) (σ' := ⟨[(1, .ptr 1 0), (2, .ptr 2 0), (4, .int .i64 (IntKind.i64.wrap ((a1.length : Int) - (1 : Int)))), (5, .sl 1107 0), (28, .sl 1107 0), (29, .int .i64 (v3.length : Int)), (30, .int .i64 (IntKind.i64.wrap (v4 + (1 : Int))))], [(1, .box [.int .i64 a0, .list (.ints a1)]), (2, .box [.sl 1108 0, .sl 1109 0, .sl 1110 0]), (1107, .arr 22 0 0 (.intss (v5.set v4.toNat ((v5.getD v4.toNat []).set ((IntKind.i64.wrap ((IntKind.i64.wrap ((a1.length : Int) - (1 : Int))) - (1 : Int))).toNat) (-1 : Int))))), (1108, .arr 22 0 0 (.intss [])), (1109, .arr 3 0 0 (.ints [])), (1110, .arr 29 0 0 (.rats []))]⟩) rfl trivial rfl ?_
          have h := Option.some.inj h
          subst h
          exact Tri.nil ⟨rfl, rfl⟩
        · refine Tri.run 1 [.g false] [.keep [1, 2, 4, 5] [1, 2, 1107, 1108, 1109, 1110]] (K' := [.code [(4, 0), (1, 0), (0, 0), (1, 0), (0, 1)] 0, .code [(4, 0), (1, 0), (0, 0)] 2]) (σ' := ⟨[(1, .ptr 1 0), (2, .ptr 2 0), (4, .int .i64 (IntKind.i64.wrap ((a1.length : Int) - (1 : Int)))), (5, .sl 1107 0)], [(1, .box [.int .i64 a0, .list (.ints a1)]), (2, .box [.sl 1108 0, .sl 1109 0, .sl 1110 0]), (1107, .arr 22 0 0 (.intss v5)), (1108, .arr 22 0 0 (.intss [])), (1109, .arr 3 0 0 (.ints [])), (1110, .arr 29 0 0 (.rats []))]⟩) rfl ⟨hd6, trivial⟩ rfl ?_
          have h := Option.some.inj h
          subst h
          exact Tri.out 0 rfl ⟨nofun, rfl, rfl⟩
      · intro e σ' hne hq
        obtain ⟨rfl, rfl⟩ := hq
        refine TriX.exit (K' := [.code [] 5]) rfl ?_
        obtain ⟨v7, hk10, h⟩ := bind_some h
        obtain ⟨hg11, h⟩ := grd_some h
        refine Tri.run 2 [.r ⟨[], .sl 1111 0, [(1111, .arr 3 0 0 (.ints v7))]⟩] [.keep [1, 2, 4, 5, 8] [1, 2, 1107, 1108, 1109, 1110, 1111]] (K' := [.code [(7, 0)] 0, .code [] 8]) (σ' := ⟨[(1, .ptr 1 0), (2, .ptr 2 0), (4, .int .i64 (IntKind.i64.wrap ((a1.length : Int) - (1 : Int)))), (5, .sl 1107 0), (8, .sl 1111 0)], [(1, .box [.int .i64 a0, .list (.ints a1)]), (2, .box [.sl 1108 0, .sl 1109 0, .sl 1110 0]), (1107, .arr 22 0 0 (.intss v6)), (1108, .arr 22 0 0 (.intss [])), (1109, .arr 3 0 0 (.ints [])), (1110, .arr 29 0 0 (.rats [])), (1111, .arr 3 0 0 (.ints (v7.set ((IntKind.i64.wrap ((IntKind.i64.wrap ((a1.length : Int) - (1 : Int))) - (1 : Int))).toNat) (0 : Int))))]⟩) rfl ⟨hg11, ((w_impl_times (IntKind.i64.wrap ((a1.length : Int) - (1 : Int))) (1 : Int) v7 hk10).swap 1000 1111), trivial⟩ rfl ?_
        obtain ⟨v8, hk12, h⟩ := bind_some h
        obtain ⟨v9, hk13, h⟩ := bind_some h
        obtain ⟨⟨v10, v11⟩, hk14, h⟩ := bind_some h
        obtain ⟨hg15, h⟩ := grd_some h
        refine Tri.run 2 [.r ⟨[], .sl 1112 0, [(1112, .arr 29 0 0 (.rats v8))]⟩, .r ⟨[], .int .i64 v9, []⟩, .r ⟨[], .agg [.int .i64 v10, .int .i64 v11], []⟩] [.keep [1, 2, 5, 8, 9] [1, 2, 1107, 1108, 1109, 1110, 1111, 1112]] (K' := [.code [(9, 0)] 0, .code [] 10]) (σ' := ⟨[(1, .ptr 1 0), (2, .ptr 2 0), (5, .sl 1107 0), (8, .sl 1111 0), (9, .sl 1112 0)], [(1, .box [.int .i64 a0, .list (.ints a1)]), (2, .box [.sl 1108 0, .sl 1109 0, .sl 1110 0]), (1107, .arr 22 0 0 (.intss v6)), (1108, .arr 22 0 0 (.intss [])), (1109, .arr 3 0 0 (.ints [])), (1110, .arr 29 0 0 (.rats [])), (1111, .arr 3 0 0 (.ints (v7.set ((IntKind.i64.wrap ((IntKind.i64.wrap ((a1.length : Int) - (1 : Int))) - (1 : Int))).toNat) (0 : Int)))), (1112, .arr 29 0 0 (.rats (v8.set ((IntKind.i64.wrap ((IntKind.i64.wrap ((a1.length : Int) - (1 : Int))) - (1 : Int))).toNat) ⟨v10, v11⟩)))]⟩) rfl ⟨hg15, (w_impl_whole v9 (v10, v11) hk14), (w_impl_GrandValue a0 a1 v9 hk13), ((w_impl_minusValues a0 a1 (1 : Int) (IntKind.i64.wrap ((a1.length : Int) - (1 : Int))) v8 hk12).swap 1000 1112), trivial⟩ rfl ?_
        obtain ⟨hg16, h⟩ := grd_some h
        obtain ⟨v12, hk17, h⟩ := bind_some h
        obtain ⟨hg18, h⟩ := grd_some h
        refine Tri.run 1 [.r ⟨[], .sl 1113 0, [(1113, .arr 3 0 0 (.ints v12))]⟩] [.rever 1107, .rever 1113, .swap 1107 1000, .swap 1113 1001, .swap 1112 1002, .keep [2, 3] [2, 1000, 1001, 1002]] (K' := [.code [] 10]) (σ' := ⟨[(2, .ptr 2 0), (3, .bool true)], [(2, .box [.sl 1000 0, .sl 1001 0, .sl 1002 0]), (1000, .arr 22 0 0 (.intss (v6 ++ [v7.set ((IntKind.i64.wrap ((IntKind.i64.wrap ((a1.length : Int) - (1 : Int))) - (1 : Int))).toNat) (0 : Int)]))), (1001, .arr 3 0 0 (.ints (v12 ++ [(1 : Int)]))), (1002, .arr 29 0 0 (.rats (v8.set ((IntKind.i64.wrap ((IntKind.i64.wrap ((a1.length : Int) - (1 : Int))) - (1 : Int))).toNat) ⟨v10, v11⟩)))]⟩) rfl ⟨hg18, ((w_impl_times a0 (0 : Int) v12 hk17).swap 1000 1113), hg16, trivial⟩ rfl ?_
        have h := Option.some.inj h
        subst h
        exact Tri.ret rfl ⟨.inl rfl, rfl, rfl⟩
/-! impl.common -/
noncomputable def E160_impl_common : Env := ⟨Try.prog, tys, (Try.f160.body).getD .skip, 15, tysOk, mixedOk⟩
abbrev q_impl_common (r : Int) (σ' : ASt) : Prop := resAV E160_impl_common.T σ' Try.f160.results.toList = some (.int .i64 r) ∧ keepO σ'.ob (namesO []) = []
noncomputable def l_impl_common_0 : (Int × Int) → Option ((Int × Int) ⊕ Int)
  | (v1, v2) => (
bif v2 != (0 : Int) then
(grd (v2 ≠ 0) <|
some (.inl (v2, v1.tmod v2)))
else
(some (.inr v1)))
noncomputable def m_impl_common (a0 : Int) (a1 : Int) : Option Int :=
(iter (l_impl_common_0) (a0, a1)).bind fun
| v3 => (
some (if IntKind.i64.wrap (0 - v3) > v3 then IntKind.i64.wrap (0 - v3) else v3))
theorem w_impl_common (a0 : Int) (a1 : Int) (r : Int) (h : m_impl_common a0 a1 = some r) : AM.Spec Try.prog 160 [.int .i64 a0, .int .i64 a1] [] (.int .i64 r) [] := by
  refine spec_of (E := E160_impl_common) Try.func160 rfl rfl rfl rfl ?_
  refine Tri.run 1 [] [.keep [0, 1] []] (K' := [.code [(1, 0), (0, 0)] 0, .blk 0, .code [] 2]) (σ' := ⟨[(0, .int .i64 a0), (1, .int .i64 a1)], []⟩) rfl trivial rfl ?_
  obtain ⟨v3, hk3, h⟩ := bind_some h
  refine Tri.loop (K1 := [.code [(1, 0), (0, 0), (0, 0)] 0]) (K2 := [.blk 0, .code [] 2]) (fun (v1, v2) => ⟨[(0, .int .i64 v1), (1, .int .i64 v2)], []⟩) (fun x e σ' => match x with | v3 => e = .exit 0 ∧ σ' = ⟨[(0, .int .i64 v3)], []⟩) hk3 rfl rfl ?_ ?_
  · intro s x hs
    clear h
    have h := hs
    clear hs
    obtain ⟨v1, v2⟩ := s
    refine Tri.run 1 [] [.keep [0, 1, 6] []] (K' := [.code [(1, 0), (0, 0), (0, 0), (0, 0)] 1, .code [(1, 0), (0, 0), (0, 0)] 1]) (σ' := ⟨[(0, .int .i64 v1), (1, .int .i64 v2), (6, .bool (v2 != (0 : Int)))], []⟩) rfl trivial rfl ?_
    rcases bif_some h with ⟨hd1, h⟩ | ⟨hd1, h⟩
    · obtain ⟨hg2, h⟩ := grd_some h
      refine Tri.run 2 [.g true] [.keep [0, 1] []] (K' := []) (σ' := ⟨[(0, .int .i64 v2), (1, .int .i64 (v1.tmod v2))], []⟩) rfl ⟨hg2, hd1, trivial⟩ rfl ?_
      have h := Option.some.inj h
      subst h
      exact Tri.nil ⟨rfl, rfl⟩
    · refine Tri.run 1 [.g false] [.keep [0] []] (K' := [.code [(1, 0), (0, 0), (0, 0), (0, 0), (1, 1)] 0, .code [(1, 0), (0, 0), (0, 0)] 1]) (σ' := ⟨[(0, .int .i64 v1)], []⟩) rfl ⟨hd1, trivial⟩ rfl ?_
      have h := Option.some.inj h
      subst h
      exact Tri.out 0 rfl ⟨nofun, rfl, rfl⟩
  · intro e σ' hne hq
    obtain ⟨rfl, rfl⟩ := hq
    refine TriX.exit (K' := [.code [] 2]) rfl ?_
    refine Tri.run 1 [] [.keep [4] []] (K' := [.code [] 3]) (σ' := ⟨[(4, .int .i64 (if IntKind.i64.wrap (0 - v3) > v3 then IntKind.i64.wrap (0 - v3) else v3))], []⟩) rfl trivial rfl ?_
    have h := Option.some.inj h
    subst h
    exact Tri.ret rfl ⟨.inl rfl, rfl, rfl⟩
/-! impl.IsValidRat -/
noncomputable def E135_impl_IsValidRat : Env := ⟨Try.prog, tys, (Try.f135.body).getD .skip, 19, tysOk, mixedOk⟩
abbrev q_impl_IsValidRat (r : Bool) (σ' : ASt) : Prop := resAV E135_impl_IsValidRat.T σ' Try.f135.results.toList = some (.bool r) ∧ keepO σ'.ob (namesO []) = []
noncomputable def m_impl_IsValidRat (a0 : Int) (a1 : Int) : Option Bool :=
(m_impl_within a1 (1 : Int) (1000000000 : Int)).bind fun v1 =>
bif v1 then
((m_impl_within a0 (-1000000000 : Int) (1000000000 : Int)).bind fun v2 =>
bif v2 then
((m_impl_common a0 a1).bind fun v3 =>
some (v3 == (1 : Int)))
else
(some false))
else
(some false)
theorem w_impl_IsValidRat (a0 : Int) (a1 : Int) (r : Bool) (h : m_impl_IsValidRat a0 a1 = some r) : AM.Spec Try.prog 135 [.agg [.int .i64 a0, .int .i64 a1]] [] (.bool r) [] := by
  refine spec_of (E := E135_impl_IsValidRat) Try.func135 rfl rfl rfl rfl ?_
  refine Tri.run 1 [] [.keep [1] [1]] (K' := [.code [(1, 0)] 0, .code [] 2]) (σ' := ⟨[(1, .ptr 1 0)], [(1, .box [.int .i64 a0, .int .i64 a1])]⟩) rfl trivial rfl ?_
  obtain ⟨v1, hk1, h⟩ := bind_some h
  rcases bif_some h with ⟨hd2, h⟩ | ⟨hd2, h⟩
  · obtain ⟨v2, hk3, h⟩ := bind_some h
    rcases bif_some h with ⟨hd4, h⟩ | ⟨hd4, h⟩
    · obtain ⟨v3, hk5, h⟩ := bind_some h
      refine Tri.run 1 [.r ⟨[], .bool v1, []⟩, .g true, .r ⟨[], .bool v2, []⟩, .g true, .r ⟨[], .int .i64 v3, []⟩] [.keep [2] []] (K' := [.code [] 2]) (σ' := ⟨[(2, .bool (v3 == (1 : Int)))], []⟩) rfl ⟨(w_impl_common a0 a1 v3 hk5), hd4, (w_impl_within a0 (-1000000000 : Int) (1000000000 : Int) v2 hk3), hd2, (w_impl_within a1 (1 : Int) (1000000000 : Int) v1 hk1), trivial⟩ rfl ?_
      have h := Option.some.inj h
      subst h
      exact Tri.ret rfl ⟨.inl rfl, rfl, rfl⟩
    · refine Tri.run 1 [.r ⟨[], .bool v1, []⟩, .g true, .r ⟨[], .bool v2, []⟩, .g false] [.keep [2] []] (K' := [.code [] 2]) (σ' := ⟨[(2, .bool false)], []⟩) rfl ⟨hd4, (w_impl_within a0 (-1000000000 : Int) (1000000000 : Int) v2 hk3), hd2, (w_impl_within a1 (1 : Int) (1000000000 : Int) v1 hk1), trivial⟩ rfl ?_
      have h := Option.some.inj h
      subst h
      exact Tri.ret rfl ⟨.inl rfl, rfl, rfl⟩
  · refine Tri.run 1 [.r ⟨[], .bool v1, []⟩, .g false, .g false] [.keep [2] []] (K' := [.code [] 2]) (σ' := ⟨[(2, .bool false)], []⟩) rfl ⟨rfl, hd2, (w_impl_within a1 (1 : Int) (1000000000 : Int) v1 hk1), trivial⟩ rfl ?_
    have h := Option.some.inj h
    subst h
    exact Tri.ret rfl ⟨.inl rfl, rfl, rfl⟩
/-! impl.AllValid$1 -/
noncomputable def E137_impl_AllValid_1 : Env := ⟨Try.prog, tys, (Try.f137.body).getD .skip, 6, tysOk, mixedOk⟩
abbrev q_impl_AllValid_1 (r : Bool) (σ' : ASt) : Prop := resAV E137_impl_AllValid_1.T σ' Try.f137.results.toList = some (.bool r) ∧ keepO σ'.ob (namesO []) = []
noncomputable def m_impl_AllValid_1 (a0 : Int) (a1 : Int) : Option Bool :=
(m_impl_IsValidRat a0 a1).bind fun v1 =>
some (!v1)
theorem w_impl_AllValid_1 (a0 : Int) (a1 : Int) (r : Bool) (h : m_impl_AllValid_1 a0 a1 = some r) : AM.Spec Try.prog 137 [.agg [.int .i64 a0, .int .i64 a1]] [] (.bool r) [] := by
  refine spec_of (E := E137_impl_AllValid_1) Try.func137 rfl rfl rfl rfl ?_
  refine Tri.run 1 [] [.keep [1] [1]] (K' := [.code [(1, 0)] 0, .code [] 2]) (σ' := ⟨[(1, .ptr 1 0)], [(1, .box [.int .i64 a0, .int .i64 a1])]⟩) rfl trivial rfl ?_
  obtain ⟨v1, hk1, h⟩ := bind_some h
  refine Tri.run 1 [.r ⟨[], .bool v1, []⟩] [.keep [2] []] (K' := [.code [] 2]) (σ' := ⟨[(2, .bool (!v1))], []⟩) rfl ⟨(w_impl_IsValidRat a0 a1 v1 hk1), trivial⟩ rfl ?_
  have h := Option.some.inj h
  subst h
  exact Tri.ret rfl ⟨.inl rfl, rfl, rfl⟩
/-! impl.Rat) -/
noncomputable def E145_slices_IndexFunc_impl_Rat_impl_Rat : Env := ⟨Try.prog, tys, (Try.f145.body).getD .skip, 19, tysOk, mixedOk⟩
abbrev q_slices_IndexFunc_impl_Rat_impl_Rat_impl_AllValid_1 (r : Int) (σ' : ASt) : Prop := resAV E145_slices_IndexFunc_impl_Rat_impl_Rat.T σ' Try.f145.results.toList = some (.int .i64 r) ∧ keepO σ'.ob (namesO []) = []
noncomputable def l_slices_IndexFunc_impl_Rat_impl_Rat_impl_AllValid_1_0 (a0 : List Q) (v1 : Int) : Option (Int ⊕ (Unit ⊕ Int)) :=
bif decide (v1 < (a0.length : Int)) then
(grd ((0 : Int) ≤ v1 ∧ v1 < (a0.length : Int)) <|
(m_impl_AllValid_1 ((a0.getD v1.toNat ⟨0, 0⟩).num) ((a0.getD v1.toNat ⟨0, 0⟩).den)).bind fun v2 =>
bif v2 then
(some (.inr (.inr v1)))
else
(some (.inl (IntKind.i64.wrap (v1 + (1 : Int))))))
else
(some (.inr (.inl ())))
noncomputable def m_slices_IndexFunc_impl_Rat_impl_Rat_impl_AllValid_1 (a0 : List Q) : Option Int :=
(iter (l_slices_IndexFunc_impl_Rat_impl_Rat_impl_AllValid_1_0 a0) (0 : Int)).bind fun
| (.inl _) => (
some (-1 : Int))
| (.inr r) => some r
theorem w_slices_IndexFunc_impl_Rat_impl_Rat_impl_AllValid_1 (a0 : List Q) (r : Int) (h : m_slices_IndexFunc_impl_Rat_impl_Rat_impl_AllValid_1 a0 = some r) : AM.Spec Try.prog 145 [.list (.rats a0), .func 137 [] []] [] (.int .i64 r) [] := by
  refine spec_of (E := E145_slices_IndexFunc_impl_Rat_impl_Rat) Try.func145 rfl rfl rfl rfl ?_
  refine Tri.run 2 [] [.keep [0, 1, 7, 8] []] (K' := [.code [(1, 0), (1, 0)] 0, .blk 0, .code [] 2]) (σ' := ⟨[(0, .list (.rats a0)), (1, .func 137 [] []), (7, .int .i64 (a0.length : Int)), (8, .int .i64 (0 : Int))], []⟩) rfl trivial rfl ?_
  obtain ⟨x1, hk5, h⟩ := bind_some h
  refine Tri.loop (K1 := [.code [(1, 0), (1, 0), (0, 0)] 0]) (K2 := [.blk 0, .code [] 2]) (fun v1 => ⟨[(0, .list (.rats a0)), (1, .func 137 [] []), (7, .int .i64 (a0.length : Int)), (8, .int .i64 v1)], []⟩) (fun x e σ' => match x with | (.inl _) => e = .exit 0 ∧ σ' = ⟨[], []⟩ | (.inr r) => e = .ret ∧ q_slices_IndexFunc_impl_Rat_impl_Rat_impl_AllValid_1 r σ') hk5 rfl rfl ?_ ?_
  · intro v1 x hs
    clear h
    have h := hs
    clear hs
    refine Tri.run 1 [] [.keep [0, 1, 7, 8, 9] []] (K' := [.code [(1, 0), (1, 0), (0, 0), (1, 0)] 0, .code [(1, 0), (1, 0), (0, 0)] 2]) (σ' := ⟨[(0, .list (.rats a0)), (1, .func 137 [] []), (7, .int .i64 (a0.length : Int)), (8, .int .i64 v1), (9, .bool (decide (v1 < (a0.length : Int))))], []⟩) rfl trivial rfl ?_
    rcases bif_some h with ⟨hd1, h⟩ | ⟨hd1, h⟩
    · refine Tri.run 2 [.g true] [.keep [0, 1, 5, 7, 8] []] (K' := [.code [(1, 0), (1, 0), (0, 0), (2, 0), (0, 0), (1, 0)] 0, .code [(1, 0), (1, 0), (0, 0), (2, 0), (0, 0)] 2, .blk 1, .code [(1, 0), (1, 0), (0, 0)] 3]) (σ' := ⟨[(0, .list (.rats a0)), (1, .func 137 [] []), (5, .int .i64 v1), (7, .int .i64 (a0.length : Int)), (8, .int .i64 v1)], []⟩) rfl ⟨hd1, trivial⟩ rfl ?_
      obtain ⟨hg2, h⟩ := grd_some h
      obtain ⟨v2, hk3, h⟩ := bind_some h
      refine Tri.run 1 [.r ⟨[], .bool v2, []⟩] [.keep [0, 1, 5, 7, 8, 16] []] (K' := [.code [(1, 0), (1, 0), (0, 0), (2, 0), (0, 0)] 2, .blk 1, .code [(1, 0), (1, 0), (0, 0)] 3]) (σ' := ⟨[(0, .list (.rats a0)), (1, .func 137 [] []), (5, .int .i64 v1), (7, .int .i64 (a0.length : Int)), (8, .int .i64 v1), (16, .bool v2)], []⟩) rfl ⟨(w_impl_AllValid_1 ((a0.getD v1.toNat ⟨0, 0⟩).num) ((a0.getD v1.toNat ⟨0, 0⟩).den) v2 hk3), hg2, trivial⟩ rfl ?_
      rcases bif_some h with ⟨hd4, h⟩ | ⟨hd4, h⟩
      · refine Tri.run 2 [.g true] [.keep [4] []] (K' := [.code [(1, 0), (1, 0), (0, 0), (2, 0), (0, 0), (2, 0)] 1, .blk 1, .code [(1, 0), (1, 0), (0, 0)] 3]) (σ' := ⟨[(4, .int .i64 v1)], []⟩) rfl ⟨hd4, trivial⟩ rfl ?_
        have h := Option.some.inj h
        subst h
        exact Tri.ret rfl ⟨nofun, rfl, rfl, rfl⟩
      · refine Tri.run 2 [.g false] [.keep [0, 1, 7, 8] []] (K' := []) (σ' := ⟨[(0, .list (.rats a0)), (1, .func 137 [] []), (7, .int .i64 (a0.length : Int)), (8, .int .i64 (IntKind.i64.wrap (v1 + (1 : Int))))], []⟩) rfl ⟨hd4, trivial⟩ rfl ?_
        have h := Option.some.inj h
        subst h
        exact Tri.nil ⟨rfl, rfl⟩
    · refine Tri.run 1 [.g false] [.keep [] []] (K' := [.code [(1, 0), (1, 0), (0, 0), (1, 0), (0, 1)] 0, .code [(1, 0), (1, 0), (0, 0)] 2]) (σ' := ⟨[], []⟩) rfl ⟨hd1, trivial⟩ rfl ?_
      have h := Option.some.inj h
      subst h
      exact Tri.out 0 rfl ⟨nofun, rfl, rfl⟩
  · intro e σ' hne hq
    rcases x1 with _ | r
    · obtain ⟨rfl, rfl⟩ := hq
      refine TriX.exit (K' := [.code [] 2]) rfl ?_
      refine Tri.run 1 [] [.keep [4] []] (K' := [.code [] 3]) (σ' := ⟨[(4, .int .i64 (-1 : Int))], []⟩) rfl trivial rfl ?_
      have h := Option.some.inj h
      subst h
      exact Tri.ret rfl ⟨.inl rfl, rfl, rfl⟩
    · obtain ⟨rfl, hq⟩ := hq
      have h := Option.some.inj h
      subst h
      exact TriX.ret ⟨.inl rfl, hq⟩
end Go.Proofs.Ytoefgmmmcpikfaa
