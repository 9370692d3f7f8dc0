/- models and walks -/
import Derived.Test.YtnbkkljhdnkiaaaProg
import Derived.Test.YtnbkkljhdnkiaaaAmB
import Derived.Test.YtnbkkljhdnkiaaaAmS
namespace Go.Proofs.Ytnbkkljhdnkiaaa
open Go.AM Go.Shelf Go.Proofs
set_option maxRecDepth 100000
set_option maxHeartbeats 4000000
noncomputable def tys : TEnv := [(3, .int .i64),
  (22, .slice 3 (.ints [])),
  (24, .struct [(0, 3), (1, 22)] [.i 0, .nil (.ints [])] false),
  (25, .slice 64 (.rats [])),
  (28, .slice 44 (.rats [])),
  (30, .struct [(0, 3), (1, 22)] [.i 0, .nil (.ints [])] false),
  (44, .struct [(0, 3), (1, 3)] [.i 0, .i 0] true),
  (64, .struct [(0, 3), (1, 3)] [.i 0, .i 0] true)]
theorem tysOk : TOk Try.prog tys := tok_of (by kernel_rfl)
theorem mixedOk : Try.prog.follows .mixedOrders = true := by kernel_rfl
/-! laws.szIntS -/
noncomputable def E38_laws_szIntS : Env := ⟨Try.prog, tys, (Try.f38.body).getD .skip, 12, tysOk, mixedOk⟩
abbrev q_laws_szIntS (r : Int) (σ' : ASt) : Prop := isRes E38_laws_szIntS.T Try.f38 (.i r) [] σ'
noncomputable def m_laws_szIntS (a0 : List Int) (a1 : Int) : Option Int :=
bif decide ((IntKind.i64.wrap (a1 - (a0.length : Int))) < (0 : Int)) then
(some (-1 : Int))
else
(some (IntKind.i64.wrap (a1 - (a0.length : Int))))
theorem w_laws_szIntS (a0 : List Int) (a1 : Int) (r : Int) (h : m_laws_szIntS a0 a1 = some r) : AM.Spec Try.prog 38 [.list (.ints a0), .i a1] [] (.i r) [] := by
  refine spec_of (E := E38_laws_szIntS) Try.func38 rfl rfl rfl rfl ?_
  refine Tri.u 3 [] [.keep [1, 10] []] [.code [(2, 0)] 1, .code [] 3] ⟨[(1, .i (IntKind.i64.wrap (a1 - (a0.length : Int)))), (10, .bool (decide ((IntKind.i64.wrap (a1 - (a0.length : Int))) < (0 : Int))))], []⟩ rfl trivial rfl ?_
  rcases bif_some h with ⟨hd1, h⟩ | ⟨hd1, h⟩
  · refine Tri.u 2 [.g true] [.keep [4] []] [.code [(2, 0), (1, 0)] 1, .code [] 3] ⟨[(4, .i (-1 : Int))], []⟩ rfl ⟨hd1, trivial⟩ rfl ?_
    cases h
    exact Tri.ret rfl ⟨.inl rfl, rfl, rfl⟩
  · refine Tri.u 2 [.g false] [.keep [4] []] [.code [] 4] ⟨[(4, .i (IntKind.i64.wrap (a1 - (a0.length : Int))))], []⟩ rfl ⟨hd1, trivial⟩ rfl ?_
    cases h
    exact Tri.ret rfl ⟨.inl rfl, rfl, rfl⟩
/-! laws.szGame -/
noncomputable def E5_laws_szGame : Env := ⟨Try.prog, tys, (Try.f5.body).getD .skip, 12, tysOk, mixedOk⟩
abbrev q_laws_szGame (r : Int) (σ' : ASt) : Prop := isRes E5_laws_szGame.T Try.f5 (.i r) [] σ'
noncomputable def m_laws_szGame (_a0 : Int) (a1 : List Int) (a2 : Int) : Option Int :=
(m_laws_szIntS a1 a2).bind fun v1 =>
bif decide (v1 < (0 : Int)) then
(some (-1 : Int))
else
(some v1)
theorem w_laws_szGame (a0 : Int) (a1 : List Int) (a2 : Int) (r : Int) (h : m_laws_szGame a0 a1 a2 = some r) : AM.Spec Try.prog 5 [.agg [.i a0, .list (.ints a1)], .i a2] [] (.i r) [] := by
  refine spec_of (E := E5_laws_szGame) Try.func5 rfl rfl rfl rfl ?_
  refine Tri.u 1 [] [.keep [1, 2] [2]] [.code [(1, 0)] 0, .code [] 2] ⟨[(1, .i a2), (2, .ptr 2 0)], [(2, .box [.i a0, .list (.ints a1)])]⟩ rfl trivial rfl ?_
  obtain ⟨v1, hk1, h⟩ := bind_some h
  refine Tri.u 2 [.r ⟨[], .i v1, []⟩] [.keep [1, 10] []] [.code [(2, 0)] 1, .code [] 3] ⟨[(1, .i v1), (10, .bool (decide (v1 < (0 : Int))))], []⟩ rfl ⟨(fun _ => (w_laws_szIntS a1 a2 v1 hk1)), trivial⟩ rfl ?_
  rcases bif_some h with ⟨hd2, h⟩ | ⟨hd2, h⟩
  · refine Tri.u 2 [.g true] [.keep [4] []] [.code [(2, 0), (1, 0)] 1, .code [] 3] ⟨[(4, .i (-1 : Int))], []⟩ rfl ⟨hd2, trivial⟩ rfl ?_
    cases h
    exact Tri.ret rfl ⟨.inl rfl, rfl, rfl⟩
  · refine Tri.u 2 [.g false] [.keep [4] []] [.code [] 4] ⟨[(4, .i v1)], []⟩ rfl ⟨hd2, trivial⟩ rfl ?_
    cases h
    exact Tri.ret rfl ⟨.inl rfl, rfl, rfl⟩
/-! laws.szRatS -/
noncomputable def E6_laws_szRatS : Env := ⟨Try.prog, tys, (Try.f6.body).getD .skip, 12, tysOk, mixedOk⟩
abbrev q_laws_szRatS (r : Int) (σ' : ASt) : Prop := isRes E6_laws_szRatS.T Try.f6 (.i r) [] σ'
noncomputable def m_laws_szRatS (a0 : List Q) (a1 : Int) : Option Int :=
bif decide ((IntKind.i64.wrap (a1 - (a0.length : Int))) < (0 : Int)) then
(some (-1 : Int))
else
(some (IntKind.i64.wrap (a1 - (a0.length : Int))))
theorem w_laws_szRatS (a0 : List Q) (a1 : Int) (r : Int) (h : m_laws_szRatS a0 a1 = some r) : AM.Spec Try.prog 6 [.list (.rats a0), .i a1] [] (.i r) [] := by
  refine spec_of (E := E6_laws_szRatS) Try.func6 rfl rfl rfl rfl ?_
  refine Tri.u 3 [] [.keep [1, 10] []] [.code [(2, 0)] 1, .code [] 3] ⟨[(1, .i (IntKind.i64.wrap (a1 - (a0.length : Int)))), (10, .bool (decide ((IntKind.i64.wrap (a1 - (a0.length : Int))) < (0 : Int))))], []⟩ rfl trivial rfl ?_
  rcases bif_some h with ⟨hd1, h⟩ | ⟨hd1, h⟩
  · refine Tri.u 2 [.g true] [.keep [4] []] [.code [(2, 0), (1, 0)] 1, .code [] 3] ⟨[(4, .i (-1 : Int))], []⟩ rfl ⟨hd1, trivial⟩ rfl ?_
    cases h
    exact Tri.ret rfl ⟨.inl rfl, rfl, rfl⟩
  · refine Tri.u 2 [.g false] [.keep [4] []] [.code [] 4] ⟨[(4, .i (IntKind.i64.wrap (a1 - (a0.length : Int))))], []⟩ rfl ⟨hd1, trivial⟩ rfl ?_
    cases h
    exact Tri.ret rfl ⟨.inl rfl, rfl, rfl⟩
/-! laws.toIntS -/
noncomputable def E41_laws_toIntS : Env := ⟨Try.prog, tys, (Try.f41.body).getD .skip, 22, tysOk, mixedOk⟩
abbrev q_laws_toIntS (r : List Int) (σ' : ASt) : Prop := isRes E41_laws_toIntS.T Try.f41 (.sl 1000 0) [(1000, .arr 3 0 0 (.ints r))] σ'
noncomputable def l_laws_toIntS_0 (a0 : List Int) : (Int × (List Int)) → Option ((Int × (List Int)) ⊕ ((List Int)))
  | (v1, v2) => (
bif decide (v1 < (a0.length : Int)) then
(grd ((0 : Int) ≤ v1 ∧ v1 < (a0.length : Int)) <|
grd ((0 : Int) ≤ v1 ∧ v1 < (v2.length : Int)) <|
some (.inl (IntKind.i64.wrap (v1 + (1 : Int)), v2.set v1.toNat (a0.getD v1.toNat 0))))
else
(some (.inr v2)))
noncomputable def m_laws_toIntS (a0 : List Int) : Option (List Int) :=
grd ((0 : Int) ≤ (a0.length : Int) ∧ (a0.length : Int) = (a0.length : Int) ∧ (a0.length : Int) ≤ (room : Int)) <|
(iter (l_laws_toIntS_0 a0) ((0 : Int), List.replicate (a0.length : Int).toNat (0 : Int))).bind fun
| v3 => (
some v3)
theorem w_laws_toIntS (a0 : List Int) (r : List Int) (h : m_laws_toIntS a0 = some r) : AM.Spec Try.prog 41 [.list (.ints a0)] [] (.sl 1000 0) [(1000, .arr 3 0 0 (.ints r))] := by
  refine spec_of (E := E41_laws_toIntS) Try.func41 rfl rfl rfl rfl ?_
  obtain ⟨hg1, h⟩ := grd_some h
  refine Tri.u 3 [] [.keep [0, 3, 4] [7]] [.code [(2, 0), (1, 0)] 0, .blk 0, .code [] 3] ⟨[(0, .list (.ints a0)), (3, .sl 7 0), (4, .i (0 : Int))], [(7, .arr 3 0 0 (.ints (List.replicate (a0.length : Int).toNat (0 : Int))))]⟩ rfl ⟨hg1, trivial⟩ rfl ?_
  obtain ⟨v3, hk5, h⟩ := bind_some h
  refine Tri.loop (K1 := [.code [(2, 0), (1, 0), (0, 0)] 0]) (K2 := [.blk 0, .code [] 3]) (fun (v1, v2) => ⟨[(0, .list (.ints a0)), (3, .sl 7 0), (4, .i v1)], [(7, .arr 3 0 0 (.ints v2))]⟩) (fun x e σ' => match x with | v3 => e = .exit 0 ∧ σ' = ⟨[(3, .sl 7 0)], [(7, .arr 3 0 0 (.ints v3))]⟩) hk5 rfl rfl ?_ ?_
  · intro s x hs
    clear h
    have h := hs
    clear hs
    obtain ⟨v1, v2⟩ := s
    refine Tri.u 1 [] [.keep [0, 3, 4, 11] [7]] [.code [(2, 0), (1, 0), (0, 0), (0, 0)] 1, .code [(2, 0), (1, 0), (0, 0)] 1] ⟨[(0, .list (.ints a0)), (3, .sl 7 0), (4, .i v1), (11, .bool (decide (v1 < (a0.length : Int))))], [(7, .arr 3 0 0 (.ints v2))]⟩ rfl trivial rfl ?_
    rcases bif_some h with ⟨hd2, h⟩ | ⟨hd2, h⟩
    · obtain ⟨hg3, h⟩ := grd_some h
      obtain ⟨hg4, h⟩ := grd_some h
      refine Tri.u 3 [.g true] [.keep [0, 3, 4] [7]] [] ⟨[(0, .list (.ints a0)), (3, .sl 7 0), (4, .i (IntKind.i64.wrap (v1 + (1 : Int))))], [(7, .arr 3 0 0 (.ints (v2.set v1.toNat (a0.getD v1.toNat 0))))]⟩ rfl ⟨hg4, hg3, hd2, trivial⟩ rfl ?_
      cases h
      exact Tri.nil ⟨rfl, rfl⟩
    · refine Tri.u 1 [.g false] [.keep [3] [7]] [.code [(2, 0), (1, 0), (0, 0), (0, 0), (1, 1)] 0, .code [(2, 0), (1, 0), (0, 0)] 1] ⟨[(3, .sl 7 0)], [(7, .arr 3 0 0 (.ints v2))]⟩ rfl ⟨hd2, trivial⟩ rfl ?_
      cases h
      exact Tri.out 0 rfl ⟨nofun, rfl, rfl⟩
  · intro e σ' hne hq
    obtain ⟨rfl, rfl⟩ := hq
    refine TriX.exit (K' := [.code [] 3]) rfl ?_
    refine Tri.u 1 [] [.swap 7 1000, .keep [2] [1000]] [.code [] 4] ⟨[(2, .sl 1000 0)], [(1000, .arr 3 0 0 (.ints v3))]⟩ rfl trivial rfl ?_
    cases h
    exact Tri.ret rfl ⟨.inl rfl, rfl, rfl⟩
/-! laws.toGame -/
noncomputable def E8_laws_toGame : Env := ⟨Try.prog, tys, (Try.f8.body).getD .skip, 12, tysOk, mixedOk⟩
abbrev q_laws_toGame (r : Int × (List Int)) (σ' : ASt) : Prop := isRes E8_laws_toGame.T Try.f8 (.agg [.i r.1, .sl 1000 0]) [(1000, .arr 3 0 0 (.ints r.2))] σ'
noncomputable def m_laws_toGame (a0 : Int) (a1 : List Int) : Option (Int × (List Int)) :=
(m_laws_toIntS a1).bind fun v1 =>
some (a0, v1)
theorem w_laws_toGame (a0 : Int) (a1 : List Int) (r : Int × (List Int)) (h : m_laws_toGame a0 a1 = some r) : AM.Spec Try.prog 8 [.agg [.i a0, .list (.ints a1)]] [] (.agg [.i r.1, .sl 1000 0]) [(1000, .arr 3 0 0 (.ints r.2))] := by
  refine spec_of (E := E8_laws_toGame) Try.func8 rfl rfl rfl rfl ?_
  refine Tri.u 3 [] [.keep [1, 2, 3] [1, 2, 3], .ownc 2 1 1100 3, .ownc 3 1 1101 3, .keep [1, 2, 3] [1, 2, 3, 1100, 1101]] [.code [(3, 0)] 0, .code [] 4] ⟨[(1, .ptr 1 0), (2, .ptr 2 0), (3, .ptr 3 0)], [(1, .box [.i a0, .list (.ints a1)]), (2, .box [.i 0, .sl 1100 0]), (3, .box [.i a0, .sl 1101 0]), (1100, .arr 3 0 0 (.ints [])), (1101, .arr 3 0 0 (.ints []))]⟩ rfl trivial rfl ?_
  obtain ⟨v1, hk1, h⟩ := bind_some h
  refine Tri.u 2 [.r ⟨[], .sl 1102 0, [(1102, .arr 3 0 0 (.ints v1))]⟩] [.swap 1102 1000, .keep [2] [2, 1000]] [.code [] 5] ⟨[(2, .ptr 2 0)], [(2, .box [.i a0, .sl 1000 0]), (1000, .arr 3 0 0 (.ints v1))]⟩ rfl ⟨(fun _ => ((w_laws_toIntS a1 v1 hk1).swap 1000 1102)), trivial⟩ rfl ?_
  cases h
  exact Tri.ret rfl ⟨.inl rfl, rfl, rfl⟩
/-! laws.toRat -/
noncomputable def E42_laws_toRat : Env := ⟨Try.prog, tys, (Try.f42.body).getD .skip, 11, tysOk, mixedOk⟩
abbrev q_laws_toRat (r : Int × Int) (σ' : ASt) : Prop := isRes E42_laws_toRat.T Try.f42 (.agg [.i r.1, .i r.2]) [] σ'
noncomputable def m_laws_toRat (a0 : Int) (a1 : Int) : Option (Int × Int) :=
some (a0, a1)
theorem w_laws_toRat (a0 : Int) (a1 : Int) (r : Int × Int) (h : m_laws_toRat a0 a1 = some r) : AM.Spec Try.prog 42 [.agg [.i a0, .i a1]] [] (.agg [.i r.1, .i r.2]) [] := by
  refine spec_of (E := E42_laws_toRat) Try.func42 rfl rfl rfl rfl ?_
  refine Tri.u 3 [] [.keep [1, 2, 3] [1, 2, 3]] [.code [(3, 0)] 0, .code [] 4] ⟨[(1, .ptr 1 0), (2, .ptr 2 0), (3, .ptr 3 0)], [(1, .box [.i a0, .i a1]), (2, .box [.i 0, .i 0]), (3, .box [.i a0, .i 0])]⟩ rfl trivial rfl ?_
  refine Tri.u 2 [] [.keep [2] [2]] [.code [] 5] ⟨[(2, .ptr 2 0)], [(2, .box [.i a0, .i a1])]⟩ rfl trivial rfl ?_
  cases h
  exact Tri.ret rfl ⟨.inl rfl, rfl, rfl⟩
/-! laws.toRatS -/
noncomputable def E9_laws_toRatS : Env := ⟨Try.prog, tys, (Try.f9.body).getD .skip, 23, tysOk, mixedOk⟩
abbrev q_laws_toRatS (r : List Q) (σ' : ASt) : Prop := isRes E9_laws_toRatS.T Try.f9 (.sl 1000 0) [(1000, .arr 44 0 0 (.rats r))] σ'
noncomputable def l_laws_toRatS_0 (a0 : List Q) : (Int × (List Q)) → Option ((Int × (List Q)) ⊕ ((List Q)))
  | (v1, v2) => (
bif decide (v1 < (a0.length : Int)) then
(grd ((0 : Int) ≤ v1 ∧ v1 < (a0.length : Int)) <|
(m_laws_toRat ((a0.getD v1.toNat ⟨0, 0⟩).num) ((a0.getD v1.toNat ⟨0, 0⟩).den)).bind fun (v3, v4) =>
grd ((0 : Int) ≤ v1 ∧ v1 < (v2.length : Int)) <|
some (.inl (IntKind.i64.wrap (v1 + (1 : Int)), v2.set v1.toNat ⟨v3, v4⟩)))
else
(some (.inr v2)))
noncomputable def m_laws_toRatS (a0 : List Q) : Option (List Q) :=
grd ((0 : Int) ≤ (a0.length : Int) ∧ (a0.length : Int) = (a0.length : Int) ∧ (a0.length : Int) ≤ (room : Int)) <|
(iter (l_laws_toRatS_0 a0) ((0 : Int), List.replicate (a0.length : Int).toNat (⟨0, 0⟩ : Q))).bind fun
| v5 => (
some v5)
theorem w_laws_toRatS (a0 : List Q) (r : List Q) (h : m_laws_toRatS a0 = some r) : AM.Spec Try.prog 9 [.list (.rats a0)] [] (.sl 1000 0) [(1000, .arr 44 0 0 (.rats r))] := by
  refine spec_of (E := E9_laws_toRatS) Try.func9 rfl rfl rfl rfl ?_
  obtain ⟨hg1, h⟩ := grd_some h
  refine Tri.u 3 [] [.keep [0, 3, 4] [7]] [.code [(2, 0), (1, 0)] 0, .blk 0, .code [] 3] ⟨[(0, .list (.rats a0)), (3, .sl 7 0), (4, .i (0 : Int))], [(7, .arr 44 0 0 (.rats (List.replicate (a0.length : Int).toNat (⟨0, 0⟩ : Q))))]⟩ rfl ⟨hg1, trivial⟩ rfl ?_
  obtain ⟨v5, hk6, h⟩ := bind_some h
  refine Tri.loop (K1 := [.code [(2, 0), (1, 0), (0, 0)] 0]) (K2 := [.blk 0, .code [] 3]) (fun (v1, v2) => ⟨[(0, .list (.rats a0)), (3, .sl 7 0), (4, .i v1)], [(7, .arr 44 0 0 (.rats v2))]⟩) (fun x e σ' => match x with | v5 => e = .exit 0 ∧ σ' = ⟨[(3, .sl 7 0)], [(7, .arr 44 0 0 (.rats v5))]⟩) hk6 rfl rfl ?_ ?_
  · intro s x hs
    clear h
    have h := hs
    clear hs
    obtain ⟨v1, v2⟩ := s
    refine Tri.u 1 [] [.keep [0, 3, 4, 11] [7]] [.code [(2, 0), (1, 0), (0, 0), (0, 0)] 1, .code [(2, 0), (1, 0), (0, 0)] 1] ⟨[(0, .list (.rats a0)), (3, .sl 7 0), (4, .i v1), (11, .bool (decide (v1 < (a0.length : Int))))], [(7, .arr 44 0 0 (.rats v2))]⟩ rfl trivial rfl ?_
    rcases bif_some h with ⟨hd2, h⟩ | ⟨hd2, h⟩
    · obtain ⟨hg3, h⟩ := grd_some h
      obtain ⟨⟨v3, v4⟩, hk4, h⟩ := bind_some h
      obtain ⟨hg5, h⟩ := grd_some h
      refine Tri.u 3 [.g true, .r ⟨[], .agg [.i v3, .i v4], []⟩] [.keep [0, 3, 4] [7]] [] ⟨[(0, .list (.rats a0)), (3, .sl 7 0), (4, .i (IntKind.i64.wrap (v1 + (1 : Int))))], [(7, .arr 44 0 0 (.rats (v2.set v1.toNat ⟨v3, v4⟩)))]⟩ rfl ⟨hg5, (fun _ => (w_laws_toRat ((a0.getD v1.toNat ⟨0, 0⟩).num) ((a0.getD v1.toNat ⟨0, 0⟩).den) (v3, v4) hk4)), hg3, hd2, trivial⟩ rfl ?_
      cases h
      exact Tri.nil ⟨rfl, rfl⟩
    · refine Tri.u 1 [.g false] [.keep [3] [7]] [.code [(2, 0), (1, 0), (0, 0), (0, 0), (1, 1)] 0, .code [(2, 0), (1, 0), (0, 0)] 1] ⟨[(3, .sl 7 0)], [(7, .arr 44 0 0 (.rats v2))]⟩ rfl ⟨hd2, trivial⟩ rfl ?_
      cases h
      exact Tri.out 0 rfl ⟨nofun, rfl, rfl⟩
  · intro e σ' hne hq
    obtain ⟨rfl, rfl⟩ := hq
    refine TriX.exit (K' := [.code [] 3]) rfl ?_
    refine Tri.u 1 [] [.swap 7 1000, .keep [2] [1000]] [.code [] 4] ⟨[(2, .sl 1000 0)], [(1000, .arr 44 0 0 (.rats v5))]⟩ rfl trivial rfl ?_
    cases h
    exact Tri.ret rfl ⟨.inl rfl, rfl, rfl⟩
/-! spec.l1In -/
noncomputable def E75_spec_l1In : Env := ⟨Try.prog, tys, (Try.f75.body).getD .skip, 15, tysOk, mixedOk⟩
abbrev q_spec_l1In (r : Bool) (σ' : ASt) : Prop := isRes E75_spec_l1In.T Try.f75 (.bool r) [] σ'
noncomputable def m_spec_l1In (a0 : Int) (a1 : Int) (a2 : Int) : Option Bool :=
bif decide (a0 ≥ a1) then
(some (decide (a0 ≤ a2)))
else
(some false)
theorem w_spec_l1In (a0 : Int) (a1 : Int) (a2 : Int) (r : Bool) (h : m_spec_l1In a0 a1 a2 = some r) : AM.Spec Try.prog 75 [.i a0, .i a1, .i a2] [] (.bool r) [] := by
  refine spec_of (E := E75_spec_l1In) Try.func75 rfl rfl rfl rfl ?_
  refine Tri.u 1 [] [.keep [0, 1, 2] []] [.code [(1, 0)] 0, .code [] 2] ⟨[(0, .i a0), (1, .i a1), (2, .i a2)], []⟩ rfl trivial rfl ?_
  rcases bif_some h with ⟨hd1, h⟩ | ⟨hd1, h⟩
  · refine Tri.u 1 [.g true] [.keep [6] []] [.code [] 2] ⟨[(6, .bool (decide (a0 ≤ a2)))], []⟩ rfl ⟨hd1, trivial⟩ rfl ?_
    cases h
    exact Tri.ret rfl ⟨.inl rfl, rfl, rfl⟩
  · refine Tri.u 1 [.g false] [.keep [6] []] [.code [] 2] ⟨[(6, .bool false)], []⟩ rfl ⟨hd1, trivial⟩ rfl ?_
    cases h
    exact Tri.ret rfl ⟨.inl rfl, rfl, rfl⟩
/-! spec.CountCoalitions -/
noncomputable def E89_spec_CountCoalitions : Env := ⟨Try.prog, tys, (Try.f89.body).getD .skip, 16, tysOk, mixedOk⟩
abbrev q_spec_CountCoalitions (r : Int) (σ' : ASt) : Prop := isRes E89_spec_CountCoalitions.T Try.f89 (.i r) [] σ'
noncomputable def l_spec_CountCoalitions_0 (a0 : Int) : (Int × Int) → Option ((Int × Int) ⊕ Int)
  | (v2, v3) => (
bif decide (v3 < a0) then
(some (.inl (IntKind.i64.wrap (v2 * (2 : Int)), IntKind.i64.wrap (v3 + (1 : Int)))))
else
(some (.inr v2)))
noncomputable def m_spec_CountCoalitions (a0 : Int) : Option Int :=
(m_spec_l1In a0 (0 : Int) (5 : Int)).bind fun v1 =>
bif !v1 then
(some (0 : Int))
else
((iter (l_spec_CountCoalitions_0 a0) ((1 : Int), (0 : Int))).bind fun
| v4 => (
some v4))
theorem w_spec_CountCoalitions (a0 : Int) (r : Int) (h : m_spec_CountCoalitions a0 = some r) : AM.Spec Try.prog 89 [.i a0] [] (.i r) [] := by
  refine spec_of (E := E89_spec_CountCoalitions) Try.func89 rfl rfl rfl rfl ?_
  refine Tri.u 1 [] [.keep [0] []] [.code [(1, 0), (0, 0)] 0, .code [(1, 0)] 1, .code [] 2] ⟨[(0, .i a0)], []⟩ rfl trivial rfl ?_
  obtain ⟨v1, hk1, h⟩ := bind_some h
  refine Tri.u 1 [.r ⟨[], .bool v1, []⟩] [.keep [0, 7] []] [.code [(1, 0)] 1, .code [] 2] ⟨[(0, .i a0), (7, .bool (!v1))], []⟩ rfl ⟨(fun _ => (w_spec_l1In a0 (0 : Int) (5 : Int) v1 hk1)), trivial⟩ rfl ?_
  rcases bif_some h with ⟨hd2, h⟩ | ⟨hd2, h⟩
  · refine Tri.u 2 [.g true] [.keep [2] []] [.code [(1, 0), (1, 0)] 1, .code [] 2] ⟨[(2, .i (0 : Int))], []⟩ rfl ⟨hd2, trivial⟩ rfl ?_
    cases h
    exact Tri.ret rfl ⟨.inl rfl, rfl, rfl⟩
  · refine Tri.u 3 [.g false] [.keep [0, 3, 4] []] [.code [(3, 0), (1, 0)] 0, .blk 0, .code [] 4] ⟨[(0, .i a0), (3, .i (1 : Int)), (4, .i (0 : Int))], []⟩ rfl ⟨hd2, trivial⟩ rfl ?_
    obtain ⟨v4, hk4, h⟩ := bind_some h
    refine Tri.loop (K1 := [.code [(3, 0), (1, 0), (0, 0)] 0]) (K2 := [.blk 0, .code [] 4]) (fun (v2, v3) => ⟨[(0, .i a0), (3, .i v2), (4, .i v3)], []⟩) (fun x e σ' => match x with | v4 => e = .exit 0 ∧ σ' = ⟨[(3, .i v4)], []⟩) hk4 rfl rfl ?_ ?_
    · intro s x hs
      clear h
      have h := hs
      clear hs
      obtain ⟨v2, v3⟩ := s
      refine Tri.u 1 [] [.keep [0, 3, 4, 10] []] [.code [(3, 0), (1, 0), (0, 0), (0, 0)] 1, .code [(3, 0), (1, 0), (0, 0)] 1] ⟨[(0, .i a0), (3, .i v2), (4, .i v3), (10, .bool (decide (v3 < a0)))], []⟩ rfl trivial rfl ?_
      rcases bif_some h with ⟨hd3, h⟩ | ⟨hd3, h⟩
      · refine Tri.u 3 [.g true] [.keep [0, 3, 4] []] [] ⟨[(0, .i a0), (3, .i (IntKind.i64.wrap (v2 * (2 : Int)))), (4, .i (IntKind.i64.wrap (v3 + (1 : Int))))], []⟩ rfl ⟨hd3, trivial⟩ rfl ?_
        cases h
        exact Tri.nil ⟨rfl, rfl⟩
      · refine Tri.u 1 [.g false] [.keep [3] []] [.code [(3, 0), (1, 0), (0, 0), (0, 0), (1, 1)] 0, .code [(3, 0), (1, 0), (0, 0)] 1] ⟨[(3, .i v2)], []⟩ rfl ⟨hd3, trivial⟩ rfl ?_
        cases h
        exact Tri.out 0 rfl ⟨nofun, rfl, rfl⟩
    · intro e σ' hne hq
      obtain ⟨rfl, rfl⟩ := hq
      refine TriX.exit (K' := [.code [] 4]) rfl ?_
      refine Tri.u 1 [] [.keep [2] []] [.code [] 5] ⟨[(2, .i v4)], []⟩ rfl trivial rfl ?_
      cases h
      exact Tri.ret rfl ⟨.inl rfl, rfl, rfl⟩
/-! spec.IsValidGame -/
noncomputable def E57_spec_IsValidGame : Env := ⟨Try.prog, tys, (Try.f57.body).getD .skip, 37, tysOk, mixedOk⟩
abbrev q_spec_IsValidGame (r : Bool) (σ' : ASt) : Prop := isRes E57_spec_IsValidGame.T Try.f57 (.bool r) [] σ'
noncomputable def l_spec_IsValidGame_0 (a1 : List Int) (v1 : Int) : Option (Int ⊕ (Unit ⊕ Bool)) :=
bif decide (v1 < (a1.length : Int)) then
(grd ((0 : Int) ≤ v1 ∧ v1 < (a1.length : Int)) <|
(m_spec_l1In (a1.getD v1.toNat 0) (-500 : Int) (500 : Int)).bind fun v2 =>
bif !v2 then
(some (.inr (.inr false)))
else
(some (.inl (IntKind.i64.wrap (v1 + (1 : Int))))))
else
(some (.inr (.inl ())))
noncomputable def m_spec_IsValidGame (a0 : Int) (a1 : List Int) : Option Bool :=
(iter (l_spec_IsValidGame_0 a1) (0 : Int)).bind fun
| (.inl _) => (
(m_spec_l1In a0 (1 : Int) (5 : Int)).bind fun v3 =>
bif v3 then
((m_spec_CountCoalitions a0).bind fun v4 =>
bif (a1.length : Int) == v4 then
(grd ((0 : Int) ≤ (0 : Int) ∧ (0 : Int) < (a1.length : Int)) <|
some ((a1.getD ((0 : Int).toNat) 0) == (0 : Int)))
else
(some false))
else
(some false))
| (.inr r) => some r
theorem w_spec_IsValidGame (a0 : Int) (a1 : List Int) (r : Bool) (h : m_spec_IsValidGame a0 a1 = some r) : AM.Spec Try.prog 57 [.agg [.i a0, .list (.ints a1)]] [] (.bool r) [] := by
  refine spec_of (E := E57_spec_IsValidGame) Try.func57 rfl rfl rfl rfl ?_
  refine Tri.u 2 [] [.keep [1, 3] [1]] [.code [(1, 0), (1, 0)] 0, .blk 0, .code [] 2] ⟨[(1, .ptr 1 0), (3, .i (0 : Int))], [(1, .box [.i a0, .list (.ints a1)])]⟩ rfl trivial rfl ?_
  obtain ⟨x1, hk5, h⟩ := bind_some h
  refine Tri.loop (K1 := [.code [(1, 0), (1, 0), (0, 0)] 0]) (K2 := [.blk 0, .code [] 2]) (fun v1 => ⟨[(1, .ptr 1 0), (3, .i v1)], [(1, .box [.i a0, .list (.ints a1)])]⟩) (fun x e σ' => match x with | (.inl _) => e = .exit 0 ∧ σ' = ⟨[(1, .ptr 1 0)], [(1, .box [.i a0, .list (.ints a1)])]⟩ | (.inr r) => e = .ret ∧ q_spec_IsValidGame r σ') hk5 rfl rfl ?_ ?_
  · intro v1 x hs
    clear h
    have h := hs
    clear hs
    refine Tri.u 1 [] [.keep [1, 3, 8] [1]] [.code [(1, 0), (1, 0), (0, 0), (0, 0)] 1, .code [(1, 0), (1, 0), (0, 0)] 1] ⟨[(1, .ptr 1 0), (3, .i v1), (8, .bool (decide (v1 < (a1.length : Int))))], [(1, .box [.i a0, .list (.ints a1)])]⟩ rfl trivial rfl ?_
    rcases bif_some h with ⟨hd1, h⟩ | ⟨hd1, h⟩
    · obtain ⟨hg2, h⟩ := grd_some h
      obtain ⟨v2, hk3, h⟩ := bind_some h
      refine Tri.u 2 [.g true, .r ⟨[], .bool v2, []⟩] [.keep [1, 3, 17] [1]] [.code [(1, 0), (1, 0), (0, 0), (1, 0), (0, 0)] 1, .blk 1, .code [(1, 0), (1, 0), (0, 0)] 2] ⟨[(1, .ptr 1 0), (3, .i v1), (17, .bool (!v2))], [(1, .box [.i a0, .list (.ints a1)])]⟩ rfl ⟨(fun _ => (w_spec_l1In (a1.getD v1.toNat 0) (-500 : Int) (500 : Int) v2 hk3)), hg2, hd1, trivial⟩ rfl ?_
      rcases bif_some h with ⟨hd4, h⟩ | ⟨hd4, h⟩
      · refine Tri.u 2 [.g true] [.keep [2] []] [.code [(1, 0), (1, 0), (0, 0), (1, 0), (0, 0), (1, 0)] 1, .blk 1, .code [(1, 0), (1, 0), (0, 0)] 2] ⟨[(2, .bool false)], []⟩ rfl ⟨hd4, trivial⟩ rfl ?_
        cases h
        exact Tri.ret rfl ⟨nofun, rfl, rfl, rfl⟩
      · refine Tri.u 2 [.g false] [.keep [1, 3] [1]] [] ⟨[(1, .ptr 1 0), (3, .i (IntKind.i64.wrap (v1 + (1 : Int))))], [(1, .box [.i a0, .list (.ints a1)])]⟩ rfl ⟨hd4, trivial⟩ rfl ?_
        cases h
        exact Tri.nil ⟨rfl, rfl⟩
    · refine Tri.u 1 [.g false] [.keep [1] [1]] [.code [(1, 0), (1, 0), (0, 0), (0, 0), (1, 1)] 0, .code [(1, 0), (1, 0), (0, 0)] 1] ⟨[(1, .ptr 1 0)], [(1, .box [.i a0, .list (.ints a1)])]⟩ rfl ⟨hd1, trivial⟩ rfl ?_
      cases h
      exact Tri.out 0 rfl ⟨nofun, rfl, rfl⟩
  · intro e σ' hne hq
    rcases x1 with _ | r
    · obtain ⟨rfl, rfl⟩ := hq
      refine TriX.exit (K' := [.code [] 2]) rfl ?_
      obtain ⟨v3, hk6, h⟩ := bind_some h
      rcases bif_some h with ⟨hd7, h⟩ | ⟨hd7, h⟩
      · obtain ⟨v4, hk8, h⟩ := bind_some h
        rcases bif_some h with ⟨hd9, h⟩ | ⟨hd9, h⟩
        · obtain ⟨hg10, h⟩ := grd_some h
          refine Tri.u 1 [.r ⟨[], .bool v3, []⟩, .g true, .r ⟨[], .i v4, []⟩, .g true] [.keep [2] []] [.code [] 3] ⟨[(2, .bool ((a1.getD ((0 : Int).toNat) 0) == (0 : Int)))], []⟩ rfl ⟨hg10, hd9, (fun _ => (w_spec_CountCoalitions a0 v4 hk8)), hd7, (fun _ => (w_spec_l1In a0 (1 : Int) (5 : Int) v3 hk6)), trivial⟩ rfl ?_
          cases h
          exact Tri.ret rfl ⟨.inl rfl, rfl, rfl⟩
        · refine Tri.u 1 [.r ⟨[], .bool v3, []⟩, .g true, .r ⟨[], .i v4, []⟩, .g false] [.keep [2] []] [.code [] 3] ⟨[(2, .bool false)], []⟩ rfl ⟨hd9, (fun _ => (w_spec_CountCoalitions a0 v4 hk8)), hd7, (fun _ => (w_spec_l1In a0 (1 : Int) (5 : Int) v3 hk6)), trivial⟩ rfl ?_
          cases h
          exact Tri.ret rfl ⟨.inl rfl, rfl, rfl⟩
      · refine Tri.u 1 [.r ⟨[], .bool v3, []⟩, .g false, .g false] [.keep [2] []] [.code [] 3] ⟨[(2, .bool false)], []⟩ rfl ⟨rfl, hd7, (fun _ => (w_spec_l1In a0 (1 : Int) (5 : Int) v3 hk6)), trivial⟩ rfl ?_
        cases h
        exact Tri.ret rfl ⟨.inl rfl, rfl, rfl⟩
    · obtain ⟨rfl, hq⟩ := hq
      cases h
      exact TriX.ret ⟨.inl rfl, hq⟩
/-! spec.l3Gcd -/
noncomputable def E98_spec_l3Gcd : Env := ⟨Try.prog, tys, (Try.f98.body).getD .skip, 22, tysOk, mixedOk⟩
abbrev q_spec_l3Gcd (r : Int) (σ' : ASt) : Prop := isRes E98_spec_l3Gcd.T Try.f98 (.i r) [] σ'
noncomputable def l_spec_l3Gcd_0 : (Int × Int) → Option ((Int × Int) ⊕ Int)
  | (v1, v2) => (
bif decide (v2 > (0 : Int)) then
(grd (v2 ≠ 0) <|
some (.inl (v2, v1.tmod v2)))
else
(some (.inr v1)))
noncomputable def l_spec_l3Gcd_1 : (Int × Int) → Option ((Int × Int) ⊕ Int)
  | (v4, v5) => (
bif decide (v5 > (0 : Int)) then
(grd (v5 ≠ 0) <|
some (.inl (v5, v4.tmod v5)))
else
(some (.inr v4)))
noncomputable def l_spec_l3Gcd_2 : (Int × Int) → Option ((Int × Int) ⊕ Int)
  | (v7, v8) => (
bif decide (v8 > (0 : Int)) then
(grd (v8 ≠ 0) <|
some (.inl (v8, v7.tmod v8)))
else
(some (.inr v7)))
noncomputable def l_spec_l3Gcd_3 : (Int × Int) → Option ((Int × Int) ⊕ Int)
  | (v10, v11) => (
bif decide (v11 > (0 : Int)) then
(grd (v11 ≠ 0) <|
some (.inl (v11, v10.tmod v11)))
else
(some (.inr v10)))
noncomputable def m_spec_l3Gcd (a0 : Int) (a1 : Int) : Option Int :=
bif decide (a0 < (0 : Int)) then
(bif decide (a1 < (0 : Int)) then
((iter (l_spec_l3Gcd_0) (IntKind.i64.wrap (0 - a0), IntKind.i64.wrap (0 - a1))).bind fun
| v3 => (
some v3))
else
((iter (l_spec_l3Gcd_1) (IntKind.i64.wrap (0 - a0), a1)).bind fun
| v6 => (
some v6)))
else
(bif decide (a1 < (0 : Int)) then
((iter (l_spec_l3Gcd_2) (a0, IntKind.i64.wrap (0 - a1))).bind fun
| v9 => (
some v9))
else
((iter (l_spec_l3Gcd_3) (a0, a1)).bind fun
| v12 => (
some v12)))
theorem w_spec_l3Gcd (a0 : Int) (a1 : Int) (r : Int) (h : m_spec_l3Gcd a0 a1 = some r) : AM.Spec Try.prog 98 [.i a0, .i a1] [] (.i r) [] := by
  refine spec_of (E := E98_spec_l3Gcd) Try.func98 rfl rfl rfl rfl ?_
  refine Tri.u 2 [] [.keep [0, 1, 7] []] [.code [(1, 0)] 1, .code [] 2] ⟨[(0, .i a0), (1, .i a1), (7, .bool (decide (a0 < (0 : Int))))], []⟩ rfl trivial rfl ?_
  rcases bif_some h with ⟨hd1, h⟩ | ⟨hd1, h⟩
  · refine Tri.u 3 [.g true] [.keep [0, 1, 11] []] [.code [(2, 0)] 1, .code [] 3] ⟨[(0, .i (IntKind.i64.wrap (0 - a0))), (1, .i a1), (11, .bool (decide (a1 < (0 : Int))))], []⟩ rfl ⟨hd1, trivial⟩ rfl ?_
    rcases bif_some h with ⟨hd2, h⟩ | ⟨hd2, h⟩
    · refine Tri.u 2 [.g true] [.keep [0, 1] []] [.code [(3, 0), (0, 0)] 0, .blk 0, .code [] 4] ⟨[(0, .i (IntKind.i64.wrap (0 - a0))), (1, .i (IntKind.i64.wrap (0 - a1)))], []⟩ rfl ⟨hd2, trivial⟩ rfl ?_
      obtain ⟨v3, hk5, h⟩ := bind_some h
      refine Tri.loop (K1 := [.code [(3, 0), (0, 0), (0, 0)] 0]) (K2 := [.blk 0, .code [] 4]) (fun (v1, v2) => ⟨[(0, .i v1), (1, .i v2)], []⟩) (fun x e σ' => match x with | v3 => e = .exit 0 ∧ σ' = ⟨[(0, .i v3)], []⟩) hk5 rfl rfl ?_ ?_
      · intro s x hs
        clear h
        have h := hs
        clear hs
        obtain ⟨v1, v2⟩ := s
        refine Tri.u 1 [] [.keep [0, 1, 15] []] [.code [(3, 0), (0, 0), (0, 0), (0, 0)] 1, .code [(3, 0), (0, 0), (0, 0)] 1] ⟨[(0, .i v1), (1, .i v2), (15, .bool (decide (v2 > (0 : Int))))], []⟩ rfl trivial rfl ?_
        rcases bif_some h with ⟨hd3, h⟩ | ⟨hd3, h⟩
        · obtain ⟨hg4, h⟩ := grd_some h
          refine Tri.u 3 [.g true] [.keep [0, 5] []] [.code [(3, 0), (0, 0), (0, 0), (1, 0)] 2, .blk 1] ⟨[(0, .i v2), (5, .i (v1.tmod v2))], []⟩ rfl ⟨hg4, hd3, trivial⟩ rfl ?_
          refine Tri.u 1 [] [.keep [0, 1] []] [] ⟨[(0, .i v2), (1, .i (v1.tmod v2))], []⟩ rfl trivial rfl ?_
          cases h
          exact Tri.nil ⟨rfl, rfl⟩
        · refine Tri.u 1 [.g false] [.keep [0] []] [.code [(3, 0), (0, 0), (0, 0), (0, 0), (1, 1)] 0, .code [(3, 0), (0, 0), (0, 0)] 1] ⟨[(0, .i v1)], []⟩ rfl ⟨hd3, trivial⟩ rfl ?_
          cases h
          exact Tri.out 0 rfl ⟨nofun, rfl, rfl⟩
      · intro e σ' hne hq
        obtain ⟨rfl, rfl⟩ := hq
        refine TriX.exit (K' := [.code [] 4]) rfl ?_
        refine Tri.u 1 [] [.keep [4] []] [.code [] 5] ⟨[(4, .i v3)], []⟩ rfl trivial rfl ?_
        cases h
        exact Tri.ret rfl ⟨.inl rfl, rfl, rfl⟩
    · refine Tri.u 1 [.g false] [.keep [0, 1] []] [.code [(3, 0), (0, 0)] 0, .blk 0, .code [] 4] ⟨[(0, .i (IntKind.i64.wrap (0 - a0))), (1, .i a1)], []⟩ rfl ⟨hd2, trivial⟩ rfl ?_
      obtain ⟨v6, hk8, h⟩ := bind_some h
      refine Tri.loop (K1 := [.code [(3, 0), (0, 0), (0, 0)] 0]) (K2 := [.blk 0, .code [] 4]) (fun (v4, v5) => ⟨[(0, .i v4), (1, .i v5)], []⟩) (fun x e σ' => match x with | v6 => e = .exit 0 ∧ σ' = ⟨[(0, .i v6)], []⟩) hk8 rfl rfl ?_ ?_
      · intro s x hs
        clear h
        have h := hs
        clear hs
        obtain ⟨v4, v5⟩ := s
        refine Tri.u 1 [] [.keep [0, 1, 15] []] [.code [(3, 0), (0, 0), (0, 0), (0, 0)] 1, .code [(3, 0), (0, 0), (0, 0)] 1] ⟨[(0, .i v4), (1, .i v5), (15, .bool (decide (v5 > (0 : Int))))], []⟩ rfl trivial rfl ?_
        rcases bif_some h with ⟨hd6, h⟩ | ⟨hd6, h⟩
        · obtain ⟨hg7, h⟩ := grd_some h
          refine Tri.u 3 [.g true] [.keep [0, 5] []] [.code [(3, 0), (0, 0), (0, 0), (1, 0)] 2, .blk 1] ⟨[(0, .i v5), (5, .i (v4.tmod v5))], []⟩ rfl ⟨hg7, hd6, trivial⟩ rfl ?_
          refine Tri.u 1 [] [.keep [0, 1] []] [] ⟨[(0, .i v5), (1, .i (v4.tmod v5))], []⟩ rfl trivial rfl ?_
          cases h
          exact Tri.nil ⟨rfl, rfl⟩
        · refine Tri.u 1 [.g false] [.keep [0] []] [.code [(3, 0), (0, 0), (0, 0), (0, 0), (1, 1)] 0, .code [(3, 0), (0, 0), (0, 0)] 1] ⟨[(0, .i v4)], []⟩ rfl ⟨hd6, trivial⟩ rfl ?_
          cases h
          exact Tri.out 0 rfl ⟨nofun, rfl, rfl⟩
      · intro e σ' hne hq
        obtain ⟨rfl, rfl⟩ := hq
        refine TriX.exit (K' := [.code [] 4]) rfl ?_
        refine Tri.u 1 [] [.keep [4] []] [.code [] 5] ⟨[(4, .i v6)], []⟩ rfl trivial rfl ?_
        cases h
        exact Tri.ret rfl ⟨.inl rfl, rfl, rfl⟩
  · refine Tri.u 2 [.g false] [.keep [0, 1, 11] []] [.code [(2, 0)] 1, .code [] 3] ⟨[(0, .i a0), (1, .i a1), (11, .bool (decide (a1 < (0 : Int))))], []⟩ rfl ⟨hd1, trivial⟩ rfl ?_
    rcases bif_some h with ⟨hd9, h⟩ | ⟨hd9, h⟩
    · refine Tri.u 2 [.g true] [.keep [0, 1] []] [.code [(3, 0), (0, 0)] 0, .blk 0, .code [] 4] ⟨[(0, .i a0), (1, .i (IntKind.i64.wrap (0 - a1)))], []⟩ rfl ⟨hd9, trivial⟩ rfl ?_
      obtain ⟨v9, hk12, h⟩ := bind_some h
      refine Tri.loop (K1 := [.code [(3, 0), (0, 0), (0, 0)] 0]) (K2 := [.blk 0, .code [] 4]) (fun (v7, v8) => ⟨[(0, .i v7), (1, .i v8)], []⟩) (fun x e σ' => match x with | v9 => e = .exit 0 ∧ σ' = ⟨[(0, .i v9)], []⟩) hk12 rfl rfl ?_ ?_
      · intro s x hs
        clear h
        have h := hs
        clear hs
        obtain ⟨v7, v8⟩ := s
        refine Tri.u 1 [] [.keep [0, 1, 15] []] [.code [(3, 0), (0, 0), (0, 0), (0, 0)] 1, .code [(3, 0), (0, 0), (0, 0)] 1] ⟨[(0, .i v7), (1, .i v8), (15, .bool (decide (v8 > (0 : Int))))], []⟩ rfl trivial rfl ?_
        rcases bif_some h with ⟨hd10, h⟩ | ⟨hd10, h⟩
        · obtain ⟨hg11, h⟩ := grd_some h
          refine Tri.u 3 [.g true] [.keep [0, 5] []] [.code [(3, 0), (0, 0), (0, 0), (1, 0)] 2, .blk 1] ⟨[(0, .i v8), (5, .i (v7.tmod v8))], []⟩ rfl ⟨hg11, hd10, trivial⟩ rfl ?_
          refine Tri.u 1 [] [.keep [0, 1] []] [] ⟨[(0, .i v8), (1, .i (v7.tmod v8))], []⟩ rfl trivial rfl ?_
          cases h
          exact Tri.nil ⟨rfl, rfl⟩
        · refine Tri.u 1 [.g false] [.keep [0] []] [.code [(3, 0), (0, 0), (0, 0), (0, 0), (1, 1)] 0, .code [(3, 0), (0, 0), (0, 0)] 1] ⟨[(0, .i v7)], []⟩ rfl ⟨hd10, trivial⟩ rfl ?_
          cases h
          exact Tri.out 0 rfl ⟨nofun, rfl, rfl⟩
      · intro e σ' hne hq
        obtain ⟨rfl, rfl⟩ := hq
        refine TriX.exit (K' := [.code [] 4]) rfl ?_
        refine Tri.u 1 [] [.keep [4] []] [.code [] 5] ⟨[(4, .i v9)], []⟩ rfl trivial rfl ?_
        cases h
        exact Tri.ret rfl ⟨.inl rfl, rfl, rfl⟩
    · refine Tri.u 1 [.g false] [.keep [0, 1] []] [.code [(3, 0), (0, 0)] 0, .blk 0, .code [] 4] ⟨[(0, .i a0), (1, .i a1)], []⟩ rfl ⟨hd9, trivial⟩ rfl ?_
      obtain ⟨v12, hk15, h⟩ := bind_some h
      refine Tri.loop (K1 := [.code [(3, 0), (0, 0), (0, 0)] 0]) (K2 := [.blk 0, .code [] 4]) (fun (v10, v11) => ⟨[(0, .i v10), (1, .i v11)], []⟩) (fun x e σ' => match x with | v12 => e = .exit 0 ∧ σ' = ⟨[(0, .i v12)], []⟩) hk15 rfl rfl ?_ ?_
      · intro s x hs
        clear h
        have h := hs
        clear hs
        obtain ⟨v10, v11⟩ := s
        refine Tri.u 1 [] [.keep [0, 1, 15] []] [.code [(3, 0), (0, 0), (0, 0), (0, 0)] 1, .code [(3, 0), (0, 0), (0, 0)] 1] ⟨[(0, .i v10), (1, .i v11), (15, .bool (decide (v11 > (0 : Int))))], []⟩ rfl trivial rfl ?_
        rcases bif_some h with ⟨hd13, h⟩ | ⟨hd13, h⟩
        · obtain ⟨hg14, h⟩ := grd_some h
          refine Tri.u 3 [.g true] [.keep [0, 5] []] [.code [(3, 0), (0, 0), (0, 0), (1, 0)] 2, .blk 1] ⟨[(0, .i v11), (5, .i (v10.tmod v11))], []⟩ rfl ⟨hg14, hd13, trivial⟩ rfl ?_
          refine Tri.u 1 [] [.keep [0, 1] []] [] ⟨[(0, .i v11), (1, .i (v10.tmod v11))], []⟩ rfl trivial rfl ?_
          cases h
          exact Tri.nil ⟨rfl, rfl⟩
        · refine Tri.u 1 [.g false] [.keep [0] []] [.code [(3, 0), (0, 0), (0, 0), (0, 0), (1, 1)] 0, .code [(3, 0), (0, 0), (0, 0)] 1] ⟨[(0, .i v10)], []⟩ rfl ⟨hd13, trivial⟩ rfl ?_
          cases h
          exact Tri.out 0 rfl ⟨nofun, rfl, rfl⟩
      · intro e σ' hne hq
        obtain ⟨rfl, rfl⟩ := hq
        refine TriX.exit (K' := [.code [] 4]) rfl ?_
        refine Tri.u 1 [] [.keep [4] []] [.code [] 5] ⟨[(4, .i v12)], []⟩ rfl trivial rfl ?_
        cases h
        exact Tri.ret rfl ⟨.inl rfl, rfl, rfl⟩
/-! spec.IsValidRat -/
noncomputable def E77_spec_IsValidRat : Env := ⟨Try.prog, tys, (Try.f77.body).getD .skip, 19, tysOk, mixedOk⟩
abbrev q_spec_IsValidRat (r : Bool) (σ' : ASt) : Prop := isRes E77_spec_IsValidRat.T Try.f77 (.bool r) [] σ'
noncomputable def m_spec_IsValidRat (a0 : Int) (a1 : Int) : Option Bool :=
(m_spec_l1In a1 (1 : Int) (1000000000 : Int)).bind fun v1 =>
bif v1 then
((m_spec_l1In a0 (-1000000000 : Int) (1000000000 : Int)).bind fun v2 =>
bif v2 then
((m_spec_l3Gcd a0 a1).bind fun v3 =>
some (v3 == (1 : Int)))
else
(some false))
else
(some false)
theorem w_spec_IsValidRat (a0 : Int) (a1 : Int) (r : Bool) (h : m_spec_IsValidRat a0 a1 = some r) : AM.Spec Try.prog 77 [.agg [.i a0, .i a1]] [] (.bool r) [] := by
  refine spec_of (E := E77_spec_IsValidRat) Try.func77 rfl rfl rfl rfl ?_
  refine Tri.u 1 [] [.keep [1] [1]] [.code [(1, 0)] 0, .code [] 2] ⟨[(1, .ptr 1 0)], [(1, .box [.i a0, .i a1])]⟩ rfl trivial rfl ?_
  obtain ⟨v1, hk1, h⟩ := bind_some h
  rcases bif_some h with ⟨hd2, h⟩ | ⟨hd2, h⟩
  · obtain ⟨v2, hk3, h⟩ := bind_some h
    rcases bif_some h with ⟨hd4, h⟩ | ⟨hd4, h⟩
    · obtain ⟨v3, hk5, h⟩ := bind_some h
      refine Tri.u 1 [.r ⟨[], .bool v1, []⟩, .g true, .r ⟨[], .bool v2, []⟩, .g true, .r ⟨[], .i v3, []⟩] [.keep [2] []] [.code [] 2] ⟨[(2, .bool (v3 == (1 : Int)))], []⟩ rfl ⟨(fun _ => (w_spec_l3Gcd a0 a1 v3 hk5)), hd4, (fun _ => (w_spec_l1In a0 (-1000000000 : Int) (1000000000 : Int) v2 hk3)), hd2, (fun _ => (w_spec_l1In a1 (1 : Int) (1000000000 : Int) v1 hk1)), trivial⟩ rfl ?_
      cases h
      exact Tri.ret rfl ⟨.inl rfl, rfl, rfl⟩
    · refine Tri.u 1 [.r ⟨[], .bool v1, []⟩, .g true, .r ⟨[], .bool v2, []⟩, .g false] [.keep [2] []] [.code [] 2] ⟨[(2, .bool false)], []⟩ rfl ⟨hd4, (fun _ => (w_spec_l1In a0 (-1000000000 : Int) (1000000000 : Int) v2 hk3)), hd2, (fun _ => (w_spec_l1In a1 (1 : Int) (1000000000 : Int) v1 hk1)), trivial⟩ rfl ?_
      cases h
      exact Tri.ret rfl ⟨.inl rfl, rfl, rfl⟩
  · refine Tri.u 1 [.r ⟨[], .bool v1, []⟩, .g false, .g false] [.keep [2] []] [.code [] 2] ⟨[(2, .bool false)], []⟩ rfl ⟨rfl, hd2, (fun _ => (w_spec_l1In a1 (1 : Int) (1000000000 : Int) v1 hk1)), trivial⟩ rfl ?_
    cases h
    exact Tri.ret rfl ⟨.inl rfl, rfl, rfl⟩
/-! spec.AllValid -/
noncomputable def E58_spec_AllValid : Env := ⟨Try.prog, tys, (Try.f58.body).getD .skip, 16, tysOk, mixedOk⟩
abbrev q_spec_AllValid (r : Bool) (σ' : ASt) : Prop := isRes E58_spec_AllValid.T Try.f58 (.bool r) [] σ'
noncomputable def l_spec_AllValid_0 (a0 : List Q) (v1 : Int) : Option (Int ⊕ (Unit ⊕ Bool)) :=
bif decide (v1 < (a0.length : Int)) then
(grd ((0 : Int) ≤ v1 ∧ v1 < (a0.length : Int)) <|
(m_spec_IsValidRat ((a0.getD v1.toNat ⟨0, 0⟩).num) ((a0.getD v1.toNat ⟨0, 0⟩).den)).bind fun v2 =>
bif !v2 then
(some (.inr (.inr false)))
else
(some (.inl (IntKind.i64.wrap (v1 + (1 : Int))))))
else
(some (.inr (.inl ())))
noncomputable def m_spec_AllValid (a0 : List Q) : Option Bool :=
(iter (l_spec_AllValid_0 a0) (0 : Int)).bind fun
| (.inl _) => (
some true)
| (.inr r) => some r
theorem w_spec_AllValid (a0 : List Q) (r : Bool) (h : m_spec_AllValid a0 = some r) : AM.Spec Try.prog 58 [.list (.rats a0)] [] (.bool r) [] := by
  refine spec_of (E := E58_spec_AllValid) Try.func58 rfl rfl rfl rfl ?_
  refine Tri.u 2 [] [.keep [0, 3] []] [.code [(1, 0), (1, 0)] 0, .blk 0, .code [] 2] ⟨[(0, .list (.rats a0)), (3, .i (0 : Int))], []⟩ rfl trivial rfl ?_
  obtain ⟨x1, hk5, h⟩ := bind_some h
  refine Tri.loop (K1 := [.code [(1, 0), (1, 0), (0, 0)] 0]) (K2 := [.blk 0, .code [] 2]) (fun v1 => ⟨[(0, .list (.rats a0)), (3, .i v1)], []⟩) (fun x e σ' => match x with | (.inl _) => e = .exit 0 ∧ σ' = ⟨[], []⟩ | (.inr r) => e = .ret ∧ q_spec_AllValid r σ') hk5 rfl rfl ?_ ?_
  · intro v1 x hs
    clear h
    have h := hs
    clear hs
    refine Tri.u 1 [] [.keep [0, 3, 7] []] [.code [(1, 0), (1, 0), (0, 0), (0, 0)] 1, .code [(1, 0), (1, 0), (0, 0)] 1] ⟨[(0, .list (.rats a0)), (3, .i v1), (7, .bool (decide (v1 < (a0.length : Int))))], []⟩ rfl trivial rfl ?_
    rcases bif_some h with ⟨hd1, h⟩ | ⟨hd1, h⟩
    · obtain ⟨hg2, h⟩ := grd_some h
      obtain ⟨v2, hk3, h⟩ := bind_some h
      refine Tri.u 2 [.g true, .r ⟨[], .bool v2, []⟩] [.keep [0, 3, 15] []] [.code [(1, 0), (1, 0), (0, 0), (1, 0), (0, 0)] 1, .blk 1, .code [(1, 0), (1, 0), (0, 0)] 2] ⟨[(0, .list (.rats a0)), (3, .i v1), (15, .bool (!v2))], []⟩ rfl ⟨(fun _ => (w_spec_IsValidRat ((a0.getD v1.toNat ⟨0, 0⟩).num) ((a0.getD v1.toNat ⟨0, 0⟩).den) v2 hk3)), hg2, hd1, trivial⟩ rfl ?_
      rcases bif_some h with ⟨hd4, h⟩ | ⟨hd4, h⟩
      · refine Tri.u 2 [.g true] [.keep [2] []] [.code [(1, 0), (1, 0), (0, 0), (1, 0), (0, 0), (1, 0)] 1, .blk 1, .code [(1, 0), (1, 0), (0, 0)] 2] ⟨[(2, .bool false)], []⟩ rfl ⟨hd4, trivial⟩ rfl ?_
        cases h
        exact Tri.ret rfl ⟨nofun, rfl, rfl, rfl⟩
      · refine Tri.u 2 [.g false] [.keep [0, 3] []] [] ⟨[(0, .list (.rats a0)), (3, .i (IntKind.i64.wrap (v1 + (1 : Int))))], []⟩ rfl ⟨hd4, trivial⟩ rfl ?_
        cases h
        exact Tri.nil ⟨rfl, rfl⟩
    · refine Tri.u 1 [.g false] [.keep [] []] [.code [(1, 0), (1, 0), (0, 0), (0, 0), (1, 1)] 0, .code [(1, 0), (1, 0), (0, 0)] 1] ⟨[], []⟩ rfl ⟨hd1, trivial⟩ rfl ?_
      cases h
      exact Tri.out 0 rfl ⟨nofun, rfl, rfl⟩
  · intro e σ' hne hq
    rcases x1 with _ | r
    · obtain ⟨rfl, rfl⟩ := hq
      refine TriX.exit (K' := [.code [] 2]) rfl ?_
      refine Tri.u 1 [] [.keep [2] []] [.code [] 3] ⟨[(2, .bool true)], []⟩ rfl trivial rfl ?_
      cases h
      exact Tri.ret rfl ⟨.inl rfl, rfl, rfl⟩
    · obtain ⟨rfl, hq⟩ := hq
      cases h
      exact TriX.ret ⟨.inl rfl, hq⟩
/-! spec.l3Int -/
noncomputable def E59_spec_l3Int : Env := ⟨Try.prog, tys, (Try.f59.body).getD .skip, 5, tysOk, mixedOk⟩
abbrev q_spec_l3Int (r : Int × Int) (σ' : ASt) : Prop := isRes E59_spec_l3Int.T Try.f59 (.agg [.i r.1, .i r.2]) [] σ'
noncomputable def m_spec_l3Int (a0 : Int) : Option (Int × Int) :=
some (a0, (1 : Int))
theorem w_spec_l3Int (a0 : Int) (r : Int × Int) (h : m_spec_l3Int a0 = some r) : AM.Spec Try.prog 59 [.i a0] [] (.agg [.i r.1, .i r.2]) [] := by
  refine spec_of (E := E59_spec_l3Int) Try.func59 rfl rfl rfl rfl ?_
  refine Tri.u 2 [] [.keep [2] [2]] [.code [] 2] ⟨[(2, .ptr 2 0)], [(2, .box [.i a0, .i (1 : Int)])]⟩ rfl trivial rfl ?_
  cases h
  exact Tri.ret rfl ⟨.inl rfl, rfl, rfl⟩
/-! spec.l2Good -/
noncomputable def E95_spec_l2Good : Env := ⟨Try.prog, tys, (Try.f95.body).getD .skip, 5, tysOk, mixedOk⟩
abbrev q_spec_l2Good (r : Bool) (σ' : ASt) : Prop := isRes E95_spec_l2Good.T Try.f95 (.bool r) [] σ'
noncomputable def m_spec_l2Good (a0 : Int) : Option Bool :=
(m_spec_l1In a0 (0 : Int) (31 : Int)).bind fun v1 =>
some v1
theorem w_spec_l2Good (a0 : Int) (r : Bool) (h : m_spec_l2Good a0 = some r) : AM.Spec Try.prog 95 [.i a0] [] (.bool r) [] := by
  refine spec_of (E := E95_spec_l2Good) Try.func95 rfl rfl rfl rfl ?_
  refine Tri.u 1 [] [.keep [0] []] [.code [(1, 0)] 0, .code [] 2] ⟨[(0, .i a0)], []⟩ rfl trivial rfl ?_
  obtain ⟨v1, hk1, h⟩ := bind_some h
  refine Tri.u 1 [.r ⟨[], .bool v1, []⟩] [.keep [2] []] [.code [] 2] ⟨[(2, .bool v1)], []⟩ rfl ⟨(fun _ => (w_spec_l1In a0 (0 : Int) (31 : Int) v1 hk1)), trivial⟩ rfl ?_
  cases h
  exact Tri.ret rfl ⟨.inl rfl, rfl, rfl⟩
/-! spec.l2Bit -/
noncomputable def E62_spec_l2Bit : Env := ⟨Try.prog, tys, (Try.f62.body).getD .skip, 5, tysOk, mixedOk⟩
abbrev q_spec_l2Bit (r : Int) (σ' : ASt) : Prop := isRes E62_spec_l2Bit.T Try.f62 (.i r) [] σ'
noncomputable def m_spec_l2Bit (a0 : Int) : Option Int :=
(m_spec_CountCoalitions a0).bind fun v1 =>
some v1
theorem w_spec_l2Bit (a0 : Int) (r : Int) (h : m_spec_l2Bit a0 = some r) : AM.Spec Try.prog 62 [.i a0] [] (.i r) [] := by
  refine spec_of (E := E62_spec_l2Bit) Try.func62 rfl rfl rfl rfl ?_
  refine Tri.u 1 [] [.keep [0] []] [.code [(1, 0)] 0, .code [] 2] ⟨[(0, .i a0)], []⟩ rfl trivial rfl ?_
  obtain ⟨v1, hk1, h⟩ := bind_some h
  refine Tri.u 1 [.r ⟨[], .i v1, []⟩] [.keep [2] []] [.code [] 2] ⟨[(2, .i v1)], []⟩ rfl ⟨(fun _ => (w_spec_CountCoalitions a0 v1 hk1)), trivial⟩ rfl ?_
  cases h
  exact Tri.ret rfl ⟨.inl rfl, rfl, rfl⟩
/-! spec.HasPlayer -/
noncomputable def E96_spec_HasPlayer : Env := ⟨Try.prog, tys, (Try.f96.body).getD .skip, 19, tysOk, mixedOk⟩
abbrev q_spec_HasPlayer (r : Bool) (σ' : ASt) : Prop := isRes E96_spec_HasPlayer.T Try.f96 (.bool r) [] σ'
noncomputable def m_spec_HasPlayer (a0 : Int) (a1 : Int) : Option Bool :=
(m_spec_l1In a1 (0 : Int) (4 : Int)).bind fun v1 =>
bif v1 then
(bif decide (a0 ≥ (0 : Int)) then
((m_spec_l2Bit a1).bind fun v2 =>
grd (v2 ≠ 0) <|
grd ((2 : Int) ≠ 0) <|
some (((IntKind.i64.wrap (a0.tdiv v2)).tmod (2 : Int)) == (1 : Int)))
else
(some false))
else
(some false)
theorem w_spec_HasPlayer (a0 : Int) (a1 : Int) (r : Bool) (h : m_spec_HasPlayer a0 a1 = some r) : AM.Spec Try.prog 96 [.i a0, .i a1] [] (.bool r) [] := by
  refine spec_of (E := E96_spec_HasPlayer) Try.func96 rfl rfl rfl rfl ?_
  refine Tri.u 1 [] [.keep [0, 1] []] [.code [(1, 0)] 0, .code [] 2] ⟨[(0, .i a0), (1, .i a1)], []⟩ rfl trivial rfl ?_
  obtain ⟨v1, hk1, h⟩ := bind_some h
  rcases bif_some h with ⟨hd2, h⟩ | ⟨hd2, h⟩
  · rcases bif_some h with ⟨hd3, h⟩ | ⟨hd3, h⟩
    · obtain ⟨v2, hk4, h⟩ := bind_some h
      obtain ⟨hg5, h⟩ := grd_some h
      obtain ⟨hg6, h⟩ := grd_some h
      refine Tri.u 1 [.r ⟨[], .bool v1, []⟩, .g true, .g true, .r ⟨[], .i v2, []⟩] [.keep [4] []] [.code [] 2] ⟨[(4, .bool (((IntKind.i64.wrap (a0.tdiv v2)).tmod (2 : Int)) == (1 : Int)))], []⟩ rfl ⟨hg6, hg5, (fun _ => (w_spec_l2Bit a1 v2 hk4)), hd3, hd2, (fun _ => (w_spec_l1In a1 (0 : Int) (4 : Int) v1 hk1)), trivial⟩ rfl ?_
      cases h
      exact Tri.ret rfl ⟨.inl rfl, rfl, rfl⟩
    · refine Tri.u 1 [.r ⟨[], .bool v1, []⟩, .g true, .g false] [.keep [4] []] [.code [] 2] ⟨[(4, .bool false)], []⟩ rfl ⟨hd3, hd2, (fun _ => (w_spec_l1In a1 (0 : Int) (4 : Int) v1 hk1)), trivial⟩ rfl ?_
      cases h
      exact Tri.ret rfl ⟨.inl rfl, rfl, rfl⟩
  · refine Tri.u 1 [.r ⟨[], .bool v1, []⟩, .g false, .g false] [.keep [4] []] [.code [] 2] ⟨[(4, .bool false)], []⟩ rfl ⟨rfl, hd2, (fun _ => (w_spec_l1In a1 (0 : Int) (4 : Int) v1 hk1)), trivial⟩ rfl ?_
    cases h
    exact Tri.ret rfl ⟨.inl rfl, rfl, rfl⟩
/-! spec.MembersOf -/
noncomputable def E72_spec_MembersOf : Env := ⟨Try.prog, tys, (Try.f72.body).getD .skip, 22, tysOk, mixedOk⟩
abbrev q_spec_MembersOf (r : List Int) (σ' : ASt) : Prop := isRes E72_spec_MembersOf.T Try.f72 (.sl 1000 0) [(1000, .arr 3 0 0 (.ints r))] σ'
noncomputable def l_spec_MembersOf_0 (a0 : Int) : (Int × (List Int)) → Option ((Int × (List Int)) ⊕ ((List Int)))
  | (v1, v2) => (
bif decide (v1 < (5 : Int)) then
((m_spec_l2Good a0).bind fun v3 =>
bif v3 then
((m_spec_HasPlayer a0 v1).bind fun v4 =>
bif v4 then
(grd (v2.length + ([v1] : List Int).length ≤ room) <|
some (.inl (IntKind.i64.wrap (v1 + (1 : Int)), v2 ++ [v1])))
else
(some (.inl (IntKind.i64.wrap (v1 + (1 : Int)), v2))))
else
(some (.inr v2)))
else
(some (.inr v2)))
noncomputable def m_spec_MembersOf (a0 : Int) : Option (List Int) :=
(iter (l_spec_MembersOf_0 a0) ((0 : Int), [])).bind fun
| v5 => (
some v5)
theorem w_spec_MembersOf (a0 : Int) (r : List Int) (h : m_spec_MembersOf a0 = some r) : AM.Spec Try.prog 72 [.i a0] [] (.sl 1000 0) [(1000, .arr 3 0 0 (.ints r))] := by
  refine spec_of (E := E72_spec_MembersOf) Try.func72 rfl rfl rfl rfl ?_
  refine Tri.u 3 [] [.keep [0, 3, 4] [5]] [.code [(2, 0), (1, 0)] 0, .blk 0, .code [] 3] ⟨[(0, .i a0), (3, .sl 5 0), (4, .i (0 : Int))], [(5, .arr 3 0 0 (.ints []))]⟩ rfl trivial rfl ?_
  obtain ⟨v5, hk7, h⟩ := bind_some h
  refine Tri.loop (K1 := [.code [(2, 0), (1, 0), (0, 0)] 0]) (K2 := [.blk 0, .code [] 3]) (fun (v1, v2) => ⟨[(0, .i a0), (3, .sl 5 0), (4, .i v1)], [(5, .arr 3 0 0 (.ints v2))]⟩) (fun x e σ' => match x with | v5 => e = .exit 0 ∧ σ' = ⟨[(3, .sl 5 0)], [(5, .arr 3 0 0 (.ints v5))]⟩) hk7 rfl rfl ?_ ?_
  · intro s x hs
    clear h
    have h := hs
    clear hs
    obtain ⟨v1, v2⟩ := s
    rcases bif_some h with ⟨hd1, h⟩ | ⟨hd1, h⟩
    · obtain ⟨v3, hk2, h⟩ := bind_some h
      refine Tri.u 1 [.g true, .r ⟨[], .bool v3, []⟩] [.keep [0, 3, 4, 11] [5]] [.code [(2, 0), (1, 0), (0, 0), (0, 0)] 1, .code [(2, 0), (1, 0), (0, 0)] 1] ⟨[(0, .i a0), (3, .sl 5 0), (4, .i v1), (11, .bool v3)], [(5, .arr 3 0 0 (.ints v2))]⟩ rfl ⟨(fun _ => (w_spec_l2Good a0 v3 hk2)), hd1, trivial⟩ rfl ?_
      rcases bif_some h with ⟨hd3, h⟩ | ⟨hd3, h⟩
      · obtain ⟨v4, hk4, h⟩ := bind_some h
        refine Tri.u 2 [.g true, .r ⟨[], .bool v4, []⟩] [.keep [0, 3, 4, 16] [5]] [.code [(2, 0), (1, 0), (0, 0), (1, 0), (0, 0)] 1, .blk 1, .code [(2, 0), (1, 0), (0, 0)] 2] ⟨[(0, .i a0), (3, .sl 5 0), (4, .i v1), (16, .bool v4)], [(5, .arr 3 0 0 (.ints v2))]⟩ rfl ⟨(fun _ => (w_spec_HasPlayer a0 v1 v4 hk4)), hd3, trivial⟩ rfl ?_
        rcases bif_some h with ⟨hd5, h⟩ | ⟨hd5, h⟩
        · obtain ⟨hg6, h⟩ := grd_some h
          refine Tri.u 3 [.g true] [.rever 5, .keep [0, 3, 4] [5]] [] ⟨[(0, .i a0), (3, .sl 5 0), (4, .i (IntKind.i64.wrap (v1 + (1 : Int))))], [(5, .arr 3 0 0 (.ints (v2 ++ [v1])))]⟩ rfl ⟨hg6, hd5, trivial⟩ rfl ?_
          cases h
          exact Tri.nil ⟨rfl, rfl⟩
        · refine Tri.u 2 [.g false] [.keep [0, 3, 4] [5]] [] ⟨[(0, .i a0), (3, .sl 5 0), (4, .i (IntKind.i64.wrap (v1 + (1 : Int))))], [(5, .arr 3 0 0 (.ints v2))]⟩ rfl ⟨hd5, trivial⟩ rfl ?_
          cases h
          exact Tri.nil ⟨rfl, rfl⟩
      · refine Tri.u 1 [.g false] [.keep [3] [5]] [.code [(2, 0), (1, 0), (0, 0), (0, 0), (1, 1)] 0, .code [(2, 0), (1, 0), (0, 0)] 1] ⟨[(3, .sl 5 0)], [(5, .arr 3 0 0 (.ints v2))]⟩ rfl ⟨hd3, trivial⟩ rfl ?_
        cases h
        exact Tri.out 0 rfl ⟨nofun, rfl, rfl⟩
    · refine Tri.u 1 [.g false] [.keep [0, 3, 4, 11] [5]] [.code [(2, 0), (1, 0), (0, 0), (0, 0)] 1, .code [(2, 0), (1, 0), (0, 0)] 1] ⟨[(0, .i a0), (3, .sl 5 0), (4, .i v1), (11, .bool false)], [(5, .arr 3 0 0 (.ints v2))]⟩ rfl ⟨hd1, trivial⟩ rfl ?_
      refine Tri.u 1 [.g false] [.keep [3] [5]] [.code [(2, 0), (1, 0), (0, 0), (0, 0), (1, 1)] 0, .code [(2, 0), (1, 0), (0, 0)] 1] ⟨[(3, .sl 5 0)], [(5, .arr 3 0 0 (.ints v2))]⟩ rfl ⟨rfl, trivial⟩ rfl ?_
      cases h
      exact Tri.out 0 rfl ⟨nofun, rfl, rfl⟩
  · intro e σ' hne hq
    obtain ⟨rfl, rfl⟩ := hq
    refine TriX.exit (K' := [.code [] 3]) rfl ?_
    refine Tri.u 1 [] [.swap 5 1000, .keep [2] [1000]] [.code [] 4] ⟨[(2, .sl 1000 0)], [(1000, .arr 3 0 0 (.ints v5))]⟩ rfl trivial rfl ?_
    cases h
    exact Tri.ret rfl ⟨.inl rfl, rfl, rfl⟩
/-! spec.RatOf -/
noncomputable def E97_spec_RatOf : Env := ⟨Try.prog, tys, (Try.f97.body).getD .skip, 42, tysOk, mixedOk⟩
abbrev q_spec_RatOf (r : Int × Int × Bool) (σ' : ASt) : Prop := isRes E97_spec_RatOf.T Try.f97 (.tuple [.agg [.i r.1, .i r.2.1], .bool r.2.2]) [] σ'
noncomputable def m_spec_RatOf (a0 : Int) (a1 : Int) : Option (Int × Int × Bool) :=
bif a1 == (0 : Int) then
(some (0, 0, false))
else
((m_spec_l1In a0 (-1000000000000000000 : Int) (1000000000000000000 : Int)).bind fun v1 =>
bif !v1 then
(some (0, 0, false))
else
((m_spec_l1In a1 (-1000000000000000000 : Int) (1000000000000000000 : Int)).bind fun v2 =>
bif !v2 then
(some (0, 0, false))
else
(bif decide (a1 < (0 : Int)) then
((m_spec_l3Gcd (IntKind.i64.wrap (0 - a0)) (IntKind.i64.wrap (0 - a1))).bind fun v3 =>
grd (v3 ≠ 0) <|
grd (v3 ≠ 0) <|
(m_spec_IsValidRat (IntKind.i64.wrap ((IntKind.i64.wrap (0 - a0)).tdiv v3)) (IntKind.i64.wrap ((IntKind.i64.wrap (0 - a1)).tdiv v3))).bind fun v4 =>
bif !v4 then
(some (0, 0, false))
else
(some (IntKind.i64.wrap ((IntKind.i64.wrap (0 - a0)).tdiv v3), IntKind.i64.wrap ((IntKind.i64.wrap (0 - a1)).tdiv v3), true)))
else
((m_spec_l3Gcd a0 a1).bind fun v5 =>
grd (v5 ≠ 0) <|
grd (v5 ≠ 0) <|
(m_spec_IsValidRat (IntKind.i64.wrap (a0.tdiv v5)) (IntKind.i64.wrap (a1.tdiv v5))).bind fun v6 =>
bif !v6 then
(some (0, 0, false))
else
(some (IntKind.i64.wrap (a0.tdiv v5), IntKind.i64.wrap (a1.tdiv v5), true))))))
theorem w_spec_RatOf (a0 : Int) (a1 : Int) (r : Int × Int × Bool) (h : m_spec_RatOf a0 a1 = some r) : AM.Spec Try.prog 97 [.i a0, .i a1] [] (.tuple [.agg [.i r.1, .i r.2.1], .bool r.2.2]) [] := by
  refine spec_of (E := E97_spec_RatOf) Try.func97 rfl rfl rfl rfl ?_
  refine Tri.u 1 [] [.keep [0, 1, 4] [4]] [.code [(1, 0), (0, 0)] 0, .code [(1, 0)] 1, .code [] 2] ⟨[(0, .i a0), (1, .i a1), (4, .ptr 4 0)], [(4, .box [.i 0, .i 0])]⟩ rfl trivial rfl ?_
  rcases bif_some h with ⟨hd1, h⟩ | ⟨hd1, h⟩
  · refine Tri.u 1 [.g true, .g true] [.keep [0, 1, 4, 19] [4]] [.code [(1, 0)] 1, .code [] 2] ⟨[(0, .i a0), (1, .i a1), (4, .ptr 4 0), (19, .bool true)], [(4, .box [.i 0, .i 0])]⟩ rfl ⟨rfl, hd1, trivial⟩ rfl ?_
    refine Tri.u 2 [.g true] [.keep [4, 5] [4]] [.code [(1, 0), (1, 0)] 1, .code [] 2] ⟨[(4, .ptr 4 0), (5, .bool false)], [(4, .box [.i 0, .i 0])]⟩ rfl ⟨rfl, trivial⟩ rfl ?_
    cases h
    exact Tri.ret rfl ⟨.inl rfl, rfl, rfl⟩
  · obtain ⟨v1, hk2, h⟩ := bind_some h
    rcases bif_some h with ⟨hd3, h⟩ | ⟨hd3, h⟩
    · refine Tri.u 1 [.g false, .r ⟨[], .bool v1, []⟩, .g true] [.keep [0, 1, 4, 19] [4]] [.code [(1, 0)] 1, .code [] 2] ⟨[(0, .i a0), (1, .i a1), (4, .ptr 4 0), (19, .bool true)], [(4, .box [.i 0, .i 0])]⟩ rfl ⟨hd3, (fun _ => (w_spec_l1In a0 (-1000000000000000000 : Int) (1000000000000000000 : Int) v1 hk2)), hd1, trivial⟩ rfl ?_
      refine Tri.u 2 [.g true] [.keep [4, 5] [4]] [.code [(1, 0), (1, 0)] 1, .code [] 2] ⟨[(4, .ptr 4 0), (5, .bool false)], [(4, .box [.i 0, .i 0])]⟩ rfl ⟨rfl, trivial⟩ rfl ?_
      cases h
      exact Tri.ret rfl ⟨.inl rfl, rfl, rfl⟩
    · obtain ⟨v2, hk4, h⟩ := bind_some h
      refine Tri.u 1 [.g false, .r ⟨[], .bool v1, []⟩, .g false, .r ⟨[], .bool v2, []⟩] [.keep [0, 1, 4, 19] [4]] [.code [(1, 0)] 1, .code [] 2] ⟨[(0, .i a0), (1, .i a1), (4, .ptr 4 0), (19, .bool (!v2))], [(4, .box [.i 0, .i 0])]⟩ rfl ⟨(fun _ => (w_spec_l1In a1 (-1000000000000000000 : Int) (1000000000000000000 : Int) v2 hk4)), hd3, (fun _ => (w_spec_l1In a0 (-1000000000000000000 : Int) (1000000000000000000 : Int) v1 hk2)), hd1, trivial⟩ rfl ?_
      rcases bif_some h with ⟨hd5, h⟩ | ⟨hd5, h⟩
      · refine Tri.u 2 [.g true] [.keep [4, 5] [4]] [.code [(1, 0), (1, 0)] 1, .code [] 2] ⟨[(4, .ptr 4 0), (5, .bool false)], [(4, .box [.i 0, .i 0])]⟩ rfl ⟨hd5, trivial⟩ rfl ?_
        cases h
        exact Tri.ret rfl ⟨.inl rfl, rfl, rfl⟩
      · refine Tri.u 2 [.g false] [.keep [0, 1, 4, 22] [4]] [.code [(2, 0)] 1, .code [] 3] ⟨[(0, .i a0), (1, .i a1), (4, .ptr 4 0), (22, .bool (decide (a1 < (0 : Int))))], [(4, .box [.i 0, .i 0])]⟩ rfl ⟨hd5, trivial⟩ rfl ?_
        rcases bif_some h with ⟨hd6, h⟩ | ⟨hd6, h⟩
        · refine Tri.u 3 [.g true] [.keep [0, 1, 4] [4]] [.code [(3, 0)] 0, .code [] 4] ⟨[(0, .i (IntKind.i64.wrap (0 - a0))), (1, .i (IntKind.i64.wrap (0 - a1))), (4, .ptr 4 0)], [(4, .box [.i 0, .i 0])]⟩ rfl ⟨hd6, trivial⟩ rfl ?_
          obtain ⟨v3, hk7, h⟩ := bind_some h
          obtain ⟨hg8, h⟩ := grd_some h
          obtain ⟨hg9, h⟩ := grd_some h
          refine Tri.u 2 [.r ⟨[], .i v3, []⟩] [.keep [4, 7] [4, 7]] [.code [(5, 0), (0, 0)] 0, .code [(5, 0)] 1, .code [] 6] ⟨[(4, .ptr 4 0), (7, .ptr 7 0)], [(4, .box [.i 0, .i 0]), (7, .box [.i (IntKind.i64.wrap ((IntKind.i64.wrap (0 - a0)).tdiv v3)), .i (IntKind.i64.wrap ((IntKind.i64.wrap (0 - a1)).tdiv v3))])]⟩ rfl ⟨hg9, hg8, (fun _ => (w_spec_l3Gcd (IntKind.i64.wrap (0 - a0)) (IntKind.i64.wrap (0 - a1)) v3 hk7)), trivial⟩ rfl ?_
          obtain ⟨v4, hk10, h⟩ := bind_some h
          refine Tri.u 1 [.r ⟨[], .bool v4, []⟩] [.keep [4, 7, 39] [4, 7]] [.code [(5, 0)] 1, .code [] 6] ⟨[(4, .ptr 4 0), (7, .ptr 7 0), (39, .bool (!v4))], [(4, .box [.i 0, .i 0]), (7, .box [.i (IntKind.i64.wrap ((IntKind.i64.wrap (0 - a0)).tdiv v3)), .i (IntKind.i64.wrap ((IntKind.i64.wrap (0 - a1)).tdiv v3))])]⟩ rfl ⟨(fun _ => (w_spec_IsValidRat (IntKind.i64.wrap ((IntKind.i64.wrap (0 - a0)).tdiv v3)) (IntKind.i64.wrap ((IntKind.i64.wrap (0 - a1)).tdiv v3)) v4 hk10)), trivial⟩ rfl ?_
          rcases bif_some h with ⟨hd11, h⟩ | ⟨hd11, h⟩
          · refine Tri.u 2 [.g true] [.keep [4, 5] [4]] [.code [(5, 0), (1, 0)] 1, .code [] 6] ⟨[(4, .ptr 4 0), (5, .bool false)], [(4, .box [.i 0, .i 0])]⟩ rfl ⟨hd11, trivial⟩ rfl ?_
            cases h
            exact Tri.ret rfl ⟨.inl rfl, rfl, rfl⟩
          · refine Tri.u 2 [.g false] [.keep [4, 5] [4]] [.code [] 7] ⟨[(4, .ptr 4 0), (5, .bool true)], [(4, .box [.i (IntKind.i64.wrap ((IntKind.i64.wrap (0 - a0)).tdiv v3)), .i (IntKind.i64.wrap ((IntKind.i64.wrap (0 - a1)).tdiv v3))])]⟩ rfl ⟨hd11, trivial⟩ rfl ?_
            cases h
            exact Tri.ret rfl ⟨.inl rfl, rfl, rfl⟩
        · obtain ⟨v5, hk12, h⟩ := bind_some h
          obtain ⟨hg13, h⟩ := grd_some h
          obtain ⟨hg14, h⟩ := grd_some h
          refine Tri.u 3 [.g false, .r ⟨[], .i v5, []⟩] [.keep [4, 7] [4, 7]] [.code [(5, 0), (0, 0)] 0, .code [(5, 0)] 1, .code [] 6] ⟨[(4, .ptr 4 0), (7, .ptr 7 0)], [(4, .box [.i 0, .i 0]), (7, .box [.i (IntKind.i64.wrap (a0.tdiv v5)), .i (IntKind.i64.wrap (a1.tdiv v5))])]⟩ rfl ⟨hg14, hg13, (fun _ => (w_spec_l3Gcd a0 a1 v5 hk12)), hd6, trivial⟩ rfl ?_
          obtain ⟨v6, hk15, h⟩ := bind_some h
          refine Tri.u 1 [.r ⟨[], .bool v6, []⟩] [.keep [4, 7, 39] [4, 7]] [.code [(5, 0)] 1, .code [] 6] ⟨[(4, .ptr 4 0), (7, .ptr 7 0), (39, .bool (!v6))], [(4, .box [.i 0, .i 0]), (7, .box [.i (IntKind.i64.wrap (a0.tdiv v5)), .i (IntKind.i64.wrap (a1.tdiv v5))])]⟩ rfl ⟨(fun _ => (w_spec_IsValidRat (IntKind.i64.wrap (a0.tdiv v5)) (IntKind.i64.wrap (a1.tdiv v5)) v6 hk15)), trivial⟩ rfl ?_
          rcases bif_some h with ⟨hd16, h⟩ | ⟨hd16, h⟩
          · refine Tri.u 2 [.g true] [.keep [4, 5] [4]] [.code [(5, 0), (1, 0)] 1, .code [] 6] ⟨[(4, .ptr 4 0), (5, .bool false)], [(4, .box [.i 0, .i 0])]⟩ rfl ⟨hd16, trivial⟩ rfl ?_
            cases h
            exact Tri.ret rfl ⟨.inl rfl, rfl, rfl⟩
          · refine Tri.u 2 [.g false] [.keep [4, 5] [4]] [.code [] 7] ⟨[(4, .ptr 4 0), (5, .bool true)], [(4, .box [.i (IntKind.i64.wrap (a0.tdiv v5)), .i (IntKind.i64.wrap (a1.tdiv v5))])]⟩ rfl ⟨hd16, trivial⟩ rfl ?_
            cases h
            exact Tri.ret rfl ⟨.inl rfl, rfl, rfl⟩
/-! spec.AddRat -/
noncomputable def E73_spec_AddRat : Env := ⟨Try.prog, tys, (Try.f73.body).getD .skip, 34, tysOk, mixedOk⟩
abbrev q_spec_AddRat (r : Int × Int × Bool) (σ' : ASt) : Prop := isRes E73_spec_AddRat.T Try.f73 (.tuple [.agg [.i r.1, .i r.2.1], .bool r.2.2]) [] σ'
noncomputable def m_spec_AddRat (a0 : Int) (a1 : Int) (a2 : Int) (a3 : Int) : Option (Int × Int × Bool) :=
(m_spec_IsValidRat a0 a1).bind fun v1 =>
bif !v1 then
(some (0, 0, false))
else
((m_spec_IsValidRat a2 a3).bind fun v2 =>
bif !v2 then
(some (0, 0, false))
else
((m_spec_RatOf (IntKind.i64.wrap ((IntKind.i64.wrap (a0 * a3)) + (IntKind.i64.wrap (a2 * a1)))) (IntKind.i64.wrap (a1 * a3))).bind fun (v3, v4, v5) =>
some (v3, v4, v5)))
theorem w_spec_AddRat (a0 : Int) (a1 : Int) (a2 : Int) (a3 : Int) (r : Int × Int × Bool) (h : m_spec_AddRat a0 a1 a2 a3 = some r) : AM.Spec Try.prog 73 [.agg [.i a0, .i a1], .agg [.i a2, .i a3]] [] (.tuple [.agg [.i r.1, .i r.2.1], .bool r.2.2]) [] := by
  refine spec_of (E := E73_spec_AddRat) Try.func73 rfl rfl rfl rfl ?_
  refine Tri.u 1 [] [.keep [2, 3, 4] [2, 3, 4]] [.code [(1, 0), (0, 0)] 0, .code [(1, 0)] 1, .code [] 2] ⟨[(2, .ptr 2 0), (3, .ptr 3 0), (4, .ptr 4 0)], [(2, .box [.i a0, .i a1]), (3, .box [.i a2, .i a3]), (4, .box [.i 0, .i 0])]⟩ rfl trivial rfl ?_
  obtain ⟨v1, hk1, h⟩ := bind_some h
  rcases bif_some h with ⟨hd2, h⟩ | ⟨hd2, h⟩
  · refine Tri.u 1 [.r ⟨[], .bool v1, []⟩, .g true] [.keep [2, 3, 4, 13] [2, 3, 4]] [.code [(1, 0)] 1, .code [] 2] ⟨[(2, .ptr 2 0), (3, .ptr 3 0), (4, .ptr 4 0), (13, .bool true)], [(2, .box [.i a0, .i a1]), (3, .box [.i a2, .i a3]), (4, .box [.i 0, .i 0])]⟩ rfl ⟨hd2, (fun _ => (w_spec_IsValidRat a0 a1 v1 hk1)), trivial⟩ rfl ?_
    refine Tri.u 2 [.g true] [.keep [4, 5] [4]] [.code [(1, 0), (1, 0)] 1, .code [] 2] ⟨[(4, .ptr 4 0), (5, .bool false)], [(4, .box [.i 0, .i 0])]⟩ rfl ⟨rfl, trivial⟩ rfl ?_
    cases h
    exact Tri.ret rfl ⟨.inl rfl, rfl, rfl⟩
  · obtain ⟨v2, hk3, h⟩ := bind_some h
    refine Tri.u 1 [.r ⟨[], .bool v1, []⟩, .g false, .r ⟨[], .bool v2, []⟩] [.keep [2, 3, 4, 13] [2, 3, 4]] [.code [(1, 0)] 1, .code [] 2] ⟨[(2, .ptr 2 0), (3, .ptr 3 0), (4, .ptr 4 0), (13, .bool (!v2))], [(2, .box [.i a0, .i a1]), (3, .box [.i a2, .i a3]), (4, .box [.i 0, .i 0])]⟩ rfl ⟨(fun _ => (w_spec_IsValidRat a2 a3 v2 hk3)), hd2, (fun _ => (w_spec_IsValidRat a0 a1 v1 hk1)), trivial⟩ rfl ?_
    rcases bif_some h with ⟨hd4, h⟩ | ⟨hd4, h⟩
    · refine Tri.u 2 [.g true] [.keep [4, 5] [4]] [.code [(1, 0), (1, 0)] 1, .code [] 2] ⟨[(4, .ptr 4 0), (5, .bool false)], [(4, .box [.i 0, .i 0])]⟩ rfl ⟨hd4, trivial⟩ rfl ?_
      cases h
      exact Tri.ret rfl ⟨.inl rfl, rfl, rfl⟩
    · obtain ⟨⟨v3, v4, v5⟩, hk5, h⟩ := bind_some h
      refine Tri.u 2 [.g false, .r ⟨[], .tuple [.agg [.i v3, .i v4], .bool v5], []⟩] [.keep [4, 5] [4]] [.code [] 3] ⟨[(4, .ptr 4 0), (5, .bool v5)], [(4, .box [.i v3, .i v4])]⟩ rfl ⟨(fun _ => (w_spec_RatOf (IntKind.i64.wrap ((IntKind.i64.wrap (a0 * a3)) + (IntKind.i64.wrap (a2 * a1)))) (IntKind.i64.wrap (a1 * a3)) (v3, v4, v5) hk5)), hd4, trivial⟩ rfl ?_
      cases h
      exact Tri.ret rfl ⟨.inl rfl, rfl, rfl⟩
/-! spec.ShareOf -/
noncomputable def E32_spec_ShareOf : Env := ⟨Try.prog, tys, (Try.f32.body).getD .skip, 52, tysOk, mixedOk⟩
abbrev q_spec_ShareOf (r : Int × Int × Bool) (σ' : ASt) : Prop := isRes E32_spec_ShareOf.T Try.f32 (.tuple [.agg [.i r.1, .i r.2.1], .bool r.2.2]) [] σ'
noncomputable def l_spec_ShareOf_0 (a0 : List Q) (v3 : List Int) : (Int × Int × Int) → Option ((Int × Int × Int) ⊕ ((Int × Int) ⊕ ((Int × Int × Bool))))
  | (v4, v5, v6) => (
bif decide (v4 < (v3.length : Int)) then
(grd ((0 : Int) ≤ v4 ∧ v4 < (v3.length : Int)) <|
bif decide ((v3.getD v4.toNat 0) ≥ (a0.length : Int)) then
(some (.inr (.inr (0, 0, false))))
else
(grd ((0 : Int) ≤ v4 ∧ v4 < (v3.length : Int)) <|
grd ((0 : Int) ≤ v3.getD v4.toNat 0 ∧ v3.getD v4.toNat 0 < (a0.length : Int)) <|
(m_spec_AddRat v5 v6 ((a0.getD ((v3.getD v4.toNat 0).toNat) ⟨0, 0⟩).num) ((a0.getD ((v3.getD v4.toNat 0).toNat) ⟨0, 0⟩).den)).bind fun (v7, v8, v9) =>
bif !v9 then
(some (.inr (.inr (0, 0, false))))
else
(some (.inl (IntKind.i64.wrap (v4 + (1 : Int)), v7, v8)))))
else
(some (.inr (.inl (v5, v6)))))
noncomputable def m_spec_ShareOf (a0 : List Q) (a1 : Int) : Option (Int × Int × Bool) :=
(m_spec_l3Int (0 : Int)).bind fun (v1, v2) =>
bif decide (a1 < (0 : Int)) then
(some (0, 0, false))
else
(bif decide (a1 > (31 : Int)) then
(some (0, 0, false))
else
((m_spec_MembersOf a1).bind fun v3 =>
(iter (l_spec_ShareOf_0 a0 v3) ((0 : Int), v1, v2)).bind fun
| (.inl (v10, v11)) => (
some (v10, v11, true))
| (.inr r) => some r))
theorem w_spec_ShareOf (a0 : List Q) (a1 : Int) (r : Int × Int × Bool) (h : m_spec_ShareOf a0 a1 = some r) : AM.Spec Try.prog 32 [.list (.rats a0), .i a1] [] (.tuple [.agg [.i r.1, .i r.2.1], .bool r.2.2]) [] := by
  refine spec_of (E := E32_spec_ShareOf) Try.func32 rfl rfl rfl rfl ?_
  refine Tri.u 1 [] [.keep [0, 1, 4] [4]] [.code [(1, 0)] 0, .code [] 2] ⟨[(0, .list (.rats a0)), (1, .i a1), (4, .ptr 4 0)], [(4, .box [.i 0, .i 0])]⟩ rfl trivial rfl ?_
  obtain ⟨⟨v1, v2⟩, hk1, h⟩ := bind_some h
  rcases bif_some h with ⟨hd2, h⟩ | ⟨hd2, h⟩
  · refine Tri.u 2 [.r ⟨[], .agg [.i v1, .i v2], []⟩, .g true] [.keep [0, 1, 4, 6, 17] [4, 6]] [.code [(2, 0)] 1, .code [] 3] ⟨[(0, .list (.rats a0)), (1, .i a1), (4, .ptr 4 0), (6, .ptr 6 0), (17, .bool true)], [(4, .box [.i 0, .i 0]), (6, .box [.i v1, .i v2])]⟩ rfl ⟨hd2, (fun _ => (w_spec_l3Int (0 : Int) (v1, v2) hk1)), trivial⟩ rfl ?_
    refine Tri.u 2 [.g true] [.keep [4, 5] [4]] [.code [(2, 0), (1, 0)] 1, .code [] 3] ⟨[(4, .ptr 4 0), (5, .bool false)], [(4, .box [.i 0, .i 0])]⟩ rfl ⟨rfl, trivial⟩ rfl ?_
    cases h
    exact Tri.ret rfl ⟨.inl rfl, rfl, rfl⟩
  · refine Tri.u 2 [.r ⟨[], .agg [.i v1, .i v2], []⟩, .g false] [.keep [0, 1, 4, 6, 17] [4, 6]] [.code [(2, 0)] 1, .code [] 3] ⟨[(0, .list (.rats a0)), (1, .i a1), (4, .ptr 4 0), (6, .ptr 6 0), (17, .bool (decide (a1 > (31 : Int))))], [(4, .box [.i 0, .i 0]), (6, .box [.i v1, .i v2])]⟩ rfl ⟨hd2, (fun _ => (w_spec_l3Int (0 : Int) (v1, v2) hk1)), trivial⟩ rfl ?_
    rcases bif_some h with ⟨hd3, h⟩ | ⟨hd3, h⟩
    · refine Tri.u 2 [.g true] [.keep [4, 5] [4]] [.code [(2, 0), (1, 0)] 1, .code [] 3] ⟨[(4, .ptr 4 0), (5, .bool false)], [(4, .box [.i 0, .i 0])]⟩ rfl ⟨hd3, trivial⟩ rfl ?_
      cases h
      exact Tri.ret rfl ⟨.inl rfl, rfl, rfl⟩
    · obtain ⟨v3, hk4, h⟩ := bind_some h
      refine Tri.u 3 [.g false, .r ⟨[], .sl 1100 0, [(1100, .arr 3 0 0 (.ints v3))]⟩] [.keep [0, 4, 6, 7, 8] [4, 6, 1100]] [.code [(4, 0), (1, 0)] 0, .blk 0, .code [] 5] ⟨[(0, .list (.rats a0)), (4, .ptr 4 0), (6, .ptr 6 0), (7, .sl 1100 0), (8, .i (0 : Int))], [(4, .box [.i 0, .i 0]), (6, .box [.i v1, .i v2]), (1100, .arr 3 0 0 (.ints v3))]⟩ rfl ⟨(fun _ => ((w_spec_MembersOf a1 v3 hk4).swap 1000 1100)), hd3, trivial⟩ rfl ?_
      obtain ⟨x1, hk12, h⟩ := bind_some h
      refine Tri.loop (K1 := [.code [(4, 0), (1, 0), (0, 0)] 0]) (K2 := [.blk 0, .code [] 5]) (fun (v4, v5, v6) => ⟨[(0, .list (.rats a0)), (4, .ptr 4 0), (6, .ptr 6 0), (7, .sl 1100 0), (8, .i v4)], [(4, .box [.i 0, .i 0]), (6, .box [.i v5, .i v6]), (1100, .arr 3 0 0 (.ints v3))]⟩) (fun x e σ' => match x with | (.inl (v10, v11)) => e = .exit 0 ∧ σ' = ⟨[(4, .ptr 4 0), (6, .ptr 6 0)], [(4, .box [.i 0, .i 0]), (6, .box [.i v10, .i v11])]⟩ | (.inr r) => e = .ret ∧ q_spec_ShareOf r σ') hk12 rfl rfl ?_ ?_
      · intro s x hs
        clear h
        have h := hs
        clear hs
        obtain ⟨v4, v5, v6⟩ := s
        refine Tri.u 1 [] [.keep [0, 4, 6, 7, 8, 24] [4, 6, 1100]] [.code [(4, 0), (1, 0), (0, 0), (0, 0)] 1, .code [(4, 0), (1, 0), (0, 0)] 1] ⟨[(0, .list (.rats a0)), (4, .ptr 4 0), (6, .ptr 6 0), (7, .sl 1100 0), (8, .i v4), (24, .bool (decide (v4 < (v3.length : Int))))], [(4, .box [.i 0, .i 0]), (6, .box [.i v5, .i v6]), (1100, .arr 3 0 0 (.ints v3))]⟩ rfl trivial rfl ?_
        rcases bif_some h with ⟨hd5, h⟩ | ⟨hd5, h⟩
        · obtain ⟨hg6, h⟩ := grd_some h
          refine Tri.u 2 [.g true] [.keep [0, 4, 6, 7, 8, 33] [4, 6, 1100]] [.code [(4, 0), (1, 0), (0, 0), (1, 0), (0, 0), (0, 0)] 1, .code [(4, 0), (1, 0), (0, 0), (1, 0), (0, 0)] 1, .blk 1, .code [(4, 0), (1, 0), (0, 0)] 2] ⟨[(0, .list (.rats a0)), (4, .ptr 4 0), (6, .ptr 6 0), (7, .sl 1100 0), (8, .i v4), (33, .bool (decide ((v3.getD v4.toNat 0) ≥ (a0.length : Int))))], [(4, .box [.i 0, .i 0]), (6, .box [.i v5, .i v6]), (1100, .arr 3 0 0 (.ints v3))]⟩ rfl ⟨hg6, hd5, trivial⟩ rfl ?_
          rcases bif_some h with ⟨hd7, h⟩ | ⟨hd7, h⟩
          · refine Tri.u 2 [.g true] [.keep [4, 5] [4]] [.code [(4, 0), (1, 0), (0, 0), (1, 0), (0, 0), (0, 0), (1, 0)] 1, .code [(4, 0), (1, 0), (0, 0), (1, 0), (0, 0)] 1, .blk 1, .code [(4, 0), (1, 0), (0, 0)] 2] ⟨[(4, .ptr 4 0), (5, .bool false)], [(4, .box [.i 0, .i 0])]⟩ rfl ⟨hd7, trivial⟩ rfl ?_
            cases h
            exact Tri.ret rfl ⟨nofun, rfl, rfl, rfl⟩
          · obtain ⟨hg8, h⟩ := grd_some h
            obtain ⟨hg9, h⟩ := grd_some h
            obtain ⟨⟨v7, v8, v9⟩, hk10, h⟩ := bind_some h
            refine Tri.u 3 [.g false, .r ⟨[], .tuple [.agg [.i v7, .i v8], .bool v9], []⟩] [.keep [0, 4, 6, 7, 8, 9, 48] [4, 6, 9, 1100]] [.code [(4, 0), (1, 0), (0, 0), (1, 0), (0, 0), (2, 0)] 1, .code [(4, 0), (1, 0), (0, 0), (1, 0), (0, 0)] 3, .blk 1, .code [(4, 0), (1, 0), (0, 0)] 2] ⟨[(0, .list (.rats a0)), (4, .ptr 4 0), (6, .ptr 6 0), (7, .sl 1100 0), (8, .i v4), (9, .ptr 9 0), (48, .bool (!v9))], [(4, .box [.i 0, .i 0]), (6, .box [.i v5, .i v6]), (9, .box [.i v7, .i v8]), (1100, .arr 3 0 0 (.ints v3))]⟩ rfl ⟨(fun _ => (w_spec_AddRat v5 v6 ((a0.getD ((v3.getD v4.toNat 0).toNat) ⟨0, 0⟩).num) ((a0.getD ((v3.getD v4.toNat 0).toNat) ⟨0, 0⟩).den) (v7, v8, v9) hk10)), hg9, hg8, hd7, trivial⟩ rfl ?_
            rcases bif_some h with ⟨hd11, h⟩ | ⟨hd11, h⟩
            · refine Tri.u 2 [.g true] [.keep [4, 5] [4]] [.code [(4, 0), (1, 0), (0, 0), (1, 0), (0, 0), (2, 0), (1, 0)] 1, .code [(4, 0), (1, 0), (0, 0), (1, 0), (0, 0)] 3, .blk 1, .code [(4, 0), (1, 0), (0, 0)] 2] ⟨[(4, .ptr 4 0), (5, .bool false)], [(4, .box [.i 0, .i 0])]⟩ rfl ⟨hd11, trivial⟩ rfl ?_
              cases h
              exact Tri.ret rfl ⟨nofun, rfl, rfl, rfl⟩
            · refine Tri.u 3 [.g false] [.keep [0, 4, 6, 7, 8] [4, 6, 1100]] [] ⟨[(0, .list (.rats a0)), (4, .ptr 4 0), (6, .ptr 6 0), (7, .sl 1100 0), (8, .i (IntKind.i64.wrap (v4 + (1 : Int))))], [(4, .box [.i 0, .i 0]), (6, .box [.i v7, .i v8]), (1100, .arr 3 0 0 (.ints v3))]⟩ rfl ⟨hd11, trivial⟩ rfl ?_
              cases h
              exact Tri.nil ⟨rfl, rfl⟩
        · refine Tri.u 1 [.g false] [.keep [4, 6] [4, 6]] [.code [(4, 0), (1, 0), (0, 0), (0, 0), (1, 1)] 0, .code [(4, 0), (1, 0), (0, 0)] 1] ⟨[(4, .ptr 4 0), (6, .ptr 6 0)], [(4, .box [.i 0, .i 0]), (6, .box [.i v5, .i v6])]⟩ rfl ⟨hd5, trivial⟩ rfl ?_
          cases h
          exact Tri.out 0 rfl ⟨nofun, rfl, rfl⟩
      · intro e σ' hne hq
        rcases x1 with ⟨v10, v11⟩ | r
        · obtain ⟨rfl, rfl⟩ := hq
          refine TriX.exit (K' := [.code [] 5]) rfl ?_
          refine Tri.u 1 [] [.keep [4, 5] [4]] [.code [] 6] ⟨[(4, .ptr 4 0), (5, .bool true)], [(4, .box [.i v10, .i v11])]⟩ rfl trivial rfl ?_
          cases h
          exact Tri.ret rfl ⟨.inl rfl, rfl, rfl⟩
        · obtain ⟨rfl, hq⟩ := hq
          cases h
          exact TriX.ret ⟨.inl rfl, hq⟩
/-! spec.GrandValue -/
noncomputable def E60_spec_GrandValue : Env := ⟨Try.prog, tys, (Try.f60.body).getD .skip, 14, tysOk, mixedOk⟩
abbrev q_spec_GrandValue (r : Int) (σ' : ASt) : Prop := isRes E60_spec_GrandValue.T Try.f60 (.i r) [] σ'
noncomputable def m_spec_GrandValue (a0 : Int) (a1 : List Int) : Option Int :=
(m_spec_IsValidGame a0 a1).bind fun v1 =>
bif !v1 then
(some (0 : Int))
else
(grd ((0 : Int) ≤ IntKind.i64.wrap ((a1.length : Int) - (1 : Int)) ∧ IntKind.i64.wrap ((a1.length : Int) - (1 : Int)) < (a1.length : Int)) <|
some (a1.getD ((IntKind.i64.wrap ((a1.length : Int) - (1 : Int))).toNat) 0))
theorem w_spec_GrandValue (a0 : Int) (a1 : List Int) (r : Int) (h : m_spec_GrandValue a0 a1 = some r) : AM.Spec Try.prog 60 [.agg [.i a0, .list (.ints a1)]] [] (.i r) [] := by
  refine spec_of (E := E60_spec_GrandValue) Try.func60 rfl rfl rfl rfl ?_
  refine Tri.u 1 [] [.keep [1] [1]] [.code [(1, 0), (0, 0)] 0, .code [(1, 0)] 1, .code [] 2] ⟨[(1, .ptr 1 0)], [(1, .box [.i a0, .list (.ints a1)])]⟩ rfl trivial rfl ?_
  obtain ⟨v1, hk1, h⟩ := bind_some h
  refine Tri.u 1 [.r ⟨[], .bool v1, []⟩] [.keep [1, 5] [1]] [.code [(1, 0)] 1, .code [] 2] ⟨[(1, .ptr 1 0), (5, .bool (!v1))], [(1, .box [.i a0, .list (.ints a1)])]⟩ rfl ⟨(fun _ => (w_spec_IsValidGame a0 a1 v1 hk1)), trivial⟩ rfl ?_
  rcases bif_some h with ⟨hd2, h⟩ | ⟨hd2, h⟩
  · refine Tri.u 2 [.g true] [.keep [2] []] [.code [(1, 0), (1, 0)] 1, .code [] 2] ⟨[(2, .i (0 : Int))], []⟩ rfl ⟨hd2, trivial⟩ rfl ?_
    cases h
    exact Tri.ret rfl ⟨.inl rfl, rfl, rfl⟩
  · obtain ⟨hg3, h⟩ := grd_some h
    refine Tri.u 2 [.g false] [.keep [2] []] [.code [] 3] ⟨[(2, .i (a1.getD ((IntKind.i64.wrap ((a1.length : Int) - (1 : Int))).toNat) 0))], []⟩ rfl ⟨hg3, hd2, trivial⟩ rfl ?_
    cases h
    exact Tri.ret rfl ⟨.inl rfl, rfl, rfl⟩
/-! spec.IsPayoff -/
noncomputable def E25_spec_IsPayoff : Env := ⟨Try.prog, tys, (Try.f25.body).getD .skip, 39, tysOk, mixedOk⟩
abbrev q_spec_IsPayoff (r : Bool) (σ' : ASt) : Prop := isRes E25_spec_IsPayoff.T Try.f25 (.bool r) [] σ'
noncomputable def m_spec_IsPayoff (a0 : Int) (a1 : List Int) (a2 : List Q) : Option Bool :=
(m_spec_IsValidGame a0 a1).bind fun v1 =>
bif !v1 then
(some false)
else
(bif (a2.length : Int) != a0 then
(some false)
else
((m_spec_AllValid a2).bind fun v2 =>
bif !v2 then
(some false)
else
((m_spec_ShareOf a2 (IntKind.i64.wrap ((a1.length : Int) - (1 : Int)))).bind fun (v3, v4, v5) =>
bif v5 then
((m_spec_GrandValue a0 a1).bind fun v6 =>
(m_spec_l3Int v6).bind fun (v7, v8) =>
some (v3 == v7 && v4 == v8))
else
(some false))))
theorem w_spec_IsPayoff (a0 : Int) (a1 : List Int) (a2 : List Q) (r : Bool) (h : m_spec_IsPayoff a0 a1 a2 = some r) : AM.Spec Try.prog 25 [.agg [.i a0, .list (.ints a1)], .list (.rats a2)] [] (.bool r) [] := by
  refine spec_of (E := E25_spec_IsPayoff) Try.func25 rfl rfl rfl rfl ?_
  refine Tri.u 1 [] [.keep [1, 2] [2]] [.code [(1, 0), (0, 0)] 0, .code [(1, 0)] 1, .code [] 2] ⟨[(1, .list (.rats a2)), (2, .ptr 2 0)], [(2, .box [.i a0, .list (.ints a1)])]⟩ rfl trivial rfl ?_
  obtain ⟨v1, hk1, h⟩ := bind_some h
  rcases bif_some h with ⟨hd2, h⟩ | ⟨hd2, h⟩
  · refine Tri.u 1 [.r ⟨[], .bool v1, []⟩, .g true, .g true] [.keep [1, 2, 21] [2]] [.code [(1, 0)] 1, .code [] 2] ⟨[(1, .list (.rats a2)), (2, .ptr 2 0), (21, .bool true)], [(2, .box [.i a0, .list (.ints a1)])]⟩ rfl ⟨rfl, hd2, (fun _ => (w_spec_IsValidGame a0 a1 v1 hk1)), trivial⟩ rfl ?_
    refine Tri.u 2 [.g true] [.keep [4] []] [.code [(1, 0), (1, 0)] 1, .code [] 2] ⟨[(4, .bool false)], []⟩ rfl ⟨rfl, trivial⟩ rfl ?_
    cases h
    exact Tri.ret rfl ⟨.inl rfl, rfl, rfl⟩
  · rcases bif_some h with ⟨hd3, h⟩ | ⟨hd3, h⟩
    · refine Tri.u 1 [.r ⟨[], .bool v1, []⟩, .g false, .g true] [.keep [1, 2, 21] [2]] [.code [(1, 0)] 1, .code [] 2] ⟨[(1, .list (.rats a2)), (2, .ptr 2 0), (21, .bool true)], [(2, .box [.i a0, .list (.ints a1)])]⟩ rfl ⟨hd3, hd2, (fun _ => (w_spec_IsValidGame a0 a1 v1 hk1)), trivial⟩ rfl ?_
      refine Tri.u 2 [.g true] [.keep [4] []] [.code [(1, 0), (1, 0)] 1, .code [] 2] ⟨[(4, .bool false)], []⟩ rfl ⟨rfl, trivial⟩ rfl ?_
      cases h
      exact Tri.ret rfl ⟨.inl rfl, rfl, rfl⟩
    · obtain ⟨v2, hk4, h⟩ := bind_some h
      refine Tri.u 1 [.r ⟨[], .bool v1, []⟩, .g false, .g false, .r ⟨[], .bool v2, []⟩] [.keep [1, 2, 21] [2]] [.code [(1, 0)] 1, .code [] 2] ⟨[(1, .list (.rats a2)), (2, .ptr 2 0), (21, .bool (!v2))], [(2, .box [.i a0, .list (.ints a1)])]⟩ rfl ⟨(fun _ => (w_spec_AllValid a2 v2 hk4)), hd3, hd2, (fun _ => (w_spec_IsValidGame a0 a1 v1 hk1)), trivial⟩ rfl ?_
      rcases bif_some h with ⟨hd5, h⟩ | ⟨hd5, h⟩
      · refine Tri.u 2 [.g true] [.keep [4] []] [.code [(1, 0), (1, 0)] 1, .code [] 2] ⟨[(4, .bool false)], []⟩ rfl ⟨hd5, trivial⟩ rfl ?_
        cases h
        exact Tri.ret rfl ⟨.inl rfl, rfl, rfl⟩
      · obtain ⟨⟨v3, v4, v5⟩, hk6, h⟩ := bind_some h
        refine Tri.u 2 [.g false, .r ⟨[], .tuple [.agg [.i v3, .i v4], .bool v5], []⟩] [.keep [2, 5, 6] [2, 5]] [.code [(3, 0)] 0, .code [] 4] ⟨[(2, .ptr 2 0), (5, .ptr 5 0), (6, .bool v5)], [(2, .box [.i a0, .list (.ints a1)]), (5, .box [.i v3, .i v4])]⟩ rfl ⟨(fun _ => (w_spec_ShareOf a2 (IntKind.i64.wrap ((a1.length : Int) - (1 : Int))) (v3, v4, v5) hk6)), hd5, trivial⟩ rfl ?_
        rcases bif_some h with ⟨hd7, h⟩ | ⟨hd7, h⟩
        · obtain ⟨v6, hk8, h⟩ := bind_some h
          obtain ⟨⟨v7, v8⟩, hk9, h⟩ := bind_some h
          refine Tri.u 1 [.g true, .r ⟨[], .i v6, []⟩, .r ⟨[], .agg [.i v7, .i v8], []⟩] [.keep [4] []] [.code [] 4] ⟨[(4, .bool (v3 == v7 && v4 == v8))], []⟩ rfl ⟨(fun _ => (w_spec_l3Int v6 (v7, v8) hk9)), (fun _ => (w_spec_GrandValue a0 a1 v6 hk8)), hd7, trivial⟩ rfl ?_
          cases h
          exact Tri.ret rfl ⟨.inl rfl, rfl, rfl⟩
        · refine Tri.u 1 [.g false] [.keep [4] []] [.code [] 4] ⟨[(4, .bool false)], []⟩ rfl ⟨hd7, trivial⟩ rfl ?_
          cases h
          exact Tri.ret rfl ⟨.inl rfl, rfl, rfl⟩
/-! spec.SubRat -/
noncomputable def E76_spec_SubRat : Env := ⟨Try.prog, tys, (Try.f76.body).getD .skip, 19, tysOk, mixedOk⟩
abbrev q_spec_SubRat (r : Int × Int × Bool) (σ' : ASt) : Prop := isRes E76_spec_SubRat.T Try.f76 (.tuple [.agg [.i r.1, .i r.2.1], .bool r.2.2]) [] σ'
noncomputable def m_spec_SubRat (a0 : Int) (a1 : Int) (a2 : Int) (a3 : Int) : Option (Int × Int × Bool) :=
(m_spec_IsValidRat a2 a3).bind fun v1 =>
bif !v1 then
(some (0, 0, false))
else
((m_spec_AddRat a0 a1 (IntKind.i64.wrap (0 - a2)) a3).bind fun (v2, v3, v4) =>
some (v2, v3, v4))
theorem w_spec_SubRat (a0 : Int) (a1 : Int) (a2 : Int) (a3 : Int) (r : Int × Int × Bool) (h : m_spec_SubRat a0 a1 a2 a3 = some r) : AM.Spec Try.prog 76 [.agg [.i a0, .i a1], .agg [.i a2, .i a3]] [] (.tuple [.agg [.i r.1, .i r.2.1], .bool r.2.2]) [] := by
  refine spec_of (E := E76_spec_SubRat) Try.func76 rfl rfl rfl rfl ?_
  refine Tri.u 1 [] [.keep [2, 3, 4] [2, 3, 4]] [.code [(1, 0), (0, 0)] 0, .code [(1, 0)] 1, .code [] 2] ⟨[(2, .ptr 2 0), (3, .ptr 3 0), (4, .ptr 4 0)], [(2, .box [.i a0, .i a1]), (3, .box [.i a2, .i a3]), (4, .box [.i 0, .i 0])]⟩ rfl trivial rfl ?_
  obtain ⟨v1, hk1, h⟩ := bind_some h
  refine Tri.u 1 [.r ⟨[], .bool v1, []⟩] [.keep [2, 3, 4, 8] [2, 3, 4]] [.code [(1, 0)] 1, .code [] 2] ⟨[(2, .ptr 2 0), (3, .ptr 3 0), (4, .ptr 4 0), (8, .bool (!v1))], [(2, .box [.i a0, .i a1]), (3, .box [.i a2, .i a3]), (4, .box [.i 0, .i 0])]⟩ rfl ⟨(fun _ => (w_spec_IsValidRat a2 a3 v1 hk1)), trivial⟩ rfl ?_
  rcases bif_some h with ⟨hd2, h⟩ | ⟨hd2, h⟩
  · refine Tri.u 2 [.g true] [.keep [4, 5] [4]] [.code [(1, 0), (1, 0)] 1, .code [] 2] ⟨[(4, .ptr 4 0), (5, .bool false)], [(4, .box [.i 0, .i 0])]⟩ rfl ⟨hd2, trivial⟩ rfl ?_
    cases h
    exact Tri.ret rfl ⟨.inl rfl, rfl, rfl⟩
  · refine Tri.u 2 [.g false] [.keep [2, 3, 4] [2, 3, 4]] [.code [(3, 0)] 0, .code [] 4] ⟨[(2, .ptr 2 0), (3, .ptr 3 0), (4, .ptr 4 0)], [(2, .box [.i a0, .i a1]), (3, .box [.i (IntKind.i64.wrap (0 - a2)), .i a3]), (4, .box [.i 0, .i 0])]⟩ rfl ⟨hd2, trivial⟩ rfl ?_
    obtain ⟨⟨v2, v3, v4⟩, hk3, h⟩ := bind_some h
    refine Tri.u 1 [.r ⟨[], .tuple [.agg [.i v2, .i v3], .bool v4], []⟩] [.keep [4, 5] [4]] [.code [] 4] ⟨[(4, .ptr 4 0), (5, .bool v4)], [(4, .box [.i v2, .i v3])]⟩ rfl ⟨(fun _ => (w_spec_AddRat a0 a1 (IntKind.i64.wrap (0 - a2)) a3 (v2, v3, v4) hk3)), trivial⟩ rfl ?_
    cases h
    exact Tri.ret rfl ⟨.inl rfl, rfl, rfl⟩
/-! spec.ExcessOf -/
noncomputable def E35_spec_ExcessOf : Env := ⟨Try.prog, tys, (Try.f35.body).getD .skip, 50, tysOk, mixedOk⟩
abbrev q_spec_ExcessOf (r : Int × Int × Bool) (σ' : ASt) : Prop := isRes E35_spec_ExcessOf.T Try.f35 (.tuple [.agg [.i r.1, .i r.2.1], .bool r.2.2]) [] σ'
noncomputable def m_spec_ExcessOf (a0 : Int) (a1 : List Int) (a2 : List Q) (a3 : Int) : Option (Int × Int × Bool) :=
(m_spec_IsValidGame a0 a1).bind fun v1 =>
bif !v1 then
(some (0, 0, false))
else
((m_spec_l1In a3 (0 : Int) (IntKind.i64.wrap ((a1.length : Int) - (1 : Int)))).bind fun v2 =>
bif !v2 then
(some (0, 0, false))
else
((m_spec_ShareOf a2 a3).bind fun (v3, v4, v5) =>
grd ((0 : Int) ≤ a3 ∧ a3 < (a1.length : Int)) <|
(m_spec_l3Int (a1.getD a3.toNat 0)).bind fun (v6, v7) =>
(m_spec_SubRat v6 v7 v3 v4).bind fun (v8, v9, v10) =>
bif !v5 then
(some (0, 0, false))
else
(bif !v10 then
(some (0, 0, false))
else
(some (v8, v9, true)))))
theorem w_spec_ExcessOf (a0 : Int) (a1 : List Int) (a2 : List Q) (a3 : Int) (r : Int × Int × Bool) (h : m_spec_ExcessOf a0 a1 a2 a3 = some r) : AM.Spec Try.prog 35 [.agg [.i a0, .list (.ints a1)], .list (.rats a2), .i a3] [] (.tuple [.agg [.i r.1, .i r.2.1], .bool r.2.2]) [] := by
  refine spec_of (E := E35_spec_ExcessOf) Try.func35 rfl rfl rfl rfl ?_
  refine Tri.u 1 [] [.keep [1, 2, 3, 6] [3, 6]] [.code [(1, 0), (0, 0)] 0, .code [(1, 0)] 1, .code [] 2] ⟨[(1, .list (.rats a2)), (2, .i a3), (3, .ptr 3 0), (6, .ptr 6 0)], [(3, .box [.i a0, .list (.ints a1)]), (6, .box [.i 0, .i 0])]⟩ rfl trivial rfl ?_
  obtain ⟨v1, hk1, h⟩ := bind_some h
  rcases bif_some h with ⟨hd2, h⟩ | ⟨hd2, h⟩
  · refine Tri.u 1 [.r ⟨[], .bool v1, []⟩, .g true] [.keep [1, 2, 3, 6, 23] [3, 6]] [.code [(1, 0)] 1, .code [] 2] ⟨[(1, .list (.rats a2)), (2, .i a3), (3, .ptr 3 0), (6, .ptr 6 0), (23, .bool true)], [(3, .box [.i a0, .list (.ints a1)]), (6, .box [.i 0, .i 0])]⟩ rfl ⟨hd2, (fun _ => (w_spec_IsValidGame a0 a1 v1 hk1)), trivial⟩ rfl ?_
    refine Tri.u 2 [.g true] [.keep [6, 7] [6]] [.code [(1, 0), (1, 0)] 1, .code [] 2] ⟨[(6, .ptr 6 0), (7, .bool false)], [(6, .box [.i 0, .i 0])]⟩ rfl ⟨rfl, trivial⟩ rfl ?_
    cases h
    exact Tri.ret rfl ⟨.inl rfl, rfl, rfl⟩
  · obtain ⟨v2, hk3, h⟩ := bind_some h
    refine Tri.u 1 [.r ⟨[], .bool v1, []⟩, .g false, .r ⟨[], .bool v2, []⟩] [.keep [1, 2, 3, 6, 23] [3, 6]] [.code [(1, 0)] 1, .code [] 2] ⟨[(1, .list (.rats a2)), (2, .i a3), (3, .ptr 3 0), (6, .ptr 6 0), (23, .bool (!v2))], [(3, .box [.i a0, .list (.ints a1)]), (6, .box [.i 0, .i 0])]⟩ rfl ⟨(fun _ => (w_spec_l1In a3 (0 : Int) (IntKind.i64.wrap ((a1.length : Int) - (1 : Int))) v2 hk3)), hd2, (fun _ => (w_spec_IsValidGame a0 a1 v1 hk1)), trivial⟩ rfl ?_
    rcases bif_some h with ⟨hd4, h⟩ | ⟨hd4, h⟩
    · refine Tri.u 2 [.g true] [.keep [6, 7] [6]] [.code [(1, 0), (1, 0)] 1, .code [] 2] ⟨[(6, .ptr 6 0), (7, .bool false)], [(6, .box [.i 0, .i 0])]⟩ rfl ⟨hd4, trivial⟩ rfl ?_
      cases h
      exact Tri.ret rfl ⟨.inl rfl, rfl, rfl⟩
    · obtain ⟨⟨v3, v4, v5⟩, hk5, h⟩ := bind_some h
      refine Tri.u 2 [.g false, .r ⟨[], .tuple [.agg [.i v3, .i v4], .bool v5], []⟩] [.keep [2, 3, 6, 8, 9] [3, 6, 8]] [.code [(3, 0)] 0, .code [] 4] ⟨[(2, .i a3), (3, .ptr 3 0), (6, .ptr 6 0), (8, .ptr 8 0), (9, .bool v5)], [(3, .box [.i a0, .list (.ints a1)]), (6, .box [.i 0, .i 0]), (8, .box [.i v3, .i v4])]⟩ rfl ⟨(fun _ => (w_spec_ShareOf a2 a3 (v3, v4, v5) hk5)), hd4, trivial⟩ rfl ?_
      obtain ⟨hg6, h⟩ := grd_some h
      obtain ⟨⟨v6, v7⟩, hk7, h⟩ := bind_some h
      obtain ⟨⟨v8, v9, v10⟩, hk8, h⟩ := bind_some h
      rcases bif_some h with ⟨hd9, h⟩ | ⟨hd9, h⟩
      · refine Tri.u 2 [.r ⟨[], .agg [.i v6, .i v7], []⟩, .r ⟨[], .tuple [.agg [.i v8, .i v9], .bool v10], []⟩, .g true] [.keep [6, 10, 47] [6, 10]] [.code [(4, 0)] 1, .code [] 5] ⟨[(6, .ptr 6 0), (10, .ptr 10 0), (47, .bool true)], [(6, .box [.i 0, .i 0]), (10, .box [.i v8, .i v9])]⟩ rfl ⟨hd9, (fun _ => (w_spec_SubRat v6 v7 v3 v4 (v8, v9, v10) hk8)), (fun _ => (w_spec_l3Int (a1.getD a3.toNat 0) (v6, v7) hk7)), hg6, trivial⟩ rfl ?_
        refine Tri.u 2 [.g true] [.keep [6, 7] [6]] [.code [(4, 0), (1, 0)] 1, .code [] 5] ⟨[(6, .ptr 6 0), (7, .bool false)], [(6, .box [.i 0, .i 0])]⟩ rfl ⟨rfl, trivial⟩ rfl ?_
        cases h
        exact Tri.ret rfl ⟨.inl rfl, rfl, rfl⟩
      · refine Tri.u 2 [.r ⟨[], .agg [.i v6, .i v7], []⟩, .r ⟨[], .tuple [.agg [.i v8, .i v9], .bool v10], []⟩, .g false] [.keep [6, 10, 47] [6, 10]] [.code [(4, 0)] 1, .code [] 5] ⟨[(6, .ptr 6 0), (10, .ptr 10 0), (47, .bool (!v10))], [(6, .box [.i 0, .i 0]), (10, .box [.i v8, .i v9])]⟩ rfl ⟨hd9, (fun _ => (w_spec_SubRat v6 v7 v3 v4 (v8, v9, v10) hk8)), (fun _ => (w_spec_l3Int (a1.getD a3.toNat 0) (v6, v7) hk7)), hg6, trivial⟩ rfl ?_
        rcases bif_some h with ⟨hd10, h⟩ | ⟨hd10, h⟩
        · refine Tri.u 2 [.g true] [.keep [6, 7] [6]] [.code [(4, 0), (1, 0)] 1, .code [] 5] ⟨[(6, .ptr 6 0), (7, .bool false)], [(6, .box [.i 0, .i 0])]⟩ rfl ⟨hd10, trivial⟩ rfl ?_
          cases h
          exact Tri.ret rfl ⟨.inl rfl, rfl, rfl⟩
        · refine Tri.u 2 [.g false] [.keep [6, 7] [6]] [.code [] 6] ⟨[(6, .ptr 6 0), (7, .bool true)], [(6, .box [.i v8, .i v9])]⟩ rfl ⟨hd10, trivial⟩ rfl ?_
          cases h
          exact Tri.ret rfl ⟨.inl rfl, rfl, rfl⟩
/-! spec.l11All -/
noncomputable def E39_spec_l11All : Env := ⟨Try.prog, tys, (Try.f39.body).getD .skip, 39, tysOk, mixedOk⟩
abbrev q_spec_l11All (r : Bool × (List Q)) (σ' : ASt) : Prop := isRes E39_spec_l11All.T Try.f39 (.tuple [.sl 1000 0, .bool r.1]) [(1000, .arr 44 0 0 (.rats r.2))] σ'
noncomputable def l_spec_l11All_0 (a0 : Int) (a1 : List Int) (a2 : List Q) : (Int × (List Q)) → Option ((Int × (List Q)) ⊕ ((List Q) ⊕ ((Bool × (List Q)))))
  | (v2, v3) => (
bif decide (v2 < (IntKind.i64.wrap ((a1.length : Int) - (1 : Int)))) then
((m_spec_ExcessOf a0 a1 a2 v2).bind fun (v4, v5, v6) =>
bif !v6 then
(some (.inr (.inr (false, []))))
else
(grd (v3.length + ([⟨v4, v5⟩] : List Q).length ≤ room) <|
some (.inl (IntKind.i64.wrap (v2 + (1 : Int)), v3 ++ [⟨v4, v5⟩]))))
else
(some (.inr (.inl v3))))
noncomputable def m_spec_l11All (a0 : Int) (a1 : List Int) (a2 : List Q) : Option (Bool × (List Q)) :=
(m_spec_IsPayoff a0 a1 a2).bind fun v1 =>
bif !v1 then
(some (false, []))
else
((iter (l_spec_l11All_0 a0 a1 a2) ((1 : Int), [])).bind fun
| (.inl v7) => (
some (true, v7))
| (.inr r) => some r)
theorem w_spec_l11All (a0 : Int) (a1 : List Int) (a2 : List Q) (r : Bool × (List Q)) (h : m_spec_l11All a0 a1 a2 = some r) : AM.Spec Try.prog 39 [.agg [.i a0, .list (.ints a1)], .list (.rats a2)] [] (.tuple [.sl 1000 0, .bool r.1]) [(1000, .arr 44 0 0 (.rats r.2))] := by
  refine spec_of (E := E39_spec_l11All) Try.func39 rfl rfl rfl rfl ?_
  refine Tri.u 2 [] [.keep [1, 2, 6] [2, 10]] [.code [(2, 0), (0, 0)] 0, .code [(2, 0)] 1, .code [] 3] ⟨[(1, .list (.rats a2)), (2, .ptr 2 0), (6, .sl 10 0)], [(2, .box [.i a0, .list (.ints a1)]), (10, .arr 44 0 0 (.rats []))]⟩ rfl trivial rfl ?_
  obtain ⟨v1, hk1, h⟩ := bind_some h
  refine Tri.u 1 [.r ⟨[], .bool v1, []⟩] [.keep [1, 2, 6, 14] [2, 10]] [.code [(2, 0)] 1, .code [] 3] ⟨[(1, .list (.rats a2)), (2, .ptr 2 0), (6, .sl 10 0), (14, .bool (!v1))], [(2, .box [.i a0, .list (.ints a1)]), (10, .arr 44 0 0 (.rats []))]⟩ rfl ⟨(fun _ => (w_spec_IsPayoff a0 a1 a2 v1 hk1)), trivial⟩ rfl ?_
  rcases bif_some h with ⟨hd2, h⟩ | ⟨hd2, h⟩
  · refine Tri.u 2 [.g true] [.swap 10 1000, .keep [4, 5] [1000]] [.code [(2, 0), (1, 0)] 1, .code [] 3] ⟨[(4, .sl 1000 0), (5, .bool false)], [(1000, .arr 44 0 0 (.rats []))]⟩ rfl ⟨hd2, trivial⟩ rfl ?_
    cases h
    exact Tri.ret rfl ⟨.inl rfl, rfl, rfl⟩
  · refine Tri.u 2 [.g false] [.keep [1, 2, 6, 7] [2, 10]] [.code [(3, 0), (1, 0)] 0, .blk 0, .code [] 4] ⟨[(1, .list (.rats a2)), (2, .ptr 2 0), (6, .sl 10 0), (7, .i (1 : Int))], [(2, .box [.i a0, .list (.ints a1)]), (10, .arr 44 0 0 (.rats []))]⟩ rfl ⟨hd2, trivial⟩ rfl ?_
    obtain ⟨x1, hk7, h⟩ := bind_some h
    refine Tri.loop (K1 := [.code [(3, 0), (1, 0), (0, 0)] 0]) (K2 := [.blk 0, .code [] 4]) (fun (v2, v3) => ⟨[(1, .list (.rats a2)), (2, .ptr 2 0), (6, .sl 10 0), (7, .i v2)], [(2, .box [.i a0, .list (.ints a1)]), (10, .arr 44 0 0 (.rats v3))]⟩) (fun x e σ' => match x with | (.inl v7) => e = .exit 0 ∧ σ' = ⟨[(6, .sl 10 0)], [(10, .arr 44 0 0 (.rats v7))]⟩ | (.inr r) => e = .ret ∧ q_spec_l11All r σ') hk7 rfl rfl ?_ ?_
    · intro s x hs
      clear h
      have h := hs
      clear hs
      obtain ⟨v2, v3⟩ := s
      refine Tri.u 1 [] [.keep [1, 2, 6, 7, 21] [2, 10]] [.code [(3, 0), (1, 0), (0, 0), (0, 0)] 1, .code [(3, 0), (1, 0), (0, 0)] 1] ⟨[(1, .list (.rats a2)), (2, .ptr 2 0), (6, .sl 10 0), (7, .i v2), (21, .bool (decide (v2 < (IntKind.i64.wrap ((a1.length : Int) - (1 : Int))))))], [(2, .box [.i a0, .list (.ints a1)]), (10, .arr 44 0 0 (.rats v3))]⟩ rfl trivial rfl ?_
      rcases bif_some h with ⟨hd3, h⟩ | ⟨hd3, h⟩
      · obtain ⟨⟨v4, v5, v6⟩, hk4, h⟩ := bind_some h
        refine Tri.u 3 [.g true, .r ⟨[], .tuple [.agg [.i v4, .i v5], .bool v6], []⟩] [.keep [1, 2, 6, 7, 8, 32] [2, 8, 10]] [.code [(3, 0), (1, 0), (0, 0), (1, 0), (0, 0), (1, 0)] 1, .code [(3, 0), (1, 0), (0, 0), (1, 0), (0, 0)] 2, .blk 1, .code [(3, 0), (1, 0), (0, 0)] 2] ⟨[(1, .list (.rats a2)), (2, .ptr 2 0), (6, .sl 10 0), (7, .i v2), (8, .ptr 8 0), (32, .bool (!v6))], [(2, .box [.i a0, .list (.ints a1)]), (8, .box [.i v4, .i v5]), (10, .arr 44 0 0 (.rats v3))]⟩ rfl ⟨(fun _ => (w_spec_ExcessOf a0 a1 a2 v2 (v4, v5, v6) hk4)), hd3, trivial⟩ rfl ?_
        rcases bif_some h with ⟨hd5, h⟩ | ⟨hd5, h⟩
        · refine Tri.u 2 [.g true] [.swap 33 1000, .keep [4, 5] [1000]] [.code [(3, 0), (1, 0), (0, 0), (1, 0), (0, 0), (1, 0), (1, 0)] 1, .code [(3, 0), (1, 0), (0, 0), (1, 0), (0, 0)] 2, .blk 1, .code [(3, 0), (1, 0), (0, 0)] 2] ⟨[(4, .sl 1000 0), (5, .bool false)], [(1000, .arr 44 0 0 (.rats []))]⟩ rfl ⟨hd5, trivial⟩ rfl ?_
          cases h
          exact Tri.ret rfl ⟨nofun, rfl, rfl, rfl⟩
        · obtain ⟨hg6, h⟩ := grd_some h
          refine Tri.u 3 [.g false] [.rever 10, .keep [1, 2, 6, 7] [2, 10]] [] ⟨[(1, .list (.rats a2)), (2, .ptr 2 0), (6, .sl 10 0), (7, .i (IntKind.i64.wrap (v2 + (1 : Int))))], [(2, .box [.i a0, .list (.ints a1)]), (10, .arr 44 0 0 (.rats (v3 ++ [⟨v4, v5⟩])))]⟩ rfl ⟨hg6, hd5, trivial⟩ rfl ?_
          cases h
          exact Tri.nil ⟨rfl, rfl⟩
      · refine Tri.u 1 [.g false] [.keep [6] [10]] [.code [(3, 0), (1, 0), (0, 0), (0, 0), (1, 1)] 0, .code [(3, 0), (1, 0), (0, 0)] 1] ⟨[(6, .sl 10 0)], [(10, .arr 44 0 0 (.rats v3))]⟩ rfl ⟨hd3, trivial⟩ rfl ?_
        cases h
        exact Tri.out 0 rfl ⟨nofun, rfl, rfl⟩
    · intro e σ' hne hq
      rcases x1 with v7 | r
      · obtain ⟨rfl, rfl⟩ := hq
        refine TriX.exit (K' := [.code [] 4]) rfl ?_
        refine Tri.u 1 [] [.swap 10 1000, .keep [4, 5] [1000]] [.code [] 5] ⟨[(4, .sl 1000 0), (5, .bool true)], [(1000, .arr 44 0 0 (.rats v7))]⟩ rfl trivial rfl ?_
        cases h
        exact Tri.ret rfl ⟨.inl rfl, rfl, rfl⟩
      · obtain ⟨rfl, hq⟩ := hq
        cases h
        exact TriX.ret ⟨.inl rfl, hq⟩
/-! spec.CompareRat -/
noncomputable def E40_spec_CompareRat : Env := ⟨Try.prog, tys, (Try.f40.body).getD .skip, 33, tysOk, mixedOk⟩
abbrev q_spec_CompareRat (r : Int) (σ' : ASt) : Prop := isRes E40_spec_CompareRat.T Try.f40 (.i r) [] σ'
noncomputable def m_spec_CompareRat (a0 : Int) (a1 : Int) (a2 : Int) (a3 : Int) : Option Int :=
(m_spec_IsValidRat a0 a1).bind fun v1 =>
bif !v1 then
(some (0 : Int))
else
((m_spec_IsValidRat a2 a3).bind fun v2 =>
bif !v2 then
(some (0 : Int))
else
(bif decide ((IntKind.i64.wrap (a0 * a3)) < (IntKind.i64.wrap (a2 * a1))) then
(some (-1 : Int))
else
(bif decide ((IntKind.i64.wrap (a0 * a3)) > (IntKind.i64.wrap (a2 * a1))) then
(some (1 : Int))
else
(some (0 : Int)))))
theorem w_spec_CompareRat (a0 : Int) (a1 : Int) (a2 : Int) (a3 : Int) (r : Int) (h : m_spec_CompareRat a0 a1 a2 a3 = some r) : AM.Spec Try.prog 40 [.agg [.i a0, .i a1], .agg [.i a2, .i a3]] [] (.i r) [] := by
  refine spec_of (E := E40_spec_CompareRat) Try.func40 rfl rfl rfl rfl ?_
  refine Tri.u 1 [] [.keep [2, 3] [2, 3]] [.code [(1, 0), (0, 0)] 0, .code [(1, 0)] 1, .code [] 2] ⟨[(2, .ptr 2 0), (3, .ptr 3 0)], [(2, .box [.i a0, .i a1]), (3, .box [.i a2, .i a3])]⟩ rfl trivial rfl ?_
  obtain ⟨v1, hk1, h⟩ := bind_some h
  rcases bif_some h with ⟨hd2, h⟩ | ⟨hd2, h⟩
  · refine Tri.u 1 [.r ⟨[], .bool v1, []⟩, .g true] [.keep [2, 3, 14] [2, 3]] [.code [(1, 0)] 1, .code [] 2] ⟨[(2, .ptr 2 0), (3, .ptr 3 0), (14, .bool true)], [(2, .box [.i a0, .i a1]), (3, .box [.i a2, .i a3])]⟩ rfl ⟨hd2, (fun _ => (w_spec_IsValidRat a0 a1 v1 hk1)), trivial⟩ rfl ?_
    refine Tri.u 2 [.g true] [.keep [4] []] [.code [(1, 0), (1, 0)] 1, .code [] 2] ⟨[(4, .i (0 : Int))], []⟩ rfl ⟨rfl, trivial⟩ rfl ?_
    cases h
    exact Tri.ret rfl ⟨.inl rfl, rfl, rfl⟩
  · obtain ⟨v2, hk3, h⟩ := bind_some h
    refine Tri.u 1 [.r ⟨[], .bool v1, []⟩, .g false, .r ⟨[], .bool v2, []⟩] [.keep [2, 3, 14] [2, 3]] [.code [(1, 0)] 1, .code [] 2] ⟨[(2, .ptr 2 0), (3, .ptr 3 0), (14, .bool (!v2))], [(2, .box [.i a0, .i a1]), (3, .box [.i a2, .i a3])]⟩ rfl ⟨(fun _ => (w_spec_IsValidRat a2 a3 v2 hk3)), hd2, (fun _ => (w_spec_IsValidRat a0 a1 v1 hk1)), trivial⟩ rfl ?_
    rcases bif_some h with ⟨hd4, h⟩ | ⟨hd4, h⟩
    · refine Tri.u 2 [.g true] [.keep [4] []] [.code [(1, 0), (1, 0)] 1, .code [] 2] ⟨[(4, .i (0 : Int))], []⟩ rfl ⟨hd4, trivial⟩ rfl ?_
      cases h
      exact Tri.ret rfl ⟨.inl rfl, rfl, rfl⟩
    · refine Tri.u 3 [.g false] [.keep [5, 6] []] [.code [(4, 0), (0, 0), (0, 0)] 0, .code [(4, 0), (0, 0)] 1, .blk 0, .code [] 5] ⟨[(5, .i (IntKind.i64.wrap (a0 * a3))), (6, .i (IntKind.i64.wrap (a2 * a1)))], []⟩ rfl ⟨hd4, trivial⟩ rfl ?_
      refine Tri.u 1 [] [.keep [5, 6, 25] []] [.code [(4, 0), (0, 0)] 1, .blk 0, .code [] 5] ⟨[(5, .i (IntKind.i64.wrap (a0 * a3))), (6, .i (IntKind.i64.wrap (a2 * a1))), (25, .bool (decide ((IntKind.i64.wrap (a0 * a3)) < (IntKind.i64.wrap (a2 * a1)))))], []⟩ rfl trivial rfl ?_
      rcases bif_some h with ⟨hd5, h⟩ | ⟨hd5, h⟩
      · refine Tri.u 2 [.g true] [.keep [4] []] [.code [(4, 0), (0, 0), (1, 0)] 1, .blk 0, .code [] 5] ⟨[(4, .i (-1 : Int))], []⟩ rfl ⟨hd5, trivial⟩ rfl ?_
        cases h
        exact Tri.ret rfl ⟨.inl rfl, rfl, rfl⟩
      · refine Tri.u 2 [.g false] [.keep [29] []] [.code [(4, 0), (0, 0), (1, 1)] 1, .blk 0, .code [] 5] ⟨[(29, .bool (decide ((IntKind.i64.wrap (a0 * a3)) > (IntKind.i64.wrap (a2 * a1)))))], []⟩ rfl ⟨hd5, trivial⟩ rfl ?_
        rcases bif_some h with ⟨hd6, h⟩ | ⟨hd6, h⟩
        · refine Tri.u 2 [.g true] [.keep [4] []] [.code [(4, 0), (0, 0), (1, 1), (1, 0)] 1, .blk 0, .code [] 5] ⟨[(4, .i (1 : Int))], []⟩ rfl ⟨hd6, trivial⟩ rfl ?_
          cases h
          exact Tri.ret rfl ⟨.inl rfl, rfl, rfl⟩
        · refine Tri.u 2 [.g false] [.keep [4] []] [.code [] 6] ⟨[(4, .i (0 : Int))], []⟩ rfl ⟨hd6, trivial⟩ rfl ?_
          cases h
          exact Tri.ret rfl ⟨.inl rfl, rfl, rfl⟩
/-! spec.ExcessVector -/
noncomputable def E7_spec_ExcessVector : Env := ⟨Try.prog, tys, (Try.f7.body).getD .skip, 61, tysOk, mixedOk⟩
abbrev q_spec_ExcessVector (r : List Q) (σ' : ASt) : Prop := isRes E7_spec_ExcessVector.T Try.f7 (.sl 1000 0) [(1000, .arr 44 0 0 (.rats r))] σ'
noncomputable def l_spec_ExcessVector_1 (v2 : List Q) (v3 : Int) (v4 : List Q) (v5 : Int) : Option (Int ⊕ Int) :=
bif decide (v5 > (0 : Int)) then
(grd ((0 : Int) ≤ IntKind.i64.wrap (v5 - (1 : Int)) ∧ IntKind.i64.wrap (v5 - (1 : Int)) < (v4.length : Int)) <|
grd ((0 : Int) ≤ v3 ∧ v3 < (v2.length : Int)) <|
(m_spec_CompareRat ((v4.getD ((IntKind.i64.wrap (v5 - (1 : Int))).toNat) ⟨0, 0⟩).num) ((v4.getD ((IntKind.i64.wrap (v5 - (1 : Int))).toNat) ⟨0, 0⟩).den) ((v2.getD v3.toNat ⟨0, 0⟩).num) ((v2.getD v3.toNat ⟨0, 0⟩).den)).bind fun v6 =>
bif decide (v6 < (0 : Int)) then
(some (.inl (IntKind.i64.wrap (v5 - (1 : Int)))))
else
(some (.inr v5)))
else
(some (.inr v5))
noncomputable def l_spec_ExcessVector_0 (v2 : List Q) : (Int × (List Q)) → Option ((Int × (List Q)) ⊕ ((List Q)))
  | (v3, v4) => (
bif decide (v3 < (v2.length : Int)) then
((iter (l_spec_ExcessVector_1 v2 v3 v4) (v4.length : Int)).bind fun
| v7 => (
grd ((0 : Int) ≤ v7 ∧ v7 ≤ (v4.length : Int)) <|
grd (([] : List Q).length + ((v4.drop 0).take v7.toNat).length ≤ room) <|
grd ((0 : Int) ≤ v3 ∧ v3 < (v2.length : Int)) <|
grd (([] ++ ((v4.drop 0).take v7.toNat) : List Q).length + ([⟨(v2.getD v3.toNat ⟨0, 0⟩).num, (v2.getD v3.toNat ⟨0, 0⟩).den⟩] : List Q).length ≤ room) <|
grd ((0 : Int) ≤ v7 ∧ v7 ≤ (v4.length : Int)) <|
grd ((([] ++ ((v4.drop 0).take v7.toNat)) ++ [⟨(v2.getD v3.toNat ⟨0, 0⟩).num, (v2.getD v3.toNat ⟨0, 0⟩).den⟩] : List Q).length + ((v4.drop v7.toNat).take (v4.length - v7.toNat)).length ≤ room) <|
some (.inl (IntKind.i64.wrap (v3 + (1 : Int)), (([] ++ ((v4.drop 0).take v7.toNat)) ++ [⟨(v2.getD v3.toNat ⟨0, 0⟩).num, (v2.getD v3.toNat ⟨0, 0⟩).den⟩]) ++ ((v4.drop v7.toNat).take (v4.length - v7.toNat))))))
else
(some (.inr v4)))
noncomputable def m_spec_ExcessVector (a0 : Int) (a1 : List Int) (a2 : List Q) : Option (List Q) :=
(m_spec_l11All a0 a1 a2).bind fun (_, v2) =>
(iter (l_spec_ExcessVector_0 v2) ((0 : Int), [])).bind fun
| v8 => (
some v8)
theorem w_spec_ExcessVector (a0 : Int) (a1 : List Int) (a2 : List Q) (r : List Q) (h : m_spec_ExcessVector a0 a1 a2 = some r) : AM.Spec Try.prog 7 [.agg [.i a0, .list (.ints a1)], .list (.rats a2)] [] (.sl 1000 0) [(1000, .arr 44 0 0 (.rats r))] := by
  refine spec_of (E := E7_spec_ExcessVector) Try.func7 rfl rfl rfl rfl ?_
  refine Tri.u 1 [] [.keep [1, 2] [2]] [.code [(1, 0)] 0, .code [] 2] ⟨[(1, .list (.rats a2)), (2, .ptr 2 0)], [(2, .box [.i a0, .list (.ints a1)])]⟩ rfl trivial rfl ?_
  obtain ⟨⟨v1, v2⟩, hk1, h⟩ := bind_some h
  refine Tri.u 3 [.r ⟨[], .tuple [.sl 1100 0, .bool v1], [(1100, .arr 44 0 0 (.rats v2))]⟩] [.keep [5, 7, 8] [17, 1100]] [.code [(3, 0), (1, 0)] 0, .blk 0, .code [] 4] ⟨[(5, .sl 1100 0), (7, .sl 17 0), (8, .i (0 : Int))], [(17, .arr 44 0 0 (.rats [])), (1100, .arr 44 0 0 (.rats v2))]⟩ rfl ⟨(fun _ => ((w_spec_l11All a0 a1 a2 (v1, v2) hk1).swap 1000 1100)), trivial⟩ rfl ?_
  obtain ⟨v8, hk15, h⟩ := bind_some h
  refine Tri.loop (K1 := [.code [(3, 0), (1, 0), (0, 0)] 0]) (K2 := [.blk 0, .code [] 4]) (fun (v3, v4) => ⟨[(5, .sl 1100 0), (7, .sl 17 0), (8, .i v3)], [(17, .arr 44 0 0 (.rats v4)), (1100, .arr 44 0 0 (.rats v2))]⟩) (fun x e σ' => match x with | v8 => e = .exit 0 ∧ σ' = ⟨[(7, .sl 17 0)], [(17, .arr 44 0 0 (.rats v8))]⟩) hk15 rfl rfl ?_ ?_
  · intro s x hs
    clear h
    have h := hs
    clear hs
    obtain ⟨v3, v4⟩ := s
    refine Tri.u 1 [] [.keep [5, 7, 8, 21] [17, 1100]] [.code [(3, 0), (1, 0), (0, 0), (0, 0)] 1, .code [(3, 0), (1, 0), (0, 0)] 1] ⟨[(5, .sl 1100 0), (7, .sl 17 0), (8, .i v3), (21, .bool (decide (v3 < (v2.length : Int))))], [(17, .arr 44 0 0 (.rats v4)), (1100, .arr 44 0 0 (.rats v2))]⟩ rfl trivial rfl ?_
    rcases bif_some h with ⟨hd2, h⟩ | ⟨hd2, h⟩
    · refine Tri.u 2 [.g true] [.keep [5, 7, 8, 9] [17, 1100]] [.code [(3, 0), (1, 0), (0, 0), (1, 0), (0, 0), (1, 0), (0, 0)] 0, .blk 2, .code [(3, 0), (1, 0), (0, 0), (1, 0), (0, 0)] 2, .blk 1, .code [(3, 0), (1, 0), (0, 0)] 2] ⟨[(5, .sl 1100 0), (7, .sl 17 0), (8, .i v3), (9, .i (v4.length : Int))], [(17, .arr 44 0 0 (.rats v4)), (1100, .arr 44 0 0 (.rats v2))]⟩ rfl ⟨hd2, trivial⟩ rfl ?_
      obtain ⟨v7, hk8, h⟩ := bind_some h
      refine Tri.loop (K1 := [.code [(3, 0), (1, 0), (0, 0), (1, 0), (0, 0), (1, 0), (0, 0), (0, 0)] 0]) (K2 := [.blk 2, .code [(3, 0), (1, 0), (0, 0), (1, 0), (0, 0)] 2, .blk 1, .code [(3, 0), (1, 0), (0, 0)] 2]) (fun v5 => ⟨[(5, .sl 1100 0), (7, .sl 17 0), (8, .i v3), (9, .i v5)], [(17, .arr 44 0 0 (.rats v4)), (1100, .arr 44 0 0 (.rats v2))]⟩) (fun x e σ' => match x with | v7 => e = .exit 2 ∧ σ' = ⟨[(5, .sl 1100 0), (7, .sl 17 0), (8, .i v3), (9, .i v7)], [(17, .arr 44 0 0 (.rats v4)), (1100, .arr 44 0 0 (.rats v2))]⟩) hk8 rfl rfl ?_ ?_
      · intro v5 x hs
        clear h
        have h := hs
        clear hs
        rcases bif_some h with ⟨hd3, h⟩ | ⟨hd3, h⟩
        · obtain ⟨hg4, h⟩ := grd_some h
          obtain ⟨hg5, h⟩ := grd_some h
          obtain ⟨v6, hk6, h⟩ := bind_some h
          refine Tri.u 1 [.g true, .r ⟨[], .i v6, []⟩] [.keep [5, 7, 8, 9, 40] [17, 1100]] [.code [(3, 0), (1, 0), (0, 0), (1, 0), (0, 0), (1, 0), (0, 0), (0, 0), (0, 0)] 1, .code [(3, 0), (1, 0), (0, 0), (1, 0), (0, 0), (1, 0), (0, 0), (0, 0)] 1] ⟨[(5, .sl 1100 0), (7, .sl 17 0), (8, .i v3), (9, .i v5), (40, .bool (decide (v6 < (0 : Int))))], [(17, .arr 44 0 0 (.rats v4)), (1100, .arr 44 0 0 (.rats v2))]⟩ rfl ⟨(fun _ => (w_spec_CompareRat ((v4.getD ((IntKind.i64.wrap (v5 - (1 : Int))).toNat) ⟨0, 0⟩).num) ((v4.getD ((IntKind.i64.wrap (v5 - (1 : Int))).toNat) ⟨0, 0⟩).den) ((v2.getD v3.toNat ⟨0, 0⟩).num) ((v2.getD v3.toNat ⟨0, 0⟩).den) v6 hk6)), hg5, hg4, hd3, trivial⟩ rfl ?_
          rcases bif_some h with ⟨hd7, h⟩ | ⟨hd7, h⟩
          · refine Tri.u 2 [.g true] [.keep [5, 7, 8, 9] [17, 1100]] [] ⟨[(5, .sl 1100 0), (7, .sl 17 0), (8, .i v3), (9, .i (IntKind.i64.wrap (v5 - (1 : Int))))], [(17, .arr 44 0 0 (.rats v4)), (1100, .arr 44 0 0 (.rats v2))]⟩ rfl ⟨hd7, trivial⟩ rfl ?_
            cases h
            exact Tri.nil ⟨rfl, rfl⟩
          · refine Tri.u 1 [.g false] [.keep [5, 7, 8, 9] [17, 1100]] [.code [(3, 0), (1, 0), (0, 0), (1, 0), (0, 0), (1, 0), (0, 0), (0, 0), (0, 0), (1, 1)] 0, .code [(3, 0), (1, 0), (0, 0), (1, 0), (0, 0), (1, 0), (0, 0), (0, 0)] 1] ⟨[(5, .sl 1100 0), (7, .sl 17 0), (8, .i v3), (9, .i v5)], [(17, .arr 44 0 0 (.rats v4)), (1100, .arr 44 0 0 (.rats v2))]⟩ rfl ⟨hd7, trivial⟩ rfl ?_
            cases h
            exact Tri.out 2 rfl ⟨nofun, rfl, rfl⟩
        · refine Tri.u 1 [.g false] [.keep [5, 7, 8, 9, 40] [17, 1100]] [.code [(3, 0), (1, 0), (0, 0), (1, 0), (0, 0), (1, 0), (0, 0), (0, 0), (0, 0)] 1, .code [(3, 0), (1, 0), (0, 0), (1, 0), (0, 0), (1, 0), (0, 0), (0, 0)] 1] ⟨[(5, .sl 1100 0), (7, .sl 17 0), (8, .i v3), (9, .i v5), (40, .bool false)], [(17, .arr 44 0 0 (.rats v4)), (1100, .arr 44 0 0 (.rats v2))]⟩ rfl ⟨hd3, trivial⟩ rfl ?_
          refine Tri.u 1 [.g false] [.keep [5, 7, 8, 9] [17, 1100]] [.code [(3, 0), (1, 0), (0, 0), (1, 0), (0, 0), (1, 0), (0, 0), (0, 0), (0, 0), (1, 1)] 0, .code [(3, 0), (1, 0), (0, 0), (1, 0), (0, 0), (1, 0), (0, 0), (0, 0)] 1] ⟨[(5, .sl 1100 0), (7, .sl 17 0), (8, .i v3), (9, .i v5)], [(17, .arr 44 0 0 (.rats v4)), (1100, .arr 44 0 0 (.rats v2))]⟩ rfl ⟨rfl, trivial⟩ rfl ?_
          cases h
          exact Tri.out 2 rfl ⟨nofun, rfl, rfl⟩
      · intro e σ' hne hq
        obtain ⟨rfl, rfl⟩ := hq
        refine TriX.exit (K' := [.code [(3, 0), (1, 0), (0, 0), (1, 0), (0, 0)] 2, .blk 1, .code [(3, 0), (1, 0), (0, 0)] 2]) rfl ?_
        obtain ⟨hg9, h⟩ := grd_some h
        obtain ⟨hg10, h⟩ := grd_some h
        obtain ⟨hg11, h⟩ := grd_some h
        obtain ⟨hg12, h⟩ := grd_some h
        obtain ⟨hg13, h⟩ := grd_some h
        obtain ⟨hg14, h⟩ := grd_some h
        refine Tri.u 3 [] [.keep [5, 7, 8] [43, 1100]] [.code [(3, 0), (1, 0), (0, 0)] 2] ⟨[(5, .sl 1100 0), (7, .sl 43 3), (8, .i v3)], [(43, .arr 44 3 0 (.rats ((([] ++ ((v4.drop 0).take v7.toNat)) ++ [⟨(v2.getD v3.toNat ⟨0, 0⟩).num, (v2.getD v3.toNat ⟨0, 0⟩).den⟩]) ++ ((v4.drop v7.toNat).take (v4.length - v7.toNat))))), (1100, .arr 44 0 0 (.rats v2))]⟩ rfl ⟨hg14, hg13, hg12, hg11, hg10, hg9, trivial⟩ rfl ?_
        refine Tri.u 1 [] [.rever 43, .swap 43 17, .keep [5, 7, 8] [17, 1100]] [] ⟨[(5, .sl 1100 0), (7, .sl 17 0), (8, .i (IntKind.i64.wrap (v3 + (1 : Int))))], [(17, .arr 44 0 0 (.rats ((([] ++ ((v4.drop 0).take v7.toNat)) ++ [⟨(v2.getD v3.toNat ⟨0, 0⟩).num, (v2.getD v3.toNat ⟨0, 0⟩).den⟩]) ++ ((v4.drop v7.toNat).take (v4.length - v7.toNat))))), (1100, .arr 44 0 0 (.rats v2))]⟩ rfl trivial rfl ?_
        cases h
        exact Tri.nil ⟨rfl, rfl⟩
    · refine Tri.u 1 [.g false] [.keep [7] [17]] [.code [(3, 0), (1, 0), (0, 0), (0, 0), (1, 1)] 0, .code [(3, 0), (1, 0), (0, 0)] 1] ⟨[(7, .sl 17 0)], [(17, .arr 44 0 0 (.rats v4))]⟩ rfl ⟨hd2, trivial⟩ rfl ?_
      cases h
      exact Tri.out 0 rfl ⟨nofun, rfl, rfl⟩
  · intro e σ' hne hq
    obtain ⟨rfl, rfl⟩ := hq
    refine TriX.exit (K' := [.code [] 4]) rfl ?_
    refine Tri.u 1 [] [.swap 17 1000, .keep [4] [1000]] [.code [] 5] ⟨[(4, .sl 1000 0)], [(1000, .arr 44 0 0 (.rats v8))]⟩ rfl trivial rfl ?_
    cases h
    exact Tri.ret rfl ⟨.inl rfl, rfl, rfl⟩
/-! impl.within -/
noncomputable def E69_impl_within : Env := ⟨Try.prog, tys, (Try.f69.body).getD .skip, 15, tysOk, mixedOk⟩
abbrev q_impl_within (r : Bool) (σ' : ASt) : Prop := isRes E69_impl_within.T Try.f69 (.bool r) [] σ'
noncomputable def m_impl_within (a0 : Int) (a1 : Int) (a2 : Int) : Option Bool :=
bif decide (a0 ≥ a1) then
(some (decide (a0 ≤ a2)))
else
(some false)
theorem w_impl_within (a0 : Int) (a1 : Int) (a2 : Int) (r : Bool) (h : m_impl_within a0 a1 a2 = some r) : AM.Spec Try.prog 69 [.i a0, .i a1, .i a2] [] (.bool r) [] := by
  refine spec_of (E := E69_impl_within) Try.func69 rfl rfl rfl rfl ?_
  refine Tri.u 1 [] [.keep [0, 1, 2] []] [.code [(1, 0)] 0, .code [] 2] ⟨[(0, .i a0), (1, .i a1), (2, .i a2)], []⟩ rfl trivial rfl ?_
  rcases bif_some h with ⟨hd1, h⟩ | ⟨hd1, h⟩
  · refine Tri.u 1 [.g true] [.keep [6] []] [.code [] 2] ⟨[(6, .bool (decide (a0 ≤ a2)))], []⟩ rfl ⟨hd1, trivial⟩ rfl ?_
    cases h
    exact Tri.ret rfl ⟨.inl rfl, rfl, rfl⟩
  · refine Tri.u 1 [.g false] [.keep [6] []] [.code [] 2] ⟨[(6, .bool false)], []⟩ rfl ⟨hd1, trivial⟩ rfl ?_
    cases h
    exact Tri.ret rfl ⟨.inl rfl, rfl, rfl⟩
/-! impl.IsValidGame$1 -/
noncomputable def E87_impl_IsValidGame_1 : Env := ⟨Try.prog, tys, (Try.f87.body).getD .skip, 6, tysOk, mixedOk⟩
abbrev q_impl_IsValidGame_1 (r : Bool) (σ' : ASt) : Prop := isRes E87_impl_IsValidGame_1.T Try.f87 (.bool r) [] σ'
noncomputable def m_impl_IsValidGame_1 (a0 : Int) : Option Bool :=
(m_impl_within a0 (-500 : Int) (500 : Int)).bind fun v1 =>
some (!v1)
theorem w_impl_IsValidGame_1 (a0 : Int) (r : Bool) (h : m_impl_IsValidGame_1 a0 = some r) : AM.Spec Try.prog 87 [.i a0] [] (.bool r) [] := by
  refine spec_of (E := E87_impl_IsValidGame_1) Try.func87 rfl rfl rfl rfl ?_
  refine Tri.u 1 [] [.keep [0] []] [.code [(1, 0)] 0, .code [] 2] ⟨[(0, .i a0)], []⟩ rfl trivial rfl ?_
  obtain ⟨v1, hk1, h⟩ := bind_some h
  refine Tri.u 1 [.r ⟨[], .bool v1, []⟩] [.keep [2] []] [.code [] 2] ⟨[(2, .bool (!v1))], []⟩ rfl ⟨(fun _ => (w_impl_within a0 (-500 : Int) (500 : Int) v1 hk1)), trivial⟩ rfl ?_
  cases h
  exact Tri.ret rfl ⟨.inl rfl, rfl, rfl⟩
/-! slices.IndexFunc(()int,int) -/
noncomputable def E113_slices_IndexFunc_int_int : Env := ⟨Try.prog, tys, (Try.f113.body).getD .skip, 19, tysOk, mixedOk⟩
abbrev q_slices_IndexFunc_int_int_impl_IsValidGame_1 (r : Int) (σ' : ASt) : Prop := isRes E113_slices_IndexFunc_int_int.T Try.f113 (.i r) [] σ'
noncomputable def l_slices_IndexFunc_int_int_impl_IsValidGame_1_0 (a0 : List Int) (v1 : Int) : Option (Int ⊕ (Unit ⊕ Int)) :=
bif decide (v1 < (a0.length : Int)) then
(grd ((0 : Int) ≤ v1 ∧ v1 < (a0.length : Int)) <|
(m_impl_IsValidGame_1 (a0.getD v1.toNat 0)).bind fun v2 =>
bif v2 then
(some (.inr (.inr v1)))
else
(some (.inl (IntKind.i64.wrap (v1 + (1 : Int))))))
else
(some (.inr (.inl ())))
noncomputable def m_slices_IndexFunc_int_int_impl_IsValidGame_1 (a0 : List Int) : Option Int :=
(iter (l_slices_IndexFunc_int_int_impl_IsValidGame_1_0 a0) (0 : Int)).bind fun
| (.inl _) => (
some (-1 : Int))
| (.inr r) => some r
theorem w_slices_IndexFunc_int_int_impl_IsValidGame_1 (a0 : List Int) (r : Int) (h : m_slices_IndexFunc_int_int_impl_IsValidGame_1 a0 = some r) : AM.Spec Try.prog 113 [.list (.ints a0), .func 87 [] []] [] (.i r) [] := by
  refine spec_of (E := E113_slices_IndexFunc_int_int) Try.func113 rfl rfl rfl rfl ?_
  refine Tri.u 2 [] [.keep [0, 1, 7, 8] []] [.code [(1, 0), (1, 0)] 0, .blk 0, .code [] 2] ⟨[(0, .list (.ints a0)), (1, .func 87 [] []), (7, .i (a0.length : Int)), (8, .i (0 : Int))], []⟩ rfl trivial rfl ?_
  obtain ⟨x1, hk5, h⟩ := bind_some h
  refine Tri.loop (K1 := [.code [(1, 0), (1, 0), (0, 0)] 0]) (K2 := [.blk 0, .code [] 2]) (fun v1 => ⟨[(0, .list (.ints a0)), (1, .func 87 [] []), (7, .i (a0.length : Int)), (8, .i v1)], []⟩) (fun x e σ' => match x with | (.inl _) => e = .exit 0 ∧ σ' = ⟨[], []⟩ | (.inr r) => e = .ret ∧ q_slices_IndexFunc_int_int_impl_IsValidGame_1 r σ') hk5 rfl rfl ?_ ?_
  · intro v1 x hs
    clear h
    have h := hs
    clear hs
    refine Tri.u 1 [] [.keep [0, 1, 7, 8, 9] []] [.code [(1, 0), (1, 0), (0, 0), (1, 0)] 0, .code [(1, 0), (1, 0), (0, 0)] 2] ⟨[(0, .list (.ints a0)), (1, .func 87 [] []), (7, .i (a0.length : Int)), (8, .i v1), (9, .bool (decide (v1 < (a0.length : Int))))], []⟩ rfl trivial rfl ?_
    rcases bif_some h with ⟨hd1, h⟩ | ⟨hd1, h⟩
    · refine Tri.u 2 [.g true] [.keep [0, 1, 5, 7, 8] []] [.code [(1, 0), (1, 0), (0, 0), (2, 0), (0, 0), (1, 0)] 0, .code [(1, 0), (1, 0), (0, 0), (2, 0), (0, 0)] 2, .blk 1, .code [(1, 0), (1, 0), (0, 0)] 3] ⟨[(0, .list (.ints a0)), (1, .func 87 [] []), (5, .i v1), (7, .i (a0.length : Int)), (8, .i v1)], []⟩ rfl ⟨hd1, trivial⟩ rfl ?_
      obtain ⟨hg2, h⟩ := grd_some h
      obtain ⟨v2, hk3, h⟩ := bind_some h
      refine Tri.u 1 [.r ⟨[], .bool v2, []⟩] [.keep [0, 1, 5, 7, 8, 16] []] [.code [(1, 0), (1, 0), (0, 0), (2, 0), (0, 0)] 2, .blk 1, .code [(1, 0), (1, 0), (0, 0)] 3] ⟨[(0, .list (.ints a0)), (1, .func 87 [] []), (5, .i v1), (7, .i (a0.length : Int)), (8, .i v1), (16, .bool v2)], []⟩ rfl ⟨(fun _ => (w_impl_IsValidGame_1 (a0.getD v1.toNat 0) v2 hk3)), hg2, trivial⟩ rfl ?_
      rcases bif_some h with ⟨hd4, h⟩ | ⟨hd4, h⟩
      · refine Tri.u 2 [.g true] [.keep [4] []] [.code [(1, 0), (1, 0), (0, 0), (2, 0), (0, 0), (2, 0)] 1, .blk 1, .code [(1, 0), (1, 0), (0, 0)] 3] ⟨[(4, .i v1)], []⟩ rfl ⟨hd4, trivial⟩ rfl ?_
        cases h
        exact Tri.ret rfl ⟨nofun, rfl, rfl, rfl⟩
      · refine Tri.u 2 [.g false] [.keep [0, 1, 7, 8] []] [] ⟨[(0, .list (.ints a0)), (1, .func 87 [] []), (7, .i (a0.length : Int)), (8, .i (IntKind.i64.wrap (v1 + (1 : Int))))], []⟩ rfl ⟨hd4, trivial⟩ rfl ?_
        cases h
        exact Tri.nil ⟨rfl, rfl⟩
    · refine Tri.u 1 [.g false] [.keep [] []] [.code [(1, 0), (1, 0), (0, 0), (1, 0), (0, 1)] 0, .code [(1, 0), (1, 0), (0, 0)] 2] ⟨[], []⟩ rfl ⟨hd1, trivial⟩ rfl ?_
      cases h
      exact Tri.out 0 rfl ⟨nofun, rfl, rfl⟩
  · intro e σ' hne hq
    rcases x1 with _ | r
    · obtain ⟨rfl, rfl⟩ := hq
      refine TriX.exit (K' := [.code [] 2]) rfl ?_
      refine Tri.u 1 [] [.keep [4] []] [.code [] 3] ⟨[(4, .i (-1 : Int))], []⟩ rfl trivial rfl ?_
      cases h
      exact Tri.ret rfl ⟨.inl rfl, rfl, rfl⟩
    · obtain ⟨rfl, hq⟩ := hq
      cases h
      exact TriX.ret ⟨.inl rfl, hq⟩
/-! slices.ContainsFunc(()int,int) -/
noncomputable def E86_slices_ContainsFunc_int_int : Env := ⟨Try.prog, tys, (Try.f86.body).getD .skip, 9, tysOk, mixedOk⟩
abbrev q_slices_ContainsFunc_int_int_impl_IsValidGame_1 (r : Bool) (σ' : ASt) : Prop := isRes E86_slices_ContainsFunc_int_int.T Try.f86 (.bool r) [] σ'
noncomputable def m_slices_ContainsFunc_int_int_impl_IsValidGame_1 (a0 : List Int) : Option Bool :=
(m_slices_IndexFunc_int_int_impl_IsValidGame_1 a0).bind fun v1 =>
some (decide (v1 ≥ (0 : Int)))
theorem w_slices_ContainsFunc_int_int_impl_IsValidGame_1 (a0 : List Int) (r : Bool) (h : m_slices_ContainsFunc_int_int_impl_IsValidGame_1 a0 = some r) : AM.Spec Try.prog 86 [.list (.ints a0), .func 87 [] []] [] (.bool r) [] := by
  refine spec_of (E := E86_slices_ContainsFunc_int_int) Try.func86 rfl rfl rfl rfl ?_
  refine Tri.u 1 [] [.keep [0, 1] []] [.code [(1, 0)] 0, .code [] 2] ⟨[(0, .list (.ints a0)), (1, .func 87 [] [])], []⟩ rfl trivial rfl ?_
  obtain ⟨v1, hk1, h⟩ := bind_some h
  refine Tri.u 1 [.r ⟨[], .i v1, []⟩] [.keep [4] []] [.code [] 2] ⟨[(4, .bool (decide (v1 ≥ (0 : Int))))], []⟩ rfl ⟨(fun _ => (w_slices_IndexFunc_int_int_impl_IsValidGame_1 a0 v1 hk1)), trivial⟩ rfl ?_
  cases h
  exact Tri.ret rfl ⟨.inl rfl, rfl, rfl⟩
/-! impl.IsValidGame -/
noncomputable def E53_impl_IsValidGame : Env := ⟨Try.prog, tys, (Try.f53.body).getD .skip, 27, tysOk, mixedOk⟩
abbrev q_impl_IsValidGame (r : Bool) (σ' : ASt) : Prop := isRes E53_impl_IsValidGame.T Try.f53 (.bool r) [] σ'
noncomputable def m_impl_IsValidGame (a0 : Int) (a1 : List Int) : Option Bool :=
(m_impl_within a0 (1 : Int) (5 : Int)).bind fun v1 =>
bif !v1 then
(some false)
else
(grd ((0 : Int) ≤ a0) <|
bif (a1.length : Int) != (IntKind.i64.wrap ((1 : Int) * 2 ^ (min a0.toNat 64))) then
(some false)
else
(grd ((0 : Int) ≤ (0 : Int) ∧ (0 : Int) < (a1.length : Int)) <|
bif (a1.getD ((0 : Int).toNat) 0) != (0 : Int) then
(some false)
else
((m_slices_ContainsFunc_int_int_impl_IsValidGame_1 a1).bind fun v2 =>
some (!v2))))
theorem w_impl_IsValidGame (a0 : Int) (a1 : List Int) (r : Bool) (h : m_impl_IsValidGame a0 a1 = some r) : AM.Spec Try.prog 53 [.agg [.i a0, .list (.ints a1)]] [] (.bool r) [] := by
  refine spec_of (E := E53_impl_IsValidGame) Try.func53 rfl rfl rfl rfl ?_
  refine Tri.u 1 [] [.keep [1] [1]] [.code [(1, 0), (0, 0)] 0, .code [(1, 0)] 1, .code [] 2] ⟨[(1, .ptr 1 0)], [(1, .box [.i a0, .list (.ints a1)])]⟩ rfl trivial rfl ?_
  obtain ⟨v1, hk1, h⟩ := bind_some h
  rcases bif_some h with ⟨hd2, h⟩ | ⟨hd2, h⟩
  · refine Tri.u 1 [.r ⟨[], .bool v1, []⟩, .g true, .g true] [.keep [1, 22] [1]] [.code [(1, 0)] 1, .code [] 2] ⟨[(1, .ptr 1 0), (22, .bool true)], [(1, .box [.i a0, .list (.ints a1)])]⟩ rfl ⟨rfl, hd2, (fun _ => (w_impl_within a0 (1 : Int) (5 : Int) v1 hk1)), trivial⟩ rfl ?_
    refine Tri.u 2 [.g true] [.keep [2] []] [.code [(1, 0), (1, 0)] 1, .code [] 2] ⟨[(2, .bool false)], []⟩ rfl ⟨rfl, trivial⟩ rfl ?_
    cases h
    exact Tri.ret rfl ⟨.inl rfl, rfl, rfl⟩
  · obtain ⟨hg3, h⟩ := grd_some h
    rcases bif_some h with ⟨hd4, h⟩ | ⟨hd4, h⟩
    · refine Tri.u 1 [.r ⟨[], .bool v1, []⟩, .g false, .g true] [.keep [1, 22] [1]] [.code [(1, 0)] 1, .code [] 2] ⟨[(1, .ptr 1 0), (22, .bool true)], [(1, .box [.i a0, .list (.ints a1)])]⟩ rfl ⟨hd4, hg3, hd2, (fun _ => (w_impl_within a0 (1 : Int) (5 : Int) v1 hk1)), trivial⟩ rfl ?_
      refine Tri.u 2 [.g true] [.keep [2] []] [.code [(1, 0), (1, 0)] 1, .code [] 2] ⟨[(2, .bool false)], []⟩ rfl ⟨rfl, trivial⟩ rfl ?_
      cases h
      exact Tri.ret rfl ⟨.inl rfl, rfl, rfl⟩
    · obtain ⟨hg5, h⟩ := grd_some h
      refine Tri.u 1 [.r ⟨[], .bool v1, []⟩, .g false, .g false] [.keep [1, 22] [1]] [.code [(1, 0)] 1, .code [] 2] ⟨[(1, .ptr 1 0), (22, .bool ((a1.getD ((0 : Int).toNat) 0) != (0 : Int)))], [(1, .box [.i a0, .list (.ints a1)])]⟩ rfl ⟨hg5, hd4, hg3, hd2, (fun _ => (w_impl_within a0 (1 : Int) (5 : Int) v1 hk1)), trivial⟩ rfl ?_
      rcases bif_some h with ⟨hd6, h⟩ | ⟨hd6, h⟩
      · refine Tri.u 2 [.g true] [.keep [2] []] [.code [(1, 0), (1, 0)] 1, .code [] 2] ⟨[(2, .bool false)], []⟩ rfl ⟨hd6, trivial⟩ rfl ?_
        cases h
        exact Tri.ret rfl ⟨.inl rfl, rfl, rfl⟩
      · obtain ⟨v2, hk7, h⟩ := bind_some h
        refine Tri.u 2 [.g false, .r ⟨[], .bool v2, []⟩] [.keep [2] []] [.code [] 3] ⟨[(2, .bool (!v2))], []⟩ rfl ⟨(fun _ => (w_slices_ContainsFunc_int_int_impl_IsValidGame_1 a1 v2 hk7)), hd6, trivial⟩ rfl ?_
        cases h
        exact Tri.ret rfl ⟨.inl rfl, rfl, rfl⟩
/-! impl.common -/
noncomputable def E90_impl_common : Env := ⟨Try.prog, tys, (Try.f90.body).getD .skip, 15, tysOk, mixedOk⟩
abbrev q_impl_common (r : Int) (σ' : ASt) : Prop := isRes E90_impl_common.T Try.f90 (.i r) [] σ'
noncomputable def l_impl_common_0 : (Int × Int) → Option ((Int × Int) ⊕ Int)
  | (v1, v2) => (
bif v2 != (0 : Int) then
(grd (v2 ≠ 0) <|
some (.inl (v2, v1.tmod v2)))
else
(some (.inr v1)))
noncomputable def m_impl_common (a0 : Int) (a1 : Int) : Option Int :=
(iter (l_impl_common_0) (a0, a1)).bind fun
| v3 => (
some (if IntKind.i64.wrap (0 - v3) > v3 then IntKind.i64.wrap (0 - v3) else v3))
theorem w_impl_common (a0 : Int) (a1 : Int) (r : Int) (h : m_impl_common a0 a1 = some r) : AM.Spec Try.prog 90 [.i a0, .i a1] [] (.i r) [] := by
  refine spec_of (E := E90_impl_common) Try.func90 rfl rfl rfl rfl ?_
  refine Tri.u 1 [] [.keep [0, 1] []] [.code [(1, 0), (0, 0)] 0, .blk 0, .code [] 2] ⟨[(0, .i a0), (1, .i a1)], []⟩ rfl trivial rfl ?_
  obtain ⟨v3, hk3, h⟩ := bind_some h
  refine Tri.loop (K1 := [.code [(1, 0), (0, 0), (0, 0)] 0]) (K2 := [.blk 0, .code [] 2]) (fun (v1, v2) => ⟨[(0, .i v1), (1, .i v2)], []⟩) (fun x e σ' => match x with | v3 => e = .exit 0 ∧ σ' = ⟨[(0, .i v3)], []⟩) hk3 rfl rfl ?_ ?_
  · intro s x hs
    clear h
    have h := hs
    clear hs
    obtain ⟨v1, v2⟩ := s
    refine Tri.u 1 [] [.keep [0, 1, 6] []] [.code [(1, 0), (0, 0), (0, 0), (0, 0)] 1, .code [(1, 0), (0, 0), (0, 0)] 1] ⟨[(0, .i v1), (1, .i v2), (6, .bool (v2 != (0 : Int)))], []⟩ rfl trivial rfl ?_
    rcases bif_some h with ⟨hd1, h⟩ | ⟨hd1, h⟩
    · obtain ⟨hg2, h⟩ := grd_some h
      refine Tri.u 2 [.g true] [.keep [0, 1] []] [] ⟨[(0, .i v2), (1, .i (v1.tmod v2))], []⟩ rfl ⟨hg2, hd1, trivial⟩ rfl ?_
      cases h
      exact Tri.nil ⟨rfl, rfl⟩
    · refine Tri.u 1 [.g false] [.keep [0] []] [.code [(1, 0), (0, 0), (0, 0), (0, 0), (1, 1)] 0, .code [(1, 0), (0, 0), (0, 0)] 1] ⟨[(0, .i v1)], []⟩ rfl ⟨hd1, trivial⟩ rfl ?_
      cases h
      exact Tri.out 0 rfl ⟨nofun, rfl, rfl⟩
  · intro e σ' hne hq
    obtain ⟨rfl, rfl⟩ := hq
    refine TriX.exit (K' := [.code [] 2]) rfl ?_
    refine Tri.u 1 [] [.keep [4] []] [.code [] 3] ⟨[(4, .i (if IntKind.i64.wrap (0 - v3) > v3 then IntKind.i64.wrap (0 - v3) else v3))], []⟩ rfl trivial rfl ?_
    cases h
    exact Tri.ret rfl ⟨.inl rfl, rfl, rfl⟩
/-! impl.IsValidRat -/
noncomputable def E63_impl_IsValidRat : Env := ⟨Try.prog, tys, (Try.f63.body).getD .skip, 19, tysOk, mixedOk⟩
abbrev q_impl_IsValidRat (r : Bool) (σ' : ASt) : Prop := isRes E63_impl_IsValidRat.T Try.f63 (.bool r) [] σ'
noncomputable def m_impl_IsValidRat (a0 : Int) (a1 : Int) : Option Bool :=
(m_impl_within a1 (1 : Int) (1000000000 : Int)).bind fun v1 =>
bif v1 then
((m_impl_within a0 (-1000000000 : Int) (1000000000 : Int)).bind fun v2 =>
bif v2 then
((m_impl_common a0 a1).bind fun v3 =>
some (v3 == (1 : Int)))
else
(some false))
else
(some false)
theorem w_impl_IsValidRat (a0 : Int) (a1 : Int) (r : Bool) (h : m_impl_IsValidRat a0 a1 = some r) : AM.Spec Try.prog 63 [.agg [.i a0, .i a1]] [] (.bool r) [] := by
  refine spec_of (E := E63_impl_IsValidRat) Try.func63 rfl rfl rfl rfl ?_
  refine Tri.u 1 [] [.keep [1] [1]] [.code [(1, 0)] 0, .code [] 2] ⟨[(1, .ptr 1 0)], [(1, .box [.i a0, .i a1])]⟩ rfl trivial rfl ?_
  obtain ⟨v1, hk1, h⟩ := bind_some h
  rcases bif_some h with ⟨hd2, h⟩ | ⟨hd2, h⟩
  · obtain ⟨v2, hk3, h⟩ := bind_some h
    rcases bif_some h with ⟨hd4, h⟩ | ⟨hd4, h⟩
    · obtain ⟨v3, hk5, h⟩ := bind_some h
      refine Tri.u 1 [.r ⟨[], .bool v1, []⟩, .g true, .r ⟨[], .bool v2, []⟩, .g true, .r ⟨[], .i v3, []⟩] [.keep [2] []] [.code [] 2] ⟨[(2, .bool (v3 == (1 : Int)))], []⟩ rfl ⟨(fun _ => (w_impl_common a0 a1 v3 hk5)), hd4, (fun _ => (w_impl_within a0 (-1000000000 : Int) (1000000000 : Int) v2 hk3)), hd2, (fun _ => (w_impl_within a1 (1 : Int) (1000000000 : Int) v1 hk1)), trivial⟩ rfl ?_
      cases h
      exact Tri.ret rfl ⟨.inl rfl, rfl, rfl⟩
    · refine Tri.u 1 [.r ⟨[], .bool v1, []⟩, .g true, .r ⟨[], .bool v2, []⟩, .g false] [.keep [2] []] [.code [] 2] ⟨[(2, .bool false)], []⟩ rfl ⟨hd4, (fun _ => (w_impl_within a0 (-1000000000 : Int) (1000000000 : Int) v2 hk3)), hd2, (fun _ => (w_impl_within a1 (1 : Int) (1000000000 : Int) v1 hk1)), trivial⟩ rfl ?_
      cases h
      exact Tri.ret rfl ⟨.inl rfl, rfl, rfl⟩
  · refine Tri.u 1 [.r ⟨[], .bool v1, []⟩, .g false, .g false] [.keep [2] []] [.code [] 2] ⟨[(2, .bool false)], []⟩ rfl ⟨rfl, hd2, (fun _ => (w_impl_within a1 (1 : Int) (1000000000 : Int) v1 hk1)), trivial⟩ rfl ?_
    cases h
    exact Tri.ret rfl ⟨.inl rfl, rfl, rfl⟩
/-! impl.AllValid$1 -/
noncomputable def E88_impl_AllValid_1 : Env := ⟨Try.prog, tys, (Try.f88.body).getD .skip, 6, tysOk, mixedOk⟩
abbrev q_impl_AllValid_1 (r : Bool) (σ' : ASt) : Prop := isRes E88_impl_AllValid_1.T Try.f88 (.bool r) [] σ'
noncomputable def m_impl_AllValid_1 (a0 : Int) (a1 : Int) : Option Bool :=
(m_impl_IsValidRat a0 a1).bind fun v1 =>
some (!v1)
theorem w_impl_AllValid_1 (a0 : Int) (a1 : Int) (r : Bool) (h : m_impl_AllValid_1 a0 a1 = some r) : AM.Spec Try.prog 88 [.agg [.i a0, .i a1]] [] (.bool r) [] := by
  refine spec_of (E := E88_impl_AllValid_1) Try.func88 rfl rfl rfl rfl ?_
  refine Tri.u 1 [] [.keep [1] [1]] [.code [(1, 0)] 0, .code [] 2] ⟨[(1, .ptr 1 0)], [(1, .box [.i a0, .i a1])]⟩ rfl trivial rfl ?_
  obtain ⟨v1, hk1, h⟩ := bind_some h
  refine Tri.u 1 [.r ⟨[], .bool v1, []⟩] [.keep [2] []] [.code [] 2] ⟨[(2, .bool (!v1))], []⟩ rfl ⟨(fun _ => (w_impl_IsValidRat a0 a1 v1 hk1)), trivial⟩ rfl ?_
  cases h
  exact Tri.ret rfl ⟨.inl rfl, rfl, rfl⟩
/-! impl.Rat) -/
noncomputable def E85_slices_IndexFunc_impl_Rat_impl_Rat : Env := ⟨Try.prog, tys, (Try.f85.body).getD .skip, 19, tysOk, mixedOk⟩
abbrev q_slices_IndexFunc_impl_Rat_impl_Rat_impl_AllValid_1 (r : Int) (σ' : ASt) : Prop := isRes E85_slices_IndexFunc_impl_Rat_impl_Rat.T Try.f85 (.i r) [] σ'
noncomputable def l_slices_IndexFunc_impl_Rat_impl_Rat_impl_AllValid_1_0 (a0 : List Q) (v1 : Int) : Option (Int ⊕ (Unit ⊕ Int)) :=
bif decide (v1 < (a0.length : Int)) then
(grd ((0 : Int) ≤ v1 ∧ v1 < (a0.length : Int)) <|
(m_impl_AllValid_1 ((a0.getD v1.toNat ⟨0, 0⟩).num) ((a0.getD v1.toNat ⟨0, 0⟩).den)).bind fun v2 =>
bif v2 then
(some (.inr (.inr v1)))
else
(some (.inl (IntKind.i64.wrap (v1 + (1 : Int))))))
else
(some (.inr (.inl ())))
noncomputable def m_slices_IndexFunc_impl_Rat_impl_Rat_impl_AllValid_1 (a0 : List Q) : Option Int :=
(iter (l_slices_IndexFunc_impl_Rat_impl_Rat_impl_AllValid_1_0 a0) (0 : Int)).bind fun
| (.inl _) => (
some (-1 : Int))
| (.inr r) => some r
theorem w_slices_IndexFunc_impl_Rat_impl_Rat_impl_AllValid_1 (a0 : List Q) (r : Int) (h : m_slices_IndexFunc_impl_Rat_impl_Rat_impl_AllValid_1 a0 = some r) : AM.Spec Try.prog 85 [.list (.rats a0), .func 88 [] []] [] (.i r) [] := by
  refine spec_of (E := E85_slices_IndexFunc_impl_Rat_impl_Rat) Try.func85 rfl rfl rfl rfl ?_
  refine Tri.u 2 [] [.keep [0, 1, 7, 8] []] [.code [(1, 0), (1, 0)] 0, .blk 0, .code [] 2] ⟨[(0, .list (.rats a0)), (1, .func 88 [] []), (7, .i (a0.length : Int)), (8, .i (0 : Int))], []⟩ rfl trivial rfl ?_
  obtain ⟨x1, hk5, h⟩ := bind_some h
  refine Tri.loop (K1 := [.code [(1, 0), (1, 0), (0, 0)] 0]) (K2 := [.blk 0, .code [] 2]) (fun v1 => ⟨[(0, .list (.rats a0)), (1, .func 88 [] []), (7, .i (a0.length : Int)), (8, .i v1)], []⟩) (fun x e σ' => match x with | (.inl _) => e = .exit 0 ∧ σ' = ⟨[], []⟩ | (.inr r) => e = .ret ∧ q_slices_IndexFunc_impl_Rat_impl_Rat_impl_AllValid_1 r σ') hk5 rfl rfl ?_ ?_
  · intro v1 x hs
    clear h
    have h := hs
    clear hs
    refine Tri.u 1 [] [.keep [0, 1, 7, 8, 9] []] [.code [(1, 0), (1, 0), (0, 0), (1, 0)] 0, .code [(1, 0), (1, 0), (0, 0)] 2] ⟨[(0, .list (.rats a0)), (1, .func 88 [] []), (7, .i (a0.length : Int)), (8, .i v1), (9, .bool (decide (v1 < (a0.length : Int))))], []⟩ rfl trivial rfl ?_
    rcases bif_some h with ⟨hd1, h⟩ | ⟨hd1, h⟩
    · refine Tri.u 2 [.g true] [.keep [0, 1, 5, 7, 8] []] [.code [(1, 0), (1, 0), (0, 0), (2, 0), (0, 0), (1, 0)] 0, .code [(1, 0), (1, 0), (0, 0), (2, 0), (0, 0)] 2, .blk 1, .code [(1, 0), (1, 0), (0, 0)] 3] ⟨[(0, .list (.rats a0)), (1, .func 88 [] []), (5, .i v1), (7, .i (a0.length : Int)), (8, .i v1)], []⟩ rfl ⟨hd1, trivial⟩ rfl ?_
      obtain ⟨hg2, h⟩ := grd_some h
      obtain ⟨v2, hk3, h⟩ := bind_some h
      refine Tri.u 1 [.r ⟨[], .bool v2, []⟩] [.keep [0, 1, 5, 7, 8, 16] []] [.code [(1, 0), (1, 0), (0, 0), (2, 0), (0, 0)] 2, .blk 1, .code [(1, 0), (1, 0), (0, 0)] 3] ⟨[(0, .list (.rats a0)), (1, .func 88 [] []), (5, .i v1), (7, .i (a0.length : Int)), (8, .i v1), (16, .bool v2)], []⟩ rfl ⟨(fun _ => (w_impl_AllValid_1 ((a0.getD v1.toNat ⟨0, 0⟩).num) ((a0.getD v1.toNat ⟨0, 0⟩).den) v2 hk3)), hg2, trivial⟩ rfl ?_
      rcases bif_some h with ⟨hd4, h⟩ | ⟨hd4, h⟩
      · refine Tri.u 2 [.g true] [.keep [4] []] [.code [(1, 0), (1, 0), (0, 0), (2, 0), (0, 0), (2, 0)] 1, .blk 1, .code [(1, 0), (1, 0), (0, 0)] 3] ⟨[(4, .i v1)], []⟩ rfl ⟨hd4, trivial⟩ rfl ?_
        cases h
        exact Tri.ret rfl ⟨nofun, rfl, rfl, rfl⟩
      · refine Tri.u 2 [.g false] [.keep [0, 1, 7, 8] []] [] ⟨[(0, .list (.rats a0)), (1, .func 88 [] []), (7, .i (a0.length : Int)), (8, .i (IntKind.i64.wrap (v1 + (1 : Int))))], []⟩ rfl ⟨hd4, trivial⟩ rfl ?_
        cases h
        exact Tri.nil ⟨rfl, rfl⟩
    · refine Tri.u 1 [.g false] [.keep [] []] [.code [(1, 0), (1, 0), (0, 0), (1, 0), (0, 1)] 0, .code [(1, 0), (1, 0), (0, 0)] 2] ⟨[], []⟩ rfl ⟨hd1, trivial⟩ rfl ?_
      cases h
      exact Tri.out 0 rfl ⟨nofun, rfl, rfl⟩
  · intro e σ' hne hq
    rcases x1 with _ | r
    · obtain ⟨rfl, rfl⟩ := hq
      refine TriX.exit (K' := [.code [] 2]) rfl ?_
      refine Tri.u 1 [] [.keep [4] []] [.code [] 3] ⟨[(4, .i (-1 : Int))], []⟩ rfl trivial rfl ?_
      cases h
      exact Tri.ret rfl ⟨.inl rfl, rfl, rfl⟩
    · obtain ⟨rfl, hq⟩ := hq
      cases h
      exact TriX.ret ⟨.inl rfl, hq⟩
/-! impl.Rat) -/
noncomputable def E50_slices_ContainsFunc_impl_Rat_impl_Rat : Env := ⟨Try.prog, tys, (Try.f50.body).getD .skip, 9, tysOk, mixedOk⟩
abbrev q_slices_ContainsFunc_impl_Rat_impl_Rat_impl_AllValid_1 (r : Bool) (σ' : ASt) : Prop := isRes E50_slices_ContainsFunc_impl_Rat_impl_Rat.T Try.f50 (.bool r) [] σ'
noncomputable def m_slices_ContainsFunc_impl_Rat_impl_Rat_impl_AllValid_1 (a0 : List Q) : Option Bool :=
(m_slices_IndexFunc_impl_Rat_impl_Rat_impl_AllValid_1 a0).bind fun v1 =>
some (decide (v1 ≥ (0 : Int)))
theorem w_slices_ContainsFunc_impl_Rat_impl_Rat_impl_AllValid_1 (a0 : List Q) (r : Bool) (h : m_slices_ContainsFunc_impl_Rat_impl_Rat_impl_AllValid_1 a0 = some r) : AM.Spec Try.prog 50 [.list (.rats a0), .func 88 [] []] [] (.bool r) [] := by
  refine spec_of (E := E50_slices_ContainsFunc_impl_Rat_impl_Rat) Try.func50 rfl rfl rfl rfl ?_
  refine Tri.u 1 [] [.keep [0, 1] []] [.code [(1, 0)] 0, .code [] 2] ⟨[(0, .list (.rats a0)), (1, .func 88 [] [])], []⟩ rfl trivial rfl ?_
  obtain ⟨v1, hk1, h⟩ := bind_some h
  refine Tri.u 1 [.r ⟨[], .i v1, []⟩] [.keep [4] []] [.code [] 2] ⟨[(4, .bool (decide (v1 ≥ (0 : Int))))], []⟩ rfl ⟨(fun _ => (w_slices_IndexFunc_impl_Rat_impl_Rat_impl_AllValid_1 a0 v1 hk1)), trivial⟩ rfl ?_
  cases h
  exact Tri.ret rfl ⟨.inl rfl, rfl, rfl⟩
/-! impl.AllValid -/
noncomputable def E54_impl_AllValid : Env := ⟨Try.prog, tys, (Try.f54.body).getD .skip, 6, tysOk, mixedOk⟩
abbrev q_impl_AllValid (r : Bool) (σ' : ASt) : Prop := isRes E54_impl_AllValid.T Try.f54 (.bool r) [] σ'
noncomputable def m_impl_AllValid (a0 : List Q) : Option Bool :=
(m_slices_ContainsFunc_impl_Rat_impl_Rat_impl_AllValid_1 a0).bind fun v1 =>
some (!v1)
theorem w_impl_AllValid (a0 : List Q) (r : Bool) (h : m_impl_AllValid a0 = some r) : AM.Spec Try.prog 54 [.list (.rats a0)] [] (.bool r) [] := by
  refine spec_of (E := E54_impl_AllValid) Try.func54 rfl rfl rfl rfl ?_
  refine Tri.u 1 [] [.keep [0] []] [.code [(1, 0)] 0, .code [] 2] ⟨[(0, .list (.rats a0))], []⟩ rfl trivial rfl ?_
  obtain ⟨v1, hk1, h⟩ := bind_some h
  refine Tri.u 1 [.r ⟨[], .bool v1, []⟩] [.keep [2] []] [.code [] 2] ⟨[(2, .bool (!v1))], []⟩ rfl ⟨(fun _ => (w_slices_ContainsFunc_impl_Rat_impl_Rat_impl_AllValid_1 a0 v1 hk1)), trivial⟩ rfl ?_
  cases h
  exact Tri.ret rfl ⟨.inl rfl, rfl, rfl⟩
/-! impl.whole -/
noncomputable def E55_impl_whole : Env := ⟨Try.prog, tys, (Try.f55.body).getD .skip, 5, tysOk, mixedOk⟩
abbrev q_impl_whole (r : Int × Int) (σ' : ASt) : Prop := isRes E55_impl_whole.T Try.f55 (.agg [.i r.1, .i r.2]) [] σ'
noncomputable def m_impl_whole (a0 : Int) : Option (Int × Int) :=
some (a0, (1 : Int))
theorem w_impl_whole (a0 : Int) (r : Int × Int) (h : m_impl_whole a0 = some r) : AM.Spec Try.prog 55 [.i a0] [] (.agg [.i r.1, .i r.2]) [] := by
  refine spec_of (E := E55_impl_whole) Try.func55 rfl rfl rfl rfl ?_
  refine Tri.u 2 [] [.keep [2] [2]] [.code [] 2] ⟨[(2, .ptr 2 0)], [(2, .box [.i a0, .i (1 : Int)])]⟩ rfl trivial rfl ?_
  cases h
  exact Tri.ret rfl ⟨.inl rfl, rfl, rfl⟩
/-! impl.HasPlayer -/
noncomputable def E93_impl_HasPlayer : Env := ⟨Try.prog, tys, (Try.f93.body).getD .skip, 18, tysOk, mixedOk⟩
abbrev q_impl_HasPlayer (r : Bool) (σ' : ASt) : Prop := isRes E93_impl_HasPlayer.T Try.f93 (.bool r) [] σ'
noncomputable def m_impl_HasPlayer (a0 : Int) (a1 : Int) : Option Bool :=
bif decide (a0 ≥ (0 : Int)) then
((m_impl_within a1 (0 : Int) (4 : Int)).bind fun v1 =>
bif v1 then
(grd ((0 : Int) ≤ a1) <|
some ((bitsOf .and .i64 (a0.fdiv (2 ^ (min a1.toNat 64))) (1 : Int)) == (1 : Int)))
else
(some false))
else
(some false)
theorem w_impl_HasPlayer (a0 : Int) (a1 : Int) (r : Bool) (h : m_impl_HasPlayer a0 a1 = some r) : AM.Spec Try.prog 93 [.i a0, .i a1] [] (.bool r) [] := by
  refine spec_of (E := E93_impl_HasPlayer) Try.func93 rfl rfl rfl rfl ?_
  refine Tri.u 1 [] [.keep [0, 1] []] [.code [(1, 0)] 0, .code [] 2] ⟨[(0, .i a0), (1, .i a1)], []⟩ rfl trivial rfl ?_
  rcases bif_some h with ⟨hd1, h⟩ | ⟨hd1, h⟩
  · obtain ⟨v1, hk2, h⟩ := bind_some h
    rcases bif_some h with ⟨hd3, h⟩ | ⟨hd3, h⟩
    · obtain ⟨hg4, h⟩ := grd_some h
      refine Tri.u 1 [.g true, .r ⟨[], .bool v1, []⟩, .g true] [.keep [4] []] [.code [] 2] ⟨[(4, .bool ((bitsOf .and .i64 (a0.fdiv (2 ^ (min a1.toNat 64))) (1 : Int)) == (1 : Int)))], []⟩ rfl ⟨hg4, hd3, (fun _ => (w_impl_within a1 (0 : Int) (4 : Int) v1 hk2)), hd1, trivial⟩ rfl ?_
      cases h
      exact Tri.ret rfl ⟨.inl rfl, rfl, rfl⟩
    · refine Tri.u 1 [.g true, .r ⟨[], .bool v1, []⟩, .g false] [.keep [4] []] [.code [] 2] ⟨[(4, .bool false)], []⟩ rfl ⟨hd3, (fun _ => (w_impl_within a1 (0 : Int) (4 : Int) v1 hk2)), hd1, trivial⟩ rfl ?_
      cases h
      exact Tri.ret rfl ⟨.inl rfl, rfl, rfl⟩
  · refine Tri.u 1 [.g false, .g false] [.keep [4] []] [.code [] 2] ⟨[(4, .bool false)], []⟩ rfl ⟨rfl, hd1, trivial⟩ rfl ?_
    cases h
    exact Tri.ret rfl ⟨.inl rfl, rfl, rfl⟩
/-! impl.MembersOf -/
noncomputable def E70_impl_MembersOf : Env := ⟨Try.prog, tys, (Try.f70.body).getD .skip, 21, tysOk, mixedOk⟩
abbrev q_impl_MembersOf (r : List Int) (σ' : ASt) : Prop := isRes E70_impl_MembersOf.T Try.f70 (.sl 1000 0) [(1000, .arr 3 0 0 (.ints r))] σ'
noncomputable def l_impl_MembersOf_0 (a0 : Int) : (Int × (List Int)) → Option ((Int × (List Int)) ⊕ ((List Int)))
  | (v2, v3) => (
bif decide (v2 < (5 : Int)) then
((m_impl_HasPlayer a0 v2).bind fun v4 =>
bif v4 then
(grd (v3.length + ([v2] : List Int).length ≤ room) <|
some (.inl (IntKind.i64.wrap (v2 + (1 : Int)), v3 ++ [v2])))
else
(some (.inl (IntKind.i64.wrap (v2 + (1 : Int)), v3))))
else
(some (.inr v3)))
noncomputable def m_impl_MembersOf (a0 : Int) : Option (List Int) :=
(m_impl_within a0 (0 : Int) (31 : Int)).bind fun v1 =>
bif !v1 then
(some [])
else
((iter (l_impl_MembersOf_0 a0) ((0 : Int), [])).bind fun
| v5 => (
some v5))
theorem w_impl_MembersOf (a0 : Int) (r : List Int) (h : m_impl_MembersOf a0 = some r) : AM.Spec Try.prog 70 [.i a0] [] (.sl 1000 0) [(1000, .arr 3 0 0 (.ints r))] := by
  refine spec_of (E := E70_impl_MembersOf) Try.func70 rfl rfl rfl rfl ?_
  refine Tri.u 1 [] [.keep [0] []] [.code [(1, 0), (0, 0)] 0, .code [(1, 0)] 1, .code [] 2] ⟨[(0, .i a0)], []⟩ rfl trivial rfl ?_
  obtain ⟨v1, hk1, h⟩ := bind_some h
  refine Tri.u 1 [.r ⟨[], .bool v1, []⟩] [.keep [0, 7] []] [.code [(1, 0)] 1, .code [] 2] ⟨[(0, .i a0), (7, .bool (!v1))], []⟩ rfl ⟨(fun _ => (w_impl_within a0 (0 : Int) (31 : Int) v1 hk1)), trivial⟩ rfl ?_
  rcases bif_some h with ⟨hd2, h⟩ | ⟨hd2, h⟩
  · refine Tri.u 2 [.g true] [.own 2 [] 1100 3, .swap 1100 1000, .keep [2] [1000]] [.code [(1, 0), (1, 0)] 1, .code [] 2] ⟨[(2, .sl 1000 0)], [(1000, .arr 3 0 0 (.ints []))]⟩ rfl ⟨hd2, trivial⟩ rfl ?_
    cases h
    exact Tri.ret rfl ⟨.inl rfl, rfl, rfl⟩
  · refine Tri.u 3 [.g false] [.keep [0, 3, 9] [8]] [.code [(3, 0), (1, 0)] 0, .blk 0, .code [] 4] ⟨[(0, .i a0), (3, .sl 8 0), (9, .i (0 : Int))], [(8, .arr 3 0 0 (.ints []))]⟩ rfl ⟨hd2, trivial⟩ rfl ?_
    obtain ⟨v5, hk7, h⟩ := bind_some h
    refine Tri.loop (K1 := [.code [(3, 0), (1, 0), (0, 0)] 0]) (K2 := [.blk 0, .code [] 4]) (fun (v2, v3) => ⟨[(0, .i a0), (3, .sl 8 0), (9, .i v2)], [(8, .arr 3 0 0 (.ints v3))]⟩) (fun x e σ' => match x with | v5 => e = .exit 0 ∧ σ' = ⟨[(3, .sl 8 0)], [(8, .arr 3 0 0 (.ints v5))]⟩) hk7 rfl rfl ?_ ?_
    · intro s x hs
      clear h
      have h := hs
      clear hs
      obtain ⟨v2, v3⟩ := s
      refine Tri.u 1 [] [.keep [0, 3, 9, 10] [8]] [.code [(3, 0), (1, 0), (0, 0), (1, 0)] 0, .code [(3, 0), (1, 0), (0, 0)] 2] ⟨[(0, .i a0), (3, .sl 8 0), (9, .i v2), (10, .bool (decide (v2 < (5 : Int))))], [(8, .arr 3 0 0 (.ints v3))]⟩ rfl trivial rfl ?_
      rcases bif_some h with ⟨hd3, h⟩ | ⟨hd3, h⟩
      · refine Tri.u 2 [.g true] [.keep [0, 3, 4, 9] [8]] [.code [(3, 0), (1, 0), (0, 0), (2, 0), (0, 0), (1, 0)] 0, .code [(3, 0), (1, 0), (0, 0), (2, 0), (0, 0)] 2, .blk 1, .code [(3, 0), (1, 0), (0, 0)] 3] ⟨[(0, .i a0), (3, .sl 8 0), (4, .i v2), (9, .i v2)], [(8, .arr 3 0 0 (.ints v3))]⟩ rfl ⟨hd3, trivial⟩ rfl ?_
        obtain ⟨v4, hk4, h⟩ := bind_some h
        refine Tri.u 1 [.r ⟨[], .bool v4, []⟩] [.keep [0, 3, 4, 9, 14] [8]] [.code [(3, 0), (1, 0), (0, 0), (2, 0), (0, 0)] 2, .blk 1, .code [(3, 0), (1, 0), (0, 0)] 3] ⟨[(0, .i a0), (3, .sl 8 0), (4, .i v2), (9, .i v2), (14, .bool v4)], [(8, .arr 3 0 0 (.ints v3))]⟩ rfl ⟨(fun _ => (w_impl_HasPlayer a0 v2 v4 hk4)), trivial⟩ rfl ?_
        rcases bif_some h with ⟨hd5, h⟩ | ⟨hd5, h⟩
        · obtain ⟨hg6, h⟩ := grd_some h
          refine Tri.u 3 [.g true] [.rever 8, .keep [0, 3, 9] [8]] [] ⟨[(0, .i a0), (3, .sl 8 0), (9, .i (IntKind.i64.wrap (v2 + (1 : Int))))], [(8, .arr 3 0 0 (.ints (v3 ++ [v2])))]⟩ rfl ⟨hg6, hd5, trivial⟩ rfl ?_
          cases h
          exact Tri.nil ⟨rfl, rfl⟩
        · refine Tri.u 2 [.g false] [.keep [0, 3, 9] [8]] [] ⟨[(0, .i a0), (3, .sl 8 0), (9, .i (IntKind.i64.wrap (v2 + (1 : Int))))], [(8, .arr 3 0 0 (.ints v3))]⟩ rfl ⟨hd5, trivial⟩ rfl ?_
          cases h
          exact Tri.nil ⟨rfl, rfl⟩
      · refine Tri.u 1 [.g false] [.keep [3] [8]] [.code [(3, 0), (1, 0), (0, 0), (1, 0), (0, 1)] 0, .code [(3, 0), (1, 0), (0, 0)] 2] ⟨[(3, .sl 8 0)], [(8, .arr 3 0 0 (.ints v3))]⟩ rfl ⟨hd3, trivial⟩ rfl ?_
        cases h
        exact Tri.out 0 rfl ⟨nofun, rfl, rfl⟩
    · intro e σ' hne hq
      obtain ⟨rfl, rfl⟩ := hq
      refine TriX.exit (K' := [.code [] 4]) rfl ?_
      refine Tri.u 1 [] [.swap 8 1000, .keep [2] [1000]] [.code [] 5] ⟨[(2, .sl 1000 0)], [(1000, .arr 3 0 0 (.ints v5))]⟩ rfl trivial rfl ?_
      cases h
      exact Tri.ret rfl ⟨.inl rfl, rfl, rfl⟩
/-! impl.RatOf -/
noncomputable def E94_impl_RatOf : Env := ⟨Try.prog, tys, (Try.f94.body).getD .skip, 40, tysOk, mixedOk⟩
abbrev q_impl_RatOf (r : Int × Int × Bool) (σ' : ASt) : Prop := isRes E94_impl_RatOf.T Try.f94 (.tuple [.agg [.i r.1, .i r.2.1], .bool r.2.2]) [] σ'
noncomputable def m_impl_RatOf (a0 : Int) (a1 : Int) : Option (Int × Int × Bool) :=
bif a1 == (0 : Int) then
(some (0, 0, false))
else
((m_impl_within a0 (-1000000000000000000 : Int) (1000000000000000000 : Int)).bind fun v1 =>
bif !v1 then
(some (0, 0, false))
else
((m_impl_within a1 (-1000000000000000000 : Int) (1000000000000000000 : Int)).bind fun v2 =>
bif !v2 then
(some (0, 0, false))
else
((m_impl_common a0 a1).bind fun v3 =>
bif decide (a1 < (0 : Int)) then
(grd ((IntKind.i64.wrap (0 - v3)) ≠ 0) <|
grd ((IntKind.i64.wrap (0 - v3)) ≠ 0) <|
(m_impl_IsValidRat (IntKind.i64.wrap (a0.tdiv (IntKind.i64.wrap (0 - v3)))) (IntKind.i64.wrap (a1.tdiv (IntKind.i64.wrap (0 - v3))))).bind fun v4 =>
bif !v4 then
(some (0, 0, false))
else
(some (IntKind.i64.wrap (a0.tdiv (IntKind.i64.wrap (0 - v3))), IntKind.i64.wrap (a1.tdiv (IntKind.i64.wrap (0 - v3))), true)))
else
(grd (v3 ≠ 0) <|
grd (v3 ≠ 0) <|
(m_impl_IsValidRat (IntKind.i64.wrap (a0.tdiv v3)) (IntKind.i64.wrap (a1.tdiv v3))).bind fun v5 =>
bif !v5 then
(some (0, 0, false))
else
(some (IntKind.i64.wrap (a0.tdiv v3), IntKind.i64.wrap (a1.tdiv v3), true))))))
theorem w_impl_RatOf (a0 : Int) (a1 : Int) (r : Int × Int × Bool) (h : m_impl_RatOf a0 a1 = some r) : AM.Spec Try.prog 94 [.i a0, .i a1] [] (.tuple [.agg [.i r.1, .i r.2.1], .bool r.2.2]) [] := by
  refine spec_of (E := E94_impl_RatOf) Try.func94 rfl rfl rfl rfl ?_
  refine Tri.u 1 [] [.keep [0, 1, 4] [4]] [.code [(1, 0), (0, 0)] 0, .code [(1, 0)] 1, .code [] 2] ⟨[(0, .i a0), (1, .i a1), (4, .ptr 4 0)], [(4, .box [.i 0, .i 0])]⟩ rfl trivial rfl ?_
  rcases bif_some h with ⟨hd1, h⟩ | ⟨hd1, h⟩
  · refine Tri.u 1 [.g true, .g true] [.keep [0, 1, 4, 19] [4]] [.code [(1, 0)] 1, .code [] 2] ⟨[(0, .i a0), (1, .i a1), (4, .ptr 4 0), (19, .bool true)], [(4, .box [.i 0, .i 0])]⟩ rfl ⟨rfl, hd1, trivial⟩ rfl ?_
    refine Tri.u 2 [.g true] [.keep [4, 5] [4]] [.code [(1, 0), (1, 0)] 1, .code [] 2] ⟨[(4, .ptr 4 0), (5, .bool false)], [(4, .box [.i 0, .i 0])]⟩ rfl ⟨rfl, trivial⟩ rfl ?_
    cases h
    exact Tri.ret rfl ⟨.inl rfl, rfl, rfl⟩
  · obtain ⟨v1, hk2, h⟩ := bind_some h
    rcases bif_some h with ⟨hd3, h⟩ | ⟨hd3, h⟩
    · refine Tri.u 1 [.g false, .r ⟨[], .bool v1, []⟩, .g true] [.keep [0, 1, 4, 19] [4]] [.code [(1, 0)] 1, .code [] 2] ⟨[(0, .i a0), (1, .i a1), (4, .ptr 4 0), (19, .bool true)], [(4, .box [.i 0, .i 0])]⟩ rfl ⟨hd3, (fun _ => (w_impl_within a0 (-1000000000000000000 : Int) (1000000000000000000 : Int) v1 hk2)), hd1, trivial⟩ rfl ?_
      refine Tri.u 2 [.g true] [.keep [4, 5] [4]] [.code [(1, 0), (1, 0)] 1, .code [] 2] ⟨[(4, .ptr 4 0), (5, .bool false)], [(4, .box [.i 0, .i 0])]⟩ rfl ⟨rfl, trivial⟩ rfl ?_
      cases h
      exact Tri.ret rfl ⟨.inl rfl, rfl, rfl⟩
    · obtain ⟨v2, hk4, h⟩ := bind_some h
      refine Tri.u 1 [.g false, .r ⟨[], .bool v1, []⟩, .g false, .r ⟨[], .bool v2, []⟩] [.keep [0, 1, 4, 19] [4]] [.code [(1, 0)] 1, .code [] 2] ⟨[(0, .i a0), (1, .i a1), (4, .ptr 4 0), (19, .bool (!v2))], [(4, .box [.i 0, .i 0])]⟩ rfl ⟨(fun _ => (w_impl_within a1 (-1000000000000000000 : Int) (1000000000000000000 : Int) v2 hk4)), hd3, (fun _ => (w_impl_within a0 (-1000000000000000000 : Int) (1000000000000000000 : Int) v1 hk2)), hd1, trivial⟩ rfl ?_
      rcases bif_some h with ⟨hd5, h⟩ | ⟨hd5, h⟩
      · refine Tri.u 2 [.g true] [.keep [4, 5] [4]] [.code [(1, 0), (1, 0)] 1, .code [] 2] ⟨[(4, .ptr 4 0), (5, .bool false)], [(4, .box [.i 0, .i 0])]⟩ rfl ⟨hd5, trivial⟩ rfl ?_
        cases h
        exact Tri.ret rfl ⟨.inl rfl, rfl, rfl⟩
      · obtain ⟨v3, hk6, h⟩ := bind_some h
        refine Tri.u 3 [.g false, .r ⟨[], .i v3, []⟩] [.keep [0, 1, 4, 6, 25] [4]] [.code [(3, 0)] 1, .code [] 4] ⟨[(0, .i a0), (1, .i a1), (4, .ptr 4 0), (6, .i v3), (25, .bool (decide (a1 < (0 : Int))))], [(4, .box [.i 0, .i 0])]⟩ rfl ⟨(fun _ => (w_impl_common a0 a1 v3 hk6)), hd5, trivial⟩ rfl ?_
        rcases bif_some h with ⟨hd7, h⟩ | ⟨hd7, h⟩
        · obtain ⟨hg8, h⟩ := grd_some h
          obtain ⟨hg9, h⟩ := grd_some h
          refine Tri.u 3 [.g true] [.keep [4, 7] [4, 7]] [.code [(5, 0), (0, 0)] 0, .code [(5, 0)] 1, .code [] 6] ⟨[(4, .ptr 4 0), (7, .ptr 7 0)], [(4, .box [.i 0, .i 0]), (7, .box [.i (IntKind.i64.wrap (a0.tdiv (IntKind.i64.wrap (0 - v3)))), .i (IntKind.i64.wrap (a1.tdiv (IntKind.i64.wrap (0 - v3))))])]⟩ rfl ⟨hg9, hg8, hd7, trivial⟩ rfl ?_
          obtain ⟨v4, hk10, h⟩ := bind_some h
          refine Tri.u 1 [.r ⟨[], .bool v4, []⟩] [.keep [4, 7, 37] [4, 7]] [.code [(5, 0)] 1, .code [] 6] ⟨[(4, .ptr 4 0), (7, .ptr 7 0), (37, .bool (!v4))], [(4, .box [.i 0, .i 0]), (7, .box [.i (IntKind.i64.wrap (a0.tdiv (IntKind.i64.wrap (0 - v3)))), .i (IntKind.i64.wrap (a1.tdiv (IntKind.i64.wrap (0 - v3))))])]⟩ rfl ⟨(fun _ => (w_impl_IsValidRat (IntKind.i64.wrap (a0.tdiv (IntKind.i64.wrap (0 - v3)))) (IntKind.i64.wrap (a1.tdiv (IntKind.i64.wrap (0 - v3)))) v4 hk10)), trivial⟩ rfl ?_
          rcases bif_some h with ⟨hd11, h⟩ | ⟨hd11, h⟩
          · refine Tri.u 2 [.g true] [.keep [4, 5] [4]] [.code [(5, 0), (1, 0)] 1, .code [] 6] ⟨[(4, .ptr 4 0), (5, .bool false)], [(4, .box [.i 0, .i 0])]⟩ rfl ⟨hd11, trivial⟩ rfl ?_
            cases h
            exact Tri.ret rfl ⟨.inl rfl, rfl, rfl⟩
          · refine Tri.u 2 [.g false] [.keep [4, 5] [4]] [.code [] 7] ⟨[(4, .ptr 4 0), (5, .bool true)], [(4, .box [.i (IntKind.i64.wrap (a0.tdiv (IntKind.i64.wrap (0 - v3)))), .i (IntKind.i64.wrap (a1.tdiv (IntKind.i64.wrap (0 - v3))))])]⟩ rfl ⟨hd11, trivial⟩ rfl ?_
            cases h
            exact Tri.ret rfl ⟨.inl rfl, rfl, rfl⟩
        · obtain ⟨hg12, h⟩ := grd_some h
          obtain ⟨hg13, h⟩ := grd_some h
          refine Tri.u 2 [.g false] [.keep [4, 7] [4, 7]] [.code [(5, 0), (0, 0)] 0, .code [(5, 0)] 1, .code [] 6] ⟨[(4, .ptr 4 0), (7, .ptr 7 0)], [(4, .box [.i 0, .i 0]), (7, .box [.i (IntKind.i64.wrap (a0.tdiv v3)), .i (IntKind.i64.wrap (a1.tdiv v3))])]⟩ rfl ⟨hg13, hg12, hd7, trivial⟩ rfl ?_
          obtain ⟨v5, hk14, h⟩ := bind_some h
          refine Tri.u 1 [.r ⟨[], .bool v5, []⟩] [.keep [4, 7, 37] [4, 7]] [.code [(5, 0)] 1, .code [] 6] ⟨[(4, .ptr 4 0), (7, .ptr 7 0), (37, .bool (!v5))], [(4, .box [.i 0, .i 0]), (7, .box [.i (IntKind.i64.wrap (a0.tdiv v3)), .i (IntKind.i64.wrap (a1.tdiv v3))])]⟩ rfl ⟨(fun _ => (w_impl_IsValidRat (IntKind.i64.wrap (a0.tdiv v3)) (IntKind.i64.wrap (a1.tdiv v3)) v5 hk14)), trivial⟩ rfl ?_
          rcases bif_some h with ⟨hd15, h⟩ | ⟨hd15, h⟩
          · refine Tri.u 2 [.g true] [.keep [4, 5] [4]] [.code [(5, 0), (1, 0)] 1, .code [] 6] ⟨[(4, .ptr 4 0), (5, .bool false)], [(4, .box [.i 0, .i 0])]⟩ rfl ⟨hd15, trivial⟩ rfl ?_
            cases h
            exact Tri.ret rfl ⟨.inl rfl, rfl, rfl⟩
          · refine Tri.u 2 [.g false] [.keep [4, 5] [4]] [.code [] 7] ⟨[(4, .ptr 4 0), (5, .bool true)], [(4, .box [.i (IntKind.i64.wrap (a0.tdiv v3)), .i (IntKind.i64.wrap (a1.tdiv v3))])]⟩ rfl ⟨hd15, trivial⟩ rfl ?_
            cases h
            exact Tri.ret rfl ⟨.inl rfl, rfl, rfl⟩
/-! impl.AddRat -/
noncomputable def E71_impl_AddRat : Env := ⟨Try.prog, tys, (Try.f71.body).getD .skip, 34, tysOk, mixedOk⟩
abbrev q_impl_AddRat (r : Int × Int × Bool) (σ' : ASt) : Prop := isRes E71_impl_AddRat.T Try.f71 (.tuple [.agg [.i r.1, .i r.2.1], .bool r.2.2]) [] σ'
noncomputable def m_impl_AddRat (a0 : Int) (a1 : Int) (a2 : Int) (a3 : Int) : Option (Int × Int × Bool) :=
(m_impl_IsValidRat a0 a1).bind fun v1 =>
bif !v1 then
(some (0, 0, false))
else
((m_impl_IsValidRat a2 a3).bind fun v2 =>
bif !v2 then
(some (0, 0, false))
else
((m_impl_RatOf (IntKind.i64.wrap ((IntKind.i64.wrap (a0 * a3)) + (IntKind.i64.wrap (a2 * a1)))) (IntKind.i64.wrap (a1 * a3))).bind fun (v3, v4, v5) =>
some (v3, v4, v5)))
theorem w_impl_AddRat (a0 : Int) (a1 : Int) (a2 : Int) (a3 : Int) (r : Int × Int × Bool) (h : m_impl_AddRat a0 a1 a2 a3 = some r) : AM.Spec Try.prog 71 [.agg [.i a0, .i a1], .agg [.i a2, .i a3]] [] (.tuple [.agg [.i r.1, .i r.2.1], .bool r.2.2]) [] := by
  refine spec_of (E := E71_impl_AddRat) Try.func71 rfl rfl rfl rfl ?_
  refine Tri.u 1 [] [.keep [2, 3, 4] [2, 3, 4]] [.code [(1, 0), (0, 0)] 0, .code [(1, 0)] 1, .code [] 2] ⟨[(2, .ptr 2 0), (3, .ptr 3 0), (4, .ptr 4 0)], [(2, .box [.i a0, .i a1]), (3, .box [.i a2, .i a3]), (4, .box [.i 0, .i 0])]⟩ rfl trivial rfl ?_
  obtain ⟨v1, hk1, h⟩ := bind_some h
  rcases bif_some h with ⟨hd2, h⟩ | ⟨hd2, h⟩
  · refine Tri.u 1 [.r ⟨[], .bool v1, []⟩, .g true] [.keep [2, 3, 4, 13] [2, 3, 4]] [.code [(1, 0)] 1, .code [] 2] ⟨[(2, .ptr 2 0), (3, .ptr 3 0), (4, .ptr 4 0), (13, .bool true)], [(2, .box [.i a0, .i a1]), (3, .box [.i a2, .i a3]), (4, .box [.i 0, .i 0])]⟩ rfl ⟨hd2, (fun _ => (w_impl_IsValidRat a0 a1 v1 hk1)), trivial⟩ rfl ?_
    refine Tri.u 2 [.g true] [.keep [4, 5] [4]] [.code [(1, 0), (1, 0)] 1, .code [] 2] ⟨[(4, .ptr 4 0), (5, .bool false)], [(4, .box [.i 0, .i 0])]⟩ rfl ⟨rfl, trivial⟩ rfl ?_
    cases h
    exact Tri.ret rfl ⟨.inl rfl, rfl, rfl⟩
  · obtain ⟨v2, hk3, h⟩ := bind_some h
    refine Tri.u 1 [.r ⟨[], .bool v1, []⟩, .g false, .r ⟨[], .bool v2, []⟩] [.keep [2, 3, 4, 13] [2, 3, 4]] [.code [(1, 0)] 1, .code [] 2] ⟨[(2, .ptr 2 0), (3, .ptr 3 0), (4, .ptr 4 0), (13, .bool (!v2))], [(2, .box [.i a0, .i a1]), (3, .box [.i a2, .i a3]), (4, .box [.i 0, .i 0])]⟩ rfl ⟨(fun _ => (w_impl_IsValidRat a2 a3 v2 hk3)), hd2, (fun _ => (w_impl_IsValidRat a0 a1 v1 hk1)), trivial⟩ rfl ?_
    rcases bif_some h with ⟨hd4, h⟩ | ⟨hd4, h⟩
    · refine Tri.u 2 [.g true] [.keep [4, 5] [4]] [.code [(1, 0), (1, 0)] 1, .code [] 2] ⟨[(4, .ptr 4 0), (5, .bool false)], [(4, .box [.i 0, .i 0])]⟩ rfl ⟨hd4, trivial⟩ rfl ?_
      cases h
      exact Tri.ret rfl ⟨.inl rfl, rfl, rfl⟩
    · obtain ⟨⟨v3, v4, v5⟩, hk5, h⟩ := bind_some h
      refine Tri.u 2 [.g false, .r ⟨[], .tuple [.agg [.i v3, .i v4], .bool v5], []⟩] [.keep [4, 5] [4]] [.code [] 3] ⟨[(4, .ptr 4 0), (5, .bool v5)], [(4, .box [.i v3, .i v4])]⟩ rfl ⟨(fun _ => (w_impl_RatOf (IntKind.i64.wrap ((IntKind.i64.wrap (a0 * a3)) + (IntKind.i64.wrap (a2 * a1)))) (IntKind.i64.wrap (a1 * a3)) (v3, v4, v5) hk5)), hd4, trivial⟩ rfl ?_
      cases h
      exact Tri.ret rfl ⟨.inl rfl, rfl, rfl⟩
/-! impl.ShareOf -/
noncomputable def E31_impl_ShareOf : Env := ⟨Try.prog, tys, (Try.f31.body).getD .skip, 43, tysOk, mixedOk⟩
abbrev q_impl_ShareOf (r : Int × Int × Bool) (σ' : ASt) : Prop := isRes E31_impl_ShareOf.T Try.f31 (.tuple [.agg [.i r.1, .i r.2.1], .bool r.2.2]) [] σ'
noncomputable def l_impl_ShareOf_0 (a0 : List Q) (v4 : List Int) : (Int × Int × Int) → Option ((Int × Int × Int) ⊕ ((Int × Int) ⊕ ((Int × Int × Bool))))
  | (v5, v6, v7) => (
bif decide (v5 < (v4.length : Int)) then
(grd ((0 : Int) ≤ v5 ∧ v5 < (v4.length : Int)) <|
bif decide ((v4.getD v5.toNat 0) ≥ (a0.length : Int)) then
(some (.inr (.inr (0, 0, false))))
else
(grd ((0 : Int) ≤ v4.getD v5.toNat 0 ∧ v4.getD v5.toNat 0 < (a0.length : Int)) <|
(m_impl_AddRat v6 v7 ((a0.getD ((v4.getD v5.toNat 0).toNat) ⟨0, 0⟩).num) ((a0.getD ((v4.getD v5.toNat 0).toNat) ⟨0, 0⟩).den)).bind fun (v8, v9, v10) =>
bif !v10 then
(some (.inr (.inr (0, 0, false))))
else
(some (.inl (IntKind.i64.wrap (v5 + (1 : Int)), v8, v9)))))
else
(some (.inr (.inl (v6, v7)))))
noncomputable def m_impl_ShareOf (a0 : List Q) (a1 : Int) : Option (Int × Int × Bool) :=
(m_impl_within a1 (0 : Int) (31 : Int)).bind fun v1 =>
bif !v1 then
(some (0, 0, false))
else
((m_impl_whole (0 : Int)).bind fun (v2, v3) =>
(m_impl_MembersOf a1).bind fun v4 =>
(iter (l_impl_ShareOf_0 a0 v4) ((0 : Int), v2, v3)).bind fun
| (.inl (v11, v12)) => (
some (v11, v12, true))
| (.inr r) => some r)
theorem w_impl_ShareOf (a0 : List Q) (a1 : Int) (r : Int × Int × Bool) (h : m_impl_ShareOf a0 a1 = some r) : AM.Spec Try.prog 31 [.list (.rats a0), .i a1] [] (.tuple [.agg [.i r.1, .i r.2.1], .bool r.2.2]) [] := by
  refine spec_of (E := E31_impl_ShareOf) Try.func31 rfl rfl rfl rfl ?_
  refine Tri.u 1 [] [.keep [0, 1, 4] [4]] [.code [(1, 0), (0, 0)] 0, .code [(1, 0)] 1, .code [] 2] ⟨[(0, .list (.rats a0)), (1, .i a1), (4, .ptr 4 0)], [(4, .box [.i 0, .i 0])]⟩ rfl trivial rfl ?_
  obtain ⟨v1, hk1, h⟩ := bind_some h
  refine Tri.u 1 [.r ⟨[], .bool v1, []⟩] [.keep [0, 1, 4, 13] [4]] [.code [(1, 0)] 1, .code [] 2] ⟨[(0, .list (.rats a0)), (1, .i a1), (4, .ptr 4 0), (13, .bool (!v1))], [(4, .box [.i 0, .i 0])]⟩ rfl ⟨(fun _ => (w_impl_within a1 (0 : Int) (31 : Int) v1 hk1)), trivial⟩ rfl ?_
  rcases bif_some h with ⟨hd2, h⟩ | ⟨hd2, h⟩
  · refine Tri.u 2 [.g true] [.keep [4, 5] [4]] [.code [(1, 0), (1, 0)] 1, .code [] 2] ⟨[(4, .ptr 4 0), (5, .bool false)], [(4, .box [.i 0, .i 0])]⟩ rfl ⟨hd2, trivial⟩ rfl ?_
    cases h
    exact Tri.ret rfl ⟨.inl rfl, rfl, rfl⟩
  · obtain ⟨⟨v2, v3⟩, hk3, h⟩ := bind_some h
    refine Tri.u 2 [.g false, .r ⟨[], .agg [.i v2, .i v3], []⟩] [.keep [0, 1, 4, 6] [4, 6]] [.code [(3, 0), (0, 0)] 0, .code [(3, 0)] 1, .code [] 4] ⟨[(0, .list (.rats a0)), (1, .i a1), (4, .ptr 4 0), (6, .ptr 6 0)], [(4, .box [.i 0, .i 0]), (6, .box [.i v2, .i v3])]⟩ rfl ⟨(fun _ => (w_impl_whole (0 : Int) (v2, v3) hk3)), hd2, trivial⟩ rfl ?_
    obtain ⟨v4, hk4, h⟩ := bind_some h
    refine Tri.u 1 [.r ⟨[], .sl 1100 0, [(1100, .arr 3 0 0 (.ints v4))]⟩] [.keep [0, 4, 6, 17, 18, 19] [4, 6, 1100]] [.code [(3, 0), (1, 0)] 0, .blk 0, .code [] 4] ⟨[(0, .list (.rats a0)), (4, .ptr 4 0), (6, .ptr 6 0), (17, .sl 1100 0), (18, .i (v4.length : Int)), (19, .i (0 : Int))], [(4, .box [.i 0, .i 0]), (6, .box [.i v2, .i v3]), (1100, .arr 3 0 0 (.ints v4))]⟩ rfl ⟨(fun _ => ((w_impl_MembersOf a1 v4 hk4).swap 1000 1100)), trivial⟩ rfl ?_
    obtain ⟨x1, hk11, h⟩ := bind_some h
    refine Tri.loop (K1 := [.code [(3, 0), (1, 0), (0, 0)] 0]) (K2 := [.blk 0, .code [] 4]) (fun (v5, v6, v7) => ⟨[(0, .list (.rats a0)), (4, .ptr 4 0), (6, .ptr 6 0), (17, .sl 1100 0), (18, .i (v4.length : Int)), (19, .i v5)], [(4, .box [.i 0, .i 0]), (6, .box [.i v6, .i v7]), (1100, .arr 3 0 0 (.ints v4))]⟩) (fun x e σ' => match x with | (.inl (v11, v12)) => e = .exit 0 ∧ σ' = ⟨[(4, .ptr 4 0), (6, .ptr 6 0)], [(4, .box [.i 0, .i 0]), (6, .box [.i v11, .i v12])]⟩ | (.inr r) => e = .ret ∧ q_impl_ShareOf r σ') hk11 rfl rfl ?_ ?_
    · intro s x hs
      clear h
      have h := hs
      clear hs
      obtain ⟨v5, v6, v7⟩ := s
      refine Tri.u 1 [] [.keep [0, 4, 6, 17, 18, 19, 20] [4, 6, 1100]] [.code [(3, 0), (1, 0), (0, 0), (1, 0)] 0, .code [(3, 0), (1, 0), (0, 0)] 2] ⟨[(0, .list (.rats a0)), (4, .ptr 4 0), (6, .ptr 6 0), (17, .sl 1100 0), (18, .i (v4.length : Int)), (19, .i v5), (20, .bool (decide (v5 < (v4.length : Int))))], [(4, .box [.i 0, .i 0]), (6, .box [.i v6, .i v7]), (1100, .arr 3 0 0 (.ints v4))]⟩ rfl trivial rfl ?_
      rcases bif_some h with ⟨hd5, h⟩ | ⟨hd5, h⟩
      · obtain ⟨hg6, h⟩ := grd_some h
        refine Tri.u 3 [.g true] [.keep [0, 4, 6, 8, 17, 18, 19, 26] [4, 6, 1100]] [.code [(3, 0), (1, 0), (0, 0), (2, 0), (0, 0), (1, 0)] 1, .code [(3, 0), (1, 0), (0, 0), (2, 0), (0, 0)] 2, .blk 1, .code [(3, 0), (1, 0), (0, 0)] 3] ⟨[(0, .list (.rats a0)), (4, .ptr 4 0), (6, .ptr 6 0), (8, .i (v4.getD v5.toNat 0)), (17, .sl 1100 0), (18, .i (v4.length : Int)), (19, .i v5), (26, .bool (decide ((v4.getD v5.toNat 0) ≥ (a0.length : Int))))], [(4, .box [.i 0, .i 0]), (6, .box [.i v6, .i v7]), (1100, .arr 3 0 0 (.ints v4))]⟩ rfl ⟨hg6, hd5, trivial⟩ rfl ?_
        rcases bif_some h with ⟨hd7, h⟩ | ⟨hd7, h⟩
        · refine Tri.u 2 [.g true] [.keep [4, 5] [4]] [.code [(3, 0), (1, 0), (0, 0), (2, 0), (0, 0), (1, 0), (1, 0)] 1, .code [(3, 0), (1, 0), (0, 0), (2, 0), (0, 0)] 2, .blk 1, .code [(3, 0), (1, 0), (0, 0)] 3] ⟨[(4, .ptr 4 0), (5, .bool false)], [(4, .box [.i 0, .i 0])]⟩ rfl ⟨hd7, trivial⟩ rfl ?_
          cases h
          exact Tri.ret rfl ⟨nofun, rfl, rfl, rfl⟩
        · obtain ⟨hg8, h⟩ := grd_some h
          obtain ⟨⟨v8, v9, v10⟩, hk9, h⟩ := bind_some h
          refine Tri.u 3 [.g false, .r ⟨[], .tuple [.agg [.i v8, .i v9], .bool v10], []⟩] [.keep [0, 4, 6, 9, 17, 18, 19, 38] [4, 6, 9, 1100]] [.code [(3, 0), (1, 0), (0, 0), (2, 0), (0, 0), (3, 0)] 1, .code [(3, 0), (1, 0), (0, 0), (2, 0), (0, 0)] 4, .blk 1, .code [(3, 0), (1, 0), (0, 0)] 3] ⟨[(0, .list (.rats a0)), (4, .ptr 4 0), (6, .ptr 6 0), (9, .ptr 9 0), (17, .sl 1100 0), (18, .i (v4.length : Int)), (19, .i v5), (38, .bool (!v10))], [(4, .box [.i 0, .i 0]), (6, .box [.i v6, .i v7]), (9, .box [.i v8, .i v9]), (1100, .arr 3 0 0 (.ints v4))]⟩ rfl ⟨(fun _ => (w_impl_AddRat v6 v7 ((a0.getD ((v4.getD v5.toNat 0).toNat) ⟨0, 0⟩).num) ((a0.getD ((v4.getD v5.toNat 0).toNat) ⟨0, 0⟩).den) (v8, v9, v10) hk9)), hg8, hd7, trivial⟩ rfl ?_
          rcases bif_some h with ⟨hd10, h⟩ | ⟨hd10, h⟩
          · refine Tri.u 2 [.g true] [.keep [4, 5] [4]] [.code [(3, 0), (1, 0), (0, 0), (2, 0), (0, 0), (3, 0), (1, 0)] 1, .code [(3, 0), (1, 0), (0, 0), (2, 0), (0, 0)] 4, .blk 1, .code [(3, 0), (1, 0), (0, 0)] 3] ⟨[(4, .ptr 4 0), (5, .bool false)], [(4, .box [.i 0, .i 0])]⟩ rfl ⟨hd10, trivial⟩ rfl ?_
            cases h
            exact Tri.ret rfl ⟨nofun, rfl, rfl, rfl⟩
          · refine Tri.u 3 [.g false] [.keep [0, 4, 6, 17, 18, 19] [4, 6, 1100]] [] ⟨[(0, .list (.rats a0)), (4, .ptr 4 0), (6, .ptr 6 0), (17, .sl 1100 0), (18, .i (v4.length : Int)), (19, .i (IntKind.i64.wrap (v5 + (1 : Int))))], [(4, .box [.i 0, .i 0]), (6, .box [.i v8, .i v9]), (1100, .arr 3 0 0 (.ints v4))]⟩ rfl ⟨hd10, trivial⟩ rfl ?_
            cases h
            exact Tri.nil ⟨rfl, rfl⟩
      · refine Tri.u 1 [.g false] [.keep [4, 6] [4, 6]] [.code [(3, 0), (1, 0), (0, 0), (1, 0), (0, 1)] 0, .code [(3, 0), (1, 0), (0, 0)] 2] ⟨[(4, .ptr 4 0), (6, .ptr 6 0)], [(4, .box [.i 0, .i 0]), (6, .box [.i v6, .i v7])]⟩ rfl ⟨hd5, trivial⟩ rfl ?_
        cases h
        exact Tri.out 0 rfl ⟨nofun, rfl, rfl⟩
    · intro e σ' hne hq
      rcases x1 with ⟨v11, v12⟩ | r
      · obtain ⟨rfl, rfl⟩ := hq
        refine TriX.exit (K' := [.code [] 4]) rfl ?_
        refine Tri.u 1 [] [.keep [4, 5] [4]] [.code [] 5] ⟨[(4, .ptr 4 0), (5, .bool true)], [(4, .box [.i v11, .i v12])]⟩ rfl trivial rfl ?_
        cases h
        exact Tri.ret rfl ⟨.inl rfl, rfl, rfl⟩
      · obtain ⟨rfl, hq⟩ := hq
        cases h
        exact TriX.ret ⟨.inl rfl, hq⟩
/-! impl.GrandValue -/
noncomputable def E56_impl_GrandValue : Env := ⟨Try.prog, tys, (Try.f56.body).getD .skip, 14, tysOk, mixedOk⟩
abbrev q_impl_GrandValue (r : Int) (σ' : ASt) : Prop := isRes E56_impl_GrandValue.T Try.f56 (.i r) [] σ'
noncomputable def m_impl_GrandValue (a0 : Int) (a1 : List Int) : Option Int :=
(m_impl_IsValidGame a0 a1).bind fun v1 =>
bif !v1 then
(some (0 : Int))
else
(grd ((0 : Int) ≤ IntKind.i64.wrap ((a1.length : Int) - (1 : Int)) ∧ IntKind.i64.wrap ((a1.length : Int) - (1 : Int)) < (a1.length : Int)) <|
some (a1.getD ((IntKind.i64.wrap ((a1.length : Int) - (1 : Int))).toNat) 0))
theorem w_impl_GrandValue (a0 : Int) (a1 : List Int) (r : Int) (h : m_impl_GrandValue a0 a1 = some r) : AM.Spec Try.prog 56 [.agg [.i a0, .list (.ints a1)]] [] (.i r) [] := by
  refine spec_of (E := E56_impl_GrandValue) Try.func56 rfl rfl rfl rfl ?_
  refine Tri.u 1 [] [.keep [1] [1]] [.code [(1, 0), (0, 0)] 0, .code [(1, 0)] 1, .code [] 2] ⟨[(1, .ptr 1 0)], [(1, .box [.i a0, .list (.ints a1)])]⟩ rfl trivial rfl ?_
  obtain ⟨v1, hk1, h⟩ := bind_some h
  refine Tri.u 1 [.r ⟨[], .bool v1, []⟩] [.keep [1, 5] [1]] [.code [(1, 0)] 1, .code [] 2] ⟨[(1, .ptr 1 0), (5, .bool (!v1))], [(1, .box [.i a0, .list (.ints a1)])]⟩ rfl ⟨(fun _ => (w_impl_IsValidGame a0 a1 v1 hk1)), trivial⟩ rfl ?_
  rcases bif_some h with ⟨hd2, h⟩ | ⟨hd2, h⟩
  · refine Tri.u 2 [.g true] [.keep [2] []] [.code [(1, 0), (1, 0)] 1, .code [] 2] ⟨[(2, .i (0 : Int))], []⟩ rfl ⟨hd2, trivial⟩ rfl ?_
    cases h
    exact Tri.ret rfl ⟨.inl rfl, rfl, rfl⟩
  · obtain ⟨hg3, h⟩ := grd_some h
    refine Tri.u 2 [.g false] [.keep [2] []] [.code [] 3] ⟨[(2, .i (a1.getD ((IntKind.i64.wrap ((a1.length : Int) - (1 : Int))).toNat) 0))], []⟩ rfl ⟨hg3, hd2, trivial⟩ rfl ?_
    cases h
    exact Tri.ret rfl ⟨.inl rfl, rfl, rfl⟩
/-! impl.IsPayoff -/
noncomputable def E24_impl_IsPayoff : Env := ⟨Try.prog, tys, (Try.f24.body).getD .skip, 39, tysOk, mixedOk⟩
abbrev q_impl_IsPayoff (r : Bool) (σ' : ASt) : Prop := isRes E24_impl_IsPayoff.T Try.f24 (.bool r) [] σ'
noncomputable def m_impl_IsPayoff (a0 : Int) (a1 : List Int) (a2 : List Q) : Option Bool :=
(m_impl_IsValidGame a0 a1).bind fun v1 =>
bif !v1 then
(some false)
else
(bif (a2.length : Int) != a0 then
(some false)
else
((m_impl_AllValid a2).bind fun v2 =>
bif !v2 then
(some false)
else
((m_impl_ShareOf a2 (IntKind.i64.wrap ((a1.length : Int) - (1 : Int)))).bind fun (v3, v4, v5) =>
bif v5 then
((m_impl_GrandValue a0 a1).bind fun v6 =>
(m_impl_whole v6).bind fun (v7, v8) =>
some (v3 == v7 && v4 == v8))
else
(some false))))
theorem w_impl_IsPayoff (a0 : Int) (a1 : List Int) (a2 : List Q) (r : Bool) (h : m_impl_IsPayoff a0 a1 a2 = some r) : AM.Spec Try.prog 24 [.agg [.i a0, .list (.ints a1)], .list (.rats a2)] [] (.bool r) [] := by
  refine spec_of (E := E24_impl_IsPayoff) Try.func24 rfl rfl rfl rfl ?_
  refine Tri.u 1 [] [.keep [1, 2] [2]] [.code [(1, 0), (0, 0)] 0, .code [(1, 0)] 1, .code [] 2] ⟨[(1, .list (.rats a2)), (2, .ptr 2 0)], [(2, .box [.i a0, .list (.ints a1)])]⟩ rfl trivial rfl ?_
  obtain ⟨v1, hk1, h⟩ := bind_some h
  rcases bif_some h with ⟨hd2, h⟩ | ⟨hd2, h⟩
  · refine Tri.u 1 [.r ⟨[], .bool v1, []⟩, .g true, .g true] [.keep [1, 2, 21] [2]] [.code [(1, 0)] 1, .code [] 2] ⟨[(1, .list (.rats a2)), (2, .ptr 2 0), (21, .bool true)], [(2, .box [.i a0, .list (.ints a1)])]⟩ rfl ⟨rfl, hd2, (fun _ => (w_impl_IsValidGame a0 a1 v1 hk1)), trivial⟩ rfl ?_
    refine Tri.u 2 [.g true] [.keep [4] []] [.code [(1, 0), (1, 0)] 1, .code [] 2] ⟨[(4, .bool false)], []⟩ rfl ⟨rfl, trivial⟩ rfl ?_
    cases h
    exact Tri.ret rfl ⟨.inl rfl, rfl, rfl⟩
  · rcases bif_some h with ⟨hd3, h⟩ | ⟨hd3, h⟩
    · refine Tri.u 1 [.r ⟨[], .bool v1, []⟩, .g false, .g true] [.keep [1, 2, 21] [2]] [.code [(1, 0)] 1, .code [] 2] ⟨[(1, .list (.rats a2)), (2, .ptr 2 0), (21, .bool true)], [(2, .box [.i a0, .list (.ints a1)])]⟩ rfl ⟨hd3, hd2, (fun _ => (w_impl_IsValidGame a0 a1 v1 hk1)), trivial⟩ rfl ?_
      refine Tri.u 2 [.g true] [.keep [4] []] [.code [(1, 0), (1, 0)] 1, .code [] 2] ⟨[(4, .bool false)], []⟩ rfl ⟨rfl, trivial⟩ rfl ?_
      cases h
      exact Tri.ret rfl ⟨.inl rfl, rfl, rfl⟩
    · obtain ⟨v2, hk4, h⟩ := bind_some h
      refine Tri.u 1 [.r ⟨[], .bool v1, []⟩, .g false, .g false, .r ⟨[], .bool v2, []⟩] [.keep [1, 2, 21] [2]] [.code [(1, 0)] 1, .code [] 2] ⟨[(1, .list (.rats a2)), (2, .ptr 2 0), (21, .bool (!v2))], [(2, .box [.i a0, .list (.ints a1)])]⟩ rfl ⟨(fun _ => (w_impl_AllValid a2 v2 hk4)), hd3, hd2, (fun _ => (w_impl_IsValidGame a0 a1 v1 hk1)), trivial⟩ rfl ?_
      rcases bif_some h with ⟨hd5, h⟩ | ⟨hd5, h⟩
      · refine Tri.u 2 [.g true] [.keep [4] []] [.code [(1, 0), (1, 0)] 1, .code [] 2] ⟨[(4, .bool false)], []⟩ rfl ⟨hd5, trivial⟩ rfl ?_
        cases h
        exact Tri.ret rfl ⟨.inl rfl, rfl, rfl⟩
      · obtain ⟨⟨v3, v4, v5⟩, hk6, h⟩ := bind_some h
        refine Tri.u 2 [.g false, .r ⟨[], .tuple [.agg [.i v3, .i v4], .bool v5], []⟩] [.keep [2, 5, 6] [2, 5]] [.code [(3, 0)] 0, .code [] 4] ⟨[(2, .ptr 2 0), (5, .ptr 5 0), (6, .bool v5)], [(2, .box [.i a0, .list (.ints a1)]), (5, .box [.i v3, .i v4])]⟩ rfl ⟨(fun _ => (w_impl_ShareOf a2 (IntKind.i64.wrap ((a1.length : Int) - (1 : Int))) (v3, v4, v5) hk6)), hd5, trivial⟩ rfl ?_
        rcases bif_some h with ⟨hd7, h⟩ | ⟨hd7, h⟩
        · obtain ⟨v6, hk8, h⟩ := bind_some h
          obtain ⟨⟨v7, v8⟩, hk9, h⟩ := bind_some h
          refine Tri.u 1 [.g true, .r ⟨[], .i v6, []⟩, .r ⟨[], .agg [.i v7, .i v8], []⟩] [.keep [4] []] [.code [] 4] ⟨[(4, .bool (v3 == v7 && v4 == v8))], []⟩ rfl ⟨(fun _ => (w_impl_whole v6 (v7, v8) hk9)), (fun _ => (w_impl_GrandValue a0 a1 v6 hk8)), hd7, trivial⟩ rfl ?_
          cases h
          exact Tri.ret rfl ⟨.inl rfl, rfl, rfl⟩
        · refine Tri.u 1 [.g false] [.keep [4] []] [.code [] 4] ⟨[(4, .bool false)], []⟩ rfl ⟨hd7, trivial⟩ rfl ?_
          cases h
          exact Tri.ret rfl ⟨.inl rfl, rfl, rfl⟩
/-! impl.SubRat -/
noncomputable def E74_impl_SubRat : Env := ⟨Try.prog, tys, (Try.f74.body).getD .skip, 34, tysOk, mixedOk⟩
abbrev q_impl_SubRat (r : Int × Int × Bool) (σ' : ASt) : Prop := isRes E74_impl_SubRat.T Try.f74 (.tuple [.agg [.i r.1, .i r.2.1], .bool r.2.2]) [] σ'
noncomputable def m_impl_SubRat (a0 : Int) (a1 : Int) (a2 : Int) (a3 : Int) : Option (Int × Int × Bool) :=
(m_impl_IsValidRat a0 a1).bind fun v1 =>
bif !v1 then
(some (0, 0, false))
else
((m_impl_IsValidRat a2 a3).bind fun v2 =>
bif !v2 then
(some (0, 0, false))
else
((m_impl_RatOf (IntKind.i64.wrap ((IntKind.i64.wrap (a0 * a3)) - (IntKind.i64.wrap (a2 * a1)))) (IntKind.i64.wrap (a1 * a3))).bind fun (v3, v4, v5) =>
some (v3, v4, v5)))
theorem w_impl_SubRat (a0 : Int) (a1 : Int) (a2 : Int) (a3 : Int) (r : Int × Int × Bool) (h : m_impl_SubRat a0 a1 a2 a3 = some r) : AM.Spec Try.prog 74 [.agg [.i a0, .i a1], .agg [.i a2, .i a3]] [] (.tuple [.agg [.i r.1, .i r.2.1], .bool r.2.2]) [] := by
  refine spec_of (E := E74_impl_SubRat) Try.func74 rfl rfl rfl rfl ?_
  refine Tri.u 1 [] [.keep [2, 3, 4] [2, 3, 4]] [.code [(1, 0), (0, 0)] 0, .code [(1, 0)] 1, .code [] 2] ⟨[(2, .ptr 2 0), (3, .ptr 3 0), (4, .ptr 4 0)], [(2, .box [.i a0, .i a1]), (3, .box [.i a2, .i a3]), (4, .box [.i 0, .i 0])]⟩ rfl trivial rfl ?_
  obtain ⟨v1, hk1, h⟩ := bind_some h
  rcases bif_some h with ⟨hd2, h⟩ | ⟨hd2, h⟩
  · refine Tri.u 1 [.r ⟨[], .bool v1, []⟩, .g true] [.keep [2, 3, 4, 13] [2, 3, 4]] [.code [(1, 0)] 1, .code [] 2] ⟨[(2, .ptr 2 0), (3, .ptr 3 0), (4, .ptr 4 0), (13, .bool true)], [(2, .box [.i a0, .i a1]), (3, .box [.i a2, .i a3]), (4, .box [.i 0, .i 0])]⟩ rfl ⟨hd2, (fun _ => (w_impl_IsValidRat a0 a1 v1 hk1)), trivial⟩ rfl ?_
    refine Tri.u 2 [.g true] [.keep [4, 5] [4]] [.code [(1, 0), (1, 0)] 1, .code [] 2] ⟨[(4, .ptr 4 0), (5, .bool false)], [(4, .box [.i 0, .i 0])]⟩ rfl ⟨rfl, trivial⟩ rfl ?_
    cases h
    exact Tri.ret rfl ⟨.inl rfl, rfl, rfl⟩
  · obtain ⟨v2, hk3, h⟩ := bind_some h
    refine Tri.u 1 [.r ⟨[], .bool v1, []⟩, .g false, .r ⟨[], .bool v2, []⟩] [.keep [2, 3, 4, 13] [2, 3, 4]] [.code [(1, 0)] 1, .code [] 2] ⟨[(2, .ptr 2 0), (3, .ptr 3 0), (4, .ptr 4 0), (13, .bool (!v2))], [(2, .box [.i a0, .i a1]), (3, .box [.i a2, .i a3]), (4, .box [.i 0, .i 0])]⟩ rfl ⟨(fun _ => (w_impl_IsValidRat a2 a3 v2 hk3)), hd2, (fun _ => (w_impl_IsValidRat a0 a1 v1 hk1)), trivial⟩ rfl ?_
    rcases bif_some h with ⟨hd4, h⟩ | ⟨hd4, h⟩
    · refine Tri.u 2 [.g true] [.keep [4, 5] [4]] [.code [(1, 0), (1, 0)] 1, .code [] 2] ⟨[(4, .ptr 4 0), (5, .bool false)], [(4, .box [.i 0, .i 0])]⟩ rfl ⟨hd4, trivial⟩ rfl ?_
      cases h
      exact Tri.ret rfl ⟨.inl rfl, rfl, rfl⟩
    · obtain ⟨⟨v3, v4, v5⟩, hk5, h⟩ := bind_some h
      refine Tri.u 2 [.g false, .r ⟨[], .tuple [.agg [.i v3, .i v4], .bool v5], []⟩] [.keep [4, 5] [4]] [.code [] 3] ⟨[(4, .ptr 4 0), (5, .bool v5)], [(4, .box [.i v3, .i v4])]⟩ rfl ⟨(fun _ => (w_impl_RatOf (IntKind.i64.wrap ((IntKind.i64.wrap (a0 * a3)) - (IntKind.i64.wrap (a2 * a1)))) (IntKind.i64.wrap (a1 * a3)) (v3, v4, v5) hk5)), hd4, trivial⟩ rfl ?_
      cases h
      exact Tri.ret rfl ⟨.inl rfl, rfl, rfl⟩
/-! impl.ExcessOf -/
noncomputable def E34_impl_ExcessOf : Env := ⟨Try.prog, tys, (Try.f34.body).getD .skip, 42, tysOk, mixedOk⟩
abbrev q_impl_ExcessOf (r : Int × Int × Bool) (σ' : ASt) : Prop := isRes E34_impl_ExcessOf.T Try.f34 (.tuple [.agg [.i r.1, .i r.2.1], .bool r.2.2]) [] σ'
noncomputable def m_impl_ExcessOf (a0 : Int) (a1 : List Int) (a2 : List Q) (a3 : Int) : Option (Int × Int × Bool) :=
(m_impl_IsValidGame a0 a1).bind fun v1 =>
bif !v1 then
(some (0, 0, false))
else
((m_impl_within a3 (0 : Int) (IntKind.i64.wrap ((a1.length : Int) - (1 : Int)))).bind fun v2 =>
bif !v2 then
(some (0, 0, false))
else
((m_impl_ShareOf a2 a3).bind fun (v3, v4, v5) =>
bif !v5 then
(some (0, 0, false))
else
(grd ((0 : Int) ≤ a3 ∧ a3 < (a1.length : Int)) <|
(m_impl_whole (a1.getD a3.toNat 0)).bind fun (v6, v7) =>
(m_impl_SubRat v6 v7 v3 v4).bind fun (v8, v9, v10) =>
some (v8, v9, v10))))
theorem w_impl_ExcessOf (a0 : Int) (a1 : List Int) (a2 : List Q) (a3 : Int) (r : Int × Int × Bool) (h : m_impl_ExcessOf a0 a1 a2 a3 = some r) : AM.Spec Try.prog 34 [.agg [.i a0, .list (.ints a1)], .list (.rats a2), .i a3] [] (.tuple [.agg [.i r.1, .i r.2.1], .bool r.2.2]) [] := by
  refine spec_of (E := E34_impl_ExcessOf) Try.func34 rfl rfl rfl rfl ?_
  refine Tri.u 1 [] [.keep [1, 2, 3, 6] [3, 6]] [.code [(1, 0), (0, 0)] 0, .code [(1, 0)] 1, .code [] 2] ⟨[(1, .list (.rats a2)), (2, .i a3), (3, .ptr 3 0), (6, .ptr 6 0)], [(3, .box [.i a0, .list (.ints a1)]), (6, .box [.i 0, .i 0])]⟩ rfl trivial rfl ?_
  obtain ⟨v1, hk1, h⟩ := bind_some h
  rcases bif_some h with ⟨hd2, h⟩ | ⟨hd2, h⟩
  · refine Tri.u 1 [.r ⟨[], .bool v1, []⟩, .g true] [.keep [1, 2, 3, 6, 21] [3, 6]] [.code [(1, 0)] 1, .code [] 2] ⟨[(1, .list (.rats a2)), (2, .i a3), (3, .ptr 3 0), (6, .ptr 6 0), (21, .bool true)], [(3, .box [.i a0, .list (.ints a1)]), (6, .box [.i 0, .i 0])]⟩ rfl ⟨hd2, (fun _ => (w_impl_IsValidGame a0 a1 v1 hk1)), trivial⟩ rfl ?_
    refine Tri.u 2 [.g true] [.keep [6, 7] [6]] [.code [(1, 0), (1, 0)] 1, .code [] 2] ⟨[(6, .ptr 6 0), (7, .bool false)], [(6, .box [.i 0, .i 0])]⟩ rfl ⟨rfl, trivial⟩ rfl ?_
    cases h
    exact Tri.ret rfl ⟨.inl rfl, rfl, rfl⟩
  · obtain ⟨v2, hk3, h⟩ := bind_some h
    refine Tri.u 1 [.r ⟨[], .bool v1, []⟩, .g false, .r ⟨[], .bool v2, []⟩] [.keep [1, 2, 3, 6, 21] [3, 6]] [.code [(1, 0)] 1, .code [] 2] ⟨[(1, .list (.rats a2)), (2, .i a3), (3, .ptr 3 0), (6, .ptr 6 0), (21, .bool (!v2))], [(3, .box [.i a0, .list (.ints a1)]), (6, .box [.i 0, .i 0])]⟩ rfl ⟨(fun _ => (w_impl_within a3 (0 : Int) (IntKind.i64.wrap ((a1.length : Int) - (1 : Int))) v2 hk3)), hd2, (fun _ => (w_impl_IsValidGame a0 a1 v1 hk1)), trivial⟩ rfl ?_
    rcases bif_some h with ⟨hd4, h⟩ | ⟨hd4, h⟩
    · refine Tri.u 2 [.g true] [.keep [6, 7] [6]] [.code [(1, 0), (1, 0)] 1, .code [] 2] ⟨[(6, .ptr 6 0), (7, .bool false)], [(6, .box [.i 0, .i 0])]⟩ rfl ⟨hd4, trivial⟩ rfl ?_
      cases h
      exact Tri.ret rfl ⟨.inl rfl, rfl, rfl⟩
    · obtain ⟨⟨v3, v4, v5⟩, hk5, h⟩ := bind_some h
      refine Tri.u 3 [.g false, .r ⟨[], .tuple [.agg [.i v3, .i v4], .bool v5], []⟩] [.keep [2, 3, 6, 8, 30] [3, 6, 8]] [.code [(3, 0)] 1, .code [] 4] ⟨[(2, .i a3), (3, .ptr 3 0), (6, .ptr 6 0), (8, .ptr 8 0), (30, .bool (!v5))], [(3, .box [.i a0, .list (.ints a1)]), (6, .box [.i 0, .i 0]), (8, .box [.i v3, .i v4])]⟩ rfl ⟨(fun _ => (w_impl_ShareOf a2 a3 (v3, v4, v5) hk5)), hd4, trivial⟩ rfl ?_
      rcases bif_some h with ⟨hd6, h⟩ | ⟨hd6, h⟩
      · refine Tri.u 2 [.g true] [.keep [6, 7] [6]] [.code [(3, 0), (1, 0)] 1, .code [] 4] ⟨[(6, .ptr 6 0), (7, .bool false)], [(6, .box [.i 0, .i 0])]⟩ rfl ⟨hd6, trivial⟩ rfl ?_
        cases h
        exact Tri.ret rfl ⟨.inl rfl, rfl, rfl⟩
      · obtain ⟨hg7, h⟩ := grd_some h
        obtain ⟨⟨v6, v7⟩, hk8, h⟩ := bind_some h
        obtain ⟨⟨v8, v9, v10⟩, hk9, h⟩ := bind_some h
        refine Tri.u 2 [.g false, .r ⟨[], .agg [.i v6, .i v7], []⟩, .r ⟨[], .tuple [.agg [.i v8, .i v9], .bool v10], []⟩] [.keep [6, 7] [6]] [.code [] 5] ⟨[(6, .ptr 6 0), (7, .bool v10)], [(6, .box [.i v8, .i v9])]⟩ rfl ⟨(fun _ => (w_impl_SubRat v6 v7 v3 v4 (v8, v9, v10) hk9)), (fun _ => (w_impl_whole (a1.getD a3.toNat 0) (v6, v7) hk8)), hg7, hd6, trivial⟩ rfl ?_
        cases h
        exact Tri.ret rfl ⟨.inl rfl, rfl, rfl⟩
/-! impl.excesses -/
noncomputable def E43_impl_excesses : Env := ⟨Try.prog, tys, (Try.f43.body).getD .skip, 39, tysOk, mixedOk⟩
abbrev q_impl_excesses (r : Bool × (List Q)) (σ' : ASt) : Prop := isRes E43_impl_excesses.T Try.f43 (.tuple [.sl 1000 0, .bool r.1]) [(1000, .arr 44 0 0 (.rats r.2))] σ'
noncomputable def l_impl_excesses_0 (a0 : Int) (a1 : List Int) (a2 : List Q) (a4 : Int) : (Int × (List Q)) → Option ((Int × (List Q)) ⊕ ((List Q) ⊕ ((Bool × (List Q)))))
  | (v2, v3) => (
bif decide (v2 ≤ a4) then
((m_impl_ExcessOf a0 a1 a2 v2).bind fun (v4, v5, v6) =>
bif !v6 then
(some (.inr (.inr (false, []))))
else
(grd (v3.length + ([⟨v4, v5⟩] : List Q).length ≤ room) <|
some (.inl (IntKind.i64.wrap (v2 + (1 : Int)), v3 ++ [⟨v4, v5⟩]))))
else
(some (.inr (.inl v3))))
noncomputable def m_impl_excesses (a0 : Int) (a1 : List Int) (a2 : List Q) (a3 : Int) (a4 : Int) : Option (Bool × (List Q)) :=
(m_impl_IsPayoff a0 a1 a2).bind fun v1 =>
bif !v1 then
(some (false, []))
else
((iter (l_impl_excesses_0 a0 a1 a2 a4) (a3, [])).bind fun
| (.inl v7) => (
some (true, v7))
| (.inr r) => some r)
theorem w_impl_excesses (a0 : Int) (a1 : List Int) (a2 : List Q) (a3 : Int) (a4 : Int) (r : Bool × (List Q)) (h : m_impl_excesses a0 a1 a2 a3 a4 = some r) : AM.Spec Try.prog 43 [.agg [.i a0, .list (.ints a1)], .list (.rats a2), .i a3, .i a4] [] (.tuple [.sl 1000 0, .bool r.1]) [(1000, .arr 44 0 0 (.rats r.2))] := by
  refine spec_of (E := E43_impl_excesses) Try.func43 rfl rfl rfl rfl ?_
  refine Tri.u 1 [] [.keep [1, 2, 3, 4] [4]] [.code [(1, 0), (0, 0)] 0, .code [(1, 0)] 1, .code [] 2] ⟨[(1, .list (.rats a2)), (2, .i a3), (3, .i a4), (4, .ptr 4 0)], [(4, .box [.i a0, .list (.ints a1)])]⟩ rfl trivial rfl ?_
  obtain ⟨v1, hk1, h⟩ := bind_some h
  refine Tri.u 1 [.r ⟨[], .bool v1, []⟩] [.keep [1, 2, 3, 4, 17] [4]] [.code [(1, 0)] 1, .code [] 2] ⟨[(1, .list (.rats a2)), (2, .i a3), (3, .i a4), (4, .ptr 4 0), (17, .bool (!v1))], [(4, .box [.i a0, .list (.ints a1)])]⟩ rfl ⟨(fun _ => (w_impl_IsPayoff a0 a1 a2 v1 hk1)), trivial⟩ rfl ?_
  rcases bif_some h with ⟨hd2, h⟩ | ⟨hd2, h⟩
  · refine Tri.u 2 [.g true] [.own 8 [] 1100 44, .swap 1100 1000, .keep [8, 9] [1000]] [.code [(1, 0), (1, 0)] 1, .code [] 2] ⟨[(8, .sl 1000 0), (9, .bool false)], [(1000, .arr 44 0 0 (.rats []))]⟩ rfl ⟨hd2, trivial⟩ rfl ?_
    cases h
    exact Tri.ret rfl ⟨.inl rfl, rfl, rfl⟩
  · refine Tri.u 3 [.g false] [.keep [1, 3, 4, 10, 11] [4, 18]] [.code [(3, 0), (1, 0)] 0, .blk 0, .code [] 4] ⟨[(1, .list (.rats a2)), (3, .i a4), (4, .ptr 4 0), (10, .sl 18 0), (11, .i a3)], [(4, .box [.i a0, .list (.ints a1)]), (18, .arr 44 0 0 (.rats []))]⟩ rfl ⟨hd2, trivial⟩ rfl ?_
    obtain ⟨x1, hk7, h⟩ := bind_some h
    refine Tri.loop (K1 := [.code [(3, 0), (1, 0), (0, 0)] 0]) (K2 := [.blk 0, .code [] 4]) (fun (v2, v3) => ⟨[(1, .list (.rats a2)), (3, .i a4), (4, .ptr 4 0), (10, .sl 18 0), (11, .i v2)], [(4, .box [.i a0, .list (.ints a1)]), (18, .arr 44 0 0 (.rats v3))]⟩) (fun x e σ' => match x with | (.inl v7) => e = .exit 0 ∧ σ' = ⟨[(10, .sl 18 0)], [(18, .arr 44 0 0 (.rats v7))]⟩ | (.inr r) => e = .ret ∧ q_impl_excesses r σ') hk7 rfl rfl ?_ ?_
    · intro s x hs
      clear h
      have h := hs
      clear hs
      obtain ⟨v2, v3⟩ := s
      refine Tri.u 1 [] [.keep [1, 3, 4, 10, 11, 22] [4, 18]] [.code [(3, 0), (1, 0), (0, 0), (0, 0)] 1, .code [(3, 0), (1, 0), (0, 0)] 1] ⟨[(1, .list (.rats a2)), (3, .i a4), (4, .ptr 4 0), (10, .sl 18 0), (11, .i v2), (22, .bool (decide (v2 ≤ a4)))], [(4, .box [.i a0, .list (.ints a1)]), (18, .arr 44 0 0 (.rats v3))]⟩ rfl trivial rfl ?_
      rcases bif_some h with ⟨hd3, h⟩ | ⟨hd3, h⟩
      · obtain ⟨⟨v4, v5, v6⟩, hk4, h⟩ := bind_some h
        refine Tri.u 3 [.g true, .r ⟨[], .tuple [.agg [.i v4, .i v5], .bool v6], []⟩] [.keep [1, 3, 4, 10, 11, 12, 33] [4, 12, 18]] [.code [(3, 0), (1, 0), (0, 0), (1, 0), (0, 0), (1, 0)] 1, .code [(3, 0), (1, 0), (0, 0), (1, 0), (0, 0)] 2, .blk 1, .code [(3, 0), (1, 0), (0, 0)] 2] ⟨[(1, .list (.rats a2)), (3, .i a4), (4, .ptr 4 0), (10, .sl 18 0), (11, .i v2), (12, .ptr 12 0), (33, .bool (!v6))], [(4, .box [.i a0, .list (.ints a1)]), (12, .box [.i v4, .i v5]), (18, .arr 44 0 0 (.rats v3))]⟩ rfl ⟨(fun _ => (w_impl_ExcessOf a0 a1 a2 v2 (v4, v5, v6) hk4)), hd3, trivial⟩ rfl ?_
        rcases bif_some h with ⟨hd5, h⟩ | ⟨hd5, h⟩
        · refine Tri.u 2 [.g true] [.own 8 [] 1101 44, .swap 1101 1000, .keep [8, 9] [1000]] [.code [(3, 0), (1, 0), (0, 0), (1, 0), (0, 0), (1, 0), (1, 0)] 1, .code [(3, 0), (1, 0), (0, 0), (1, 0), (0, 0)] 2, .blk 1, .code [(3, 0), (1, 0), (0, 0)] 2] ⟨[(8, .sl 1000 0), (9, .bool false)], [(1000, .arr 44 0 0 (.rats []))]⟩ rfl ⟨hd5, trivial⟩ rfl ?_
          cases h
          exact Tri.ret rfl ⟨nofun, rfl, rfl, rfl⟩
        · obtain ⟨hg6, h⟩ := grd_some h
          refine Tri.u 3 [.g false] [.rever 18, .keep [1, 3, 4, 10, 11] [4, 18]] [] ⟨[(1, .list (.rats a2)), (3, .i a4), (4, .ptr 4 0), (10, .sl 18 0), (11, .i (IntKind.i64.wrap (v2 + (1 : Int))))], [(4, .box [.i a0, .list (.ints a1)]), (18, .arr 44 0 0 (.rats (v3 ++ [⟨v4, v5⟩])))]⟩ rfl ⟨hg6, hd5, trivial⟩ rfl ?_
          cases h
          exact Tri.nil ⟨rfl, rfl⟩
      · refine Tri.u 1 [.g false] [.keep [10] [18]] [.code [(3, 0), (1, 0), (0, 0), (0, 0), (1, 1)] 0, .code [(3, 0), (1, 0), (0, 0)] 1] ⟨[(10, .sl 18 0)], [(18, .arr 44 0 0 (.rats v3))]⟩ rfl ⟨hd3, trivial⟩ rfl ?_
        cases h
        exact Tri.out 0 rfl ⟨nofun, rfl, rfl⟩
    · intro e σ' hne hq
      rcases x1 with v7 | r
      · obtain ⟨rfl, rfl⟩ := hq
        refine TriX.exit (K' := [.code [] 4]) rfl ?_
        refine Tri.u 1 [] [.swap 18 1000, .keep [8, 9] [1000]] [.code [] 5] ⟨[(8, .sl 1000 0), (9, .bool true)], [(1000, .arr 44 0 0 (.rats v7))]⟩ rfl trivial rfl ?_
        cases h
        exact Tri.ret rfl ⟨.inl rfl, rfl, rfl⟩
      · obtain ⟨rfl, hq⟩ := hq
        cases h
        exact TriX.ret ⟨.inl rfl, hq⟩
/-! impl.CompareRat -/
noncomputable def E28_impl_CompareRat : Env := ⟨Try.prog, tys, (Try.f28.body).getD .skip, 33, tysOk, mixedOk⟩
abbrev q_impl_CompareRat (r : Int) (σ' : ASt) : Prop := isRes E28_impl_CompareRat.T Try.f28 (.i r) [] σ'
noncomputable def m_impl_CompareRat (a0 : Int) (a1 : Int) (a2 : Int) (a3 : Int) : Option Int :=
(m_impl_IsValidRat a0 a1).bind fun v1 =>
bif !v1 then
(some (0 : Int))
else
((m_impl_IsValidRat a2 a3).bind fun v2 =>
bif !v2 then
(some (0 : Int))
else
(bif decide ((IntKind.i64.wrap (a0 * a3)) < (IntKind.i64.wrap (a2 * a1))) then
(some (-1 : Int))
else
(bif decide ((IntKind.i64.wrap (a0 * a3)) > (IntKind.i64.wrap (a2 * a1))) then
(some (1 : Int))
else
(some (0 : Int)))))
theorem w_impl_CompareRat (a0 : Int) (a1 : Int) (a2 : Int) (a3 : Int) (r : Int) (h : m_impl_CompareRat a0 a1 a2 a3 = some r) : AM.Spec Try.prog 28 [.agg [.i a0, .i a1], .agg [.i a2, .i a3]] [] (.i r) [] := by
  refine spec_of (E := E28_impl_CompareRat) Try.func28 rfl rfl rfl rfl ?_
  refine Tri.u 1 [] [.keep [2, 3] [2, 3]] [.code [(1, 0), (0, 0)] 0, .code [(1, 0)] 1, .code [] 2] ⟨[(2, .ptr 2 0), (3, .ptr 3 0)], [(2, .box [.i a0, .i a1]), (3, .box [.i a2, .i a3])]⟩ rfl trivial rfl ?_
  obtain ⟨v1, hk1, h⟩ := bind_some h
  rcases bif_some h with ⟨hd2, h⟩ | ⟨hd2, h⟩
  · refine Tri.u 1 [.r ⟨[], .bool v1, []⟩, .g true] [.keep [2, 3, 14] [2, 3]] [.code [(1, 0)] 1, .code [] 2] ⟨[(2, .ptr 2 0), (3, .ptr 3 0), (14, .bool true)], [(2, .box [.i a0, .i a1]), (3, .box [.i a2, .i a3])]⟩ rfl ⟨hd2, (fun _ => (w_impl_IsValidRat a0 a1 v1 hk1)), trivial⟩ rfl ?_
    refine Tri.u 2 [.g true] [.keep [4] []] [.code [(1, 0), (1, 0)] 1, .code [] 2] ⟨[(4, .i (0 : Int))], []⟩ rfl ⟨rfl, trivial⟩ rfl ?_
    cases h
    exact Tri.ret rfl ⟨.inl rfl, rfl, rfl⟩
  · obtain ⟨v2, hk3, h⟩ := bind_some h
    refine Tri.u 1 [.r ⟨[], .bool v1, []⟩, .g false, .r ⟨[], .bool v2, []⟩] [.keep [2, 3, 14] [2, 3]] [.code [(1, 0)] 1, .code [] 2] ⟨[(2, .ptr 2 0), (3, .ptr 3 0), (14, .bool (!v2))], [(2, .box [.i a0, .i a1]), (3, .box [.i a2, .i a3])]⟩ rfl ⟨(fun _ => (w_impl_IsValidRat a2 a3 v2 hk3)), hd2, (fun _ => (w_impl_IsValidRat a0 a1 v1 hk1)), trivial⟩ rfl ?_
    rcases bif_some h with ⟨hd4, h⟩ | ⟨hd4, h⟩
    · refine Tri.u 2 [.g true] [.keep [4] []] [.code [(1, 0), (1, 0)] 1, .code [] 2] ⟨[(4, .i (0 : Int))], []⟩ rfl ⟨hd4, trivial⟩ rfl ?_
      cases h
      exact Tri.ret rfl ⟨.inl rfl, rfl, rfl⟩
    · refine Tri.u 3 [.g false] [.keep [5, 6, 25] []] [.code [(3, 0), (0, 0)] 1, .blk 0, .code [] 4] ⟨[(5, .i (IntKind.i64.wrap (a0 * a3))), (6, .i (IntKind.i64.wrap (a2 * a1))), (25, .bool (decide ((IntKind.i64.wrap (a0 * a3)) < (IntKind.i64.wrap (a2 * a1)))))], []⟩ rfl ⟨hd4, trivial⟩ rfl ?_
      rcases bif_some h with ⟨hd5, h⟩ | ⟨hd5, h⟩
      · refine Tri.u 2 [.g true] [.keep [4] []] [.code [(3, 0), (0, 0), (1, 0)] 1, .blk 0, .code [] 4] ⟨[(4, .i (-1 : Int))], []⟩ rfl ⟨hd5, trivial⟩ rfl ?_
        cases h
        exact Tri.ret rfl ⟨.inl rfl, rfl, rfl⟩
      · refine Tri.u 2 [.g false] [.keep [29] []] [.code [(3, 0), (0, 0), (1, 1)] 1, .blk 0, .code [] 4] ⟨[(29, .bool (decide ((IntKind.i64.wrap (a0 * a3)) > (IntKind.i64.wrap (a2 * a1)))))], []⟩ rfl ⟨hd5, trivial⟩ rfl ?_
        rcases bif_some h with ⟨hd6, h⟩ | ⟨hd6, h⟩
        · refine Tri.u 2 [.g true] [.keep [4] []] [.code [(3, 0), (0, 0), (1, 1), (1, 0)] 1, .blk 0, .code [] 4] ⟨[(4, .i (1 : Int))], []⟩ rfl ⟨hd6, trivial⟩ rfl ?_
          cases h
          exact Tri.ret rfl ⟨.inl rfl, rfl, rfl⟩
        · refine Tri.u 2 [.g false] [.keep [4] []] [.code [] 5] ⟨[(4, .i (0 : Int))], []⟩ rfl ⟨hd6, trivial⟩ rfl ?_
          cases h
          exact Tri.ret rfl ⟨.inl rfl, rfl, rfl⟩
/-! impl.ExcessVector$1 -/
noncomputable def E45_impl_ExcessVector_1 : Env := ⟨Try.prog, tys, (Try.f45.body).getD .skip, 8, tysOk, mixedOk⟩
abbrev q_impl_ExcessVector_1 (r : Int) (σ' : ASt) : Prop := isRes E45_impl_ExcessVector_1.T Try.f45 (.i r) [] σ'
noncomputable def m_impl_ExcessVector_1 (a0 : Int) (a1 : Int) (a2 : Int) (a3 : Int) : Option Int :=
(m_impl_CompareRat a2 a3 a0 a1).bind fun v1 =>
some v1
theorem w_impl_ExcessVector_1 (a0 : Int) (a1 : Int) (a2 : Int) (a3 : Int) (r : Int) (h : m_impl_ExcessVector_1 a0 a1 a2 a3 = some r) : AM.Spec Try.prog 45 [.agg [.i a0, .i a1], .agg [.i a2, .i a3]] [] (.i r) [] := by
  refine spec_of (E := E45_impl_ExcessVector_1) Try.func45 rfl rfl rfl rfl ?_
  refine Tri.u 1 [] [.keep [2, 3] [2, 3]] [.code [(1, 0)] 0, .code [] 2] ⟨[(2, .ptr 2 0), (3, .ptr 3 0)], [(2, .box [.i a0, .i a1]), (3, .box [.i a2, .i a3])]⟩ rfl trivial rfl ?_
  obtain ⟨v1, hk1, h⟩ := bind_some h
  refine Tri.u 1 [.r ⟨[], .i v1, []⟩] [.keep [4] []] [.code [] 2] ⟨[(4, .i v1)], []⟩ rfl ⟨(fun _ => (w_impl_CompareRat a2 a3 a0 a1 v1 hk1)), trivial⟩ rfl ?_
  cases h
  exact Tri.ret rfl ⟨.inl rfl, rfl, rfl⟩
/-! impl.Rat) -/
def Try.sortR_ren : Go.Shelf.Ren := ⟨fun | 6 => 44 | 15 => 79 | 14 => 78 | 28 => 107 | 29 => 108 | 20 => 99 | 21 => 100 | 22 => 101 | 23 => 102 | 24 => 103 | 25 => 104 | 26 => 105 | 27 => 106 | 46 => 114 | 47 => 115 | 48 => 116 | 49 => 117 | 50 => 118 | 57 => 119 | n => n, fun | 22 => 28 | 24 => 44 | 25 => 48 | 3 => 3 | 39 => 87 | 0 => 0 | 53 => 111 | 55 => 113 | 4 => 4 | 46 => 104 | 45 => 103 | 50 => 108 | 5 => 5 | 9 => 9 | 66 => 116 | 70 => 120 | 76 => 122 | 77 => 123 | n => n, fun | n => n⟩
theorem Try.sortR : Go.Proofs.SlLaysF0.n6 Try.prog Try.sortR_ren := {
  mixed := by kernel_rfl,
  f6 := ⟨Try.f44.name, by decide, Try.func44.trans (congrArg some (by kernel_rfl))⟩,
  f14 := ⟨Try.f78.name, by decide, Try.func78.trans (congrArg some (by kernel_rfl))⟩,
  f15 := Try.func79.trans (congrArg some (by kernel_rfl)),
  f20 := ⟨Try.f99.name, by decide, Try.func99.trans (congrArg some (by kernel_rfl))⟩,
  f21 := ⟨Try.f100.name, by decide, Try.func100.trans (congrArg some (by kernel_rfl))⟩,
  f22 := ⟨Try.f101.name, by decide, Try.func101.trans (congrArg some (by kernel_rfl))⟩,
  f23 := ⟨Try.f102.name, by decide, Try.func102.trans (congrArg some (by kernel_rfl))⟩,
  f24 := ⟨Try.f103.name, by decide, Try.func103.trans (congrArg some (by kernel_rfl))⟩,
  f25 := ⟨Try.f104.name, by decide, Try.func104.trans (congrArg some (by kernel_rfl))⟩,
  f26 := ⟨Try.f105.name, by decide, Try.func105.trans (congrArg some (by kernel_rfl))⟩,
  f27 := ⟨Try.f106.name, by decide, Try.func106.trans (congrArg some (by kernel_rfl))⟩,
  f28 := Try.func107.trans (congrArg some (by kernel_rfl)),
  f29 := Try.func108.trans (congrArg some (by kernel_rfl)),
  f46 := ⟨Try.f114.name, by decide, Try.func114.trans (congrArg some (by kernel_rfl))⟩,
  f47 := Try.func115.trans (congrArg some (by kernel_rfl)),
  f48 := Try.func116.trans (congrArg some (by kernel_rfl)),
  f49 := ⟨Try.f117.name, by decide, Try.func117.trans (congrArg some (by kernel_rfl))⟩,
  f50 := ⟨Try.f118.name, by decide, Try.func118.trans (congrArg some (by kernel_rfl))⟩,
  f57 := ⟨Try.f119.name, by decide, Try.func119.trans (congrArg some (by kernel_rfl))⟩,
  t0 := Try.underlying0,
  a0 := Try.isAgg0,
  z0 := Try.sizeOf0,
  v0 := Try.zeroValue0,
  t3 := Try.underlying3,
  a3 := Try.isAgg3,
  z3 := Try.sizeOf3,
  v3 := Try.zeroValue3,
  t4 := Try.underlying4,
  a4 := Try.isAgg4,
  z4 := Try.sizeOf4,
  v4 := Try.zeroValue4,
  t5 := Try.underlying5,
  a5 := Try.isAgg5,
  z5 := Try.sizeOf5,
  v5 := Try.zeroValue5,
  t9 := Try.underlying9,
  a9 := Try.isAgg9,
  z9 := Try.sizeOf9,
  v9 := Try.zeroValue9,
  t22 := Try.underlying28,
  a22 := Try.isAgg28,
  z22 := Try.sizeOf28,
  v22 := Try.zeroValue28,
  t25 := Try.underlying48,
  a25 := Try.isAgg48,
  z25 := Try.sizeOf48,
  v25 := Try.zeroValue48,
  t39 := Try.underlying87,
  a39 := Try.isAgg87,
  z39 := Try.sizeOf87,
  v39 := Try.zeroValue87,
  t45 := Try.underlying103,
  a45 := Try.isAgg103,
  z45 := Try.sizeOf103,
  v45 := Try.zeroValue103,
  t46 := Try.underlying104,
  a46 := Try.isAgg104,
  z46 := Try.sizeOf104,
  v46 := Try.zeroValue104,
  t50 := Try.underlying108,
  a50 := Try.isAgg108,
  z50 := Try.sizeOf108,
  v50 := Try.zeroValue108,
  t53 := Try.underlying111,
  a53 := Try.isAgg111,
  z53 := Try.sizeOf111,
  v53 := Try.zeroValue111,
  t55 := Try.underlying113,
  a55 := Try.isAgg113,
  z55 := Try.sizeOf113,
  v55 := Try.zeroValue113,
  t66 := Try.underlying116,
  a66 := Try.isAgg116,
  z66 := Try.sizeOf116,
  v66 := Try.zeroValue116,
  t70 := Try.underlying120,
  a70 := Try.isAgg120,
  z70 := Try.sizeOf120,
  v70 := Try.zeroValue120,
  t76 := Try.underlying122,
  a76 := Try.isAgg122,
  z76 := Try.sizeOf122,
  v76 := Try.zeroValue122,
  t77 := Try.underlying123,
  a77 := Try.isAgg123,
  z77 := Try.sizeOf123,
  v77 := Try.zeroValue123 }
noncomputable def m_slices_SortFunc_impl_Rat_impl_Rat_impl_ExcessVector_1_io1 (a0 : List Q) : Option (List Q) :=
grd (a0.length ≤ 1000000 ∧ (∀ q ∈ a0, okR q) ∧ ∀ x y : Q, okR x → okR y → m_impl_ExcessVector_1 x.num x.den y.num y.den = some (cmpR y x)) <|
some (sortR a0)
theorem w_slices_SortFunc_impl_Rat_impl_Rat_impl_ExcessVector_1_io1 (a0 : List Q) (r : List Q) (h : m_slices_SortFunc_impl_Rat_impl_Rat_impl_ExcessVector_1_io1 a0 = some r) : AM.Spec Try.prog 44 [.sl 2000 0, .func 45 [] []] [(2000, .arr 44 0 0 (.rats a0))] (.tuple []) [(2000, .arr 44 0 0 (.rats r))] := by
  obtain ⟨⟨h1, h2, h3⟩, h⟩ := grd_some h
  cases h
  have h0 := spec_sort (P := Try.prog) (f := 44) (g := 45) (e := 44) ⟨_, Try.func44, by decide, rfl⟩ h1 h2 (fun p cap fv w => AnyF.slices_SortFunc_none Try.sortR p cap fv w)
    (fun blk cap d w hc hH hb hsz => AnyQ.slices_SortFunc_total Try.sortR 2 Try.isAgg44 Try.sizeOf44 encQ (fun _ => rfl) encQ_cells cfQ swoQ 45 #[] blk 0 cap d w (enters_of Try.func45 (by kernel_rfl) rfl) hc hH hb hsz totQ)
    (fun x y hx hy => w_impl_ExcessVector_1 x.num x.den y.num y.den _ (h3 x y hx hy))
  exact h0
/-! impl.ExcessVector -/
noncomputable def E10_impl_ExcessVector : Env := ⟨Try.prog, tys, (Try.f10.body).getD .skip, 22, tysOk, mixedOk⟩
abbrev q_impl_ExcessVector (r : List Q) (σ' : ASt) : Prop := isRes E10_impl_ExcessVector.T Try.f10 (.sl 1000 0) [(1000, .arr 44 0 0 (.rats r))] σ'
noncomputable def m_impl_ExcessVector (a0 : Int) (a1 : List Int) (a2 : List Q) : Option (List Q) :=
(m_impl_excesses a0 a1 a2 (1 : Int) (IntKind.i64.wrap ((a1.length : Int) - (2 : Int)))).bind fun (v1, v2) =>
bif !v1 then
(some [])
else
((m_slices_SortFunc_impl_Rat_impl_Rat_impl_ExcessVector_1_io1 v2).bind fun v3 =>
some v3)
theorem w_impl_ExcessVector (a0 : Int) (a1 : List Int) (a2 : List Q) (r : List Q) (h : m_impl_ExcessVector a0 a1 a2 = some r) : AM.Spec Try.prog 10 [.agg [.i a0, .list (.ints a1)], .list (.rats a2)] [] (.sl 1000 0) [(1000, .arr 44 0 0 (.rats r))] := by
  refine spec_of (E := E10_impl_ExcessVector) Try.func10 rfl rfl rfl rfl ?_
  refine Tri.u 1 [] [.keep [1, 2] [2]] [.code [(1, 0)] 0, .code [] 2] ⟨[(1, .list (.rats a2)), (2, .ptr 2 0)], [(2, .box [.i a0, .list (.ints a1)])]⟩ rfl trivial rfl ?_
  obtain ⟨⟨v1, v2⟩, hk1, h⟩ := bind_some h
  refine Tri.u 2 [.r ⟨[], .tuple [.sl 1100 0, .bool v1], [(1100, .arr 44 0 0 (.rats v2))]⟩] [.keep [5, 18] [1100]] [.code [(2, 0)] 1, .code [] 3] ⟨[(5, .sl 1100 0), (18, .bool (!v1))], [(1100, .arr 44 0 0 (.rats v2))]⟩ rfl ⟨(fun _ => ((w_impl_excesses a0 a1 a2 (1 : Int) (IntKind.i64.wrap ((a1.length : Int) - (2 : Int))) (v1, v2) hk1).swap 1000 1100)), trivial⟩ rfl ?_
  rcases bif_some h with ⟨hd2, h⟩ | ⟨hd2, h⟩
  · refine Tri.u 2 [.g true] [.own 4 [] 1101 44, .swap 1101 1000, .keep [4] [1000]] [.code [(2, 0), (1, 0)] 1, .code [] 3] ⟨[(4, .sl 1000 0)], [(1000, .arr 44 0 0 (.rats []))]⟩ rfl ⟨hd2, trivial⟩ rfl ?_
    cases h
    exact Tri.ret rfl ⟨.inl rfl, rfl, rfl⟩
  · obtain ⟨v3, hk3, h⟩ := bind_some h
    refine Tri.u 3 [.g false, .r ⟨[1100], .tuple [], [(1100, .arr 44 0 0 (.rats v3))]⟩] [.swap 1100 1000, .keep [4] [1000]] [.code [] 5] ⟨[(4, .sl 1000 0)], [(1000, .arr 44 0 0 (.rats v3))]⟩ rfl ⟨(fun _ => ((w_slices_SortFunc_impl_Rat_impl_Rat_impl_ExcessVector_1_io1 v2 v3 hk3).swap 2000 1100)), hd2, trivial⟩ rfl ?_
    cases h
    exact Tri.ret rfl ⟨.inl rfl, rfl, rfl⟩
/-! laws.eqRat -/
noncomputable def E46_laws_eqRat : Env := ⟨Try.prog, tys, (Try.f46.body).getD .skip, 15, tysOk, mixedOk⟩
abbrev q_laws_eqRat (r : Bool) (σ' : ASt) : Prop := isRes E46_laws_eqRat.T Try.f46 (.bool r) [] σ'
noncomputable def m_laws_eqRat (a0 : Int) (a1 : Int) (a2 : Int) (a3 : Int) : Option Bool :=
bif a0 != a2 then
(some false)
else
(bif a1 != a3 then
(some false)
else
(some true))
theorem w_laws_eqRat (a0 : Int) (a1 : Int) (a2 : Int) (a3 : Int) (r : Bool) (h : m_laws_eqRat a0 a1 a2 a3 = some r) : AM.Spec Try.prog 46 [.agg [.i a0, .i a1], .agg [.i a2, .i a3]] [] (.bool r) [] := by
  refine spec_of (E := E46_laws_eqRat) Try.func46 rfl rfl rfl rfl ?_
  refine Tri.u 2 [] [.keep [2, 3, 9] [2, 3]] [.code [(1, 0)] 1, .code [] 2] ⟨[(2, .ptr 2 0), (3, .ptr 3 0), (9, .bool (a0 != a2))], [(2, .box [.i a0, .i a1]), (3, .box [.i a2, .i a3])]⟩ rfl trivial rfl ?_
  rcases bif_some h with ⟨hd1, h⟩ | ⟨hd1, h⟩
  · refine Tri.u 2 [.g true] [.keep [4] []] [.code [(1, 0), (1, 0)] 1, .code [] 2] ⟨[(4, .bool false)], []⟩ rfl ⟨hd1, trivial⟩ rfl ?_
    cases h
    exact Tri.ret rfl ⟨.inl rfl, rfl, rfl⟩
  · refine Tri.u 2 [.g false] [.keep [14] []] [.code [(2, 0)] 1, .code [] 3] ⟨[(14, .bool (a1 != a3))], []⟩ rfl ⟨hd1, trivial⟩ rfl ?_
    rcases bif_some h with ⟨hd2, h⟩ | ⟨hd2, h⟩
    · refine Tri.u 2 [.g true] [.keep [4] []] [.code [(2, 0), (1, 0)] 1, .code [] 3] ⟨[(4, .bool false)], []⟩ rfl ⟨hd2, trivial⟩ rfl ?_
      cases h
      exact Tri.ret rfl ⟨.inl rfl, rfl, rfl⟩
    · refine Tri.u 2 [.g false] [.keep [4] []] [.code [] 4] ⟨[(4, .bool true)], []⟩ rfl ⟨hd2, trivial⟩ rfl ?_
      cases h
      exact Tri.ret rfl ⟨.inl rfl, rfl, rfl⟩
/-! laws.eqRatS -/
noncomputable def E11_laws_eqRatS : Env := ⟨Try.prog, tys, (Try.f11.body).getD .skip, 27, tysOk, mixedOk⟩
abbrev q_laws_eqRatS (r : Bool) (σ' : ASt) : Prop := isRes E11_laws_eqRatS.T Try.f11 (.bool r) [] σ'
noncomputable def l_laws_eqRatS_0 (a0 : List Q) (a1 : List Q) (v1 : Int) : Option (Int ⊕ (Unit ⊕ Bool)) :=
bif decide (v1 < (a0.length : Int)) then
(grd ((0 : Int) ≤ v1 ∧ v1 < (a0.length : Int)) <|
grd ((0 : Int) ≤ v1 ∧ v1 < (a1.length : Int)) <|
(m_laws_eqRat ((a0.getD v1.toNat ⟨0, 0⟩).num) ((a0.getD v1.toNat ⟨0, 0⟩).den) ((a1.getD v1.toNat ⟨0, 0⟩).num) ((a1.getD v1.toNat ⟨0, 0⟩).den)).bind fun v2 =>
bif !v2 then
(some (.inr (.inr false)))
else
(some (.inl (IntKind.i64.wrap (v1 + (1 : Int))))))
else
(some (.inr (.inl ())))
noncomputable def m_laws_eqRatS (a0 : List Q) (a1 : List Q) : Option Bool :=
bif (a0.length : Int) != (a1.length : Int) then
(some false)
else
((iter (l_laws_eqRatS_0 a0 a1) (0 : Int)).bind fun
| (.inl _) => (
some true)
| (.inr r) => some r)
theorem w_laws_eqRatS (a0 : List Q) (a1 : List Q) (r : Bool) (h : m_laws_eqRatS a0 a1 = some r) : AM.Spec Try.prog 11 [.list (.rats a0), .list (.rats a1)] [] (.bool r) [] := by
  refine spec_of (E := E11_laws_eqRatS) Try.func11 rfl rfl rfl rfl ?_
  refine Tri.u 2 [] [.keep [0, 1, 10] []] [.code [(1, 0)] 1, .code [] 2] ⟨[(0, .list (.rats a0)), (1, .list (.rats a1)), (10, .bool ((a0.length : Int) != (a1.length : Int)))], []⟩ rfl trivial rfl ?_
  rcases bif_some h with ⟨hd1, h⟩ | ⟨hd1, h⟩
  · refine Tri.u 2 [.g true] [.keep [4] []] [.code [(1, 0), (1, 0)] 1, .code [] 2] ⟨[(4, .bool false)], []⟩ rfl ⟨hd1, trivial⟩ rfl ?_
    cases h
    exact Tri.ret rfl ⟨.inl rfl, rfl, rfl⟩
  · refine Tri.u 2 [.g false] [.keep [0, 1, 5] []] [.code [(2, 0), (1, 0)] 0, .blk 0, .code [] 3] ⟨[(0, .list (.rats a0)), (1, .list (.rats a1)), (5, .i (0 : Int))], []⟩ rfl ⟨hd1, trivial⟩ rfl ?_
    obtain ⟨x1, hk7, h⟩ := bind_some h
    refine Tri.loop (K1 := [.code [(2, 0), (1, 0), (0, 0)] 0]) (K2 := [.blk 0, .code [] 3]) (fun v1 => ⟨[(0, .list (.rats a0)), (1, .list (.rats a1)), (5, .i v1)], []⟩) (fun x e σ' => match x with | (.inl _) => e = .exit 0 ∧ σ' = ⟨[], []⟩ | (.inr r) => e = .ret ∧ q_laws_eqRatS r σ') hk7 rfl rfl ?_ ?_
    · intro v1 x hs
      clear h
      have h := hs
      clear hs
      refine Tri.u 1 [] [.keep [0, 1, 5, 14] []] [.code [(2, 0), (1, 0), (0, 0), (0, 0)] 1, .code [(2, 0), (1, 0), (0, 0)] 1] ⟨[(0, .list (.rats a0)), (1, .list (.rats a1)), (5, .i v1), (14, .bool (decide (v1 < (a0.length : Int))))], []⟩ rfl trivial rfl ?_
      rcases bif_some h with ⟨hd2, h⟩ | ⟨hd2, h⟩
      · obtain ⟨hg3, h⟩ := grd_some h
        obtain ⟨hg4, h⟩ := grd_some h
        obtain ⟨v2, hk5, h⟩ := bind_some h
        refine Tri.u 2 [.g true, .r ⟨[], .bool v2, []⟩] [.keep [0, 1, 5, 26] []] [.code [(2, 0), (1, 0), (0, 0), (1, 0), (0, 0)] 1, .blk 1, .code [(2, 0), (1, 0), (0, 0)] 2] ⟨[(0, .list (.rats a0)), (1, .list (.rats a1)), (5, .i v1), (26, .bool (!v2))], []⟩ rfl ⟨(fun _ => (w_laws_eqRat ((a0.getD v1.toNat ⟨0, 0⟩).num) ((a0.getD v1.toNat ⟨0, 0⟩).den) ((a1.getD v1.toNat ⟨0, 0⟩).num) ((a1.getD v1.toNat ⟨0, 0⟩).den) v2 hk5)), hg4, hg3, hd2, trivial⟩ rfl ?_
        rcases bif_some h with ⟨hd6, h⟩ | ⟨hd6, h⟩
        · refine Tri.u 2 [.g true] [.keep [4] []] [.code [(2, 0), (1, 0), (0, 0), (1, 0), (0, 0), (1, 0)] 1, .blk 1, .code [(2, 0), (1, 0), (0, 0)] 2] ⟨[(4, .bool false)], []⟩ rfl ⟨hd6, trivial⟩ rfl ?_
          cases h
          exact Tri.ret rfl ⟨nofun, rfl, rfl, rfl⟩
        · refine Tri.u 2 [.g false] [.keep [0, 1, 5] []] [] ⟨[(0, .list (.rats a0)), (1, .list (.rats a1)), (5, .i (IntKind.i64.wrap (v1 + (1 : Int))))], []⟩ rfl ⟨hd6, trivial⟩ rfl ?_
          cases h
          exact Tri.nil ⟨rfl, rfl⟩
      · refine Tri.u 1 [.g false] [.keep [] []] [.code [(2, 0), (1, 0), (0, 0), (0, 0), (1, 1)] 0, .code [(2, 0), (1, 0), (0, 0)] 1] ⟨[], []⟩ rfl ⟨hd2, trivial⟩ rfl ?_
        cases h
        exact Tri.out 0 rfl ⟨nofun, rfl, rfl⟩
    · intro e σ' hne hq
      rcases x1 with _ | r
      · obtain ⟨rfl, rfl⟩ := hq
        refine TriX.exit (K' := [.code [] 3]) rfl ?_
        refine Tri.u 1 [] [.keep [4] []] [.code [] 4] ⟨[(4, .bool true)], []⟩ rfl trivial rfl ?_
        cases h
        exact Tri.ret rfl ⟨.inl rfl, rfl, rfl⟩
      · obtain ⟨rfl, hq⟩ := hq
        cases h
        exact TriX.ret ⟨.inl rfl, hq⟩
/-! laws.eqIntS -/
noncomputable def E47_laws_eqIntS : Env := ⟨Try.prog, tys, (Try.f47.body).getD .skip, 26, tysOk, mixedOk⟩
abbrev q_laws_eqIntS (r : Bool) (σ' : ASt) : Prop := isRes E47_laws_eqIntS.T Try.f47 (.bool r) [] σ'
noncomputable def l_laws_eqIntS_0 (a0 : List Int) (a1 : List Int) (v1 : Int) : Option (Int ⊕ (Unit ⊕ Bool)) :=
bif decide (v1 < (a0.length : Int)) then
(grd ((0 : Int) ≤ v1 ∧ v1 < (a0.length : Int)) <|
grd ((0 : Int) ≤ v1 ∧ v1 < (a1.length : Int)) <|
bif (a0.getD v1.toNat 0) != (a1.getD v1.toNat 0) then
(some (.inr (.inr false)))
else
(some (.inl (IntKind.i64.wrap (v1 + (1 : Int))))))
else
(some (.inr (.inl ())))
noncomputable def m_laws_eqIntS (a0 : List Int) (a1 : List Int) : Option Bool :=
bif (a0.length : Int) != (a1.length : Int) then
(some false)
else
((iter (l_laws_eqIntS_0 a0 a1) (0 : Int)).bind fun
| (.inl _) => (
some true)
| (.inr r) => some r)
theorem w_laws_eqIntS (a0 : List Int) (a1 : List Int) (r : Bool) (h : m_laws_eqIntS a0 a1 = some r) : AM.Spec Try.prog 47 [.list (.ints a0), .list (.ints a1)] [] (.bool r) [] := by
  refine spec_of (E := E47_laws_eqIntS) Try.func47 rfl rfl rfl rfl ?_
  refine Tri.u 2 [] [.keep [0, 1, 10] []] [.code [(1, 0)] 1, .code [] 2] ⟨[(0, .list (.ints a0)), (1, .list (.ints a1)), (10, .bool ((a0.length : Int) != (a1.length : Int)))], []⟩ rfl trivial rfl ?_
  rcases bif_some h with ⟨hd1, h⟩ | ⟨hd1, h⟩
  · refine Tri.u 2 [.g true] [.keep [4] []] [.code [(1, 0), (1, 0)] 1, .code [] 2] ⟨[(4, .bool false)], []⟩ rfl ⟨hd1, trivial⟩ rfl ?_
    cases h
    exact Tri.ret rfl ⟨.inl rfl, rfl, rfl⟩
  · refine Tri.u 2 [.g false] [.keep [0, 1, 5] []] [.code [(2, 0), (1, 0)] 0, .blk 0, .code [] 3] ⟨[(0, .list (.ints a0)), (1, .list (.ints a1)), (5, .i (0 : Int))], []⟩ rfl ⟨hd1, trivial⟩ rfl ?_
    obtain ⟨x1, hk6, h⟩ := bind_some h
    refine Tri.loop (K1 := [.code [(2, 0), (1, 0), (0, 0)] 0]) (K2 := [.blk 0, .code [] 3]) (fun v1 => ⟨[(0, .list (.ints a0)), (1, .list (.ints a1)), (5, .i v1)], []⟩) (fun x e σ' => match x with | (.inl _) => e = .exit 0 ∧ σ' = ⟨[], []⟩ | (.inr r) => e = .ret ∧ q_laws_eqIntS r σ') hk6 rfl rfl ?_ ?_
    · intro v1 x hs
      clear h
      have h := hs
      clear hs
      refine Tri.u 1 [] [.keep [0, 1, 5, 14] []] [.code [(2, 0), (1, 0), (0, 0), (0, 0)] 1, .code [(2, 0), (1, 0), (0, 0)] 1] ⟨[(0, .list (.ints a0)), (1, .list (.ints a1)), (5, .i v1), (14, .bool (decide (v1 < (a0.length : Int))))], []⟩ rfl trivial rfl ?_
      rcases bif_some h with ⟨hd2, h⟩ | ⟨hd2, h⟩
      · obtain ⟨hg3, h⟩ := grd_some h
        obtain ⟨hg4, h⟩ := grd_some h
        refine Tri.u 2 [.g true] [.keep [0, 1, 5, 25] []] [.code [(2, 0), (1, 0), (0, 0), (1, 0), (0, 0)] 1, .blk 1, .code [(2, 0), (1, 0), (0, 0)] 2] ⟨[(0, .list (.ints a0)), (1, .list (.ints a1)), (5, .i v1), (25, .bool ((a0.getD v1.toNat 0) != (a1.getD v1.toNat 0)))], []⟩ rfl ⟨hg4, hg3, hd2, trivial⟩ rfl ?_
        rcases bif_some h with ⟨hd5, h⟩ | ⟨hd5, h⟩
        · refine Tri.u 2 [.g true] [.keep [4] []] [.code [(2, 0), (1, 0), (0, 0), (1, 0), (0, 0), (1, 0)] 1, .blk 1, .code [(2, 0), (1, 0), (0, 0)] 2] ⟨[(4, .bool false)], []⟩ rfl ⟨hd5, trivial⟩ rfl ?_
          cases h
          exact Tri.ret rfl ⟨nofun, rfl, rfl, rfl⟩
        · refine Tri.u 2 [.g false] [.keep [0, 1, 5] []] [] ⟨[(0, .list (.ints a0)), (1, .list (.ints a1)), (5, .i (IntKind.i64.wrap (v1 + (1 : Int))))], []⟩ rfl ⟨hd5, trivial⟩ rfl ?_
          cases h
          exact Tri.nil ⟨rfl, rfl⟩
      · refine Tri.u 1 [.g false] [.keep [] []] [.code [(2, 0), (1, 0), (0, 0), (0, 0), (1, 1)] 0, .code [(2, 0), (1, 0), (0, 0)] 1] ⟨[], []⟩ rfl ⟨hd2, trivial⟩ rfl ?_
        cases h
        exact Tri.out 0 rfl ⟨nofun, rfl, rfl⟩
    · intro e σ' hne hq
      rcases x1 with _ | r
      · obtain ⟨rfl, rfl⟩ := hq
        refine TriX.exit (K' := [.code [] 3]) rfl ?_
        refine Tri.u 1 [] [.keep [4] []] [.code [] 4] ⟨[(4, .bool true)], []⟩ rfl trivial rfl ?_
        cases h
        exact Tri.ret rfl ⟨.inl rfl, rfl, rfl⟩
      · obtain ⟨rfl, hq⟩ := hq
        cases h
        exact TriX.ret ⟨.inl rfl, hq⟩
/-! laws.eqGame -/
noncomputable def E12_laws_eqGame : Env := ⟨Try.prog, tys, (Try.f12.body).getD .skip, 16, tysOk, mixedOk⟩
abbrev q_laws_eqGame (r : Bool) (σ' : ASt) : Prop := isRes E12_laws_eqGame.T Try.f12 (.bool r) [] σ'
noncomputable def m_laws_eqGame (a0 : Int) (a1 : List Int) (a2 : Int) (a3 : List Int) : Option Bool :=
bif a0 != a2 then
(some false)
else
((m_laws_eqIntS a1 a3).bind fun v1 =>
bif !v1 then
(some false)
else
(some true))
theorem w_laws_eqGame (a0 : Int) (a1 : List Int) (a2 : Int) (a3 : List Int) (r : Bool) (h : m_laws_eqGame a0 a1 a2 a3 = some r) : AM.Spec Try.prog 12 [.agg [.i a0, .list (.ints a1)], .agg [.i a2, .list (.ints a3)]] [] (.bool r) [] := by
  refine spec_of (E := E12_laws_eqGame) Try.func12 rfl rfl rfl rfl ?_
  refine Tri.u 2 [] [.keep [2, 3, 9] [2, 3]] [.code [(1, 0)] 1, .code [] 2] ⟨[(2, .ptr 2 0), (3, .ptr 3 0), (9, .bool (a0 != a2))], [(2, .box [.i a0, .list (.ints a1)]), (3, .box [.i a2, .list (.ints a3)])]⟩ rfl trivial rfl ?_
  rcases bif_some h with ⟨hd1, h⟩ | ⟨hd1, h⟩
  · refine Tri.u 2 [.g true] [.keep [4] []] [.code [(1, 0), (1, 0)] 1, .code [] 2] ⟨[(4, .bool false)], []⟩ rfl ⟨hd1, trivial⟩ rfl ?_
    cases h
    exact Tri.ret rfl ⟨.inl rfl, rfl, rfl⟩
  · obtain ⟨v1, hk2, h⟩ := bind_some h
    refine Tri.u 2 [.g false, .r ⟨[], .bool v1, []⟩] [.keep [15] []] [.code [(2, 0)] 1, .code [] 3] ⟨[(15, .bool (!v1))], []⟩ rfl ⟨(fun _ => (w_laws_eqIntS a1 a3 v1 hk2)), hd1, trivial⟩ rfl ?_
    rcases bif_some h with ⟨hd3, h⟩ | ⟨hd3, h⟩
    · refine Tri.u 2 [.g true] [.keep [4] []] [.code [(2, 0), (1, 0)] 1, .code [] 3] ⟨[(4, .bool false)], []⟩ rfl ⟨hd3, trivial⟩ rfl ?_
      cases h
      exact Tri.ret rfl ⟨.inl rfl, rfl, rfl⟩
    · refine Tri.u 2 [.g false] [.keep [4] []] [.code [] 4] ⟨[(4, .bool true)], []⟩ rfl ⟨hd3, trivial⟩ rfl ?_
      cases h
      exact Tri.ret rfl ⟨.inl rfl, rfl, rfl⟩
/-! laws.markIntS -/
noncomputable def E48_laws_markIntS : Env := ⟨Try.prog, tys, (Try.f48.body).getD .skip, 19, tysOk, mixedOk⟩
abbrev q_laws_markIntS_io1 (r : Int × (List Int)) (σ' : ASt) : Prop := isRes E48_laws_markIntS.T Try.f48 (.i r.1) [(2040, .arr 3 0 0 (.ints r.2))] σ'
noncomputable def l_laws_markIntS_io1_0 : (Int × Int × (List Int)) → Option ((Int × Int × (List Int)) ⊕ ((Int × (List Int))))
  | (v1, v2, v3) => (
bif decide (v2 < (v3.length : Int)) then
(grd ((0 : Int) ≤ v2 ∧ v2 < (v3.length : Int)) <|
some (.inl (IntKind.i64.wrap (v1 + (1 : Int)), IntKind.i64.wrap (v2 + (1 : Int)), v3.set v2.toNat v1)))
else
(some (.inr (v1, v3))))
noncomputable def m_laws_markIntS_io1 (a0 : List Int) (a1 : Int) : Option (Int × (List Int)) :=
(iter (l_laws_markIntS_io1_0) (a1, (0 : Int), a0)).bind fun
| (v4, v5) => (
some (v4, v5))
theorem w_laws_markIntS_io1 (a0 : List Int) (a1 : Int) (r : Int × (List Int)) (h : m_laws_markIntS_io1 a0 a1 = some r) : AM.Spec Try.prog 48 [.sl 2040 0, .i a1] [(2040, .arr 3 0 0 (.ints a0))] (.i r.1) [(2040, .arr 3 0 0 (.ints r.2))] := by
  refine spec_of (E := E48_laws_markIntS) Try.func48 rfl rfl rfl rfl ?_
  refine Tri.u 2 [] [.keep [0, 1, 5] [2040]] [.code [(1, 0), (1, 0)] 0, .blk 0, .code [] 2] ⟨[(0, .sl 2040 0), (1, .i a1), (5, .i (0 : Int))], [(2040, .arr 3 0 0 (.ints a0))]⟩ rfl trivial rfl ?_
  obtain ⟨x1, hk3, h⟩ := bind_some h
  refine Tri.loop (K1 := [.code [(1, 0), (1, 0), (0, 0)] 0]) (K2 := [.blk 0, .code [] 2]) (fun (v1, v2, v3) => ⟨[(0, .sl 2040 0), (1, .i v1), (5, .i v2)], [(2040, .arr 3 0 0 (.ints v3))]⟩) (fun x e σ' => match x with | (v4, v5) => e = .exit 0 ∧ σ' = ⟨[(1, .i v4)], [(2040, .arr 3 0 0 (.ints v5))]⟩) hk3 rfl rfl ?_ ?_
  · intro s x hs
    clear h
    have h := hs
    clear hs
    obtain ⟨v1, v2, v3⟩ := s
    refine Tri.u 1 [] [.keep [0, 1, 5, 9] [2040]] [.code [(1, 0), (1, 0), (0, 0), (0, 0)] 1, .code [(1, 0), (1, 0), (0, 0)] 1] ⟨[(0, .sl 2040 0), (1, .i v1), (5, .i v2), (9, .bool (decide (v2 < (v3.length : Int))))], [(2040, .arr 3 0 0 (.ints v3))]⟩ rfl trivial rfl ?_
    rcases bif_some h with ⟨hd1, h⟩ | ⟨hd1, h⟩
    · obtain ⟨hg2, h⟩ := grd_some h
      refine Tri.u 3 [.g true] [.keep [0, 1, 5] [2040]] [.code [(1, 0), (1, 0), (0, 0)] 2] ⟨[(0, .sl 2040 0), (1, .i (IntKind.i64.wrap (v1 + (1 : Int)))), (5, .i v2)], [(2040, .arr 3 0 0 (.ints (v3.set v2.toNat v1)))]⟩ rfl ⟨hg2, hd1, trivial⟩ rfl ?_
      refine Tri.u 1 [] [.keep [0, 1, 5] [2040]] [] ⟨[(0, .sl 2040 0), (1, .i (IntKind.i64.wrap (v1 + (1 : Int)))), (5, .i (IntKind.i64.wrap (v2 + (1 : Int))))], [(2040, .arr 3 0 0 (.ints (v3.set v2.toNat v1)))]⟩ rfl trivial rfl ?_
      cases h
      exact Tri.nil ⟨rfl, rfl⟩
    · refine Tri.u 1 [.g false] [.keep [1] [2040]] [.code [(1, 0), (1, 0), (0, 0), (0, 0), (1, 1)] 0, .code [(1, 0), (1, 0), (0, 0)] 1] ⟨[(1, .i v1)], [(2040, .arr 3 0 0 (.ints v3))]⟩ rfl ⟨hd1, trivial⟩ rfl ?_
      cases h
      exact Tri.out 0 rfl ⟨nofun, rfl, rfl⟩
  · intro e σ' hne hq
    obtain ⟨v4, v5⟩ := x1
    obtain ⟨rfl, rfl⟩ := hq
    refine TriX.exit (K' := [.code [] 2]) rfl ?_
    refine Tri.u 1 [] [.keep [4] [2040]] [.code [] 3] ⟨[(4, .i v4)], [(2040, .arr 3 0 0 (.ints v5))]⟩ rfl trivial rfl ?_
    cases h
    exact Tri.ret rfl ⟨.inl rfl, rfl, rfl⟩
/-! laws.markGame -/
noncomputable def E13_laws_markGame : Env := ⟨Try.prog, tys, (Try.f13.body).getD .skip, 10, tysOk, mixedOk⟩
abbrev q_laws_markGame_io1 (r : Int × (List Int)) (σ' : ASt) : Prop := isRes E13_laws_markGame.T Try.f13 (.i r.1) [(2020, .arr 3 0 0 (.ints r.2))] σ'
noncomputable def m_laws_markGame_io1 (_a0 : Int) (a1 : List Int) (a2 : Int) : Option (Int × (List Int)) :=
(m_laws_markIntS_io1 a1 a2).bind fun (v1, v2) =>
some (v1, v2)
theorem w_laws_markGame_io1 (a0 : Int) (a1 : List Int) (a2 : Int) (r : Int × (List Int)) (h : m_laws_markGame_io1 a0 a1 a2 = some r) : AM.Spec Try.prog 13 [.agg [.i a0, .sl 2020 0], .i a2] [(2020, .arr 3 0 0 (.ints a1))] (.i r.1) [(2020, .arr 3 0 0 (.ints r.2))] := by
  refine spec_of (E := E13_laws_markGame) Try.func13 rfl rfl rfl rfl ?_
  refine Tri.u 1 [] [.keep [1, 2] [2, 2020]] [.code [(1, 0)] 0, .code [] 2] ⟨[(1, .i a2), (2, .ptr 2 0)], [(2, .box [.i a0, .sl 2020 0]), (2020, .arr 3 0 0 (.ints a1))]⟩ rfl trivial rfl ?_
  obtain ⟨⟨v1, v2⟩, hk1, h⟩ := bind_some h
  refine Tri.u 2 [.r ⟨[2020], .i v1, [(2020, .arr 3 0 0 (.ints v2))]⟩] [.keep [4] [2020]] [.code [] 3] ⟨[(4, .i v1)], [(2020, .arr 3 0 0 (.ints v2))]⟩ rfl ⟨(fun _ => ((w_laws_markIntS_io1 a1 a2 (v1, v2) hk1).swap 2040 2020)), trivial⟩ rfl ?_
  cases h
  exact Tri.ret rfl ⟨.inl rfl, rfl, rfl⟩
/-! laws.markRatS -/
noncomputable def E14_laws_markRatS : Env := ⟨Try.prog, tys, (Try.f14.body).getD .skip, 27, tysOk, mixedOk⟩
abbrev q_laws_markRatS_io1 (r : Int × (List Q)) (σ' : ASt) : Prop := isRes E14_laws_markRatS.T Try.f14 (.i r.1) [(2060, .arr 44 0 0 (.rats r.2))] σ'
noncomputable def l_laws_markRatS_io1_0 : (Int × Int × (List Q)) → Option ((Int × Int × (List Q)) ⊕ ((Int × (List Q))))
  | (v1, v2, v3) => (
bif decide (v2 < (v3.length : Int)) then
(grd ((0 : Int) ≤ v2 ∧ v2 < (v3.length : Int)) <|
grd ((0 : Int) ≤ v2 ∧ v2 < ((v3.set v2.toNat ⟨v1, (v3.getD v2.toNat ⟨0, 0⟩).den⟩).length : Int)) <|
some (.inl (IntKind.i64.wrap ((IntKind.i64.wrap (v1 + (1 : Int))) + (1 : Int)), IntKind.i64.wrap (v2 + (1 : Int)), (v3.set v2.toNat ⟨v1, (v3.getD v2.toNat ⟨0, 0⟩).den⟩).set v2.toNat ⟨((v3.set v2.toNat ⟨v1, (v3.getD v2.toNat ⟨0, 0⟩).den⟩).getD v2.toNat ⟨0, 0⟩).num, IntKind.i64.wrap (v1 + (1 : Int))⟩)))
else
(some (.inr (v1, v3))))
noncomputable def m_laws_markRatS_io1 (a0 : List Q) (a1 : Int) : Option (Int × (List Q)) :=
(iter (l_laws_markRatS_io1_0) (a1, (0 : Int), a0)).bind fun
| (v4, v5) => (
some (v4, v5))
theorem w_laws_markRatS_io1 (a0 : List Q) (a1 : Int) (r : Int × (List Q)) (h : m_laws_markRatS_io1 a0 a1 = some r) : AM.Spec Try.prog 14 [.sl 2060 0, .i a1] [(2060, .arr 44 0 0 (.rats a0))] (.i r.1) [(2060, .arr 44 0 0 (.rats r.2))] := by
  refine spec_of (E := E14_laws_markRatS) Try.func14 rfl rfl rfl rfl ?_
  refine Tri.u 2 [] [.keep [0, 1, 5] [2060]] [.code [(1, 0), (1, 0)] 0, .blk 0, .code [] 2] ⟨[(0, .sl 2060 0), (1, .i a1), (5, .i (0 : Int))], [(2060, .arr 44 0 0 (.rats a0))]⟩ rfl trivial rfl ?_
  obtain ⟨x1, hk4, h⟩ := bind_some h
  refine Tri.loop (K1 := [.code [(1, 0), (1, 0), (0, 0)] 0]) (K2 := [.blk 0, .code [] 2]) (fun (v1, v2, v3) => ⟨[(0, .sl 2060 0), (1, .i v1), (5, .i v2)], [(2060, .arr 44 0 0 (.rats v3))]⟩) (fun x e σ' => match x with | (v4, v5) => e = .exit 0 ∧ σ' = ⟨[(1, .i v4)], [(2060, .arr 44 0 0 (.rats v5))]⟩) hk4 rfl rfl ?_ ?_
  · intro s x hs
    clear h
    have h := hs
    clear hs
    obtain ⟨v1, v2, v3⟩ := s
    refine Tri.u 1 [] [.keep [0, 1, 5, 9] [2060]] [.code [(1, 0), (1, 0), (0, 0), (0, 0)] 1, .code [(1, 0), (1, 0), (0, 0)] 1] ⟨[(0, .sl 2060 0), (1, .i v1), (5, .i v2), (9, .bool (decide (v2 < (v3.length : Int))))], [(2060, .arr 44 0 0 (.rats v3))]⟩ rfl trivial rfl ?_
    rcases bif_some h with ⟨hd1, h⟩ | ⟨hd1, h⟩
    · obtain ⟨hg2, h⟩ := grd_some h
      refine Tri.u 3 [.g true] [.keep [0, 1, 5] [2060]] [.code [(1, 0), (1, 0), (0, 0), (1, 0), (0, 0), (2, 0)] 0, .code [(1, 0), (1, 0), (0, 0), (1, 0), (0, 0)] 3, .blk 1, .code [(1, 0), (1, 0), (0, 0)] 2] ⟨[(0, .sl 2060 0), (1, .i (IntKind.i64.wrap (v1 + (1 : Int)))), (5, .i v2)], [(2060, .arr 44 0 0 (.rats (v3.set v2.toNat ⟨v1, (v3.getD v2.toNat ⟨0, 0⟩).den⟩)))]⟩ rfl ⟨hg2, hd1, trivial⟩ rfl ?_
      obtain ⟨hg3, h⟩ := grd_some h
      refine Tri.u 3 [] [.keep [0, 1, 5] [2060]] [] ⟨[(0, .sl 2060 0), (1, .i (IntKind.i64.wrap ((IntKind.i64.wrap (v1 + (1 : Int))) + (1 : Int)))), (5, .i (IntKind.i64.wrap (v2 + (1 : Int))))], [(2060, .arr 44 0 0 (.rats ((v3.set v2.toNat ⟨v1, (v3.getD v2.toNat ⟨0, 0⟩).den⟩).set v2.toNat ⟨((v3.set v2.toNat ⟨v1, (v3.getD v2.toNat ⟨0, 0⟩).den⟩).getD v2.toNat ⟨0, 0⟩).num, IntKind.i64.wrap (v1 + (1 : Int))⟩)))]⟩ rfl ⟨hg3, trivial⟩ rfl ?_
      cases h
      exact Tri.nil ⟨rfl, rfl⟩
    · refine Tri.u 1 [.g false] [.keep [1] [2060]] [.code [(1, 0), (1, 0), (0, 0), (0, 0), (1, 1)] 0, .code [(1, 0), (1, 0), (0, 0)] 1] ⟨[(1, .i v1)], [(2060, .arr 44 0 0 (.rats v3))]⟩ rfl ⟨hd1, trivial⟩ rfl ?_
      cases h
      exact Tri.out 0 rfl ⟨nofun, rfl, rfl⟩
  · intro e σ' hne hq
    obtain ⟨v4, v5⟩ := x1
    obtain ⟨rfl, rfl⟩ := hq
    refine TriX.exit (K' := [.code [] 2]) rfl ?_
    refine Tri.u 1 [] [.keep [4] [2060]] [.code [] 3] ⟨[(4, .i v4)], [(2060, .arr 44 0 0 (.rats v5))]⟩ rfl trivial rfl ?_
    cases h
    exact Tri.ret rfl ⟨.inl rfl, rfl, rfl⟩
/-! laws.heldRatS -/
noncomputable def E15_laws_heldRatS : Env := ⟨Try.prog, tys, (Try.f15.body).getD .skip, 31, tysOk, mixedOk⟩
abbrev q_laws_heldRatS (r : Int) (σ' : ASt) : Prop := isRes E15_laws_heldRatS.T Try.f15 (.i r) [] σ'
noncomputable def l_laws_heldRatS_0 (a0 : List Q) : (Int × Int) → Option ((Int × Int) ⊕ (Int ⊕ Int))
  | (v1, v2) => (
bif decide (v2 < (a0.length : Int)) then
(grd ((0 : Int) ≤ v2 ∧ v2 < (a0.length : Int)) <|
bif ((a0.getD v2.toNat ⟨0, 0⟩).num) != v1 then
(some (.inr (.inr (-1 : Int))))
else
(grd ((0 : Int) ≤ v2 ∧ v2 < (a0.length : Int)) <|
bif ((a0.getD v2.toNat ⟨0, 0⟩).den) != (IntKind.i64.wrap (v1 + (1 : Int))) then
(some (.inr (.inr (-1 : Int))))
else
(some (.inl (IntKind.i64.wrap ((IntKind.i64.wrap (v1 + (1 : Int))) + (1 : Int)), IntKind.i64.wrap (v2 + (1 : Int)))))))
else
(some (.inr (.inl v1))))
noncomputable def m_laws_heldRatS (a0 : List Q) (a1 : Int) : Option Int :=
(iter (l_laws_heldRatS_0 a0) (a1, (0 : Int))).bind fun
| (.inl v3) => (
some v3)
| (.inr r) => some r
theorem w_laws_heldRatS (a0 : List Q) (a1 : Int) (r : Int) (h : m_laws_heldRatS a0 a1 = some r) : AM.Spec Try.prog 15 [.list (.rats a0), .i a1] [] (.i r) [] := by
  refine spec_of (E := E15_laws_heldRatS) Try.func15 rfl rfl rfl rfl ?_
  refine Tri.u 2 [] [.keep [0, 1, 5] []] [.code [(1, 0), (1, 0)] 0, .blk 0, .code [] 2] ⟨[(0, .list (.rats a0)), (1, .i a1), (5, .i (0 : Int))], []⟩ rfl trivial rfl ?_
  obtain ⟨x1, hk6, h⟩ := bind_some h
  refine Tri.loop (K1 := [.code [(1, 0), (1, 0), (0, 0)] 0]) (K2 := [.blk 0, .code [] 2]) (fun (v1, v2) => ⟨[(0, .list (.rats a0)), (1, .i v1), (5, .i v2)], []⟩) (fun x e σ' => match x with | (.inl v3) => e = .exit 0 ∧ σ' = ⟨[(1, .i v3)], []⟩ | (.inr r) => e = .ret ∧ q_laws_heldRatS r σ') hk6 rfl rfl ?_ ?_
  · intro s x hs
    clear h
    have h := hs
    clear hs
    obtain ⟨v1, v2⟩ := s
    refine Tri.u 1 [] [.keep [0, 1, 5, 9] []] [.code [(1, 0), (1, 0), (0, 0), (0, 0)] 1, .code [(1, 0), (1, 0), (0, 0)] 1] ⟨[(0, .list (.rats a0)), (1, .i v1), (5, .i v2), (9, .bool (decide (v2 < (a0.length : Int))))], []⟩ rfl trivial rfl ?_
    rcases bif_some h with ⟨hd1, h⟩ | ⟨hd1, h⟩
    · obtain ⟨hg2, h⟩ := grd_some h
      refine Tri.u 2 [.g true] [.keep [0, 1, 5, 18] []] [.code [(1, 0), (1, 0), (0, 0), (1, 0), (0, 0), (0, 0)] 1, .code [(1, 0), (1, 0), (0, 0), (1, 0), (0, 0)] 1, .blk 1, .code [(1, 0), (1, 0), (0, 0)] 2] ⟨[(0, .list (.rats a0)), (1, .i v1), (5, .i v2), (18, .bool (((a0.getD v2.toNat ⟨0, 0⟩).num) != v1))], []⟩ rfl ⟨hg2, hd1, trivial⟩ rfl ?_
      rcases bif_some h with ⟨hd3, h⟩ | ⟨hd3, h⟩
      · refine Tri.u 2 [.g true] [.keep [4] []] [.code [(1, 0), (1, 0), (0, 0), (1, 0), (0, 0), (0, 0), (1, 0)] 1, .code [(1, 0), (1, 0), (0, 0), (1, 0), (0, 0)] 1, .blk 1, .code [(1, 0), (1, 0), (0, 0)] 2] ⟨[(4, .i (-1 : Int))], []⟩ rfl ⟨hd3, trivial⟩ rfl ?_
        cases h
        exact Tri.ret rfl ⟨nofun, rfl, rfl, rfl⟩
      · obtain ⟨hg4, h⟩ := grd_some h
        refine Tri.u 3 [.g false] [.keep [0, 1, 5, 27] []] [.code [(1, 0), (1, 0), (0, 0), (1, 0), (0, 0), (2, 0)] 1, .code [(1, 0), (1, 0), (0, 0), (1, 0), (0, 0)] 3, .blk 1, .code [(1, 0), (1, 0), (0, 0)] 2] ⟨[(0, .list (.rats a0)), (1, .i (IntKind.i64.wrap (v1 + (1 : Int)))), (5, .i v2), (27, .bool (((a0.getD v2.toNat ⟨0, 0⟩).den) != (IntKind.i64.wrap (v1 + (1 : Int)))))], []⟩ rfl ⟨hg4, hd3, trivial⟩ rfl ?_
        rcases bif_some h with ⟨hd5, h⟩ | ⟨hd5, h⟩
        · refine Tri.u 2 [.g true] [.keep [4] []] [.code [(1, 0), (1, 0), (0, 0), (1, 0), (0, 0), (2, 0), (1, 0)] 1, .code [(1, 0), (1, 0), (0, 0), (1, 0), (0, 0)] 3, .blk 1, .code [(1, 0), (1, 0), (0, 0)] 2] ⟨[(4, .i (-1 : Int))], []⟩ rfl ⟨hd5, trivial⟩ rfl ?_
          cases h
          exact Tri.ret rfl ⟨nofun, rfl, rfl, rfl⟩
        · refine Tri.u 3 [.g false] [.keep [0, 1, 5] []] [] ⟨[(0, .list (.rats a0)), (1, .i (IntKind.i64.wrap ((IntKind.i64.wrap (v1 + (1 : Int))) + (1 : Int)))), (5, .i (IntKind.i64.wrap (v2 + (1 : Int))))], []⟩ rfl ⟨hd5, trivial⟩ rfl ?_
          cases h
          exact Tri.nil ⟨rfl, rfl⟩
    · refine Tri.u 1 [.g false] [.keep [1] []] [.code [(1, 0), (1, 0), (0, 0), (0, 0), (1, 1)] 0, .code [(1, 0), (1, 0), (0, 0)] 1] ⟨[(1, .i v1)], []⟩ rfl ⟨hd1, trivial⟩ rfl ?_
      cases h
      exact Tri.out 0 rfl ⟨nofun, rfl, rfl⟩
  · intro e σ' hne hq
    rcases x1 with v3 | r
    · obtain ⟨rfl, rfl⟩ := hq
      refine TriX.exit (K' := [.code [] 2]) rfl ?_
      refine Tri.u 1 [] [.keep [4] []] [.code [] 3] ⟨[(4, .i v3)], []⟩ rfl trivial rfl ?_
      cases h
      exact Tri.ret rfl ⟨.inl rfl, rfl, rfl⟩
    · obtain ⟨rfl, hq⟩ := hq
      cases h
      exact TriX.ret ⟨.inl rfl, hq⟩
/-! laws.FnExactExcessVector -/
noncomputable def E3_laws_FnExactExcessVector : Env := ⟨Try.prog, tys, (Try.f3.body).getD .skip, 92, tysOk, mixedOk⟩
abbrev q_laws_FnExactExcessVector (r : Bool) (σ' : ASt) : Prop := isRes E3_laws_FnExactExcessVector.T Try.f3 (.bool r) [] σ'
noncomputable def m_laws_FnExactExcessVector (a0 : Int) (a1 : List Int) (a2 : List Q) : Option Bool :=
(m_laws_szGame a0 a1 (1048576 : Int)).bind fun v1 =>
bif decide (v1 < (0 : Int)) then
(some true)
else
((m_laws_szRatS a2 v1).bind fun v2 =>
bif decide (v2 < (0 : Int)) then
(some true)
else
((m_laws_toGame a0 a1).bind fun (v3, v4) =>
(m_laws_toRatS a2).bind fun v5 =>
(m_spec_ExcessVector v3 v4 v5).bind fun v6 =>
(m_laws_toGame a0 a1).bind fun (v7, v8) =>
(m_laws_toRatS a2).bind fun v9 =>
(m_impl_ExcessVector v7 v8 v9).bind fun v10 =>
(m_laws_eqRatS v10 v6).bind fun v11 =>
bif !v11 then
(some false)
else
((m_laws_toGame a0 a1).bind fun (v12, v13) =>
(m_laws_eqGame v7 v8 v12 v13).bind fun v14 =>
bif !v14 then
(some false)
else
((m_laws_toRatS a2).bind fun v15 =>
(m_laws_eqRatS v9 v15).bind fun v16 =>
bif !v16 then
(some false)
else
((m_laws_markGame_io1 v7 v8 (1 : Int)).bind fun (v17, _) =>
(m_laws_markRatS_io1 v9 v17).bind fun (v19, _) =>
bif decide (v19 < (0 : Int)) then
(some false)
else
((m_laws_eqRatS v10 v6).bind fun v21 =>
bif !v21 then
(some false)
else
((m_laws_markRatS_io1 v10 (1 : Int)).bind fun (v22, v23) =>
(m_laws_heldRatS v23 (1 : Int)).bind fun v24 =>
bif decide (v24 < (0 : Int)) then
(some false)
else
(bif v24 != v22 then
(some false)
else
((m_laws_toGame a0 a1).bind fun (v25, v26) =>
(m_laws_toRatS a2).bind fun v27 =>
(m_impl_ExcessVector v25 v26 v27).bind fun v28 =>
(m_laws_eqRatS v28 v6).bind fun v29 =>
bif !v29 then
(some false)
else
((m_laws_heldRatS v23 (1 : Int)).bind fun v30 =>
bif decide (v30 < (0 : Int)) then
(some false)
else
(bif v30 != v22 then
(some false)
else
(some true))))))))))))
theorem w_laws_FnExactExcessVector (a0 : Int) (a1 : List Int) (a2 : List Q) (r : Bool) (h : m_laws_FnExactExcessVector a0 a1 a2 = some r) : AM.Spec Try.prog 3 [.agg [.i a0, .list (.ints a1)], .list (.rats a2)] [] (.bool r) [] := by
  refine spec_of (E := E3_laws_FnExactExcessVector) Try.func3 rfl rfl rfl rfl ?_
  refine Tri.u 2 [] [.keep [1, 2, 5] [2]] [.code [(2, 0)] 0, .code [] 3] ⟨[(1, .list (.rats a2)), (2, .ptr 2 0), (5, .i (1048576 : Int))], [(2, .box [.i a0, .list (.ints a1)])]⟩ rfl trivial rfl ?_
  obtain ⟨v1, hk1, h⟩ := bind_some h
  refine Tri.u 2 [.r ⟨[], .i v1, []⟩] [.keep [1, 2, 5, 18] [2]] [.code [(3, 0)] 1, .code [] 4] ⟨[(1, .list (.rats a2)), (2, .ptr 2 0), (5, .i v1), (18, .bool (decide (v1 < (0 : Int))))], [(2, .box [.i a0, .list (.ints a1)])]⟩ rfl ⟨(fun _ => (w_laws_szGame a0 a1 (1048576 : Int) v1 hk1)), trivial⟩ rfl ?_
  rcases bif_some h with ⟨hd2, h⟩ | ⟨hd2, h⟩
  · refine Tri.u 2 [.g true] [.keep [4] []] [.code [(3, 0), (1, 0)] 1, .code [] 4] ⟨[(4, .bool true)], []⟩ rfl ⟨hd2, trivial⟩ rfl ?_
    cases h
    exact Tri.ret rfl ⟨.inl rfl, rfl, rfl⟩
  · obtain ⟨v2, hk3, h⟩ := bind_some h
    refine Tri.u 3 [.g false, .r ⟨[], .i v2, []⟩] [.keep [1, 2, 23] [2]] [.code [(5, 0)] 1, .code [] 6] ⟨[(1, .list (.rats a2)), (2, .ptr 2 0), (23, .bool (decide (v2 < (0 : Int))))], [(2, .box [.i a0, .list (.ints a1)])]⟩ rfl ⟨(fun _ => (w_laws_szRatS a2 v1 v2 hk3)), hd2, trivial⟩ rfl ?_
    rcases bif_some h with ⟨hd4, h⟩ | ⟨hd4, h⟩
    · refine Tri.u 2 [.g true] [.keep [4] []] [.code [(5, 0), (1, 0)] 1, .code [] 6] ⟨[(4, .bool true)], []⟩ rfl ⟨hd4, trivial⟩ rfl ?_
      cases h
      exact Tri.ret rfl ⟨.inl rfl, rfl, rfl⟩
    · obtain ⟨⟨v3, v4⟩, hk5, h⟩ := bind_some h
      obtain ⟨v5, hk6, h⟩ := bind_some h
      obtain ⟨v6, hk7, h⟩ := bind_some h
      refine Tri.u 2 [.g false, .r ⟨[], .agg [.i v3, .sl 1100 0], [(1100, .arr 3 0 0 (.ints v4))]⟩, .r ⟨[], .sl 1101 0, [(1101, .arr 44 0 0 (.rats v5))]⟩, .r ⟨[], .sl 1102 0, [(1102, .arr 44 0 0 (.rats v6))]⟩] [.keep [1, 2, 6] [2, 1102]] [.code [(7, 0)] 0, .code [] 8] ⟨[(1, .list (.rats a2)), (2, .ptr 2 0), (6, .sl 1102 0)], [(2, .box [.i a0, .list (.ints a1)]), (1102, .arr 44 0 0 (.rats v6))]⟩ rfl ⟨(fun _ => ((w_spec_ExcessVector v3 v4 v5 v6 hk7).swap 1000 1102)), (fun _ => ((w_laws_toRatS a2 v5 hk6).swap 1000 1101)), (fun _ => ((w_laws_toGame a0 a1 (v3, v4) hk5).swap 1000 1100)), hd4, trivial⟩ rfl ?_
      obtain ⟨⟨v7, v8⟩, hk8, h⟩ := bind_some h
      obtain ⟨v9, hk9, h⟩ := bind_some h
      refine Tri.u 2 [.r ⟨[], .agg [.i v7, .sl 1103 0], [(1103, .arr 3 0 0 (.ints v8))]⟩, .r ⟨[], .sl 1104 0, [(1104, .arr 44 0 0 (.rats v9))]⟩] [.keep [1, 2, 6, 7, 8] [2, 7, 1102, 1103, 1104]] [.code [(9, 0)] 0, .code [] 10] ⟨[(1, .list (.rats a2)), (2, .ptr 2 0), (6, .sl 1102 0), (7, .ptr 7 0), (8, .sl 1104 0)], [(2, .box [.i a0, .list (.ints a1)]), (7, .box [.i v7, .sl 1103 0]), (1102, .arr 44 0 0 (.rats v6)), (1103, .arr 3 0 0 (.ints v8)), (1104, .arr 44 0 0 (.rats v9))]⟩ rfl ⟨(fun _ => ((w_laws_toRatS a2 v9 hk9).swap 1000 1104)), (fun _ => ((w_laws_toGame a0 a1 (v7, v8) hk8).swap 1000 1103)), trivial⟩ rfl ?_
      obtain ⟨v10, hk10, h⟩ := bind_some h
      obtain ⟨v11, hk11, h⟩ := bind_some h
      refine Tri.u 2 [.r ⟨[], .sl 1105 0, [(1105, .arr 44 0 0 (.rats v10))]⟩, .r ⟨[], .bool v11, []⟩] [.keep [1, 2, 6, 7, 8, 9, 39] [2, 7, 1102, 1103, 1104, 1105]] [.code [(10, 0)] 1, .code [] 11] ⟨[(1, .list (.rats a2)), (2, .ptr 2 0), (6, .sl 1102 0), (7, .ptr 7 0), (8, .sl 1104 0), (9, .sl 1105 0), (39, .bool (!v11))], [(2, .box [.i a0, .list (.ints a1)]), (7, .box [.i v7, .sl 1103 0]), (1102, .arr 44 0 0 (.rats v6)), (1103, .arr 3 0 0 (.ints v8)), (1104, .arr 44 0 0 (.rats v9)), (1105, .arr 44 0 0 (.rats v10))]⟩ rfl ⟨(fun _ => (w_laws_eqRatS v10 v6 v11 hk11)), (fun _ => ((w_impl_ExcessVector v7 v8 v9 v10 hk10).swap 1000 1105)), trivial⟩ rfl ?_
      rcases bif_some h with ⟨hd12, h⟩ | ⟨hd12, h⟩
      · refine Tri.u 2 [.g true] [.keep [4] []] [.code [(10, 0), (1, 0)] 1, .code [] 11] ⟨[(4, .bool false)], []⟩ rfl ⟨hd12, trivial⟩ rfl ?_
        cases h
        exact Tri.ret rfl ⟨.inl rfl, rfl, rfl⟩
      · obtain ⟨⟨v12, v13⟩, hk13, h⟩ := bind_some h
        obtain ⟨v14, hk14, h⟩ := bind_some h
        refine Tri.u 2 [.g false, .r ⟨[], .agg [.i v12, .sl 1106 0], [(1106, .arr 3 0 0 (.ints v13))]⟩, .r ⟨[], .bool v14, []⟩] [.keep [1, 2, 6, 7, 8, 9, 44] [2, 7, 1102, 1103, 1104, 1105]] [.code [(11, 0)] 1, .code [] 12] ⟨[(1, .list (.rats a2)), (2, .ptr 2 0), (6, .sl 1102 0), (7, .ptr 7 0), (8, .sl 1104 0), (9, .sl 1105 0), (44, .bool (!v14))], [(2, .box [.i a0, .list (.ints a1)]), (7, .box [.i v7, .sl 1103 0]), (1102, .arr 44 0 0 (.rats v6)), (1103, .arr 3 0 0 (.ints v8)), (1104, .arr 44 0 0 (.rats v9)), (1105, .arr 44 0 0 (.rats v10))]⟩ rfl ⟨(fun _ => (w_laws_eqGame v7 v8 v12 v13 v14 hk14)), (fun _ => ((w_laws_toGame a0 a1 (v12, v13) hk13).swap 1000 1106)), hd12, trivial⟩ rfl ?_
        rcases bif_some h with ⟨hd15, h⟩ | ⟨hd15, h⟩
        · refine Tri.u 2 [.g true] [.keep [4] []] [.code [(11, 0), (1, 0)] 1, .code [] 12] ⟨[(4, .bool false)], []⟩ rfl ⟨hd15, trivial⟩ rfl ?_
          cases h
          exact Tri.ret rfl ⟨.inl rfl, rfl, rfl⟩
        · obtain ⟨v15, hk16, h⟩ := bind_some h
          obtain ⟨v16, hk17, h⟩ := bind_some h
          refine Tri.u 2 [.g false, .r ⟨[], .sl 1107 0, [(1107, .arr 44 0 0 (.rats v15))]⟩, .r ⟨[], .bool v16, []⟩] [.keep [1, 2, 6, 7, 8, 9, 49] [2, 7, 1102, 1103, 1104, 1105]] [.code [(12, 0)] 1, .code [] 13] ⟨[(1, .list (.rats a2)), (2, .ptr 2 0), (6, .sl 1102 0), (7, .ptr 7 0), (8, .sl 1104 0), (9, .sl 1105 0), (49, .bool (!v16))], [(2, .box [.i a0, .list (.ints a1)]), (7, .box [.i v7, .sl 1103 0]), (1102, .arr 44 0 0 (.rats v6)), (1103, .arr 3 0 0 (.ints v8)), (1104, .arr 44 0 0 (.rats v9)), (1105, .arr 44 0 0 (.rats v10))]⟩ rfl ⟨(fun _ => (w_laws_eqRatS v9 v15 v16 hk17)), (fun _ => ((w_laws_toRatS a2 v15 hk16).swap 1000 1107)), hd15, trivial⟩ rfl ?_
          rcases bif_some h with ⟨hd18, h⟩ | ⟨hd18, h⟩
          · refine Tri.u 2 [.g true] [.keep [4] []] [.code [(12, 0), (1, 0)] 1, .code [] 13] ⟨[(4, .bool false)], []⟩ rfl ⟨hd18, trivial⟩ rfl ?_
            cases h
            exact Tri.ret rfl ⟨.inl rfl, rfl, rfl⟩
          · refine Tri.u 2 [.g false] [.keep [1, 2, 6, 7, 8, 9, 10] [2, 7, 1102, 1103, 1104, 1105]] [.code [(14, 0)] 0, .code [] 15] ⟨[(1, .list (.rats a2)), (2, .ptr 2 0), (6, .sl 1102 0), (7, .ptr 7 0), (8, .sl 1104 0), (9, .sl 1105 0), (10, .i (1 : Int))], [(2, .box [.i a0, .list (.ints a1)]), (7, .box [.i v7, .sl 1103 0]), (1102, .arr 44 0 0 (.rats v6)), (1103, .arr 3 0 0 (.ints v8)), (1104, .arr 44 0 0 (.rats v9)), (1105, .arr 44 0 0 (.rats v10))]⟩ rfl ⟨hd18, trivial⟩ rfl ?_
            obtain ⟨⟨v17, v18⟩, hk19, h⟩ := bind_some h
            obtain ⟨⟨v19, v20⟩, hk20, h⟩ := bind_some h
            refine Tri.u 2 [.r ⟨[1103], .i v17, [(1103, .arr 3 0 0 (.ints v18))]⟩, .r ⟨[1104], .i v19, [(1104, .arr 44 0 0 (.rats v20))]⟩] [.keep [1, 2, 6, 9, 10] [2, 1102, 1105]] [.code [(16, 0), (0, 0)] 0, .code [(16, 0)] 1, .code [] 17] ⟨[(1, .list (.rats a2)), (2, .ptr 2 0), (6, .sl 1102 0), (9, .sl 1105 0), (10, .i v19)], [(2, .box [.i a0, .list (.ints a1)]), (1102, .arr 44 0 0 (.rats v6)), (1105, .arr 44 0 0 (.rats v10))]⟩ rfl ⟨(fun _ => ((w_laws_markRatS_io1 v9 v17 (v19, v20) hk20).swap 2060 1104)), (fun _ => ((w_laws_markGame_io1 v7 v8 (1 : Int) (v17, v18) hk19).swap 2020 1103)), trivial⟩ rfl ?_
            rcases bif_some h with ⟨hd21, h⟩ | ⟨hd21, h⟩
            · refine Tri.u 1 [.g true] [.keep [1, 2, 6, 9, 63] [2, 1102, 1105]] [.code [(16, 0)] 1, .code [] 17] ⟨[(1, .list (.rats a2)), (2, .ptr 2 0), (6, .sl 1102 0), (9, .sl 1105 0), (63, .bool true)], [(2, .box [.i a0, .list (.ints a1)]), (1102, .arr 44 0 0 (.rats v6)), (1105, .arr 44 0 0 (.rats v10))]⟩ rfl ⟨hd21, trivial⟩ rfl ?_
              refine Tri.u 2 [.g true] [.keep [4] []] [.code [(16, 0), (1, 0)] 1, .code [] 17] ⟨[(4, .bool false)], []⟩ rfl ⟨rfl, trivial⟩ rfl ?_
              cases h
              exact Tri.ret rfl ⟨.inl rfl, rfl, rfl⟩
            · obtain ⟨v21, hk22, h⟩ := bind_some h
              refine Tri.u 1 [.g false, .r ⟨[], .bool v21, []⟩] [.keep [1, 2, 6, 9, 63] [2, 1102, 1105]] [.code [(16, 0)] 1, .code [] 17] ⟨[(1, .list (.rats a2)), (2, .ptr 2 0), (6, .sl 1102 0), (9, .sl 1105 0), (63, .bool (!v21))], [(2, .box [.i a0, .list (.ints a1)]), (1102, .arr 44 0 0 (.rats v6)), (1105, .arr 44 0 0 (.rats v10))]⟩ rfl ⟨(fun _ => (w_laws_eqRatS v10 v6 v21 hk22)), hd21, trivial⟩ rfl ?_
              rcases bif_some h with ⟨hd23, h⟩ | ⟨hd23, h⟩
              · refine Tri.u 2 [.g true] [.keep [4] []] [.code [(16, 0), (1, 0)] 1, .code [] 17] ⟨[(4, .bool false)], []⟩ rfl ⟨hd23, trivial⟩ rfl ?_
                cases h
                exact Tri.ret rfl ⟨.inl rfl, rfl, rfl⟩
              · refine Tri.u 2 [.g false] [.keep [1, 2, 6, 9, 11] [2, 1102, 1105]] [.code [(18, 0)] 0, .code [] 19] ⟨[(1, .list (.rats a2)), (2, .ptr 2 0), (6, .sl 1102 0), (9, .sl 1105 0), (11, .i (1 : Int))], [(2, .box [.i a0, .list (.ints a1)]), (1102, .arr 44 0 0 (.rats v6)), (1105, .arr 44 0 0 (.rats v10))]⟩ rfl ⟨hd23, trivial⟩ rfl ?_
                obtain ⟨⟨v22, v23⟩, hk24, h⟩ := bind_some h
                refine Tri.u 2 [.r ⟨[1105], .i v22, [(1105, .arr 44 0 0 (.rats v23))]⟩] [.keep [1, 2, 6, 9, 11, 12] [2, 1102, 1105]] [.code [(20, 0)] 0, .code [] 21] ⟨[(1, .list (.rats a2)), (2, .ptr 2 0), (6, .sl 1102 0), (9, .sl 1105 0), (11, .i v22), (12, .i (1 : Int))], [(2, .box [.i a0, .list (.ints a1)]), (1102, .arr 44 0 0 (.rats v6)), (1105, .arr 44 0 0 (.rats v23))]⟩ rfl ⟨(fun _ => ((w_laws_markRatS_io1 v10 (1 : Int) (v22, v23) hk24).swap 2060 1105)), trivial⟩ rfl ?_
                obtain ⟨v24, hk25, h⟩ := bind_some h
                refine Tri.u 2 [.r ⟨[], .i v24, []⟩] [.keep [1, 2, 6, 9, 11, 12, 71] [2, 1102, 1105]] [.code [(21, 0)] 1, .code [] 22] ⟨[(1, .list (.rats a2)), (2, .ptr 2 0), (6, .sl 1102 0), (9, .sl 1105 0), (11, .i v22), (12, .i v24), (71, .bool (decide (v24 < (0 : Int))))], [(2, .box [.i a0, .list (.ints a1)]), (1102, .arr 44 0 0 (.rats v6)), (1105, .arr 44 0 0 (.rats v23))]⟩ rfl ⟨(fun _ => (w_laws_heldRatS v23 (1 : Int) v24 hk25)), trivial⟩ rfl ?_
                rcases bif_some h with ⟨hd26, h⟩ | ⟨hd26, h⟩
                · refine Tri.u 2 [.g true] [.keep [4] []] [.code [(21, 0), (1, 0)] 1, .code [] 22] ⟨[(4, .bool false)], []⟩ rfl ⟨hd26, trivial⟩ rfl ?_
                  cases h
                  exact Tri.ret rfl ⟨.inl rfl, rfl, rfl⟩
                · refine Tri.u 2 [.g false] [.keep [1, 2, 6, 9, 11, 74] [2, 1102, 1105]] [.code [(22, 0)] 1, .code [] 23] ⟨[(1, .list (.rats a2)), (2, .ptr 2 0), (6, .sl 1102 0), (9, .sl 1105 0), (11, .i v22), (74, .bool (v24 != v22))], [(2, .box [.i a0, .list (.ints a1)]), (1102, .arr 44 0 0 (.rats v6)), (1105, .arr 44 0 0 (.rats v23))]⟩ rfl ⟨hd26, trivial⟩ rfl ?_
                  rcases bif_some h with ⟨hd27, h⟩ | ⟨hd27, h⟩
                  · refine Tri.u 2 [.g true] [.keep [4] []] [.code [(22, 0), (1, 0)] 1, .code [] 23] ⟨[(4, .bool false)], []⟩ rfl ⟨hd27, trivial⟩ rfl ?_
                    cases h
                    exact Tri.ret rfl ⟨.inl rfl, rfl, rfl⟩
                  · obtain ⟨⟨v25, v26⟩, hk28, h⟩ := bind_some h
                    obtain ⟨v27, hk29, h⟩ := bind_some h
                    obtain ⟨v28, hk30, h⟩ := bind_some h
                    refine Tri.u 2 [.g false, .r ⟨[], .agg [.i v25, .sl 1108 0], [(1108, .arr 3 0 0 (.ints v26))]⟩, .r ⟨[], .sl 1109 0, [(1109, .arr 44 0 0 (.rats v27))]⟩, .r ⟨[], .sl 1110 0, [(1110, .arr 44 0 0 (.rats v28))]⟩] [.keep [6, 9, 11, 13] [1102, 1105, 1110]] [.code [(24, 0), (0, 0)] 0, .code [(24, 0)] 1, .code [] 25] ⟨[(6, .sl 1102 0), (9, .sl 1105 0), (11, .i v22), (13, .sl 1110 0)], [(1102, .arr 44 0 0 (.rats v6)), (1105, .arr 44 0 0 (.rats v23)), (1110, .arr 44 0 0 (.rats v28))]⟩ rfl ⟨(fun _ => ((w_impl_ExcessVector v25 v26 v27 v28 hk30).swap 1000 1110)), (fun _ => ((w_laws_toRatS a2 v27 hk29).swap 1000 1109)), (fun _ => ((w_laws_toGame a0 a1 (v25, v26) hk28).swap 1000 1108)), hd27, trivial⟩ rfl ?_
                    obtain ⟨v29, hk31, h⟩ := bind_some h
                    refine Tri.u 1 [.r ⟨[], .bool v29, []⟩] [.keep [9, 11, 83] [1105]] [.code [(24, 0)] 1, .code [] 25] ⟨[(9, .sl 1105 0), (11, .i v22), (83, .bool (!v29))], [(1105, .arr 44 0 0 (.rats v23))]⟩ rfl ⟨(fun _ => (w_laws_eqRatS v28 v6 v29 hk31)), trivial⟩ rfl ?_
                    rcases bif_some h with ⟨hd32, h⟩ | ⟨hd32, h⟩
                    · refine Tri.u 2 [.g true] [.keep [4] []] [.code [(24, 0), (1, 0)] 1, .code [] 25] ⟨[(4, .bool false)], []⟩ rfl ⟨hd32, trivial⟩ rfl ?_
                      cases h
                      exact Tri.ret rfl ⟨.inl rfl, rfl, rfl⟩
                    · refine Tri.u 2 [.g false] [.keep [9, 11, 12] [1105]] [.code [(26, 0)] 0, .code [] 27] ⟨[(9, .sl 1105 0), (11, .i v22), (12, .i (1 : Int))], [(1105, .arr 44 0 0 (.rats v23))]⟩ rfl ⟨hd32, trivial⟩ rfl ?_
                      obtain ⟨v30, hk33, h⟩ := bind_some h
                      refine Tri.u 2 [.r ⟨[], .i v30, []⟩] [.keep [11, 12, 88] []] [.code [(27, 0)] 1, .code [] 28] ⟨[(11, .i v22), (12, .i v30), (88, .bool (decide (v30 < (0 : Int))))], []⟩ rfl ⟨(fun _ => (w_laws_heldRatS v23 (1 : Int) v30 hk33)), trivial⟩ rfl ?_
                      rcases bif_some h with ⟨hd34, h⟩ | ⟨hd34, h⟩
                      · refine Tri.u 2 [.g true] [.keep [4] []] [.code [(27, 0), (1, 0)] 1, .code [] 28] ⟨[(4, .bool false)], []⟩ rfl ⟨hd34, trivial⟩ rfl ?_
                        cases h
                        exact Tri.ret rfl ⟨.inl rfl, rfl, rfl⟩
                      · refine Tri.u 2 [.g false] [.keep [91] []] [.code [(28, 0)] 1, .code [] 29] ⟨[(91, .bool (v30 != v22))], []⟩ rfl ⟨hd34, trivial⟩ rfl ?_
                        rcases bif_some h with ⟨hd35, h⟩ | ⟨hd35, h⟩
                        · refine Tri.u 2 [.g true] [.keep [4] []] [.code [(28, 0), (1, 0)] 1, .code [] 29] ⟨[(4, .bool false)], []⟩ rfl ⟨hd35, trivial⟩ rfl ?_
                          cases h
                          exact Tri.ret rfl ⟨.inl rfl, rfl, rfl⟩
                        · refine Tri.u 2 [.g false] [.keep [4] []] [.code [] 30] ⟨[(4, .bool true)], []⟩ rfl ⟨hd35, trivial⟩ rfl ?_
                          cases h
                          exact Tri.ret rfl ⟨.inl rfl, rfl, rfl⟩
end Go.Proofs.Ytnbkkljhdnkiaaa
