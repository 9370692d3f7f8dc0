/- models and walks -/
import Derived.Test.YtmlfjoppaciknaaProg
import Derived.Test.YtmlfjoppaciknaaAmB
namespace Go.Proofs.Ytmlfjoppaciknaa
open Go.AM
set_option maxRecDepth 100000
set_option maxHeartbeats 4000000
noncomputable def tys : TEnv := [(3, .int .i64),
  (4, .bool),
  (5, .int .u8),
  (22, .slice 5 (.bytes [])),
  (24, .slice 3 (.ints [])),
  (26, .struct [(0, 3), (1, 24)] [.int .i64 0, .nil (.ints [])] false),
  (50, .slice 54 (.rats [])),
  (54, .struct [(0, 3), (1, 3)] [.int .i64 0, .int .i64 0] true),
  (82, .struct [(0, 22), (1, 3), (2, 3)] [.nil (.bytes []), .int .i64 0, .int .i64 0] false)]
theorem tysOk : TOk Try.prog tys := tok_of (by kernel_rfl)
theorem mixedOk : Try.prog.follows .mixedOrders = true := by kernel_rfl
/-! laws.big -/
noncomputable def E7_laws_big : Env := ⟨Try.prog, tys, (Try.f7.body).getD .skip, 6, tysOk, mixedOk⟩
abbrev q_laws_big (r : Bool) (σ' : ASt) : Prop := resAV E7_laws_big.T σ' Try.f7.results.toList = some (.bool r) ∧ keepO σ'.ob (namesO []) = []
noncomputable def m_laws_big (a0 : List UInt8) : Option Bool :=
some (decide ((a0.length : Int) > (1048576 : Int)))
theorem w_laws_big (a0 : List UInt8) (r : Bool) (h : m_laws_big a0 = some r) : AM.Spec Try.prog 7 [.list (.bytes a0)] [] (.bool r) [] := by
  refine spec_of (E := E7_laws_big) Try.func7 rfl rfl rfl rfl ?_
  refine Tri.run 2 [] [.keep [2] []] (K' := [.code [] 2]) (σ' := ⟨[(2, .bool (decide ((a0.length : Int) > (1048576 : Int))))], []⟩) rfl trivial rfl ?_
  have h := Option.some.inj h
  subst h
  exact Tri.ret rfl ⟨.inl rfl, rfl, rfl⟩
/-! spec.l1New -/
noncomputable def E55_spec_l1New : Env := ⟨Try.prog, tys, (Try.f55.body).getD .skip, 32, tysOk, mixedOk⟩
abbrev q_spec_l1New (r : (List UInt8) × Int × Int) (σ' : ASt) : Prop := resAV E55_spec_l1New.T σ' Try.f55.results.toList = some (.ptr 1000 0) ∧ keepO σ'.ob (namesO [(1000, .box [.list (.bytes r.1), .int .i64 r.2.1, .int .i64 r.2.2])]) = [(1000, .box [.list (.bytes r.1), .int .i64 r.2.1, .int .i64 r.2.2])]
noncomputable def l_spec_l1New_0 (a0 : List UInt8) : (Int × Int) → Option ((Int × Int) ⊕ Int)
  | (v1, v2) => (
bif decide (v2 < (a0.length : Int)) then
(bif decide (v2 < (4000 : Int)) then
(grd ((0 : Int) ≤ v2 ∧ v2 < (a0.length : Int)) <|
some (.inl (bitsOf .and .i64 (IntKind.i64.wrap ((IntKind.i64.wrap ((IntKind.i64.wrap (v1 * (131 : Int))) + (IntKind.i64.wrap (((a0.getD v2.toNat 0).toNat : Int))))) + (7 : Int))) (1073741823 : Int), IntKind.i64.wrap (v2 + (1 : Int)))))
else
(some (.inr v1)))
else
(some (.inr v1)))
noncomputable def m_spec_l1New (a0 : List UInt8) : Option ((List UInt8) × Int × Int) :=
(iter (l_spec_l1New_0 a0) (IntKind.i64.wrap ((26583 : Int) + (a0.length : Int)), (0 : Int))).bind fun
| v3 => (
some (a0, 0, v3))
theorem w_spec_l1New (a0 : List UInt8) (r : (List UInt8) × Int × Int) (h : m_spec_l1New a0 = some r) : AM.Spec Try.prog 55 [.list (.bytes a0)] [] (.ptr 1000 0) [(1000, .box [.list (.bytes r.1), .int .i64 r.2.1, .int .i64 r.2.2])] := by
  refine spec_of (E := E55_spec_l1New) Try.func55 rfl rfl rfl rfl ?_
  refine Tri.run 3 [] [.keep [0, 3, 4] []] (K' := [.code [(2, 0), (1, 0)] 0, .blk 0, .code [] 3]) (σ' := ⟨[(0, .list (.bytes a0)), (3, .int .i64 (IntKind.i64.wrap ((26583 : Int) + (a0.length : Int)))), (4, .int .i64 (0 : Int))], []⟩) rfl trivial rfl ?_
  obtain ⟨v3, hk4, h⟩ := bind_some h
  refine Tri.loop (K1 := [.code [(2, 0), (1, 0), (0, 0)] 0]) (K2 := [.blk 0, .code [] 3]) (fun (v1, v2) => ⟨[(0, .list (.bytes a0)), (3, .int .i64 v1), (4, .int .i64 v2)], []⟩) (fun x e σ' => match x with | v3 => e = .exit 0 ∧ σ' = ⟨[(0, .list (.bytes a0)), (3, .int .i64 v3)], []⟩) hk4 rfl rfl ?_ ?_
  · intro s x hs
    clear h
    have h := hs
    clear hs
    obtain ⟨v1, v2⟩ := s
    rcases bif_some h with ⟨hd1, h⟩ | ⟨hd1, h⟩
    · refine Tri.run 1 [.g true] [.keep [0, 3, 4, 15] []] (K' := [.code [(2, 0), (1, 0), (0, 0), (0, 0)] 1, .code [(2, 0), (1, 0), (0, 0)] 1]) (σ' := ⟨[(0, .list (.bytes a0)), (3, .int .i64 v1), (4, .int .i64 v2), (15, .bool (decide (v2 < (4000 : Int))))], []⟩) rfl ⟨hd1, trivial⟩ rfl ?_
      rcases bif_some h with ⟨hd2, h⟩ | ⟨hd2, h⟩
      · obtain ⟨hg3, h⟩ := grd_some h
        refine Tri.run 3 [.g true] [.keep [0, 3, 4] []] (K' := []) (σ' := ⟨[(0, .list (.bytes a0)), (3, .int .i64 (bitsOf .and .i64 (IntKind.i64.wrap ((IntKind.i64.wrap ((IntKind.i64.wrap (v1 * (131 : Int))) + (IntKind.i64.wrap (((a0.getD v2.toNat 0).toNat : Int))))) + (7 : Int))) (1073741823 : Int))), (4, .int .i64 (IntKind.i64.wrap (v2 + (1 : Int))))], []⟩) rfl ⟨hg3, hd2, trivial⟩ rfl ?_
        have h := Option.some.inj h
        subst h
        exact Tri.nil ⟨rfl, rfl⟩
      · refine Tri.run 1 [.g false] [.keep [0, 3] []] (K' := [.code [(2, 0), (1, 0), (0, 0), (0, 0), (1, 1)] 0, .code [(2, 0), (1, 0), (0, 0)] 1]) (σ' := ⟨[(0, .list (.bytes a0)), (3, .int .i64 v1)], []⟩) rfl ⟨hd2, trivial⟩ rfl ?_
        have h := Option.some.inj h
        subst h
        exact Tri.out 0 rfl ⟨nofun, rfl, rfl⟩
    · refine Tri.run 1 [.g false] [.keep [0, 3, 4, 15] []] (K' := [.code [(2, 0), (1, 0), (0, 0), (0, 0)] 1, .code [(2, 0), (1, 0), (0, 0)] 1]) (σ' := ⟨[(0, .list (.bytes a0)), (3, .int .i64 v1), (4, .int .i64 v2), (15, .bool false)], []⟩) rfl ⟨hd1, trivial⟩ rfl ?_
      refine Tri.run 1 [.g false] [.keep [0, 3] []] (K' := [.code [(2, 0), (1, 0), (0, 0), (0, 0), (1, 1)] 0, .code [(2, 0), (1, 0), (0, 0)] 1]) (σ' := ⟨[(0, .list (.bytes a0)), (3, .int .i64 v1)], []⟩) rfl ⟨rfl, trivial⟩ rfl ?_
      have h := Option.some.inj h
      subst h
      exact Tri.out 0 rfl ⟨nofun, rfl, rfl⟩
  · intro e σ' hne hq
    obtain ⟨rfl, rfl⟩ := hq
    refine TriX.exit (K' := [.code [] 3]) rfl ?_
    refine Tri.run 1 [] [.swap 31 1000, .keep [2] [1000]] (K' := [.code [] 4]) (σ' := ⟨[(2, .ptr 1000 0)], [(1000, .box [.list (.bytes a0), .int .i64 0, .int .i64 v3])]⟩) rfl trivial rfl ?_
    have h := Option.some.inj h
    subst h
    exact Tri.ret rfl ⟨.inl rfl, rfl, rfl⟩
/-! spec.l1New -/
abbrev q_spec_l1New_io2 (r : (List UInt8) × Int × Int × (List Int) × Int) (σ' : ASt) : Prop := resAV E55_spec_l1New.T σ' Try.f55.results.toList = some (.ptr 1000 0) ∧ keepO σ'.ob (namesO [(1000, .box [.list (.bytes r.1), .int .i64 r.2.1, .int .i64 r.2.2.1]), (1001, .arr 3 0 0 (.ints r.2.2.2.1)), (2000, .box [.int .i64 r.2.2.2.2, .sl 1001 0])]) = [(1000, .box [.list (.bytes r.1), .int .i64 r.2.1, .int .i64 r.2.2.1]), (1001, .arr 3 0 0 (.ints r.2.2.2.1)), (2000, .box [.int .i64 r.2.2.2.2, .sl 1001 0])]
noncomputable def l_spec_l1New_io2_0 (a2 : List UInt8) : (Int × Int) → Option ((Int × Int) ⊕ Int)
  | (v1, v2) => (
bif decide (v2 < (a2.length : Int)) then
(bif decide (v2 < (4000 : Int)) then
(grd ((0 : Int) ≤ v2 ∧ v2 < (a2.length : Int)) <|
some (.inl (bitsOf .and .i64 (IntKind.i64.wrap ((IntKind.i64.wrap ((IntKind.i64.wrap (v1 * (131 : Int))) + (IntKind.i64.wrap (((a2.getD v2.toNat 0).toNat : Int))))) + (7 : Int))) (1073741823 : Int), IntKind.i64.wrap (v2 + (1 : Int)))))
else
(some (.inr v1)))
else
(some (.inr v1)))
noncomputable def m_spec_l1New_io2 (a0 : Int) (a1 : List Int) (a2 : List UInt8) : Option ((List UInt8) × Int × Int × (List Int) × Int) :=
(iter (l_spec_l1New_io2_0 a2) (IntKind.i64.wrap ((26583 : Int) + (a2.length : Int)), (0 : Int))).bind fun
| v3 => (
some (a2, 0, v3, a1, a0))
theorem w_spec_l1New_io2 (a0 : Int) (a1 : List Int) (a2 : List UInt8) (r : (List UInt8) × Int × Int × (List Int) × Int) (h : m_spec_l1New_io2 a0 a1 a2 = some r) : AM.Spec Try.prog 55 [.list (.bytes a2)] [(2000, .box [.int .i64 a0, .sl 2001 0]), (2001, .arr 3 0 0 (.ints a1))] (.ptr 1000 0) [(1000, .box [.list (.bytes r.1), .int .i64 r.2.1, .int .i64 r.2.2.1]), (1001, .arr 3 0 0 (.ints r.2.2.2.1)), (2000, .box [.int .i64 r.2.2.2.2, .sl 1001 0])] := by
  refine spec_of (E := E55_spec_l1New) Try.func55 rfl rfl rfl rfl ?_
  refine Tri.run 3 [] [.keep [0, 3, 4] [2000, 2001]] (K' := [.code [(2, 0), (1, 0)] 0, .blk 0, .code [] 3]) (σ' := ⟨[(0, .list (.bytes a2)), (3, .int .i64 (IntKind.i64.wrap ((26583 : Int) + (a2.length : Int)))), (4, .int .i64 (0 : Int))], [(2000, .box [.int .i64 a0, .sl 2001 0]), (2001, .arr 3 0 0 (.ints a1))]⟩) rfl trivial rfl ?_
  obtain ⟨v3, hk4, h⟩ := bind_some h
  refine Tri.loop (K1 := [.code [(2, 0), (1, 0), (0, 0)] 0]) (K2 := [.blk 0, .code [] 3]) (fun (v1, v2) => ⟨[(0, .list (.bytes a2)), (3, .int .i64 v1), (4, .int .i64 v2)], [(2000, .box [.int .i64 a0, .sl 2001 0]), (2001, .arr 3 0 0 (.ints a1))]⟩) (fun x e σ' => match x with | v3 => e = .exit 0 ∧ σ' = ⟨[(0, .list (.bytes a2)), (3, .int .i64 v3)], [(2000, .box [.int .i64 a0, .sl 2001 0]), (2001, .arr 3 0 0 (.ints a1))]⟩) hk4 rfl rfl ?_ ?_
  · intro s x hs
    clear h
    have h := hs
    clear hs
    obtain ⟨v1, v2⟩ := s
    rcases bif_some h with ⟨hd1, h⟩ | ⟨hd1, h⟩
    · refine Tri.run 1 [.g true] [.keep [0, 3, 4, 15] [2000, 2001]] (K' := [.code [(2, 0), (1, 0), (0, 0), (0, 0)] 1, .code [(2, 0), (1, 0), (0, 0)] 1]) (σ' := ⟨[(0, .list (.bytes a2)), (3, .int .i64 v1), (4, .int .i64 v2), (15, .bool (decide (v2 < (4000 : Int))))], [(2000, .box [.int .i64 a0, .sl 2001 0]), (2001, .arr 3 0 0 (.ints a1))]⟩) rfl ⟨hd1, trivial⟩ rfl ?_
      rcases bif_some h with ⟨hd2, h⟩ | ⟨hd2, h⟩
      · obtain ⟨hg3, h⟩ := grd_some h
        refine Tri.run 3 [.g true] [.keep [0, 3, 4] [2000, 2001]] (K' := []) (σ' := ⟨[(0, .list (.bytes a2)), (3, .int .i64 (bitsOf .and .i64 (IntKind.i64.wrap ((IntKind.i64.wrap ((IntKind.i64.wrap (v1 * (131 : Int))) + (IntKind.i64.wrap (((a2.getD v2.toNat 0).toNat : Int))))) + (7 : Int))) (1073741823 : Int))), (4, .int .i64 (IntKind.i64.wrap (v2 + (1 : Int))))], [(2000, .box [.int .i64 a0, .sl 2001 0]), (2001, .arr 3 0 0 (.ints a1))]⟩) rfl ⟨hg3, hd2, trivial⟩ rfl ?_
        have h := Option.some.inj h
        subst h
        exact Tri.nil ⟨rfl, rfl⟩
      · refine Tri.run 1 [.g false] [.keep [0, 3] [2000, 2001]] (K' := [.code [(2, 0), (1, 0), (0, 0), (0, 0), (1, 1)] 0, .code [(2, 0), (1, 0), (0, 0)] 1]) (σ' := ⟨[(0, .list (.bytes a2)), (3, .int .i64 v1)], [(2000, .box [.int .i64 a0, .sl 2001 0]), (2001, .arr 3 0 0 (.ints a1))]⟩) rfl ⟨hd2, trivial⟩ rfl ?_
        have h := Option.some.inj h
        subst h
        exact Tri.out 0 rfl ⟨nofun, rfl, rfl⟩
    · refine Tri.run 1 [.g false] [.keep [0, 3, 4, 15] [2000, 2001]] (K' := [.code [(2, 0), (1, 0), (0, 0), (0, 0)] 1, .code [(2, 0), (1, 0), (0, 0)] 1]) (σ' := ⟨[(0, .list (.bytes a2)), (3, .int .i64 v1), (4, .int .i64 v2), (15, .bool false)], [(2000, .box [.int .i64 a0, .sl 2001 0]), (2001, .arr 3 0 0 (.ints a1))]⟩) rfl ⟨hd1, trivial⟩ rfl ?_
      refine Tri.run 1 [.g false] [.keep [0, 3] [2000, 2001]] (K' := [.code [(2, 0), (1, 0), (0, 0), (0, 0), (1, 1)] 0, .code [(2, 0), (1, 0), (0, 0)] 1]) (σ' := ⟨[(0, .list (.bytes a2)), (3, .int .i64 v1)], [(2000, .box [.int .i64 a0, .sl 2001 0]), (2001, .arr 3 0 0 (.ints a1))]⟩) rfl ⟨rfl, trivial⟩ rfl ?_
      have h := Option.some.inj h
      subst h
      exact Tri.out 0 rfl ⟨nofun, rfl, rfl⟩
  · intro e σ' hne hq
    obtain ⟨rfl, rfl⟩ := hq
    refine TriX.exit (K' := [.code [] 3]) rfl ?_
    refine Tri.run 1 [] [.swap 2001 1100, .swap 31 1000, .swap 1100 1001, .keep [2] [1000, 1001, 2000]] (K' := [.code [] 4]) (σ' := ⟨[(2, .ptr 1000 0)], [(1000, .box [.list (.bytes a2), .int .i64 0, .int .i64 v3]), (1001, .arr 3 0 0 (.ints a1)), (2000, .box [.int .i64 a0, .sl 1001 0])]⟩) rfl trivial rfl ?_
    have h := Option.some.inj h
    subst h
    exact Tri.ret rfl ⟨.inl rfl, rfl, rfl⟩
/-! spec.l1Byte -/
noncomputable def E108_spec_l1Byte : Env := ⟨Try.prog, tys, (Try.f108.body).getD .skip, 58, tysOk, mixedOk⟩
abbrev q_spec_l1Byte_io1 (x0 : Value) (a0 : List UInt8) (r : Int × Int × Int) (σ' : ASt) : Prop := resAV E108_spec_l1Byte.T σ' Try.f108.results.toList = some (.int .i64 r.1) ∧ keepO σ'.ob (namesO [(2080, .box [.lst x0 (.bytes a0), .int .i64 r.2.1, .int .i64 r.2.2])]) = [(2080, .box [.lst x0 (.bytes a0), .int .i64 r.2.1, .int .i64 r.2.2])]
noncomputable def m_spec_l1Byte_io1 (a0 : List UInt8) (a1 : Int) (a2 : Int) : Option (Int × Int × Int) :=
grd ((0 : Int) ≤ (33 : Int)) <|
grd ((0 : Int) ≤ (45 : Int)) <|
((some (bitsOf .and .i64 (bitsOf .xor .i64 ((IntKind.i64.wrap ((IntKind.i64.wrap (a2 * (6364136223846793005 : Int))) + (1442695040888963407 : Int))).fdiv (2 ^ (min (33 : Int).toNat 64))) ((IntKind.i64.wrap ((IntKind.i64.wrap (a2 * (6364136223846793005 : Int))) + (1442695040888963407 : Int))).fdiv (2 ^ (min (45 : Int).toNat 64)))) (255 : Int) : Int)).bind fun v1 =>
bif decide (a1 < (a0.length : Int)) then
(grd ((0 : Int) ≤ a1 ∧ a1 < (a0.length : Int)) <|
some (bitsOf .and .i64 (IntKind.i64.wrap (v1 + (IntKind.i64.wrap (((a0.getD a1.toNat 0).toNat : Int))))) (255 : Int), IntKind.i64.wrap (a1 + (1 : Int)), IntKind.i64.wrap ((IntKind.i64.wrap (a2 * (6364136223846793005 : Int))) + (1442695040888963407 : Int))))
else
(some (v1, a1, IntKind.i64.wrap ((IntKind.i64.wrap (a2 * (6364136223846793005 : Int))) + (1442695040888963407 : Int)))))
theorem w_spec_l1Byte_io1 (x0 : Value) (a0 : List UInt8) (a1 : Int) (a2 : Int) (r : Int × Int × Int) (h : m_spec_l1Byte_io1 a0 a1 a2 = some r) : AM.Spec Try.prog 108 [.ptr 2080 0] [(2080, .box [.lst x0 (.bytes a0), .int .i64 a1, .int .i64 a2])] (.int .i64 r.1) [(2080, .box [.lst x0 (.bytes a0), .int .i64 r.2.1, .int .i64 r.2.2])] := by
  refine spec_of (E := E108_spec_l1Byte) Try.func108 rfl rfl rfl rfl ?_
  obtain ⟨hg1, h⟩ := grd_some h
  obtain ⟨hg2, h⟩ := grd_some h
  refine Tri.run 3 [] [.keep [0, 3] [2080]] (K' := [.code [(3, 0), (0, 0)] 0, .code [(3, 0)] 1, .code [] 4]) (σ' := ⟨[(0, .ptr 2080 0), (3, .int .i64 (bitsOf .and .i64 (bitsOf .xor .i64 ((IntKind.i64.wrap ((IntKind.i64.wrap (a2 * (6364136223846793005 : Int))) + (1442695040888963407 : Int))).fdiv (2 ^ (min (33 : Int).toNat 64))) ((IntKind.i64.wrap ((IntKind.i64.wrap (a2 * (6364136223846793005 : Int))) + (1442695040888963407 : Int))).fdiv (2 ^ (min (45 : Int).toNat 64)))) (255 : Int)))], [(2080, .box [.lst x0 (.bytes a0), .int .i64 a1, .int .i64 (IntKind.i64.wrap ((IntKind.i64.wrap (a2 * (6364136223846793005 : Int))) + (1442695040888963407 : Int)))])]⟩) rfl ⟨hg2, hg1, trivial⟩ rfl ?_
  obtain ⟨v1, hk3, h⟩ := bind_some h
  have hk3 := Option.some.inj hk3
  rw [hk3]
  refine Tri.run 1 [] [.keep [0, 3, 34] [2080]] (K' := [.code [(3, 0)] 1, .code [] 4]) (σ' := ⟨[(0, .ptr 2080 0), (3, .int .i64 v1), (34, .bool (decide (a1 < (a0.length : Int))))], [(2080, .box [.lst x0 (.bytes a0), .int .i64 a1, .int .i64 (IntKind.i64.wrap ((IntKind.i64.wrap (a2 * (6364136223846793005 : Int))) + (1442695040888963407 : Int)))])]⟩) rfl trivial rfl ?_
  rcases bif_some h with ⟨hd4, h⟩ | ⟨hd4, h⟩
  · obtain ⟨hg5, h⟩ := grd_some h
    refine Tri.run 3 [.g true] [.keep [3] [2080]] (K' := [.code [(4, 0)] 0, .code [] 5]) (σ' := ⟨[(3, .int .i64 (bitsOf .and .i64 (IntKind.i64.wrap (v1 + (IntKind.i64.wrap (((a0.getD a1.toNat 0).toNat : Int))))) (255 : Int)))], [(2080, .box [.lst x0 (.bytes a0), .int .i64 (IntKind.i64.wrap (a1 + (1 : Int))), .int .i64 (IntKind.i64.wrap ((IntKind.i64.wrap (a2 * (6364136223846793005 : Int))) + (1442695040888963407 : Int)))])]⟩) rfl ⟨hg5, hd4, trivial⟩ rfl ?_
    refine Tri.run 1 [] [.keep [2] [2080]] (K' := [.code [] 5]) (σ' := ⟨[(2, .int .i64 (bitsOf .and .i64 (IntKind.i64.wrap (v1 + (IntKind.i64.wrap (((a0.getD a1.toNat 0).toNat : Int))))) (255 : Int)))], [(2080, .box [.lst x0 (.bytes a0), .int .i64 (IntKind.i64.wrap (a1 + (1 : Int))), .int .i64 (IntKind.i64.wrap ((IntKind.i64.wrap (a2 * (6364136223846793005 : Int))) + (1442695040888963407 : Int)))])]⟩) rfl trivial rfl ?_
    have h := Option.some.inj h
    subst h
    exact Tri.ret rfl ⟨.inl rfl, rfl, rfl⟩
  · refine Tri.run 2 [.g false] [.keep [2] [2080]] (K' := [.code [] 5]) (σ' := ⟨[(2, .int .i64 v1)], [(2080, .box [.lst x0 (.bytes a0), .int .i64 a1, .int .i64 (IntKind.i64.wrap ((IntKind.i64.wrap (a2 * (6364136223846793005 : Int))) + (1442695040888963407 : Int)))])]⟩) rfl ⟨hd4, trivial⟩ rfl ?_
    have h := Option.some.inj h
    subst h
    exact Tri.ret rfl ⟨.inl rfl, rfl, rfl⟩
/-! spec.l1Below -/
noncomputable def E99_spec_l1Below : Env := ⟨Try.prog, tys, (Try.f99.body).getD .skip, 37, tysOk, mixedOk⟩
abbrev q_spec_l1Below_io1 (x0 : Value) (a0 : List UInt8) (r : Int × Int × Int) (σ' : ASt) : Prop := resAV E99_spec_l1Below.T σ' Try.f99.results.toList = some (.int .i64 r.1) ∧ keepO σ'.ob (namesO [(2060, .box [.lst x0 (.bytes a0), .int .i64 r.2.1, .int .i64 r.2.2])]) = [(2060, .box [.lst x0 (.bytes a0), .int .i64 r.2.1, .int .i64 r.2.2])]
noncomputable def m_spec_l1Below_io1 (a0 : List UInt8) (a1 : Int) (a2 : Int) (a3 : Int) : Option (Int × Int × Int) :=
bif decide (a3 ≤ (0 : Int)) then
(some ((0 : Int), a1, a2))
else
(bif decide (a3 ≤ (256 : Int)) then
((m_spec_l1Byte_io1 a0 a1 a2).bind fun (v1, v2, v3) =>
grd (a3 ≠ 0) <|
some (v1.tmod a3, v2, v3))
else
((m_spec_l1Byte_io1 a0 a1 a2).bind fun (v4, v5, v6) =>
(m_spec_l1Byte_io1 a0 v5 v6).bind fun (v7, v8, v9) =>
(m_spec_l1Byte_io1 a0 v8 v9).bind fun (v10, v11, v12) =>
(m_spec_l1Byte_io1 a0 v11 v12).bind fun (v13, v14, v15) =>
grd (a3 ≠ 0) <|
some ((IntKind.i64.wrap ((IntKind.i64.wrap ((IntKind.i64.wrap ((IntKind.i64.wrap (v4 * (16777216 : Int))) + (IntKind.i64.wrap (v7 * (65536 : Int))))) + (IntKind.i64.wrap (v10 * (256 : Int))))) + v13)).tmod a3, v14, v15)))
theorem w_spec_l1Below_io1 (x0 : Value) (a0 : List UInt8) (a1 : Int) (a2 : Int) (a3 : Int) (r : Int × Int × Int) (h : m_spec_l1Below_io1 a0 a1 a2 a3 = some r) : AM.Spec Try.prog 99 [.ptr 2060 0, .int .i64 a3] [(2060, .box [.lst x0 (.bytes a0), .int .i64 a1, .int .i64 a2])] (.int .i64 r.1) [(2060, .box [.lst x0 (.bytes a0), .int .i64 r.2.1, .int .i64 r.2.2])] := by
  refine spec_of (E := E99_spec_l1Below) Try.func99 rfl rfl rfl rfl ?_
  refine Tri.run 2 [] [.keep [0, 1, 10] [2060]] (K' := [.code [(1, 0)] 1, .code [] 2]) (σ' := ⟨[(0, .ptr 2060 0), (1, .int .i64 a3), (10, .bool (decide (a3 ≤ (0 : Int))))], [(2060, .box [.lst x0 (.bytes a0), .int .i64 a1, .int .i64 a2])]⟩) rfl trivial rfl ?_
  rcases bif_some h with ⟨hd1, h⟩ | ⟨hd1, h⟩
  · refine Tri.run 2 [.g true] [.keep [4] [2060]] (K' := [.code [(1, 0), (1, 0)] 1, .code [] 2]) (σ' := ⟨[(4, .int .i64 (0 : Int))], [(2060, .box [.lst x0 (.bytes a0), .int .i64 a1, .int .i64 a2])]⟩) rfl ⟨hd1, trivial⟩ rfl ?_
    have h := Option.some.inj h
    subst h
    exact Tri.ret rfl ⟨.inl rfl, rfl, rfl⟩
  · refine Tri.run 2 [.g false] [.keep [0, 1, 12] [2060]] (K' := [.code [(2, 0)] 1, .code [] 3]) (σ' := ⟨[(0, .ptr 2060 0), (1, .int .i64 a3), (12, .bool (decide (a3 ≤ (256 : Int))))], [(2060, .box [.lst x0 (.bytes a0), .int .i64 a1, .int .i64 a2])]⟩) rfl ⟨hd1, trivial⟩ rfl ?_
    rcases bif_some h with ⟨hd2, h⟩ | ⟨hd2, h⟩
    · obtain ⟨⟨v1, v2, v3⟩, hk3, h⟩ := bind_some h
      obtain ⟨hg4, h⟩ := grd_some h
      refine Tri.run 2 [.g true, .r ⟨[2060], .int .i64 v1, [(2060, .box [.undf, .int .i64 v2, .int .i64 v3])]⟩] [.keep [4] [2060]] (K' := [.code [(2, 0), (1, 0)] 1, .code [] 3]) (σ' := ⟨[(4, .int .i64 (v1.tmod a3))], [(2060, .box [.lst x0 (.bytes a0), .int .i64 v2, .int .i64 v3])]⟩) rfl ⟨hg4, (fun vf => ((w_spec_l1Byte_io1 (vf 2060 0) a0 a1 a2 (v1, v2, v3) hk3).swap 2080 2060)), hd2, trivial⟩ rfl ?_
      have h := Option.some.inj h
      subst h
      exact Tri.ret rfl ⟨.inl rfl, rfl, rfl⟩
    · obtain ⟨⟨v4, v5, v6⟩, hk5, h⟩ := bind_some h
      refine Tri.run 2 [.g false, .r ⟨[2060], .int .i64 v4, [(2060, .box [.undf, .int .i64 v5, .int .i64 v6])]⟩] [.keep [0, 1, 5] [2060]] (K' := [.code [(4, 0)] 0, .code [] 5]) (σ' := ⟨[(0, .ptr 2060 0), (1, .int .i64 a3), (5, .int .i64 v4)], [(2060, .box [.lst x0 (.bytes a0), .int .i64 v5, .int .i64 v6])]⟩) rfl ⟨(fun vf => ((w_spec_l1Byte_io1 (vf 2060 0) a0 a1 a2 (v4, v5, v6) hk5).swap 2080 2060)), hd2, trivial⟩ rfl ?_
      obtain ⟨⟨v7, v8, v9⟩, hk6, h⟩ := bind_some h
      obtain ⟨⟨v10, v11, v12⟩, hk7, h⟩ := bind_some h
      refine Tri.run 2 [.r ⟨[2060], .int .i64 v7, [(2060, .box [.undf, .int .i64 v8, .int .i64 v9])]⟩, .r ⟨[2060], .int .i64 v10, [(2060, .box [.undf, .int .i64 v11, .int .i64 v12])]⟩] [.keep [0, 1, 5, 6, 7] [2060]] (K' := [.code [(6, 0)] 0, .code [] 7]) (σ' := ⟨[(0, .ptr 2060 0), (1, .int .i64 a3), (5, .int .i64 v4), (6, .int .i64 v7), (7, .int .i64 v10)], [(2060, .box [.lst x0 (.bytes a0), .int .i64 v11, .int .i64 v12])]⟩) rfl ⟨(fun vf => ((w_spec_l1Byte_io1 (vf 2060 0) a0 v8 v9 (v10, v11, v12) hk7).swap 2080 2060)), (fun vf => ((w_spec_l1Byte_io1 (vf 2060 0) a0 v5 v6 (v7, v8, v9) hk6).swap 2080 2060)), trivial⟩ rfl ?_
      obtain ⟨⟨v13, v14, v15⟩, hk8, h⟩ := bind_some h
      obtain ⟨hg9, h⟩ := grd_some h
      refine Tri.run 2 [.r ⟨[2060], .int .i64 v13, [(2060, .box [.undf, .int .i64 v14, .int .i64 v15])]⟩] [.keep [4] [2060]] (K' := [.code [] 8]) (σ' := ⟨[(4, .int .i64 ((IntKind.i64.wrap ((IntKind.i64.wrap ((IntKind.i64.wrap ((IntKind.i64.wrap (v4 * (16777216 : Int))) + (IntKind.i64.wrap (v7 * (65536 : Int))))) + (IntKind.i64.wrap (v10 * (256 : Int))))) + v13)).tmod a3))], [(2060, .box [.lst x0 (.bytes a0), .int .i64 v14, .int .i64 v15])]⟩) rfl ⟨hg9, (fun vf => ((w_spec_l1Byte_io1 (vf 2060 0) a0 v11 v12 (v13, v14, v15) hk8).swap 2080 2060)), trivial⟩ rfl ?_
      have h := Option.some.inj h
      subst h
      exact Tri.ret rfl ⟨.inl rfl, rfl, rfl⟩
/-! spec.l1In -/
noncomputable def E62_spec_l1In : Env := ⟨Try.prog, tys, (Try.f62.body).getD .skip, 15, tysOk, mixedOk⟩
abbrev q_spec_l1In (r : Bool) (σ' : ASt) : Prop := resAV E62_spec_l1In.T σ' Try.f62.results.toList = some (.bool r) ∧ keepO σ'.ob (namesO []) = []
noncomputable def m_spec_l1In (a0 : Int) (a1 : Int) (a2 : Int) : Option Bool :=
bif decide (a0 ≥ a1) then
(some (decide (a0 ≤ a2)))
else
(some false)
theorem w_spec_l1In (a0 : Int) (a1 : Int) (a2 : Int) (r : Bool) (h : m_spec_l1In a0 a1 a2 = some r) : AM.Spec Try.prog 62 [.int .i64 a0, .int .i64 a1, .int .i64 a2] [] (.bool r) [] := by
  refine spec_of (E := E62_spec_l1In) Try.func62 rfl rfl rfl rfl ?_
  refine Tri.run 1 [] [.keep [0, 1, 2] []] (K' := [.code [(1, 0)] 0, .code [] 2]) (σ' := ⟨[(0, .int .i64 a0), (1, .int .i64 a1), (2, .int .i64 a2)], []⟩) rfl trivial rfl ?_
  rcases bif_some h with ⟨hd1, h⟩ | ⟨hd1, h⟩
  · refine Tri.run 1 [.g true] [.keep [6] []] (K' := [.code [] 2]) (σ' := ⟨[(6, .bool (decide (a0 ≤ a2)))], []⟩) rfl ⟨hd1, trivial⟩ rfl ?_
    have h := Option.some.inj h
    subst h
    exact Tri.ret rfl ⟨.inl rfl, rfl, rfl⟩
  · refine Tri.run 1 [.g false] [.keep [6] []] (K' := [.code [] 2]) (σ' := ⟨[(6, .bool false)], []⟩) rfl ⟨hd1, trivial⟩ rfl ?_
    have h := Option.some.inj h
    subst h
    exact Tri.ret rfl ⟨.inl rfl, rfl, rfl⟩
/-! spec.CountCoalitions -/
noncomputable def E53_spec_CountCoalitions : Env := ⟨Try.prog, tys, (Try.f53.body).getD .skip, 16, tysOk, mixedOk⟩
abbrev q_spec_CountCoalitions (r : Int) (σ' : ASt) : Prop := resAV E53_spec_CountCoalitions.T σ' Try.f53.results.toList = some (.int .i64 r) ∧ keepO σ'.ob (namesO []) = []
noncomputable def l_spec_CountCoalitions_0 (a0 : Int) : (Int × Int) → Option ((Int × Int) ⊕ Int)
  | (v2, v3) => (
bif decide (v3 < a0) then
(some (.inl (IntKind.i64.wrap (v2 * (2 : Int)), IntKind.i64.wrap (v3 + (1 : Int)))))
else
(some (.inr v2)))
noncomputable def m_spec_CountCoalitions (a0 : Int) : Option Int :=
(m_spec_l1In a0 (0 : Int) (5 : Int)).bind fun v1 =>
bif !v1 then
(some (0 : Int))
else
((iter (l_spec_CountCoalitions_0 a0) ((1 : Int), (0 : Int))).bind fun
| v4 => (
some v4))
theorem w_spec_CountCoalitions (a0 : Int) (r : Int) (h : m_spec_CountCoalitions a0 = some r) : AM.Spec Try.prog 53 [.int .i64 a0] [] (.int .i64 r) [] := by
  refine spec_of (E := E53_spec_CountCoalitions) Try.func53 rfl rfl rfl rfl ?_
  refine Tri.run 1 [] [.keep [0] []] (K' := [.code [(1, 0), (0, 0)] 0, .code [(1, 0)] 1, .code [] 2]) (σ' := ⟨[(0, .int .i64 a0)], []⟩) rfl trivial rfl ?_
  obtain ⟨v1, hk1, h⟩ := bind_some h
  refine Tri.run 1 [.r ⟨[], .bool v1, []⟩] [.keep [0, 7] []] (K' := [.code [(1, 0)] 1, .code [] 2]) (σ' := ⟨[(0, .int .i64 a0), (7, .bool (!v1))], []⟩) rfl ⟨(fun _ => (w_spec_l1In a0 (0 : Int) (5 : Int) v1 hk1)), trivial⟩ rfl ?_
  rcases bif_some h with ⟨hd2, h⟩ | ⟨hd2, h⟩
  · refine Tri.run 2 [.g true] [.keep [2] []] (K' := [.code [(1, 0), (1, 0)] 1, .code [] 2]) (σ' := ⟨[(2, .int .i64 (0 : Int))], []⟩) rfl ⟨hd2, trivial⟩ rfl ?_
    have h := Option.some.inj h
    subst h
    exact Tri.ret rfl ⟨.inl rfl, rfl, rfl⟩
  · refine Tri.run 3 [.g false] [.keep [0, 3, 4] []] (K' := [.code [(3, 0), (1, 0)] 0, .blk 0, .code [] 4]) (σ' := ⟨[(0, .int .i64 a0), (3, .int .i64 (1 : Int)), (4, .int .i64 (0 : Int))], []⟩) rfl ⟨hd2, trivial⟩ rfl ?_
    obtain ⟨v4, hk4, h⟩ := bind_some h
    refine Tri.loop (K1 := [.code [(3, 0), (1, 0), (0, 0)] 0]) (K2 := [.blk 0, .code [] 4]) (fun (v2, v3) => ⟨[(0, .int .i64 a0), (3, .int .i64 v2), (4, .int .i64 v3)], []⟩) (fun x e σ' => match x with | v4 => e = .exit 0 ∧ σ' = ⟨[(3, .int .i64 v4)], []⟩) hk4 rfl rfl ?_ ?_
    · intro s x hs
      clear h
      have h := hs
      clear hs
      obtain ⟨v2, v3⟩ := s
      refine Tri.run 1 [] [.keep [0, 3, 4, 10] []] (K' := [.code [(3, 0), (1, 0), (0, 0), (0, 0)] 1, .code [(3, 0), (1, 0), (0, 0)] 1]) (σ' := ⟨[(0, .int .i64 a0), (3, .int .i64 v2), (4, .int .i64 v3), (10, .bool (decide (v3 < a0)))], []⟩) rfl trivial rfl ?_
      rcases bif_some h with ⟨hd3, h⟩ | ⟨hd3, h⟩
      · refine Tri.run 3 [.g true] [.keep [0, 3, 4] []] (K' := []) (σ' := ⟨[(0, .int .i64 a0), (3, .int .i64 (IntKind.i64.wrap (v2 * (2 : Int)))), (4, .int .i64 (IntKind.i64.wrap (v3 + (1 : Int))))], []⟩) rfl ⟨hd3, trivial⟩ rfl ?_
        have h := Option.some.inj h
        subst h
        exact Tri.nil ⟨rfl, rfl⟩
      · refine Tri.run 1 [.g false] [.keep [3] []] (K' := [.code [(3, 0), (1, 0), (0, 0), (0, 0), (1, 1)] 0, .code [(3, 0), (1, 0), (0, 0)] 1]) (σ' := ⟨[(3, .int .i64 v2)], []⟩) rfl ⟨hd3, trivial⟩ rfl ?_
        have h := Option.some.inj h
        subst h
        exact Tri.out 0 rfl ⟨nofun, rfl, rfl⟩
    · intro e σ' hne hq
      obtain ⟨rfl, rfl⟩ := hq
      refine TriX.exit (K' := [.code [] 4]) rfl ?_
      refine Tri.run 1 [] [.keep [2] []] (K' := [.code [] 5]) (σ' := ⟨[(2, .int .i64 v4)], []⟩) rfl trivial rfl ?_
      have h := Option.some.inj h
      subst h
      exact Tri.ret rfl ⟨.inl rfl, rfl, rfl⟩
/-! spec.l2Bit -/
noncomputable def E88_spec_l2Bit : Env := ⟨Try.prog, tys, (Try.f88.body).getD .skip, 5, tysOk, mixedOk⟩
abbrev q_spec_l2Bit (r : Int) (σ' : ASt) : Prop := resAV E88_spec_l2Bit.T σ' Try.f88.results.toList = some (.int .i64 r) ∧ keepO σ'.ob (namesO []) = []
noncomputable def m_spec_l2Bit (a0 : Int) : Option Int :=
(m_spec_CountCoalitions a0).bind fun v1 =>
some v1
theorem w_spec_l2Bit (a0 : Int) (r : Int) (h : m_spec_l2Bit a0 = some r) : AM.Spec Try.prog 88 [.int .i64 a0] [] (.int .i64 r) [] := by
  refine spec_of (E := E88_spec_l2Bit) Try.func88 rfl rfl rfl rfl ?_
  refine Tri.run 1 [] [.keep [0] []] (K' := [.code [(1, 0)] 0, .code [] 2]) (σ' := ⟨[(0, .int .i64 a0)], []⟩) rfl trivial rfl ?_
  obtain ⟨v1, hk1, h⟩ := bind_some h
  refine Tri.run 1 [.r ⟨[], .int .i64 v1, []⟩] [.keep [2] []] (K' := [.code [] 2]) (σ' := ⟨[(2, .int .i64 v1)], []⟩) rfl ⟨(fun _ => (w_spec_CountCoalitions a0 v1 hk1)), trivial⟩ rfl ?_
  have h := Option.some.inj h
  subst h
  exact Tri.ret rfl ⟨.inl rfl, rfl, rfl⟩
/-! spec.HasPlayer -/
noncomputable def E44_spec_HasPlayer : Env := ⟨Try.prog, tys, (Try.f44.body).getD .skip, 19, tysOk, mixedOk⟩
abbrev q_spec_HasPlayer (r : Bool) (σ' : ASt) : Prop := resAV E44_spec_HasPlayer.T σ' Try.f44.results.toList = some (.bool r) ∧ keepO σ'.ob (namesO []) = []
noncomputable def m_spec_HasPlayer (a0 : Int) (a1 : Int) : Option Bool :=
(m_spec_l1In a1 (0 : Int) (4 : Int)).bind fun v1 =>
bif v1 then
(bif decide (a0 ≥ (0 : Int)) then
((m_spec_l2Bit a1).bind fun v2 =>
grd (v2 ≠ 0) <|
grd ((2 : Int) ≠ 0) <|
some (((IntKind.i64.wrap (a0.tdiv v2)).tmod (2 : Int)) == (1 : Int)))
else
(some false))
else
(some false)
theorem w_spec_HasPlayer (a0 : Int) (a1 : Int) (r : Bool) (h : m_spec_HasPlayer a0 a1 = some r) : AM.Spec Try.prog 44 [.int .i64 a0, .int .i64 a1] [] (.bool r) [] := by
  refine spec_of (E := E44_spec_HasPlayer) Try.func44 rfl rfl rfl rfl ?_
  refine Tri.run 1 [] [.keep [0, 1] []] (K' := [.code [(1, 0)] 0, .code [] 2]) (σ' := ⟨[(0, .int .i64 a0), (1, .int .i64 a1)], []⟩) rfl trivial rfl ?_
  obtain ⟨v1, hk1, h⟩ := bind_some h
  rcases bif_some h with ⟨hd2, h⟩ | ⟨hd2, h⟩
  · rcases bif_some h with ⟨hd3, h⟩ | ⟨hd3, h⟩
    · obtain ⟨v2, hk4, h⟩ := bind_some h
      obtain ⟨hg5, h⟩ := grd_some h
      obtain ⟨hg6, h⟩ := grd_some h
      refine Tri.run 1 [.r ⟨[], .bool v1, []⟩, .g true, .g true, .r ⟨[], .int .i64 v2, []⟩] [.keep [4] []] (K' := [.code [] 2]) (σ' := ⟨[(4, .bool (((IntKind.i64.wrap (a0.tdiv v2)).tmod (2 : Int)) == (1 : Int)))], []⟩) rfl ⟨hg6, hg5, (fun _ => (w_spec_l2Bit a1 v2 hk4)), hd3, hd2, (fun _ => (w_spec_l1In a1 (0 : Int) (4 : Int) v1 hk1)), trivial⟩ rfl ?_
      have h := Option.some.inj h
      subst h
      exact Tri.ret rfl ⟨.inl rfl, rfl, rfl⟩
    · refine Tri.run 1 [.r ⟨[], .bool v1, []⟩, .g true, .g false] [.keep [4] []] (K' := [.code [] 2]) (σ' := ⟨[(4, .bool false)], []⟩) rfl ⟨hd3, hd2, (fun _ => (w_spec_l1In a1 (0 : Int) (4 : Int) v1 hk1)), trivial⟩ rfl ?_
      have h := Option.some.inj h
      subst h
      exact Tri.ret rfl ⟨.inl rfl, rfl, rfl⟩
  · refine Tri.run 1 [.r ⟨[], .bool v1, []⟩, .g false, .g false] [.keep [4] []] (K' := [.code [] 2]) (σ' := ⟨[(4, .bool false)], []⟩) rfl ⟨rfl, hd2, (fun _ => (w_spec_l1In a1 (0 : Int) (4 : Int) v1 hk1)), trivial⟩ rfl ?_
    have h := Option.some.inj h
    subst h
    exact Tri.ret rfl ⟨.inl rfl, rfl, rfl⟩
/-! spec.SizeOf -/
noncomputable def E45_spec_SizeOf : Env := ⟨Try.prog, tys, (Try.f45.body).getD .skip, 15, tysOk, mixedOk⟩
abbrev q_spec_SizeOf (r : Int) (σ' : ASt) : Prop := resAV E45_spec_SizeOf.T σ' Try.f45.results.toList = some (.int .i64 r) ∧ keepO σ'.ob (namesO []) = []
noncomputable def l_spec_SizeOf_0 (a0 : Int) : (Int × Int) → Option ((Int × Int) ⊕ Int)
  | (v1, v2) => (
bif decide (v2 < (5 : Int)) then
((m_spec_HasPlayer a0 v2).bind fun v3 =>
bif v3 then
(some (.inl (IntKind.i64.wrap (v1 + (1 : Int)), IntKind.i64.wrap (v2 + (1 : Int)))))
else
(some (.inl (v1, IntKind.i64.wrap (v2 + (1 : Int))))))
else
(some (.inr v1)))
noncomputable def m_spec_SizeOf (a0 : Int) : Option Int :=
(iter (l_spec_SizeOf_0 a0) ((0 : Int), (0 : Int))).bind fun
| v4 => (
some v4)
theorem w_spec_SizeOf (a0 : Int) (r : Int) (h : m_spec_SizeOf a0 = some r) : AM.Spec Try.prog 45 [.int .i64 a0] [] (.int .i64 r) [] := by
  refine spec_of (E := E45_spec_SizeOf) Try.func45 rfl rfl rfl rfl ?_
  refine Tri.run 3 [] [.keep [0, 3, 4] []] (K' := [.code [(2, 0), (1, 0)] 0, .blk 0, .code [] 3]) (σ' := ⟨[(0, .int .i64 a0), (3, .int .i64 (0 : Int)), (4, .int .i64 (0 : Int))], []⟩) rfl trivial rfl ?_
  obtain ⟨v4, hk4, h⟩ := bind_some h
  refine Tri.loop (K1 := [.code [(2, 0), (1, 0), (0, 0)] 0]) (K2 := [.blk 0, .code [] 3]) (fun (v1, v2) => ⟨[(0, .int .i64 a0), (3, .int .i64 v1), (4, .int .i64 v2)], []⟩) (fun x e σ' => match x with | v4 => e = .exit 0 ∧ σ' = ⟨[(3, .int .i64 v4)], []⟩) hk4 rfl rfl ?_ ?_
  · intro s x hs
    clear h
    have h := hs
    clear hs
    obtain ⟨v1, v2⟩ := s
    refine Tri.run 1 [] [.keep [0, 3, 4, 6] []] (K' := [.code [(2, 0), (1, 0), (0, 0), (0, 0)] 1, .code [(2, 0), (1, 0), (0, 0)] 1]) (σ' := ⟨[(0, .int .i64 a0), (3, .int .i64 v1), (4, .int .i64 v2), (6, .bool (decide (v2 < (5 : Int))))], []⟩) rfl trivial rfl ?_
    rcases bif_some h with ⟨hd1, h⟩ | ⟨hd1, h⟩
    · obtain ⟨v3, hk2, h⟩ := bind_some h
      refine Tri.run 2 [.g true, .r ⟨[], .bool v3, []⟩] [.keep [0, 3, 4, 11] []] (K' := [.code [(2, 0), (1, 0), (0, 0), (1, 0), (0, 0)] 1, .blk 1, .code [(2, 0), (1, 0), (0, 0)] 2]) (σ' := ⟨[(0, .int .i64 a0), (3, .int .i64 v1), (4, .int .i64 v2), (11, .bool v3)], []⟩) rfl ⟨(fun _ => (w_spec_HasPlayer a0 v2 v3 hk2)), hd1, trivial⟩ rfl ?_
      rcases bif_some h with ⟨hd3, h⟩ | ⟨hd3, h⟩
      · refine Tri.run 3 [.g true] [.keep [0, 3, 4] []] (K' := []) (σ' := ⟨[(0, .int .i64 a0), (3, .int .i64 (IntKind.i64.wrap (v1 + (1 : Int)))), (4, .int .i64 (IntKind.i64.wrap (v2 + (1 : Int))))], []⟩) rfl ⟨hd3, trivial⟩ rfl ?_
        have h := Option.some.inj h
        subst h
        exact Tri.nil ⟨rfl, rfl⟩
      · refine Tri.run 2 [.g false] [.keep [0, 3, 4] []] (K' := []) (σ' := ⟨[(0, .int .i64 a0), (3, .int .i64 v1), (4, .int .i64 (IntKind.i64.wrap (v2 + (1 : Int))))], []⟩) rfl ⟨hd3, trivial⟩ rfl ?_
        have h := Option.some.inj h
        subst h
        exact Tri.nil ⟨rfl, rfl⟩
    · refine Tri.run 1 [.g false] [.keep [3] []] (K' := [.code [(2, 0), (1, 0), (0, 0), (0, 0), (1, 1)] 0, .code [(2, 0), (1, 0), (0, 0)] 1]) (σ' := ⟨[(3, .int .i64 v1)], []⟩) rfl ⟨hd1, trivial⟩ rfl ?_
      have h := Option.some.inj h
      subst h
      exact Tri.out 0 rfl ⟨nofun, rfl, rfl⟩
  · intro e σ' hne hq
    obtain ⟨rfl, rfl⟩ := hq
    refine TriX.exit (K' := [.code [] 3]) rfl ?_
    refine Tri.run 1 [] [.keep [2] []] (K' := [.code [] 4]) (σ' := ⟨[(2, .int .i64 v4)], []⟩) rfl trivial rfl ?_
    have h := Option.some.inj h
    subst h
    exact Tri.ret rfl ⟨.inl rfl, rfl, rfl⟩
/-! spec.l1PickInt -/
noncomputable def E70_spec_l1PickInt : Env := ⟨Try.prog, tys, (Try.f70.body).getD .skip, 12, tysOk, mixedOk⟩
abbrev q_spec_l1PickInt_io1 (x0 : Value) (a0 : List UInt8) (r : Int × Int × Int) (σ' : ASt) : Prop := resAV E70_spec_l1PickInt.T σ' Try.f70.results.toList = some (.int .i64 r.1) ∧ keepO σ'.ob (namesO [(2100, .box [.lst x0 (.bytes a0), .int .i64 r.2.1, .int .i64 r.2.2])]) = [(2100, .box [.lst x0 (.bytes a0), .int .i64 r.2.1, .int .i64 r.2.2])]
noncomputable def m_spec_l1PickInt_io1 (a0 : List UInt8) (a1 : Int) (a2 : Int) (a3 : List Int) : Option (Int × Int × Int) :=
(m_spec_l1Below_io1 a0 a1 a2 (a3.length : Int)).bind fun (v1, v2, v3) =>
grd ((0 : Int) ≤ v1 ∧ v1 < (a3.length : Int)) <|
some (a3.getD v1.toNat 0, v2, v3)
theorem w_spec_l1PickInt_io1 (x0 : Value) (a0 : List UInt8) (a1 : Int) (a2 : Int) (a3 : List Int) (r : Int × Int × Int) (h : m_spec_l1PickInt_io1 a0 a1 a2 a3 = some r) : AM.Spec Try.prog 70 [.ptr 2100 0, .list (.ints a3)] [(2100, .box [.lst x0 (.bytes a0), .int .i64 a1, .int .i64 a2])] (.int .i64 r.1) [(2100, .box [.lst x0 (.bytes a0), .int .i64 r.2.1, .int .i64 r.2.2])] := by
  refine spec_of (E := E70_spec_l1PickInt) Try.func70 rfl rfl rfl rfl ?_
  refine Tri.run 1 [] [.keep [0, 1] [2100]] (K' := [.code [(1, 0)] 0, .code [] 2]) (σ' := ⟨[(0, .ptr 2100 0), (1, .list (.ints a3))], [(2100, .box [.lst x0 (.bytes a0), .int .i64 a1, .int .i64 a2])]⟩) rfl trivial rfl ?_
  obtain ⟨⟨v1, v2, v3⟩, hk1, h⟩ := bind_some h
  obtain ⟨hg2, h⟩ := grd_some h
  refine Tri.run 1 [.r ⟨[2100], .int .i64 v1, [(2100, .box [.undf, .int .i64 v2, .int .i64 v3])]⟩] [.keep [4] [2100]] (K' := [.code [] 2]) (σ' := ⟨[(4, .int .i64 (a3.getD v1.toNat 0))], [(2100, .box [.lst x0 (.bytes a0), .int .i64 v2, .int .i64 v3])]⟩) rfl ⟨hg2, (fun vf => ((w_spec_l1Below_io1 (vf 2100 0) a0 a1 a2 (a3.length : Int) (v1, v2, v3) hk1).swap 2060 2100)), trivial⟩ rfl ?_
  have h := Option.some.inj h
  subst h
  exact Tri.ret rfl ⟨.inl rfl, rfl, rfl⟩
/-! spec.l1Max -/
noncomputable def E69_spec_l1Max : Env := ⟨Try.prog, tys, (Try.f69.body).getD .skip, 10, tysOk, mixedOk⟩
abbrev q_spec_l1Max (r : Int) (σ' : ASt) : Prop := resAV E69_spec_l1Max.T σ' Try.f69.results.toList = some (.int .i64 r) ∧ keepO σ'.ob (namesO []) = []
noncomputable def m_spec_l1Max (a0 : Int) (a1 : Int) : Option Int :=
bif decide (a0 > a1) then
(some a0)
else
(some a1)
theorem w_spec_l1Max (a0 : Int) (a1 : Int) (r : Int) (h : m_spec_l1Max a0 a1 = some r) : AM.Spec Try.prog 69 [.int .i64 a0, .int .i64 a1] [] (.int .i64 r) [] := by
  refine spec_of (E := E69_spec_l1Max) Try.func69 rfl rfl rfl rfl ?_
  refine Tri.run 2 [] [.keep [0, 1, 7] []] (K' := [.code [(1, 0)] 1, .code [] 2]) (σ' := ⟨[(0, .int .i64 a0), (1, .int .i64 a1), (7, .bool (decide (a0 > a1)))], []⟩) rfl trivial rfl ?_
  rcases bif_some h with ⟨hd1, h⟩ | ⟨hd1, h⟩
  · refine Tri.run 2 [.g true] [.keep [4] []] (K' := [.code [(1, 0), (1, 0)] 1, .code [] 2]) (σ' := ⟨[(4, .int .i64 a0)], []⟩) rfl ⟨hd1, trivial⟩ rfl ?_
    have h := Option.some.inj h
    subst h
    exact Tri.ret rfl ⟨.inl rfl, rfl, rfl⟩
  · refine Tri.run 2 [.g false] [.keep [4] []] (K' := [.code [] 3]) (σ' := ⟨[(4, .int .i64 a1)], []⟩) rfl ⟨hd1, trivial⟩ rfl ?_
    have h := Option.some.inj h
    subst h
    exact Tri.ret rfl ⟨.inl rfl, rfl, rfl⟩
/-! spec.l1Bit -/
noncomputable def E107_spec_l1Bit : Env := ⟨Try.prog, tys, (Try.f107.body).getD .skip, 4, tysOk, mixedOk⟩
abbrev q_spec_l1Bit (r : Int) (σ' : ASt) : Prop := resAV E107_spec_l1Bit.T σ' Try.f107.results.toList = some (.int .i64 r) ∧ keepO σ'.ob (namesO []) = []
noncomputable def m_spec_l1Bit (a0 : Bool) : Option Int :=
bif a0 then
(some (1 : Int))
else
(some (0 : Int))
theorem w_spec_l1Bit (a0 : Bool) (r : Int) (h : m_spec_l1Bit a0 = some r) : AM.Spec Try.prog 107 [.bool a0] [] (.int .i64 r) [] := by
  refine spec_of (E := E107_spec_l1Bit) Try.func107 rfl rfl rfl rfl ?_
  refine Tri.run 2 [] [.keep [3] []] (K' := [.code [(1, 0)] 1, .code [] 2]) (σ' := ⟨[(3, .bool a0)], []⟩) rfl trivial rfl ?_
  rcases bif_some h with ⟨hd1, h⟩ | ⟨hd1, h⟩
  · refine Tri.run 2 [.g true] [.keep [2] []] (K' := [.code [(1, 0), (1, 0)] 1, .code [] 2]) (σ' := ⟨[(2, .int .i64 (1 : Int))], []⟩) rfl ⟨hd1, trivial⟩ rfl ?_
    have h := Option.some.inj h
    subst h
    exact Tri.ret rfl ⟨.inl rfl, rfl, rfl⟩
  · refine Tri.run 2 [.g false] [.keep [2] []] (K' := [.code [] 3]) (σ' := ⟨[(2, .int .i64 (0 : Int))], []⟩) rfl ⟨hd1, trivial⟩ rfl ?_
    have h := Option.some.inj h
    subst h
    exact Tri.ret rfl ⟨.inl rfl, rfl, rfl⟩
/-! spec.l8Draw -/
noncomputable def E98_spec_l8Draw : Env := ⟨Try.prog, tys, (Try.f98.body).getD .skip, 81, tysOk, mixedOk⟩
abbrev q_spec_l8Draw_io1 (x0 : Value) (a0 : List UInt8) (r : Int × (List Int) × Int × Int) (σ' : ASt) : Prop := resAV E98_spec_l8Draw.T σ' Try.f98.results.toList = some (.agg [.int .i64 r.1, .sl 1000 0]) ∧ keepO σ'.ob (namesO [(1000, .arr 3 0 0 (.ints r.2.1)), (2040, .box [.lst x0 (.bytes a0), .int .i64 r.2.2.1, .int .i64 r.2.2.2])]) = [(1000, .arr 3 0 0 (.ints r.2.1)), (2040, .box [.lst x0 (.bytes a0), .int .i64 r.2.2.1, .int .i64 r.2.2.2])]
noncomputable def l_spec_l8Draw_io1_0 (a0 : List UInt8) (v1 : Int) (v5 : Int) : (Int × (List Int) × Int × Int) → Option ((Int × (List Int) × Int × Int) ⊕ (((List Int) × Int × Int)))
  | (v8, v9, v10, v11) => (
bif decide (v8 < (v9.length : Int)) then
(bif v5 == (0 : Int) then
((m_spec_SizeOf v8).bind fun v12 =>
(m_spec_SizeOf v8).bind fun v13 =>
(m_spec_l1Below_io1 a0 v10 v11 (2 : Int)).bind fun (v14, v15, v16) =>
grd ((0 : Int) ≤ v8 ∧ v8 < (v9.length : Int)) <|
some (.inl (IntKind.i64.wrap (v8 + (1 : Int)), v9.set v8.toNat (IntKind.i64.wrap ((IntKind.i64.wrap (v12 * v13)) + v14)), v15, v16)))
else
(bif v5 == (1 : Int) then
((m_spec_l1PickInt_io1 a0 v10 v11 [(0 : Int), (1 : Int), (2 : Int), (3 : Int), (5 : Int), (8 : Int), (-2 : Int), (4 : Int)]).bind fun (v17, v18, v19) =>
grd ((0 : Int) ≤ v8 ∧ v8 < (v9.length : Int)) <|
some (.inl (IntKind.i64.wrap (v8 + (1 : Int)), v9.set v8.toNat v17, v18, v19)))
else
(bif v5 == (2 : Int) then
((m_spec_SizeOf v8).bind fun v20 =>
(m_spec_l1Below_io1 a0 v10 v11 (2 : Int)).bind fun (v21, v22, v23) =>
(m_spec_l1Max (0 : Int) (IntKind.i64.wrap ((IntKind.i64.wrap ((IntKind.i64.wrap ((3 : Int) * v20)) - (2 : Int))) - v21))).bind fun v24 =>
grd ((0 : Int) ≤ v8 ∧ v8 < (v9.length : Int)) <|
some (.inl (IntKind.i64.wrap (v8 + (1 : Int)), v9.set v8.toNat v24, v22, v23)))
else
((m_spec_SizeOf v8).bind fun v25 =>
(m_spec_l1Bit (decide ((IntKind.i64.wrap (v25 * (2 : Int))) > (IntKind.i64.wrap ((1 : Int) + v1))))).bind fun v26 =>
(m_spec_l1Below_io1 a0 v10 v11 (2 : Int)).bind fun (v27, v28, v29) =>
grd ((0 : Int) ≤ v8 ∧ v8 < (v9.length : Int)) <|
some (.inl (IntKind.i64.wrap (v8 + (1 : Int)), v9.set v8.toNat (IntKind.i64.wrap (v26 * (IntKind.i64.wrap ((3 : Int) + (IntKind.i64.wrap (v27 * (3 : Int))))))), v28, v29))))))
else
(some (.inr (v9, v10, v11))))
noncomputable def m_spec_l8Draw_io1 (a0 : List UInt8) (a1 : Int) (a2 : Int) (a3 : Int) : Option (Int × (List Int) × Int × Int) :=
(m_spec_l1Below_io1 a0 a1 a2 a3).bind fun (v1, v2, v3) =>
(m_spec_CountCoalitions (IntKind.i64.wrap ((1 : Int) + v1))).bind fun v4 =>
grd ((0 : Int) ≤ v4 ∧ v4 = v4 ∧ v4 ≤ (room : Int)) <|
(m_spec_l1Below_io1 a0 v2 v3 (4 : Int)).bind fun (v5, v6, v7) =>
(iter (l_spec_l8Draw_io1_0 a0 v1 v5) ((1 : Int), List.replicate v4.toNat (0 : Int), v6, v7)).bind fun
| (v30, v31, v32) => (
some (IntKind.i64.wrap ((1 : Int) + v1), v30, v31, v32))
theorem w_spec_l8Draw_io1 (x0 : Value) (a0 : List UInt8) (a1 : Int) (a2 : Int) (a3 : Int) (r : Int × (List Int) × Int × Int) (h : m_spec_l8Draw_io1 a0 a1 a2 a3 = some r) : AM.Spec Try.prog 98 [.ptr 2040 0, .int .i64 a3] [(2040, .box [.lst x0 (.bytes a0), .int .i64 a1, .int .i64 a2])] (.agg [.int .i64 r.1, .sl 1000 0]) [(1000, .arr 3 0 0 (.ints r.2.1)), (2040, .box [.lst x0 (.bytes a0), .int .i64 r.2.2.1, .int .i64 r.2.2.2])] := by
  refine spec_of (E := E98_spec_l8Draw) Try.func98 rfl rfl rfl rfl ?_
  refine Tri.run 1 [] [.keep [0, 1, 4] [4, 2040], .ownc 4 1 1100 3, .keep [0, 1, 4] [4, 1100, 2040]] (K' := [.code [(1, 0)] 0, .code [] 2]) (σ' := ⟨[(0, .ptr 2040 0), (1, .int .i64 a3), (4, .ptr 4 0)], [(4, .box [.int .i64 0, .sl 1100 0]), (1100, .arr 3 0 0 (.ints [])), (2040, .box [.lst x0 (.bytes a0), .int .i64 a1, .int .i64 a2])]⟩) rfl trivial rfl ?_
  obtain ⟨⟨v1, v2, v3⟩, hk1, h⟩ := bind_some h
  obtain ⟨v4, hk2, h⟩ := bind_some h
  obtain ⟨hg3, h⟩ := grd_some h
  refine Tri.run 2 [.r ⟨[2040], .int .i64 v1, [(2040, .box [.undf, .int .i64 v2, .int .i64 v3])]⟩, .r ⟨[], .int .i64 v4, []⟩] [.keep [0, 4, 5, 6] [4, 6, 16, 1100, 2040]] (K' := [.code [(3, 0)] 0, .code [] 4]) (σ' := ⟨[(0, .ptr 2040 0), (4, .ptr 4 0), (5, .int .i64 (IntKind.i64.wrap ((1 : Int) + v1))), (6, .ptr 6 0)], [(4, .box [.int .i64 0, .sl 1100 0]), (6, .box [.int .i64 (IntKind.i64.wrap ((1 : Int) + v1)), .sl 16 0]), (16, .arr 3 0 0 (.ints (List.replicate v4.toNat (0 : Int)))), (1100, .arr 3 0 0 (.ints [])), (2040, .box [.lst x0 (.bytes a0), .int .i64 v2, .int .i64 v3])]⟩) rfl ⟨hg3, (fun _ => (w_spec_CountCoalitions (IntKind.i64.wrap ((1 : Int) + v1)) v4 hk2)), (fun vf => ((w_spec_l1Below_io1 (vf 2040 0) a0 a1 a2 a3 (v1, v2, v3) hk1).swap 2060 2040)), trivial⟩ rfl ?_
  obtain ⟨⟨v5, v6, v7⟩, hk4, h⟩ := bind_some h
  refine Tri.run 2 [.r ⟨[2040], .int .i64 v5, [(2040, .box [.undf, .int .i64 v6, .int .i64 v7])]⟩] [.keep [0, 4, 5, 6, 7, 8] [4, 6, 16, 1100, 2040]] (K' := [.code [(4, 0), (1, 0)] 0, .blk 0, .code [] 5]) (σ' := ⟨[(0, .ptr 2040 0), (4, .ptr 4 0), (5, .int .i64 (IntKind.i64.wrap ((1 : Int) + v1))), (6, .ptr 6 0), (7, .int .i64 v5), (8, .int .i64 (1 : Int))], [(4, .box [.int .i64 0, .sl 1100 0]), (6, .box [.int .i64 (IntKind.i64.wrap ((1 : Int) + v1)), .sl 16 0]), (16, .arr 3 0 0 (.ints (List.replicate v4.toNat (0 : Int)))), (1100, .arr 3 0 0 (.ints [])), (2040, .box [.lst x0 (.bytes a0), .int .i64 v6, .int .i64 v7])]⟩) rfl ⟨(fun vf => ((w_spec_l1Below_io1 (vf 2040 0) a0 v2 v3 (4 : Int) (v5, v6, v7) hk4).swap 2060 2040)), trivial⟩ rfl ?_
  obtain ⟨x1, hk23, h⟩ := bind_some h
  refine Tri.loop (K1 := [.code [(4, 0), (1, 0), (0, 0)] 0]) (K2 := [.blk 0, .code [] 5]) (fun (v8, v9, v10, v11) => ⟨[(0, .ptr 2040 0), (4, .ptr 4 0), (5, .int .i64 (IntKind.i64.wrap ((1 : Int) + v1))), (6, .ptr 6 0), (7, .int .i64 v5), (8, .int .i64 v8)], [(4, .box [.int .i64 0, .sl 1100 0]), (6, .box [.int .i64 (IntKind.i64.wrap ((1 : Int) + v1)), .sl 16 0]), (16, .arr 3 0 0 (.ints v9)), (1100, .arr 3 0 0 (.ints [])), (2040, .box [.lst x0 (.bytes a0), .int .i64 v10, .int .i64 v11])]⟩) (fun x e σ' => match x with | (v30, v31, v32) => e = .exit 0 ∧ σ' = ⟨[(4, .ptr 4 0), (6, .ptr 6 0)], [(4, .box [.int .i64 0, .sl 1100 0]), (6, .box [.int .i64 (IntKind.i64.wrap ((1 : Int) + v1)), .sl 16 0]), (16, .arr 3 0 0 (.ints v30)), (1100, .arr 3 0 0 (.ints [])), (2040, .box [.lst x0 (.bytes a0), .int .i64 v31, .int .i64 v32])]⟩) hk23 rfl rfl ?_ ?_
  · intro s x hs
    clear h
    have h := hs
    clear hs
    obtain ⟨v8, v9, v10, v11⟩ := s
    refine Tri.run 1 [] [.keep [0, 4, 5, 6, 7, 8, 24] [4, 6, 16, 1100, 2040]] (K' := [.code [(4, 0), (1, 0), (0, 0), (0, 0)] 1, .code [(4, 0), (1, 0), (0, 0)] 1]) (σ' := ⟨[(0, .ptr 2040 0), (4, .ptr 4 0), (5, .int .i64 (IntKind.i64.wrap ((1 : Int) + v1))), (6, .ptr 6 0), (7, .int .i64 v5), (8, .int .i64 v8), (24, .bool (decide (v8 < (v9.length : Int))))], [(4, .box [.int .i64 0, .sl 1100 0]), (6, .box [.int .i64 (IntKind.i64.wrap ((1 : Int) + v1)), .sl 16 0]), (16, .arr 3 0 0 (.ints v9)), (1100, .arr 3 0 0 (.ints [])), (2040, .box [.lst x0 (.bytes a0), .int .i64 v10, .int .i64 v11])]⟩) rfl trivial rfl ?_
    rcases bif_some h with ⟨hd5, h⟩ | ⟨hd5, h⟩
    · refine Tri.run 3 [.g true] [.keep [0, 4, 5, 6, 7, 8, 27, 43] [4, 6, 16, 1100, 2040]] (K' := [.code [(4, 0), (1, 0), (0, 0), (1, 0), (0, 0), (1, 0)] 1, .blk 2, .blk 1, .code [(4, 0), (1, 0), (0, 0)] 2]) (σ' := ⟨[(0, .ptr 2040 0), (4, .ptr 4 0), (5, .int .i64 (IntKind.i64.wrap ((1 : Int) + v1))), (6, .ptr 6 0), (7, .int .i64 v5), (8, .int .i64 v8), (27, .int .i64 v5), (43, .bool (v5 == (0 : Int)))], [(4, .box [.int .i64 0, .sl 1100 0]), (6, .box [.int .i64 (IntKind.i64.wrap ((1 : Int) + v1)), .sl 16 0]), (16, .arr 3 0 0 (.ints v9)), (1100, .arr 3 0 0 (.ints [])), (2040, .box [.lst x0 (.bytes a0), .int .i64 v10, .int .i64 v11])]⟩) rfl ⟨hd5, trivial⟩ rfl ?_
      rcases bif_some h with ⟨hd6, h⟩ | ⟨hd6, h⟩
      · obtain ⟨v12, hk7, h⟩ := bind_some h
        obtain ⟨v13, hk8, h⟩ := bind_some h
        obtain ⟨⟨v14, v15, v16⟩, hk9, h⟩ := bind_some h
        obtain ⟨hg10, h⟩ := grd_some h
        refine Tri.run 3 [.g true, .r ⟨[], .int .i64 v12, []⟩, .r ⟨[], .int .i64 v13, []⟩, .r ⟨[2040], .int .i64 v14, [(2040, .box [.undf, .int .i64 v15, .int .i64 v16])]⟩] [.keep [0, 4, 5, 6, 7, 8] [4, 6, 16, 1100, 2040]] (K' := []) (σ' := ⟨[(0, .ptr 2040 0), (4, .ptr 4 0), (5, .int .i64 (IntKind.i64.wrap ((1 : Int) + v1))), (6, .ptr 6 0), (7, .int .i64 v5), (8, .int .i64 (IntKind.i64.wrap (v8 + (1 : Int))))], [(4, .box [.int .i64 0, .sl 1100 0]), (6, .box [.int .i64 (IntKind.i64.wrap ((1 : Int) + v1)), .sl 16 0]), (16, .arr 3 0 0 (.ints (v9.set v8.toNat (IntKind.i64.wrap ((IntKind.i64.wrap (v12 * v13)) + v14))))), (1100, .arr 3 0 0 (.ints [])), (2040, .box [.lst x0 (.bytes a0), .int .i64 v15, .int .i64 v16])]⟩) rfl ⟨hg10, (fun vf => ((w_spec_l1Below_io1 (vf 2040 0) a0 v10 v11 (2 : Int) (v14, v15, v16) hk9).swap 2060 2040)), (fun _ => (w_spec_SizeOf v8 v13 hk8)), (fun _ => (w_spec_SizeOf v8 v12 hk7)), hd6, trivial⟩ rfl ?_
        have h := Option.some.inj h
        subst h
        exact Tri.nil ⟨rfl, rfl⟩
      · refine Tri.run 2 [.g false] [.keep [0, 4, 5, 6, 7, 8, 27, 57] [4, 6, 16, 1100, 2040]] (K' := [.code [(4, 0), (1, 0), (0, 0), (1, 0), (0, 0), (1, 0), (1, 1)] 1, .blk 2, .blk 1, .code [(4, 0), (1, 0), (0, 0)] 2]) (σ' := ⟨[(0, .ptr 2040 0), (4, .ptr 4 0), (5, .int .i64 (IntKind.i64.wrap ((1 : Int) + v1))), (6, .ptr 6 0), (7, .int .i64 v5), (8, .int .i64 v8), (27, .int .i64 v5), (57, .bool (v5 == (1 : Int)))], [(4, .box [.int .i64 0, .sl 1100 0]), (6, .box [.int .i64 (IntKind.i64.wrap ((1 : Int) + v1)), .sl 16 0]), (16, .arr 3 0 0 (.ints v9)), (1100, .arr 3 0 0 (.ints [])), (2040, .box [.lst x0 (.bytes a0), .int .i64 v10, .int .i64 v11])]⟩) rfl ⟨hd6, trivial⟩ rfl ?_
        rcases bif_some h with ⟨hd11, h⟩ | ⟨hd11, h⟩
        · obtain ⟨⟨v17, v18, v19⟩, hk12, h⟩ := bind_some h
          obtain ⟨hg13, h⟩ := grd_some h
          refine Tri.run 3 [.g true, .r ⟨[2040], .int .i64 v17, [(2040, .box [.undf, .int .i64 v18, .int .i64 v19])]⟩] [.keep [0, 4, 5, 6, 7, 8] [4, 6, 16, 1100, 2040]] (K' := []) (σ' := ⟨[(0, .ptr 2040 0), (4, .ptr 4 0), (5, .int .i64 (IntKind.i64.wrap ((1 : Int) + v1))), (6, .ptr 6 0), (7, .int .i64 v5), (8, .int .i64 (IntKind.i64.wrap (v8 + (1 : Int))))], [(4, .box [.int .i64 0, .sl 1100 0]), (6, .box [.int .i64 (IntKind.i64.wrap ((1 : Int) + v1)), .sl 16 0]), (16, .arr 3 0 0 (.ints (v9.set v8.toNat v17))), (1100, .arr 3 0 0 (.ints [])), (2040, .box [.lst x0 (.bytes a0), .int .i64 v18, .int .i64 v19])]⟩) rfl ⟨hg13, (fun vf => ((w_spec_l1PickInt_io1 (vf 2040 0) a0 v10 v11 [(0 : Int), (1 : Int), (2 : Int), (3 : Int), (5 : Int), (8 : Int), (-2 : Int), (4 : Int)] (v17, v18, v19) hk12).swap 2100 2040)), hd11, trivial⟩ rfl ?_
          have h := Option.some.inj h
          subst h
          exact Tri.nil ⟨rfl, rfl⟩
        · refine Tri.run 2 [.g false] [.keep [0, 4, 5, 6, 7, 8, 66] [4, 6, 16, 1100, 2040]] (K' := [.code [(4, 0), (1, 0), (0, 0), (1, 0), (0, 0), (1, 0), (1, 1), (1, 1)] 1, .blk 2, .blk 1, .code [(4, 0), (1, 0), (0, 0)] 2]) (σ' := ⟨[(0, .ptr 2040 0), (4, .ptr 4 0), (5, .int .i64 (IntKind.i64.wrap ((1 : Int) + v1))), (6, .ptr 6 0), (7, .int .i64 v5), (8, .int .i64 v8), (66, .bool (v5 == (2 : Int)))], [(4, .box [.int .i64 0, .sl 1100 0]), (6, .box [.int .i64 (IntKind.i64.wrap ((1 : Int) + v1)), .sl 16 0]), (16, .arr 3 0 0 (.ints v9)), (1100, .arr 3 0 0 (.ints [])), (2040, .box [.lst x0 (.bytes a0), .int .i64 v10, .int .i64 v11])]⟩) rfl ⟨hd11, trivial⟩ rfl ?_
          rcases bif_some h with ⟨hd14, h⟩ | ⟨hd14, h⟩
          · obtain ⟨v20, hk15, h⟩ := bind_some h
            obtain ⟨⟨v21, v22, v23⟩, hk16, h⟩ := bind_some h
            obtain ⟨v24, hk17, h⟩ := bind_some h
            obtain ⟨hg18, h⟩ := grd_some h
            refine Tri.run 3 [.g true, .r ⟨[], .int .i64 v20, []⟩, .r ⟨[2040], .int .i64 v21, [(2040, .box [.undf, .int .i64 v22, .int .i64 v23])]⟩, .r ⟨[], .int .i64 v24, []⟩] [.keep [0, 4, 5, 6, 7, 8] [4, 6, 16, 1100, 2040]] (K' := []) (σ' := ⟨[(0, .ptr 2040 0), (4, .ptr 4 0), (5, .int .i64 (IntKind.i64.wrap ((1 : Int) + v1))), (6, .ptr 6 0), (7, .int .i64 v5), (8, .int .i64 (IntKind.i64.wrap (v8 + (1 : Int))))], [(4, .box [.int .i64 0, .sl 1100 0]), (6, .box [.int .i64 (IntKind.i64.wrap ((1 : Int) + v1)), .sl 16 0]), (16, .arr 3 0 0 (.ints (v9.set v8.toNat v24))), (1100, .arr 3 0 0 (.ints [])), (2040, .box [.lst x0 (.bytes a0), .int .i64 v22, .int .i64 v23])]⟩) rfl ⟨hg18, (fun _ => (w_spec_l1Max (0 : Int) (IntKind.i64.wrap ((IntKind.i64.wrap ((IntKind.i64.wrap ((3 : Int) * v20)) - (2 : Int))) - v21)) v24 hk17)), (fun vf => ((w_spec_l1Below_io1 (vf 2040 0) a0 v10 v11 (2 : Int) (v21, v22, v23) hk16).swap 2060 2040)), (fun _ => (w_spec_SizeOf v8 v20 hk15)), hd14, trivial⟩ rfl ?_
            have h := Option.some.inj h
            subst h
            exact Tri.nil ⟨rfl, rfl⟩
          · obtain ⟨v25, hk19, h⟩ := bind_some h
            obtain ⟨v26, hk20, h⟩ := bind_some h
            obtain ⟨⟨v27, v28, v29⟩, hk21, h⟩ := bind_some h
            obtain ⟨hg22, h⟩ := grd_some h
            refine Tri.run 3 [.g false, .r ⟨[], .int .i64 v25, []⟩, .r ⟨[], .int .i64 v26, []⟩, .r ⟨[2040], .int .i64 v27, [(2040, .box [.undf, .int .i64 v28, .int .i64 v29])]⟩] [.keep [0, 4, 5, 6, 7, 8] [4, 6, 16, 1100, 2040]] (K' := []) (σ' := ⟨[(0, .ptr 2040 0), (4, .ptr 4 0), (5, .int .i64 (IntKind.i64.wrap ((1 : Int) + v1))), (6, .ptr 6 0), (7, .int .i64 v5), (8, .int .i64 (IntKind.i64.wrap (v8 + (1 : Int))))], [(4, .box [.int .i64 0, .sl 1100 0]), (6, .box [.int .i64 (IntKind.i64.wrap ((1 : Int) + v1)), .sl 16 0]), (16, .arr 3 0 0 (.ints (v9.set v8.toNat (IntKind.i64.wrap (v26 * (IntKind.i64.wrap ((3 : Int) + (IntKind.i64.wrap (v27 * (3 : Int)))))))))), (1100, .arr 3 0 0 (.ints [])), (2040, .box [.lst x0 (.bytes a0), .int .i64 v28, .int .i64 v29])]⟩) rfl ⟨hg22, (fun vf => ((w_spec_l1Below_io1 (vf 2040 0) a0 v10 v11 (2 : Int) (v27, v28, v29) hk21).swap 2060 2040)), (fun _ => (w_spec_l1Bit (decide ((IntKind.i64.wrap (v25 * (2 : Int))) > (IntKind.i64.wrap ((1 : Int) + v1)))) v26 hk20)), (fun _ => (w_spec_SizeOf v8 v25 hk19)), hd14, trivial⟩ rfl ?_
            have h := Option.some.inj h
            subst h
            exact Tri.nil ⟨rfl, rfl⟩
    · refine Tri.run 1 [.g false] [.keep [4, 6] [4, 6, 16, 1100, 2040]] (K' := [.code [(4, 0), (1, 0), (0, 0), (0, 0), (1, 1)] 0, .code [(4, 0), (1, 0), (0, 0)] 1]) (σ' := ⟨[(4, .ptr 4 0), (6, .ptr 6 0)], [(4, .box [.int .i64 0, .sl 1100 0]), (6, .box [.int .i64 (IntKind.i64.wrap ((1 : Int) + v1)), .sl 16 0]), (16, .arr 3 0 0 (.ints v9)), (1100, .arr 3 0 0 (.ints [])), (2040, .box [.lst x0 (.bytes a0), .int .i64 v10, .int .i64 v11])]⟩) rfl ⟨hd5, trivial⟩ rfl ?_
      have h := Option.some.inj h
      subst h
      exact Tri.out 0 rfl ⟨nofun, rfl, rfl⟩
  · intro e σ' hne hq
    obtain ⟨v30, v31, v32⟩ := x1
    obtain ⟨rfl, rfl⟩ := hq
    refine TriX.exit (K' := [.code [] 5]) rfl ?_
    refine Tri.run 1 [] [.swap 16 1000, .keep [4] [4, 1000, 2040]] (K' := [.code [] 6]) (σ' := ⟨[(4, .ptr 4 0)], [(4, .box [.int .i64 (IntKind.i64.wrap ((1 : Int) + v1)), .sl 1000 0]), (1000, .arr 3 0 0 (.ints v30)), (2040, .box [.lst x0 (.bytes a0), .int .i64 v31, .int .i64 v32])]⟩) rfl trivial rfl ?_
    have h := Option.some.inj h
    subst h
    exact Tri.ret rfl ⟨.inl rfl, rfl, rfl⟩
/-! spec.l8Bent -/
noncomputable def E54_spec_l8Bent : Env := ⟨Try.prog, tys, (Try.f54.body).getD .skip, 39, tysOk, mixedOk⟩
abbrev q_spec_l8Bent_io1 (x0 : Value) (a0 : List UInt8) (r : Int × (List Int) × Int × Int) (σ' : ASt) : Prop := resAV E54_spec_l8Bent.T σ' Try.f54.results.toList = some (.agg [.int .i64 r.1, .sl 1000 0]) ∧ keepO σ'.ob (namesO [(1000, .arr 3 0 0 (.ints r.2.1)), (2020, .box [.lst x0 (.bytes a0), .int .i64 r.2.2.1, .int .i64 r.2.2.2])]) = [(1000, .arr 3 0 0 (.ints r.2.1)), (2020, .box [.lst x0 (.bytes a0), .int .i64 r.2.2.1, .int .i64 r.2.2.2])]
noncomputable def m_spec_l8Bent_io1 (a0 : List UInt8) (a1 : Int) (a2 : Int) : Option (Int × (List Int) × Int × Int) :=
(m_spec_l8Draw_io1 a0 a1 a2 (4 : Int)).bind fun (v1, v2, v3, v4) =>
(m_spec_l1Below_io1 a0 v3 v4 (12 : Int)).bind fun (v5, v6, v7) =>
bif v5 == (0 : Int) then
(grd ((0 : Int) ≤ (0 : Int) ∧ (0 : Int) < (v2.length : Int)) <|
some (v1, v2.set ((0 : Int).toNat) (1 : Int), v6, v7))
else
(bif v5 == (1 : Int) then
((m_spec_l1PickInt_io1 a0 v6 v7 [(0 : Int), (6 : Int), (2 : Int), (-1 : Int)]).bind fun (v8, v9, v10) =>
some (v8, v2, v9, v10))
else
(bif v5 == (2 : Int) then
(grd (v2.length + ([(1 : Int)] : List Int).length ≤ room) <|
some (v1, v2 ++ [(1 : Int)], v6, v7))
else
(bif v5 == (3 : Int) then
((m_spec_l1PickInt_io1 a0 v6 v7 [(500 : Int), (501 : Int), (-501 : Int)]).bind fun (v11, v12, v13) =>
grd ((0 : Int) ≤ IntKind.i64.wrap ((v2.length : Int) - (1 : Int)) ∧ IntKind.i64.wrap ((v2.length : Int) - (1 : Int)) < (v2.length : Int)) <|
some (v1, v2.set ((IntKind.i64.wrap ((v2.length : Int) - (1 : Int))).toNat) v11, v12, v13))
else
(some (v1, v2, v6, v7)))))
theorem w_spec_l8Bent_io1 (x0 : Value) (a0 : List UInt8) (a1 : Int) (a2 : Int) (r : Int × (List Int) × Int × Int) (h : m_spec_l8Bent_io1 a0 a1 a2 = some r) : AM.Spec Try.prog 54 [.ptr 2020 0] [(2020, .box [.lst x0 (.bytes a0), .int .i64 a1, .int .i64 a2])] (.agg [.int .i64 r.1, .sl 1000 0]) [(1000, .arr 3 0 0 (.ints r.2.1)), (2020, .box [.lst x0 (.bytes a0), .int .i64 r.2.2.1, .int .i64 r.2.2.2])] := by
  refine spec_of (E := E54_spec_l8Bent) Try.func54 rfl rfl rfl rfl ?_
  refine Tri.run 1 [] [.keep [0, 2] [2, 2020], .ownc 2 1 1100 3, .keep [0, 2] [2, 1100, 2020]] (K' := [.code [(1, 0)] 0, .code [] 2]) (σ' := ⟨[(0, .ptr 2020 0), (2, .ptr 2 0)], [(2, .box [.int .i64 0, .sl 1100 0]), (1100, .arr 3 0 0 (.ints [])), (2020, .box [.lst x0 (.bytes a0), .int .i64 a1, .int .i64 a2])]⟩) rfl trivial rfl ?_
  obtain ⟨⟨v1, v2, v3, v4⟩, hk1, h⟩ := bind_some h
  obtain ⟨⟨v5, v6, v7⟩, hk2, h⟩ := bind_some h
  refine Tri.run 3 [.r ⟨[2020], .agg [.int .i64 v1, .sl 1101 0], [(1101, .arr 3 0 0 (.ints v2)), (2020, .box [.undf, .int .i64 v3, .int .i64 v4])]⟩, .r ⟨[2020], .int .i64 v5, [(2020, .box [.undf, .int .i64 v6, .int .i64 v7])]⟩] [.keep [0, 2, 3, 7, 8] [2, 3, 1100, 1101, 2020]] (K' := [.code [(2, 0), (1, 0)] 1, .blk 0, .code [] 3]) (σ' := ⟨[(0, .ptr 2020 0), (2, .ptr 2 0), (3, .ptr 3 0), (7, .int .i64 v5), (8, .bool (v5 == (0 : Int)))], [(2, .box [.int .i64 0, .sl 1100 0]), (3, .box [.int .i64 v1, .sl 1101 0]), (1100, .arr 3 0 0 (.ints [])), (1101, .arr 3 0 0 (.ints v2)), (2020, .box [.lst x0 (.bytes a0), .int .i64 v6, .int .i64 v7])]⟩) rfl ⟨(fun vf => ((w_spec_l1Below_io1 (vf 2020 0) a0 v3 v4 (12 : Int) (v5, v6, v7) hk2).swap 2060 2020)), (fun vf => (((w_spec_l8Draw_io1 (vf 2020 0) a0 a1 a2 (4 : Int) (v1, v2, v3, v4) hk1).swap 1000 1101).swap 2040 2020)), trivial⟩ rfl ?_
  rcases bif_some h with ⟨hd3, h⟩ | ⟨hd3, h⟩
  · obtain ⟨hg4, h⟩ := grd_some h
    refine Tri.run 3 [.g true] [.swap 1101 1000, .keep [2] [2, 1000, 2020]] (K' := [.code [] 4]) (σ' := ⟨[(2, .ptr 2 0)], [(2, .box [.int .i64 v1, .sl 1000 0]), (1000, .arr 3 0 0 (.ints (v2.set ((0 : Int).toNat) (1 : Int)))), (2020, .box [.lst x0 (.bytes a0), .int .i64 v6, .int .i64 v7])]⟩) rfl ⟨hg4, hd3, trivial⟩ rfl ?_
    have h := Option.some.inj h
    subst h
    exact Tri.ret rfl ⟨.inl rfl, rfl, rfl⟩
  · refine Tri.run 2 [.g false] [.keep [0, 2, 3, 7, 13] [2, 3, 1100, 1101, 2020]] (K' := [.code [(2, 0), (1, 0), (1, 1)] 1, .blk 0, .code [] 3]) (σ' := ⟨[(0, .ptr 2020 0), (2, .ptr 2 0), (3, .ptr 3 0), (7, .int .i64 v5), (13, .bool (v5 == (1 : Int)))], [(2, .box [.int .i64 0, .sl 1100 0]), (3, .box [.int .i64 v1, .sl 1101 0]), (1100, .arr 3 0 0 (.ints [])), (1101, .arr 3 0 0 (.ints v2)), (2020, .box [.lst x0 (.bytes a0), .int .i64 v6, .int .i64 v7])]⟩) rfl ⟨hd3, trivial⟩ rfl ?_
    rcases bif_some h with ⟨hd5, h⟩ | ⟨hd5, h⟩
    · obtain ⟨⟨v8, v9, v10⟩, hk6, h⟩ := bind_some h
      refine Tri.run 3 [.g true, .r ⟨[2020], .int .i64 v8, [(2020, .box [.undf, .int .i64 v9, .int .i64 v10])]⟩] [.swap 1101 1000, .keep [2] [2, 1000, 2020]] (K' := [.code [] 4]) (σ' := ⟨[(2, .ptr 2 0)], [(2, .box [.int .i64 v8, .sl 1000 0]), (1000, .arr 3 0 0 (.ints v2)), (2020, .box [.lst x0 (.bytes a0), .int .i64 v9, .int .i64 v10])]⟩) rfl ⟨(fun vf => ((w_spec_l1PickInt_io1 (vf 2020 0) a0 v6 v7 [(0 : Int), (6 : Int), (2 : Int), (-1 : Int)] (v8, v9, v10) hk6).swap 2100 2020)), hd5, trivial⟩ rfl ?_
      have h := Option.some.inj h
      subst h
      exact Tri.ret rfl ⟨.inl rfl, rfl, rfl⟩
    · refine Tri.run 2 [.g false] [.keep [0, 2, 3, 7, 19] [2, 3, 1100, 1101, 2020]] (K' := [.code [(2, 0), (1, 0), (1, 1), (1, 1)] 1, .blk 0, .code [] 3]) (σ' := ⟨[(0, .ptr 2020 0), (2, .ptr 2 0), (3, .ptr 3 0), (7, .int .i64 v5), (19, .bool (v5 == (2 : Int)))], [(2, .box [.int .i64 0, .sl 1100 0]), (3, .box [.int .i64 v1, .sl 1101 0]), (1100, .arr 3 0 0 (.ints [])), (1101, .arr 3 0 0 (.ints v2)), (2020, .box [.lst x0 (.bytes a0), .int .i64 v6, .int .i64 v7])]⟩) rfl ⟨hd5, trivial⟩ rfl ?_
      rcases bif_some h with ⟨hd7, h⟩ | ⟨hd7, h⟩
      · obtain ⟨hg8, h⟩ := grd_some h
        refine Tri.run 3 [.g true] [.rever 1101, .swap 1101 1000, .keep [2] [2, 1000, 2020]] (K' := [.code [] 4]) (σ' := ⟨[(2, .ptr 2 0)], [(2, .box [.int .i64 v1, .sl 1000 0]), (1000, .arr 3 0 0 (.ints (v2 ++ [(1 : Int)]))), (2020, .box [.lst x0 (.bytes a0), .int .i64 v6, .int .i64 v7])]⟩) rfl ⟨hg8, hd7, trivial⟩ rfl ?_
        have h := Option.some.inj h
        subst h
        exact Tri.ret rfl ⟨.inl rfl, rfl, rfl⟩
      · refine Tri.run 2 [.g false] [.keep [0, 2, 3, 26] [2, 3, 1100, 1101, 2020]] (K' := [.code [(2, 0), (1, 0), (1, 1), (1, 1), (1, 1)] 1, .blk 0, .code [] 3]) (σ' := ⟨[(0, .ptr 2020 0), (2, .ptr 2 0), (3, .ptr 3 0), (26, .bool (v5 == (3 : Int)))], [(2, .box [.int .i64 0, .sl 1100 0]), (3, .box [.int .i64 v1, .sl 1101 0]), (1100, .arr 3 0 0 (.ints [])), (1101, .arr 3 0 0 (.ints v2)), (2020, .box [.lst x0 (.bytes a0), .int .i64 v6, .int .i64 v7])]⟩) rfl ⟨hd7, trivial⟩ rfl ?_
        rcases bif_some h with ⟨hd9, h⟩ | ⟨hd9, h⟩
        · obtain ⟨⟨v11, v12, v13⟩, hk10, h⟩ := bind_some h
          obtain ⟨hg11, h⟩ := grd_some h
          refine Tri.run 3 [.g true, .r ⟨[2020], .int .i64 v11, [(2020, .box [.undf, .int .i64 v12, .int .i64 v13])]⟩] [.swap 1101 1000, .keep [2] [2, 1000, 2020]] (K' := [.code [] 4]) (σ' := ⟨[(2, .ptr 2 0)], [(2, .box [.int .i64 v1, .sl 1000 0]), (1000, .arr 3 0 0 (.ints (v2.set ((IntKind.i64.wrap ((v2.length : Int) - (1 : Int))).toNat) v11))), (2020, .box [.lst x0 (.bytes a0), .int .i64 v12, .int .i64 v13])]⟩) rfl ⟨hg11, (fun vf => ((w_spec_l1PickInt_io1 (vf 2020 0) a0 v6 v7 [(500 : Int), (501 : Int), (-501 : Int)] (v11, v12, v13) hk10).swap 2100 2020)), hd9, trivial⟩ rfl ?_
          have h := Option.some.inj h
          subst h
          exact Tri.ret rfl ⟨.inl rfl, rfl, rfl⟩
        · refine Tri.run 2 [.g false] [.swap 1101 1000, .keep [2] [2, 1000, 2020]] (K' := [.code [] 4]) (σ' := ⟨[(2, .ptr 2 0)], [(2, .box [.int .i64 v1, .sl 1000 0]), (1000, .arr 3 0 0 (.ints v2)), (2020, .box [.lst x0 (.bytes a0), .int .i64 v6, .int .i64 v7])]⟩) rfl ⟨hd9, trivial⟩ rfl ?_
          have h := Option.some.inj h
          subst h
          exact Tri.ret rfl ⟨.inl rfl, rfl, rfl⟩
/-! spec.DrawDividendsOf -/
noncomputable def E37_spec_DrawDividendsOf : Env := ⟨Try.prog, tys, (Try.f37.body).getD .skip, 6, tysOk, mixedOk⟩
abbrev q_spec_DrawDividendsOf (r : Int × (List Int)) (σ' : ASt) : Prop := resAV E37_spec_DrawDividendsOf.T σ' Try.f37.results.toList = some (.agg [.int .i64 r.1, .sl 1000 0]) ∧ keepO σ'.ob (namesO [(1000, .arr 3 0 0 (.ints r.2))]) = [(1000, .arr 3 0 0 (.ints r.2))]
noncomputable def m_spec_DrawDividendsOf (a0 : List UInt8) : Option (Int × (List Int)) :=
(m_spec_l1New_io2 0 [] a0).bind fun (v1, v2, v3, _, _) =>
(m_spec_l8Bent_io1 v1 v2 v3).bind fun (v6, v7, _, _) =>
some (v6, v7)
theorem w_spec_DrawDividendsOf (a0 : List UInt8) (r : Int × (List Int)) (h : m_spec_DrawDividendsOf a0 = some r) : AM.Spec Try.prog 37 [.list (.bytes a0)] [] (.agg [.int .i64 r.1, .sl 1000 0]) [(1000, .arr 3 0 0 (.ints r.2))] := by
  refine spec_of (E := E37_spec_DrawDividendsOf) Try.func37 rfl rfl rfl rfl ?_
  refine Tri.run 1 [] [.keep [0, 2] [2], .ownc 2 1 1100 3, .keep [0, 2] [2, 1100]] (K' := [.code [(1, 0)] 0, .code [] 2]) (σ' := ⟨[(0, .list (.bytes a0)), (2, .ptr 2 0)], [(2, .box [.int .i64 0, .sl 1100 0]), (1100, .arr 3 0 0 (.ints []))]⟩) rfl trivial rfl ?_
  obtain ⟨⟨v1, v2, v3, v4, v5⟩, hk1, h⟩ := bind_some h
  obtain ⟨⟨v6, v7, v8, v9⟩, hk2, h⟩ := bind_some h
  refine Tri.run 1 [.r ⟨[2, 1100], .ptr 1101 0, [(1101, .box [.list (.bytes v1), .int .i64 v2, .int .i64 v3]), (1102, .arr 3 0 0 (.ints v4)), (2, .box [.int .i64 v5, .sl 1102 0])]⟩, .r ⟨[1101], .agg [.int .i64 v6, .sl 1103 0], [(1103, .arr 3 0 0 (.ints v7)), (1101, .box [.undf, .int .i64 v8, .int .i64 v9])]⟩] [.swap 1103 1000, .keep [2] [2, 1000]] (K' := [.code [] 2]) (σ' := ⟨[(2, .ptr 2 0)], [(2, .box [.int .i64 v6, .sl 1000 0]), (1000, .arr 3 0 0 (.ints v7))]⟩) rfl ⟨(fun vf => (((w_spec_l8Bent_io1 (vf 1101 0) v1 v2 v3 (v6, v7, v8, v9) hk2).swap 1000 1103).swap 2020 1101)), (fun _ => (((((w_spec_l1New_io2 0 [] a0 (v1, v2, v3, v4, v5) hk1).swap 1000 1101).swap 1001 1102).swap 2000 2).swap 2001 1100)), trivial⟩ rfl ?_
  have h := Option.some.inj h
  subst h
  exact Tri.ret rfl ⟨.inl rfl, rfl, rfl⟩
/-! impl.within -/
noncomputable def E59_impl_within : Env := ⟨Try.prog, tys, (Try.f59.body).getD .skip, 15, tysOk, mixedOk⟩
abbrev q_impl_within (r : Bool) (σ' : ASt) : Prop := resAV E59_impl_within.T σ' Try.f59.results.toList = some (.bool r) ∧ keepO σ'.ob (namesO []) = []
noncomputable def m_impl_within (a0 : Int) (a1 : Int) (a2 : Int) : Option Bool :=
bif decide (a0 ≥ a1) then
(some (decide (a0 ≤ a2)))
else
(some false)
theorem w_impl_within (a0 : Int) (a1 : Int) (a2 : Int) (r : Bool) (h : m_impl_within a0 a1 a2 = some r) : AM.Spec Try.prog 59 [.int .i64 a0, .int .i64 a1, .int .i64 a2] [] (.bool r) [] := by
  refine spec_of (E := E59_impl_within) Try.func59 rfl rfl rfl rfl ?_
  refine Tri.run 1 [] [.keep [0, 1, 2] []] (K' := [.code [(1, 0)] 0, .code [] 2]) (σ' := ⟨[(0, .int .i64 a0), (1, .int .i64 a1), (2, .int .i64 a2)], []⟩) rfl trivial rfl ?_
  rcases bif_some h with ⟨hd1, h⟩ | ⟨hd1, h⟩
  · refine Tri.run 1 [.g true] [.keep [6] []] (K' := [.code [] 2]) (σ' := ⟨[(6, .bool (decide (a0 ≤ a2)))], []⟩) rfl ⟨hd1, trivial⟩ rfl ?_
    have h := Option.some.inj h
    subst h
    exact Tri.ret rfl ⟨.inl rfl, rfl, rfl⟩
  · refine Tri.run 1 [.g false] [.keep [6] []] (K' := [.code [] 2]) (σ' := ⟨[(6, .bool false)], []⟩) rfl ⟨hd1, trivial⟩ rfl ?_
    have h := Option.some.inj h
    subst h
    exact Tri.ret rfl ⟨.inl rfl, rfl, rfl⟩
/-! impl.IsValidGame$1 -/
noncomputable def E82_impl_IsValidGame_1 : Env := ⟨Try.prog, tys, (Try.f82.body).getD .skip, 6, tysOk, mixedOk⟩
abbrev q_impl_IsValidGame_1 (r : Bool) (σ' : ASt) : Prop := resAV E82_impl_IsValidGame_1.T σ' Try.f82.results.toList = some (.bool r) ∧ keepO σ'.ob (namesO []) = []
noncomputable def m_impl_IsValidGame_1 (a0 : Int) : Option Bool :=
(m_impl_within a0 (-500 : Int) (500 : Int)).bind fun v1 =>
some (!v1)
theorem w_impl_IsValidGame_1 (a0 : Int) (r : Bool) (h : m_impl_IsValidGame_1 a0 = some r) : AM.Spec Try.prog 82 [.int .i64 a0] [] (.bool r) [] := by
  refine spec_of (E := E82_impl_IsValidGame_1) Try.func82 rfl rfl rfl rfl ?_
  refine Tri.run 1 [] [.keep [0] []] (K' := [.code [(1, 0)] 0, .code [] 2]) (σ' := ⟨[(0, .int .i64 a0)], []⟩) rfl trivial rfl ?_
  obtain ⟨v1, hk1, h⟩ := bind_some h
  refine Tri.run 1 [.r ⟨[], .bool v1, []⟩] [.keep [2] []] (K' := [.code [] 2]) (σ' := ⟨[(2, .bool (!v1))], []⟩) rfl ⟨(fun _ => (w_impl_within a0 (-500 : Int) (500 : Int) v1 hk1)), trivial⟩ rfl ?_
  have h := Option.some.inj h
  subst h
  exact Tri.ret rfl ⟨.inl rfl, rfl, rfl⟩
/-! slices.IndexFunc(()int,int) -/
noncomputable def E102_slices_IndexFunc_int_int : Env := ⟨Try.prog, tys, (Try.f102.body).getD .skip, 19, tysOk, mixedOk⟩
abbrev q_slices_IndexFunc_int_int_impl_IsValidGame_1 (r : Int) (σ' : ASt) : Prop := resAV E102_slices_IndexFunc_int_int.T σ' Try.f102.results.toList = some (.int .i64 r) ∧ keepO σ'.ob (namesO []) = []
noncomputable def l_slices_IndexFunc_int_int_impl_IsValidGame_1_0 (a0 : List Int) (v1 : Int) : Option (Int ⊕ (Unit ⊕ Int)) :=
bif decide (v1 < (a0.length : Int)) then
(grd ((0 : Int) ≤ v1 ∧ v1 < (a0.length : Int)) <|
(m_impl_IsValidGame_1 (a0.getD v1.toNat 0)).bind fun v2 =>
bif v2 then
(some (.inr (.inr v1)))
else
(some (.inl (IntKind.i64.wrap (v1 + (1 : Int))))))
else
(some (.inr (.inl ())))
noncomputable def m_slices_IndexFunc_int_int_impl_IsValidGame_1 (a0 : List Int) : Option Int :=
(iter (l_slices_IndexFunc_int_int_impl_IsValidGame_1_0 a0) (0 : Int)).bind fun
| (.inl _) => (
some (-1 : Int))
| (.inr r) => some r
theorem w_slices_IndexFunc_int_int_impl_IsValidGame_1 (a0 : List Int) (r : Int) (h : m_slices_IndexFunc_int_int_impl_IsValidGame_1 a0 = some r) : AM.Spec Try.prog 102 [.list (.ints a0), .func 82 [] []] [] (.int .i64 r) [] := by
  refine spec_of (E := E102_slices_IndexFunc_int_int) Try.func102 rfl rfl rfl rfl ?_
  refine Tri.run 2 [] [.keep [0, 1, 7, 8] []] (K' := [.code [(1, 0), (1, 0)] 0, .blk 0, .code [] 2]) (σ' := ⟨[(0, .list (.ints a0)), (1, .func 82 [] []), (7, .int .i64 (a0.length : Int)), (8, .int .i64 (0 : Int))], []⟩) rfl trivial rfl ?_
  obtain ⟨x1, hk5, h⟩ := bind_some h
  refine Tri.loop (K1 := [.code [(1, 0), (1, 0), (0, 0)] 0]) (K2 := [.blk 0, .code [] 2]) (fun v1 => ⟨[(0, .list (.ints a0)), (1, .func 82 [] []), (7, .int .i64 (a0.length : Int)), (8, .int .i64 v1)], []⟩) (fun x e σ' => match x with | (.inl _) => e = .exit 0 ∧ σ' = ⟨[], []⟩ | (.inr r) => e = .ret ∧ q_slices_IndexFunc_int_int_impl_IsValidGame_1 r σ') hk5 rfl rfl ?_ ?_
  · intro v1 x hs
    clear h
    have h := hs
    clear hs
    refine Tri.run 1 [] [.keep [0, 1, 7, 8, 9] []] (K' := [.code [(1, 0), (1, 0), (0, 0), (1, 0)] 0, .code [(1, 0), (1, 0), (0, 0)] 2]) (σ' := ⟨[(0, .list (.ints a0)), (1, .func 82 [] []), (7, .int .i64 (a0.length : Int)), (8, .int .i64 v1), (9, .bool (decide (v1 < (a0.length : Int))))], []⟩) rfl trivial rfl ?_
    rcases bif_some h with ⟨hd1, h⟩ | ⟨hd1, h⟩
    · refine Tri.run 2 [.g true] [.keep [0, 1, 5, 7, 8] []] (K' := [.code [(1, 0), (1, 0), (0, 0), (2, 0), (0, 0), (1, 0)] 0, .code [(1, 0), (1, 0), (0, 0), (2, 0), (0, 0)] 2, .blk 1, .code [(1, 0), (1, 0), (0, 0)] 3]) (σ' := ⟨[(0, .list (.ints a0)), (1, .func 82 [] []), (5, .int .i64 v1), (7, .int .i64 (a0.length : Int)), (8, .int .i64 v1)], []⟩) rfl ⟨hd1, trivial⟩ rfl ?_
      obtain ⟨hg2, h⟩ := grd_some h
      obtain ⟨v2, hk3, h⟩ := bind_some h
      refine Tri.run 1 [.r ⟨[], .bool v2, []⟩] [.keep [0, 1, 5, 7, 8, 16] []] (K' := [.code [(1, 0), (1, 0), (0, 0), (2, 0), (0, 0)] 2, .blk 1, .code [(1, 0), (1, 0), (0, 0)] 3]) (σ' := ⟨[(0, .list (.ints a0)), (1, .func 82 [] []), (5, .int .i64 v1), (7, .int .i64 (a0.length : Int)), (8, .int .i64 v1), (16, .bool v2)], []⟩) rfl ⟨(fun _ => (w_impl_IsValidGame_1 (a0.getD v1.toNat 0) v2 hk3)), hg2, trivial⟩ rfl ?_
      rcases bif_some h with ⟨hd4, h⟩ | ⟨hd4, h⟩
      · refine Tri.run 2 [.g true] [.keep [4] []] (K' := [.code [(1, 0), (1, 0), (0, 0), (2, 0), (0, 0), (2, 0)] 1, .blk 1, .code [(1, 0), (1, 0), (0, 0)] 3]) (σ' := ⟨[(4, .int .i64 v1)], []⟩) rfl ⟨hd4, trivial⟩ rfl ?_
        have h := Option.some.inj h
        subst h
        exact Tri.ret rfl ⟨nofun, rfl, rfl, rfl⟩
      · refine Tri.run 2 [.g false] [.keep [0, 1, 7, 8] []] (K' := []) (σ' := ⟨[(0, .list (.ints a0)), (1, .func 82 [] []), (7, .int .i64 (a0.length : Int)), (8, .int .i64 (IntKind.i64.wrap (v1 + (1 : Int))))], []⟩) rfl ⟨hd4, trivial⟩ rfl ?_
        have h := Option.some.inj h
        subst h
        exact Tri.nil ⟨rfl, rfl⟩
    · refine Tri.run 1 [.g false] [.keep [] []] (K' := [.code [(1, 0), (1, 0), (0, 0), (1, 0), (0, 1)] 0, .code [(1, 0), (1, 0), (0, 0)] 2]) (σ' := ⟨[], []⟩) rfl ⟨hd1, trivial⟩ rfl ?_
      have h := Option.some.inj h
      subst h
      exact Tri.out 0 rfl ⟨nofun, rfl, rfl⟩
  · intro e σ' hne hq
    rcases x1 with _ | r
    · obtain ⟨rfl, rfl⟩ := hq
      refine TriX.exit (K' := [.code [] 2]) rfl ?_
      refine Tri.run 1 [] [.keep [4] []] (K' := [.code [] 3]) (σ' := ⟨[(4, .int .i64 (-1 : Int))], []⟩) rfl trivial rfl ?_
      have h := Option.some.inj h
      subst h
      exact Tri.ret rfl ⟨.inl rfl, rfl, rfl⟩
    · obtain ⟨rfl, hq⟩ := hq
      have h := Option.some.inj h
      subst h
      exact TriX.ret ⟨.inl rfl, hq⟩
/-! slices.ContainsFunc(()int,int) -/
noncomputable def E72_slices_ContainsFunc_int_int : Env := ⟨Try.prog, tys, (Try.f72.body).getD .skip, 9, tysOk, mixedOk⟩
abbrev q_slices_ContainsFunc_int_int_impl_IsValidGame_1 (r : Bool) (σ' : ASt) : Prop := resAV E72_slices_ContainsFunc_int_int.T σ' Try.f72.results.toList = some (.bool r) ∧ keepO σ'.ob (namesO []) = []
noncomputable def m_slices_ContainsFunc_int_int_impl_IsValidGame_1 (a0 : List Int) : Option Bool :=
(m_slices_IndexFunc_int_int_impl_IsValidGame_1 a0).bind fun v1 =>
some (decide (v1 ≥ (0 : Int)))
theorem w_slices_ContainsFunc_int_int_impl_IsValidGame_1 (a0 : List Int) (r : Bool) (h : m_slices_ContainsFunc_int_int_impl_IsValidGame_1 a0 = some r) : AM.Spec Try.prog 72 [.list (.ints a0), .func 82 [] []] [] (.bool r) [] := by
  refine spec_of (E := E72_slices_ContainsFunc_int_int) Try.func72 rfl rfl rfl rfl ?_
  refine Tri.run 1 [] [.keep [0, 1] []] (K' := [.code [(1, 0)] 0, .code [] 2]) (σ' := ⟨[(0, .list (.ints a0)), (1, .func 82 [] [])], []⟩) rfl trivial rfl ?_
  obtain ⟨v1, hk1, h⟩ := bind_some h
  refine Tri.run 1 [.r ⟨[], .int .i64 v1, []⟩] [.keep [4] []] (K' := [.code [] 2]) (σ' := ⟨[(4, .bool (decide (v1 ≥ (0 : Int))))], []⟩) rfl ⟨(fun _ => (w_slices_IndexFunc_int_int_impl_IsValidGame_1 a0 v1 hk1)), trivial⟩ rfl ?_
  have h := Option.some.inj h
  subst h
  exact Tri.ret rfl ⟨.inl rfl, rfl, rfl⟩
/-! impl.IsValidGame -/
noncomputable def E35_impl_IsValidGame : Env := ⟨Try.prog, tys, (Try.f35.body).getD .skip, 27, tysOk, mixedOk⟩
abbrev q_impl_IsValidGame (r : Bool) (σ' : ASt) : Prop := resAV E35_impl_IsValidGame.T σ' Try.f35.results.toList = some (.bool r) ∧ keepO σ'.ob (namesO []) = []
noncomputable def m_impl_IsValidGame (a0 : Int) (a1 : List Int) : Option Bool :=
(m_impl_within a0 (1 : Int) (5 : Int)).bind fun v1 =>
bif !v1 then
(some false)
else
(grd ((0 : Int) ≤ a0) <|
bif (a1.length : Int) != (IntKind.i64.wrap ((1 : Int) * 2 ^ (min a0.toNat 64))) then
(some false)
else
(grd ((0 : Int) ≤ (0 : Int) ∧ (0 : Int) < (a1.length : Int)) <|
bif (a1.getD ((0 : Int).toNat) 0) != (0 : Int) then
(some false)
else
((m_slices_ContainsFunc_int_int_impl_IsValidGame_1 a1).bind fun v2 =>
some (!v2))))
theorem w_impl_IsValidGame (a0 : Int) (a1 : List Int) (r : Bool) (h : m_impl_IsValidGame a0 a1 = some r) : AM.Spec Try.prog 35 [.agg [.int .i64 a0, .list (.ints a1)]] [] (.bool r) [] := by
  refine spec_of (E := E35_impl_IsValidGame) Try.func35 rfl rfl rfl rfl ?_
  refine Tri.run 1 [] [.keep [1] [1]] (K' := [.code [(1, 0), (0, 0)] 0, .code [(1, 0)] 1, .code [] 2]) (σ' := ⟨[(1, .ptr 1 0)], [(1, .box [.int .i64 a0, .list (.ints a1)])]⟩) rfl trivial rfl ?_
  obtain ⟨v1, hk1, h⟩ := bind_some h
  rcases bif_some h with ⟨hd2, h⟩ | ⟨hd2, h⟩
  · refine Tri.run 1 [.r ⟨[], .bool v1, []⟩, .g true, .g true] [.keep [1, 22] [1]] (K' := [.code [(1, 0)] 1, .code [] 2]) (σ' := ⟨[(1, .ptr 1 0), (22, .bool true)], [(1, .box [.int .i64 a0, .list (.ints a1)])]⟩) rfl ⟨rfl, hd2, (fun _ => (w_impl_within a0 (1 : Int) (5 : Int) v1 hk1)), trivial⟩ rfl ?_
    refine Tri.run 2 [.g true] [.keep [2] []] (K' := [.code [(1, 0), (1, 0)] 1, .code [] 2]) (σ' := ⟨[(2, .bool false)], []⟩) rfl ⟨rfl, trivial⟩ rfl ?_
    have h := Option.some.inj h
    subst h
    exact Tri.ret rfl ⟨.inl rfl, rfl, rfl⟩
  · obtain ⟨hg3, h⟩ := grd_some h
    rcases bif_some h with ⟨hd4, h⟩ | ⟨hd4, h⟩
    · refine Tri.run 1 [.r ⟨[], .bool v1, []⟩, .g false, .g true] [.keep [1, 22] [1]] (K' := [.code [(1, 0)] 1, .code [] 2]) (σ' := ⟨[(1, .ptr 1 0), (22, .bool true)], [(1, .box [.int .i64 a0, .list (.ints a1)])]⟩) rfl ⟨hd4, hg3, hd2, (fun _ => (w_impl_within a0 (1 : Int) (5 : Int) v1 hk1)), trivial⟩ rfl ?_
      refine Tri.run 2 [.g true] [.keep [2] []] (K' := [.code [(1, 0), (1, 0)] 1, .code [] 2]) (σ' := ⟨[(2, .bool false)], []⟩) rfl ⟨rfl, trivial⟩ rfl ?_
      have h := Option.some.inj h
      subst h
      exact Tri.ret rfl ⟨.inl rfl, rfl, rfl⟩
    · obtain ⟨hg5, h⟩ := grd_some h
      refine Tri.run 1 [.r ⟨[], .bool v1, []⟩, .g false, .g false] [.keep [1, 22] [1]] (K' := [.code [(1, 0)] 1, .code [] 2]) (σ' := ⟨[(1, .ptr 1 0), (22, .bool ((a1.getD ((0 : Int).toNat) 0) != (0 : Int)))], [(1, .box [.int .i64 a0, .list (.ints a1)])]⟩) rfl ⟨hg5, hd4, hg3, hd2, (fun _ => (w_impl_within a0 (1 : Int) (5 : Int) v1 hk1)), trivial⟩ rfl ?_
      rcases bif_some h with ⟨hd6, h⟩ | ⟨hd6, h⟩
      · refine Tri.run 2 [.g true] [.keep [2] []] (K' := [.code [(1, 0), (1, 0)] 1, .code [] 2]) (σ' := ⟨[(2, .bool false)], []⟩) rfl ⟨hd6, trivial⟩ rfl ?_
        have h := Option.some.inj h
        subst h
        exact Tri.ret rfl ⟨.inl rfl, rfl, rfl⟩
      · obtain ⟨v2, hk7, h⟩ := bind_some h
        refine Tri.run 2 [.g false, .r ⟨[], .bool v2, []⟩] [.keep [2] []] (K' := [.code [] 3]) (σ' := ⟨[(2, .bool (!v2))], []⟩) rfl ⟨(fun _ => (w_slices_ContainsFunc_int_int_impl_IsValidGame_1 a1 v2 hk7)), hd6, trivial⟩ rfl ?_
        have h := Option.some.inj h
        subst h
        exact Tri.ret rfl ⟨.inl rfl, rfl, rfl⟩
/-! impl.DividendsOf -/
noncomputable def E38_impl_DividendsOf : Env := ⟨Try.prog, tys, (Try.f38.body).getD .skip, 47, tysOk, mixedOk⟩
abbrev q_impl_DividendsOf (r : List Int) (σ' : ASt) : Prop := resAV E38_impl_DividendsOf.T σ' Try.f38.results.toList = some (.sl 1000 0) ∧ keepO σ'.ob (namesO [(1000, .arr 3 0 0 (.ints r))]) = [(1000, .arr 3 0 0 (.ints r))]
noncomputable def l_impl_DividendsOf_1 (v2 : Int) : (Int × (List Int)) → Option ((Int × (List Int)) ⊕ ((List Int)))
  | (v4, v5) => (
bif decide (v4 < v2) then
(bif (bitsOf .andNot .i64 v4 v2) == (0 : Int) then
(grd ((0 : Int) ≤ v2 ∧ v2 < (v5.length : Int)) <|
grd ((0 : Int) ≤ v4 ∧ v4 < (v5.length : Int)) <|
grd ((0 : Int) ≤ v2 ∧ v2 < (v5.length : Int)) <|
some (.inl (IntKind.i64.wrap (v4 + (1 : Int)), v5.set v2.toNat (IntKind.i64.wrap ((v5.getD v2.toNat 0) - (v5.getD v4.toNat 0))))))
else
(some (.inl (IntKind.i64.wrap (v4 + (1 : Int)), v5))))
else
(some (.inr v5)))
noncomputable def l_impl_DividendsOf_0 (a1 : List Int) : (Int × (List Int)) → Option ((Int × (List Int)) ⊕ ((List Int)))
  | (v2, v3) => (
bif decide (v2 < ((List.replicate (a1.length : Int).toNat (0 : Int)).length : Int)) then
(grd ((0 : Int) ≤ v2 ∧ v2 < (a1.length : Int)) <|
grd ((0 : Int) ≤ v2 ∧ v2 < (v3.length : Int)) <|
(iter (l_impl_DividendsOf_1 v2) ((0 : Int), v3.set v2.toNat (a1.getD v2.toNat 0))).bind fun
| v6 => (
some (.inl (IntKind.i64.wrap (v2 + (1 : Int)), v6))))
else
(some (.inr v3)))
noncomputable def m_impl_DividendsOf (a0 : Int) (a1 : List Int) : Option (List Int) :=
(m_impl_IsValidGame a0 a1).bind fun v1 =>
bif !v1 then
(some [])
else
(grd ((0 : Int) ≤ (a1.length : Int) ∧ (a1.length : Int) = (a1.length : Int) ∧ (a1.length : Int) ≤ (room : Int)) <|
(iter (l_impl_DividendsOf_0 a1) ((0 : Int), List.replicate (a1.length : Int).toNat (0 : Int))).bind fun
| v7 => (
some v7))
theorem w_impl_DividendsOf (a0 : Int) (a1 : List Int) (r : List Int) (h : m_impl_DividendsOf a0 a1 = some r) : AM.Spec Try.prog 38 [.agg [.int .i64 a0, .list (.ints a1)]] [] (.sl 1000 0) [(1000, .arr 3 0 0 (.ints r))] := by
  refine spec_of (E := E38_impl_DividendsOf) Try.func38 rfl rfl rfl rfl ?_
  refine Tri.run 1 [] [.keep [1] [1]] (K' := [.code [(1, 0), (0, 0)] 0, .code [(1, 0)] 1, .code [] 2]) (σ' := ⟨[(1, .ptr 1 0)], [(1, .box [.int .i64 a0, .list (.ints a1)])]⟩) rfl trivial rfl ?_
  obtain ⟨v1, hk1, h⟩ := bind_some h
  refine Tri.run 1 [.r ⟨[], .bool v1, []⟩] [.keep [1, 8] [1]] (K' := [.code [(1, 0)] 1, .code [] 2]) (σ' := ⟨[(1, .ptr 1 0), (8, .bool (!v1))], [(1, .box [.int .i64 a0, .list (.ints a1)])]⟩) rfl ⟨(fun _ => (w_impl_IsValidGame a0 a1 v1 hk1)), trivial⟩ rfl ?_
  rcases bif_some h with ⟨hd2, h⟩ | ⟨hd2, h⟩
  · refine Tri.run 2 [.g true] [.own 2 [] 1100 3, .swap 1100 1000, .keep [2] [1000]] (K' := [.code [(1, 0), (1, 0)] 1, .code [] 2]) (σ' := ⟨[(2, .sl 1000 0)], [(1000, .arr 3 0 0 (.ints []))]⟩) rfl ⟨hd2, trivial⟩ rfl ?_
    have h := Option.some.inj h
    subst h
    exact Tri.ret rfl ⟨.inl rfl, rfl, rfl⟩
  · obtain ⟨hg3, h⟩ := grd_some h
    refine Tri.run 3 [.g false] [.keep [1, 3, 14, 15] [1, 12]] (K' := [.code [(3, 0), (1, 0)] 0, .blk 0, .code [] 4]) (σ' := ⟨[(1, .ptr 1 0), (3, .sl 12 0), (14, .int .i64 ((List.replicate (a1.length : Int).toNat (0 : Int)).length : Int)), (15, .int .i64 (0 : Int))], [(1, .box [.int .i64 a0, .list (.ints a1)]), (12, .arr 3 0 0 (.ints (List.replicate (a1.length : Int).toNat (0 : Int))))]⟩) rfl ⟨hg3, hd2, trivial⟩ rfl ?_
    obtain ⟨v7, hk13, h⟩ := bind_some h
    refine Tri.loop (K1 := [.code [(3, 0), (1, 0), (0, 0)] 0]) (K2 := [.blk 0, .code [] 4]) (fun (v2, v3) => ⟨[(1, .ptr 1 0), (3, .sl 12 0), (14, .int .i64 ((List.replicate (a1.length : Int).toNat (0 : Int)).length : Int)), (15, .int .i64 v2)], [(1, .box [.int .i64 a0, .list (.ints a1)]), (12, .arr 3 0 0 (.ints v3))]⟩) (fun x e σ' => match x with | v7 => e = .exit 0 ∧ σ' = ⟨[(3, .sl 12 0)], [(12, .arr 3 0 0 (.ints v7))]⟩) hk13 rfl rfl ?_ ?_
    · intro s x hs
      clear h
      have h := hs
      clear hs
      obtain ⟨v2, v3⟩ := s
      refine Tri.run 1 [] [.keep [1, 3, 14, 15, 16] [1, 12]] (K' := [.code [(3, 0), (1, 0), (0, 0), (1, 0)] 0, .code [(3, 0), (1, 0), (0, 0)] 2]) (σ' := ⟨[(1, .ptr 1 0), (3, .sl 12 0), (14, .int .i64 ((List.replicate (a1.length : Int).toNat (0 : Int)).length : Int)), (15, .int .i64 v2), (16, .bool (decide (v2 < ((List.replicate (a1.length : Int).toNat (0 : Int)).length : Int))))], [(1, .box [.int .i64 a0, .list (.ints a1)]), (12, .arr 3 0 0 (.ints v3))]⟩) rfl trivial rfl ?_
      rcases bif_some h with ⟨hd4, h⟩ | ⟨hd4, h⟩
      · obtain ⟨hg5, h⟩ := grd_some h
        obtain ⟨hg6, h⟩ := grd_some h
        refine Tri.run 3 [.g true] [.keep [1, 3, 4, 14, 15] [1, 12]] (K' := [.code [(3, 0), (1, 0), (0, 0), (2, 0), (0, 0), (2, 0)] 0, .code [(3, 0), (1, 0), (0, 0), (2, 0), (0, 0)] 3, .blk 1, .code [(3, 0), (1, 0), (0, 0)] 3]) (σ' := ⟨[(1, .ptr 1 0), (3, .sl 12 0), (4, .int .i64 v2), (14, .int .i64 ((List.replicate (a1.length : Int).toNat (0 : Int)).length : Int)), (15, .int .i64 v2)], [(1, .box [.int .i64 a0, .list (.ints a1)]), (12, .arr 3 0 0 (.ints (v3.set v2.toNat (a1.getD v2.toNat 0))))]⟩) rfl ⟨hg6, hg5, hd4, trivial⟩ rfl ?_
        refine Tri.run 1 [] [.keep [1, 3, 4, 14, 15, 26, 27] [1, 12]] (K' := [.code [(3, 0), (1, 0), (0, 0), (2, 0), (0, 0), (3, 0)] 0, .blk 2, .blk 1, .code [(3, 0), (1, 0), (0, 0)] 3]) (σ' := ⟨[(1, .ptr 1 0), (3, .sl 12 0), (4, .int .i64 v2), (14, .int .i64 ((List.replicate (a1.length : Int).toNat (0 : Int)).length : Int)), (15, .int .i64 v2), (26, .int .i64 v2), (27, .int .i64 (0 : Int))], [(1, .box [.int .i64 a0, .list (.ints a1)]), (12, .arr 3 0 0 (.ints (v3.set v2.toNat (a1.getD v2.toNat 0))))]⟩) rfl trivial rfl ?_
        obtain ⟨v6, hk12, h⟩ := bind_some h
        refine Tri.loop (K1 := [.code [(3, 0), (1, 0), (0, 0), (2, 0), (0, 0), (3, 0), (0, 0)] 0]) (K2 := [.blk 2, .blk 1, .code [(3, 0), (1, 0), (0, 0)] 3]) (fun (v4, v5) => ⟨[(1, .ptr 1 0), (3, .sl 12 0), (4, .int .i64 v2), (14, .int .i64 ((List.replicate (a1.length : Int).toNat (0 : Int)).length : Int)), (15, .int .i64 v2), (26, .int .i64 v2), (27, .int .i64 v4)], [(1, .box [.int .i64 a0, .list (.ints a1)]), (12, .arr 3 0 0 (.ints v5))]⟩) (fun x e σ' => match x with | v6 => e = .exit 2 ∧ σ' = ⟨[(1, .ptr 1 0), (3, .sl 12 0), (14, .int .i64 ((List.replicate (a1.length : Int).toNat (0 : Int)).length : Int)), (15, .int .i64 v2)], [(1, .box [.int .i64 a0, .list (.ints a1)]), (12, .arr 3 0 0 (.ints v6))]⟩) hk12 rfl rfl ?_ ?_
        · intro s x hs
          clear h
          have h := hs
          clear hs
          obtain ⟨v4, v5⟩ := s
          refine Tri.run 1 [] [.keep [1, 3, 4, 14, 15, 26, 27, 28] [1, 12]] (K' := [.code [(3, 0), (1, 0), (0, 0), (2, 0), (0, 0), (3, 0), (0, 0), (1, 0)] 0, .code [(3, 0), (1, 0), (0, 0), (2, 0), (0, 0), (3, 0), (0, 0)] 2]) (σ' := ⟨[(1, .ptr 1 0), (3, .sl 12 0), (4, .int .i64 v2), (14, .int .i64 ((List.replicate (a1.length : Int).toNat (0 : Int)).length : Int)), (15, .int .i64 v2), (26, .int .i64 v2), (27, .int .i64 v4), (28, .bool (decide (v4 < v2)))], [(1, .box [.int .i64 a0, .list (.ints a1)]), (12, .arr 3 0 0 (.ints v5))]⟩) rfl trivial rfl ?_
          rcases bif_some h with ⟨hd7, h⟩ | ⟨hd7, h⟩
          · refine Tri.run 3 [.g true] [.keep [1, 3, 4, 5, 14, 15, 26, 27, 33] [1, 12]] (K' := [.code [(3, 0), (1, 0), (0, 0), (2, 0), (0, 0), (3, 0), (0, 0), (2, 0), (0, 0)] 2, .blk 3, .code [(3, 0), (1, 0), (0, 0), (2, 0), (0, 0), (3, 0), (0, 0)] 3]) (σ' := ⟨[(1, .ptr 1 0), (3, .sl 12 0), (4, .int .i64 v2), (5, .int .i64 v4), (14, .int .i64 ((List.replicate (a1.length : Int).toNat (0 : Int)).length : Int)), (15, .int .i64 v2), (26, .int .i64 v2), (27, .int .i64 v4), (33, .bool ((bitsOf .andNot .i64 v4 v2) == (0 : Int)))], [(1, .box [.int .i64 a0, .list (.ints a1)]), (12, .arr 3 0 0 (.ints v5))]⟩) rfl ⟨hd7, trivial⟩ rfl ?_
            rcases bif_some h with ⟨hd8, h⟩ | ⟨hd8, h⟩
            · obtain ⟨hg9, h⟩ := grd_some h
              obtain ⟨hg10, h⟩ := grd_some h
              obtain ⟨hg11, h⟩ := grd_some h
              refine Tri.run 3 [.g true] [.keep [1, 3, 4, 14, 15, 26, 27] [1, 12]] (K' := []) (σ' := ⟨[(1, .ptr 1 0), (3, .sl 12 0), (4, .int .i64 v2), (14, .int .i64 ((List.replicate (a1.length : Int).toNat (0 : Int)).length : Int)), (15, .int .i64 v2), (26, .int .i64 v2), (27, .int .i64 (IntKind.i64.wrap (v4 + (1 : Int))))], [(1, .box [.int .i64 a0, .list (.ints a1)]), (12, .arr 3 0 0 (.ints (v5.set v2.toNat (IntKind.i64.wrap ((v5.getD v2.toNat 0) - (v5.getD v4.toNat 0))))))]⟩) rfl ⟨hg11, hg10, hg9, hd8, trivial⟩ rfl ?_
              have h := Option.some.inj h
              subst h
              exact Tri.nil ⟨rfl, rfl⟩
            · refine Tri.run 2 [.g false] [.keep [1, 3, 4, 14, 15, 26, 27] [1, 12]] (K' := []) (σ' := ⟨[(1, .ptr 1 0), (3, .sl 12 0), (4, .int .i64 v2), (14, .int .i64 ((List.replicate (a1.length : Int).toNat (0 : Int)).length : Int)), (15, .int .i64 v2), (26, .int .i64 v2), (27, .int .i64 (IntKind.i64.wrap (v4 + (1 : Int))))], [(1, .box [.int .i64 a0, .list (.ints a1)]), (12, .arr 3 0 0 (.ints v5))]⟩) rfl ⟨hd8, trivial⟩ rfl ?_
              have h := Option.some.inj h
              subst h
              exact Tri.nil ⟨rfl, rfl⟩
          · refine Tri.run 1 [.g false] [.keep [1, 3, 14, 15] [1, 12]] (K' := [.code [(3, 0), (1, 0), (0, 0), (2, 0), (0, 0), (3, 0), (0, 0), (1, 0), (0, 1)] 0, .code [(3, 0), (1, 0), (0, 0), (2, 0), (0, 0), (3, 0), (0, 0)] 2]) (σ' := ⟨[(1, .ptr 1 0), (3, .sl 12 0), (14, .int .i64 ((List.replicate (a1.length : Int).toNat (0 : Int)).length : Int)), (15, .int .i64 v2)], [(1, .box [.int .i64 a0, .list (.ints a1)]), (12, .arr 3 0 0 (.ints v5))]⟩) rfl ⟨hd7, trivial⟩ rfl ?_
            have h := Option.some.inj h
            subst h
            exact Tri.out 2 rfl ⟨nofun, rfl, rfl⟩
        · intro e σ' hne hq
          obtain ⟨rfl, rfl⟩ := hq
          refine TriX.exit (K' := [.blk 1, .code [(3, 0), (1, 0), (0, 0)] 3]) rfl ?_
          refine Tri.run 1 [] [.keep [1, 3, 14, 15] [1, 12]] (K' := []) (σ' := ⟨[(1, .ptr 1 0), (3, .sl 12 0), (14, .int .i64 ((List.replicate (a1.length : Int).toNat (0 : Int)).length : Int)), (15, .int .i64 (IntKind.i64.wrap (v2 + (1 : Int))))], [(1, .box [.int .i64 a0, .list (.ints a1)]), (12, .arr 3 0 0 (.ints v6))]⟩) rfl trivial rfl ?_
          have h := Option.some.inj h
          subst h
          exact Tri.nil ⟨rfl, rfl⟩
      · refine Tri.run 1 [.g false] [.keep [3] [12]] (K' := [.code [(3, 0), (1, 0), (0, 0), (1, 0), (0, 1)] 0, .code [(3, 0), (1, 0), (0, 0)] 2]) (σ' := ⟨[(3, .sl 12 0)], [(12, .arr 3 0 0 (.ints v3))]⟩) rfl ⟨hd4, trivial⟩ rfl ?_
        have h := Option.some.inj h
        subst h
        exact Tri.out 0 rfl ⟨nofun, rfl, rfl⟩
    · intro e σ' hne hq
      obtain ⟨rfl, rfl⟩ := hq
      refine TriX.exit (K' := [.code [] 4]) rfl ?_
      refine Tri.run 1 [] [.swap 12 1000, .keep [2] [1000]] (K' := [.code [] 5]) (σ' := ⟨[(2, .sl 1000 0)], [(1000, .arr 3 0 0 (.ints v7))]⟩) rfl trivial rfl ?_
      have h := Option.some.inj h
      subst h
      exact Tri.ret rfl ⟨.inl rfl, rfl, rfl⟩
/-! spec.IsValidGame -/
noncomputable def E22_spec_IsValidGame : Env := ⟨Try.prog, tys, (Try.f22.body).getD .skip, 37, tysOk, mixedOk⟩
abbrev q_spec_IsValidGame (r : Bool) (σ' : ASt) : Prop := resAV E22_spec_IsValidGame.T σ' Try.f22.results.toList = some (.bool r) ∧ keepO σ'.ob (namesO []) = []
noncomputable def l_spec_IsValidGame_0 (a1 : List Int) (v1 : Int) : Option (Int ⊕ (Unit ⊕ Bool)) :=
bif decide (v1 < (a1.length : Int)) then
(grd ((0 : Int) ≤ v1 ∧ v1 < (a1.length : Int)) <|
(m_spec_l1In (a1.getD v1.toNat 0) (-500 : Int) (500 : Int)).bind fun v2 =>
bif !v2 then
(some (.inr (.inr false)))
else
(some (.inl (IntKind.i64.wrap (v1 + (1 : Int))))))
else
(some (.inr (.inl ())))
noncomputable def m_spec_IsValidGame (a0 : Int) (a1 : List Int) : Option Bool :=
(iter (l_spec_IsValidGame_0 a1) (0 : Int)).bind fun
| (.inl _) => (
(m_spec_l1In a0 (1 : Int) (5 : Int)).bind fun v3 =>
bif v3 then
((m_spec_CountCoalitions a0).bind fun v4 =>
bif (a1.length : Int) == v4 then
(grd ((0 : Int) ≤ (0 : Int) ∧ (0 : Int) < (a1.length : Int)) <|
some ((a1.getD ((0 : Int).toNat) 0) == (0 : Int)))
else
(some false))
else
(some false))
| (.inr r) => some r
theorem w_spec_IsValidGame (a0 : Int) (a1 : List Int) (r : Bool) (h : m_spec_IsValidGame a0 a1 = some r) : AM.Spec Try.prog 22 [.agg [.int .i64 a0, .list (.ints a1)]] [] (.bool r) [] := by
  refine spec_of (E := E22_spec_IsValidGame) Try.func22 rfl rfl rfl rfl ?_
  refine Tri.run 2 [] [.keep [1, 3] [1]] (K' := [.code [(1, 0), (1, 0)] 0, .blk 0, .code [] 2]) (σ' := ⟨[(1, .ptr 1 0), (3, .int .i64 (0 : Int))], [(1, .box [.int .i64 a0, .list (.ints a1)])]⟩) rfl trivial rfl ?_
  obtain ⟨x1, hk5, h⟩ := bind_some h
  refine Tri.loop (K1 := [.code [(1, 0), (1, 0), (0, 0)] 0]) (K2 := [.blk 0, .code [] 2]) (fun v1 => ⟨[(1, .ptr 1 0), (3, .int .i64 v1)], [(1, .box [.int .i64 a0, .list (.ints a1)])]⟩) (fun x e σ' => match x with | (.inl _) => e = .exit 0 ∧ σ' = ⟨[(1, .ptr 1 0)], [(1, .box [.int .i64 a0, .list (.ints a1)])]⟩ | (.inr r) => e = .ret ∧ q_spec_IsValidGame r σ') hk5 rfl rfl ?_ ?_
  · intro v1 x hs
    clear h
    have h := hs
    clear hs
    refine Tri.run 1 [] [.keep [1, 3, 8] [1]] (K' := [.code [(1, 0), (1, 0), (0, 0), (0, 0)] 1, .code [(1, 0), (1, 0), (0, 0)] 1]) (σ' := ⟨[(1, .ptr 1 0), (3, .int .i64 v1), (8, .bool (decide (v1 < (a1.length : Int))))], [(1, .box [.int .i64 a0, .list (.ints a1)])]⟩) rfl trivial rfl ?_
    rcases bif_some h with ⟨hd1, h⟩ | ⟨hd1, h⟩
    · obtain ⟨hg2, h⟩ := grd_some h
      obtain ⟨v2, hk3, h⟩ := bind_some h
      refine Tri.run 2 [.g true, .r ⟨[], .bool v2, []⟩] [.keep [1, 3, 17] [1]] (K' := [.code [(1, 0), (1, 0), (0, 0), (1, 0), (0, 0)] 1, .blk 1, .code [(1, 0), (1, 0), (0, 0)] 2]) (σ' := ⟨[(1, .ptr 1 0), (3, .int .i64 v1), (17, .bool (!v2))], [(1, .box [.int .i64 a0, .list (.ints a1)])]⟩) rfl ⟨(fun _ => (w_spec_l1In (a1.getD v1.toNat 0) (-500 : Int) (500 : Int) v2 hk3)), hg2, hd1, trivial⟩ rfl ?_
      rcases bif_some h with ⟨hd4, h⟩ | ⟨hd4, h⟩
      · refine Tri.run 2 [.g true] [.keep [2] []] (K' := [.code [(1, 0), (1, 0), (0, 0), (1, 0), (0, 0), (1, 0)] 1, .blk 1, .code [(1, 0), (1, 0), (0, 0)] 2]) (σ' := ⟨[(2, .bool false)], []⟩) rfl ⟨hd4, trivial⟩ rfl ?_
        have h := Option.some.inj h
        subst h
        exact Tri.ret rfl ⟨nofun, rfl, rfl, rfl⟩
      · refine Tri.run 2 [.g false] [.keep [1, 3] [1]] (K' := []) (σ' := ⟨[(1, .ptr 1 0), (3, .int .i64 (IntKind.i64.wrap (v1 + (1 : Int))))], [(1, .box [.int .i64 a0, .list (.ints a1)])]⟩) rfl ⟨hd4, trivial⟩ rfl ?_
        have h := Option.some.inj h
        subst h
        exact Tri.nil ⟨rfl, rfl⟩
    · refine Tri.run 1 [.g false] [.keep [1] [1]] (K' := [.code [(1, 0), (1, 0), (0, 0), (0, 0), (1, 1)] 0, .code [(1, 0), (1, 0), (0, 0)] 1]) (σ' := ⟨[(1, .ptr 1 0)], [(1, .box [.int .i64 a0, .list (.ints a1)])]⟩) rfl ⟨hd1, trivial⟩ rfl ?_
      have h := Option.some.inj h
      subst h
      exact Tri.out 0 rfl ⟨nofun, rfl, rfl⟩
  · intro e σ' hne hq
    rcases x1 with _ | r
    · obtain ⟨rfl, rfl⟩ := hq
      refine TriX.exit (K' := [.code [] 2]) rfl ?_
      obtain ⟨v3, hk6, h⟩ := bind_some h
      rcases bif_some h with ⟨hd7, h⟩ | ⟨hd7, h⟩
      · obtain ⟨v4, hk8, h⟩ := bind_some h
        rcases bif_some h with ⟨hd9, h⟩ | ⟨hd9, h⟩
        · obtain ⟨hg10, h⟩ := grd_some h
          refine Tri.run 1 [.r ⟨[], .bool v3, []⟩, .g true, .r ⟨[], .int .i64 v4, []⟩, .g true] [.keep [2] []] (K' := [.code [] 3]) (σ' := ⟨[(2, .bool ((a1.getD ((0 : Int).toNat) 0) == (0 : Int)))], []⟩) rfl ⟨hg10, hd9, (fun _ => (w_spec_CountCoalitions a0 v4 hk8)), hd7, (fun _ => (w_spec_l1In a0 (1 : Int) (5 : Int) v3 hk6)), trivial⟩ rfl ?_
          have h := Option.some.inj h
          subst h
          exact Tri.ret rfl ⟨.inl rfl, rfl, rfl⟩
        · refine Tri.run 1 [.r ⟨[], .bool v3, []⟩, .g true, .r ⟨[], .int .i64 v4, []⟩, .g false] [.keep [2] []] (K' := [.code [] 3]) (σ' := ⟨[(2, .bool false)], []⟩) rfl ⟨hd9, (fun _ => (w_spec_CountCoalitions a0 v4 hk8)), hd7, (fun _ => (w_spec_l1In a0 (1 : Int) (5 : Int) v3 hk6)), trivial⟩ rfl ?_
          have h := Option.some.inj h
          subst h
          exact Tri.ret rfl ⟨.inl rfl, rfl, rfl⟩
      · refine Tri.run 1 [.r ⟨[], .bool v3, []⟩, .g false, .g false] [.keep [2] []] (K' := [.code [] 3]) (σ' := ⟨[(2, .bool false)], []⟩) rfl ⟨rfl, hd7, (fun _ => (w_spec_l1In a0 (1 : Int) (5 : Int) v3 hk6)), trivial⟩ rfl ?_
        have h := Option.some.inj h
        subst h
        exact Tri.ret rfl ⟨.inl rfl, rfl, rfl⟩
    · obtain ⟨rfl, hq⟩ := hq
      have h := Option.some.inj h
      subst h
      exact TriX.ret ⟨.inl rfl, hq⟩
/-! spec.l2Good -/
noncomputable def E103_spec_l2Good : Env := ⟨Try.prog, tys, (Try.f103.body).getD .skip, 5, tysOk, mixedOk⟩
abbrev q_spec_l2Good (r : Bool) (σ' : ASt) : Prop := resAV E103_spec_l2Good.T σ' Try.f103.results.toList = some (.bool r) ∧ keepO σ'.ob (namesO []) = []
noncomputable def m_spec_l2Good (a0 : Int) : Option Bool :=
(m_spec_l1In a0 (0 : Int) (31 : Int)).bind fun v1 =>
some v1
theorem w_spec_l2Good (a0 : Int) (r : Bool) (h : m_spec_l2Good a0 = some r) : AM.Spec Try.prog 103 [.int .i64 a0] [] (.bool r) [] := by
  refine spec_of (E := E103_spec_l2Good) Try.func103 rfl rfl rfl rfl ?_
  refine Tri.run 1 [] [.keep [0] []] (K' := [.code [(1, 0)] 0, .code [] 2]) (σ' := ⟨[(0, .int .i64 a0)], []⟩) rfl trivial rfl ?_
  obtain ⟨v1, hk1, h⟩ := bind_some h
  refine Tri.run 1 [.r ⟨[], .bool v1, []⟩] [.keep [2] []] (K' := [.code [] 2]) (σ' := ⟨[(2, .bool v1)], []⟩) rfl ⟨(fun _ => (w_spec_l1In a0 (0 : Int) (31 : Int) v1 hk1)), trivial⟩ rfl ?_
  have h := Option.some.inj h
  subst h
  exact Tri.ret rfl ⟨.inl rfl, rfl, rfl⟩
/-! spec.IsSubset -/
noncomputable def E83_spec_IsSubset : Env := ⟨Try.prog, tys, (Try.f83.body).getD .skip, 25, tysOk, mixedOk⟩
abbrev q_spec_IsSubset (r : Bool) (σ' : ASt) : Prop := resAV E83_spec_IsSubset.T σ' Try.f83.results.toList = some (.bool r) ∧ keepO σ'.ob (namesO []) = []
noncomputable def l_spec_IsSubset_0 (a0 : Int) (a1 : Int) (v1 : Int) : Option (Int ⊕ (Unit ⊕ Bool)) :=
bif decide (v1 < (5 : Int)) then
((m_spec_HasPlayer a0 v1).bind fun v2 =>
bif v2 then
((m_spec_HasPlayer a1 v1).bind fun v3 =>
bif !v3 then
(some (.inr (.inr false)))
else
(some (.inl (IntKind.i64.wrap (v1 + (1 : Int))))))
else
(some (.inl (IntKind.i64.wrap (v1 + (1 : Int))))))
else
(some (.inr (.inl ())))
noncomputable def m_spec_IsSubset (a0 : Int) (a1 : Int) : Option Bool :=
(iter (l_spec_IsSubset_0 a0 a1) (0 : Int)).bind fun
| (.inl _) => (
(m_spec_l2Good a0).bind fun v4 =>
bif v4 then
((m_spec_l2Good a1).bind fun v5 =>
some v5)
else
(some false))
| (.inr r) => some r
theorem w_spec_IsSubset (a0 : Int) (a1 : Int) (r : Bool) (h : m_spec_IsSubset a0 a1 = some r) : AM.Spec Try.prog 83 [.int .i64 a0, .int .i64 a1] [] (.bool r) [] := by
  refine spec_of (E := E83_spec_IsSubset) Try.func83 rfl rfl rfl rfl ?_
  refine Tri.run 2 [] [.keep [0, 1, 5] []] (K' := [.code [(1, 0), (1, 0)] 0, .blk 0, .code [] 2]) (σ' := ⟨[(0, .int .i64 a0), (1, .int .i64 a1), (5, .int .i64 (0 : Int))], []⟩) rfl trivial rfl ?_
  obtain ⟨x1, hk6, h⟩ := bind_some h
  refine Tri.loop (K1 := [.code [(1, 0), (1, 0), (0, 0)] 0]) (K2 := [.blk 0, .code [] 2]) (fun v1 => ⟨[(0, .int .i64 a0), (1, .int .i64 a1), (5, .int .i64 v1)], []⟩) (fun x e σ' => match x with | (.inl _) => e = .exit 0 ∧ σ' = ⟨[(0, .int .i64 a0), (1, .int .i64 a1)], []⟩ | (.inr r) => e = .ret ∧ q_spec_IsSubset r σ') hk6 rfl rfl ?_ ?_
  · intro v1 x hs
    clear h
    have h := hs
    clear hs
    refine Tri.run 1 [] [.keep [0, 1, 5, 7] []] (K' := [.code [(1, 0), (1, 0), (0, 0), (0, 0)] 1, .code [(1, 0), (1, 0), (0, 0)] 1]) (σ' := ⟨[(0, .int .i64 a0), (1, .int .i64 a1), (5, .int .i64 v1), (7, .bool (decide (v1 < (5 : Int))))], []⟩) rfl trivial rfl ?_
    rcases bif_some h with ⟨hd1, h⟩ | ⟨hd1, h⟩
    · obtain ⟨v2, hk2, h⟩ := bind_some h
      rcases bif_some h with ⟨hd3, h⟩ | ⟨hd3, h⟩
      · obtain ⟨v3, hk4, h⟩ := bind_some h
        refine Tri.run 2 [.g true, .r ⟨[], .bool v2, []⟩, .g true, .r ⟨[], .bool v3, []⟩] [.keep [0, 1, 5, 18] []] (K' := [.code [(1, 0), (1, 0), (0, 0), (1, 0), (0, 0)] 1, .blk 1, .code [(1, 0), (1, 0), (0, 0)] 2]) (σ' := ⟨[(0, .int .i64 a0), (1, .int .i64 a1), (5, .int .i64 v1), (18, .bool (!v3))], []⟩) rfl ⟨(fun _ => (w_spec_HasPlayer a1 v1 v3 hk4)), hd3, (fun _ => (w_spec_HasPlayer a0 v1 v2 hk2)), hd1, trivial⟩ rfl ?_
        rcases bif_some h with ⟨hd5, h⟩ | ⟨hd5, h⟩
        · refine Tri.run 2 [.g true] [.keep [4] []] (K' := [.code [(1, 0), (1, 0), (0, 0), (1, 0), (0, 0), (1, 0)] 1, .blk 1, .code [(1, 0), (1, 0), (0, 0)] 2]) (σ' := ⟨[(4, .bool false)], []⟩) rfl ⟨hd5, trivial⟩ rfl ?_
          have h := Option.some.inj h
          subst h
          exact Tri.ret rfl ⟨nofun, rfl, rfl, rfl⟩
        · refine Tri.run 2 [.g false] [.keep [0, 1, 5] []] (K' := []) (σ' := ⟨[(0, .int .i64 a0), (1, .int .i64 a1), (5, .int .i64 (IntKind.i64.wrap (v1 + (1 : Int))))], []⟩) rfl ⟨hd5, trivial⟩ rfl ?_
          have h := Option.some.inj h
          subst h
          exact Tri.nil ⟨rfl, rfl⟩
      · refine Tri.run 2 [.g true, .r ⟨[], .bool v2, []⟩, .g false] [.keep [0, 1, 5, 18] []] (K' := [.code [(1, 0), (1, 0), (0, 0), (1, 0), (0, 0)] 1, .blk 1, .code [(1, 0), (1, 0), (0, 0)] 2]) (σ' := ⟨[(0, .int .i64 a0), (1, .int .i64 a1), (5, .int .i64 v1), (18, .bool false)], []⟩) rfl ⟨hd3, (fun _ => (w_spec_HasPlayer a0 v1 v2 hk2)), hd1, trivial⟩ rfl ?_
        refine Tri.run 2 [.g false] [.keep [0, 1, 5] []] (K' := []) (σ' := ⟨[(0, .int .i64 a0), (1, .int .i64 a1), (5, .int .i64 (IntKind.i64.wrap (v1 + (1 : Int))))], []⟩) rfl ⟨rfl, trivial⟩ rfl ?_
        have h := Option.some.inj h
        subst h
        exact Tri.nil ⟨rfl, rfl⟩
    · refine Tri.run 1 [.g false] [.keep [0, 1] []] (K' := [.code [(1, 0), (1, 0), (0, 0), (0, 0), (1, 1)] 0, .code [(1, 0), (1, 0), (0, 0)] 1]) (σ' := ⟨[(0, .int .i64 a0), (1, .int .i64 a1)], []⟩) rfl ⟨hd1, trivial⟩ rfl ?_
      have h := Option.some.inj h
      subst h
      exact Tri.out 0 rfl ⟨nofun, rfl, rfl⟩
  · intro e σ' hne hq
    rcases x1 with _ | r
    · obtain ⟨rfl, rfl⟩ := hq
      refine TriX.exit (K' := [.code [] 2]) rfl ?_
      obtain ⟨v4, hk7, h⟩ := bind_some h
      rcases bif_some h with ⟨hd8, h⟩ | ⟨hd8, h⟩
      · obtain ⟨v5, hk9, h⟩ := bind_some h
        refine Tri.run 1 [.r ⟨[], .bool v4, []⟩, .g true, .r ⟨[], .bool v5, []⟩] [.keep [4] []] (K' := [.code [] 3]) (σ' := ⟨[(4, .bool v5)], []⟩) rfl ⟨(fun _ => (w_spec_l2Good a1 v5 hk9)), hd8, (fun _ => (w_spec_l2Good a0 v4 hk7)), trivial⟩ rfl ?_
        have h := Option.some.inj h
        subst h
        exact Tri.ret rfl ⟨.inl rfl, rfl, rfl⟩
      · refine Tri.run 1 [.r ⟨[], .bool v4, []⟩, .g false] [.keep [4] []] (K' := [.code [] 3]) (σ' := ⟨[(4, .bool false)], []⟩) rfl ⟨hd8, (fun _ => (w_spec_l2Good a0 v4 hk7)), trivial⟩ rfl ?_
        have h := Option.some.inj h
        subst h
        exact Tri.ret rfl ⟨.inl rfl, rfl, rfl⟩
    · obtain ⟨rfl, hq⟩ := hq
      have h := Option.some.inj h
      subst h
      exact TriX.ret ⟨.inl rfl, hq⟩
/-! spec.DividendsOf -/
noncomputable def E40_spec_DividendsOf : Env := ⟨Try.prog, tys, (Try.f40.body).getD .skip, 43, tysOk, mixedOk⟩
abbrev q_spec_DividendsOf (r : List Int) (σ' : ASt) : Prop := resAV E40_spec_DividendsOf.T σ' Try.f40.results.toList = some (.sl 1000 0) ∧ keepO σ'.ob (namesO [(1000, .arr 3 0 0 (.ints r))]) = [(1000, .arr 3 0 0 (.ints r))]
noncomputable def l_spec_DividendsOf_1 (v1 : Int) (v2 : List Int) : (Int × Int) → Option ((Int × Int) ⊕ Int)
  | (v4, v5) => (
bif decide (v5 < v1) then
((m_spec_IsSubset v5 v1).bind fun v6 =>
bif v6 then
(grd ((0 : Int) ≤ v5 ∧ v5 < (v2.length : Int)) <|
some (.inl (IntKind.i64.wrap (v4 - (v2.getD v5.toNat 0)), IntKind.i64.wrap (v5 + (1 : Int)))))
else
(some (.inl (v4, IntKind.i64.wrap (v5 + (1 : Int))))))
else
(some (.inr v4)))
noncomputable def l_spec_DividendsOf_0 (a0 : Int) (a1 : List Int) : (Int × (List Int)) → Option ((Int × (List Int)) ⊕ ((List Int)))
  | (v1, v2) => (
bif decide (v1 < (a1.length : Int)) then
((m_spec_IsValidGame a0 a1).bind fun v3 =>
bif v3 then
(grd ((0 : Int) ≤ v1 ∧ v1 < (a1.length : Int)) <|
(iter (l_spec_DividendsOf_1 v1 v2) (a1.getD v1.toNat 0, (0 : Int))).bind fun
| v7 => (
grd (v2.length + ([v7] : List Int).length ≤ room) <|
some (.inl (IntKind.i64.wrap (v1 + (1 : Int)), v2 ++ [v7]))))
else
(some (.inr v2)))
else
(some (.inr v2)))
noncomputable def m_spec_DividendsOf (a0 : Int) (a1 : List Int) : Option (List Int) :=
(iter (l_spec_DividendsOf_0 a0 a1) ((0 : Int), [])).bind fun
| v8 => (
some v8)
theorem w_spec_DividendsOf (a0 : Int) (a1 : List Int) (r : List Int) (h : m_spec_DividendsOf a0 a1 = some r) : AM.Spec Try.prog 40 [.agg [.int .i64 a0, .list (.ints a1)]] [] (.sl 1000 0) [(1000, .arr 3 0 0 (.ints r))] := by
  refine spec_of (E := E40_spec_DividendsOf) Try.func40 rfl rfl rfl rfl ?_
  refine Tri.run 3 [] [.keep [1, 3, 4] [1, 7]] (K' := [.code [(2, 0), (1, 0)] 0, .blk 0, .code [] 3]) (σ' := ⟨[(1, .ptr 1 0), (3, .sl 7 0), (4, .int .i64 (0 : Int))], [(1, .box [.int .i64 a0, .list (.ints a1)]), (7, .arr 3 0 0 (.ints []))]⟩) rfl trivial rfl ?_
  obtain ⟨v8, hk11, h⟩ := bind_some h
  refine Tri.loop (K1 := [.code [(2, 0), (1, 0), (0, 0)] 0]) (K2 := [.blk 0, .code [] 3]) (fun (v1, v2) => ⟨[(1, .ptr 1 0), (3, .sl 7 0), (4, .int .i64 v1)], [(1, .box [.int .i64 a0, .list (.ints a1)]), (7, .arr 3 0 0 (.ints v2))]⟩) (fun x e σ' => match x with | v8 => e = .exit 0 ∧ σ' = ⟨[(3, .sl 7 0)], [(7, .arr 3 0 0 (.ints v8))]⟩) hk11 rfl rfl ?_ ?_
  · intro s x hs
    clear h
    have h := hs
    clear hs
    obtain ⟨v1, v2⟩ := s
    rcases bif_some h with ⟨hd1, h⟩ | ⟨hd1, h⟩
    · obtain ⟨v3, hk2, h⟩ := bind_some h
      refine Tri.run 1 [.g true, .r ⟨[], .bool v3, []⟩] [.keep [1, 3, 4, 16] [1, 7]] (K' := [.code [(2, 0), (1, 0), (0, 0), (0, 0)] 1, .code [(2, 0), (1, 0), (0, 0)] 1]) (σ' := ⟨[(1, .ptr 1 0), (3, .sl 7 0), (4, .int .i64 v1), (16, .bool v3)], [(1, .box [.int .i64 a0, .list (.ints a1)]), (7, .arr 3 0 0 (.ints v2))]⟩) rfl ⟨(fun _ => (w_spec_IsValidGame a0 a1 v3 hk2)), hd1, trivial⟩ rfl ?_
      rcases bif_some h with ⟨hd3, h⟩ | ⟨hd3, h⟩
      · obtain ⟨hg4, h⟩ := grd_some h
        refine Tri.run 3 [.g true] [.keep [1, 3, 4, 5, 6] [1, 7]] (K' := [.code [(2, 0), (1, 0), (0, 0), (1, 0), (0, 0), (1, 0), (1, 0)] 0, .blk 2, .code [(2, 0), (1, 0), (0, 0), (1, 0), (0, 0)] 2, .blk 1, .code [(2, 0), (1, 0), (0, 0)] 2]) (σ' := ⟨[(1, .ptr 1 0), (3, .sl 7 0), (4, .int .i64 v1), (5, .int .i64 (a1.getD v1.toNat 0)), (6, .int .i64 (0 : Int))], [(1, .box [.int .i64 a0, .list (.ints a1)]), (7, .arr 3 0 0 (.ints v2))]⟩) rfl ⟨hg4, hd3, trivial⟩ rfl ?_
        obtain ⟨v7, hk9, h⟩ := bind_some h
        refine Tri.loop (K1 := [.code [(2, 0), (1, 0), (0, 0), (1, 0), (0, 0), (1, 0), (1, 0), (0, 0)] 0]) (K2 := [.blk 2, .code [(2, 0), (1, 0), (0, 0), (1, 0), (0, 0)] 2, .blk 1, .code [(2, 0), (1, 0), (0, 0)] 2]) (fun (v4, v5) => ⟨[(1, .ptr 1 0), (3, .sl 7 0), (4, .int .i64 v1), (5, .int .i64 v4), (6, .int .i64 v5)], [(1, .box [.int .i64 a0, .list (.ints a1)]), (7, .arr 3 0 0 (.ints v2))]⟩) (fun x e σ' => match x with | v7 => e = .exit 2 ∧ σ' = ⟨[(1, .ptr 1 0), (3, .sl 7 0), (4, .int .i64 v1), (5, .int .i64 v7)], [(1, .box [.int .i64 a0, .list (.ints a1)]), (7, .arr 3 0 0 (.ints v2))]⟩) hk9 rfl rfl ?_ ?_
        · intro s x hs
          clear h
          have h := hs
          clear hs
          obtain ⟨v4, v5⟩ := s
          refine Tri.run 1 [] [.keep [1, 3, 4, 5, 6, 26] [1, 7]] (K' := [.code [(2, 0), (1, 0), (0, 0), (1, 0), (0, 0), (1, 0), (1, 0), (0, 0), (0, 0)] 1, .code [(2, 0), (1, 0), (0, 0), (1, 0), (0, 0), (1, 0), (1, 0), (0, 0)] 1]) (σ' := ⟨[(1, .ptr 1 0), (3, .sl 7 0), (4, .int .i64 v1), (5, .int .i64 v4), (6, .int .i64 v5), (26, .bool (decide (v5 < v1)))], [(1, .box [.int .i64 a0, .list (.ints a1)]), (7, .arr 3 0 0 (.ints v2))]⟩) rfl trivial rfl ?_
          rcases bif_some h with ⟨hd5, h⟩ | ⟨hd5, h⟩
          · obtain ⟨v6, hk6, h⟩ := bind_some h
            refine Tri.run 2 [.g true, .r ⟨[], .bool v6, []⟩] [.keep [1, 3, 4, 5, 6, 31] [1, 7]] (K' := [.code [(2, 0), (1, 0), (0, 0), (1, 0), (0, 0), (1, 0), (1, 0), (0, 0), (1, 0), (0, 0)] 1, .blk 3, .code [(2, 0), (1, 0), (0, 0), (1, 0), (0, 0), (1, 0), (1, 0), (0, 0)] 2]) (σ' := ⟨[(1, .ptr 1 0), (3, .sl 7 0), (4, .int .i64 v1), (5, .int .i64 v4), (6, .int .i64 v5), (31, .bool v6)], [(1, .box [.int .i64 a0, .list (.ints a1)]), (7, .arr 3 0 0 (.ints v2))]⟩) rfl ⟨(fun _ => (w_spec_IsSubset v5 v1 v6 hk6)), hd5, trivial⟩ rfl ?_
            rcases bif_some h with ⟨hd7, h⟩ | ⟨hd7, h⟩
            · obtain ⟨hg8, h⟩ := grd_some h
              refine Tri.run 3 [.g true] [.keep [1, 3, 4, 5, 6] [1, 7]] (K' := []) (σ' := ⟨[(1, .ptr 1 0), (3, .sl 7 0), (4, .int .i64 v1), (5, .int .i64 (IntKind.i64.wrap (v4 - (v2.getD v5.toNat 0)))), (6, .int .i64 (IntKind.i64.wrap (v5 + (1 : Int))))], [(1, .box [.int .i64 a0, .list (.ints a1)]), (7, .arr 3 0 0 (.ints v2))]⟩) rfl ⟨hg8, hd7, trivial⟩ rfl ?_
              have h := Option.some.inj h
              subst h
              exact Tri.nil ⟨rfl, rfl⟩
            · refine Tri.run 2 [.g false] [.keep [1, 3, 4, 5, 6] [1, 7]] (K' := []) (σ' := ⟨[(1, .ptr 1 0), (3, .sl 7 0), (4, .int .i64 v1), (5, .int .i64 v4), (6, .int .i64 (IntKind.i64.wrap (v5 + (1 : Int))))], [(1, .box [.int .i64 a0, .list (.ints a1)]), (7, .arr 3 0 0 (.ints v2))]⟩) rfl ⟨hd7, trivial⟩ rfl ?_
              have h := Option.some.inj h
              subst h
              exact Tri.nil ⟨rfl, rfl⟩
          · refine Tri.run 1 [.g false] [.keep [1, 3, 4, 5] [1, 7]] (K' := [.code [(2, 0), (1, 0), (0, 0), (1, 0), (0, 0), (1, 0), (1, 0), (0, 0), (0, 0), (1, 1)] 0, .code [(2, 0), (1, 0), (0, 0), (1, 0), (0, 0), (1, 0), (1, 0), (0, 0)] 1]) (σ' := ⟨[(1, .ptr 1 0), (3, .sl 7 0), (4, .int .i64 v1), (5, .int .i64 v4)], [(1, .box [.int .i64 a0, .list (.ints a1)]), (7, .arr 3 0 0 (.ints v2))]⟩) rfl ⟨hd5, trivial⟩ rfl ?_
            have h := Option.some.inj h
            subst h
            exact Tri.out 2 rfl ⟨nofun, rfl, rfl⟩
        · intro e σ' hne hq
          obtain ⟨rfl, rfl⟩ := hq
          refine TriX.exit (K' := [.code [(2, 0), (1, 0), (0, 0), (1, 0), (0, 0)] 2, .blk 1, .code [(2, 0), (1, 0), (0, 0)] 2]) rfl ?_
          obtain ⟨hg10, h⟩ := grd_some h
          refine Tri.run 2 [] [.rever 7, .keep [1, 3, 4] [1, 7]] (K' := []) (σ' := ⟨[(1, .ptr 1 0), (3, .sl 7 0), (4, .int .i64 (IntKind.i64.wrap (v1 + (1 : Int))))], [(1, .box [.int .i64 a0, .list (.ints a1)]), (7, .arr 3 0 0 (.ints (v2 ++ [v7])))]⟩) rfl ⟨hg10, trivial⟩ rfl ?_
          have h := Option.some.inj h
          subst h
          exact Tri.nil ⟨rfl, rfl⟩
      · refine Tri.run 1 [.g false] [.keep [3] [7]] (K' := [.code [(2, 0), (1, 0), (0, 0), (0, 0), (1, 1)] 0, .code [(2, 0), (1, 0), (0, 0)] 1]) (σ' := ⟨[(3, .sl 7 0)], [(7, .arr 3 0 0 (.ints v2))]⟩) rfl ⟨hd3, trivial⟩ rfl ?_
        have h := Option.some.inj h
        subst h
        exact Tri.out 0 rfl ⟨nofun, rfl, rfl⟩
    · refine Tri.run 1 [.g false] [.keep [1, 3, 4, 16] [1, 7]] (K' := [.code [(2, 0), (1, 0), (0, 0), (0, 0)] 1, .code [(2, 0), (1, 0), (0, 0)] 1]) (σ' := ⟨[(1, .ptr 1 0), (3, .sl 7 0), (4, .int .i64 v1), (16, .bool false)], [(1, .box [.int .i64 a0, .list (.ints a1)]), (7, .arr 3 0 0 (.ints v2))]⟩) rfl ⟨hd1, trivial⟩ rfl ?_
      refine Tri.run 1 [.g false] [.keep [3] [7]] (K' := [.code [(2, 0), (1, 0), (0, 0), (0, 0), (1, 1)] 0, .code [(2, 0), (1, 0), (0, 0)] 1]) (σ' := ⟨[(3, .sl 7 0)], [(7, .arr 3 0 0 (.ints v2))]⟩) rfl ⟨rfl, trivial⟩ rfl ?_
      have h := Option.some.inj h
      subst h
      exact Tri.out 0 rfl ⟨nofun, rfl, rfl⟩
  · intro e σ' hne hq
    obtain ⟨rfl, rfl⟩ := hq
    refine TriX.exit (K' := [.code [] 3]) rfl ?_
    refine Tri.run 1 [] [.swap 7 1000, .keep [2] [1000]] (K' := [.code [] 4]) (σ' := ⟨[(2, .sl 1000 0)], [(1000, .arr 3 0 0 (.ints v8))]⟩) rfl trivial rfl ?_
    have h := Option.some.inj h
    subst h
    exact Tri.ret rfl ⟨.inl rfl, rfl, rfl⟩
/-! laws.sameInts -/
noncomputable def E39_laws_sameInts : Env := ⟨Try.prog, tys, (Try.f39.body).getD .skip, 26, tysOk, mixedOk⟩
abbrev q_laws_sameInts (r : Bool) (σ' : ASt) : Prop := resAV E39_laws_sameInts.T σ' Try.f39.results.toList = some (.bool r) ∧ keepO σ'.ob (namesO []) = []
noncomputable def l_laws_sameInts_0 (a0 : List Int) (a1 : List Int) (v1 : Int) : Option (Int ⊕ (Unit ⊕ Bool)) :=
bif decide (v1 < (a0.length : Int)) then
(grd ((0 : Int) ≤ v1 ∧ v1 < (a0.length : Int)) <|
grd ((0 : Int) ≤ v1 ∧ v1 < (a1.length : Int)) <|
bif (a0.getD v1.toNat 0) != (a1.getD v1.toNat 0) then
(some (.inr (.inr false)))
else
(some (.inl (IntKind.i64.wrap (v1 + (1 : Int))))))
else
(some (.inr (.inl ())))
noncomputable def m_laws_sameInts (a0 : List Int) (a1 : List Int) : Option Bool :=
bif (a0.length : Int) != (a1.length : Int) then
(some false)
else
((iter (l_laws_sameInts_0 a0 a1) (0 : Int)).bind fun
| (.inl _) => (
some true)
| (.inr r) => some r)
theorem w_laws_sameInts (a0 : List Int) (a1 : List Int) (r : Bool) (h : m_laws_sameInts a0 a1 = some r) : AM.Spec Try.prog 39 [.list (.ints a0), .list (.ints a1)] [] (.bool r) [] := by
  refine spec_of (E := E39_laws_sameInts) Try.func39 rfl rfl rfl rfl ?_
  refine Tri.run 2 [] [.keep [0, 1, 10] []] (K' := [.code [(1, 0)] 1, .code [] 2]) (σ' := ⟨[(0, .list (.ints a0)), (1, .list (.ints a1)), (10, .bool ((a0.length : Int) != (a1.length : Int)))], []⟩) rfl trivial rfl ?_
  rcases bif_some h with ⟨hd1, h⟩ | ⟨hd1, h⟩
  · refine Tri.run 2 [.g true] [.keep [4] []] (K' := [.code [(1, 0), (1, 0)] 1, .code [] 2]) (σ' := ⟨[(4, .bool false)], []⟩) rfl ⟨hd1, trivial⟩ rfl ?_
    have h := Option.some.inj h
    subst h
    exact Tri.ret rfl ⟨.inl rfl, rfl, rfl⟩
  · refine Tri.run 2 [.g false] [.keep [0, 1, 5] []] (K' := [.code [(2, 0), (1, 0)] 0, .blk 0, .code [] 3]) (σ' := ⟨[(0, .list (.ints a0)), (1, .list (.ints a1)), (5, .int .i64 (0 : Int))], []⟩) rfl ⟨hd1, trivial⟩ rfl ?_
    obtain ⟨x1, hk6, h⟩ := bind_some h
    refine Tri.loop (K1 := [.code [(2, 0), (1, 0), (0, 0)] 0]) (K2 := [.blk 0, .code [] 3]) (fun v1 => ⟨[(0, .list (.ints a0)), (1, .list (.ints a1)), (5, .int .i64 v1)], []⟩) (fun x e σ' => match x with | (.inl _) => e = .exit 0 ∧ σ' = ⟨[], []⟩ | (.inr r) => e = .ret ∧ q_laws_sameInts r σ') hk6 rfl rfl ?_ ?_
    · intro v1 x hs
      clear h
      have h := hs
      clear hs
      refine Tri.run 1 [] [.keep [0, 1, 5, 14] []] (K' := [.code [(2, 0), (1, 0), (0, 0), (0, 0)] 1, .code [(2, 0), (1, 0), (0, 0)] 1]) (σ' := ⟨[(0, .list (.ints a0)), (1, .list (.ints a1)), (5, .int .i64 v1), (14, .bool (decide (v1 < (a0.length : Int))))], []⟩) rfl trivial rfl ?_
      rcases bif_some h with ⟨hd2, h⟩ | ⟨hd2, h⟩
      · obtain ⟨hg3, h⟩ := grd_some h
        obtain ⟨hg4, h⟩ := grd_some h
        refine Tri.run 2 [.g true] [.keep [0, 1, 5, 25] []] (K' := [.code [(2, 0), (1, 0), (0, 0), (1, 0), (0, 0)] 1, .blk 1, .code [(2, 0), (1, 0), (0, 0)] 2]) (σ' := ⟨[(0, .list (.ints a0)), (1, .list (.ints a1)), (5, .int .i64 v1), (25, .bool ((a0.getD v1.toNat 0) != (a1.getD v1.toNat 0)))], []⟩) rfl ⟨hg4, hg3, hd2, trivial⟩ rfl ?_
        rcases bif_some h with ⟨hd5, h⟩ | ⟨hd5, h⟩
        · refine Tri.run 2 [.g true] [.keep [4] []] (K' := [.code [(2, 0), (1, 0), (0, 0), (1, 0), (0, 0), (1, 0)] 1, .blk 1, .code [(2, 0), (1, 0), (0, 0)] 2]) (σ' := ⟨[(4, .bool false)], []⟩) rfl ⟨hd5, trivial⟩ rfl ?_
          have h := Option.some.inj h
          subst h
          exact Tri.ret rfl ⟨nofun, rfl, rfl, rfl⟩
        · refine Tri.run 2 [.g false] [.keep [0, 1, 5] []] (K' := []) (σ' := ⟨[(0, .list (.ints a0)), (1, .list (.ints a1)), (5, .int .i64 (IntKind.i64.wrap (v1 + (1 : Int))))], []⟩) rfl ⟨hd5, trivial⟩ rfl ?_
          have h := Option.some.inj h
          subst h
          exact Tri.nil ⟨rfl, rfl⟩
      · refine Tri.run 1 [.g false] [.keep [] []] (K' := [.code [(2, 0), (1, 0), (0, 0), (0, 0), (1, 1)] 0, .code [(2, 0), (1, 0), (0, 0)] 1]) (σ' := ⟨[], []⟩) rfl ⟨hd2, trivial⟩ rfl ?_
        have h := Option.some.inj h
        subst h
        exact Tri.out 0 rfl ⟨nofun, rfl, rfl⟩
    · intro e σ' hne hq
      rcases x1 with _ | r
      · obtain ⟨rfl, rfl⟩ := hq
        refine TriX.exit (K' := [.code [] 3]) rfl ?_
        refine Tri.run 1 [] [.keep [4] []] (K' := [.code [] 4]) (σ' := ⟨[(4, .bool true)], []⟩) rfl trivial rfl ?_
        have h := Option.some.inj h
        subst h
        exact Tri.ret rfl ⟨.inl rfl, rfl, rfl⟩
      · obtain ⟨rfl, hq⟩ := hq
        have h := Option.some.inj h
        subst h
        exact TriX.ret ⟨.inl rfl, hq⟩
/-! impl.CountCoalitions -/
noncomputable def E84_impl_CountCoalitions : Env := ⟨Try.prog, tys, (Try.f84.body).getD .skip, 8, tysOk, mixedOk⟩
abbrev q_impl_CountCoalitions (r : Int) (σ' : ASt) : Prop := resAV E84_impl_CountCoalitions.T σ' Try.f84.results.toList = some (.int .i64 r) ∧ keepO σ'.ob (namesO []) = []
noncomputable def m_impl_CountCoalitions (a0 : Int) : Option Int :=
(m_impl_within a0 (0 : Int) (5 : Int)).bind fun v1 =>
bif !v1 then
(some (0 : Int))
else
(grd ((0 : Int) ≤ a0) <|
some (IntKind.i64.wrap ((1 : Int) * 2 ^ (min a0.toNat 64))))
theorem w_impl_CountCoalitions (a0 : Int) (r : Int) (h : m_impl_CountCoalitions a0 = some r) : AM.Spec Try.prog 84 [.int .i64 a0] [] (.int .i64 r) [] := by
  refine spec_of (E := E84_impl_CountCoalitions) Try.func84 rfl rfl rfl rfl ?_
  refine Tri.run 1 [] [.keep [0] []] (K' := [.code [(1, 0), (0, 0)] 0, .code [(1, 0)] 1, .code [] 2]) (σ' := ⟨[(0, .int .i64 a0)], []⟩) rfl trivial rfl ?_
  obtain ⟨v1, hk1, h⟩ := bind_some h
  refine Tri.run 1 [.r ⟨[], .bool v1, []⟩] [.keep [0, 5] []] (K' := [.code [(1, 0)] 1, .code [] 2]) (σ' := ⟨[(0, .int .i64 a0), (5, .bool (!v1))], []⟩) rfl ⟨(fun _ => (w_impl_within a0 (0 : Int) (5 : Int) v1 hk1)), trivial⟩ rfl ?_
  rcases bif_some h with ⟨hd2, h⟩ | ⟨hd2, h⟩
  · refine Tri.run 2 [.g true] [.keep [2] []] (K' := [.code [(1, 0), (1, 0)] 1, .code [] 2]) (σ' := ⟨[(2, .int .i64 (0 : Int))], []⟩) rfl ⟨hd2, trivial⟩ rfl ?_
    have h := Option.some.inj h
    subst h
    exact Tri.ret rfl ⟨.inl rfl, rfl, rfl⟩
  · obtain ⟨hg3, h⟩ := grd_some h
    refine Tri.run 2 [.g false] [.keep [2] []] (K' := [.code [] 3]) (σ' := ⟨[(2, .int .i64 (IntKind.i64.wrap ((1 : Int) * 2 ^ (min a0.toNat 64))))], []⟩) rfl ⟨hg3, hd2, trivial⟩ rfl ?_
    have h := Option.some.inj h
    subst h
    exact Tri.ret rfl ⟨.inl rfl, rfl, rfl⟩
/-! impl.GameOfDividends$1 -/
noncomputable def E85_impl_GameOfDividends_1 : Env := ⟨Try.prog, tys, (Try.f85.body).getD .skip, 23, tysOk, mixedOk⟩
abbrev q_impl_GameOfDividends_1 (r : Int) (σ' : ASt) : Prop := resAV E85_impl_GameOfDividends_1.T σ' Try.f85.results.toList = some (.int .i64 r) ∧ keepO σ'.ob (namesO []) = []
noncomputable def l_impl_GameOfDividends_1_0 (a0 : Int) (a1 : List Int) : (Int × Int) → Option ((Int × Int) ⊕ Int)
  | (v1, v2) => (
bif decide (v2 < (a1.length : Int)) then
(grd ((0 : Int) ≤ v2 ∧ v2 < (a1.length : Int)) <|
bif (bitsOf .andNot .i64 v2 a0) == (0 : Int) then
(some (.inl (IntKind.i64.wrap (v1 + (a1.getD v2.toNat 0)), IntKind.i64.wrap (v2 + (1 : Int)))))
else
(some (.inl (v1, IntKind.i64.wrap (v2 + (1 : Int))))))
else
(some (.inr v1)))
noncomputable def m_impl_GameOfDividends_1 (a0 : Int) (a1 : List Int) : Option Int :=
(iter (l_impl_GameOfDividends_1_0 a0 a1) ((0 : Int), (0 : Int))).bind fun
| v3 => (
some v3)
theorem w_impl_GameOfDividends_1 (a0 : Int) (a1 : List Int) (r : Int) (h : m_impl_GameOfDividends_1 a0 a1 = some r) : AM.Spec Try.prog 85 [.int .i64 a0, .pbox [.list (.ints a1)] 0] [] (.int .i64 r) [] := by
  refine spec_of (E := E85_impl_GameOfDividends_1) Try.func85 rfl rfl rfl rfl ?_
  refine Tri.run 3 [] [.keep [0, 4, 7, 8, 9] []] (K' := [.code [(2, 0), (1, 0)] 0, .blk 0, .code [] 3]) (σ' := ⟨[(0, .int .i64 a0), (4, .int .i64 (0 : Int)), (7, .list (.ints a1)), (8, .int .i64 (a1.length : Int)), (9, .int .i64 (0 : Int))], []⟩) rfl trivial rfl ?_
  obtain ⟨v3, hk4, h⟩ := bind_some h
  refine Tri.loop (K1 := [.code [(2, 0), (1, 0), (0, 0)] 0]) (K2 := [.blk 0, .code [] 3]) (fun (v1, v2) => ⟨[(0, .int .i64 a0), (4, .int .i64 v1), (7, .list (.ints a1)), (8, .int .i64 (a1.length : Int)), (9, .int .i64 v2)], []⟩) (fun x e σ' => match x with | v3 => e = .exit 0 ∧ σ' = ⟨[(4, .int .i64 v3)], []⟩) hk4 rfl rfl ?_ ?_
  · intro s x hs
    clear h
    have h := hs
    clear hs
    obtain ⟨v1, v2⟩ := s
    refine Tri.run 1 [] [.keep [0, 4, 7, 8, 9, 10] []] (K' := [.code [(2, 0), (1, 0), (0, 0), (1, 0)] 0, .code [(2, 0), (1, 0), (0, 0)] 2]) (σ' := ⟨[(0, .int .i64 a0), (4, .int .i64 v1), (7, .list (.ints a1)), (8, .int .i64 (a1.length : Int)), (9, .int .i64 v2), (10, .bool (decide (v2 < (a1.length : Int))))], []⟩) rfl trivial rfl ?_
    rcases bif_some h with ⟨hd1, h⟩ | ⟨hd1, h⟩
    · obtain ⟨hg2, h⟩ := grd_some h
      refine Tri.run 3 [.g true] [.keep [0, 4, 6, 7, 8, 9, 17] []] (K' := [.code [(2, 0), (1, 0), (0, 0), (2, 0), (0, 0)] 2, .blk 1, .code [(2, 0), (1, 0), (0, 0)] 3]) (σ' := ⟨[(0, .int .i64 a0), (4, .int .i64 v1), (6, .int .i64 (a1.getD v2.toNat 0)), (7, .list (.ints a1)), (8, .int .i64 (a1.length : Int)), (9, .int .i64 v2), (17, .bool ((bitsOf .andNot .i64 v2 a0) == (0 : Int)))], []⟩) rfl ⟨hg2, hd1, trivial⟩ rfl ?_
      rcases bif_some h with ⟨hd3, h⟩ | ⟨hd3, h⟩
      · refine Tri.run 3 [.g true] [.keep [0, 4, 7, 8, 9] []] (K' := []) (σ' := ⟨[(0, .int .i64 a0), (4, .int .i64 (IntKind.i64.wrap (v1 + (a1.getD v2.toNat 0)))), (7, .list (.ints a1)), (8, .int .i64 (a1.length : Int)), (9, .int .i64 (IntKind.i64.wrap (v2 + (1 : Int))))], []⟩) rfl ⟨hd3, trivial⟩ rfl ?_
        have h := Option.some.inj h
        subst h
        exact Tri.nil ⟨rfl, rfl⟩
      · refine Tri.run 2 [.g false] [.keep [0, 4, 7, 8, 9] []] (K' := []) (σ' := ⟨[(0, .int .i64 a0), (4, .int .i64 v1), (7, .list (.ints a1)), (8, .int .i64 (a1.length : Int)), (9, .int .i64 (IntKind.i64.wrap (v2 + (1 : Int))))], []⟩) rfl ⟨hd3, trivial⟩ rfl ?_
        have h := Option.some.inj h
        subst h
        exact Tri.nil ⟨rfl, rfl⟩
    · refine Tri.run 1 [.g false] [.keep [4] []] (K' := [.code [(2, 0), (1, 0), (0, 0), (1, 0), (0, 1)] 0, .code [(2, 0), (1, 0), (0, 0)] 2]) (σ' := ⟨[(4, .int .i64 v1)], []⟩) rfl ⟨hd1, trivial⟩ rfl ?_
      have h := Option.some.inj h
      subst h
      exact Tri.out 0 rfl ⟨nofun, rfl, rfl⟩
  · intro e σ' hne hq
    obtain ⟨rfl, rfl⟩ := hq
    refine TriX.exit (K' := [.code [] 3]) rfl ?_
    refine Tri.run 1 [] [.keep [3] []] (K' := [.code [] 4]) (σ' := ⟨[(3, .int .i64 v3)], []⟩) rfl trivial rfl ?_
    have h := Option.some.inj h
    subst h
    exact Tri.ret rfl ⟨.inl rfl, rfl, rfl⟩
/-! impl.made -/
noncomputable def E65_impl_made : Env := ⟨Try.prog, tys, (Try.f65.body).getD .skip, 29, tysOk, mixedOk⟩
abbrev q_impl_made_impl_GameOfDividends_1 (r : Int × Bool × (List Int)) (σ' : ASt) : Prop := resAV E65_impl_made.T σ' Try.f65.results.toList = some (.tuple [.agg [.int .i64 r.1, .sl 1000 0], .bool r.2.1]) ∧ keepO σ'.ob (namesO [(1000, .arr 3 0 0 (.ints r.2.2))]) = [(1000, .arr 3 0 0 (.ints r.2.2))]
noncomputable def l_impl_made_impl_GameOfDividends_1_0 (a1 : List Int) (v1 : Int) : (Int × (List Int)) → Option ((Int × (List Int)) ⊕ ((List Int)))
  | (v2, v3) => (
bif decide (v2 < v1) then
((m_impl_GameOfDividends_1 v2 a1).bind fun v4 =>
grd (v3.length + ([v4] : List Int).length ≤ room) <|
some (.inl (IntKind.i64.wrap (v2 + (1 : Int)), v3 ++ [v4])))
else
(some (.inr v3)))
noncomputable def m_impl_made_impl_GameOfDividends_1 (a0 : Int) (a1 : List Int) : Option (Int × Bool × (List Int)) :=
(m_impl_CountCoalitions a0).bind fun v1 =>
(iter (l_impl_made_impl_GameOfDividends_1_0 a1 v1) ((0 : Int), [])).bind fun
| v5 => (
(m_impl_IsValidGame a0 v5).bind fun v6 =>
bif !v6 then
(some (0, false, []))
else
(some (a0, true, v5)))
theorem w_impl_made_impl_GameOfDividends_1 (a0 : Int) (a1 : List Int) (r : Int × Bool × (List Int)) (h : m_impl_made_impl_GameOfDividends_1 a0 a1 = some r) : AM.Spec Try.prog 65 [.int .i64 a0, .func 85 [] [.pbox [.list (.ints a1)] 0]] [] (.tuple [.agg [.int .i64 r.1, .sl 1000 0], .bool r.2.1]) [(1000, .arr 3 0 0 (.ints r.2.2))] := by
  refine spec_of (E := E65_impl_made) Try.func65 rfl rfl rfl rfl ?_
  refine Tri.run 2 [] [.keep [0, 1, 4, 6] [4, 6], .ownc 4 1 1100 3, .ownc 6 1 1101 3, .keep [0, 1, 4, 6] [4, 6, 1100, 1101]] (K' := [.code [(2, 0), (0, 0)] 0, .code [(2, 0)] 1, .code [] 3]) (σ' := ⟨[(0, .int .i64 a0), (1, .func 85 [] [.pbox [.list (.ints a1)] 0]), (4, .ptr 4 0), (6, .ptr 6 0)], [(4, .box [.int .i64 0, .sl 1100 0]), (6, .box [.int .i64 a0, .sl 1101 0]), (1100, .arr 3 0 0 (.ints [])), (1101, .arr 3 0 0 (.ints []))]⟩) rfl trivial rfl ?_
  obtain ⟨v1, hk1, h⟩ := bind_some h
  refine Tri.run 1 [.r ⟨[], .int .i64 v1, []⟩] [.keep [1, 4, 6, 11, 12] [4, 6, 1100, 1101]] (K' := [.code [(2, 0), (1, 0)] 0, .blk 0, .code [] 3]) (σ' := ⟨[(1, .func 85 [] [.pbox [.list (.ints a1)] 0]), (4, .ptr 4 0), (6, .ptr 6 0), (11, .int .i64 v1), (12, .int .i64 (0 : Int))], [(4, .box [.int .i64 0, .sl 1100 0]), (6, .box [.int .i64 a0, .sl 1101 0]), (1100, .arr 3 0 0 (.ints [])), (1101, .arr 3 0 0 (.ints []))]⟩) rfl ⟨(fun _ => (w_impl_CountCoalitions a0 v1 hk1)), trivial⟩ rfl ?_
  obtain ⟨v5, hk5, h⟩ := bind_some h
  refine Tri.loop (K1 := [.code [(2, 0), (1, 0), (0, 0)] 0]) (K2 := [.blk 0, .code [] 3]) (fun (v2, v3) => ⟨[(1, .func 85 [] [.pbox [.list (.ints a1)] 0]), (4, .ptr 4 0), (6, .ptr 6 0), (11, .int .i64 v1), (12, .int .i64 v2)], [(4, .box [.int .i64 0, .sl 1100 0]), (6, .box [.int .i64 a0, .sl 1101 0]), (1100, .arr 3 0 0 (.ints [])), (1101, .arr 3 0 0 (.ints v3))]⟩) (fun x e σ' => match x with | v5 => e = .exit 0 ∧ σ' = ⟨[(4, .ptr 4 0), (6, .ptr 6 0)], [(4, .box [.int .i64 0, .sl 1100 0]), (6, .box [.int .i64 a0, .sl 1101 0]), (1100, .arr 3 0 0 (.ints [])), (1101, .arr 3 0 0 (.ints v5))]⟩) hk5 rfl rfl ?_ ?_
  · intro s x hs
    clear h
    have h := hs
    clear hs
    obtain ⟨v2, v3⟩ := s
    refine Tri.run 1 [] [.keep [1, 4, 6, 11, 12, 13] [4, 6, 1100, 1101]] (K' := [.code [(2, 0), (1, 0), (0, 0), (1, 0)] 0, .code [(2, 0), (1, 0), (0, 0)] 2]) (σ' := ⟨[(1, .func 85 [] [.pbox [.list (.ints a1)] 0]), (4, .ptr 4 0), (6, .ptr 6 0), (11, .int .i64 v1), (12, .int .i64 v2), (13, .bool (decide (v2 < v1)))], [(4, .box [.int .i64 0, .sl 1100 0]), (6, .box [.int .i64 a0, .sl 1101 0]), (1100, .arr 3 0 0 (.ints [])), (1101, .arr 3 0 0 (.ints v3))]⟩) rfl trivial rfl ?_
    rcases bif_some h with ⟨hd2, h⟩ | ⟨hd2, h⟩
    · refine Tri.run 2 [.g true] [.keep [1, 4, 6, 7, 11, 12] [4, 6, 1100, 1101]] (K' := [.code [(2, 0), (1, 0), (0, 0), (2, 0), (0, 0)] 1, .blk 1, .code [(2, 0), (1, 0), (0, 0)] 3]) (σ' := ⟨[(1, .func 85 [] [.pbox [.list (.ints a1)] 0]), (4, .ptr 4 0), (6, .ptr 6 0), (7, .int .i64 v2), (11, .int .i64 v1), (12, .int .i64 v2)], [(4, .box [.int .i64 0, .sl 1100 0]), (6, .box [.int .i64 a0, .sl 1101 0]), (1100, .arr 3 0 0 (.ints [])), (1101, .arr 3 0 0 (.ints v3))]⟩) rfl ⟨hd2, trivial⟩ rfl ?_
      obtain ⟨v4, hk3, h⟩ := bind_some h
      obtain ⟨hg4, h⟩ := grd_some h
      refine Tri.run 2 [.r ⟨[], .int .i64 v4, []⟩] [.rever 1101, .keep [1, 4, 6, 11, 12] [4, 6, 1100, 1101]] (K' := []) (σ' := ⟨[(1, .func 85 [] [.pbox [.list (.ints a1)] 0]), (4, .ptr 4 0), (6, .ptr 6 0), (11, .int .i64 v1), (12, .int .i64 (IntKind.i64.wrap (v2 + (1 : Int))))], [(4, .box [.int .i64 0, .sl 1100 0]), (6, .box [.int .i64 a0, .sl 1101 0]), (1100, .arr 3 0 0 (.ints [])), (1101, .arr 3 0 0 (.ints (v3 ++ [v4])))]⟩) rfl ⟨hg4, (fun _ => (w_impl_GameOfDividends_1 v2 a1 v4 hk3)), trivial⟩ rfl ?_
      have h := Option.some.inj h
      subst h
      exact Tri.nil ⟨rfl, rfl⟩
    · refine Tri.run 1 [.g false] [.keep [4, 6] [4, 6, 1100, 1101]] (K' := [.code [(2, 0), (1, 0), (0, 0), (1, 0), (0, 1)] 0, .code [(2, 0), (1, 0), (0, 0)] 2]) (σ' := ⟨[(4, .ptr 4 0), (6, .ptr 6 0)], [(4, .box [.int .i64 0, .sl 1100 0]), (6, .box [.int .i64 a0, .sl 1101 0]), (1100, .arr 3 0 0 (.ints [])), (1101, .arr 3 0 0 (.ints v3))]⟩) rfl ⟨hd2, trivial⟩ rfl ?_
      have h := Option.some.inj h
      subst h
      exact Tri.out 0 rfl ⟨nofun, rfl, rfl⟩
  · intro e σ' hne hq
    obtain ⟨rfl, rfl⟩ := hq
    refine TriX.exit (K' := [.code [] 3]) rfl ?_
    obtain ⟨v6, hk6, h⟩ := bind_some h
    refine Tri.run 1 [.r ⟨[], .bool v6, []⟩] [.keep [4, 6, 26] [4, 6, 1100, 1101]] (K' := [.code [(3, 0)] 1, .code [] 4]) (σ' := ⟨[(4, .ptr 4 0), (6, .ptr 6 0), (26, .bool (!v6))], [(4, .box [.int .i64 0, .sl 1100 0]), (6, .box [.int .i64 a0, .sl 1101 0]), (1100, .arr 3 0 0 (.ints [])), (1101, .arr 3 0 0 (.ints v5))]⟩) rfl ⟨(fun _ => (w_impl_IsValidGame a0 v5 v6 hk6)), trivial⟩ rfl ?_
    rcases bif_some h with ⟨hd7, h⟩ | ⟨hd7, h⟩
    · refine Tri.run 2 [.g true] [.ownc 4 1 1102 3, .swap 1102 1000, .keep [4, 5] [4, 1000]] (K' := [.code [(3, 0), (1, 0)] 1, .code [] 4]) (σ' := ⟨[(4, .ptr 4 0), (5, .bool false)], [(4, .box [.int .i64 0, .sl 1000 0]), (1000, .arr 3 0 0 (.ints []))]⟩) rfl ⟨hd7, trivial⟩ rfl ?_
      have h := Option.some.inj h
      subst h
      exact Tri.ret rfl ⟨.inl rfl, rfl, rfl⟩
    · refine Tri.run 2 [.g false] [.swap 1101 1000, .keep [4, 5] [4, 1000]] (K' := [.code [] 5]) (σ' := ⟨[(4, .ptr 4 0), (5, .bool true)], [(4, .box [.int .i64 a0, .sl 1000 0]), (1000, .arr 3 0 0 (.ints v5))]⟩) rfl ⟨hd7, trivial⟩ rfl ?_
      have h := Option.some.inj h
      subst h
      exact Tri.ret rfl ⟨.inl rfl, rfl, rfl⟩
/-! impl.GameOfDividends -/
noncomputable def E41_impl_GameOfDividends : Env := ⟨Try.prog, tys, (Try.f41.body).getD .skip, 35, tysOk, mixedOk⟩
abbrev q_impl_GameOfDividends (r : Int × Bool × (List Int)) (σ' : ASt) : Prop := resAV E41_impl_GameOfDividends.T σ' Try.f41.results.toList = some (.tuple [.agg [.int .i64 r.1, .sl 1000 0], .bool r.2.1]) ∧ keepO σ'.ob (namesO [(1000, .arr 3 0 0 (.ints r.2.2))]) = [(1000, .arr 3 0 0 (.ints r.2.2))]
noncomputable def l_impl_GameOfDividends_0 (a1 : List Int) (v3 : Int) : Option (Int ⊕ (Unit ⊕ ((Int × Bool × (List Int))))) :=
bif decide (v3 < (a1.length : Int)) then
(grd ((0 : Int) ≤ v3 ∧ v3 < (a1.length : Int)) <|
(m_impl_within (a1.getD v3.toNat 0) (-100000 : Int) (100000 : Int)).bind fun v4 =>
bif !v4 then
(some (.inr (.inr (0, false, []))))
else
(some (.inl (IntKind.i64.wrap (v3 + (1 : Int))))))
else
(some (.inr (.inl ())))
noncomputable def m_impl_GameOfDividends (a0 : Int) (a1 : List Int) : Option (Int × Bool × (List Int)) :=
(m_impl_within a0 (1 : Int) (5 : Int)).bind fun v1 =>
bif !v1 then
(some (0, false, []))
else
((m_impl_CountCoalitions a0).bind fun v2 =>
bif (a1.length : Int) != v2 then
(some (0, false, []))
else
((iter (l_impl_GameOfDividends_0 a1) (0 : Int)).bind fun
| (.inl _) => (
(m_impl_made_impl_GameOfDividends_1 a0 a1).bind fun (v5, v6, v7) =>
some (v5, v6, v7))
| (.inr r) => some r))
theorem w_impl_GameOfDividends (a0 : Int) (a1 : List Int) (r : Int × Bool × (List Int)) (h : m_impl_GameOfDividends a0 a1 = some r) : AM.Spec Try.prog 41 [.int .i64 a0, .list (.ints a1)] [] (.tuple [.agg [.int .i64 r.1, .sl 1000 0], .bool r.2.1]) [(1000, .arr 3 0 0 (.ints r.2.2))] := by
  refine spec_of (E := E41_impl_GameOfDividends) Try.func41 rfl rfl rfl rfl ?_
  refine Tri.run 1 [] [.keep [0, 3, 4] [3, 4], .ownc 4 1 1100 3, .keep [0, 3, 4] [3, 4, 1100]] (K' := [.code [(1, 0), (0, 0)] 0, .code [(1, 0)] 1, .code [] 2]) (σ' := ⟨[(0, .int .i64 a0), (3, .ptr 3 0), (4, .ptr 4 0)], [(3, .box [.list (.ints a1)]), (4, .box [.int .i64 0, .sl 1100 0]), (1100, .arr 3 0 0 (.ints []))]⟩) rfl trivial rfl ?_
  obtain ⟨v1, hk1, h⟩ := bind_some h
  rcases bif_some h with ⟨hd2, h⟩ | ⟨hd2, h⟩
  · refine Tri.run 1 [.r ⟨[], .bool v1, []⟩, .g true] [.keep [0, 3, 4, 17] [3, 4, 1100]] (K' := [.code [(1, 0)] 1, .code [] 2]) (σ' := ⟨[(0, .int .i64 a0), (3, .ptr 3 0), (4, .ptr 4 0), (17, .bool true)], [(3, .box [.list (.ints a1)]), (4, .box [.int .i64 0, .sl 1100 0]), (1100, .arr 3 0 0 (.ints []))]⟩) rfl ⟨hd2, (fun _ => (w_impl_within a0 (1 : Int) (5 : Int) v1 hk1)), trivial⟩ rfl ?_
    refine Tri.run 2 [.g true] [.ownc 4 1 1101 3, .swap 1101 1000, .keep [4, 5] [4, 1000]] (K' := [.code [(1, 0), (1, 0)] 1, .code [] 2]) (σ' := ⟨[(4, .ptr 4 0), (5, .bool false)], [(4, .box [.int .i64 0, .sl 1000 0]), (1000, .arr 3 0 0 (.ints []))]⟩) rfl ⟨rfl, trivial⟩ rfl ?_
    have h := Option.some.inj h
    subst h
    exact Tri.ret rfl ⟨.inl rfl, rfl, rfl⟩
  · obtain ⟨v2, hk3, h⟩ := bind_some h
    refine Tri.run 1 [.r ⟨[], .bool v1, []⟩, .g false, .r ⟨[], .int .i64 v2, []⟩] [.keep [0, 3, 4, 17] [3, 4, 1100]] (K' := [.code [(1, 0)] 1, .code [] 2]) (σ' := ⟨[(0, .int .i64 a0), (3, .ptr 3 0), (4, .ptr 4 0), (17, .bool ((a1.length : Int) != v2))], [(3, .box [.list (.ints a1)]), (4, .box [.int .i64 0, .sl 1100 0]), (1100, .arr 3 0 0 (.ints []))]⟩) rfl ⟨(fun _ => (w_impl_CountCoalitions a0 v2 hk3)), hd2, (fun _ => (w_impl_within a0 (1 : Int) (5 : Int) v1 hk1)), trivial⟩ rfl ?_
    rcases bif_some h with ⟨hd4, h⟩ | ⟨hd4, h⟩
    · refine Tri.run 2 [.g true] [.ownc 4 1 1102 3, .swap 1102 1000, .keep [4, 5] [4, 1000]] (K' := [.code [(1, 0), (1, 0)] 1, .code [] 2]) (σ' := ⟨[(4, .ptr 4 0), (5, .bool false)], [(4, .box [.int .i64 0, .sl 1000 0]), (1000, .arr 3 0 0 (.ints []))]⟩) rfl ⟨hd4, trivial⟩ rfl ?_
      have h := Option.some.inj h
      subst h
      exact Tri.ret rfl ⟨.inl rfl, rfl, rfl⟩
    · refine Tri.run 2 [.g false] [.keep [0, 3, 4, 19, 20, 21] [3, 4, 1100]] (K' := [.code [(2, 0), (1, 0)] 0, .blk 0, .code [] 3]) (σ' := ⟨[(0, .int .i64 a0), (3, .ptr 3 0), (4, .ptr 4 0), (19, .list (.ints a1)), (20, .int .i64 (a1.length : Int)), (21, .int .i64 (0 : Int))], [(3, .box [.list (.ints a1)]), (4, .box [.int .i64 0, .sl 1100 0]), (1100, .arr 3 0 0 (.ints []))]⟩) rfl ⟨hd4, trivial⟩ rfl ?_
      obtain ⟨x1, hk9, h⟩ := bind_some h
      refine Tri.loop (K1 := [.code [(2, 0), (1, 0), (0, 0)] 0]) (K2 := [.blk 0, .code [] 3]) (fun v3 => ⟨[(0, .int .i64 a0), (3, .ptr 3 0), (4, .ptr 4 0), (19, .list (.ints a1)), (20, .int .i64 (a1.length : Int)), (21, .int .i64 v3)], [(3, .box [.list (.ints a1)]), (4, .box [.int .i64 0, .sl 1100 0]), (1100, .arr 3 0 0 (.ints []))]⟩) (fun x e σ' => match x with | (.inl _) => e = .exit 0 ∧ σ' = ⟨[(0, .int .i64 a0), (3, .ptr 3 0), (4, .ptr 4 0)], [(3, .box [.list (.ints a1)]), (4, .box [.int .i64 0, .sl 1100 0]), (1100, .arr 3 0 0 (.ints []))]⟩ | (.inr r) => e = .ret ∧ q_impl_GameOfDividends r σ') hk9 rfl rfl ?_ ?_
      · intro v3 x hs
        clear h
        have h := hs
        clear hs
        refine Tri.run 1 [] [.keep [0, 3, 4, 19, 20, 21, 22] [3, 4, 1100]] (K' := [.code [(2, 0), (1, 0), (0, 0), (1, 0)] 0, .code [(2, 0), (1, 0), (0, 0)] 2]) (σ' := ⟨[(0, .int .i64 a0), (3, .ptr 3 0), (4, .ptr 4 0), (19, .list (.ints a1)), (20, .int .i64 (a1.length : Int)), (21, .int .i64 v3), (22, .bool (decide (v3 < (a1.length : Int))))], [(3, .box [.list (.ints a1)]), (4, .box [.int .i64 0, .sl 1100 0]), (1100, .arr 3 0 0 (.ints []))]⟩) rfl trivial rfl ?_
        rcases bif_some h with ⟨hd5, h⟩ | ⟨hd5, h⟩
        · obtain ⟨hg6, h⟩ := grd_some h
          refine Tri.run 2 [.g true] [.keep [0, 3, 4, 7, 19, 20, 21] [3, 4, 1100]] (K' := [.code [(2, 0), (1, 0), (0, 0), (2, 0), (0, 0), (1, 0)] 0, .code [(2, 0), (1, 0), (0, 0), (2, 0), (0, 0)] 2, .blk 1, .code [(2, 0), (1, 0), (0, 0)] 3]) (σ' := ⟨[(0, .int .i64 a0), (3, .ptr 3 0), (4, .ptr 4 0), (7, .int .i64 (a1.getD v3.toNat 0)), (19, .list (.ints a1)), (20, .int .i64 (a1.length : Int)), (21, .int .i64 v3)], [(3, .box [.list (.ints a1)]), (4, .box [.int .i64 0, .sl 1100 0]), (1100, .arr 3 0 0 (.ints []))]⟩) rfl ⟨hg6, hd5, trivial⟩ rfl ?_
          obtain ⟨v4, hk7, h⟩ := bind_some h
          refine Tri.run 1 [.r ⟨[], .bool v4, []⟩] [.keep [0, 3, 4, 19, 20, 21, 27] [3, 4, 1100]] (K' := [.code [(2, 0), (1, 0), (0, 0), (2, 0), (0, 0)] 2, .blk 1, .code [(2, 0), (1, 0), (0, 0)] 3]) (σ' := ⟨[(0, .int .i64 a0), (3, .ptr 3 0), (4, .ptr 4 0), (19, .list (.ints a1)), (20, .int .i64 (a1.length : Int)), (21, .int .i64 v3), (27, .bool (!v4))], [(3, .box [.list (.ints a1)]), (4, .box [.int .i64 0, .sl 1100 0]), (1100, .arr 3 0 0 (.ints []))]⟩) rfl ⟨(fun _ => (w_impl_within (a1.getD v3.toNat 0) (-100000 : Int) (100000 : Int) v4 hk7)), trivial⟩ rfl ?_
          rcases bif_some h with ⟨hd8, h⟩ | ⟨hd8, h⟩
          · refine Tri.run 2 [.g true] [.ownc 4 1 1103 3, .swap 1103 1000, .keep [4, 5] [4, 1000]] (K' := [.code [(2, 0), (1, 0), (0, 0), (2, 0), (0, 0), (2, 0)] 1, .blk 1, .code [(2, 0), (1, 0), (0, 0)] 3]) (σ' := ⟨[(4, .ptr 4 0), (5, .bool false)], [(4, .box [.int .i64 0, .sl 1000 0]), (1000, .arr 3 0 0 (.ints []))]⟩) rfl ⟨hd8, trivial⟩ rfl ?_
            have h := Option.some.inj h
            subst h
            exact Tri.ret rfl ⟨nofun, rfl, rfl, rfl⟩
          · refine Tri.run 2 [.g false] [.keep [0, 3, 4, 19, 20, 21] [3, 4, 1100]] (K' := []) (σ' := ⟨[(0, .int .i64 a0), (3, .ptr 3 0), (4, .ptr 4 0), (19, .list (.ints a1)), (20, .int .i64 (a1.length : Int)), (21, .int .i64 (IntKind.i64.wrap (v3 + (1 : Int))))], [(3, .box [.list (.ints a1)]), (4, .box [.int .i64 0, .sl 1100 0]), (1100, .arr 3 0 0 (.ints []))]⟩) rfl ⟨hd8, trivial⟩ rfl ?_
            have h := Option.some.inj h
            subst h
            exact Tri.nil ⟨rfl, rfl⟩
        · refine Tri.run 1 [.g false] [.keep [0, 3, 4] [3, 4, 1100]] (K' := [.code [(2, 0), (1, 0), (0, 0), (1, 0), (0, 1)] 0, .code [(2, 0), (1, 0), (0, 0)] 2]) (σ' := ⟨[(0, .int .i64 a0), (3, .ptr 3 0), (4, .ptr 4 0)], [(3, .box [.list (.ints a1)]), (4, .box [.int .i64 0, .sl 1100 0]), (1100, .arr 3 0 0 (.ints []))]⟩) rfl ⟨hd5, trivial⟩ rfl ?_
          have h := Option.some.inj h
          subst h
          exact Tri.out 0 rfl ⟨nofun, rfl, rfl⟩
      · intro e σ' hne hq
        rcases x1 with _ | r
        · obtain ⟨rfl, rfl⟩ := hq
          refine TriX.exit (K' := [.code [] 3]) rfl ?_
          obtain ⟨⟨v5, v6, v7⟩, hk10, h⟩ := bind_some h
          refine Tri.run 1 [.r ⟨[], .tuple [.agg [.int .i64 v5, .sl 1104 0], .bool v6], [(1104, .arr 3 0 0 (.ints v7))]⟩] [.swap 1104 1000, .keep [4, 5] [4, 1000]] (K' := [.code [] 4]) (σ' := ⟨[(4, .ptr 4 0), (5, .bool v6)], [(4, .box [.int .i64 v5, .sl 1000 0]), (1000, .arr 3 0 0 (.ints v7))]⟩) rfl ⟨(fun _ => ((w_impl_made_impl_GameOfDividends_1 a0 a1 (v5, v6, v7) hk10).swap 1000 1104)), trivial⟩ rfl ?_
          have h := Option.some.inj h
          subst h
          exact Tri.ret rfl ⟨.inl rfl, rfl, rfl⟩
        · obtain ⟨rfl, hq⟩ := hq
          have h := Option.some.inj h
          subst h
          exact TriX.ret ⟨.inl rfl, hq⟩
/-! spec.l8Ints -/
noncomputable def E86_spec_l8Ints : Env := ⟨Try.prog, tys, (Try.f86.body).getD .skip, 26, tysOk, mixedOk⟩
abbrev q_spec_l8Ints (r : Bool) (σ' : ASt) : Prop := resAV E86_spec_l8Ints.T σ' Try.f86.results.toList = some (.bool r) ∧ keepO σ'.ob (namesO []) = []
noncomputable def l_spec_l8Ints_0 (a0 : List Int) (a1 : List Int) (v1 : Int) : Option (Int ⊕ (Unit ⊕ Bool)) :=
bif decide (v1 < (a0.length : Int)) then
(grd ((0 : Int) ≤ v1 ∧ v1 < (a0.length : Int)) <|
grd ((0 : Int) ≤ v1 ∧ v1 < (a1.length : Int)) <|
bif (a0.getD v1.toNat 0) != (a1.getD v1.toNat 0) then
(some (.inr (.inr false)))
else
(some (.inl (IntKind.i64.wrap (v1 + (1 : Int))))))
else
(some (.inr (.inl ())))
noncomputable def m_spec_l8Ints (a0 : List Int) (a1 : List Int) : Option Bool :=
bif (a0.length : Int) != (a1.length : Int) then
(some false)
else
((iter (l_spec_l8Ints_0 a0 a1) (0 : Int)).bind fun
| (.inl _) => (
some true)
| (.inr r) => some r)
theorem w_spec_l8Ints (a0 : List Int) (a1 : List Int) (r : Bool) (h : m_spec_l8Ints a0 a1 = some r) : AM.Spec Try.prog 86 [.list (.ints a0), .list (.ints a1)] [] (.bool r) [] := by
  refine spec_of (E := E86_spec_l8Ints) Try.func86 rfl rfl rfl rfl ?_
  refine Tri.run 2 [] [.keep [0, 1, 10] []] (K' := [.code [(1, 0)] 1, .code [] 2]) (σ' := ⟨[(0, .list (.ints a0)), (1, .list (.ints a1)), (10, .bool ((a0.length : Int) != (a1.length : Int)))], []⟩) rfl trivial rfl ?_
  rcases bif_some h with ⟨hd1, h⟩ | ⟨hd1, h⟩
  · refine Tri.run 2 [.g true] [.keep [4] []] (K' := [.code [(1, 0), (1, 0)] 1, .code [] 2]) (σ' := ⟨[(4, .bool false)], []⟩) rfl ⟨hd1, trivial⟩ rfl ?_
    have h := Option.some.inj h
    subst h
    exact Tri.ret rfl ⟨.inl rfl, rfl, rfl⟩
  · refine Tri.run 2 [.g false] [.keep [0, 1, 5] []] (K' := [.code [(2, 0), (1, 0)] 0, .blk 0, .code [] 3]) (σ' := ⟨[(0, .list (.ints a0)), (1, .list (.ints a1)), (5, .int .i64 (0 : Int))], []⟩) rfl ⟨hd1, trivial⟩ rfl ?_
    obtain ⟨x1, hk6, h⟩ := bind_some h
    refine Tri.loop (K1 := [.code [(2, 0), (1, 0), (0, 0)] 0]) (K2 := [.blk 0, .code [] 3]) (fun v1 => ⟨[(0, .list (.ints a0)), (1, .list (.ints a1)), (5, .int .i64 v1)], []⟩) (fun x e σ' => match x with | (.inl _) => e = .exit 0 ∧ σ' = ⟨[], []⟩ | (.inr r) => e = .ret ∧ q_spec_l8Ints r σ') hk6 rfl rfl ?_ ?_
    · intro v1 x hs
      clear h
      have h := hs
      clear hs
      refine Tri.run 1 [] [.keep [0, 1, 5, 14] []] (K' := [.code [(2, 0), (1, 0), (0, 0), (0, 0)] 1, .code [(2, 0), (1, 0), (0, 0)] 1]) (σ' := ⟨[(0, .list (.ints a0)), (1, .list (.ints a1)), (5, .int .i64 v1), (14, .bool (decide (v1 < (a0.length : Int))))], []⟩) rfl trivial rfl ?_
      rcases bif_some h with ⟨hd2, h⟩ | ⟨hd2, h⟩
      · obtain ⟨hg3, h⟩ := grd_some h
        obtain ⟨hg4, h⟩ := grd_some h
        refine Tri.run 2 [.g true] [.keep [0, 1, 5, 25] []] (K' := [.code [(2, 0), (1, 0), (0, 0), (1, 0), (0, 0)] 1, .blk 1, .code [(2, 0), (1, 0), (0, 0)] 2]) (σ' := ⟨[(0, .list (.ints a0)), (1, .list (.ints a1)), (5, .int .i64 v1), (25, .bool ((a0.getD v1.toNat 0) != (a1.getD v1.toNat 0)))], []⟩) rfl ⟨hg4, hg3, hd2, trivial⟩ rfl ?_
        rcases bif_some h with ⟨hd5, h⟩ | ⟨hd5, h⟩
        · refine Tri.run 2 [.g true] [.keep [4] []] (K' := [.code [(2, 0), (1, 0), (0, 0), (1, 0), (0, 0), (1, 0)] 1, .blk 1, .code [(2, 0), (1, 0), (0, 0)] 2]) (σ' := ⟨[(4, .bool false)], []⟩) rfl ⟨hd5, trivial⟩ rfl ?_
          have h := Option.some.inj h
          subst h
          exact Tri.ret rfl ⟨nofun, rfl, rfl, rfl⟩
        · refine Tri.run 2 [.g false] [.keep [0, 1, 5] []] (K' := []) (σ' := ⟨[(0, .list (.ints a0)), (1, .list (.ints a1)), (5, .int .i64 (IntKind.i64.wrap (v1 + (1 : Int))))], []⟩) rfl ⟨hd5, trivial⟩ rfl ?_
          have h := Option.some.inj h
          subst h
          exact Tri.nil ⟨rfl, rfl⟩
      · refine Tri.run 1 [.g false] [.keep [] []] (K' := [.code [(2, 0), (1, 0), (0, 0), (0, 0), (1, 1)] 0, .code [(2, 0), (1, 0), (0, 0)] 1]) (σ' := ⟨[], []⟩) rfl ⟨hd2, trivial⟩ rfl ?_
        have h := Option.some.inj h
        subst h
        exact Tri.out 0 rfl ⟨nofun, rfl, rfl⟩
    · intro e σ' hne hq
      rcases x1 with _ | r
      · obtain ⟨rfl, rfl⟩ := hq
        refine TriX.exit (K' := [.code [] 3]) rfl ?_
        refine Tri.run 1 [] [.keep [4] []] (K' := [.code [] 4]) (σ' := ⟨[(4, .bool true)], []⟩) rfl trivial rfl ?_
        have h := Option.some.inj h
        subst h
        exact Tri.ret rfl ⟨.inl rfl, rfl, rfl⟩
      · obtain ⟨rfl, hq⟩ := hq
        have h := Option.some.inj h
        subst h
        exact TriX.ret ⟨.inl rfl, hq⟩
/-! spec.EqualGame -/
noncomputable def E42_spec_EqualGame : Env := ⟨Try.prog, tys, (Try.f42.body).getD .skip, 17, tysOk, mixedOk⟩
abbrev q_spec_EqualGame (r : Bool) (σ' : ASt) : Prop := resAV E42_spec_EqualGame.T σ' Try.f42.results.toList = some (.bool r) ∧ keepO σ'.ob (namesO []) = []
noncomputable def m_spec_EqualGame (a0 : Int) (a1 : List Int) (a2 : Int) (a3 : List Int) : Option Bool :=
bif a0 == a2 then
((m_spec_l8Ints a1 a3).bind fun v1 =>
some v1)
else
(some false)
theorem w_spec_EqualGame (a0 : Int) (a1 : List Int) (a2 : Int) (a3 : List Int) (r : Bool) (h : m_spec_EqualGame a0 a1 a2 a3 = some r) : AM.Spec Try.prog 42 [.agg [.int .i64 a0, .list (.ints a1)], .agg [.int .i64 a2, .list (.ints a3)]] [] (.bool r) [] := by
  refine spec_of (E := E42_spec_EqualGame) Try.func42 rfl rfl rfl rfl ?_
  refine Tri.run 1 [] [.keep [2, 3] [2, 3]] (K' := [.code [(1, 0)] 0, .code [] 2]) (σ' := ⟨[(2, .ptr 2 0), (3, .ptr 3 0)], [(2, .box [.int .i64 a0, .list (.ints a1)]), (3, .box [.int .i64 a2, .list (.ints a3)])]⟩) rfl trivial rfl ?_
  rcases bif_some h with ⟨hd1, h⟩ | ⟨hd1, h⟩
  · obtain ⟨v1, hk2, h⟩ := bind_some h
    refine Tri.run 1 [.g true, .r ⟨[], .bool v1, []⟩] [.keep [4] []] (K' := [.code [] 2]) (σ' := ⟨[(4, .bool v1)], []⟩) rfl ⟨(fun _ => (w_spec_l8Ints a1 a3 v1 hk2)), hd1, trivial⟩ rfl ?_
    have h := Option.some.inj h
    subst h
    exact Tri.ret rfl ⟨.inl rfl, rfl, rfl⟩
  · refine Tri.run 1 [.g false] [.keep [4] []] (K' := [.code [] 2]) (σ' := ⟨[(4, .bool false)], []⟩) rfl ⟨hd1, trivial⟩ rfl ?_
    have h := Option.some.inj h
    subst h
    exact Tri.ret rfl ⟨.inl rfl, rfl, rfl⟩
/-! spec.l14Factorial -/
noncomputable def E87_spec_l14Factorial : Env := ⟨Try.prog, tys, (Try.f87.body).getD .skip, 14, tysOk, mixedOk⟩
abbrev q_spec_l14Factorial (r : Int) (σ' : ASt) : Prop := resAV E87_spec_l14Factorial.T σ' Try.f87.results.toList = some (.int .i64 r) ∧ keepO σ'.ob (namesO []) = []
noncomputable def l_spec_l14Factorial_0 (a0 : Int) : (Int × Int) → Option ((Int × Int) ⊕ Int)
  | (v1, v2) => (
bif decide (v2 ≤ a0) then
(some (.inl (IntKind.i64.wrap (v1 * v2), IntKind.i64.wrap (v2 + (1 : Int)))))
else
(some (.inr v1)))
noncomputable def m_spec_l14Factorial (a0 : Int) : Option Int :=
(iter (l_spec_l14Factorial_0 a0) ((1 : Int), (2 : Int))).bind fun
| v3 => (
some v3)
theorem w_spec_l14Factorial (a0 : Int) (r : Int) (h : m_spec_l14Factorial a0 = some r) : AM.Spec Try.prog 87 [.int .i64 a0] [] (.int .i64 r) [] := by
  refine spec_of (E := E87_spec_l14Factorial) Try.func87 rfl rfl rfl rfl ?_
  refine Tri.run 3 [] [.keep [0, 3, 4] []] (K' := [.code [(2, 0), (1, 0)] 0, .blk 0, .code [] 3]) (σ' := ⟨[(0, .int .i64 a0), (3, .int .i64 (1 : Int)), (4, .int .i64 (2 : Int))], []⟩) rfl trivial rfl ?_
  obtain ⟨v3, hk2, h⟩ := bind_some h
  refine Tri.loop (K1 := [.code [(2, 0), (1, 0), (0, 0)] 0]) (K2 := [.blk 0, .code [] 3]) (fun (v1, v2) => ⟨[(0, .int .i64 a0), (3, .int .i64 v1), (4, .int .i64 v2)], []⟩) (fun x e σ' => match x with | v3 => e = .exit 0 ∧ σ' = ⟨[(3, .int .i64 v3)], []⟩) hk2 rfl rfl ?_ ?_
  · intro s x hs
    clear h
    have h := hs
    clear hs
    obtain ⟨v1, v2⟩ := s
    refine Tri.run 1 [] [.keep [0, 3, 4, 7] []] (K' := [.code [(2, 0), (1, 0), (0, 0), (0, 0)] 1, .code [(2, 0), (1, 0), (0, 0)] 1]) (σ' := ⟨[(0, .int .i64 a0), (3, .int .i64 v1), (4, .int .i64 v2), (7, .bool (decide (v2 ≤ a0)))], []⟩) rfl trivial rfl ?_
    rcases bif_some h with ⟨hd1, h⟩ | ⟨hd1, h⟩
    · refine Tri.run 3 [.g true] [.keep [0, 3, 4] []] (K' := []) (σ' := ⟨[(0, .int .i64 a0), (3, .int .i64 (IntKind.i64.wrap (v1 * v2))), (4, .int .i64 (IntKind.i64.wrap (v2 + (1 : Int))))], []⟩) rfl ⟨hd1, trivial⟩ rfl ?_
      have h := Option.some.inj h
      subst h
      exact Tri.nil ⟨rfl, rfl⟩
    · refine Tri.run 1 [.g false] [.keep [3] []] (K' := [.code [(2, 0), (1, 0), (0, 0), (0, 0), (1, 1)] 0, .code [(2, 0), (1, 0), (0, 0)] 1]) (σ' := ⟨[(3, .int .i64 v1)], []⟩) rfl ⟨hd1, trivial⟩ rfl ?_
      have h := Option.some.inj h
      subst h
      exact Tri.out 0 rfl ⟨nofun, rfl, rfl⟩
  · intro e σ' hne hq
    obtain ⟨rfl, rfl⟩ := hq
    refine TriX.exit (K' := [.code [] 3]) rfl ?_
    refine Tri.run 1 [] [.keep [2] []] (K' := [.code [] 4]) (σ' := ⟨[(2, .int .i64 v3)], []⟩) rfl trivial rfl ?_
    have h := Option.some.inj h
    subst h
    exact Tri.ret rfl ⟨.inl rfl, rfl, rfl⟩
/-! spec.l3Gcd -/
noncomputable def E104_spec_l3Gcd : Env := ⟨Try.prog, tys, (Try.f104.body).getD .skip, 22, tysOk, mixedOk⟩
abbrev q_spec_l3Gcd (r : Int) (σ' : ASt) : Prop := resAV E104_spec_l3Gcd.T σ' Try.f104.results.toList = some (.int .i64 r) ∧ keepO σ'.ob (namesO []) = []
noncomputable def l_spec_l3Gcd_0 : (Int × Int) → Option ((Int × Int) ⊕ Int)
  | (v1, v2) => (
bif decide (v2 > (0 : Int)) then
(grd (v2 ≠ 0) <|
some (.inl (v2, v1.tmod v2)))
else
(some (.inr v1)))
noncomputable def l_spec_l3Gcd_1 : (Int × Int) → Option ((Int × Int) ⊕ Int)
  | (v4, v5) => (
bif decide (v5 > (0 : Int)) then
(grd (v5 ≠ 0) <|
some (.inl (v5, v4.tmod v5)))
else
(some (.inr v4)))
noncomputable def l_spec_l3Gcd_2 : (Int × Int) → Option ((Int × Int) ⊕ Int)
  | (v7, v8) => (
bif decide (v8 > (0 : Int)) then
(grd (v8 ≠ 0) <|
some (.inl (v8, v7.tmod v8)))
else
(some (.inr v7)))
noncomputable def l_spec_l3Gcd_3 : (Int × Int) → Option ((Int × Int) ⊕ Int)
  | (v10, v11) => (
bif decide (v11 > (0 : Int)) then
(grd (v11 ≠ 0) <|
some (.inl (v11, v10.tmod v11)))
else
(some (.inr v10)))
noncomputable def m_spec_l3Gcd (a0 : Int) (a1 : Int) : Option Int :=
bif decide (a0 < (0 : Int)) then
(bif decide (a1 < (0 : Int)) then
((iter (l_spec_l3Gcd_0) (IntKind.i64.wrap (0 - a0), IntKind.i64.wrap (0 - a1))).bind fun
| v3 => (
some v3))
else
((iter (l_spec_l3Gcd_1) (IntKind.i64.wrap (0 - a0), a1)).bind fun
| v6 => (
some v6)))
else
(bif decide (a1 < (0 : Int)) then
((iter (l_spec_l3Gcd_2) (a0, IntKind.i64.wrap (0 - a1))).bind fun
| v9 => (
some v9))
else
((iter (l_spec_l3Gcd_3) (a0, a1)).bind fun
| v12 => (
some v12)))
theorem w_spec_l3Gcd (a0 : Int) (a1 : Int) (r : Int) (h : m_spec_l3Gcd a0 a1 = some r) : AM.Spec Try.prog 104 [.int .i64 a0, .int .i64 a1] [] (.int .i64 r) [] := by
  refine spec_of (E := E104_spec_l3Gcd) Try.func104 rfl rfl rfl rfl ?_
  refine Tri.run 2 [] [.keep [0, 1, 7] []] (K' := [.code [(1, 0)] 1, .code [] 2]) (σ' := ⟨[(0, .int .i64 a0), (1, .int .i64 a1), (7, .bool (decide (a0 < (0 : Int))))], []⟩) rfl trivial rfl ?_
  rcases bif_some h with ⟨hd1, h⟩ | ⟨hd1, h⟩
  · refine Tri.run 3 [.g true] [.keep [0, 1, 11] []] (K' := [.code [(2, 0)] 1, .code [] 3]) (σ' := ⟨[(0, .int .i64 (IntKind.i64.wrap (0 - a0))), (1, .int .i64 a1), (11, .bool (decide (a1 < (0 : Int))))], []⟩) rfl ⟨hd1, trivial⟩ rfl ?_
    rcases bif_some h with ⟨hd2, h⟩ | ⟨hd2, h⟩
    · refine Tri.run 2 [.g true] [.keep [0, 1] []] (K' := [.code [(3, 0), (0, 0)] 0, .blk 0, .code [] 4]) (σ' := ⟨[(0, .int .i64 (IntKind.i64.wrap (0 - a0))), (1, .int .i64 (IntKind.i64.wrap (0 - a1)))], []⟩) rfl ⟨hd2, trivial⟩ rfl ?_
      obtain ⟨v3, hk5, h⟩ := bind_some h
      refine Tri.loop (K1 := [.code [(3, 0), (0, 0), (0, 0)] 0]) (K2 := [.blk 0, .code [] 4]) (fun (v1, v2) => ⟨[(0, .int .i64 v1), (1, .int .i64 v2)], []⟩) (fun x e σ' => match x with | v3 => e = .exit 0 ∧ σ' = ⟨[(0, .int .i64 v3)], []⟩) hk5 rfl rfl ?_ ?_
      · intro s x hs
        clear h
        have h := hs
        clear hs
        obtain ⟨v1, v2⟩ := s
        refine Tri.run 1 [] [.keep [0, 1, 15] []] (K' := [.code [(3, 0), (0, 0), (0, 0), (0, 0)] 1, .code [(3, 0), (0, 0), (0, 0)] 1]) (σ' := ⟨[(0, .int .i64 v1), (1, .int .i64 v2), (15, .bool (decide (v2 > (0 : Int))))], []⟩) rfl trivial rfl ?_
        rcases bif_some h with ⟨hd3, h⟩ | ⟨hd3, h⟩
        · obtain ⟨hg4, h⟩ := grd_some h
          refine Tri.run 3 [.g true] [.keep [0, 5] []] (K' := [.code [(3, 0), (0, 0), (0, 0), (1, 0)] 2, .blk 1]) (σ' := ⟨[(0, .int .i64 v2), (5, .int .i64 (v1.tmod v2))], []⟩) rfl ⟨hg4, hd3, trivial⟩ rfl ?_
          refine Tri.run 1 [] [.keep [0, 1] []] (K' := []) (σ' := ⟨[(0, .int .i64 v2), (1, .int .i64 (v1.tmod v2))], []⟩) rfl trivial rfl ?_
          have h := Option.some.inj h
          subst h
          exact Tri.nil ⟨rfl, rfl⟩
        · refine Tri.run 1 [.g false] [.keep [0] []] (K' := [.code [(3, 0), (0, 0), (0, 0), (0, 0), (1, 1)] 0, .code [(3, 0), (0, 0), (0, 0)] 1]) (σ' := ⟨[(0, .int .i64 v1)], []⟩) rfl ⟨hd3, trivial⟩ rfl ?_
          have h := Option.some.inj h
          subst h
          exact Tri.out 0 rfl ⟨nofun, rfl, rfl⟩
      · intro e σ' hne hq
        obtain ⟨rfl, rfl⟩ := hq
        refine TriX.exit (K' := [.code [] 4]) rfl ?_
        refine Tri.run 1 [] [.keep [4] []] (K' := [.code [] 5]) (σ' := ⟨[(4, .int .i64 v3)], []⟩) rfl trivial rfl ?_
        have h := Option.some.inj h
        subst h
        exact Tri.ret rfl ⟨.inl rfl, rfl, rfl⟩
    · refine Tri.run 1 [.g false] [.keep [0, 1] []] (K' := [.code [(3, 0), (0, 0)] 0, .blk 0, .code [] 4]) (σ' := ⟨[(0, .int .i64 (IntKind.i64.wrap (0 - a0))), (1, .int .i64 a1)], []⟩) rfl ⟨hd2, trivial⟩ rfl ?_
      obtain ⟨v6, hk8, h⟩ := bind_some h
      refine Tri.loop (K1 := [.code [(3, 0), (0, 0), (0, 0)] 0]) (K2 := [.blk 0, .code [] 4]) (fun (v4, v5) => ⟨[(0, .int .i64 v4), (1, .int .i64 v5)], []⟩) (fun x e σ' => match x with | v6 => e = .exit 0 ∧ σ' = ⟨[(0, .int .i64 v6)], []⟩) hk8 rfl rfl ?_ ?_
      · intro s x hs
        clear h
        have h := hs
        clear hs
        obtain ⟨v4, v5⟩ := s
        refine Tri.run 1 [] [.keep [0, 1, 15] []] (K' := [.code [(3, 0), (0, 0), (0, 0), (0, 0)] 1, .code [(3, 0), (0, 0), (0, 0)] 1]) (σ' := ⟨[(0, .int .i64 v4), (1, .int .i64 v5), (15, .bool (decide (v5 > (0 : Int))))], []⟩) rfl trivial rfl ?_
        rcases bif_some h with ⟨hd6, h⟩ | ⟨hd6, h⟩
        · obtain ⟨hg7, h⟩ := grd_some h
          refine Tri.run 3 [.g true] [.keep [0, 5] []] (K' := [.code [(3, 0), (0, 0), (0, 0), (1, 0)] 2, .blk 1]) (σ' := ⟨[(0, .int .i64 v5), (5, .int .i64 (v4.tmod v5))], []⟩) rfl ⟨hg7, hd6, trivial⟩ rfl ?_
          refine Tri.run 1 [] [.keep [0, 1] []] (K' := []) (σ' := ⟨[(0, .int .i64 v5), (1, .int .i64 (v4.tmod v5))], []⟩) rfl trivial rfl ?_
          have h := Option.some.inj h
          subst h
          exact Tri.nil ⟨rfl, rfl⟩
        · refine Tri.run 1 [.g false] [.keep [0] []] (K' := [.code [(3, 0), (0, 0), (0, 0), (0, 0), (1, 1)] 0, .code [(3, 0), (0, 0), (0, 0)] 1]) (σ' := ⟨[(0, .int .i64 v4)], []⟩) rfl ⟨hd6, trivial⟩ rfl ?_
          have h := Option.some.inj h
          subst h
          exact Tri.out 0 rfl ⟨nofun, rfl, rfl⟩
      · intro e σ' hne hq
        obtain ⟨rfl, rfl⟩ := hq
        refine TriX.exit (K' := [.code [] 4]) rfl ?_
        refine Tri.run 1 [] [.keep [4] []] (K' := [.code [] 5]) (σ' := ⟨[(4, .int .i64 v6)], []⟩) rfl trivial rfl ?_
        have h := Option.some.inj h
        subst h
        exact Tri.ret rfl ⟨.inl rfl, rfl, rfl⟩
  · refine Tri.run 2 [.g false] [.keep [0, 1, 11] []] (K' := [.code [(2, 0)] 1, .code [] 3]) (σ' := ⟨[(0, .int .i64 a0), (1, .int .i64 a1), (11, .bool (decide (a1 < (0 : Int))))], []⟩) rfl ⟨hd1, trivial⟩ rfl ?_
    rcases bif_some h with ⟨hd9, h⟩ | ⟨hd9, h⟩
    · refine Tri.run 2 [.g true] [.keep [0, 1] []] (K' := [.code [(3, 0), (0, 0)] 0, .blk 0, .code [] 4]) (σ' := ⟨[(0, .int .i64 a0), (1, .int .i64 (IntKind.i64.wrap (0 - a1)))], []⟩) rfl ⟨hd9, trivial⟩ rfl ?_
      obtain ⟨v9, hk12, h⟩ := bind_some h
      refine Tri.loop (K1 := [.code [(3, 0), (0, 0), (0, 0)] 0]) (K2 := [.blk 0, .code [] 4]) (fun (v7, v8) => ⟨[(0, .int .i64 v7), (1, .int .i64 v8)], []⟩) (fun x e σ' => match x with | v9 => e = .exit 0 ∧ σ' = ⟨[(0, .int .i64 v9)], []⟩) hk12 rfl rfl ?_ ?_
      · intro s x hs
        clear h
        have h := hs
        clear hs
        obtain ⟨v7, v8⟩ := s
        refine Tri.run 1 [] [.keep [0, 1, 15] []] (K' := [.code [(3, 0), (0, 0), (0, 0), (0, 0)] 1, .code [(3, 0), (0, 0), (0, 0)] 1]) (σ' := ⟨[(0, .int .i64 v7), (1, .int .i64 v8), (15, .bool (decide (v8 > (0 : Int))))], []⟩) rfl trivial rfl ?_
        rcases bif_some h with ⟨hd10, h⟩ | ⟨hd10, h⟩
        · obtain ⟨hg11, h⟩ := grd_some h
          refine Tri.run 3 [.g true] [.keep [0, 5] []] (K' := [.code [(3, 0), (0, 0), (0, 0), (1, 0)] 2, .blk 1]) (σ' := ⟨[(0, .int .i64 v8), (5, .int .i64 (v7.tmod v8))], []⟩) rfl ⟨hg11, hd10, trivial⟩ rfl ?_
          refine Tri.run 1 [] [.keep [0, 1] []] (K' := []) (σ' := ⟨[(0, .int .i64 v8), (1, .int .i64 (v7.tmod v8))], []⟩) rfl trivial rfl ?_
          have h := Option.some.inj h
          subst h
          exact Tri.nil ⟨rfl, rfl⟩
        · refine Tri.run 1 [.g false] [.keep [0] []] (K' := [.code [(3, 0), (0, 0), (0, 0), (0, 0), (1, 1)] 0, .code [(3, 0), (0, 0), (0, 0)] 1]) (σ' := ⟨[(0, .int .i64 v7)], []⟩) rfl ⟨hd10, trivial⟩ rfl ?_
          have h := Option.some.inj h
          subst h
          exact Tri.out 0 rfl ⟨nofun, rfl, rfl⟩
      · intro e σ' hne hq
        obtain ⟨rfl, rfl⟩ := hq
        refine TriX.exit (K' := [.code [] 4]) rfl ?_
        refine Tri.run 1 [] [.keep [4] []] (K' := [.code [] 5]) (σ' := ⟨[(4, .int .i64 v9)], []⟩) rfl trivial rfl ?_
        have h := Option.some.inj h
        subst h
        exact Tri.ret rfl ⟨.inl rfl, rfl, rfl⟩
    · refine Tri.run 1 [.g false] [.keep [0, 1] []] (K' := [.code [(3, 0), (0, 0)] 0, .blk 0, .code [] 4]) (σ' := ⟨[(0, .int .i64 a0), (1, .int .i64 a1)], []⟩) rfl ⟨hd9, trivial⟩ rfl ?_
      obtain ⟨v12, hk15, h⟩ := bind_some h
      refine Tri.loop (K1 := [.code [(3, 0), (0, 0), (0, 0)] 0]) (K2 := [.blk 0, .code [] 4]) (fun (v10, v11) => ⟨[(0, .int .i64 v10), (1, .int .i64 v11)], []⟩) (fun x e σ' => match x with | v12 => e = .exit 0 ∧ σ' = ⟨[(0, .int .i64 v12)], []⟩) hk15 rfl rfl ?_ ?_
      · intro s x hs
        clear h
        have h := hs
        clear hs
        obtain ⟨v10, v11⟩ := s
        refine Tri.run 1 [] [.keep [0, 1, 15] []] (K' := [.code [(3, 0), (0, 0), (0, 0), (0, 0)] 1, .code [(3, 0), (0, 0), (0, 0)] 1]) (σ' := ⟨[(0, .int .i64 v10), (1, .int .i64 v11), (15, .bool (decide (v11 > (0 : Int))))], []⟩) rfl trivial rfl ?_
        rcases bif_some h with ⟨hd13, h⟩ | ⟨hd13, h⟩
        · obtain ⟨hg14, h⟩ := grd_some h
          refine Tri.run 3 [.g true] [.keep [0, 5] []] (K' := [.code [(3, 0), (0, 0), (0, 0), (1, 0)] 2, .blk 1]) (σ' := ⟨[(0, .int .i64 v11), (5, .int .i64 (v10.tmod v11))], []⟩) rfl ⟨hg14, hd13, trivial⟩ rfl ?_
          refine Tri.run 1 [] [.keep [0, 1] []] (K' := []) (σ' := ⟨[(0, .int .i64 v11), (1, .int .i64 (v10.tmod v11))], []⟩) rfl trivial rfl ?_
          have h := Option.some.inj h
          subst h
          exact Tri.nil ⟨rfl, rfl⟩
        · refine Tri.run 1 [.g false] [.keep [0] []] (K' := [.code [(3, 0), (0, 0), (0, 0), (0, 0), (1, 1)] 0, .code [(3, 0), (0, 0), (0, 0)] 1]) (σ' := ⟨[(0, .int .i64 v10)], []⟩) rfl ⟨hd13, trivial⟩ rfl ?_
          have h := Option.some.inj h
          subst h
          exact Tri.out 0 rfl ⟨nofun, rfl, rfl⟩
      · intro e σ' hne hq
        obtain ⟨rfl, rfl⟩ := hq
        refine TriX.exit (K' := [.code [] 4]) rfl ?_
        refine Tri.run 1 [] [.keep [4] []] (K' := [.code [] 5]) (σ' := ⟨[(4, .int .i64 v12)], []⟩) rfl trivial rfl ?_
        have h := Option.some.inj h
        subst h
        exact Tri.ret rfl ⟨.inl rfl, rfl, rfl⟩
/-! spec.IsValidRat -/
noncomputable def E105_spec_IsValidRat : Env := ⟨Try.prog, tys, (Try.f105.body).getD .skip, 19, tysOk, mixedOk⟩
abbrev q_spec_IsValidRat (r : Bool) (σ' : ASt) : Prop := resAV E105_spec_IsValidRat.T σ' Try.f105.results.toList = some (.bool r) ∧ keepO σ'.ob (namesO []) = []
noncomputable def m_spec_IsValidRat (a0 : Int) (a1 : Int) : Option Bool :=
(m_spec_l1In a1 (1 : Int) (1000000000 : Int)).bind fun v1 =>
bif v1 then
((m_spec_l1In a0 (-1000000000 : Int) (1000000000 : Int)).bind fun v2 =>
bif v2 then
((m_spec_l3Gcd a0 a1).bind fun v3 =>
some (v3 == (1 : Int)))
else
(some false))
else
(some false)
theorem w_spec_IsValidRat (a0 : Int) (a1 : Int) (r : Bool) (h : m_spec_IsValidRat a0 a1 = some r) : AM.Spec Try.prog 105 [.agg [.int .i64 a0, .int .i64 a1]] [] (.bool r) [] := by
  refine spec_of (E := E105_spec_IsValidRat) Try.func105 rfl rfl rfl rfl ?_
  refine Tri.run 1 [] [.keep [1] [1]] (K' := [.code [(1, 0)] 0, .code [] 2]) (σ' := ⟨[(1, .ptr 1 0)], [(1, .box [.int .i64 a0, .int .i64 a1])]⟩) rfl trivial rfl ?_
  obtain ⟨v1, hk1, h⟩ := bind_some h
  rcases bif_some h with ⟨hd2, h⟩ | ⟨hd2, h⟩
  · obtain ⟨v2, hk3, h⟩ := bind_some h
    rcases bif_some h with ⟨hd4, h⟩ | ⟨hd4, h⟩
    · obtain ⟨v3, hk5, h⟩ := bind_some h
      refine Tri.run 1 [.r ⟨[], .bool v1, []⟩, .g true, .r ⟨[], .bool v2, []⟩, .g true, .r ⟨[], .int .i64 v3, []⟩] [.keep [2] []] (K' := [.code [] 2]) (σ' := ⟨[(2, .bool (v3 == (1 : Int)))], []⟩) rfl ⟨(fun _ => (w_spec_l3Gcd a0 a1 v3 hk5)), hd4, (fun _ => (w_spec_l1In a0 (-1000000000 : Int) (1000000000 : Int) v2 hk3)), hd2, (fun _ => (w_spec_l1In a1 (1 : Int) (1000000000 : Int) v1 hk1)), trivial⟩ rfl ?_
      have h := Option.some.inj h
      subst h
      exact Tri.ret rfl ⟨.inl rfl, rfl, rfl⟩
    · refine Tri.run 1 [.r ⟨[], .bool v1, []⟩, .g true, .r ⟨[], .bool v2, []⟩, .g false] [.keep [2] []] (K' := [.code [] 2]) (σ' := ⟨[(2, .bool false)], []⟩) rfl ⟨hd4, (fun _ => (w_spec_l1In a0 (-1000000000 : Int) (1000000000 : Int) v2 hk3)), hd2, (fun _ => (w_spec_l1In a1 (1 : Int) (1000000000 : Int) v1 hk1)), trivial⟩ rfl ?_
      have h := Option.some.inj h
      subst h
      exact Tri.ret rfl ⟨.inl rfl, rfl, rfl⟩
  · refine Tri.run 1 [.r ⟨[], .bool v1, []⟩, .g false, .g false] [.keep [2] []] (K' := [.code [] 2]) (σ' := ⟨[(2, .bool false)], []⟩) rfl ⟨rfl, hd2, (fun _ => (w_spec_l1In a1 (1 : Int) (1000000000 : Int) v1 hk1)), trivial⟩ rfl ?_
    have h := Option.some.inj h
    subst h
    exact Tri.ret rfl ⟨.inl rfl, rfl, rfl⟩
/-! spec.RatOf -/
noncomputable def E89_spec_RatOf : Env := ⟨Try.prog, tys, (Try.f89.body).getD .skip, 42, tysOk, mixedOk⟩
abbrev q_spec_RatOf (r : Int × Int × Bool) (σ' : ASt) : Prop := resAV E89_spec_RatOf.T σ' Try.f89.results.toList = some (.tuple [.agg [.int .i64 r.1, .int .i64 r.2.1], .bool r.2.2]) ∧ keepO σ'.ob (namesO []) = []
noncomputable def m_spec_RatOf (a0 : Int) (a1 : Int) : Option (Int × Int × Bool) :=
bif a1 == (0 : Int) then
(some (0, 0, false))
else
((m_spec_l1In a0 (-1000000000000000000 : Int) (1000000000000000000 : Int)).bind fun v1 =>
bif !v1 then
(some (0, 0, false))
else
((m_spec_l1In a1 (-1000000000000000000 : Int) (1000000000000000000 : Int)).bind fun v2 =>
bif !v2 then
(some (0, 0, false))
else
(bif decide (a1 < (0 : Int)) then
((m_spec_l3Gcd (IntKind.i64.wrap (0 - a0)) (IntKind.i64.wrap (0 - a1))).bind fun v3 =>
grd (v3 ≠ 0) <|
grd (v3 ≠ 0) <|
(m_spec_IsValidRat (IntKind.i64.wrap ((IntKind.i64.wrap (0 - a0)).tdiv v3)) (IntKind.i64.wrap ((IntKind.i64.wrap (0 - a1)).tdiv v3))).bind fun v4 =>
bif !v4 then
(some (0, 0, false))
else
(some (IntKind.i64.wrap ((IntKind.i64.wrap (0 - a0)).tdiv v3), IntKind.i64.wrap ((IntKind.i64.wrap (0 - a1)).tdiv v3), true)))
else
((m_spec_l3Gcd a0 a1).bind fun v5 =>
grd (v5 ≠ 0) <|
grd (v5 ≠ 0) <|
(m_spec_IsValidRat (IntKind.i64.wrap (a0.tdiv v5)) (IntKind.i64.wrap (a1.tdiv v5))).bind fun v6 =>
bif !v6 then
(some (0, 0, false))
else
(some (IntKind.i64.wrap (a0.tdiv v5), IntKind.i64.wrap (a1.tdiv v5), true))))))
theorem w_spec_RatOf (a0 : Int) (a1 : Int) (r : Int × Int × Bool) (h : m_spec_RatOf a0 a1 = some r) : AM.Spec Try.prog 89 [.int .i64 a0, .int .i64 a1] [] (.tuple [.agg [.int .i64 r.1, .int .i64 r.2.1], .bool r.2.2]) [] := by
  refine spec_of (E := E89_spec_RatOf) Try.func89 rfl rfl rfl rfl ?_
  refine Tri.run 1 [] [.keep [0, 1, 4] [4]] (K' := [.code [(1, 0), (0, 0)] 0, .code [(1, 0)] 1, .code [] 2]) (σ' := ⟨[(0, .int .i64 a0), (1, .int .i64 a1), (4, .ptr 4 0)], [(4, .box [.int .i64 0, .int .i64 0])]⟩) rfl trivial rfl ?_
  rcases bif_some h with ⟨hd1, h⟩ | ⟨hd1, h⟩
  · refine Tri.run 1 [.g true, .g true] [.keep [0, 1, 4, 19] [4]] (K' := [.code [(1, 0)] 1, .code [] 2]) (σ' := ⟨[(0, .int .i64 a0), (1, .int .i64 a1), (4, .ptr 4 0), (19, .bool true)], [(4, .box [.int .i64 0, .int .i64 0])]⟩) rfl ⟨rfl, hd1, trivial⟩ rfl ?_
    refine Tri.run 2 [.g true] [.keep [4, 5] [4]] (K' := [.code [(1, 0), (1, 0)] 1, .code [] 2]) (σ' := ⟨[(4, .ptr 4 0), (5, .bool false)], [(4, .box [.int .i64 0, .int .i64 0])]⟩) rfl ⟨rfl, trivial⟩ rfl ?_
    have h := Option.some.inj h
    subst h
    exact Tri.ret rfl ⟨.inl rfl, rfl, rfl⟩
  · obtain ⟨v1, hk2, h⟩ := bind_some h
    rcases bif_some h with ⟨hd3, h⟩ | ⟨hd3, h⟩
    · refine Tri.run 1 [.g false, .r ⟨[], .bool v1, []⟩, .g true] [.keep [0, 1, 4, 19] [4]] (K' := [.code [(1, 0)] 1, .code [] 2]) (σ' := ⟨[(0, .int .i64 a0), (1, .int .i64 a1), (4, .ptr 4 0), (19, .bool true)], [(4, .box [.int .i64 0, .int .i64 0])]⟩) rfl ⟨hd3, (fun _ => (w_spec_l1In a0 (-1000000000000000000 : Int) (1000000000000000000 : Int) v1 hk2)), hd1, trivial⟩ rfl ?_
      refine Tri.run 2 [.g true] [.keep [4, 5] [4]] (K' := [.code [(1, 0), (1, 0)] 1, .code [] 2]) (σ' := ⟨[(4, .ptr 4 0), (5, .bool false)], [(4, .box [.int .i64 0, .int .i64 0])]⟩) rfl ⟨rfl, trivial⟩ rfl ?_
      have h := Option.some.inj h
      subst h
      exact Tri.ret rfl ⟨.inl rfl, rfl, rfl⟩
    · obtain ⟨v2, hk4, h⟩ := bind_some h
      refine Tri.run 1 [.g false, .r ⟨[], .bool v1, []⟩, .g false, .r ⟨[], .bool v2, []⟩] [.keep [0, 1, 4, 19] [4]] (K' := [.code [(1, 0)] 1, .code [] 2]) (σ' := ⟨[(0, .int .i64 a0), (1, .int .i64 a1), (4, .ptr 4 0), (19, .bool (!v2))], [(4, .box [.int .i64 0, .int .i64 0])]⟩) rfl ⟨(fun _ => (w_spec_l1In a1 (-1000000000000000000 : Int) (1000000000000000000 : Int) v2 hk4)), hd3, (fun _ => (w_spec_l1In a0 (-1000000000000000000 : Int) (1000000000000000000 : Int) v1 hk2)), hd1, trivial⟩ rfl ?_
      rcases bif_some h with ⟨hd5, h⟩ | ⟨hd5, h⟩
      · refine Tri.run 2 [.g true] [.keep [4, 5] [4]] (K' := [.code [(1, 0), (1, 0)] 1, .code [] 2]) (σ' := ⟨[(4, .ptr 4 0), (5, .bool false)], [(4, .box [.int .i64 0, .int .i64 0])]⟩) rfl ⟨hd5, trivial⟩ rfl ?_
        have h := Option.some.inj h
        subst h
        exact Tri.ret rfl ⟨.inl rfl, rfl, rfl⟩
      · refine Tri.run 2 [.g false] [.keep [0, 1, 4, 22] [4]] (K' := [.code [(2, 0)] 1, .code [] 3]) (σ' := ⟨[(0, .int .i64 a0), (1, .int .i64 a1), (4, .ptr 4 0), (22, .bool (decide (a1 < (0 : Int))))], [(4, .box [.int .i64 0, .int .i64 0])]⟩) rfl ⟨hd5, trivial⟩ rfl ?_
        rcases bif_some h with ⟨hd6, h⟩ | ⟨hd6, h⟩
        · refine Tri.run 3 [.g true] [.keep [0, 1, 4] [4]] (K' := [.code [(3, 0)] 0, .code [] 4]) (σ' := ⟨[(0, .int .i64 (IntKind.i64.wrap (0 - a0))), (1, .int .i64 (IntKind.i64.wrap (0 - a1))), (4, .ptr 4 0)], [(4, .box [.int .i64 0, .int .i64 0])]⟩) rfl ⟨hd6, trivial⟩ rfl ?_
          obtain ⟨v3, hk7, h⟩ := bind_some h
          obtain ⟨hg8, h⟩ := grd_some h
          obtain ⟨hg9, h⟩ := grd_some h
          refine Tri.run 2 [.r ⟨[], .int .i64 v3, []⟩] [.keep [4, 7] [4, 7]] (K' := [.code [(5, 0), (0, 0)] 0, .code [(5, 0)] 1, .code [] 6]) (σ' := ⟨[(4, .ptr 4 0), (7, .ptr 7 0)], [(4, .box [.int .i64 0, .int .i64 0]), (7, .box [.int .i64 (IntKind.i64.wrap ((IntKind.i64.wrap (0 - a0)).tdiv v3)), .int .i64 (IntKind.i64.wrap ((IntKind.i64.wrap (0 - a1)).tdiv v3))])]⟩) rfl ⟨hg9, hg8, (fun _ => (w_spec_l3Gcd (IntKind.i64.wrap (0 - a0)) (IntKind.i64.wrap (0 - a1)) v3 hk7)), trivial⟩ rfl ?_
          obtain ⟨v4, hk10, h⟩ := bind_some h
          refine Tri.run 1 [.r ⟨[], .bool v4, []⟩] [.keep [4, 7, 39] [4, 7]] (K' := [.code [(5, 0)] 1, .code [] 6]) (σ' := ⟨[(4, .ptr 4 0), (7, .ptr 7 0), (39, .bool (!v4))], [(4, .box [.int .i64 0, .int .i64 0]), (7, .box [.int .i64 (IntKind.i64.wrap ((IntKind.i64.wrap (0 - a0)).tdiv v3)), .int .i64 (IntKind.i64.wrap ((IntKind.i64.wrap (0 - a1)).tdiv v3))])]⟩) rfl ⟨(fun _ => (w_spec_IsValidRat (IntKind.i64.wrap ((IntKind.i64.wrap (0 - a0)).tdiv v3)) (IntKind.i64.wrap ((IntKind.i64.wrap (0 - a1)).tdiv v3)) v4 hk10)), trivial⟩ rfl ?_
          rcases bif_some h with ⟨hd11, h⟩ | ⟨hd11, h⟩
          · refine Tri.run 2 [.g true] [.keep [4, 5] [4]] (K' := [.code [(5, 0), (1, 0)] 1, .code [] 6]) (σ' := ⟨[(4, .ptr 4 0), (5, .bool false)], [(4, .box [.int .i64 0, .int .i64 0])]⟩) rfl ⟨hd11, trivial⟩ rfl ?_
            have h := Option.some.inj h
            subst h
            exact Tri.ret rfl ⟨.inl rfl, rfl, rfl⟩
          · refine Tri.run 2 [.g false] [.keep [4, 5] [4]] (K' := [.code [] 7]) (σ' := ⟨[(4, .ptr 4 0), (5, .bool true)], [(4, .box [.int .i64 (IntKind.i64.wrap ((IntKind.i64.wrap (0 - a0)).tdiv v3)), .int .i64 (IntKind.i64.wrap ((IntKind.i64.wrap (0 - a1)).tdiv v3))])]⟩) rfl ⟨hd11, trivial⟩ rfl ?_
            have h := Option.some.inj h
            subst h
            exact Tri.ret rfl ⟨.inl rfl, rfl, rfl⟩
        · obtain ⟨v5, hk12, h⟩ := bind_some h
          obtain ⟨hg13, h⟩ := grd_some h
          obtain ⟨hg14, h⟩ := grd_some h
          refine Tri.run 3 [.g false, .r ⟨[], .int .i64 v5, []⟩] [.keep [4, 7] [4, 7]] (K' := [.code [(5, 0), (0, 0)] 0, .code [(5, 0)] 1, .code [] 6]) (σ' := ⟨[(4, .ptr 4 0), (7, .ptr 7 0)], [(4, .box [.int .i64 0, .int .i64 0]), (7, .box [.int .i64 (IntKind.i64.wrap (a0.tdiv v5)), .int .i64 (IntKind.i64.wrap (a1.tdiv v5))])]⟩) rfl ⟨hg14, hg13, (fun _ => (w_spec_l3Gcd a0 a1 v5 hk12)), hd6, trivial⟩ rfl ?_
          obtain ⟨v6, hk15, h⟩ := bind_some h
          refine Tri.run 1 [.r ⟨[], .bool v6, []⟩] [.keep [4, 7, 39] [4, 7]] (K' := [.code [(5, 0)] 1, .code [] 6]) (σ' := ⟨[(4, .ptr 4 0), (7, .ptr 7 0), (39, .bool (!v6))], [(4, .box [.int .i64 0, .int .i64 0]), (7, .box [.int .i64 (IntKind.i64.wrap (a0.tdiv v5)), .int .i64 (IntKind.i64.wrap (a1.tdiv v5))])]⟩) rfl ⟨(fun _ => (w_spec_IsValidRat (IntKind.i64.wrap (a0.tdiv v5)) (IntKind.i64.wrap (a1.tdiv v5)) v6 hk15)), trivial⟩ rfl ?_
          rcases bif_some h with ⟨hd16, h⟩ | ⟨hd16, h⟩
          · refine Tri.run 2 [.g true] [.keep [4, 5] [4]] (K' := [.code [(5, 0), (1, 0)] 1, .code [] 6]) (σ' := ⟨[(4, .ptr 4 0), (5, .bool false)], [(4, .box [.int .i64 0, .int .i64 0])]⟩) rfl ⟨hd16, trivial⟩ rfl ?_
            have h := Option.some.inj h
            subst h
            exact Tri.ret rfl ⟨.inl rfl, rfl, rfl⟩
          · refine Tri.run 2 [.g false] [.keep [4, 5] [4]] (K' := [.code [] 7]) (σ' := ⟨[(4, .ptr 4 0), (5, .bool true)], [(4, .box [.int .i64 (IntKind.i64.wrap (a0.tdiv v5)), .int .i64 (IntKind.i64.wrap (a1.tdiv v5))])]⟩) rfl ⟨hd16, trivial⟩ rfl ?_
            have h := Option.some.inj h
            subst h
            exact Tri.ret rfl ⟨.inl rfl, rfl, rfl⟩
/-! spec.ShapleyValue -/
noncomputable def E43_spec_ShapleyValue : Env := ⟨Try.prog, tys, (Try.f43.body).getD .skip, 73, tysOk, mixedOk⟩
abbrev q_spec_ShapleyValue (r : Bool × (List Q)) (σ' : ASt) : Prop := resAV E43_spec_ShapleyValue.T σ' Try.f43.results.toList = some (.tuple [.sl 1000 0, .bool r.1]) ∧ keepO σ'.ob (namesO [(1000, .arr 54 0 0 (.rats r.2))]) = [(1000, .arr 54 0 0 (.rats r.2))]
noncomputable def l_spec_ShapleyValue_1 (a0 : Int) (a1 : List Int) (v2 : Int) : (Int × Int) → Option ((Int × Int) ⊕ Int)
  | (v4, v5) => (
bif decide (v5 < (a1.length : Int)) then
((m_spec_HasPlayer v5 v2).bind fun v6 =>
bif v6 then
(some (.inl (v4, IntKind.i64.wrap (v5 + (1 : Int)))))
else
((m_spec_SizeOf v5).bind fun v7 =>
(m_spec_l14Factorial v7).bind fun v8 =>
(m_spec_l14Factorial (IntKind.i64.wrap ((IntKind.i64.wrap (a0 - v7)) - (1 : Int)))).bind fun v9 =>
(m_spec_l2Bit v2).bind fun v10 =>
grd ((0 : Int) ≤ IntKind.i64.wrap (v5 + v10) ∧ IntKind.i64.wrap (v5 + v10) < (a1.length : Int)) <|
grd ((0 : Int) ≤ v5 ∧ v5 < (a1.length : Int)) <|
some (.inl (IntKind.i64.wrap (v4 + (IntKind.i64.wrap ((IntKind.i64.wrap (v8 * v9)) * (IntKind.i64.wrap ((a1.getD ((IntKind.i64.wrap (v5 + v10)).toNat) 0) - (a1.getD v5.toNat 0)))))), IntKind.i64.wrap (v5 + (1 : Int))))))
else
(some (.inr v4)))
noncomputable def l_spec_ShapleyValue_0 (a0 : Int) (a1 : List Int) : (Int × (List Q)) → Option ((Int × (List Q)) ⊕ ((List Q)))
  | (v2, v3) => (
bif decide (v2 < a0) then
((iter (l_spec_ShapleyValue_1 a0 a1 v2) ((0 : Int), (0 : Int))).bind fun
| v11 => (
(m_spec_l14Factorial a0).bind fun v12 =>
(m_spec_RatOf v11 v12).bind fun (v13, v14, _) =>
grd (v3.length + ([⟨v13, v14⟩] : List Q).length ≤ room) <|
some (.inl (IntKind.i64.wrap (v2 + (1 : Int)), v3 ++ [⟨v13, v14⟩]))))
else
(some (.inr v3)))
noncomputable def m_spec_ShapleyValue (a0 : Int) (a1 : List Int) : Option (Bool × (List Q)) :=
(m_spec_IsValidGame a0 a1).bind fun v1 =>
bif !v1 then
(some (false, []))
else
((iter (l_spec_ShapleyValue_0 a0 a1) ((0 : Int), [])).bind fun
| v16 => (
some (true, v16)))
theorem w_spec_ShapleyValue (a0 : Int) (a1 : List Int) (r : Bool × (List Q)) (h : m_spec_ShapleyValue a0 a1 = some r) : AM.Spec Try.prog 43 [.agg [.int .i64 a0, .list (.ints a1)]] [] (.tuple [.sl 1000 0, .bool r.1]) [(1000, .arr 54 0 0 (.rats r.2))] := by
  refine spec_of (E := E43_spec_ShapleyValue) Try.func43 rfl rfl rfl rfl ?_
  refine Tri.run 2 [] [.keep [1, 4] [1, 12]] (K' := [.code [(2, 0), (0, 0)] 0, .code [(2, 0)] 1, .code [] 3]) (σ' := ⟨[(1, .ptr 1 0), (4, .sl 12 0)], [(1, .box [.int .i64 a0, .list (.ints a1)]), (12, .arr 54 0 0 (.rats []))]⟩) rfl trivial rfl ?_
  obtain ⟨v1, hk1, h⟩ := bind_some h
  refine Tri.run 1 [.r ⟨[], .bool v1, []⟩] [.keep [1, 4, 15] [1, 12]] (K' := [.code [(2, 0)] 1, .code [] 3]) (σ' := ⟨[(1, .ptr 1 0), (4, .sl 12 0), (15, .bool (!v1))], [(1, .box [.int .i64 a0, .list (.ints a1)]), (12, .arr 54 0 0 (.rats []))]⟩) rfl ⟨(fun _ => (w_spec_IsValidGame a0 a1 v1 hk1)), trivial⟩ rfl ?_
  rcases bif_some h with ⟨hd2, h⟩ | ⟨hd2, h⟩
  · refine Tri.run 2 [.g true] [.swap 12 1000, .keep [2, 3] [1000]] (K' := [.code [(2, 0), (1, 0)] 1, .code [] 3]) (σ' := ⟨[(2, .sl 1000 0), (3, .bool false)], [(1000, .arr 54 0 0 (.rats []))]⟩) rfl ⟨hd2, trivial⟩ rfl ?_
    have h := Option.some.inj h
    subst h
    exact Tri.ret rfl ⟨.inl rfl, rfl, rfl⟩
  · refine Tri.run 3 [.g false] [.keep [1, 4, 5, 6] [1, 12]] (K' := [.code [(4, 0), (1, 0)] 0, .blk 0, .code [] 5]) (σ' := ⟨[(1, .ptr 1 0), (4, .sl 12 0), (5, .int .i64 a0), (6, .int .i64 (0 : Int))], [(1, .box [.int .i64 a0, .list (.ints a1)]), (12, .arr 54 0 0 (.rats []))]⟩) rfl ⟨hd2, trivial⟩ rfl ?_
    obtain ⟨v16, hk17, h⟩ := bind_some h
    refine Tri.loop (K1 := [.code [(4, 0), (1, 0), (0, 0)] 0]) (K2 := [.blk 0, .code [] 5]) (fun (v2, v3) => ⟨[(1, .ptr 1 0), (4, .sl 12 0), (5, .int .i64 a0), (6, .int .i64 v2)], [(1, .box [.int .i64 a0, .list (.ints a1)]), (12, .arr 54 0 0 (.rats v3))]⟩) (fun x e σ' => match x with | v16 => e = .exit 0 ∧ σ' = ⟨[(4, .sl 12 0)], [(12, .arr 54 0 0 (.rats v16))]⟩) hk17 rfl rfl ?_ ?_
    · intro s x hs
      clear h
      have h := hs
      clear hs
      obtain ⟨v2, v3⟩ := s
      refine Tri.run 1 [] [.keep [1, 4, 5, 6, 21] [1, 12]] (K' := [.code [(4, 0), (1, 0), (0, 0), (0, 0)] 1, .code [(4, 0), (1, 0), (0, 0)] 1]) (σ' := ⟨[(1, .ptr 1 0), (4, .sl 12 0), (5, .int .i64 a0), (6, .int .i64 v2), (21, .bool (decide (v2 < a0)))], [(1, .box [.int .i64 a0, .list (.ints a1)]), (12, .arr 54 0 0 (.rats v3))]⟩) rfl trivial rfl ?_
      rcases bif_some h with ⟨hd3, h⟩ | ⟨hd3, h⟩
      · refine Tri.run 3 [.g true] [.keep [1, 4, 5, 6, 7, 8] [1, 12]] (K' := [.code [(4, 0), (1, 0), (0, 0), (1, 0), (0, 0), (1, 0), (1, 0)] 0, .blk 2, .code [(4, 0), (1, 0), (0, 0), (1, 0), (0, 0)] 2, .blk 1, .code [(4, 0), (1, 0), (0, 0)] 2]) (σ' := ⟨[(1, .ptr 1 0), (4, .sl 12 0), (5, .int .i64 a0), (6, .int .i64 v2), (7, .int .i64 (0 : Int)), (8, .int .i64 (0 : Int))], [(1, .box [.int .i64 a0, .list (.ints a1)]), (12, .arr 54 0 0 (.rats v3))]⟩) rfl ⟨hd3, trivial⟩ rfl ?_
        obtain ⟨v11, hk13, h⟩ := bind_some h
        refine Tri.loop (K1 := [.code [(4, 0), (1, 0), (0, 0), (1, 0), (0, 0), (1, 0), (1, 0), (0, 0)] 0]) (K2 := [.blk 2, .code [(4, 0), (1, 0), (0, 0), (1, 0), (0, 0)] 2, .blk 1, .code [(4, 0), (1, 0), (0, 0)] 2]) (fun (v4, v5) => ⟨[(1, .ptr 1 0), (4, .sl 12 0), (5, .int .i64 a0), (6, .int .i64 v2), (7, .int .i64 v4), (8, .int .i64 v5)], [(1, .box [.int .i64 a0, .list (.ints a1)]), (12, .arr 54 0 0 (.rats v3))]⟩) (fun x e σ' => match x with | v11 => e = .exit 2 ∧ σ' = ⟨[(1, .ptr 1 0), (4, .sl 12 0), (5, .int .i64 a0), (6, .int .i64 v2), (7, .int .i64 v11)], [(1, .box [.int .i64 a0, .list (.ints a1)]), (12, .arr 54 0 0 (.rats v3))]⟩) hk13 rfl rfl ?_ ?_
        · intro s x hs
          clear h
          have h := hs
          clear hs
          obtain ⟨v4, v5⟩ := s
          refine Tri.run 1 [] [.keep [1, 4, 5, 6, 7, 8, 28] [1, 12]] (K' := [.code [(4, 0), (1, 0), (0, 0), (1, 0), (0, 0), (1, 0), (1, 0), (0, 0), (0, 0)] 1, .code [(4, 0), (1, 0), (0, 0), (1, 0), (0, 0), (1, 0), (1, 0), (0, 0)] 1]) (σ' := ⟨[(1, .ptr 1 0), (4, .sl 12 0), (5, .int .i64 a0), (6, .int .i64 v2), (7, .int .i64 v4), (8, .int .i64 v5), (28, .bool (decide (v5 < (a1.length : Int))))], [(1, .box [.int .i64 a0, .list (.ints a1)]), (12, .arr 54 0 0 (.rats v3))]⟩) rfl trivial rfl ?_
          rcases bif_some h with ⟨hd4, h⟩ | ⟨hd4, h⟩
          · obtain ⟨v6, hk5, h⟩ := bind_some h
            refine Tri.run 2 [.g true, .r ⟨[], .bool v6, []⟩] [.keep [1, 4, 5, 6, 7, 8, 33] [1, 12]] (K' := [.code [(4, 0), (1, 0), (0, 0), (1, 0), (0, 0), (1, 0), (1, 0), (0, 0), (1, 0), (0, 0), (0, 0)] 1, .code [(4, 0), (1, 0), (0, 0), (1, 0), (0, 0), (1, 0), (1, 0), (0, 0), (1, 0), (0, 0)] 1, .blk 3, .code [(4, 0), (1, 0), (0, 0), (1, 0), (0, 0), (1, 0), (1, 0), (0, 0)] 2]) (σ' := ⟨[(1, .ptr 1 0), (4, .sl 12 0), (5, .int .i64 a0), (6, .int .i64 v2), (7, .int .i64 v4), (8, .int .i64 v5), (33, .bool v6)], [(1, .box [.int .i64 a0, .list (.ints a1)]), (12, .arr 54 0 0 (.rats v3))]⟩) rfl ⟨(fun _ => (w_spec_HasPlayer v5 v2 v6 hk5)), hd4, trivial⟩ rfl ?_
            rcases bif_some h with ⟨hd6, h⟩ | ⟨hd6, h⟩
            · refine Tri.run 2 [.g true] [.keep [1, 4, 5, 6, 7, 8] [1, 12]] (K' := []) (σ' := ⟨[(1, .ptr 1 0), (4, .sl 12 0), (5, .int .i64 a0), (6, .int .i64 v2), (7, .int .i64 v4), (8, .int .i64 (IntKind.i64.wrap (v5 + (1 : Int))))], [(1, .box [.int .i64 a0, .list (.ints a1)]), (12, .arr 54 0 0 (.rats v3))]⟩) rfl ⟨hd6, trivial⟩ rfl ?_
              have h := Option.some.inj h
              subst h
              exact Tri.nil ⟨rfl, rfl⟩
            · obtain ⟨v7, hk7, h⟩ := bind_some h
              refine Tri.run 2 [.g false, .r ⟨[], .int .i64 v7, []⟩] [.keep [1, 4, 5, 6, 7, 8, 9] [1, 12]] (K' := [.code [(4, 0), (1, 0), (0, 0), (1, 0), (0, 0), (1, 0), (1, 0), (0, 0), (1, 0), (0, 0)] 2, .blk 3, .code [(4, 0), (1, 0), (0, 0), (1, 0), (0, 0), (1, 0), (1, 0), (0, 0)] 2]) (σ' := ⟨[(1, .ptr 1 0), (4, .sl 12 0), (5, .int .i64 a0), (6, .int .i64 v2), (7, .int .i64 v4), (8, .int .i64 v5), (9, .int .i64 v7)], [(1, .box [.int .i64 a0, .list (.ints a1)]), (12, .arr 54 0 0 (.rats v3))]⟩) rfl ⟨(fun _ => (w_spec_SizeOf v5 v7 hk7)), hd6, trivial⟩ rfl ?_
              obtain ⟨v8, hk8, h⟩ := bind_some h
              obtain ⟨v9, hk9, h⟩ := bind_some h
              obtain ⟨v10, hk10, h⟩ := bind_some h
              obtain ⟨hg11, h⟩ := grd_some h
              obtain ⟨hg12, h⟩ := grd_some h
              refine Tri.run 2 [.r ⟨[], .int .i64 v8, []⟩, .r ⟨[], .int .i64 v9, []⟩, .r ⟨[], .int .i64 v10, []⟩] [.keep [1, 4, 5, 6, 7, 8] [1, 12]] (K' := []) (σ' := ⟨[(1, .ptr 1 0), (4, .sl 12 0), (5, .int .i64 a0), (6, .int .i64 v2), (7, .int .i64 (IntKind.i64.wrap (v4 + (IntKind.i64.wrap ((IntKind.i64.wrap (v8 * v9)) * (IntKind.i64.wrap ((a1.getD ((IntKind.i64.wrap (v5 + v10)).toNat) 0) - (a1.getD v5.toNat 0)))))))), (8, .int .i64 (IntKind.i64.wrap (v5 + (1 : Int))))], [(1, .box [.int .i64 a0, .list (.ints a1)]), (12, .arr 54 0 0 (.rats v3))]⟩) rfl ⟨hg12, hg11, (fun _ => (w_spec_l2Bit v2 v10 hk10)), (fun _ => (w_spec_l14Factorial (IntKind.i64.wrap ((IntKind.i64.wrap (a0 - v7)) - (1 : Int))) v9 hk9)), (fun _ => (w_spec_l14Factorial v7 v8 hk8)), trivial⟩ rfl ?_
              have h := Option.some.inj h
              subst h
              exact Tri.nil ⟨rfl, rfl⟩
          · refine Tri.run 1 [.g false] [.keep [1, 4, 5, 6, 7] [1, 12]] (K' := [.code [(4, 0), (1, 0), (0, 0), (1, 0), (0, 0), (1, 0), (1, 0), (0, 0), (0, 0), (1, 1)] 0, .code [(4, 0), (1, 0), (0, 0), (1, 0), (0, 0), (1, 0), (1, 0), (0, 0)] 1]) (σ' := ⟨[(1, .ptr 1 0), (4, .sl 12 0), (5, .int .i64 a0), (6, .int .i64 v2), (7, .int .i64 v4)], [(1, .box [.int .i64 a0, .list (.ints a1)]), (12, .arr 54 0 0 (.rats v3))]⟩) rfl ⟨hd4, trivial⟩ rfl ?_
            have h := Option.some.inj h
            subst h
            exact Tri.out 2 rfl ⟨nofun, rfl, rfl⟩
        · intro e σ' hne hq
          obtain ⟨rfl, rfl⟩ := hq
          refine TriX.exit (K' := [.code [(4, 0), (1, 0), (0, 0), (1, 0), (0, 0)] 2, .blk 1, .code [(4, 0), (1, 0), (0, 0)] 2]) rfl ?_
          obtain ⟨v12, hk14, h⟩ := bind_some h
          obtain ⟨⟨v13, v14, v15⟩, hk15, h⟩ := bind_some h
          obtain ⟨hg16, h⟩ := grd_some h
          refine Tri.run 3 [.r ⟨[], .int .i64 v12, []⟩, .r ⟨[], .tuple [.agg [.int .i64 v13, .int .i64 v14], .bool v15], []⟩] [.rever 12, .keep [1, 4, 5, 6] [1, 12]] (K' := []) (σ' := ⟨[(1, .ptr 1 0), (4, .sl 12 0), (5, .int .i64 a0), (6, .int .i64 (IntKind.i64.wrap (v2 + (1 : Int))))], [(1, .box [.int .i64 a0, .list (.ints a1)]), (12, .arr 54 0 0 (.rats (v3 ++ [⟨v13, v14⟩])))]⟩) rfl ⟨hg16, (fun _ => (w_spec_RatOf v11 v12 (v13, v14, v15) hk15)), (fun _ => (w_spec_l14Factorial a0 v12 hk14)), trivial⟩ rfl ?_
          have h := Option.some.inj h
          subst h
          exact Tri.nil ⟨rfl, rfl⟩
      · refine Tri.run 1 [.g false] [.keep [4] [12]] (K' := [.code [(4, 0), (1, 0), (0, 0), (0, 0), (1, 1)] 0, .code [(4, 0), (1, 0), (0, 0)] 1]) (σ' := ⟨[(4, .sl 12 0)], [(12, .arr 54 0 0 (.rats v3))]⟩) rfl ⟨hd3, trivial⟩ rfl ?_
        have h := Option.some.inj h
        subst h
        exact Tri.out 0 rfl ⟨nofun, rfl, rfl⟩
    · intro e σ' hne hq
      obtain ⟨rfl, rfl⟩ := hq
      refine TriX.exit (K' := [.code [] 5]) rfl ?_
      refine Tri.run 1 [] [.swap 12 1000, .keep [2, 3] [1000]] (K' := [.code [] 6]) (σ' := ⟨[(2, .sl 1000 0), (3, .bool true)], [(1000, .arr 54 0 0 (.rats v16))]⟩) rfl trivial rfl ?_
      have h := Option.some.inj h
      subst h
      exact Tri.ret rfl ⟨.inl rfl, rfl, rfl⟩
/-! spec.l1Once -/
noncomputable def E63_spec_l1Once : Env := ⟨Try.prog, tys, (Try.f63.body).getD .skip, 9, tysOk, mixedOk⟩
abbrev q_spec_l1Once_io1 (x0 : Value) (a0 : List UInt8) (r : Bool × Int × Int) (σ' : ASt) : Prop := resAV E63_spec_l1Once.T σ' Try.f63.results.toList = some (.bool r.1) ∧ keepO σ'.ob (namesO [(2120, .box [.lst x0 (.bytes a0), .int .i64 r.2.1, .int .i64 r.2.2])]) = [(2120, .box [.lst x0 (.bytes a0), .int .i64 r.2.1, .int .i64 r.2.2])]
noncomputable def m_spec_l1Once_io1 (a0 : List UInt8) (a1 : Int) (a2 : Int) (a3 : Int) : Option (Bool × Int × Int) :=
(m_spec_l1Below_io1 a0 a1 a2 a3).bind fun (v1, v2, v3) =>
some (v1 == (0 : Int), v2, v3)
theorem w_spec_l1Once_io1 (x0 : Value) (a0 : List UInt8) (a1 : Int) (a2 : Int) (a3 : Int) (r : Bool × Int × Int) (h : m_spec_l1Once_io1 a0 a1 a2 a3 = some r) : AM.Spec Try.prog 63 [.ptr 2120 0, .int .i64 a3] [(2120, .box [.lst x0 (.bytes a0), .int .i64 a1, .int .i64 a2])] (.bool r.1) [(2120, .box [.lst x0 (.bytes a0), .int .i64 r.2.1, .int .i64 r.2.2])] := by
  refine spec_of (E := E63_spec_l1Once) Try.func63 rfl rfl rfl rfl ?_
  refine Tri.run 1 [] [.keep [0, 1] [2120]] (K' := [.code [(1, 0)] 0, .code [] 2]) (σ' := ⟨[(0, .ptr 2120 0), (1, .int .i64 a3)], [(2120, .box [.lst x0 (.bytes a0), .int .i64 a1, .int .i64 a2])]⟩) rfl trivial rfl ?_
  obtain ⟨⟨v1, v2, v3⟩, hk1, h⟩ := bind_some h
  refine Tri.run 1 [.r ⟨[2120], .int .i64 v1, [(2120, .box [.undf, .int .i64 v2, .int .i64 v3])]⟩] [.keep [4] [2120]] (K' := [.code [] 2]) (σ' := ⟨[(4, .bool (v1 == (0 : Int)))], [(2120, .box [.lst x0 (.bytes a0), .int .i64 v2, .int .i64 v3])]⟩) rfl ⟨(fun vf => ((w_spec_l1Below_io1 (vf 2120 0) a0 a1 a2 a3 (v1, v2, v3) hk1).swap 2060 2120)), trivial⟩ rfl ?_
  have h := Option.some.inj h
  subst h
  exact Tri.ret rfl ⟨.inl rfl, rfl, rfl⟩
/-! spec.DrawGameOfDividends -/
noncomputable def E46_spec_DrawGameOfDividends : Env := ⟨Try.prog, tys, (Try.f46.body).getD .skip, 28, tysOk, mixedOk⟩
abbrev q_spec_DrawGameOfDividends (r : Int × (List Int)) (σ' : ASt) : Prop := resAV E46_spec_DrawGameOfDividends.T σ' Try.f46.results.toList = some (.tuple [.int .i64 r.1, .sl 1000 0]) ∧ keepO σ'.ob (namesO [(1000, .arr 3 0 0 (.ints r.2))]) = [(1000, .arr 3 0 0 (.ints r.2))]
noncomputable def m_spec_DrawGameOfDividends (a0 : List UInt8) : Option (Int × (List Int)) :=
(m_spec_l1New a0).bind fun (v1, v2, v3) =>
(m_spec_l8Bent_io1 v1 v2 v3).bind fun (v4, v5, v6, v7) =>
(m_spec_DividendsOf v4 v5).bind fun v8 =>
bif decide ((v8.length : Int) > (1 : Int)) then
((m_spec_l1Once_io1 v1 v6 v7 (4 : Int)).bind fun (v9, v10, v11) =>
bif v9 then
((m_spec_l1PickInt_io1 v1 v10 v11 [(0 : Int), (100000 : Int), (100001 : Int), (-7 : Int)]).bind fun (v12, _, _) =>
grd ((0 : Int) ≤ (1 : Int) ∧ (1 : Int) < (v8.length : Int)) <|
some (v4, v8.set ((1 : Int).toNat) v12))
else
(some (v4, v8)))
else
(some (v4, v8))
theorem w_spec_DrawGameOfDividends (a0 : List UInt8) (r : Int × (List Int)) (h : m_spec_DrawGameOfDividends a0 = some r) : AM.Spec Try.prog 46 [.list (.bytes a0)] [] (.tuple [.int .i64 r.1, .sl 1000 0]) [(1000, .arr 3 0 0 (.ints r.2))] := by
  refine spec_of (E := E46_spec_DrawGameOfDividends) Try.func46 rfl rfl rfl rfl ?_
  refine Tri.run 1 [] [.keep [0] []] (K' := [.code [(1, 0)] 0, .code [] 2]) (σ' := ⟨[(0, .list (.bytes a0))], []⟩) rfl trivial rfl ?_
  obtain ⟨⟨v1, v2, v3⟩, hk1, h⟩ := bind_some h
  obtain ⟨⟨v4, v5, v6, v7⟩, hk2, h⟩ := bind_some h
  refine Tri.run 2 [.r ⟨[], .ptr 1100 0, [(1100, .box [.list (.bytes v1), .int .i64 v2, .int .i64 v3])]⟩, .r ⟨[1100], .agg [.int .i64 v4, .sl 1101 0], [(1101, .arr 3 0 0 (.ints v5)), (1100, .box [.undf, .int .i64 v6, .int .i64 v7])]⟩] [.keep [4, 5] [5, 1100, 1101]] (K' := [.code [(3, 0)] 0, .code [] 4]) (σ' := ⟨[(4, .ptr 1100 0), (5, .ptr 5 0)], [(5, .box [.int .i64 v4, .sl 1101 0]), (1100, .box [.list (.bytes v1), .int .i64 v6, .int .i64 v7]), (1101, .arr 3 0 0 (.ints v5))]⟩) rfl ⟨(fun vf => (((w_spec_l8Bent_io1 (vf 1100 0) v1 v2 v3 (v4, v5, v6, v7) hk2).swap 1000 1101).swap 2020 1100)), (fun _ => ((w_spec_l1New a0 (v1, v2, v3) hk1).swap 1000 1100)), trivial⟩ rfl ?_
  obtain ⟨v8, hk3, h⟩ := bind_some h
  rcases bif_some h with ⟨hd4, h⟩ | ⟨hd4, h⟩
  · obtain ⟨⟨v9, v10, v11⟩, hk5, h⟩ := bind_some h
    refine Tri.run 2 [.r ⟨[], .sl 1102 0, [(1102, .arr 3 0 0 (.ints v8))]⟩, .g true, .r ⟨[1100], .bool v9, [(1100, .box [.undf, .int .i64 v10, .int .i64 v11])]⟩] [.keep [4, 5, 6, 19] [5, 1100, 1101, 1102]] (K' := [.code [(4, 0)] 1, .code [] 5]) (σ' := ⟨[(4, .ptr 1100 0), (5, .ptr 5 0), (6, .sl 1102 0), (19, .bool v9)], [(5, .box [.int .i64 v4, .sl 1101 0]), (1100, .box [.list (.bytes v1), .int .i64 v10, .int .i64 v11]), (1101, .arr 3 0 0 (.ints v5)), (1102, .arr 3 0 0 (.ints v8))]⟩) rfl ⟨(fun vf => ((w_spec_l1Once_io1 (vf 1100 0) v1 v6 v7 (4 : Int) (v9, v10, v11) hk5).swap 2120 1100)), hd4, (fun _ => ((w_spec_DividendsOf v4 v5 v8 hk3).swap 1000 1102)), trivial⟩ rfl ?_
    rcases bif_some h with ⟨hd6, h⟩ | ⟨hd6, h⟩
    · obtain ⟨⟨v12, v13, v14⟩, hk7, h⟩ := bind_some h
      obtain ⟨hg8, h⟩ := grd_some h
      refine Tri.run 3 [.g true, .r ⟨[1100], .int .i64 v12, [(1100, .box [.undf, .int .i64 v13, .int .i64 v14])]⟩] [.swap 1102 1000, .keep [2, 3] [1000]] (K' := [.code [] 6]) (σ' := ⟨[(2, .int .i64 v4), (3, .sl 1000 0)], [(1000, .arr 3 0 0 (.ints (v8.set ((1 : Int).toNat) v12)))]⟩) rfl ⟨hg8, (fun vf => ((w_spec_l1PickInt_io1 (vf 1100 0) v1 v10 v11 [(0 : Int), (100000 : Int), (100001 : Int), (-7 : Int)] (v12, v13, v14) hk7).swap 2100 1100)), hd6, trivial⟩ rfl ?_
      have h := Option.some.inj h
      subst h
      exact Tri.ret rfl ⟨.inl rfl, rfl, rfl⟩
    · refine Tri.run 2 [.g false] [.swap 1102 1000, .keep [2, 3] [1000]] (K' := [.code [] 6]) (σ' := ⟨[(2, .int .i64 v4), (3, .sl 1000 0)], [(1000, .arr 3 0 0 (.ints v8))]⟩) rfl ⟨hd6, trivial⟩ rfl ?_
      have h := Option.some.inj h
      subst h
      exact Tri.ret rfl ⟨.inl rfl, rfl, rfl⟩
  · refine Tri.run 2 [.r ⟨[], .sl 1102 0, [(1102, .arr 3 0 0 (.ints v8))]⟩, .g false] [.keep [4, 5, 6, 19] [5, 1100, 1101, 1102]] (K' := [.code [(4, 0)] 1, .code [] 5]) (σ' := ⟨[(4, .ptr 1100 0), (5, .ptr 5 0), (6, .sl 1102 0), (19, .bool false)], [(5, .box [.int .i64 v4, .sl 1101 0]), (1100, .box [.list (.bytes v1), .int .i64 v6, .int .i64 v7]), (1101, .arr 3 0 0 (.ints v5)), (1102, .arr 3 0 0 (.ints v8))]⟩) rfl ⟨hd4, (fun _ => ((w_spec_DividendsOf v4 v5 v8 hk3).swap 1000 1102)), trivial⟩ rfl ?_
    refine Tri.run 2 [.g false] [.swap 1102 1000, .keep [2, 3] [1000]] (K' := [.code [] 6]) (σ' := ⟨[(2, .int .i64 v4), (3, .sl 1000 0)], [(1000, .arr 3 0 0 (.ints v8))]⟩) rfl ⟨rfl, trivial⟩ rfl ?_
    have h := Option.some.inj h
    subst h
    exact Tri.ret rfl ⟨.inl rfl, rfl, rfl⟩
/-! spec.GameOfDividends -/
noncomputable def E47_spec_GameOfDividends : Env := ⟨Try.prog, tys, (Try.f47.body).getD .skip, 61, tysOk, mixedOk⟩
abbrev q_spec_GameOfDividends (r : Int × Bool × (List Int)) (σ' : ASt) : Prop := resAV E47_spec_GameOfDividends.T σ' Try.f47.results.toList = some (.tuple [.agg [.int .i64 r.1, .sl 1000 0], .bool r.2.1]) ∧ keepO σ'.ob (namesO [(1000, .arr 3 0 0 (.ints r.2.2))]) = [(1000, .arr 3 0 0 (.ints r.2.2))]
noncomputable def l_spec_GameOfDividends_1 (a1 : List Int) (v3 : Int) : (Int × Int) → Option ((Int × Int) ⊕ (Int ⊕ ((Int × Bool × (List Int)))))
  | (v5, v6) => (
bif decide (v6 ≤ v3) then
(grd ((0 : Int) ≤ v6 ∧ v6 < (a1.length : Int)) <|
(m_spec_l1In (a1.getD v6.toNat 0) (-100000 : Int) (100000 : Int)).bind fun v7 =>
bif !v7 then
(some (.inr (.inr (0, false, []))))
else
((m_spec_IsSubset v6 v3).bind fun v8 =>
bif v8 then
(grd ((0 : Int) ≤ v6 ∧ v6 < (a1.length : Int)) <|
some (.inl (IntKind.i64.wrap (v5 + (a1.getD v6.toNat 0)), IntKind.i64.wrap (v6 + (1 : Int)))))
else
(some (.inl (v5, IntKind.i64.wrap (v6 + (1 : Int)))))))
else
(some (.inr (.inl v5))))
noncomputable def l_spec_GameOfDividends_0 (a1 : List Int) : (Int × (List Int)) → Option ((Int × (List Int)) ⊕ ((List Int) ⊕ ((Int × Bool × (List Int)))))
  | (v3, v4) => (
bif decide (v3 < (a1.length : Int)) then
((iter (l_spec_GameOfDividends_1 a1 v3) ((0 : Int), (0 : Int))).bind fun
| (.inl v9) => (
grd (v4.length + ([v9] : List Int).length ≤ room) <|
some (.inl (IntKind.i64.wrap (v3 + (1 : Int)), v4 ++ [v9])))
| (.inr r) => some (.inr (.inr r)))
else
(some (.inr (.inl v4))))
noncomputable def m_spec_GameOfDividends (a0 : Int) (a1 : List Int) : Option (Int × Bool × (List Int)) :=
(m_spec_l1In a0 (1 : Int) (5 : Int)).bind fun v1 =>
bif !v1 then
(some (0, false, []))
else
((m_spec_CountCoalitions a0).bind fun v2 =>
bif (a1.length : Int) != v2 then
(some (0, false, []))
else
((iter (l_spec_GameOfDividends_0 a1) ((0 : Int), [])).bind fun
| (.inl v10) => (
(m_spec_IsValidGame a0 v10).bind fun v11 =>
bif !v11 then
(some (0, false, []))
else
(some (a0, true, v10)))
| (.inr r) => some r))
theorem w_spec_GameOfDividends (a0 : Int) (a1 : List Int) (r : Int × Bool × (List Int)) (h : m_spec_GameOfDividends a0 a1 = some r) : AM.Spec Try.prog 47 [.int .i64 a0, .list (.ints a1)] [] (.tuple [.agg [.int .i64 r.1, .sl 1000 0], .bool r.2.1]) [(1000, .arr 3 0 0 (.ints r.2.2))] := by
  refine spec_of (E := E47_spec_GameOfDividends) Try.func47 rfl rfl rfl rfl ?_
  refine Tri.run 1 [] [.keep [0, 1, 4] [4], .ownc 4 1 1100 3, .keep [0, 1, 4] [4, 1100]] (K' := [.code [(1, 0), (0, 0)] 0, .code [(1, 0)] 1, .code [] 2]) (σ' := ⟨[(0, .int .i64 a0), (1, .list (.ints a1)), (4, .ptr 4 0)], [(4, .box [.int .i64 0, .sl 1100 0]), (1100, .arr 3 0 0 (.ints []))]⟩) rfl trivial rfl ?_
  obtain ⟨v1, hk1, h⟩ := bind_some h
  rcases bif_some h with ⟨hd2, h⟩ | ⟨hd2, h⟩
  · refine Tri.run 1 [.r ⟨[], .bool v1, []⟩, .g true] [.keep [0, 1, 4, 19] [4, 1100]] (K' := [.code [(1, 0)] 1, .code [] 2]) (σ' := ⟨[(0, .int .i64 a0), (1, .list (.ints a1)), (4, .ptr 4 0), (19, .bool true)], [(4, .box [.int .i64 0, .sl 1100 0]), (1100, .arr 3 0 0 (.ints []))]⟩) rfl ⟨hd2, (fun _ => (w_spec_l1In a0 (1 : Int) (5 : Int) v1 hk1)), trivial⟩ rfl ?_
    refine Tri.run 2 [.g true] [.ownc 4 1 1101 3, .swap 1101 1000, .keep [4, 5] [4, 1000]] (K' := [.code [(1, 0), (1, 0)] 1, .code [] 2]) (σ' := ⟨[(4, .ptr 4 0), (5, .bool false)], [(4, .box [.int .i64 0, .sl 1000 0]), (1000, .arr 3 0 0 (.ints []))]⟩) rfl ⟨rfl, trivial⟩ rfl ?_
    have h := Option.some.inj h
    subst h
    exact Tri.ret rfl ⟨.inl rfl, rfl, rfl⟩
  · obtain ⟨v2, hk3, h⟩ := bind_some h
    refine Tri.run 1 [.r ⟨[], .bool v1, []⟩, .g false, .r ⟨[], .int .i64 v2, []⟩] [.keep [0, 1, 4, 19] [4, 1100]] (K' := [.code [(1, 0)] 1, .code [] 2]) (σ' := ⟨[(0, .int .i64 a0), (1, .list (.ints a1)), (4, .ptr 4 0), (19, .bool ((a1.length : Int) != v2))], [(4, .box [.int .i64 0, .sl 1100 0]), (1100, .arr 3 0 0 (.ints []))]⟩) rfl ⟨(fun _ => (w_spec_CountCoalitions a0 v2 hk3)), hd2, (fun _ => (w_spec_l1In a0 (1 : Int) (5 : Int) v1 hk1)), trivial⟩ rfl ?_
    rcases bif_some h with ⟨hd4, h⟩ | ⟨hd4, h⟩
    · refine Tri.run 2 [.g true] [.ownc 4 1 1102 3, .swap 1102 1000, .keep [4, 5] [4, 1000]] (K' := [.code [(1, 0), (1, 0)] 1, .code [] 2]) (σ' := ⟨[(4, .ptr 4 0), (5, .bool false)], [(4, .box [.int .i64 0, .sl 1000 0]), (1000, .arr 3 0 0 (.ints []))]⟩) rfl ⟨hd4, trivial⟩ rfl ?_
      have h := Option.some.inj h
      subst h
      exact Tri.ret rfl ⟨.inl rfl, rfl, rfl⟩
    · refine Tri.run 3 [.g false] [.ownc 6 1 1103 3, .keep [1, 4, 6, 7] [4, 6, 1100, 1103]] (K' := [.code [(3, 0), (1, 0)] 0, .blk 0, .code [] 4]) (σ' := ⟨[(1, .list (.ints a1)), (4, .ptr 4 0), (6, .ptr 6 0), (7, .int .i64 (0 : Int))], [(4, .box [.int .i64 0, .sl 1100 0]), (6, .box [.int .i64 a0, .sl 1103 0]), (1100, .arr 3 0 0 (.ints [])), (1103, .arr 3 0 0 (.ints []))]⟩) rfl ⟨hd4, trivial⟩ rfl ?_
      obtain ⟨x2, hk15, h⟩ := bind_some h
      refine Tri.loop (K1 := [.code [(3, 0), (1, 0), (0, 0)] 0]) (K2 := [.blk 0, .code [] 4]) (fun (v3, v4) => ⟨[(1, .list (.ints a1)), (4, .ptr 4 0), (6, .ptr 6 0), (7, .int .i64 v3)], [(4, .box [.int .i64 0, .sl 1100 0]), (6, .box [.int .i64 a0, .sl 1103 0]), (1100, .arr 3 0 0 (.ints [])), (1103, .arr 3 0 0 (.ints v4))]⟩) (fun x e σ' => match x with | (.inl v10) => e = .exit 0 ∧ σ' = ⟨[(4, .ptr 4 0), (6, .ptr 6 0)], [(4, .box [.int .i64 0, .sl 1100 0]), (6, .box [.int .i64 a0, .sl 1103 0]), (1100, .arr 3 0 0 (.ints [])), (1103, .arr 3 0 0 (.ints v10))]⟩ | (.inr r) => e = .ret ∧ q_spec_GameOfDividends r σ') hk15 rfl rfl ?_ ?_
      · intro s x hs
        clear h
        have h := hs
        clear hs
        obtain ⟨v3, v4⟩ := s
        refine Tri.run 1 [] [.keep [1, 4, 6, 7, 26] [4, 6, 1100, 1103]] (K' := [.code [(3, 0), (1, 0), (0, 0), (0, 0)] 1, .code [(3, 0), (1, 0), (0, 0)] 1]) (σ' := ⟨[(1, .list (.ints a1)), (4, .ptr 4 0), (6, .ptr 6 0), (7, .int .i64 v3), (26, .bool (decide (v3 < (a1.length : Int))))], [(4, .box [.int .i64 0, .sl 1100 0]), (6, .box [.int .i64 a0, .sl 1103 0]), (1100, .arr 3 0 0 (.ints [])), (1103, .arr 3 0 0 (.ints v4))]⟩) rfl trivial rfl ?_
        rcases bif_some h with ⟨hd5, h⟩ | ⟨hd5, h⟩
        · refine Tri.run 3 [.g true] [.keep [1, 4, 6, 7, 8, 9] [4, 6, 1100, 1103]] (K' := [.code [(3, 0), (1, 0), (0, 0), (1, 0), (0, 0), (1, 0), (1, 0)] 0, .blk 2, .code [(3, 0), (1, 0), (0, 0), (1, 0), (0, 0)] 2, .blk 1, .code [(3, 0), (1, 0), (0, 0)] 2]) (σ' := ⟨[(1, .list (.ints a1)), (4, .ptr 4 0), (6, .ptr 6 0), (7, .int .i64 v3), (8, .int .i64 (0 : Int)), (9, .int .i64 (0 : Int))], [(4, .box [.int .i64 0, .sl 1100 0]), (6, .box [.int .i64 a0, .sl 1103 0]), (1100, .arr 3 0 0 (.ints [])), (1103, .arr 3 0 0 (.ints v4))]⟩) rfl ⟨hd5, trivial⟩ rfl ?_
          obtain ⟨x2, hk13, h⟩ := bind_some h
          refine Tri.loop (K1 := [.code [(3, 0), (1, 0), (0, 0), (1, 0), (0, 0), (1, 0), (1, 0), (0, 0)] 0]) (K2 := [.blk 2, .code [(3, 0), (1, 0), (0, 0), (1, 0), (0, 0)] 2, .blk 1, .code [(3, 0), (1, 0), (0, 0)] 2]) (fun (v5, v6) => ⟨[(1, .list (.ints a1)), (4, .ptr 4 0), (6, .ptr 6 0), (7, .int .i64 v3), (8, .int .i64 v5), (9, .int .i64 v6)], [(4, .box [.int .i64 0, .sl 1100 0]), (6, .box [.int .i64 a0, .sl 1103 0]), (1100, .arr 3 0 0 (.ints [])), (1103, .arr 3 0 0 (.ints v4))]⟩) (fun x e σ' => match x with | (.inl v9) => e = .exit 2 ∧ σ' = ⟨[(1, .list (.ints a1)), (4, .ptr 4 0), (6, .ptr 6 0), (7, .int .i64 v3), (8, .int .i64 v9)], [(4, .box [.int .i64 0, .sl 1100 0]), (6, .box [.int .i64 a0, .sl 1103 0]), (1100, .arr 3 0 0 (.ints [])), (1103, .arr 3 0 0 (.ints v4))]⟩ | (.inr r) => e = .ret ∧ q_spec_GameOfDividends r σ') hk13 rfl rfl ?_ ?_
          · intro s x hs
            clear h
            have h := hs
            clear hs
            obtain ⟨v5, v6⟩ := s
            refine Tri.run 1 [] [.keep [1, 4, 6, 7, 8, 9, 31] [4, 6, 1100, 1103]] (K' := [.code [(3, 0), (1, 0), (0, 0), (1, 0), (0, 0), (1, 0), (1, 0), (0, 0), (0, 0)] 1, .code [(3, 0), (1, 0), (0, 0), (1, 0), (0, 0), (1, 0), (1, 0), (0, 0)] 1]) (σ' := ⟨[(1, .list (.ints a1)), (4, .ptr 4 0), (6, .ptr 6 0), (7, .int .i64 v3), (8, .int .i64 v5), (9, .int .i64 v6), (31, .bool (decide (v6 ≤ v3)))], [(4, .box [.int .i64 0, .sl 1100 0]), (6, .box [.int .i64 a0, .sl 1103 0]), (1100, .arr 3 0 0 (.ints [])), (1103, .arr 3 0 0 (.ints v4))]⟩) rfl trivial rfl ?_
            rcases bif_some h with ⟨hd6, h⟩ | ⟨hd6, h⟩
            · obtain ⟨hg7, h⟩ := grd_some h
              obtain ⟨v7, hk8, h⟩ := bind_some h
              refine Tri.run 2 [.g true, .r ⟨[], .bool v7, []⟩] [.keep [1, 4, 6, 7, 8, 9, 39] [4, 6, 1100, 1103]] (K' := [.code [(3, 0), (1, 0), (0, 0), (1, 0), (0, 0), (1, 0), (1, 0), (0, 0), (1, 0), (0, 0), (0, 0)] 1, .code [(3, 0), (1, 0), (0, 0), (1, 0), (0, 0), (1, 0), (1, 0), (0, 0), (1, 0), (0, 0)] 1, .blk 3, .code [(3, 0), (1, 0), (0, 0), (1, 0), (0, 0), (1, 0), (1, 0), (0, 0)] 2]) (σ' := ⟨[(1, .list (.ints a1)), (4, .ptr 4 0), (6, .ptr 6 0), (7, .int .i64 v3), (8, .int .i64 v5), (9, .int .i64 v6), (39, .bool (!v7))], [(4, .box [.int .i64 0, .sl 1100 0]), (6, .box [.int .i64 a0, .sl 1103 0]), (1100, .arr 3 0 0 (.ints [])), (1103, .arr 3 0 0 (.ints v4))]⟩) rfl ⟨(fun _ => (w_spec_l1In (a1.getD v6.toNat 0) (-100000 : Int) (100000 : Int) v7 hk8)), hg7, hd6, trivial⟩ rfl ?_
              rcases bif_some h with ⟨hd9, h⟩ | ⟨hd9, h⟩
              · refine Tri.run 2 [.g true] [.ownc 4 1 1104 3, .swap 1104 1000, .keep [4, 5] [4, 1000]] (K' := [.code [(3, 0), (1, 0), (0, 0), (1, 0), (0, 0), (1, 0), (1, 0), (0, 0), (1, 0), (0, 0), (0, 0), (1, 0)] 1, .code [(3, 0), (1, 0), (0, 0), (1, 0), (0, 0), (1, 0), (1, 0), (0, 0), (1, 0), (0, 0)] 1, .blk 3, .code [(3, 0), (1, 0), (0, 0), (1, 0), (0, 0), (1, 0), (1, 0), (0, 0)] 2]) (σ' := ⟨[(4, .ptr 4 0), (5, .bool false)], [(4, .box [.int .i64 0, .sl 1000 0]), (1000, .arr 3 0 0 (.ints []))]⟩) rfl ⟨hd9, trivial⟩ rfl ?_
                have h := Option.some.inj h
                subst h
                exact Tri.ret rfl ⟨nofun, rfl, rfl, rfl⟩
              · obtain ⟨v8, hk10, h⟩ := bind_some h
                refine Tri.run 2 [.g false, .r ⟨[], .bool v8, []⟩] [.keep [1, 4, 6, 7, 8, 9, 43] [4, 6, 1100, 1103]] (K' := [.code [(3, 0), (1, 0), (0, 0), (1, 0), (0, 0), (1, 0), (1, 0), (0, 0), (1, 0), (0, 0)] 2, .blk 3, .code [(3, 0), (1, 0), (0, 0), (1, 0), (0, 0), (1, 0), (1, 0), (0, 0)] 2]) (σ' := ⟨[(1, .list (.ints a1)), (4, .ptr 4 0), (6, .ptr 6 0), (7, .int .i64 v3), (8, .int .i64 v5), (9, .int .i64 v6), (43, .bool v8)], [(4, .box [.int .i64 0, .sl 1100 0]), (6, .box [.int .i64 a0, .sl 1103 0]), (1100, .arr 3 0 0 (.ints [])), (1103, .arr 3 0 0 (.ints v4))]⟩) rfl ⟨(fun _ => (w_spec_IsSubset v6 v3 v8 hk10)), hd9, trivial⟩ rfl ?_
                rcases bif_some h with ⟨hd11, h⟩ | ⟨hd11, h⟩
                · obtain ⟨hg12, h⟩ := grd_some h
                  refine Tri.run 3 [.g true] [.keep [1, 4, 6, 7, 8, 9] [4, 6, 1100, 1103]] (K' := []) (σ' := ⟨[(1, .list (.ints a1)), (4, .ptr 4 0), (6, .ptr 6 0), (7, .int .i64 v3), (8, .int .i64 (IntKind.i64.wrap (v5 + (a1.getD v6.toNat 0)))), (9, .int .i64 (IntKind.i64.wrap (v6 + (1 : Int))))], [(4, .box [.int .i64 0, .sl 1100 0]), (6, .box [.int .i64 a0, .sl 1103 0]), (1100, .arr 3 0 0 (.ints [])), (1103, .arr 3 0 0 (.ints v4))]⟩) rfl ⟨hg12, hd11, trivial⟩ rfl ?_
                  have h := Option.some.inj h
                  subst h
                  exact Tri.nil ⟨rfl, rfl⟩
                · refine Tri.run 2 [.g false] [.keep [1, 4, 6, 7, 8, 9] [4, 6, 1100, 1103]] (K' := []) (σ' := ⟨[(1, .list (.ints a1)), (4, .ptr 4 0), (6, .ptr 6 0), (7, .int .i64 v3), (8, .int .i64 v5), (9, .int .i64 (IntKind.i64.wrap (v6 + (1 : Int))))], [(4, .box [.int .i64 0, .sl 1100 0]), (6, .box [.int .i64 a0, .sl 1103 0]), (1100, .arr 3 0 0 (.ints [])), (1103, .arr 3 0 0 (.ints v4))]⟩) rfl ⟨hd11, trivial⟩ rfl ?_
                  have h := Option.some.inj h
                  subst h
                  exact Tri.nil ⟨rfl, rfl⟩
            · refine Tri.run 1 [.g false] [.keep [1, 4, 6, 7, 8] [4, 6, 1100, 1103]] (K' := [.code [(3, 0), (1, 0), (0, 0), (1, 0), (0, 0), (1, 0), (1, 0), (0, 0), (0, 0), (1, 1)] 0, .code [(3, 0), (1, 0), (0, 0), (1, 0), (0, 0), (1, 0), (1, 0), (0, 0)] 1]) (σ' := ⟨[(1, .list (.ints a1)), (4, .ptr 4 0), (6, .ptr 6 0), (7, .int .i64 v3), (8, .int .i64 v5)], [(4, .box [.int .i64 0, .sl 1100 0]), (6, .box [.int .i64 a0, .sl 1103 0]), (1100, .arr 3 0 0 (.ints [])), (1103, .arr 3 0 0 (.ints v4))]⟩) rfl ⟨hd6, trivial⟩ rfl ?_
              have h := Option.some.inj h
              subst h
              exact Tri.out 2 rfl ⟨nofun, rfl, rfl⟩
          · intro e σ' hne hq
            rcases x2 with v9 | r
            · obtain ⟨rfl, rfl⟩ := hq
              refine TriX.exit (K' := [.code [(3, 0), (1, 0), (0, 0), (1, 0), (0, 0)] 2, .blk 1, .code [(3, 0), (1, 0), (0, 0)] 2]) rfl ?_
              obtain ⟨hg14, h⟩ := grd_some h
              refine Tri.run 2 [] [.rever 1103, .keep [1, 4, 6, 7] [4, 6, 1100, 1103]] (K' := []) (σ' := ⟨[(1, .list (.ints a1)), (4, .ptr 4 0), (6, .ptr 6 0), (7, .int .i64 (IntKind.i64.wrap (v3 + (1 : Int))))], [(4, .box [.int .i64 0, .sl 1100 0]), (6, .box [.int .i64 a0, .sl 1103 0]), (1100, .arr 3 0 0 (.ints [])), (1103, .arr 3 0 0 (.ints (v4 ++ [v9])))]⟩) rfl ⟨hg14, trivial⟩ rfl ?_
              have h := Option.some.inj h
              subst h
              exact Tri.nil ⟨rfl, rfl⟩
            · obtain ⟨rfl, hq⟩ := hq
              have h := Option.some.inj h
              subst h
              exact TriX.ret ⟨nofun, rfl, hq⟩
        · refine Tri.run 1 [.g false] [.keep [4, 6] [4, 6, 1100, 1103]] (K' := [.code [(3, 0), (1, 0), (0, 0), (0, 0), (1, 1)] 0, .code [(3, 0), (1, 0), (0, 0)] 1]) (σ' := ⟨[(4, .ptr 4 0), (6, .ptr 6 0)], [(4, .box [.int .i64 0, .sl 1100 0]), (6, .box [.int .i64 a0, .sl 1103 0]), (1100, .arr 3 0 0 (.ints [])), (1103, .arr 3 0 0 (.ints v4))]⟩) rfl ⟨hd5, trivial⟩ rfl ?_
          have h := Option.some.inj h
          subst h
          exact Tri.out 0 rfl ⟨nofun, rfl, rfl⟩
      · intro e σ' hne hq
        rcases x2 with v10 | r
        · obtain ⟨rfl, rfl⟩ := hq
          refine TriX.exit (K' := [.code [] 4]) rfl ?_
          obtain ⟨v11, hk16, h⟩ := bind_some h
          refine Tri.run 1 [.r ⟨[], .bool v11, []⟩] [.keep [4, 6, 58] [4, 6, 1100, 1103]] (K' := [.code [(4, 0)] 1, .code [] 5]) (σ' := ⟨[(4, .ptr 4 0), (6, .ptr 6 0), (58, .bool (!v11))], [(4, .box [.int .i64 0, .sl 1100 0]), (6, .box [.int .i64 a0, .sl 1103 0]), (1100, .arr 3 0 0 (.ints [])), (1103, .arr 3 0 0 (.ints v10))]⟩) rfl ⟨(fun _ => (w_spec_IsValidGame a0 v10 v11 hk16)), trivial⟩ rfl ?_
          rcases bif_some h with ⟨hd17, h⟩ | ⟨hd17, h⟩
          · refine Tri.run 2 [.g true] [.ownc 4 1 1105 3, .swap 1105 1000, .keep [4, 5] [4, 1000]] (K' := [.code [(4, 0), (1, 0)] 1, .code [] 5]) (σ' := ⟨[(4, .ptr 4 0), (5, .bool false)], [(4, .box [.int .i64 0, .sl 1000 0]), (1000, .arr 3 0 0 (.ints []))]⟩) rfl ⟨hd17, trivial⟩ rfl ?_
            have h := Option.some.inj h
            subst h
            exact Tri.ret rfl ⟨.inl rfl, rfl, rfl⟩
          · refine Tri.run 2 [.g false] [.swap 1103 1000, .keep [4, 5] [4, 1000]] (K' := [.code [] 6]) (σ' := ⟨[(4, .ptr 4 0), (5, .bool true)], [(4, .box [.int .i64 a0, .sl 1000 0]), (1000, .arr 3 0 0 (.ints v10))]⟩) rfl ⟨hd17, trivial⟩ rfl ?_
            have h := Option.some.inj h
            subst h
            exact Tri.ret rfl ⟨.inl rfl, rfl, rfl⟩
        · obtain ⟨rfl, hq⟩ := hq
          have h := Option.some.inj h
          subst h
          exact TriX.ret ⟨.inl rfl, hq⟩
/-! laws.FnDividends -/
noncomputable def E5_laws_FnDividends : Env := ⟨Try.prog, tys, (Try.f5.body).getD .skip, 114, tysOk, mixedOk⟩
abbrev q_laws_FnDividends (r : Bool) (σ' : ASt) : Prop := resAV E5_laws_FnDividends.T σ' Try.f5.results.toList = some (.bool r) ∧ keepO σ'.ob (namesO []) = []
noncomputable def l_laws_FnDividends_1 (v4 : List Int) (v14 : Int) : (Int × Int) → Option ((Int × Int) ⊕ Int)
  | (v15, v16) => (
bif decide (v16 < (v4.length : Int)) then
((m_spec_HasPlayer v16 v14).bind fun v17 =>
bif v17 then
(grd ((0 : Int) ≤ v16 ∧ v16 < (v4.length : Int)) <|
(m_spec_SizeOf v16).bind fun v18 =>
grd (v18 ≠ 0) <|
some (.inl (IntKind.i64.wrap (v15 + (IntKind.i64.wrap ((IntKind.i64.wrap ((v4.getD v16.toNat 0) * (60 : Int))).tdiv v18))), IntKind.i64.wrap (v16 + (1 : Int)))))
else
(some (.inl (v15, IntKind.i64.wrap (v16 + (1 : Int))))))
else
(some (.inr v15)))
noncomputable def l_laws_FnDividends_0 (v4 : List Int) (v13 : List Q) (v14 : Int) : Option (Int ⊕ (Unit ⊕ Bool)) :=
bif decide (v14 < (v13.length : Int)) then
((iter (l_laws_FnDividends_1 v4 v14) ((0 : Int), (1 : Int))).bind fun
| v19 => (
grd ((0 : Int) ≤ v14 ∧ v14 < (v13.length : Int)) <|
grd ((0 : Int) ≤ v14 ∧ v14 < (v13.length : Int)) <|
bif (IntKind.i64.wrap (((v13.getD v14.toNat ⟨0, 0⟩).num) * (60 : Int))) != (IntKind.i64.wrap (v19 * ((v13.getD v14.toNat ⟨0, 0⟩).den))) then
(some (.inr (.inr false)))
else
(some (.inl (IntKind.i64.wrap (v14 + (1 : Int)))))))
else
(some (.inr (.inl ())))
noncomputable def l_laws_FnDividends_3 (v4 : List Int) (v31 : Int) : (Int × Int) → Option ((Int × Int) ⊕ Int)
  | (v32, v33) => (
bif decide (v33 < (v4.length : Int)) then
((m_spec_HasPlayer v33 v31).bind fun v34 =>
bif v34 then
(grd ((0 : Int) ≤ v33 ∧ v33 < (v4.length : Int)) <|
(m_spec_SizeOf v33).bind fun v35 =>
grd (v35 ≠ 0) <|
some (.inl (IntKind.i64.wrap (v32 + (IntKind.i64.wrap ((IntKind.i64.wrap ((v4.getD v33.toNat 0) * (60 : Int))).tdiv v35))), IntKind.i64.wrap (v33 + (1 : Int)))))
else
(some (.inl (v32, IntKind.i64.wrap (v33 + (1 : Int))))))
else
(some (.inr v32)))
noncomputable def l_laws_FnDividends_2 (v4 : List Int) (v30 : List Q) (v31 : Int) : Option (Int ⊕ (Unit ⊕ Bool)) :=
bif decide (v31 < (v30.length : Int)) then
((iter (l_laws_FnDividends_3 v4 v31) ((0 : Int), (1 : Int))).bind fun
| v36 => (
grd ((0 : Int) ≤ v31 ∧ v31 < (v30.length : Int)) <|
grd ((0 : Int) ≤ v31 ∧ v31 < (v30.length : Int)) <|
bif (IntKind.i64.wrap (((v30.getD v31.toNat ⟨0, 0⟩).num) * (60 : Int))) != (IntKind.i64.wrap (v36 * ((v30.getD v31.toNat ⟨0, 0⟩).den))) then
(some (.inr (.inr false)))
else
(some (.inl (IntKind.i64.wrap (v31 + (1 : Int)))))))
else
(some (.inr (.inl ())))
noncomputable def m_laws_FnDividends (a0 : List UInt8) : Option Bool :=
(m_laws_big a0).bind fun v1 =>
bif v1 then
(some true)
else
((m_spec_DrawDividendsOf a0).bind fun (v2, v3) =>
(m_impl_DividendsOf v2 v3).bind fun v4 =>
(m_spec_DividendsOf v2 v3).bind fun v5 =>
(m_laws_sameInts v4 v5).bind fun v6 =>
bif !v6 then
(some false)
else
((m_impl_GameOfDividends v2 v4).bind fun (v7, v8, v9) =>
(m_spec_IsValidGame v2 v3).bind fun v10 =>
bif v8 then
((m_spec_EqualGame v7 v9 v2 v3).bind fun v11 =>
bif v10 != v11 then
(some false)
else
((m_spec_ShapleyValue v2 v3).bind fun (_, v13) =>
(iter (l_laws_FnDividends_0 v4 v13) (0 : Int)).bind fun
| (.inl _) => (
(m_spec_DrawGameOfDividends a0).bind fun (v20, v21) =>
(m_impl_GameOfDividends v20 v21).bind fun (v22, v23, v24) =>
(m_spec_GameOfDividends v20 v21).bind fun (v25, v26, v27) =>
bif v23 == v26 then
((m_spec_EqualGame v22 v24 v25 v27).bind fun v28 =>
some v28)
else
(some false))
| (.inr r) => some r))
else
(bif v10 != false then
(some false)
else
((m_spec_ShapleyValue v2 v3).bind fun (_, v30) =>
(iter (l_laws_FnDividends_2 v4 v30) (0 : Int)).bind fun
| (.inl _) => (
(m_spec_DrawGameOfDividends a0).bind fun (v37, v38) =>
(m_impl_GameOfDividends v37 v38).bind fun (v39, v40, v41) =>
(m_spec_GameOfDividends v37 v38).bind fun (v42, v43, v44) =>
bif v40 == v43 then
((m_spec_EqualGame v39 v41 v42 v44).bind fun v45 =>
some v45)
else
(some false))
| (.inr r) => some r))))
theorem w_laws_FnDividends (a0 : List UInt8) (r : Bool) (h : m_laws_FnDividends a0 = some r) : AM.Spec Try.prog 5 [.list (.bytes a0)] [] (.bool r) [] := by
  refine spec_of (E := E5_laws_FnDividends) Try.func5 rfl rfl rfl rfl ?_
  refine Tri.run 1 [] [.keep [0] []] (K' := [.code [(1, 0), (0, 0)] 0, .code [(1, 0)] 1, .code [] 2]) (σ' := ⟨[(0, .list (.bytes a0))], []⟩) rfl trivial rfl ?_
  obtain ⟨v1, hk1, h⟩ := bind_some h
  refine Tri.run 1 [.r ⟨[], .bool v1, []⟩] [.keep [0, 19] []] (K' := [.code [(1, 0)] 1, .code [] 2]) (σ' := ⟨[(0, .list (.bytes a0)), (19, .bool v1)], []⟩) rfl ⟨(fun _ => (w_laws_big a0 v1 hk1)), trivial⟩ rfl ?_
  rcases bif_some h with ⟨hd2, h⟩ | ⟨hd2, h⟩
  · refine Tri.run 2 [.g true] [.keep [2] []] (K' := [.code [(1, 0), (1, 0)] 1, .code [] 2]) (σ' := ⟨[(2, .bool true)], []⟩) rfl ⟨hd2, trivial⟩ rfl ?_
    have h := Option.some.inj h
    subst h
    exact Tri.ret rfl ⟨.inl rfl, rfl, rfl⟩
  · obtain ⟨⟨v2, v3⟩, hk3, h⟩ := bind_some h
    refine Tri.run 2 [.g false, .r ⟨[], .agg [.int .i64 v2, .sl 1100 0], [(1100, .arr 3 0 0 (.ints v3))]⟩] [.keep [0, 3] [3, 1100]] (K' := [.code [(3, 0)] 0, .code [] 4]) (σ' := ⟨[(0, .list (.bytes a0)), (3, .ptr 3 0)], [(3, .box [.int .i64 v2, .sl 1100 0]), (1100, .arr 3 0 0 (.ints v3))]⟩) rfl ⟨(fun _ => ((w_spec_DrawDividendsOf a0 (v2, v3) hk3).swap 1000 1100)), hd2, trivial⟩ rfl ?_
    obtain ⟨v4, hk4, h⟩ := bind_some h
    obtain ⟨v5, hk5, h⟩ := bind_some h
    obtain ⟨v6, hk6, h⟩ := bind_some h
    refine Tri.run 2 [.r ⟨[], .sl 1101 0, [(1101, .arr 3 0 0 (.ints v4))]⟩, .r ⟨[], .sl 1102 0, [(1102, .arr 3 0 0 (.ints v5))]⟩, .r ⟨[], .bool v6, []⟩] [.keep [0, 3, 4, 28] [3, 1100, 1101]] (K' := [.code [(4, 0)] 1, .code [] 5]) (σ' := ⟨[(0, .list (.bytes a0)), (3, .ptr 3 0), (4, .sl 1101 0), (28, .bool (!v6))], [(3, .box [.int .i64 v2, .sl 1100 0]), (1100, .arr 3 0 0 (.ints v3)), (1101, .arr 3 0 0 (.ints v4))]⟩) rfl ⟨(fun _ => (w_laws_sameInts v4 v5 v6 hk6)), (fun _ => ((w_spec_DividendsOf v2 v3 v5 hk5).swap 1000 1102)), (fun _ => ((w_impl_DividendsOf v2 v3 v4 hk4).swap 1000 1101)), trivial⟩ rfl ?_
    rcases bif_some h with ⟨hd7, h⟩ | ⟨hd7, h⟩
    · refine Tri.run 2 [.g true] [.keep [2] []] (K' := [.code [(4, 0), (1, 0)] 1, .code [] 5]) (σ' := ⟨[(2, .bool false)], []⟩) rfl ⟨hd7, trivial⟩ rfl ?_
      have h := Option.some.inj h
      subst h
      exact Tri.ret rfl ⟨.inl rfl, rfl, rfl⟩
    · obtain ⟨⟨v7, v8, v9⟩, hk8, h⟩ := bind_some h
      refine Tri.run 2 [.g false, .r ⟨[], .tuple [.agg [.int .i64 v7, .sl 1103 0], .bool v8], [(1103, .arr 3 0 0 (.ints v9))]⟩] [.keep [0, 3, 4, 5, 6] [3, 5, 1100, 1101, 1103]] (K' := [.code [(6, 0), (0, 0)] 0, .code [(6, 0)] 1, .code [] 7]) (σ' := ⟨[(0, .list (.bytes a0)), (3, .ptr 3 0), (4, .sl 1101 0), (5, .ptr 5 0), (6, .bool v8)], [(3, .box [.int .i64 v2, .sl 1100 0]), (5, .box [.int .i64 v7, .sl 1103 0]), (1100, .arr 3 0 0 (.ints v3)), (1101, .arr 3 0 0 (.ints v4)), (1103, .arr 3 0 0 (.ints v9))]⟩) rfl ⟨(fun _ => ((w_impl_GameOfDividends v2 v4 (v7, v8, v9) hk8).swap 1000 1103)), hd7, trivial⟩ rfl ?_
      obtain ⟨v10, hk9, h⟩ := bind_some h
      rcases bif_some h with ⟨hd10, h⟩ | ⟨hd10, h⟩
      · obtain ⟨v11, hk11, h⟩ := bind_some h
        refine Tri.run 1 [.r ⟨[], .bool v10, []⟩, .g true, .r ⟨[], .bool v11, []⟩] [.keep [0, 3, 4, 44] [3, 1100, 1101]] (K' := [.code [(6, 0)] 1, .code [] 7]) (σ' := ⟨[(0, .list (.bytes a0)), (3, .ptr 3 0), (4, .sl 1101 0), (44, .bool (v10 != v11))], [(3, .box [.int .i64 v2, .sl 1100 0]), (1100, .arr 3 0 0 (.ints v3)), (1101, .arr 3 0 0 (.ints v4))]⟩) rfl ⟨(fun _ => (w_spec_EqualGame v7 v9 v2 v3 v11 hk11)), hd10, (fun _ => (w_spec_IsValidGame v2 v3 v10 hk9)), trivial⟩ rfl ?_
        rcases bif_some h with ⟨hd12, h⟩ | ⟨hd12, h⟩
        · refine Tri.run 2 [.g true] [.keep [2] []] (K' := [.code [(6, 0), (1, 0)] 1, .code [] 7]) (σ' := ⟨[(2, .bool false)], []⟩) rfl ⟨hd12, trivial⟩ rfl ?_
          have h := Option.some.inj h
          subst h
          exact Tri.ret rfl ⟨.inl rfl, rfl, rfl⟩
        · obtain ⟨⟨v12, v13⟩, hk13, h⟩ := bind_some h
          refine Tri.run 3 [.g false, .r ⟨[], .tuple [.sl 1104 0, .bool v12], [(1104, .arr 54 0 0 (.rats v13))]⟩] [.keep [0, 4, 7, 9] [1101, 1104]] (K' := [.code [(8, 0), (1, 0)] 0, .blk 0, .code [] 9]) (σ' := ⟨[(0, .list (.bytes a0)), (4, .sl 1101 0), (7, .sl 1104 0), (9, .int .i64 (0 : Int))], [(1101, .arr 3 0 0 (.ints v4)), (1104, .arr 54 0 0 (.rats v13))]⟩) rfl ⟨(fun _ => ((w_spec_ShapleyValue v2 v3 (v12, v13) hk13).swap 1000 1104)), hd12, trivial⟩ rfl ?_
          obtain ⟨x2, hk25, h⟩ := bind_some h
          refine Tri.loop (K1 := [.code [(8, 0), (1, 0), (0, 0)] 0]) (K2 := [.blk 0, .code [] 9]) (fun v14 => ⟨[(0, .list (.bytes a0)), (4, .sl 1101 0), (7, .sl 1104 0), (9, .int .i64 v14)], [(1101, .arr 3 0 0 (.ints v4)), (1104, .arr 54 0 0 (.rats v13))]⟩) (fun x e σ' => match x with | (.inl _) => e = .exit 0 ∧ σ' = ⟨[(0, .list (.bytes a0))], []⟩ | (.inr r) => e = .ret ∧ q_laws_FnDividends r σ') hk25 rfl rfl ?_ ?_
          · intro v14 x hs
            clear h
            have h := hs
            clear hs
            refine Tri.run 1 [] [.keep [0, 4, 7, 9, 53] [1101, 1104]] (K' := [.code [(8, 0), (1, 0), (0, 0), (0, 0)] 1, .code [(8, 0), (1, 0), (0, 0)] 1]) (σ' := ⟨[(0, .list (.bytes a0)), (4, .sl 1101 0), (7, .sl 1104 0), (9, .int .i64 v14), (53, .bool (decide (v14 < (v13.length : Int))))], [(1101, .arr 3 0 0 (.ints v4)), (1104, .arr 54 0 0 (.rats v13))]⟩) rfl trivial rfl ?_
            rcases bif_some h with ⟨hd14, h⟩ | ⟨hd14, h⟩
            · refine Tri.run 3 [.g true] [.keep [0, 4, 7, 9, 10, 11] [1101, 1104]] (K' := [.code [(8, 0), (1, 0), (0, 0), (1, 0), (0, 0), (1, 0), (1, 0)] 0, .blk 2, .code [(8, 0), (1, 0), (0, 0), (1, 0), (0, 0)] 2, .blk 1, .code [(8, 0), (1, 0), (0, 0)] 2]) (σ' := ⟨[(0, .list (.bytes a0)), (4, .sl 1101 0), (7, .sl 1104 0), (9, .int .i64 v14), (10, .int .i64 (0 : Int)), (11, .int .i64 (1 : Int))], [(1101, .arr 3 0 0 (.ints v4)), (1104, .arr 54 0 0 (.rats v13))]⟩) rfl ⟨hd14, trivial⟩ rfl ?_
              obtain ⟨v19, hk21, h⟩ := bind_some h
              refine Tri.loop (K1 := [.code [(8, 0), (1, 0), (0, 0), (1, 0), (0, 0), (1, 0), (1, 0), (0, 0)] 0]) (K2 := [.blk 2, .code [(8, 0), (1, 0), (0, 0), (1, 0), (0, 0)] 2, .blk 1, .code [(8, 0), (1, 0), (0, 0)] 2]) (fun (v15, v16) => ⟨[(0, .list (.bytes a0)), (4, .sl 1101 0), (7, .sl 1104 0), (9, .int .i64 v14), (10, .int .i64 v15), (11, .int .i64 v16)], [(1101, .arr 3 0 0 (.ints v4)), (1104, .arr 54 0 0 (.rats v13))]⟩) (fun x e σ' => match x with | v19 => e = .exit 2 ∧ σ' = ⟨[(0, .list (.bytes a0)), (4, .sl 1101 0), (7, .sl 1104 0), (9, .int .i64 v14), (10, .int .i64 v19)], [(1101, .arr 3 0 0 (.ints v4)), (1104, .arr 54 0 0 (.rats v13))]⟩) hk21 rfl rfl ?_ ?_
              · intro s x hs
                clear h
                have h := hs
                clear hs
                obtain ⟨v15, v16⟩ := s
                refine Tri.run 1 [] [.keep [0, 4, 7, 9, 10, 11, 59] [1101, 1104]] (K' := [.code [(8, 0), (1, 0), (0, 0), (1, 0), (0, 0), (1, 0), (1, 0), (0, 0), (0, 0)] 1, .code [(8, 0), (1, 0), (0, 0), (1, 0), (0, 0), (1, 0), (1, 0), (0, 0)] 1]) (σ' := ⟨[(0, .list (.bytes a0)), (4, .sl 1101 0), (7, .sl 1104 0), (9, .int .i64 v14), (10, .int .i64 v15), (11, .int .i64 v16), (59, .bool (decide (v16 < (v4.length : Int))))], [(1101, .arr 3 0 0 (.ints v4)), (1104, .arr 54 0 0 (.rats v13))]⟩) rfl trivial rfl ?_
                rcases bif_some h with ⟨hd15, h⟩ | ⟨hd15, h⟩
                · obtain ⟨v17, hk16, h⟩ := bind_some h
                  refine Tri.run 2 [.g true, .r ⟨[], .bool v17, []⟩] [.keep [0, 4, 7, 9, 10, 11, 64] [1101, 1104]] (K' := [.code [(8, 0), (1, 0), (0, 0), (1, 0), (0, 0), (1, 0), (1, 0), (0, 0), (1, 0), (0, 0)] 1, .blk 3, .code [(8, 0), (1, 0), (0, 0), (1, 0), (0, 0), (1, 0), (1, 0), (0, 0)] 2]) (σ' := ⟨[(0, .list (.bytes a0)), (4, .sl 1101 0), (7, .sl 1104 0), (9, .int .i64 v14), (10, .int .i64 v15), (11, .int .i64 v16), (64, .bool v17)], [(1101, .arr 3 0 0 (.ints v4)), (1104, .arr 54 0 0 (.rats v13))]⟩) rfl ⟨(fun _ => (w_spec_HasPlayer v16 v14 v17 hk16)), hd15, trivial⟩ rfl ?_
                  rcases bif_some h with ⟨hd17, h⟩ | ⟨hd17, h⟩
                  · obtain ⟨hg18, h⟩ := grd_some h
                    obtain ⟨v18, hk19, h⟩ := bind_some h
                    obtain ⟨hg20, h⟩ := grd_some h
                    refine Tri.run 3 [.g true, .r ⟨[], .int .i64 v18, []⟩] [.keep [0, 4, 7, 9, 10, 11] [1101, 1104]] (K' := []) (σ' := ⟨[(0, .list (.bytes a0)), (4, .sl 1101 0), (7, .sl 1104 0), (9, .int .i64 v14), (10, .int .i64 (IntKind.i64.wrap (v15 + (IntKind.i64.wrap ((IntKind.i64.wrap ((v4.getD v16.toNat 0) * (60 : Int))).tdiv v18))))), (11, .int .i64 (IntKind.i64.wrap (v16 + (1 : Int))))], [(1101, .arr 3 0 0 (.ints v4)), (1104, .arr 54 0 0 (.rats v13))]⟩) rfl ⟨hg20, (fun _ => (w_spec_SizeOf v16 v18 hk19)), hg18, hd17, trivial⟩ rfl ?_
                    have h := Option.some.inj h
                    subst h
                    exact Tri.nil ⟨rfl, rfl⟩
                  · refine Tri.run 2 [.g false] [.keep [0, 4, 7, 9, 10, 11] [1101, 1104]] (K' := []) (σ' := ⟨[(0, .list (.bytes a0)), (4, .sl 1101 0), (7, .sl 1104 0), (9, .int .i64 v14), (10, .int .i64 v15), (11, .int .i64 (IntKind.i64.wrap (v16 + (1 : Int))))], [(1101, .arr 3 0 0 (.ints v4)), (1104, .arr 54 0 0 (.rats v13))]⟩) rfl ⟨hd17, trivial⟩ rfl ?_
                    have h := Option.some.inj h
                    subst h
                    exact Tri.nil ⟨rfl, rfl⟩
                · refine Tri.run 1 [.g false] [.keep [0, 4, 7, 9, 10] [1101, 1104]] (K' := [.code [(8, 0), (1, 0), (0, 0), (1, 0), (0, 0), (1, 0), (1, 0), (0, 0), (0, 0), (1, 1)] 0, .code [(8, 0), (1, 0), (0, 0), (1, 0), (0, 0), (1, 0), (1, 0), (0, 0)] 1]) (σ' := ⟨[(0, .list (.bytes a0)), (4, .sl 1101 0), (7, .sl 1104 0), (9, .int .i64 v14), (10, .int .i64 v15)], [(1101, .arr 3 0 0 (.ints v4)), (1104, .arr 54 0 0 (.rats v13))]⟩) rfl ⟨hd15, trivial⟩ rfl ?_
                  have h := Option.some.inj h
                  subst h
                  exact Tri.out 2 rfl ⟨nofun, rfl, rfl⟩
              · intro e σ' hne hq
                obtain ⟨rfl, rfl⟩ := hq
                refine TriX.exit (K' := [.code [(8, 0), (1, 0), (0, 0), (1, 0), (0, 0)] 2, .blk 1, .code [(8, 0), (1, 0), (0, 0)] 2]) rfl ?_
                obtain ⟨hg22, h⟩ := grd_some h
                obtain ⟨hg23, h⟩ := grd_some h
                refine Tri.run 1 [] [.keep [0, 4, 7, 9, 88] [1101, 1104]] (K' := [.code [(8, 0), (1, 0), (0, 0), (1, 0), (0, 0)] 3, .blk 1, .code [(8, 0), (1, 0), (0, 0)] 2]) (σ' := ⟨[(0, .list (.bytes a0)), (4, .sl 1101 0), (7, .sl 1104 0), (9, .int .i64 v14), (88, .bool ((IntKind.i64.wrap (((v13.getD v14.toNat ⟨0, 0⟩).num) * (60 : Int))) != (IntKind.i64.wrap (v19 * ((v13.getD v14.toNat ⟨0, 0⟩).den)))))], [(1101, .arr 3 0 0 (.ints v4)), (1104, .arr 54 0 0 (.rats v13))]⟩) rfl ⟨hg23, hg22, trivial⟩ rfl ?_
                rcases bif_some h with ⟨hd24, h⟩ | ⟨hd24, h⟩
                · refine Tri.run 2 [.g true] [.keep [2] []] (K' := [.code [(8, 0), (1, 0), (0, 0), (1, 0), (0, 0), (3, 0)] 1, .blk 1, .code [(8, 0), (1, 0), (0, 0)] 2]) (σ' := ⟨[(2, .bool false)], []⟩) rfl ⟨hd24, trivial⟩ rfl ?_
                  have h := Option.some.inj h
                  subst h
                  exact Tri.ret rfl ⟨nofun, rfl, rfl, rfl⟩
                · refine Tri.run 2 [.g false] [.keep [0, 4, 7, 9] [1101, 1104]] (K' := []) (σ' := ⟨[(0, .list (.bytes a0)), (4, .sl 1101 0), (7, .sl 1104 0), (9, .int .i64 (IntKind.i64.wrap (v14 + (1 : Int))))], [(1101, .arr 3 0 0 (.ints v4)), (1104, .arr 54 0 0 (.rats v13))]⟩) rfl ⟨hd24, trivial⟩ rfl ?_
                  have h := Option.some.inj h
                  subst h
                  exact Tri.nil ⟨rfl, rfl⟩
            · refine Tri.run 1 [.g false] [.keep [0] []] (K' := [.code [(8, 0), (1, 0), (0, 0), (0, 0), (1, 1)] 0, .code [(8, 0), (1, 0), (0, 0)] 1]) (σ' := ⟨[(0, .list (.bytes a0))], []⟩) rfl ⟨hd14, trivial⟩ rfl ?_
              have h := Option.some.inj h
              subst h
              exact Tri.out 0 rfl ⟨nofun, rfl, rfl⟩
          · intro e σ' hne hq
            rcases x2 with _ | r
            · obtain ⟨rfl, rfl⟩ := hq
              refine TriX.exit (K' := [.code [] 9]) rfl ?_
              obtain ⟨⟨v20, v21⟩, hk26, h⟩ := bind_some h
              obtain ⟨⟨v22, v23, v24⟩, hk27, h⟩ := bind_some h
              refine Tri.run 2 [.r ⟨[], .tuple [.int .i64 v20, .sl 1105 0], [(1105, .arr 3 0 0 (.ints v21))]⟩, .r ⟨[], .tuple [.agg [.int .i64 v22, .sl 1106 0], .bool v23], [(1106, .arr 3 0 0 (.ints v24))]⟩] [.keep [12, 13, 14, 15] [14, 1105, 1106]] (K' := [.code [(11, 0)] 0, .code [] 12]) (σ' := ⟨[(12, .int .i64 v20), (13, .sl 1105 0), (14, .ptr 14 0), (15, .bool v23)], [(14, .box [.int .i64 v22, .sl 1106 0]), (1105, .arr 3 0 0 (.ints v21)), (1106, .arr 3 0 0 (.ints v24))]⟩) rfl ⟨(fun _ => ((w_impl_GameOfDividends v20 v21 (v22, v23, v24) hk27).swap 1000 1106)), (fun _ => ((w_spec_DrawGameOfDividends a0 (v20, v21) hk26).swap 1000 1105)), trivial⟩ rfl ?_
              obtain ⟨⟨v25, v26, v27⟩, hk28, h⟩ := bind_some h
              rcases bif_some h with ⟨hd29, h⟩ | ⟨hd29, h⟩
              · obtain ⟨v28, hk30, h⟩ := bind_some h
                refine Tri.run 2 [.r ⟨[], .tuple [.agg [.int .i64 v25, .sl 1107 0], .bool v26], [(1107, .arr 3 0 0 (.ints v27))]⟩, .g true, .r ⟨[], .bool v28, []⟩] [.keep [2] []] (K' := [.code [] 13]) (σ' := ⟨[(2, .bool v28)], []⟩) rfl ⟨(fun _ => (w_spec_EqualGame v22 v24 v25 v27 v28 hk30)), hd29, (fun _ => ((w_spec_GameOfDividends v20 v21 (v25, v26, v27) hk28).swap 1000 1107)), trivial⟩ rfl ?_
                have h := Option.some.inj h
                subst h
                exact Tri.ret rfl ⟨.inl rfl, rfl, rfl⟩
              · refine Tri.run 2 [.r ⟨[], .tuple [.agg [.int .i64 v25, .sl 1107 0], .bool v26], [(1107, .arr 3 0 0 (.ints v27))]⟩, .g false] [.keep [2] []] (K' := [.code [] 13]) (σ' := ⟨[(2, .bool false)], []⟩) rfl ⟨hd29, (fun _ => ((w_spec_GameOfDividends v20 v21 (v25, v26, v27) hk28).swap 1000 1107)), trivial⟩ rfl ?_
                have h := Option.some.inj h
                subst h
                exact Tri.ret rfl ⟨.inl rfl, rfl, rfl⟩
            · obtain ⟨rfl, hq⟩ := hq
              have h := Option.some.inj h
              subst h
              exact TriX.ret ⟨.inl rfl, hq⟩
      · refine Tri.run 1 [.r ⟨[], .bool v10, []⟩, .g false] [.keep [0, 3, 4, 44] [3, 1100, 1101]] (K' := [.code [(6, 0)] 1, .code [] 7]) (σ' := ⟨[(0, .list (.bytes a0)), (3, .ptr 3 0), (4, .sl 1101 0), (44, .bool (v10 != false))], [(3, .box [.int .i64 v2, .sl 1100 0]), (1100, .arr 3 0 0 (.ints v3)), (1101, .arr 3 0 0 (.ints v4))]⟩) rfl ⟨hd10, (fun _ => (w_spec_IsValidGame v2 v3 v10 hk9)), trivial⟩ rfl ?_
        rcases bif_some h with ⟨hd31, h⟩ | ⟨hd31, h⟩
        · refine Tri.run 2 [.g true] [.keep [2] []] (K' := [.code [(6, 0), (1, 0)] 1, .code [] 7]) (σ' := ⟨[(2, .bool false)], []⟩) rfl ⟨hd31, trivial⟩ rfl ?_
          have h := Option.some.inj h
          subst h
          exact Tri.ret rfl ⟨.inl rfl, rfl, rfl⟩
        · obtain ⟨⟨v29, v30⟩, hk32, h⟩ := bind_some h
          refine Tri.run 3 [.g false, .r ⟨[], .tuple [.sl 1108 0, .bool v29], [(1108, .arr 54 0 0 (.rats v30))]⟩] [.keep [0, 4, 7, 9] [1101, 1108]] (K' := [.code [(8, 0), (1, 0)] 0, .blk 0, .code [] 9]) (σ' := ⟨[(0, .list (.bytes a0)), (4, .sl 1101 0), (7, .sl 1108 0), (9, .int .i64 (0 : Int))], [(1101, .arr 3 0 0 (.ints v4)), (1108, .arr 54 0 0 (.rats v30))]⟩) rfl ⟨(fun _ => ((w_spec_ShapleyValue v2 v3 (v29, v30) hk32).swap 1000 1108)), hd31, trivial⟩ rfl ?_
          obtain ⟨x4, hk44, h⟩ := bind_some h
          refine Tri.loop (K1 := [.code [(8, 0), (1, 0), (0, 0)] 0]) (K2 := [.blk 0, .code [] 9]) (fun v31 => ⟨[(0, .list (.bytes a0)), (4, .sl 1101 0), (7, .sl 1108 0), (9, .int .i64 v31)], [(1101, .arr 3 0 0 (.ints v4)), (1108, .arr 54 0 0 (.rats v30))]⟩) (fun x e σ' => match x with | (.inl _) => e = .exit 0 ∧ σ' = ⟨[(0, .list (.bytes a0))], []⟩ | (.inr r) => e = .ret ∧ q_laws_FnDividends r σ') hk44 rfl rfl ?_ ?_
          · intro v31 x hs
            clear h
            have h := hs
            clear hs
            refine Tri.run 1 [] [.keep [0, 4, 7, 9, 53] [1101, 1108]] (K' := [.code [(8, 0), (1, 0), (0, 0), (0, 0)] 1, .code [(8, 0), (1, 0), (0, 0)] 1]) (σ' := ⟨[(0, .list (.bytes a0)), (4, .sl 1101 0), (7, .sl 1108 0), (9, .int .i64 v31), (53, .bool (decide (v31 < (v30.length : Int))))], [(1101, .arr 3 0 0 (.ints v4)), (1108, .arr 54 0 0 (.rats v30))]⟩) rfl trivial rfl ?_
            rcases bif_some h with ⟨hd33, h⟩ | ⟨hd33, h⟩
            · refine Tri.run 3 [.g true] [.keep [0, 4, 7, 9, 10, 11] [1101, 1108]] (K' := [.code [(8, 0), (1, 0), (0, 0), (1, 0), (0, 0), (1, 0), (1, 0)] 0, .blk 2, .code [(8, 0), (1, 0), (0, 0), (1, 0), (0, 0)] 2, .blk 1, .code [(8, 0), (1, 0), (0, 0)] 2]) (σ' := ⟨[(0, .list (.bytes a0)), (4, .sl 1101 0), (7, .sl 1108 0), (9, .int .i64 v31), (10, .int .i64 (0 : Int)), (11, .int .i64 (1 : Int))], [(1101, .arr 3 0 0 (.ints v4)), (1108, .arr 54 0 0 (.rats v30))]⟩) rfl ⟨hd33, trivial⟩ rfl ?_
              obtain ⟨v36, hk40, h⟩ := bind_some h
              refine Tri.loop (K1 := [.code [(8, 0), (1, 0), (0, 0), (1, 0), (0, 0), (1, 0), (1, 0), (0, 0)] 0]) (K2 := [.blk 2, .code [(8, 0), (1, 0), (0, 0), (1, 0), (0, 0)] 2, .blk 1, .code [(8, 0), (1, 0), (0, 0)] 2]) (fun (v32, v33) => ⟨[(0, .list (.bytes a0)), (4, .sl 1101 0), (7, .sl 1108 0), (9, .int .i64 v31), (10, .int .i64 v32), (11, .int .i64 v33)], [(1101, .arr 3 0 0 (.ints v4)), (1108, .arr 54 0 0 (.rats v30))]⟩) (fun x e σ' => match x with | v36 => e = .exit 2 ∧ σ' = ⟨[(0, .list (.bytes a0)), (4, .sl 1101 0), (7, .sl 1108 0), (9, .int .i64 v31), (10, .int .i64 v36)], [(1101, .arr 3 0 0 (.ints v4)), (1108, .arr 54 0 0 (.rats v30))]⟩) hk40 rfl rfl ?_ ?_
              · intro s x hs
                clear h
                have h := hs
                clear hs
                obtain ⟨v32, v33⟩ := s
                refine Tri.run 1 [] [.keep [0, 4, 7, 9, 10, 11, 59] [1101, 1108]] (K' := [.code [(8, 0), (1, 0), (0, 0), (1, 0), (0, 0), (1, 0), (1, 0), (0, 0), (0, 0)] 1, .code [(8, 0), (1, 0), (0, 0), (1, 0), (0, 0), (1, 0), (1, 0), (0, 0)] 1]) (σ' := ⟨[(0, .list (.bytes a0)), (4, .sl 1101 0), (7, .sl 1108 0), (9, .int .i64 v31), (10, .int .i64 v32), (11, .int .i64 v33), (59, .bool (decide (v33 < (v4.length : Int))))], [(1101, .arr 3 0 0 (.ints v4)), (1108, .arr 54 0 0 (.rats v30))]⟩) rfl trivial rfl ?_
                rcases bif_some h with ⟨hd34, h⟩ | ⟨hd34, h⟩
                · obtain ⟨v34, hk35, h⟩ := bind_some h
                  refine Tri.run 2 [.g true, .r ⟨[], .bool v34, []⟩] [.keep [0, 4, 7, 9, 10, 11, 64] [1101, 1108]] (K' := [.code [(8, 0), (1, 0), (0, 0), (1, 0), (0, 0), (1, 0), (1, 0), (0, 0), (1, 0), (0, 0)] 1, .blk 3, .code [(8, 0), (1, 0), (0, 0), (1, 0), (0, 0), (1, 0), (1, 0), (0, 0)] 2]) (σ' := ⟨[(0, .list (.bytes a0)), (4, .sl 1101 0), (7, .sl 1108 0), (9, .int .i64 v31), (10, .int .i64 v32), (11, .int .i64 v33), (64, .bool v34)], [(1101, .arr 3 0 0 (.ints v4)), (1108, .arr 54 0 0 (.rats v30))]⟩) rfl ⟨(fun _ => (w_spec_HasPlayer v33 v31 v34 hk35)), hd34, trivial⟩ rfl ?_
                  rcases bif_some h with ⟨hd36, h⟩ | ⟨hd36, h⟩
                  · obtain ⟨hg37, h⟩ := grd_some h
                    obtain ⟨v35, hk38, h⟩ := bind_some h
                    obtain ⟨hg39, h⟩ := grd_some h
                    refine Tri.run 3 [.g true, .r ⟨[], .int .i64 v35, []⟩] [.keep [0, 4, 7, 9, 10, 11] [1101, 1108]] (K' := []) (σ' := ⟨[(0, .list (.bytes a0)), (4, .sl 1101 0), (7, .sl 1108 0), (9, .int .i64 v31), (10, .int .i64 (IntKind.i64.wrap (v32 + (IntKind.i64.wrap ((IntKind.i64.wrap ((v4.getD v33.toNat 0) * (60 : Int))).tdiv v35))))), (11, .int .i64 (IntKind.i64.wrap (v33 + (1 : Int))))], [(1101, .arr 3 0 0 (.ints v4)), (1108, .arr 54 0 0 (.rats v30))]⟩) rfl ⟨hg39, (fun _ => (w_spec_SizeOf v33 v35 hk38)), hg37, hd36, trivial⟩ rfl ?_
                    have h := Option.some.inj h
                    subst h
                    exact Tri.nil ⟨rfl, rfl⟩
                  · refine Tri.run 2 [.g false] [.keep [0, 4, 7, 9, 10, 11] [1101, 1108]] (K' := []) (σ' := ⟨[(0, .list (.bytes a0)), (4, .sl 1101 0), (7, .sl 1108 0), (9, .int .i64 v31), (10, .int .i64 v32), (11, .int .i64 (IntKind.i64.wrap (v33 + (1 : Int))))], [(1101, .arr 3 0 0 (.ints v4)), (1108, .arr 54 0 0 (.rats v30))]⟩) rfl ⟨hd36, trivial⟩ rfl ?_
                    have h := Option.some.inj h
                    subst h
                    exact Tri.nil ⟨rfl, rfl⟩
                · refine Tri.run 1 [.g false] [.keep [0, 4, 7, 9, 10] [1101, 1108]] (K' := [.code [(8, 0), (1, 0), (0, 0), (1, 0), (0, 0), (1, 0), (1, 0), (0, 0), (0, 0), (1, 1)] 0, .code [(8, 0), (1, 0), (0, 0), (1, 0), (0, 0), (1, 0), (1, 0), (0, 0)] 1]) (σ' := ⟨[(0, .list (.bytes a0)), (4, .sl 1101 0), (7, .sl 1108 0), (9, .int .i64 v31), (10, .int .i64 v32)], [(1101, .arr 3 0 0 (.ints v4)), (1108, .arr 54 0 0 (.rats v30))]⟩) rfl ⟨hd34, trivial⟩ rfl ?_
                  have h := Option.some.inj h
                  subst h
                  exact Tri.out 2 rfl ⟨nofun, rfl, rfl⟩
              · intro e σ' hne hq
                obtain ⟨rfl, rfl⟩ := hq
                refine TriX.exit (K' := [.code [(8, 0), (1, 0), (0, 0), (1, 0), (0, 0)] 2, .blk 1, .code [(8, 0), (1, 0), (0, 0)] 2]) rfl ?_
                obtain ⟨hg41, h⟩ := grd_some h
                obtain ⟨hg42, h⟩ := grd_some h
                refine Tri.run 1 [] [.keep [0, 4, 7, 9, 88] [1101, 1108]] (K' := [.code [(8, 0), (1, 0), (0, 0), (1, 0), (0, 0)] 3, .blk 1, .code [(8, 0), (1, 0), (0, 0)] 2]) (σ' := ⟨[(0, .list (.bytes a0)), (4, .sl 1101 0), (7, .sl 1108 0), (9, .int .i64 v31), (88, .bool ((IntKind.i64.wrap (((v30.getD v31.toNat ⟨0, 0⟩).num) * (60 : Int))) != (IntKind.i64.wrap (v36 * ((v30.getD v31.toNat ⟨0, 0⟩).den)))))], [(1101, .arr 3 0 0 (.ints v4)), (1108, .arr 54 0 0 (.rats v30))]⟩) rfl ⟨hg42, hg41, trivial⟩ rfl ?_
                rcases bif_some h with ⟨hd43, h⟩ | ⟨hd43, h⟩
                · refine Tri.run 2 [.g true] [.keep [2] []] (K' := [.code [(8, 0), (1, 0), (0, 0), (1, 0), (0, 0), (3, 0)] 1, .blk 1, .code [(8, 0), (1, 0), (0, 0)] 2]) (σ' := ⟨[(2, .bool false)], []⟩) rfl ⟨hd43, trivial⟩ rfl ?_
                  have h := Option.some.inj h
                  subst h
                  exact Tri.ret rfl ⟨nofun, rfl, rfl, rfl⟩
                · refine Tri.run 2 [.g false] [.keep [0, 4, 7, 9] [1101, 1108]] (K' := []) (σ' := ⟨[(0, .list (.bytes a0)), (4, .sl 1101 0), (7, .sl 1108 0), (9, .int .i64 (IntKind.i64.wrap (v31 + (1 : Int))))], [(1101, .arr 3 0 0 (.ints v4)), (1108, .arr 54 0 0 (.rats v30))]⟩) rfl ⟨hd43, trivial⟩ rfl ?_
                  have h := Option.some.inj h
                  subst h
                  exact Tri.nil ⟨rfl, rfl⟩
            · refine Tri.run 1 [.g false] [.keep [0] []] (K' := [.code [(8, 0), (1, 0), (0, 0), (0, 0), (1, 1)] 0, .code [(8, 0), (1, 0), (0, 0)] 1]) (σ' := ⟨[(0, .list (.bytes a0))], []⟩) rfl ⟨hd33, trivial⟩ rfl ?_
              have h := Option.some.inj h
              subst h
              exact Tri.out 0 rfl ⟨nofun, rfl, rfl⟩
          · intro e σ' hne hq
            rcases x4 with _ | r
            · obtain ⟨rfl, rfl⟩ := hq
              refine TriX.exit (K' := [.code [] 9]) rfl ?_
              obtain ⟨⟨v37, v38⟩, hk45, h⟩ := bind_some h
              obtain ⟨⟨v39, v40, v41⟩, hk46, h⟩ := bind_some h
              refine Tri.run 2 [.r ⟨[], .tuple [.int .i64 v37, .sl 1109 0], [(1109, .arr 3 0 0 (.ints v38))]⟩, .r ⟨[], .tuple [.agg [.int .i64 v39, .sl 1110 0], .bool v40], [(1110, .arr 3 0 0 (.ints v41))]⟩] [.keep [12, 13, 14, 15] [14, 1109, 1110]] (K' := [.code [(11, 0)] 0, .code [] 12]) (σ' := ⟨[(12, .int .i64 v37), (13, .sl 1109 0), (14, .ptr 14 0), (15, .bool v40)], [(14, .box [.int .i64 v39, .sl 1110 0]), (1109, .arr 3 0 0 (.ints v38)), (1110, .arr 3 0 0 (.ints v41))]⟩) rfl ⟨(fun _ => ((w_impl_GameOfDividends v37 v38 (v39, v40, v41) hk46).swap 1000 1110)), (fun _ => ((w_spec_DrawGameOfDividends a0 (v37, v38) hk45).swap 1000 1109)), trivial⟩ rfl ?_
              obtain ⟨⟨v42, v43, v44⟩, hk47, h⟩ := bind_some h
              rcases bif_some h with ⟨hd48, h⟩ | ⟨hd48, h⟩
              · obtain ⟨v45, hk49, h⟩ := bind_some h
                refine Tri.run 2 [.r ⟨[], .tuple [.agg [.int .i64 v42, .sl 1111 0], .bool v43], [(1111, .arr 3 0 0 (.ints v44))]⟩, .g true, .r ⟨[], .bool v45, []⟩] [.keep [2] []] (K' := [.code [] 13]) (σ' := ⟨[(2, .bool v45)], []⟩) rfl ⟨(fun _ => (w_spec_EqualGame v39 v41 v42 v44 v45 hk49)), hd48, (fun _ => ((w_spec_GameOfDividends v37 v38 (v42, v43, v44) hk47).swap 1000 1111)), trivial⟩ rfl ?_
                have h := Option.some.inj h
                subst h
                exact Tri.ret rfl ⟨.inl rfl, rfl, rfl⟩
              · refine Tri.run 2 [.r ⟨[], .tuple [.agg [.int .i64 v42, .sl 1111 0], .bool v43], [(1111, .arr 3 0 0 (.ints v44))]⟩, .g false] [.keep [2] []] (K' := [.code [] 13]) (σ' := ⟨[(2, .bool false)], []⟩) rfl ⟨hd48, (fun _ => ((w_spec_GameOfDividends v37 v38 (v42, v43, v44) hk47).swap 1000 1111)), trivial⟩ rfl ?_
                have h := Option.some.inj h
                subst h
                exact Tri.ret rfl ⟨.inl rfl, rfl, rfl⟩
            · obtain ⟨rfl, hq⟩ := hq
              have h := Option.some.inj h
              subst h
              exact TriX.ret ⟨.inl rfl, hq⟩
end Go.Proofs.Ytmlfjoppaciknaa
