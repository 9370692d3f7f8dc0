/- models and walks -/
import Derived.Test.YtmlfjoppaciknaaProg
import Derived.Test.YtmlfjoppaciknaaAmB
namespace Go.Proofs.Ytmlfjoppaciknaa
open Go.AM
set_option maxRecDepth 100000
set_option maxHeartbeats 4000000
noncomputable def tys : TEnv := [(3, .int .i64),
  (4, .bool),
  (5, .int .u8),
  (22, .slice 5 (.bytes [])),
  (24, .slice 3 (.ints [])),
  (26, .struct [(0, 3), (1, 24)] [.int .i64 0, .nil (.ints [])] false),
  (82, .struct [(0, 22), (1, 3), (2, 3)] [.nil (.bytes []), .int .i64 0, .int .i64 0] false)]
theorem tysOk : TOk Try.prog tys := tok_of (by kernel_rfl)
theorem mixedOk : Try.prog.follows .mixedOrders = true := by kernel_rfl
/-! laws.big -/
noncomputable def E7_laws_big : Env := ⟨Try.prog, tys, (Try.f7.body).getD .skip, 6, tysOk, mixedOk⟩
abbrev q_laws_big (r : Bool) (σ' : ASt) : Prop := resAV E7_laws_big.T σ' Try.f7.results.toList = some (.bool r) ∧ keepO σ'.ob (namesO []) = []
noncomputable def m_laws_big (a0 : List UInt8) : Option Bool :=
some (decide ((a0.length : Int) > (1048576 : Int)))
theorem w_laws_big (a0 : List UInt8) (r : Bool) (h : m_laws_big a0 = some r) : AM.Spec Try.prog 7 [.list (.bytes a0)] [] (.bool r) [] := by
  refine spec_of (E := E7_laws_big) Try.func7 rfl rfl rfl rfl ?_
  refine Tri.run 2 [] [.keep [2] []] (K' := [.code [] 2]) (σ' := ⟨[(2, .bool (decide ((a0.length : Int) > (1048576 : Int))))], []⟩) rfl trivial rfl ?_
  have h := Option.some.inj h
  subst h
  exact Tri.ret rfl ⟨.inl rfl, rfl, rfl⟩
/-! spec.l1New -/
noncomputable def E55_spec_l1New : Env := ⟨Try.prog, tys, (Try.f55.body).getD .skip, 32, tysOk, mixedOk⟩
abbrev q_spec_l1New_io2 (r : (List UInt8) × Int × Int × (List Int) × Int) (σ' : ASt) : Prop := resAV E55_spec_l1New.T σ' Try.f55.results.toList = some (.ptr 1000 0) ∧ keepO σ'.ob (namesO [(1000, .box [.list (.bytes r.1), .int .i64 r.2.1, .int .i64 r.2.2.1]), (1001, .arr 3 0 0 (.ints r.2.2.2.1)), (2000, .box [.int .i64 r.2.2.2.2, .sl 1001 0])]) = [(1000, .box [.list (.bytes r.1), .int .i64 r.2.1, .int .i64 r.2.2.1]), (1001, .arr 3 0 0 (.ints r.2.2.2.1)), (2000, .box [.int .i64 r.2.2.2.2, .sl 1001 0])]
noncomputable def l_spec_l1New_io2_0 (a2 : List UInt8) : (Int × Int) → Option ((Int × Int) ⊕ Int)
  | (v1, v2) => (
bif decide (v2 < (a2.length : Int)) then
(bif decide (v2 < (4000 : Int)) then
(grd ((0 : Int) ≤ v2 ∧ v2 < (a2.length : Int)) <|
some (.inl (bitsOf .and .i64 (IntKind.i64.wrap ((IntKind.i64.wrap ((IntKind.i64.wrap (v1 * (131 : Int))) + (IntKind.i64.wrap (((a2.getD v2.toNat 0).toNat : Int))))) + (7 : Int))) (1073741823 : Int), IntKind.i64.wrap (v2 + (1 : Int)))))
else
(some (.inr v1)))
else
(some (.inr v1)))
noncomputable def m_spec_l1New_io2 (a0 : Int) (a1 : List Int) (a2 : List UInt8) : Option ((List UInt8) × Int × Int × (List Int) × Int) :=
(iter (l_spec_l1New_io2_0 a2) (IntKind.i64.wrap ((26583 : Int) + (a2.length : Int)), (0 : Int))).bind fun
| v3 => (
some (a2, 0, v3, a1, a0))
theorem w_spec_l1New_io2 (a0 : Int) (a1 : List Int) (a2 : List UInt8) (r : (List UInt8) × Int × Int × (List Int) × Int) (h : m_spec_l1New_io2 a0 a1 a2 = some r) : AM.Spec Try.prog 55 [.list (.bytes a2)] [(2000, .box [.int .i64 a0, .sl 2001 0]), (2001, .arr 3 0 0 (.ints a1))] (.ptr 1000 0) [(1000, .box [.list (.bytes r.1), .int .i64 r.2.1, .int .i64 r.2.2.1]), (1001, .arr 3 0 0 (.ints r.2.2.2.1)), (2000, .box [.int .i64 r.2.2.2.2, .sl 1001 0])] := by
  refine spec_of (E := E55_spec_l1New) Try.func55 rfl rfl rfl rfl ?_
  refine Tri.run 3 [] [.keep [0, 3, 4] [2000, 2001]] (K' := [.code [(2, 0), (1, 0)] 0, .blk 0, .code [] 3]) (σ' := ⟨[(0, .list (.bytes a2)), (3, .int .i64 (IntKind.i64.wrap ((26583 : Int) + (a2.length : Int)))), (4, .int .i64 (0 : Int))], [(2000, .box [.int .i64 a0, .sl 2001 0]), (2001, .arr 3 0 0 (.ints a1))]⟩) rfl trivial rfl ?_
  obtain ⟨v3, hk4, h⟩ := bind_some h
  refine Tri.loop (K1 := [.code [(2, 0), (1, 0), (0, 0)] 0]) (K2 := [.blk 0, .code [] 3]) (fun (v1, v2) => ⟨[(0, .list (.bytes a2)), (3, .int .i64 v1), (4, .int .i64 v2)], [(2000, .box [.int .i64 a0, .sl 2001 0]), (2001, .arr 3 0 0 (.ints a1))]⟩) (fun x e σ' => match x with | v3 => e = .exit 0 ∧ σ' = ⟨[(0, .list (.bytes a2)), (3, .int .i64 v3)], [(2000, .box [.int .i64 a0, .sl 2001 0]), (2001, .arr 3 0 0 (.ints a1))]⟩) hk4 rfl rfl ?_ ?_
  · intro s x hs
    clear h
    have h := hs
    clear hs
    obtain ⟨v1, v2⟩ := s
    rcases bif_some h with ⟨hd1, h⟩ | ⟨hd1, h⟩
    · refine Tri.run 1 [.g true] [.keep [0, 3, 4, 15] [2000, 2001]] (K' := [.code [(2, 0), (1, 0), (0, 0), (0, 0)] 1, .code [(2, 0), (1, 0), (0, 0)] 1]) (σ' := ⟨[(0, .list (.bytes a2)), (3, .int .i64 v1), (4, .int .i64 v2), (15, .bool (decide (v2 < (4000 : Int))))], [(2000, .box [.int .i64 a0, .sl 2001 0]), (2001, .arr 3 0 0 (.ints a1))]⟩) rfl ⟨hd1, trivial⟩ rfl ?_
      rcases bif_some h with ⟨hd2, h⟩ | ⟨hd2, h⟩
      · obtain ⟨hg3, h⟩ := grd_some h
        refine Tri.run 3 [.g true] [.keep [0, 3, 4] [2000, 2001]] (K' := []) (σ' := ⟨[(0, .list (.bytes a2)), (3, .int .i64 (bitsOf .and .i64 (IntKind.i64.wrap ((IntKind.i64.wrap ((IntKind.i64.wrap (v1 * (131 : Int))) + (IntKind.i64.wrap (((a2.getD v2.toNat 0).toNat : Int))))) + (7 : Int))) (1073741823 : Int))), (4, .int .i64 (IntKind.i64.wrap (v2 + (1 : Int))))], [(2000, .box [.int .i64 a0, .sl 2001 0]), (2001, .arr 3 0 0 (.ints a1))]⟩) rfl ⟨hg3, hd2, trivial⟩ rfl ?_
        have h := Option.some.inj h
        subst h
        exact Tri.nil ⟨rfl, rfl⟩
      · refine Tri.run 1 [.g false] [.keep [0, 3] [2000, 2001]] (K' := [.code [(2, 0), (1, 0), (0, 0), (0, 0), (1, 1)] 0, .code [(2, 0), (1, 0), (0, 0)] 1]) (σ' := ⟨[(0, .list (.bytes a2)), (3, .int .i64 v1)], [(2000, .box [.int .i64 a0, .sl 2001 0]), (2001, .arr 3 0 0 (.ints a1))]⟩) rfl ⟨hd2, trivial⟩ rfl ?_
        have h := Option.some.inj h
        subst h
        exact Tri.out 0 rfl ⟨nofun, rfl, rfl⟩
    · refine Tri.run 1 [.g false] [.keep [0, 3, 4, 15] [2000, 2001]] (K' := [.code [(2, 0), (1, 0), (0, 0), (0, 0)] 1, .code [(2, 0), (1, 0), (0, 0)] 1]) (σ' := ⟨[(0, .list (.bytes a2)), (3, .int .i64 v1), (4, .int .i64 v2), (15, .bool false)], [(2000, .box [.int .i64 a0, .sl 2001 0]), (2001, .arr 3 0 0 (.ints a1))]⟩) rfl ⟨hd1, trivial⟩ rfl ?_
      refine Tri.run 1 [.g false] [.keep [0, 3] [2000, 2001]] (K' := [.code [(2, 0), (1, 0), (0, 0), (0, 0), (1, 1)] 0, .code [(2, 0), (1, 0), (0, 0)] 1]) (σ' := ⟨[(0, .list (.bytes a2)), (3, .int .i64 v1)], [(2000, .box [.int .i64 a0, .sl 2001 0]), (2001, .arr 3 0 0 (.ints a1))]⟩) rfl ⟨rfl, trivial⟩ rfl ?_
      have h := Option.some.inj h
      subst h
      exact Tri.out 0 rfl ⟨nofun, rfl, rfl⟩
  · intro e σ' hne hq
    obtain ⟨rfl, rfl⟩ := hq
    refine TriX.exit (K' := [.code [] 3]) rfl ?_
    refine Tri.run 1 [] [.swap 2001 1100, .swap 31 1000, .swap 1100 1001, .keep [2] [1000, 1001, 2000]] (K' := [.code [] 4]) (σ' := ⟨[(2, .ptr 1000 0)], [(1000, .box [.list (.bytes a2), .int .i64 0, .int .i64 v3]), (1001, .arr 3 0 0 (.ints a1)), (2000, .box [.int .i64 a0, .sl 1001 0])]⟩) rfl trivial rfl ?_
    have h := Option.some.inj h
    subst h
    exact Tri.ret rfl ⟨.inl rfl, rfl, rfl⟩
/-! spec.l1Byte -/
noncomputable def E108_spec_l1Byte : Env := ⟨Try.prog, tys, (Try.f108.body).getD .skip, 58, tysOk, mixedOk⟩
abbrev q_spec_l1Byte_io1 (x0 : Value) (a0 : List UInt8) (r : Int × Int × Int) (σ' : ASt) : Prop := resAV E108_spec_l1Byte.T σ' Try.f108.results.toList = some (.int .i64 r.1) ∧ keepO σ'.ob (namesO [(2080, .box [.lst x0 (.bytes a0), .int .i64 r.2.1, .int .i64 r.2.2])]) = [(2080, .box [.lst x0 (.bytes a0), .int .i64 r.2.1, .int .i64 r.2.2])]
noncomputable def m_spec_l1Byte_io1 (a0 : List UInt8) (a1 : Int) (a2 : Int) : Option (Int × Int × Int) :=
grd ((0 : Int) ≤ (33 : Int)) <|
grd ((0 : Int) ≤ (45 : Int)) <|
((some (bitsOf .and .i64 (bitsOf .xor .i64 ((IntKind.i64.wrap ((IntKind.i64.wrap (a2 * (6364136223846793005 : Int))) + (1442695040888963407 : Int))).fdiv (2 ^ (min (33 : Int).toNat 64))) ((IntKind.i64.wrap ((IntKind.i64.wrap (a2 * (6364136223846793005 : Int))) + (1442695040888963407 : Int))).fdiv (2 ^ (min (45 : Int).toNat 64)))) (255 : Int) : Int)).bind fun v1 =>
bif decide (a1 < (a0.length : Int)) then
(grd ((0 : Int) ≤ a1 ∧ a1 < (a0.length : Int)) <|
some (bitsOf .and .i64 (IntKind.i64.wrap (v1 + (IntKind.i64.wrap (((a0.getD a1.toNat 0).toNat : Int))))) (255 : Int), IntKind.i64.wrap (a1 + (1 : Int)), IntKind.i64.wrap ((IntKind.i64.wrap (a2 * (6364136223846793005 : Int))) + (1442695040888963407 : Int))))
else
(some (v1, a1, IntKind.i64.wrap ((IntKind.i64.wrap (a2 * (6364136223846793005 : Int))) + (1442695040888963407 : Int)))))
theorem w_spec_l1Byte_io1 (x0 : Value) (a0 : List UInt8) (a1 : Int) (a2 : Int) (r : Int × Int × Int) (h : m_spec_l1Byte_io1 a0 a1 a2 = some r) : AM.Spec Try.prog 108 [.ptr 2080 0] [(2080, .box [.lst x0 (.bytes a0), .int .i64 a1, .int .i64 a2])] (.int .i64 r.1) [(2080, .box [.lst x0 (.bytes a0), .int .i64 r.2.1, .int .i64 r.2.2])] := by
  refine spec_of (E := E108_spec_l1Byte) Try.func108 rfl rfl rfl rfl ?_
  obtain ⟨hg1, h⟩ := grd_some h
  obtain ⟨hg2, h⟩ := grd_some h
  refine Tri.run 3 [] [.keep [0, 3] [2080]] (K' := [.code [(3, 0), (0, 0)] 0, .code [(3, 0)] 1, .code [] 4]) (σ' := ⟨[(0, .ptr 2080 0), (3, .int .i64 (bitsOf .and .i64 (bitsOf .xor .i64 ((IntKind.i64.wrap ((IntKind.i64.wrap (a2 * (6364136223846793005 : Int))) + (1442695040888963407 : Int))).fdiv (2 ^ (min (33 : Int).toNat 64))) ((IntKind.i64.wrap ((IntKind.i64.wrap (a2 * (6364136223846793005 : Int))) + (1442695040888963407 : Int))).fdiv (2 ^ (min (45 : Int).toNat 64)))) (255 : Int)))], [(2080, .box [.lst x0 (.bytes a0), .int .i64 a1, .int .i64 (IntKind.i64.wrap ((IntKind.i64.wrap (a2 * (6364136223846793005 : Int))) + (1442695040888963407 : Int)))])]⟩) rfl ⟨hg2, hg1, trivial⟩ rfl ?_
  obtain ⟨v1, hk3, h⟩ := bind_some h
  have hk3 := Option.some.inj hk3
  rw [hk3]
  refine Tri.run 1 [] [.keep [0, 3, 34] [2080]] (K' := [.code [(3, 0)] 1, .code [] 4]) (σ' := ⟨[(0, .ptr 2080 0), (3, .int .i64 v1), (34, .bool (decide (a1 < (a0.length : Int))))], [(2080, .box [.lst x0 (.bytes a0), .int .i64 a1, .int .i64 (IntKind.i64.wrap ((IntKind.i64.wrap (a2 * (6364136223846793005 : Int))) + (1442695040888963407 : Int)))])]⟩) rfl trivial rfl ?_
  rcases bif_some h with ⟨hd4, h⟩ | ⟨hd4, h⟩
  · obtain ⟨hg5, h⟩ := grd_some h
    refine Tri.run 3 [.g true] [.keep [3] [2080]] (K' := [.code [(4, 0)] 0, .code [] 5]) (σ' := ⟨[(3, .int .i64 (bitsOf .and .i64 (IntKind.i64.wrap (v1 + (IntKind.i64.wrap (((a0.getD a1.toNat 0).toNat : Int))))) (255 : Int)))], [(2080, .box [.lst x0 (.bytes a0), .int .i64 (IntKind.i64.wrap (a1 + (1 : Int))), .int .i64 (IntKind.i64.wrap ((IntKind.i64.wrap (a2 * (6364136223846793005 : Int))) + (1442695040888963407 : Int)))])]⟩) rfl ⟨hg5, hd4, trivial⟩ rfl ?_
    refine Tri.run 1 [] [.keep [2] [2080]] (K' := [.code [] 5]) (σ' := ⟨[(2, .int .i64 (bitsOf .and .i64 (IntKind.i64.wrap (v1 + (IntKind.i64.wrap (((a0.getD a1.toNat 0).toNat : Int))))) (255 : Int)))], [(2080, .box [.lst x0 (.bytes a0), .int .i64 (IntKind.i64.wrap (a1 + (1 : Int))), .int .i64 (IntKind.i64.wrap ((IntKind.i64.wrap (a2 * (6364136223846793005 : Int))) + (1442695040888963407 : Int)))])]⟩) rfl trivial rfl ?_
    have h := Option.some.inj h
    subst h
    exact Tri.ret rfl ⟨.inl rfl, rfl, rfl⟩
  · refine Tri.run 2 [.g false] [.keep [2] [2080]] (K' := [.code [] 5]) (σ' := ⟨[(2, .int .i64 v1)], [(2080, .box [.lst x0 (.bytes a0), .int .i64 a1, .int .i64 (IntKind.i64.wrap ((IntKind.i64.wrap (a2 * (6364136223846793005 : Int))) + (1442695040888963407 : Int)))])]⟩) rfl ⟨hd4, trivial⟩ rfl ?_
    have h := Option.some.inj h
    subst h
    exact Tri.ret rfl ⟨.inl rfl, rfl, rfl⟩
/-! spec.l1Below -/
noncomputable def E99_spec_l1Below : Env := ⟨Try.prog, tys, (Try.f99.body).getD .skip, 37, tysOk, mixedOk⟩
abbrev q_spec_l1Below_io1 (x0 : Value) (a0 : List UInt8) (r : Int × Int × Int) (σ' : ASt) : Prop := resAV E99_spec_l1Below.T σ' Try.f99.results.toList = some (.int .i64 r.1) ∧ keepO σ'.ob (namesO [(2060, .box [.lst x0 (.bytes a0), .int .i64 r.2.1, .int .i64 r.2.2])]) = [(2060, .box [.lst x0 (.bytes a0), .int .i64 r.2.1, .int .i64 r.2.2])]
noncomputable def m_spec_l1Below_io1 (a0 : List UInt8) (a1 : Int) (a2 : Int) (a3 : Int) : Option (Int × Int × Int) :=
bif decide (a3 ≤ (0 : Int)) then
(some ((0 : Int), a1, a2))
else
(bif decide (a3 ≤ (256 : Int)) then
((m_spec_l1Byte_io1 a0 a1 a2).bind fun (v1, v2, v3) =>
grd (a3 ≠ 0) <|
some (v1.tmod a3, v2, v3))
else
((m_spec_l1Byte_io1 a0 a1 a2).bind fun (v4, v5, v6) =>
(m_spec_l1Byte_io1 a0 v5 v6).bind fun (v7, v8, v9) =>
(m_spec_l1Byte_io1 a0 v8 v9).bind fun (v10, v11, v12) =>
(m_spec_l1Byte_io1 a0 v11 v12).bind fun (v13, v14, v15) =>
grd (a3 ≠ 0) <|
some ((IntKind.i64.wrap ((IntKind.i64.wrap ((IntKind.i64.wrap ((IntKind.i64.wrap (v4 * (16777216 : Int))) + (IntKind.i64.wrap (v7 * (65536 : Int))))) + (IntKind.i64.wrap (v10 * (256 : Int))))) + v13)).tmod a3, v14, v15)))
theorem w_spec_l1Below_io1 (x0 : Value) (a0 : List UInt8) (a1 : Int) (a2 : Int) (a3 : Int) (r : Int × Int × Int) (h : m_spec_l1Below_io1 a0 a1 a2 a3 = some r) : AM.Spec Try.prog 99 [.ptr 2060 0, .int .i64 a3] [(2060, .box [.lst x0 (.bytes a0), .int .i64 a1, .int .i64 a2])] (.int .i64 r.1) [(2060, .box [.lst x0 (.bytes a0), .int .i64 r.2.1, .int .i64 r.2.2])] := by
  refine spec_of (E := E99_spec_l1Below) Try.func99 rfl rfl rfl rfl ?_
  refine Tri.run 2 [] [.keep [0, 1, 10] [2060]] (K' := [.code [(1, 0)] 1, .code [] 2]) (σ' := ⟨[(0, .ptr 2060 0), (1, .int .i64 a3), (10, .bool (decide (a3 ≤ (0 : Int))))], [(2060, .box [.lst x0 (.bytes a0), .int .i64 a1, .int .i64 a2])]⟩) rfl trivial rfl ?_
  rcases bif_some h with ⟨hd1, h⟩ | ⟨hd1, h⟩
  · refine Tri.run 2 [.g true] [.keep [4] [2060]] (K' := [.code [(1, 0), (1, 0)] 1, .code [] 2]) (σ' := ⟨[(4, .int .i64 (0 : Int))], [(2060, .box [.lst x0 (.bytes a0), .int .i64 a1, .int .i64 a2])]⟩) rfl ⟨hd1, trivial⟩ rfl ?_
    have h := Option.some.inj h
    subst h
    exact Tri.ret rfl ⟨.inl rfl, rfl, rfl⟩
  · refine Tri.run 2 [.g false] [.keep [0, 1, 12] [2060]] (K' := [.code [(2, 0)] 1, .code [] 3]) (σ' := ⟨[(0, .ptr 2060 0), (1, .int .i64 a3), (12, .bool (decide (a3 ≤ (256 : Int))))], [(2060, .box [.lst x0 (.bytes a0), .int .i64 a1, .int .i64 a2])]⟩) rfl ⟨hd1, trivial⟩ rfl ?_
    rcases bif_some h with ⟨hd2, h⟩ | ⟨hd2, h⟩
    · obtain ⟨⟨v1, v2, v3⟩, hk3, h⟩ := bind_some h
      obtain ⟨hg4, h⟩ := grd_some h
      refine Tri.run 2 [.g true, .r ⟨[2060], .int .i64 v1, [(2060, .box [.undf, .int .i64 v2, .int .i64 v3])]⟩] [.keep [4] [2060]] (K' := [.code [(2, 0), (1, 0)] 1, .code [] 3]) (σ' := ⟨[(4, .int .i64 (v1.tmod a3))], [(2060, .box [.lst x0 (.bytes a0), .int .i64 v2, .int .i64 v3])]⟩) rfl ⟨hg4, (fun vf => ((w_spec_l1Byte_io1 (vf 2060 0) a0 a1 a2 (v1, v2, v3) hk3).swap 2080 2060)), hd2, trivial⟩ rfl ?_
      have h := Option.some.inj h
      subst h
      exact Tri.ret rfl ⟨.inl rfl, rfl, rfl⟩
    · obtain ⟨⟨v4, v5, v6⟩, hk5, h⟩ := bind_some h
      refine Tri.run 2 [.g false, .r ⟨[2060], .int .i64 v4, [(2060, .box [.undf, .int .i64 v5, .int .i64 v6])]⟩] [.keep [0, 1, 5] [2060]] (K' := [.code [(4, 0)] 0, .code [] 5]) (σ' := ⟨[(0, .ptr 2060 0), (1, .int .i64 a3), (5, .int .i64 v4)], [(2060, .box [.lst x0 (.bytes a0), .int .i64 v5, .int .i64 v6])]⟩) rfl ⟨(fun vf => ((w_spec_l1Byte_io1 (vf 2060 0) a0 a1 a2 (v4, v5, v6) hk5).swap 2080 2060)), hd2, trivial⟩ rfl ?_
      obtain ⟨⟨v7, v8, v9⟩, hk6, h⟩ := bind_some h
      obtain ⟨⟨v10, v11, v12⟩, hk7, h⟩ := bind_some h
      refine Tri.run 2 [.r ⟨[2060], .int .i64 v7, [(2060, .box [.undf, .int .i64 v8, .int .i64 v9])]⟩, .r ⟨[2060], .int .i64 v10, [(2060, .box [.undf, .int .i64 v11, .int .i64 v12])]⟩] [.keep [0, 1, 5, 6, 7] [2060]] (K' := [.code [(6, 0)] 0, .code [] 7]) (σ' := ⟨[(0, .ptr 2060 0), (1, .int .i64 a3), (5, .int .i64 v4), (6, .int .i64 v7), (7, .int .i64 v10)], [(2060, .box [.lst x0 (.bytes a0), .int .i64 v11, .int .i64 v12])]⟩) rfl ⟨(fun vf => ((w_spec_l1Byte_io1 (vf 2060 0) a0 v8 v9 (v10, v11, v12) hk7).swap 2080 2060)), (fun vf => ((w_spec_l1Byte_io1 (vf 2060 0) a0 v5 v6 (v7, v8, v9) hk6).swap 2080 2060)), trivial⟩ rfl ?_
      obtain ⟨⟨v13, v14, v15⟩, hk8, h⟩ := bind_some h
      obtain ⟨hg9, h⟩ := grd_some h
      refine Tri.run 2 [.r ⟨[2060], .int .i64 v13, [(2060, .box [.undf, .int .i64 v14, .int .i64 v15])]⟩] [.keep [4] [2060]] (K' := [.code [] 8]) (σ' := ⟨[(4, .int .i64 ((IntKind.i64.wrap ((IntKind.i64.wrap ((IntKind.i64.wrap ((IntKind.i64.wrap (v4 * (16777216 : Int))) + (IntKind.i64.wrap (v7 * (65536 : Int))))) + (IntKind.i64.wrap (v10 * (256 : Int))))) + v13)).tmod a3))], [(2060, .box [.lst x0 (.bytes a0), .int .i64 v14, .int .i64 v15])]⟩) rfl ⟨hg9, (fun vf => ((w_spec_l1Byte_io1 (vf 2060 0) a0 v11 v12 (v13, v14, v15) hk8).swap 2080 2060)), trivial⟩ rfl ?_
      have h := Option.some.inj h
      subst h
      exact Tri.ret rfl ⟨.inl rfl, rfl, rfl⟩
/-! spec.l1In -/
noncomputable def E62_spec_l1In : Env := ⟨Try.prog, tys, (Try.f62.body).getD .skip, 15, tysOk, mixedOk⟩
abbrev q_spec_l1In (r : Bool) (σ' : ASt) : Prop := resAV E62_spec_l1In.T σ' Try.f62.results.toList = some (.bool r) ∧ keepO σ'.ob (namesO []) = []
noncomputable def m_spec_l1In (a0 : Int) (a1 : Int) (a2 : Int) : Option Bool :=
bif decide (a0 ≥ a1) then
(some (decide (a0 ≤ a2)))
else
(some false)
theorem w_spec_l1In (a0 : Int) (a1 : Int) (a2 : Int) (r : Bool) (h : m_spec_l1In a0 a1 a2 = some r) : AM.Spec Try.prog 62 [.int .i64 a0, .int .i64 a1, .int .i64 a2] [] (.bool r) [] := by
  refine spec_of (E := E62_spec_l1In) Try.func62 rfl rfl rfl rfl ?_
  refine Tri.run 1 [] [.keep [0, 1, 2] []] (K' := [.code [(1, 0)] 0, .code [] 2]) (σ' := ⟨[(0, .int .i64 a0), (1, .int .i64 a1), (2, .int .i64 a2)], []⟩) rfl trivial rfl ?_
  rcases bif_some h with ⟨hd1, h⟩ | ⟨hd1, h⟩
  · refine Tri.run 1 [.g true] [.keep [6] []] (K' := [.code [] 2]) (σ' := ⟨[(6, .bool (decide (a0 ≤ a2)))], []⟩) rfl ⟨hd1, trivial⟩ rfl ?_
    have h := Option.some.inj h
    subst h
    exact Tri.ret rfl ⟨.inl rfl, rfl, rfl⟩
  · refine Tri.run 1 [.g false] [.keep [6] []] (K' := [.code [] 2]) (σ' := ⟨[(6, .bool false)], []⟩) rfl ⟨hd1, trivial⟩ rfl ?_
    have h := Option.some.inj h
    subst h
    exact Tri.ret rfl ⟨.inl rfl, rfl, rfl⟩
/-! spec.CountCoalitions -/
noncomputable def E53_spec_CountCoalitions : Env := ⟨Try.prog, tys, (Try.f53.body).getD .skip, 16, tysOk, mixedOk⟩
abbrev q_spec_CountCoalitions (r : Int) (σ' : ASt) : Prop := resAV E53_spec_CountCoalitions.T σ' Try.f53.results.toList = some (.int .i64 r) ∧ keepO σ'.ob (namesO []) = []
noncomputable def l_spec_CountCoalitions_0 (a0 : Int) : (Int × Int) → Option ((Int × Int) ⊕ Int)
  | (v2, v3) => (
bif decide (v3 < a0) then
(some (.inl (IntKind.i64.wrap (v2 * (2 : Int)), IntKind.i64.wrap (v3 + (1 : Int)))))
else
(some (.inr v2)))
noncomputable def m_spec_CountCoalitions (a0 : Int) : Option Int :=
(m_spec_l1In a0 (0 : Int) (5 : Int)).bind fun v1 =>
bif !v1 then
(some (0 : Int))
else
((iter (l_spec_CountCoalitions_0 a0) ((1 : Int), (0 : Int))).bind fun
| v4 => (
some v4))
theorem w_spec_CountCoalitions (a0 : Int) (r : Int) (h : m_spec_CountCoalitions a0 = some r) : AM.Spec Try.prog 53 [.int .i64 a0] [] (.int .i64 r) [] := by
  refine spec_of (E := E53_spec_CountCoalitions) Try.func53 rfl rfl rfl rfl ?_
  refine Tri.run 1 [] [.keep [0] []] (K' := [.code [(1, 0), (0, 0)] 0, .code [(1, 0)] 1, .code [] 2]) (σ' := ⟨[(0, .int .i64 a0)], []⟩) rfl trivial rfl ?_
  obtain ⟨v1, hk1, h⟩ := bind_some h
  refine Tri.run 1 [.r ⟨[], .bool v1, []⟩] [.keep [0, 7] []] (K' := [.code [(1, 0)] 1, .code [] 2]) (σ' := ⟨[(0, .int .i64 a0), (7, .bool (!v1))], []⟩) rfl ⟨(fun _ => (w_spec_l1In a0 (0 : Int) (5 : Int) v1 hk1)), trivial⟩ rfl ?_
  rcases bif_some h with ⟨hd2, h⟩ | ⟨hd2, h⟩
  · refine Tri.run 2 [.g true] [.keep [2] []] (K' := [.code [(1, 0), (1, 0)] 1, .code [] 2]) (σ' := ⟨[(2, .int .i64 (0 : Int))], []⟩) rfl ⟨hd2, trivial⟩ rfl ?_
    have h := Option.some.inj h
    subst h
    exact Tri.ret rfl ⟨.inl rfl, rfl, rfl⟩
  · refine Tri.run 3 [.g false] [.keep [0, 3, 4] []] (K' := [.code [(3, 0), (1, 0)] 0, .blk 0, .code [] 4]) (σ' := ⟨[(0, .int .i64 a0), (3, .int .i64 (1 : Int)), (4, .int .i64 (0 : Int))], []⟩) rfl ⟨hd2, trivial⟩ rfl ?_
    obtain ⟨v4, hk4, h⟩ := bind_some h
    refine Tri.loop (K1 := [.code [(3, 0), (1, 0), (0, 0)] 0]) (K2 := [.blk 0, .code [] 4]) (fun (v2, v3) => ⟨[(0, .int .i64 a0), (3, .int .i64 v2), (4, .int .i64 v3)], []⟩) (fun x e σ' => match x with | v4 => e = .exit 0 ∧ σ' = ⟨[(3, .int .i64 v4)], []⟩) hk4 rfl rfl ?_ ?_
    · intro s x hs
      clear h
      have h := hs
      clear hs
      obtain ⟨v2, v3⟩ := s
      refine Tri.run 1 [] [.keep [0, 3, 4, 10] []] (K' := [.code [(3, 0), (1, 0), (0, 0), (0, 0)] 1, .code [(3, 0), (1, 0), (0, 0)] 1]) (σ' := ⟨[(0, .int .i64 a0), (3, .int .i64 v2), (4, .int .i64 v3), (10, .bool (decide (v3 < a0)))], []⟩) rfl trivial rfl ?_
      rcases bif_some h with ⟨hd3, h⟩ | ⟨hd3, h⟩
      · refine Tri.run 3 [.g true] [.keep [0, 3, 4] []] (K' := []) (σ' := ⟨[(0, .int .i64 a0), (3, .int .i64 (IntKind.i64.wrap (v2 * (2 : Int)))), (4, .int .i64 (IntKind.i64.wrap (v3 + (1 : Int))))], []⟩) rfl ⟨hd3, trivial⟩ rfl ?_
        have h := Option.some.inj h
        subst h
        exact Tri.nil ⟨rfl, rfl⟩
      · refine Tri.run 1 [.g false] [.keep [3] []] (K' := [.code [(3, 0), (1, 0), (0, 0), (0, 0), (1, 1)] 0, .code [(3, 0), (1, 0), (0, 0)] 1]) (σ' := ⟨[(3, .int .i64 v2)], []⟩) rfl ⟨hd3, trivial⟩ rfl ?_
        have h := Option.some.inj h
        subst h
        exact Tri.out 0 rfl ⟨nofun, rfl, rfl⟩
    · intro e σ' hne hq
      obtain ⟨rfl, rfl⟩ := hq
      refine TriX.exit (K' := [.code [] 4]) rfl ?_
      refine Tri.run 1 [] [.keep [2] []] (K' := [.code [] 5]) (σ' := ⟨[(2, .int .i64 v4)], []⟩) rfl trivial rfl ?_
      have h := Option.some.inj h
      subst h
      exact Tri.ret rfl ⟨.inl rfl, rfl, rfl⟩
/-! spec.l2Bit -/
noncomputable def E88_spec_l2Bit : Env := ⟨Try.prog, tys, (Try.f88.body).getD .skip, 5, tysOk, mixedOk⟩
abbrev q_spec_l2Bit (r : Int) (σ' : ASt) : Prop := resAV E88_spec_l2Bit.T σ' Try.f88.results.toList = some (.int .i64 r) ∧ keepO σ'.ob (namesO []) = []
noncomputable def m_spec_l2Bit (a0 : Int) : Option Int :=
(m_spec_CountCoalitions a0).bind fun v1 =>
some v1
theorem w_spec_l2Bit (a0 : Int) (r : Int) (h : m_spec_l2Bit a0 = some r) : AM.Spec Try.prog 88 [.int .i64 a0] [] (.int .i64 r) [] := by
  refine spec_of (E := E88_spec_l2Bit) Try.func88 rfl rfl rfl rfl ?_
  refine Tri.run 1 [] [.keep [0] []] (K' := [.code [(1, 0)] 0, .code [] 2]) (σ' := ⟨[(0, .int .i64 a0)], []⟩) rfl trivial rfl ?_
  obtain ⟨v1, hk1, h⟩ := bind_some h
  refine Tri.run 1 [.r ⟨[], .int .i64 v1, []⟩] [.keep [2] []] (K' := [.code [] 2]) (σ' := ⟨[(2, .int .i64 v1)], []⟩) rfl ⟨(fun _ => (w_spec_CountCoalitions a0 v1 hk1)), trivial⟩ rfl ?_
  have h := Option.some.inj h
  subst h
  exact Tri.ret rfl ⟨.inl rfl, rfl, rfl⟩
/-! spec.HasPlayer -/
noncomputable def E44_spec_HasPlayer : Env := ⟨Try.prog, tys, (Try.f44.body).getD .skip, 19, tysOk, mixedOk⟩
abbrev q_spec_HasPlayer (r : Bool) (σ' : ASt) : Prop := resAV E44_spec_HasPlayer.T σ' Try.f44.results.toList = some (.bool r) ∧ keepO σ'.ob (namesO []) = []
noncomputable def m_spec_HasPlayer (a0 : Int) (a1 : Int) : Option Bool :=
(m_spec_l1In a1 (0 : Int) (4 : Int)).bind fun v1 =>
bif v1 then
(bif decide (a0 ≥ (0 : Int)) then
((m_spec_l2Bit a1).bind fun v2 =>
grd (v2 ≠ 0) <|
grd ((2 : Int) ≠ 0) <|
some (((IntKind.i64.wrap (a0.tdiv v2)).tmod (2 : Int)) == (1 : Int)))
else
(some false))
else
(some false)
theorem w_spec_HasPlayer (a0 : Int) (a1 : Int) (r : Bool) (h : m_spec_HasPlayer a0 a1 = some r) : AM.Spec Try.prog 44 [.int .i64 a0, .int .i64 a1] [] (.bool r) [] := by
  refine spec_of (E := E44_spec_HasPlayer) Try.func44 rfl rfl rfl rfl ?_
  refine Tri.run 1 [] [.keep [0, 1] []] (K' := [.code [(1, 0)] 0, .code [] 2]) (σ' := ⟨[(0, .int .i64 a0), (1, .int .i64 a1)], []⟩) rfl trivial rfl ?_
  obtain ⟨v1, hk1, h⟩ := bind_some h
  rcases bif_some h with ⟨hd2, h⟩ | ⟨hd2, h⟩
  · rcases bif_some h with ⟨hd3, h⟩ | ⟨hd3, h⟩
    · obtain ⟨v2, hk4, h⟩ := bind_some h
      obtain ⟨hg5, h⟩ := grd_some h
      obtain ⟨hg6, h⟩ := grd_some h
      refine Tri.run 1 [.r ⟨[], .bool v1, []⟩, .g true, .g true, .r ⟨[], .int .i64 v2, []⟩] [.keep [4] []] (K' := [.code [] 2]) (σ' := ⟨[(4, .bool (((IntKind.i64.wrap (a0.tdiv v2)).tmod (2 : Int)) == (1 : Int)))], []⟩) rfl ⟨hg6, hg5, (fun _ => (w_spec_l2Bit a1 v2 hk4)), hd3, hd2, (fun _ => (w_spec_l1In a1 (0 : Int) (4 : Int) v1 hk1)), trivial⟩ rfl ?_
      have h := Option.some.inj h
      subst h
      exact Tri.ret rfl ⟨.inl rfl, rfl, rfl⟩
    · refine Tri.run 1 [.r ⟨[], .bool v1, []⟩, .g true, .g false] [.keep [4] []] (K' := [.code [] 2]) (σ' := ⟨[(4, .bool false)], []⟩) rfl ⟨hd3, hd2, (fun _ => (w_spec_l1In a1 (0 : Int) (4 : Int) v1 hk1)), trivial⟩ rfl ?_
      have h := Option.some.inj h
      subst h
      exact Tri.ret rfl ⟨.inl rfl, rfl, rfl⟩
  · refine Tri.run 1 [.r ⟨[], .bool v1, []⟩, .g false, .g false] [.keep [4] []] (K' := [.code [] 2]) (σ' := ⟨[(4, .bool false)], []⟩) rfl ⟨rfl, hd2, (fun _ => (w_spec_l1In a1 (0 : Int) (4 : Int) v1 hk1)), trivial⟩ rfl ?_
    have h := Option.some.inj h
    subst h
    exact Tri.ret rfl ⟨.inl rfl, rfl, rfl⟩
/-! spec.SizeOf -/
noncomputable def E45_spec_SizeOf : Env := ⟨Try.prog, tys, (Try.f45.body).getD .skip, 15, tysOk, mixedOk⟩
abbrev q_spec_SizeOf (r : Int) (σ' : ASt) : Prop := resAV E45_spec_SizeOf.T σ' Try.f45.results.toList = some (.int .i64 r) ∧ keepO σ'.ob (namesO []) = []
noncomputable def l_spec_SizeOf_0 (a0 : Int) : (Int × Int) → Option ((Int × Int) ⊕ Int)
  | (v1, v2) => (
bif decide (v2 < (5 : Int)) then
((m_spec_HasPlayer a0 v2).bind fun v3 =>
bif v3 then
(some (.inl (IntKind.i64.wrap (v1 + (1 : Int)), IntKind.i64.wrap (v2 + (1 : Int)))))
else
(some (.inl (v1, IntKind.i64.wrap (v2 + (1 : Int))))))
else
(some (.inr v1)))
noncomputable def m_spec_SizeOf (a0 : Int) : Option Int :=
(iter (l_spec_SizeOf_0 a0) ((0 : Int), (0 : Int))).bind fun
| v4 => (
some v4)
theorem w_spec_SizeOf (a0 : Int) (r : Int) (h : m_spec_SizeOf a0 = some r) : AM.Spec Try.prog 45 [.int .i64 a0] [] (.int .i64 r) [] := by
  refine spec_of (E := E45_spec_SizeOf) Try.func45 rfl rfl rfl rfl ?_
  refine Tri.run 3 [] [.keep [0, 3, 4] []] (K' := [.code [(2, 0), (1, 0)] 0, .blk 0, .code [] 3]) (σ' := ⟨[(0, .int .i64 a0), (3, .int .i64 (0 : Int)), (4, .int .i64 (0 : Int))], []⟩) rfl trivial rfl ?_
  obtain ⟨v4, hk4, h⟩ := bind_some h
  refine Tri.loop (K1 := [.code [(2, 0), (1, 0), (0, 0)] 0]) (K2 := [.blk 0, .code [] 3]) (fun (v1, v2) => ⟨[(0, .int .i64 a0), (3, .int .i64 v1), (4, .int .i64 v2)], []⟩) (fun x e σ' => match x with | v4 => e = .exit 0 ∧ σ' = ⟨[(3, .int .i64 v4)], []⟩) hk4 rfl rfl ?_ ?_
  · intro s x hs
    clear h
    have h := hs
    clear hs
    obtain ⟨v1, v2⟩ := s
    refine Tri.run 1 [] [.keep [0, 3, 4, 6] []] (K' := [.code [(2, 0), (1, 0), (0, 0), (0, 0)] 1, .code [(2, 0), (1, 0), (0, 0)] 1]) (σ' := ⟨[(0, .int .i64 a0), (3, .int .i64 v1), (4, .int .i64 v2), (6, .bool (decide (v2 < (5 : Int))))], []⟩) rfl trivial rfl ?_
    rcases bif_some h with ⟨hd1, h⟩ | ⟨hd1, h⟩
    · obtain ⟨v3, hk2, h⟩ := bind_some h
      refine Tri.run 2 [.g true, .r ⟨[], .bool v3, []⟩] [.keep [0, 3, 4, 11] []] (K' := [.code [(2, 0), (1, 0), (0, 0), (1, 0), (0, 0)] 1, .blk 1, .code [(2, 0), (1, 0), (0, 0)] 2]) (σ' := ⟨[(0, .int .i64 a0), (3, .int .i64 v1), (4, .int .i64 v2), (11, .bool v3)], []⟩) rfl ⟨(fun _ => (w_spec_HasPlayer a0 v2 v3 hk2)), hd1, trivial⟩ rfl ?_
      rcases bif_some h with ⟨hd3, h⟩ | ⟨hd3, h⟩
      · refine Tri.run 3 [.g true] [.keep [0, 3, 4] []] (K' := []) (σ' := ⟨[(0, .int .i64 a0), (3, .int .i64 (IntKind.i64.wrap (v1 + (1 : Int)))), (4, .int .i64 (IntKind.i64.wrap (v2 + (1 : Int))))], []⟩) rfl ⟨hd3, trivial⟩ rfl ?_
        have h := Option.some.inj h
        subst h
        exact Tri.nil ⟨rfl, rfl⟩
      · refine Tri.run 2 [.g false] [.keep [0, 3, 4] []] (K' := []) (σ' := ⟨[(0, .int .i64 a0), (3, .int .i64 v1), (4, .int .i64 (IntKind.i64.wrap (v2 + (1 : Int))))], []⟩) rfl ⟨hd3, trivial⟩ rfl ?_
        have h := Option.some.inj h
        subst h
        exact Tri.nil ⟨rfl, rfl⟩
    · refine Tri.run 1 [.g false] [.keep [3] []] (K' := [.code [(2, 0), (1, 0), (0, 0), (0, 0), (1, 1)] 0, .code [(2, 0), (1, 0), (0, 0)] 1]) (σ' := ⟨[(3, .int .i64 v1)], []⟩) rfl ⟨hd1, trivial⟩ rfl ?_
      have h := Option.some.inj h
      subst h
      exact Tri.out 0 rfl ⟨nofun, rfl, rfl⟩
  · intro e σ' hne hq
    obtain ⟨rfl, rfl⟩ := hq
    refine TriX.exit (K' := [.code [] 3]) rfl ?_
    refine Tri.run 1 [] [.keep [2] []] (K' := [.code [] 4]) (σ' := ⟨[(2, .int .i64 v4)], []⟩) rfl trivial rfl ?_
    have h := Option.some.inj h
    subst h
    exact Tri.ret rfl ⟨.inl rfl, rfl, rfl⟩
/-! spec.l1PickInt -/
noncomputable def E70_spec_l1PickInt : Env := ⟨Try.prog, tys, (Try.f70.body).getD .skip, 12, tysOk, mixedOk⟩
abbrev q_spec_l1PickInt_io1 (x0 : Value) (a0 : List UInt8) (r : Int × Int × Int) (σ' : ASt) : Prop := resAV E70_spec_l1PickInt.T σ' Try.f70.results.toList = some (.int .i64 r.1) ∧ keepO σ'.ob (namesO [(2100, .box [.lst x0 (.bytes a0), .int .i64 r.2.1, .int .i64 r.2.2])]) = [(2100, .box [.lst x0 (.bytes a0), .int .i64 r.2.1, .int .i64 r.2.2])]
noncomputable def m_spec_l1PickInt_io1 (a0 : List UInt8) (a1 : Int) (a2 : Int) (a3 : List Int) : Option (Int × Int × Int) :=
(m_spec_l1Below_io1 a0 a1 a2 (a3.length : Int)).bind fun (v1, v2, v3) =>
grd ((0 : Int) ≤ v1 ∧ v1 < (a3.length : Int)) <|
some (a3.getD v1.toNat 0, v2, v3)
theorem w_spec_l1PickInt_io1 (x0 : Value) (a0 : List UInt8) (a1 : Int) (a2 : Int) (a3 : List Int) (r : Int × Int × Int) (h : m_spec_l1PickInt_io1 a0 a1 a2 a3 = some r) : AM.Spec Try.prog 70 [.ptr 2100 0, .list (.ints a3)] [(2100, .box [.lst x0 (.bytes a0), .int .i64 a1, .int .i64 a2])] (.int .i64 r.1) [(2100, .box [.lst x0 (.bytes a0), .int .i64 r.2.1, .int .i64 r.2.2])] := by
  refine spec_of (E := E70_spec_l1PickInt) Try.func70 rfl rfl rfl rfl ?_
  refine Tri.run 1 [] [.keep [0, 1] [2100]] (K' := [.code [(1, 0)] 0, .code [] 2]) (σ' := ⟨[(0, .ptr 2100 0), (1, .list (.ints a3))], [(2100, .box [.lst x0 (.bytes a0), .int .i64 a1, .int .i64 a2])]⟩) rfl trivial rfl ?_
  obtain ⟨⟨v1, v2, v3⟩, hk1, h⟩ := bind_some h
  obtain ⟨hg2, h⟩ := grd_some h
  refine Tri.run 1 [.r ⟨[2100], .int .i64 v1, [(2100, .box [.undf, .int .i64 v2, .int .i64 v3])]⟩] [.keep [4] [2100]] (K' := [.code [] 2]) (σ' := ⟨[(4, .int .i64 (a3.getD v1.toNat 0))], [(2100, .box [.lst x0 (.bytes a0), .int .i64 v2, .int .i64 v3])]⟩) rfl ⟨hg2, (fun vf => ((w_spec_l1Below_io1 (vf 2100 0) a0 a1 a2 (a3.length : Int) (v1, v2, v3) hk1).swap 2060 2100)), trivial⟩ rfl ?_
  have h := Option.some.inj h
  subst h
  exact Tri.ret rfl ⟨.inl rfl, rfl, rfl⟩
/-! spec.l1Max -/
noncomputable def E69_spec_l1Max : Env := ⟨Try.prog, tys, (Try.f69.body).getD .skip, 10, tysOk, mixedOk⟩
abbrev q_spec_l1Max (r : Int) (σ' : ASt) : Prop := resAV E69_spec_l1Max.T σ' Try.f69.results.toList = some (.int .i64 r) ∧ keepO σ'.ob (namesO []) = []
noncomputable def m_spec_l1Max (a0 : Int) (a1 : Int) : Option Int :=
bif decide (a0 > a1) then
(some a0)
else
(some a1)
theorem w_spec_l1Max (a0 : Int) (a1 : Int) (r : Int) (h : m_spec_l1Max a0 a1 = some r) : AM.Spec Try.prog 69 [.int .i64 a0, .int .i64 a1] [] (.int .i64 r) [] := by
  refine spec_of (E := E69_spec_l1Max) Try.func69 rfl rfl rfl rfl ?_
  refine Tri.run 2 [] [.keep [0, 1, 7] []] (K' := [.code [(1, 0)] 1, .code [] 2]) (σ' := ⟨[(0, .int .i64 a0), (1, .int .i64 a1), (7, .bool (decide (a0 > a1)))], []⟩) rfl trivial rfl ?_
  rcases bif_some h with ⟨hd1, h⟩ | ⟨hd1, h⟩
  · refine Tri.run 2 [.g true] [.keep [4] []] (K' := [.code [(1, 0), (1, 0)] 1, .code [] 2]) (σ' := ⟨[(4, .int .i64 a0)], []⟩) rfl ⟨hd1, trivial⟩ rfl ?_
    have h := Option.some.inj h
    subst h
    exact Tri.ret rfl ⟨.inl rfl, rfl, rfl⟩
  · refine Tri.run 2 [.g false] [.keep [4] []] (K' := [.code [] 3]) (σ' := ⟨[(4, .int .i64 a1)], []⟩) rfl ⟨hd1, trivial⟩ rfl ?_
    have h := Option.some.inj h
    subst h
    exact Tri.ret rfl ⟨.inl rfl, rfl, rfl⟩
/-! spec.l1Bit -/
noncomputable def E107_spec_l1Bit : Env := ⟨Try.prog, tys, (Try.f107.body).getD .skip, 4, tysOk, mixedOk⟩
abbrev q_spec_l1Bit (r : Int) (σ' : ASt) : Prop := resAV E107_spec_l1Bit.T σ' Try.f107.results.toList = some (.int .i64 r) ∧ keepO σ'.ob (namesO []) = []
noncomputable def m_spec_l1Bit (a0 : Bool) : Option Int :=
bif a0 then
(some (1 : Int))
else
(some (0 : Int))
theorem w_spec_l1Bit (a0 : Bool) (r : Int) (h : m_spec_l1Bit a0 = some r) : AM.Spec Try.prog 107 [.bool a0] [] (.int .i64 r) [] := by
  refine spec_of (E := E107_spec_l1Bit) Try.func107 rfl rfl rfl rfl ?_
  refine Tri.run 2 [] [.keep [3] []] (K' := [.code [(1, 0)] 1, .code [] 2]) (σ' := ⟨[(3, .bool a0)], []⟩) rfl trivial rfl ?_
  rcases bif_some h with ⟨hd1, h⟩ | ⟨hd1, h⟩
  · refine Tri.run 2 [.g true] [.keep [2] []] (K' := [.code [(1, 0), (1, 0)] 1, .code [] 2]) (σ' := ⟨[(2, .int .i64 (1 : Int))], []⟩) rfl ⟨hd1, trivial⟩ rfl ?_
    have h := Option.some.inj h
    subst h
    exact Tri.ret rfl ⟨.inl rfl, rfl, rfl⟩
  · refine Tri.run 2 [.g false] [.keep [2] []] (K' := [.code [] 3]) (σ' := ⟨[(2, .int .i64 (0 : Int))], []⟩) rfl ⟨hd1, trivial⟩ rfl ?_
    have h := Option.some.inj h
    subst h
    exact Tri.ret rfl ⟨.inl rfl, rfl, rfl⟩
/-! spec.l8Draw -/
noncomputable def E98_spec_l8Draw : Env := ⟨Try.prog, tys, (Try.f98.body).getD .skip, 81, tysOk, mixedOk⟩
abbrev q_spec_l8Draw_io1 (x0 : Value) (a0 : List UInt8) (r : Int × (List Int) × Int × Int) (σ' : ASt) : Prop := resAV E98_spec_l8Draw.T σ' Try.f98.results.toList = some (.agg [.int .i64 r.1, .sl 1000 0]) ∧ keepO σ'.ob (namesO [(1000, .arr 3 0 0 (.ints r.2.1)), (2040, .box [.lst x0 (.bytes a0), .int .i64 r.2.2.1, .int .i64 r.2.2.2])]) = [(1000, .arr 3 0 0 (.ints r.2.1)), (2040, .box [.lst x0 (.bytes a0), .int .i64 r.2.2.1, .int .i64 r.2.2.2])]
noncomputable def l_spec_l8Draw_io1_0 (a0 : List UInt8) (v1 : Int) (v5 : Int) : (Int × (List Int) × Int × Int) → Option ((Int × (List Int) × Int × Int) ⊕ (((List Int) × Int × Int)))
  | (v8, v9, v10, v11) => (
bif decide (v8 < (v9.length : Int)) then
(bif v5 == (0 : Int) then
((m_spec_SizeOf v8).bind fun v12 =>
(m_spec_SizeOf v8).bind fun v13 =>
(m_spec_l1Below_io1 a0 v10 v11 (2 : Int)).bind fun (v14, v15, v16) =>
grd ((0 : Int) ≤ v8 ∧ v8 < (v9.length : Int)) <|
some (.inl (IntKind.i64.wrap (v8 + (1 : Int)), v9.set v8.toNat (IntKind.i64.wrap ((IntKind.i64.wrap (v12 * v13)) + v14)), v15, v16)))
else
(bif v5 == (1 : Int) then
((m_spec_l1PickInt_io1 a0 v10 v11 [(0 : Int), (1 : Int), (2 : Int), (3 : Int), (5 : Int), (8 : Int), (-2 : Int), (4 : Int)]).bind fun (v17, v18, v19) =>
grd ((0 : Int) ≤ v8 ∧ v8 < (v9.length : Int)) <|
some (.inl (IntKind.i64.wrap (v8 + (1 : Int)), v9.set v8.toNat v17, v18, v19)))
else
(bif v5 == (2 : Int) then
((m_spec_SizeOf v8).bind fun v20 =>
(m_spec_l1Below_io1 a0 v10 v11 (2 : Int)).bind fun (v21, v22, v23) =>
(m_spec_l1Max (0 : Int) (IntKind.i64.wrap ((IntKind.i64.wrap ((IntKind.i64.wrap ((3 : Int) * v20)) - (2 : Int))) - v21))).bind fun v24 =>
grd ((0 : Int) ≤ v8 ∧ v8 < (v9.length : Int)) <|
some (.inl (IntKind.i64.wrap (v8 + (1 : Int)), v9.set v8.toNat v24, v22, v23)))
else
((m_spec_SizeOf v8).bind fun v25 =>
(m_spec_l1Bit (decide ((IntKind.i64.wrap (v25 * (2 : Int))) > (IntKind.i64.wrap ((1 : Int) + v1))))).bind fun v26 =>
(m_spec_l1Below_io1 a0 v10 v11 (2 : Int)).bind fun (v27, v28, v29) =>
grd ((0 : Int) ≤ v8 ∧ v8 < (v9.length : Int)) <|
some (.inl (IntKind.i64.wrap (v8 + (1 : Int)), v9.set v8.toNat (IntKind.i64.wrap (v26 * (IntKind.i64.wrap ((3 : Int) + (IntKind.i64.wrap (v27 * (3 : Int))))))), v28, v29))))))
else
(some (.inr (v9, v10, v11))))
noncomputable def m_spec_l8Draw_io1 (a0 : List UInt8) (a1 : Int) (a2 : Int) (a3 : Int) : Option (Int × (List Int) × Int × Int) :=
(m_spec_l1Below_io1 a0 a1 a2 a3).bind fun (v1, v2, v3) =>
(m_spec_CountCoalitions (IntKind.i64.wrap ((1 : Int) + v1))).bind fun v4 =>
grd ((0 : Int) ≤ v4 ∧ v4 = v4 ∧ v4 ≤ (room : Int)) <|
(m_spec_l1Below_io1 a0 v2 v3 (4 : Int)).bind fun (v5, v6, v7) =>
(iter (l_spec_l8Draw_io1_0 a0 v1 v5) ((1 : Int), List.replicate v4.toNat (0 : Int), v6, v7)).bind fun
| (v30, v31, v32) => (
some (IntKind.i64.wrap ((1 : Int) + v1), v30, v31, v32))
theorem w_spec_l8Draw_io1 (x0 : Value) (a0 : List UInt8) (a1 : Int) (a2 : Int) (a3 : Int) (r : Int × (List Int) × Int × Int) (h : m_spec_l8Draw_io1 a0 a1 a2 a3 = some r) : AM.Spec Try.prog 98 [.ptr 2040 0, .int .i64 a3] [(2040, .box [.lst x0 (.bytes a0), .int .i64 a1, .int .i64 a2])] (.agg [.int .i64 r.1, .sl 1000 0]) [(1000, .arr 3 0 0 (.ints r.2.1)), (2040, .box [.lst x0 (.bytes a0), .int .i64 r.2.2.1, .int .i64 r.2.2.2])] := by
  refine spec_of (E := E98_spec_l8Draw) Try.func98 rfl rfl rfl rfl ?_
  refine Tri.run 1 [] [.keep [0, 1, 4] [4, 2040], .ownc 4 1 1100 3, .keep [0, 1, 4] [4, 1100, 2040]] (K' := [.code [(1, 0)] 0, .code [] 2]) (σ' := ⟨[(0, .ptr 2040 0), (1, .int .i64 a3), (4, .ptr 4 0)], [(4, .box [.int .i64 0, .sl 1100 0]), (1100, .arr 3 0 0 (.ints [])), (2040, .box [.lst x0 (.bytes a0), .int .i64 a1, .int .i64 a2])]⟩) rfl trivial rfl ?_
  obtain ⟨⟨v1, v2, v3⟩, hk1, h⟩ := bind_some h
  obtain ⟨v4, hk2, h⟩ := bind_some h
  obtain ⟨hg3, h⟩ := grd_some h
  refine Tri.run 2 [.r ⟨[2040], .int .i64 v1, [(2040, .box [.undf, .int .i64 v2, .int .i64 v3])]⟩, .r ⟨[], .int .i64 v4, []⟩] [.keep [0, 4, 5, 6] [4, 6, 16, 1100, 2040]] (K' := [.code [(3, 0)] 0, .code [] 4]) (σ' := ⟨[(0, .ptr 2040 0), (4, .ptr 4 0), (5, .int .i64 (IntKind.i64.wrap ((1 : Int) + v1))), (6, .ptr 6 0)], [(4, .box [.int .i64 0, .sl 1100 0]), (6, .box [.int .i64 (IntKind.i64.wrap ((1 : Int) + v1)), .sl 16 0]), (16, .arr 3 0 0 (.ints (List.replicate v4.toNat (0 : Int)))), (1100, .arr 3 0 0 (.ints [])), (2040, .box [.lst x0 (.bytes a0), .int .i64 v2, .int .i64 v3])]⟩) rfl ⟨hg3, (fun _ => (w_spec_CountCoalitions (IntKind.i64.wrap ((1 : Int) + v1)) v4 hk2)), (fun vf => ((w_spec_l1Below_io1 (vf 2040 0) a0 a1 a2 a3 (v1, v2, v3) hk1).swap 2060 2040)), trivial⟩ rfl ?_
  obtain ⟨⟨v5, v6, v7⟩, hk4, h⟩ := bind_some h
  refine Tri.run 2 [.r ⟨[2040], .int .i64 v5, [(2040, .box [.undf, .int .i64 v6, .int .i64 v7])]⟩] [.keep [0, 4, 5, 6, 7, 8] [4, 6, 16, 1100, 2040]] (K' := [.code [(4, 0), (1, 0)] 0, .blk 0, .code [] 5]) (σ' := ⟨[(0, .ptr 2040 0), (4, .ptr 4 0), (5, .int .i64 (IntKind.i64.wrap ((1 : Int) + v1))), (6, .ptr 6 0), (7, .int .i64 v5), (8, .int .i64 (1 : Int))], [(4, .box [.int .i64 0, .sl 1100 0]), (6, .box [.int .i64 (IntKind.i64.wrap ((1 : Int) + v1)), .sl 16 0]), (16, .arr 3 0 0 (.ints (List.replicate v4.toNat (0 : Int)))), (1100, .arr 3 0 0 (.ints [])), (2040, .box [.lst x0 (.bytes a0), .int .i64 v6, .int .i64 v7])]⟩) rfl ⟨(fun vf => ((w_spec_l1Below_io1 (vf 2040 0) a0 v2 v3 (4 : Int) (v5, v6, v7) hk4).swap 2060 2040)), trivial⟩ rfl ?_
  obtain ⟨x1, hk23, h⟩ := bind_some h
  refine Tri.loop (K1 := [.code [(4, 0), (1, 0), (0, 0)] 0]) (K2 := [.blk 0, .code [] 5]) (fun (v8, v9, v10, v11) => ⟨[(0, .ptr 2040 0), (4, .ptr 4 0), (5, .int .i64 (IntKind.i64.wrap ((1 : Int) + v1))), (6, .ptr 6 0), (7, .int .i64 v5), (8, .int .i64 v8)], [(4, .box [.int .i64 0, .sl 1100 0]), (6, .box [.int .i64 (IntKind.i64.wrap ((1 : Int) + v1)), .sl 16 0]), (16, .arr 3 0 0 (.ints v9)), (1100, .arr 3 0 0 (.ints [])), (2040, .box [.lst x0 (.bytes a0), .int .i64 v10, .int .i64 v11])]⟩) (fun x e σ' => match x with | (v30, v31, v32) => e = .exit 0 ∧ σ' = ⟨[(4, .ptr 4 0), (6, .ptr 6 0)], [(4, .box [.int .i64 0, .sl 1100 0]), (6, .box [.int .i64 (IntKind.i64.wrap ((1 : Int) + v1)), .sl 16 0]), (16, .arr 3 0 0 (.ints v30)), (1100, .arr 3 0 0 (.ints [])), (2040, .box [.lst x0 (.bytes a0), .int .i64 v31, .int .i64 v32])]⟩) hk23 rfl rfl ?_ ?_
  · intro s x hs
    clear h
    have h := hs
    clear hs
    obtain ⟨v8, v9, v10, v11⟩ := s
    refine Tri.run 1 [] [.keep [0, 4, 5, 6, 7, 8, 24] [4, 6, 16, 1100, 2040]] (K' := [.code [(4, 0), (1, 0), (0, 0), (0, 0)] 1, .code [(4, 0), (1, 0), (0, 0)] 1]) (σ' := ⟨[(0, .ptr 2040 0), (4, .ptr 4 0), (5, .int .i64 (IntKind.i64.wrap ((1 : Int) + v1))), (6, .ptr 6 0), (7, .int .i64 v5), (8, .int .i64 v8), (24, .bool (decide (v8 < (v9.length : Int))))], [(4, .box [.int .i64 0, .sl 1100 0]), (6, .box [.int .i64 (IntKind.i64.wrap ((1 : Int) + v1)), .sl 16 0]), (16, .arr 3 0 0 (.ints v9)), (1100, .arr 3 0 0 (.ints [])), (2040, .box [.lst x0 (.bytes a0), .int .i64 v10, .int .i64 v11])]⟩) rfl trivial rfl ?_
    rcases bif_some h with ⟨hd5, h⟩ | ⟨hd5, h⟩
    · refine Tri.run 3 [.g true] [.keep [0, 4, 5, 6, 7, 8, 27, 43] [4, 6, 16, 1100, 2040]] (K' := [.code [(4, 0), (1, 0), (0, 0), (1, 0), (0, 0), (1, 0)] 1, .blk 2, .blk 1, .code [(4, 0), (1, 0), (0, 0)] 2]) (σ' := ⟨[(0, .ptr 2040 0), (4, .ptr 4 0), (5, .int .i64 (IntKind.i64.wrap ((1 : Int) + v1))), (6, .ptr 6 0), (7, .int .i64 v5), (8, .int .i64 v8), (27, .int .i64 v5), (43, .bool (v5 == (0 : Int)))], [(4, .box [.int .i64 0, .sl 1100 0]), (6, .box [.int .i64 (IntKind.i64.wrap ((1 : Int) + v1)), .sl 16 0]), (16, .arr 3 0 0 (.ints v9)), (1100, .arr 3 0 0 (.ints [])), (2040, .box [.lst x0 (.bytes a0), .int .i64 v10, .int .i64 v11])]⟩) rfl ⟨hd5, trivial⟩ rfl ?_
      rcases bif_some h with ⟨hd6, h⟩ | ⟨hd6, h⟩
      · obtain ⟨v12, hk7, h⟩ := bind_some h
        obtain ⟨v13, hk8, h⟩ := bind_some h
        obtain ⟨⟨v14, v15, v16⟩, hk9, h⟩ := bind_some h
        obtain ⟨hg10, h⟩ := grd_some h
        refine Tri.run 3 [.g true, .r ⟨[], .int .i64 v12, []⟩, .r ⟨[], .int .i64 v13, []⟩, .r ⟨[2040], .int .i64 v14, [(2040, .box [.undf, .int .i64 v15, .int .i64 v16])]⟩] [.keep [0, 4, 5, 6, 7, 8] [4, 6, 16, 1100, 2040]] (K' := []) (σ' := ⟨[(0, .ptr 2040 0), (4, .ptr 4 0), (5, .int .i64 (IntKind.i64.wrap ((1 : Int) + v1))), (6, .ptr 6 0), (7, .int .i64 v5), (8, .int .i64 (IntKind.i64.wrap (v8 + (1 : Int))))], [(4, .box [.int .i64 0, .sl 1100 0]), (6, .box [.int .i64 (IntKind.i64.wrap ((1 : Int) + v1)), .sl 16 0]), (16, .arr 3 0 0 (.ints (v9.set v8.toNat (IntKind.i64.wrap ((IntKind.i64.wrap (v12 * v13)) + v14))))), (1100, .arr 3 0 0 (.ints [])), (2040, .box [.lst x0 (.bytes a0), .int .i64 v15, .int .i64 v16])]⟩) rfl ⟨hg10, (fun vf => ((w_spec_l1Below_io1 (vf 2040 0) a0 v10 v11 (2 : Int) (v14, v15, v16) hk9).swap 2060 2040)), (fun _ => (w_spec_SizeOf v8 v13 hk8)), (fun _ => (w_spec_SizeOf v8 v12 hk7)), hd6, trivial⟩ rfl ?_
        have h := Option.some.inj h
        subst h
        exact Tri.nil ⟨rfl, rfl⟩
      · refine Tri.run 2 [.g false] [.keep [0, 4, 5, 6, 7, 8, 27, 57] [4, 6, 16, 1100, 2040]] (K' := [.code [(4, 0), (1, 0), (0, 0), (1, 0), (0, 0), (1, 0), (1, 1)] 1, .blk 2, .blk 1, .code [(4, 0), (1, 0), (0, 0)] 2]) (σ' := ⟨[(0, .ptr 2040 0), (4, .ptr 4 0), (5, .int .i64 (IntKind.i64.wrap ((1 : Int) + v1))), (6, .ptr 6 0), (7, .int .i64 v5), (8, .int .i64 v8), (27, .int .i64 v5), (57, .bool (v5 == (1 : Int)))], [(4, .box [.int .i64 0, .sl 1100 0]), (6, .box [.int .i64 (IntKind.i64.wrap ((1 : Int) + v1)), .sl 16 0]), (16, .arr 3 0 0 (.ints v9)), (1100, .arr 3 0 0 (.ints [])), (2040, .box [.lst x0 (.bytes a0), .int .i64 v10, .int .i64 v11])]⟩) rfl ⟨hd6, trivial⟩ rfl ?_
        rcases bif_some h with ⟨hd11, h⟩ | ⟨hd11, h⟩
        · obtain ⟨⟨v17, v18, v19⟩, hk12, h⟩ := bind_some h
          obtain ⟨hg13, h⟩ := grd_some h
          refine Tri.run 3 [.g true, .r ⟨[2040], .int .i64 v17, [(2040, .box [.undf, .int .i64 v18, .int .i64 v19])]⟩] [.keep [0, 4, 5, 6, 7, 8] [4, 6, 16, 1100, 2040]] (K' := []) (σ' := ⟨[(0, .ptr 2040 0), (4, .ptr 4 0), (5, .int .i64 (IntKind.i64.wrap ((1 : Int) + v1))), (6, .ptr 6 0), (7, .int .i64 v5), (8, .int .i64 (IntKind.i64.wrap (v8 + (1 : Int))))], [(4, .box [.int .i64 0, .sl 1100 0]), (6, .box [.int .i64 (IntKind.i64.wrap ((1 : Int) + v1)), .sl 16 0]), (16, .arr 3 0 0 (.ints (v9.set v8.toNat v17))), (1100, .arr 3 0 0 (.ints [])), (2040, .box [.lst x0 (.bytes a0), .int .i64 v18, .int .i64 v19])]⟩) rfl ⟨hg13, (fun vf => ((w_spec_l1PickInt_io1 (vf 2040 0) a0 v10 v11 [(0 : Int), (1 : Int), (2 : Int), (3 : Int), (5 : Int), (8 : Int), (-2 : Int), (4 : Int)] (v17, v18, v19) hk12).swap 2100 2040)), hd11, trivial⟩ rfl ?_
          have h := Option.some.inj h
          subst h
          exact Tri.nil ⟨rfl, rfl⟩
        · refine Tri.run 2 [.g false] [.keep [0, 4, 5, 6, 7, 8, 66] [4, 6, 16, 1100, 2040]] (K' := [.code [(4, 0), (1, 0), (0, 0), (1, 0), (0, 0), (1, 0), (1, 1), (1, 1)] 1, .blk 2, .blk 1, .code [(4, 0), (1, 0), (0, 0)] 2]) (σ' := ⟨[(0, .ptr 2040 0), (4, .ptr 4 0), (5, .int .i64 (IntKind.i64.wrap ((1 : Int) + v1))), (6, .ptr 6 0), (7, .int .i64 v5), (8, .int .i64 v8), (66, .bool (v5 == (2 : Int)))], [(4, .box [.int .i64 0, .sl 1100 0]), (6, .box [.int .i64 (IntKind.i64.wrap ((1 : Int) + v1)), .sl 16 0]), (16, .arr 3 0 0 (.ints v9)), (1100, .arr 3 0 0 (.ints [])), (2040, .box [.lst x0 (.bytes a0), .int .i64 v10, .int .i64 v11])]⟩) rfl ⟨hd11, trivial⟩ rfl ?_
          rcases bif_some h with ⟨hd14, h⟩ | ⟨hd14, h⟩
          · obtain ⟨v20, hk15, h⟩ := bind_some h
            obtain ⟨⟨v21, v22, v23⟩, hk16, h⟩ := bind_some h
            obtain ⟨v24, hk17, h⟩ := bind_some h
            obtain ⟨hg18, h⟩ := grd_some h
            refine Tri.run 3 [.g true, .r ⟨[], .int .i64 v20, []⟩, .r ⟨[2040], .int .i64 v21, [(2040, .box [.undf, .int .i64 v22, .int .i64 v23])]⟩, .r ⟨[], .int .i64 v24, []⟩] [.keep [0, 4, 5, 6, 7, 8] [4, 6, 16, 1100, 2040]] (K' := []) (σ' := ⟨[(0, .ptr 2040 0), (4, .ptr 4 0), (5, .int .i64 (IntKind.i64.wrap ((1 : Int) + v1))), (6, .ptr 6 0), (7, .int .i64 v5), (8, .int .i64 (IntKind.i64.wrap (v8 + (1 : Int))))], [(4, .box [.int .i64 0, .sl 1100 0]), (6, .box [.int .i64 (IntKind.i64.wrap ((1 : Int) + v1)), .sl 16 0]), (16, .arr 3 0 0 (.ints (v9.set v8.toNat v24))), (1100, .arr 3 0 0 (.ints [])), (2040, .box [.lst x0 (.bytes a0), .int .i64 v22, .int .i64 v23])]⟩) rfl ⟨hg18, (fun _ => (w_spec_l1Max (0 : Int) (IntKind.i64.wrap ((IntKind.i64.wrap ((IntKind.i64.wrap ((3 : Int) * v20)) - (2 : Int))) - v21)) v24 hk17)), (fun vf => ((w_spec_l1Below_io1 (vf 2040 0) a0 v10 v11 (2 : Int) (v21, v22, v23) hk16).swap 2060 2040)), (fun _ => (w_spec_SizeOf v8 v20 hk15)), hd14, trivial⟩ rfl ?_
            have h := Option.some.inj h
            subst h
            exact Tri.nil ⟨rfl, rfl⟩
          · obtain ⟨v25, hk19, h⟩ := bind_some h
            obtain ⟨v26, hk20, h⟩ := bind_some h
            obtain ⟨⟨v27, v28, v29⟩, hk21, h⟩ := bind_some h
            obtain ⟨hg22, h⟩ := grd_some h
            refine Tri.run 3 [.g false, .r ⟨[], .int .i64 v25, []⟩, .r ⟨[], .int .i64 v26, []⟩, .r ⟨[2040], .int .i64 v27, [(2040, .box [.undf, .int .i64 v28, .int .i64 v29])]⟩] [.keep [0, 4, 5, 6, 7, 8] [4, 6, 16, 1100, 2040]] (K' := []) (σ' := ⟨[(0, .ptr 2040 0), (4, .ptr 4 0), (5, .int .i64 (IntKind.i64.wrap ((1 : Int) + v1))), (6, .ptr 6 0), (7, .int .i64 v5), (8, .int .i64 (IntKind.i64.wrap (v8 + (1 : Int))))], [(4, .box [.int .i64 0, .sl 1100 0]), (6, .box [.int .i64 (IntKind.i64.wrap ((1 : Int) + v1)), .sl 16 0]), (16, .arr 3 0 0 (.ints (v9.set v8.toNat (IntKind.i64.wrap (v26 * (IntKind.i64.wrap ((3 : Int) + (IntKind.i64.wrap (v27 * (3 : Int)))))))))), (1100, .arr 3 0 0 (.ints [])), (2040, .box [.lst x0 (.bytes a0), .int .i64 v28, .int .i64 v29])]⟩) rfl ⟨hg22, (fun vf => ((w_spec_l1Below_io1 (vf 2040 0) a0 v10 v11 (2 : Int) (v27, v28, v29) hk21).swap 2060 2040)), (fun _ => (w_spec_l1Bit (decide ((IntKind.i64.wrap (v25 * (2 : Int))) > (IntKind.i64.wrap ((1 : Int) + v1)))) v26 hk20)), (fun _ => (w_spec_SizeOf v8 v25 hk19)), hd14, trivial⟩ rfl ?_
            have h := Option.some.inj h
            subst h
            exact Tri.nil ⟨rfl, rfl⟩
    · refine Tri.run 1 [.g false] [.keep [4, 6] [4, 6, 16, 1100, 2040]] (K' := [.code [(4, 0), (1, 0), (0, 0), (0, 0), (1, 1)] 0, .code [(4, 0), (1, 0), (0, 0)] 1]) (σ' := ⟨[(4, .ptr 4 0), (6, .ptr 6 0)], [(4, .box [.int .i64 0, .sl 1100 0]), (6, .box [.int .i64 (IntKind.i64.wrap ((1 : Int) + v1)), .sl 16 0]), (16, .arr 3 0 0 (.ints v9)), (1100, .arr 3 0 0 (.ints [])), (2040, .box [.lst x0 (.bytes a0), .int .i64 v10, .int .i64 v11])]⟩) rfl ⟨hd5, trivial⟩ rfl ?_
      have h := Option.some.inj h
      subst h
      exact Tri.out 0 rfl ⟨nofun, rfl, rfl⟩
  · intro e σ' hne hq
    obtain ⟨v30, v31, v32⟩ := x1
    obtain ⟨rfl, rfl⟩ := hq
    refine TriX.exit (K' := [.code [] 5]) rfl ?_
    refine Tri.run 1 [] [.swap 16 1000, .keep [4] [4, 1000, 2040]] (K' := [.code [] 6]) (σ' := ⟨[(4, .ptr 4 0)], [(4, .box [.int .i64 (IntKind.i64.wrap ((1 : Int) + v1)), .sl 1000 0]), (1000, .arr 3 0 0 (.ints v30)), (2040, .box [.lst x0 (.bytes a0), .int .i64 v31, .int .i64 v32])]⟩) rfl trivial rfl ?_
    have h := Option.some.inj h
    subst h
    exact Tri.ret rfl ⟨.inl rfl, rfl, rfl⟩
/-! spec.l8Bent -/
noncomputable def E54_spec_l8Bent : Env := ⟨Try.prog, tys, (Try.f54.body).getD .skip, 39, tysOk, mixedOk⟩
abbrev q_spec_l8Bent_io1 (x0 : Value) (a0 : List UInt8) (r : Int × (List Int) × Int × Int) (σ' : ASt) : Prop := resAV E54_spec_l8Bent.T σ' Try.f54.results.toList = some (.agg [.int .i64 r.1, .sl 1000 0]) ∧ keepO σ'.ob (namesO [(1000, .arr 3 0 0 (.ints r.2.1)), (2020, .box [.lst x0 (.bytes a0), .int .i64 r.2.2.1, .int .i64 r.2.2.2])]) = [(1000, .arr 3 0 0 (.ints r.2.1)), (2020, .box [.lst x0 (.bytes a0), .int .i64 r.2.2.1, .int .i64 r.2.2.2])]
noncomputable def m_spec_l8Bent_io1 (a0 : List UInt8) (a1 : Int) (a2 : Int) : Option (Int × (List Int) × Int × Int) :=
(m_spec_l8Draw_io1 a0 a1 a2 (4 : Int)).bind fun (v1, v2, v3, v4) =>
(m_spec_l1Below_io1 a0 v3 v4 (12 : Int)).bind fun (v5, v6, v7) =>
bif v5 == (0 : Int) then
(grd ((0 : Int) ≤ (0 : Int) ∧ (0 : Int) < (v2.length : Int)) <|
some (v1, v2.set ((0 : Int).toNat) (1 : Int), v6, v7))
else
(bif v5 == (1 : Int) then
((m_spec_l1PickInt_io1 a0 v6 v7 [(0 : Int), (6 : Int), (2 : Int), (-1 : Int)]).bind fun (v8, v9, v10) =>
some (v8, v2, v9, v10))
else
(bif v5 == (2 : Int) then
(grd (v2.length + ([(1 : Int)] : List Int).length ≤ room) <|
some (v1, v2 ++ [(1 : Int)], v6, v7))
else
(bif v5 == (3 : Int) then
((m_spec_l1PickInt_io1 a0 v6 v7 [(500 : Int), (501 : Int), (-501 : Int)]).bind fun (v11, v12, v13) =>
grd ((0 : Int) ≤ IntKind.i64.wrap ((v2.length : Int) - (1 : Int)) ∧ IntKind.i64.wrap ((v2.length : Int) - (1 : Int)) < (v2.length : Int)) <|
some (v1, v2.set ((IntKind.i64.wrap ((v2.length : Int) - (1 : Int))).toNat) v11, v12, v13))
else
(some (v1, v2, v6, v7)))))
theorem w_spec_l8Bent_io1 (x0 : Value) (a0 : List UInt8) (a1 : Int) (a2 : Int) (r : Int × (List Int) × Int × Int) (h : m_spec_l8Bent_io1 a0 a1 a2 = some r) : AM.Spec Try.prog 54 [.ptr 2020 0] [(2020, .box [.lst x0 (.bytes a0), .int .i64 a1, .int .i64 a2])] (.agg [.int .i64 r.1, .sl 1000 0]) [(1000, .arr 3 0 0 (.ints r.2.1)), (2020, .box [.lst x0 (.bytes a0), .int .i64 r.2.2.1, .int .i64 r.2.2.2])] := by
  refine spec_of (E := E54_spec_l8Bent) Try.func54 rfl rfl rfl rfl ?_
  refine Tri.run 1 [] [.keep [0, 2] [2, 2020], .ownc 2 1 1100 3, .keep [0, 2] [2, 1100, 2020]] (K' := [.code [(1, 0)] 0, .code [] 2]) (σ' := ⟨[(0, .ptr 2020 0), (2, .ptr 2 0)], [(2, .box [.int .i64 0, .sl 1100 0]), (1100, .arr 3 0 0 (.ints [])), (2020, .box [.lst x0 (.bytes a0), .int .i64 a1, .int .i64 a2])]⟩) rfl trivial rfl ?_
  obtain ⟨⟨v1, v2, v3, v4⟩, hk1, h⟩ := bind_some h
  obtain ⟨⟨v5, v6, v7⟩, hk2, h⟩ := bind_some h
  refine Tri.run 3 [.r ⟨[2020], .agg [.int .i64 v1, .sl 1101 0], [(1101, .arr 3 0 0 (.ints v2)), (2020, .box [.undf, .int .i64 v3, .int .i64 v4])]⟩, .r ⟨[2020], .int .i64 v5, [(2020, .box [.undf, .int .i64 v6, .int .i64 v7])]⟩] [.keep [0, 2, 3, 7, 8] [2, 3, 1100, 1101, 2020]] (K' := [.code [(2, 0), (1, 0)] 1, .blk 0, .code [] 3]) (σ' := ⟨[(0, .ptr 2020 0), (2, .ptr 2 0), (3, .ptr 3 0), (7, .int .i64 v5), (8, .bool (v5 == (0 : Int)))], [(2, .box [.int .i64 0, .sl 1100 0]), (3, .box [.int .i64 v1, .sl 1101 0]), (1100, .arr 3 0 0 (.ints [])), (1101, .arr 3 0 0 (.ints v2)), (2020, .box [.lst x0 (.bytes a0), .int .i64 v6, .int .i64 v7])]⟩) rfl ⟨(fun vf => ((w_spec_l1Below_io1 (vf 2020 0) a0 v3 v4 (12 : Int) (v5, v6, v7) hk2).swap 2060 2020)), (fun vf => (((w_spec_l8Draw_io1 (vf 2020 0) a0 a1 a2 (4 : Int) (v1, v2, v3, v4) hk1).swap 1000 1101).swap 2040 2020)), trivial⟩ rfl ?_
  rcases bif_some h with ⟨hd3, h⟩ | ⟨hd3, h⟩
  · obtain ⟨hg4, h⟩ := grd_some h
    refine Tri.run 3 [.g true] [.swap 1101 1000, .keep [2] [2, 1000, 2020]] (K' := [.code [] 4]) (σ' := ⟨[(2, .ptr 2 0)], [(2, .box [.int .i64 v1, .sl 1000 0]), (1000, .arr 3 0 0 (.ints (v2.set ((0 : Int).toNat) (1 : Int)))), (2020, .box [.lst x0 (.bytes a0), .int .i64 v6, .int .i64 v7])]⟩) rfl ⟨hg4, hd3, trivial⟩ rfl ?_
    have h := Option.some.inj h
    subst h
    exact Tri.ret rfl ⟨.inl rfl, rfl, rfl⟩
  · refine Tri.run 2 [.g false] [.keep [0, 2, 3, 7, 13] [2, 3, 1100, 1101, 2020]] (K' := [.code [(2, 0), (1, 0), (1, 1)] 1, .blk 0, .code [] 3]) (σ' := ⟨[(0, .ptr 2020 0), (2, .ptr 2 0), (3, .ptr 3 0), (7, .int .i64 v5), (13, .bool (v5 == (1 : Int)))], [(2, .box [.int .i64 0, .sl 1100 0]), (3, .box [.int .i64 v1, .sl 1101 0]), (1100, .arr 3 0 0 (.ints [])), (1101, .arr 3 0 0 (.ints v2)), (2020, .box [.lst x0 (.bytes a0), .int .i64 v6, .int .i64 v7])]⟩) rfl ⟨hd3, trivial⟩ rfl ?_
    rcases bif_some h with ⟨hd5, h⟩ | ⟨hd5, h⟩
    · obtain ⟨⟨v8, v9, v10⟩, hk6, h⟩ := bind_some h
      refine Tri.run 3 [.g true, .r ⟨[2020], .int .i64 v8, [(2020, .box [.undf, .int .i64 v9, .int .i64 v10])]⟩] [.swap 1101 1000, .keep [2] [2, 1000, 2020]] (K' := [.code [] 4]) (σ' := ⟨[(2, .ptr 2 0)], [(2, .box [.int .i64 v8, .sl 1000 0]), (1000, .arr 3 0 0 (.ints v2)), (2020, .box [.lst x0 (.bytes a0), .int .i64 v9, .int .i64 v10])]⟩) rfl ⟨(fun vf => ((w_spec_l1PickInt_io1 (vf 2020 0) a0 v6 v7 [(0 : Int), (6 : Int), (2 : Int), (-1 : Int)] (v8, v9, v10) hk6).swap 2100 2020)), hd5, trivial⟩ rfl ?_
      have h := Option.some.inj h
      subst h
      exact Tri.ret rfl ⟨.inl rfl, rfl, rfl⟩
    · refine Tri.run 2 [.g false] [.keep [0, 2, 3, 7, 19] [2, 3, 1100, 1101, 2020]] (K' := [.code [(2, 0), (1, 0), (1, 1), (1, 1)] 1, .blk 0, .code [] 3]) (σ' := ⟨[(0, .ptr 2020 0), (2, .ptr 2 0), (3, .ptr 3 0), (7, .int .i64 v5), (19, .bool (v5 == (2 : Int)))], [(2, .box [.int .i64 0, .sl 1100 0]), (3, .box [.int .i64 v1, .sl 1101 0]), (1100, .arr 3 0 0 (.ints [])), (1101, .arr 3 0 0 (.ints v2)), (2020, .box [.lst x0 (.bytes a0), .int .i64 v6, .int .i64 v7])]⟩) rfl ⟨hd5, trivial⟩ rfl ?_
      rcases bif_some h with ⟨hd7, h⟩ | ⟨hd7, h⟩
      · obtain ⟨hg8, h⟩ := grd_some h
        refine Tri.run 3 [.g true] [.rever 1101, .swap 1101 1000, .keep [2] [2, 1000, 2020]] (K' := [.code [] 4]) (σ' := ⟨[(2, .ptr 2 0)], [(2, .box [.int .i64 v1, .sl 1000 0]), (1000, .arr 3 0 0 (.ints (v2 ++ [(1 : Int)]))), (2020, .box [.lst x0 (.bytes a0), .int .i64 v6, .int .i64 v7])]⟩) rfl ⟨hg8, hd7, trivial⟩ rfl ?_
        have h := Option.some.inj h
        subst h
        exact Tri.ret rfl ⟨.inl rfl, rfl, rfl⟩
      · refine Tri.run 2 [.g false] [.keep [0, 2, 3, 26] [2, 3, 1100, 1101, 2020]] (K' := [.code [(2, 0), (1, 0), (1, 1), (1, 1), (1, 1)] 1, .blk 0, .code [] 3]) (σ' := ⟨[(0, .ptr 2020 0), (2, .ptr 2 0), (3, .ptr 3 0), (26, .bool (v5 == (3 : Int)))], [(2, .box [.int .i64 0, .sl 1100 0]), (3, .box [.int .i64 v1, .sl 1101 0]), (1100, .arr 3 0 0 (.ints [])), (1101, .arr 3 0 0 (.ints v2)), (2020, .box [.lst x0 (.bytes a0), .int .i64 v6, .int .i64 v7])]⟩) rfl ⟨hd7, trivial⟩ rfl ?_
        rcases bif_some h with ⟨hd9, h⟩ | ⟨hd9, h⟩
        · obtain ⟨⟨v11, v12, v13⟩, hk10, h⟩ := bind_some h
          obtain ⟨hg11, h⟩ := grd_some h
          refine Tri.run 3 [.g true, .r ⟨[2020], .int .i64 v11, [(2020, .box [.undf, .int .i64 v12, .int .i64 v13])]⟩] [.swap 1101 1000, .keep [2] [2, 1000, 2020]] (K' := [.code [] 4]) (σ' := ⟨[(2, .ptr 2 0)], [(2, .box [.int .i64 v1, .sl 1000 0]), (1000, .arr 3 0 0 (.ints (v2.set ((IntKind.i64.wrap ((v2.length : Int) - (1 : Int))).toNat) v11))), (2020, .box [.lst x0 (.bytes a0), .int .i64 v12, .int .i64 v13])]⟩) rfl ⟨hg11, (fun vf => ((w_spec_l1PickInt_io1 (vf 2020 0) a0 v6 v7 [(500 : Int), (501 : Int), (-501 : Int)] (v11, v12, v13) hk10).swap 2100 2020)), hd9, trivial⟩ rfl ?_
          have h := Option.some.inj h
          subst h
          exact Tri.ret rfl ⟨.inl rfl, rfl, rfl⟩
        · refine Tri.run 2 [.g false] [.swap 1101 1000, .keep [2] [2, 1000, 2020]] (K' := [.code [] 4]) (σ' := ⟨[(2, .ptr 2 0)], [(2, .box [.int .i64 v1, .sl 1000 0]), (1000, .arr 3 0 0 (.ints v2)), (2020, .box [.lst x0 (.bytes a0), .int .i64 v6, .int .i64 v7])]⟩) rfl ⟨hd9, trivial⟩ rfl ?_
          have h := Option.some.inj h
          subst h
          exact Tri.ret rfl ⟨.inl rfl, rfl, rfl⟩
/-! spec.DrawConvexFault -/
noncomputable def E8_spec_DrawConvexFault : Env := ⟨Try.prog, tys, (Try.f8.body).getD .skip, 6, tysOk, mixedOk⟩
abbrev q_spec_DrawConvexFault (r : Int × (List Int)) (σ' : ASt) : Prop := resAV E8_spec_DrawConvexFault.T σ' Try.f8.results.toList = some (.agg [.int .i64 r.1, .sl 1000 0]) ∧ keepO σ'.ob (namesO [(1000, .arr 3 0 0 (.ints r.2))]) = [(1000, .arr 3 0 0 (.ints r.2))]
noncomputable def m_spec_DrawConvexFault (a0 : List UInt8) : Option (Int × (List Int)) :=
(m_spec_l1New_io2 0 [] a0).bind fun (v1, v2, v3, _, _) =>
(m_spec_l8Bent_io1 v1 v2 v3).bind fun (v6, v7, _, _) =>
some (v6, v7)
theorem w_spec_DrawConvexFault (a0 : List UInt8) (r : Int × (List Int)) (h : m_spec_DrawConvexFault a0 = some r) : AM.Spec Try.prog 8 [.list (.bytes a0)] [] (.agg [.int .i64 r.1, .sl 1000 0]) [(1000, .arr 3 0 0 (.ints r.2))] := by
  refine spec_of (E := E8_spec_DrawConvexFault) Try.func8 rfl rfl rfl rfl ?_
  refine Tri.run 1 [] [.keep [0, 2] [2], .ownc 2 1 1100 3, .keep [0, 2] [2, 1100]] (K' := [.code [(1, 0)] 0, .code [] 2]) (σ' := ⟨[(0, .list (.bytes a0)), (2, .ptr 2 0)], [(2, .box [.int .i64 0, .sl 1100 0]), (1100, .arr 3 0 0 (.ints []))]⟩) rfl trivial rfl ?_
  obtain ⟨⟨v1, v2, v3, v4, v5⟩, hk1, h⟩ := bind_some h
  obtain ⟨⟨v6, v7, v8, v9⟩, hk2, h⟩ := bind_some h
  refine Tri.run 1 [.r ⟨[2, 1100], .ptr 1101 0, [(1101, .box [.list (.bytes v1), .int .i64 v2, .int .i64 v3]), (1102, .arr 3 0 0 (.ints v4)), (2, .box [.int .i64 v5, .sl 1102 0])]⟩, .r ⟨[1101], .agg [.int .i64 v6, .sl 1103 0], [(1103, .arr 3 0 0 (.ints v7)), (1101, .box [.undf, .int .i64 v8, .int .i64 v9])]⟩] [.swap 1103 1000, .keep [2] [2, 1000]] (K' := [.code [] 2]) (σ' := ⟨[(2, .ptr 2 0)], [(2, .box [.int .i64 v6, .sl 1000 0]), (1000, .arr 3 0 0 (.ints v7))]⟩) rfl ⟨(fun vf => (((w_spec_l8Bent_io1 (vf 1101 0) v1 v2 v3 (v6, v7, v8, v9) hk2).swap 1000 1103).swap 2020 1101)), (fun _ => (((((w_spec_l1New_io2 0 [] a0 (v1, v2, v3, v4, v5) hk1).swap 1000 1101).swap 1001 1102).swap 2000 2).swap 2001 1100)), trivial⟩ rfl ?_
  have h := Option.some.inj h
  subst h
  exact Tri.ret rfl ⟨.inl rfl, rfl, rfl⟩
/-! impl.within -/
noncomputable def E59_impl_within : Env := ⟨Try.prog, tys, (Try.f59.body).getD .skip, 15, tysOk, mixedOk⟩
abbrev q_impl_within (r : Bool) (σ' : ASt) : Prop := resAV E59_impl_within.T σ' Try.f59.results.toList = some (.bool r) ∧ keepO σ'.ob (namesO []) = []
noncomputable def m_impl_within (a0 : Int) (a1 : Int) (a2 : Int) : Option Bool :=
bif decide (a0 ≥ a1) then
(some (decide (a0 ≤ a2)))
else
(some false)
theorem w_impl_within (a0 : Int) (a1 : Int) (a2 : Int) (r : Bool) (h : m_impl_within a0 a1 a2 = some r) : AM.Spec Try.prog 59 [.int .i64 a0, .int .i64 a1, .int .i64 a2] [] (.bool r) [] := by
  refine spec_of (E := E59_impl_within) Try.func59 rfl rfl rfl rfl ?_
  refine Tri.run 1 [] [.keep [0, 1, 2] []] (K' := [.code [(1, 0)] 0, .code [] 2]) (σ' := ⟨[(0, .int .i64 a0), (1, .int .i64 a1), (2, .int .i64 a2)], []⟩) rfl trivial rfl ?_
  rcases bif_some h with ⟨hd1, h⟩ | ⟨hd1, h⟩
  · refine Tri.run 1 [.g true] [.keep [6] []] (K' := [.code [] 2]) (σ' := ⟨[(6, .bool (decide (a0 ≤ a2)))], []⟩) rfl ⟨hd1, trivial⟩ rfl ?_
    have h := Option.some.inj h
    subst h
    exact Tri.ret rfl ⟨.inl rfl, rfl, rfl⟩
  · refine Tri.run 1 [.g false] [.keep [6] []] (K' := [.code [] 2]) (σ' := ⟨[(6, .bool false)], []⟩) rfl ⟨hd1, trivial⟩ rfl ?_
    have h := Option.some.inj h
    subst h
    exact Tri.ret rfl ⟨.inl rfl, rfl, rfl⟩
/-! impl.IsValidGame$1 -/
noncomputable def E82_impl_IsValidGame_1 : Env := ⟨Try.prog, tys, (Try.f82.body).getD .skip, 6, tysOk, mixedOk⟩
abbrev q_impl_IsValidGame_1 (r : Bool) (σ' : ASt) : Prop := resAV E82_impl_IsValidGame_1.T σ' Try.f82.results.toList = some (.bool r) ∧ keepO σ'.ob (namesO []) = []
noncomputable def m_impl_IsValidGame_1 (a0 : Int) : Option Bool :=
(m_impl_within a0 (-500 : Int) (500 : Int)).bind fun v1 =>
some (!v1)
theorem w_impl_IsValidGame_1 (a0 : Int) (r : Bool) (h : m_impl_IsValidGame_1 a0 = some r) : AM.Spec Try.prog 82 [.int .i64 a0] [] (.bool r) [] := by
  refine spec_of (E := E82_impl_IsValidGame_1) Try.func82 rfl rfl rfl rfl ?_
  refine Tri.run 1 [] [.keep [0] []] (K' := [.code [(1, 0)] 0, .code [] 2]) (σ' := ⟨[(0, .int .i64 a0)], []⟩) rfl trivial rfl ?_
  obtain ⟨v1, hk1, h⟩ := bind_some h
  refine Tri.run 1 [.r ⟨[], .bool v1, []⟩] [.keep [2] []] (K' := [.code [] 2]) (σ' := ⟨[(2, .bool (!v1))], []⟩) rfl ⟨(fun _ => (w_impl_within a0 (-500 : Int) (500 : Int) v1 hk1)), trivial⟩ rfl ?_
  have h := Option.some.inj h
  subst h
  exact Tri.ret rfl ⟨.inl rfl, rfl, rfl⟩
/-! slices.IndexFunc(()int,int) -/
noncomputable def E102_slices_IndexFunc_int_int : Env := ⟨Try.prog, tys, (Try.f102.body).getD .skip, 19, tysOk, mixedOk⟩
abbrev q_slices_IndexFunc_int_int_impl_IsValidGame_1 (r : Int) (σ' : ASt) : Prop := resAV E102_slices_IndexFunc_int_int.T σ' Try.f102.results.toList = some (.int .i64 r) ∧ keepO σ'.ob (namesO []) = []
noncomputable def l_slices_IndexFunc_int_int_impl_IsValidGame_1_0 (a0 : List Int) (v1 : Int) : Option (Int ⊕ (Unit ⊕ Int)) :=
bif decide (v1 < (a0.length : Int)) then
(grd ((0 : Int) ≤ v1 ∧ v1 < (a0.length : Int)) <|
(m_impl_IsValidGame_1 (a0.getD v1.toNat 0)).bind fun v2 =>
bif v2 then
(some (.inr (.inr v1)))
else
(some (.inl (IntKind.i64.wrap (v1 + (1 : Int))))))
else
(some (.inr (.inl ())))
noncomputable def m_slices_IndexFunc_int_int_impl_IsValidGame_1 (a0 : List Int) : Option Int :=
(iter (l_slices_IndexFunc_int_int_impl_IsValidGame_1_0 a0) (0 : Int)).bind fun
| (.inl _) => (
some (-1 : Int))
| (.inr r) => some r
theorem w_slices_IndexFunc_int_int_impl_IsValidGame_1 (a0 : List Int) (r : Int) (h : m_slices_IndexFunc_int_int_impl_IsValidGame_1 a0 = some r) : AM.Spec Try.prog 102 [.list (.ints a0), .func 82 [] []] [] (.int .i64 r) [] := by
  refine spec_of (E := E102_slices_IndexFunc_int_int) Try.func102 rfl rfl rfl rfl ?_
  refine Tri.run 2 [] [.keep [0, 1, 7, 8] []] (K' := [.code [(1, 0), (1, 0)] 0, .blk 0, .code [] 2]) (σ' := ⟨[(0, .list (.ints a0)), (1, .func 82 [] []), (7, .int .i64 (a0.length : Int)), (8, .int .i64 (0 : Int))], []⟩) rfl trivial rfl ?_
  obtain ⟨x1, hk5, h⟩ := bind_some h
  refine Tri.loop (K1 := [.code [(1, 0), (1, 0), (0, 0)] 0]) (K2 := [.blk 0, .code [] 2]) (fun v1 => ⟨[(0, .list (.ints a0)), (1, .func 82 [] []), (7, .int .i64 (a0.length : Int)), (8, .int .i64 v1)], []⟩) (fun x e σ' => match x with | (.inl _) => e = .exit 0 ∧ σ' = ⟨[], []⟩ | (.inr r) => e = .ret ∧ q_slices_IndexFunc_int_int_impl_IsValidGame_1 r σ') hk5 rfl rfl ?_ ?_
  · intro v1 x hs
    clear h
    have h := hs
    clear hs
    refine Tri.run 1 [] [.keep [0, 1, 7, 8, 9] []] (K' := [.code [(1, 0), (1, 0), (0, 0), (1, 0)] 0, .code [(1, 0), (1, 0), (0, 0)] 2]) (σ' := ⟨[(0, .list (.ints a0)), (1, .func 82 [] []), (7, .int .i64 (a0.length : Int)), (8, .int .i64 v1), (9, .bool (decide (v1 < (a0.length : Int))))], []⟩) rfl trivial rfl ?_
    rcases bif_some h with ⟨hd1, h⟩ | ⟨hd1, h⟩
    · refine Tri.run 2 [.g true] [.keep [0, 1, 5, 7, 8] []] (K' := [.code [(1, 0), (1, 0), (0, 0), (2, 0), (0, 0), (1, 0)] 0, .code [(1, 0), (1, 0), (0, 0), (2, 0), (0, 0)] 2, .blk 1, .code [(1, 0), (1, 0), (0, 0)] 3]) (σ' := ⟨[(0, .list (.ints a0)), (1, .func 82 [] []), (5, .int .i64 v1), (7, .int .i64 (a0.length : Int)), (8, .int .i64 v1)], []⟩) rfl ⟨hd1, trivial⟩ rfl ?_
      obtain ⟨hg2, h⟩ := grd_some h
      obtain ⟨v2, hk3, h⟩ := bind_some h
      refine Tri.run 1 [.r ⟨[], .bool v2, []⟩] [.keep [0, 1, 5, 7, 8, 16] []] (K' := [.code [(1, 0), (1, 0), (0, 0), (2, 0), (0, 0)] 2, .blk 1, .code [(1, 0), (1, 0), (0, 0)] 3]) (σ' := ⟨[(0, .list (.ints a0)), (1, .func 82 [] []), (5, .int .i64 v1), (7, .int .i64 (a0.length : Int)), (8, .int .i64 v1), (16, .bool v2)], []⟩) rfl ⟨(fun _ => (w_impl_IsValidGame_1 (a0.getD v1.toNat 0) v2 hk3)), hg2, trivial⟩ rfl ?_
      rcases bif_some h with ⟨hd4, h⟩ | ⟨hd4, h⟩
      · refine Tri.run 2 [.g true] [.keep [4] []] (K' := [.code [(1, 0), (1, 0), (0, 0), (2, 0), (0, 0), (2, 0)] 1, .blk 1, .code [(1, 0), (1, 0), (0, 0)] 3]) (σ' := ⟨[(4, .int .i64 v1)], []⟩) rfl ⟨hd4, trivial⟩ rfl ?_
        have h := Option.some.inj h
        subst h
        exact Tri.ret rfl ⟨nofun, rfl, rfl, rfl⟩
      · refine Tri.run 2 [.g false] [.keep [0, 1, 7, 8] []] (K' := []) (σ' := ⟨[(0, .list (.ints a0)), (1, .func 82 [] []), (7, .int .i64 (a0.length : Int)), (8, .int .i64 (IntKind.i64.wrap (v1 + (1 : Int))))], []⟩) rfl ⟨hd4, trivial⟩ rfl ?_
        have h := Option.some.inj h
        subst h
        exact Tri.nil ⟨rfl, rfl⟩
    · refine Tri.run 1 [.g false] [.keep [] []] (K' := [.code [(1, 0), (1, 0), (0, 0), (1, 0), (0, 1)] 0, .code [(1, 0), (1, 0), (0, 0)] 2]) (σ' := ⟨[], []⟩) rfl ⟨hd1, trivial⟩ rfl ?_
      have h := Option.some.inj h
      subst h
      exact Tri.out 0 rfl ⟨nofun, rfl, rfl⟩
  · intro e σ' hne hq
    rcases x1 with _ | r
    · obtain ⟨rfl, rfl⟩ := hq
      refine TriX.exit (K' := [.code [] 2]) rfl ?_
      refine Tri.run 1 [] [.keep [4] []] (K' := [.code [] 3]) (σ' := ⟨[(4, .int .i64 (-1 : Int))], []⟩) rfl trivial rfl ?_
      have h := Option.some.inj h
      subst h
      exact Tri.ret rfl ⟨.inl rfl, rfl, rfl⟩
    · obtain ⟨rfl, hq⟩ := hq
      have h := Option.some.inj h
      subst h
      exact TriX.ret ⟨.inl rfl, hq⟩
/-! slices.ContainsFunc(()int,int) -/
noncomputable def E72_slices_ContainsFunc_int_int : Env := ⟨Try.prog, tys, (Try.f72.body).getD .skip, 9, tysOk, mixedOk⟩
abbrev q_slices_ContainsFunc_int_int_impl_IsValidGame_1 (r : Bool) (σ' : ASt) : Prop := resAV E72_slices_ContainsFunc_int_int.T σ' Try.f72.results.toList = some (.bool r) ∧ keepO σ'.ob (namesO []) = []
noncomputable def m_slices_ContainsFunc_int_int_impl_IsValidGame_1 (a0 : List Int) : Option Bool :=
(m_slices_IndexFunc_int_int_impl_IsValidGame_1 a0).bind fun v1 =>
some (decide (v1 ≥ (0 : Int)))
theorem w_slices_ContainsFunc_int_int_impl_IsValidGame_1 (a0 : List Int) (r : Bool) (h : m_slices_ContainsFunc_int_int_impl_IsValidGame_1 a0 = some r) : AM.Spec Try.prog 72 [.list (.ints a0), .func 82 [] []] [] (.bool r) [] := by
  refine spec_of (E := E72_slices_ContainsFunc_int_int) Try.func72 rfl rfl rfl rfl ?_
  refine Tri.run 1 [] [.keep [0, 1] []] (K' := [.code [(1, 0)] 0, .code [] 2]) (σ' := ⟨[(0, .list (.ints a0)), (1, .func 82 [] [])], []⟩) rfl trivial rfl ?_
  obtain ⟨v1, hk1, h⟩ := bind_some h
  refine Tri.run 1 [.r ⟨[], .int .i64 v1, []⟩] [.keep [4] []] (K' := [.code [] 2]) (σ' := ⟨[(4, .bool (decide (v1 ≥ (0 : Int))))], []⟩) rfl ⟨(fun _ => (w_slices_IndexFunc_int_int_impl_IsValidGame_1 a0 v1 hk1)), trivial⟩ rfl ?_
  have h := Option.some.inj h
  subst h
  exact Tri.ret rfl ⟨.inl rfl, rfl, rfl⟩
/-! impl.IsValidGame -/
noncomputable def E35_impl_IsValidGame : Env := ⟨Try.prog, tys, (Try.f35.body).getD .skip, 27, tysOk, mixedOk⟩
abbrev q_impl_IsValidGame (r : Bool) (σ' : ASt) : Prop := resAV E35_impl_IsValidGame.T σ' Try.f35.results.toList = some (.bool r) ∧ keepO σ'.ob (namesO []) = []
noncomputable def m_impl_IsValidGame (a0 : Int) (a1 : List Int) : Option Bool :=
(m_impl_within a0 (1 : Int) (5 : Int)).bind fun v1 =>
bif !v1 then
(some false)
else
(grd ((0 : Int) ≤ a0) <|
bif (a1.length : Int) != (IntKind.i64.wrap ((1 : Int) * 2 ^ (min a0.toNat 64))) then
(some false)
else
(grd ((0 : Int) ≤ (0 : Int) ∧ (0 : Int) < (a1.length : Int)) <|
bif (a1.getD ((0 : Int).toNat) 0) != (0 : Int) then
(some false)
else
((m_slices_ContainsFunc_int_int_impl_IsValidGame_1 a1).bind fun v2 =>
some (!v2))))
theorem w_impl_IsValidGame (a0 : Int) (a1 : List Int) (r : Bool) (h : m_impl_IsValidGame a0 a1 = some r) : AM.Spec Try.prog 35 [.agg [.int .i64 a0, .list (.ints a1)]] [] (.bool r) [] := by
  refine spec_of (E := E35_impl_IsValidGame) Try.func35 rfl rfl rfl rfl ?_
  refine Tri.run 1 [] [.keep [1] [1]] (K' := [.code [(1, 0), (0, 0)] 0, .code [(1, 0)] 1, .code [] 2]) (σ' := ⟨[(1, .ptr 1 0)], [(1, .box [.int .i64 a0, .list (.ints a1)])]⟩) rfl trivial rfl ?_
  obtain ⟨v1, hk1, h⟩ := bind_some h
  rcases bif_some h with ⟨hd2, h⟩ | ⟨hd2, h⟩
  · refine Tri.run 1 [.r ⟨[], .bool v1, []⟩, .g true, .g true] [.keep [1, 22] [1]] (K' := [.code [(1, 0)] 1, .code [] 2]) (σ' := ⟨[(1, .ptr 1 0), (22, .bool true)], [(1, .box [.int .i64 a0, .list (.ints a1)])]⟩) rfl ⟨rfl, hd2, (fun _ => (w_impl_within a0 (1 : Int) (5 : Int) v1 hk1)), trivial⟩ rfl ?_
    refine Tri.run 2 [.g true] [.keep [2] []] (K' := [.code [(1, 0), (1, 0)] 1, .code [] 2]) (σ' := ⟨[(2, .bool false)], []⟩) rfl ⟨rfl, trivial⟩ rfl ?_
    have h := Option.some.inj h
    subst h
    exact Tri.ret rfl ⟨.inl rfl, rfl, rfl⟩
  · obtain ⟨hg3, h⟩ := grd_some h
    rcases bif_some h with ⟨hd4, h⟩ | ⟨hd4, h⟩
    · refine Tri.run 1 [.r ⟨[], .bool v1, []⟩, .g false, .g true] [.keep [1, 22] [1]] (K' := [.code [(1, 0)] 1, .code [] 2]) (σ' := ⟨[(1, .ptr 1 0), (22, .bool true)], [(1, .box [.int .i64 a0, .list (.ints a1)])]⟩) rfl ⟨hd4, hg3, hd2, (fun _ => (w_impl_within a0 (1 : Int) (5 : Int) v1 hk1)), trivial⟩ rfl ?_
      refine Tri.run 2 [.g true] [.keep [2] []] (K' := [.code [(1, 0), (1, 0)] 1, .code [] 2]) (σ' := ⟨[(2, .bool false)], []⟩) rfl ⟨rfl, trivial⟩ rfl ?_
      have h := Option.some.inj h
      subst h
      exact Tri.ret rfl ⟨.inl rfl, rfl, rfl⟩
    · obtain ⟨hg5, h⟩ := grd_some h
      refine Tri.run 1 [.r ⟨[], .bool v1, []⟩, .g false, .g false] [.keep [1, 22] [1]] (K' := [.code [(1, 0)] 1, .code [] 2]) (σ' := ⟨[(1, .ptr 1 0), (22, .bool ((a1.getD ((0 : Int).toNat) 0) != (0 : Int)))], [(1, .box [.int .i64 a0, .list (.ints a1)])]⟩) rfl ⟨hg5, hd4, hg3, hd2, (fun _ => (w_impl_within a0 (1 : Int) (5 : Int) v1 hk1)), trivial⟩ rfl ?_
      rcases bif_some h with ⟨hd6, h⟩ | ⟨hd6, h⟩
      · refine Tri.run 2 [.g true] [.keep [2] []] (K' := [.code [(1, 0), (1, 0)] 1, .code [] 2]) (σ' := ⟨[(2, .bool false)], []⟩) rfl ⟨hd6, trivial⟩ rfl ?_
        have h := Option.some.inj h
        subst h
        exact Tri.ret rfl ⟨.inl rfl, rfl, rfl⟩
      · obtain ⟨v2, hk7, h⟩ := bind_some h
        refine Tri.run 2 [.g false, .r ⟨[], .bool v2, []⟩] [.keep [2] []] (K' := [.code [] 3]) (σ' := ⟨[(2, .bool (!v2))], []⟩) rfl ⟨(fun _ => (w_slices_ContainsFunc_int_int_impl_IsValidGame_1 a1 v2 hk7)), hd6, trivial⟩ rfl ?_
        have h := Option.some.inj h
        subst h
        exact Tri.ret rfl ⟨.inl rfl, rfl, rfl⟩
/-! impl.ConvexFault$1 -/
noncomputable def E57_impl_ConvexFault_1 : Env := ⟨Try.prog, tys, (Try.f57.body).getD .skip, 33, tysOk, mixedOk⟩
abbrev q_impl_ConvexFault_1 (r : Bool) (σ' : ASt) : Prop := resAV E57_impl_ConvexFault_1.T σ' Try.f57.results.toList = some (.bool r) ∧ keepO σ'.ob (namesO []) = []
noncomputable def m_impl_ConvexFault_1 (a0 : Int) (a1 : Int) (_a2 : Int) (a3 : List Int) : Option Bool :=
grd ((0 : Int) ≤ a0 ∧ a0 < (a3.length : Int)) <|
grd ((0 : Int) ≤ a1 ∧ a1 < (a3.length : Int)) <|
grd ((0 : Int) ≤ bitsOf .or .i64 a0 a1 ∧ bitsOf .or .i64 a0 a1 < (a3.length : Int)) <|
grd ((0 : Int) ≤ bitsOf .and .i64 a0 a1 ∧ bitsOf .and .i64 a0 a1 < (a3.length : Int)) <|
some (decide ((IntKind.i64.wrap ((a3.getD a0.toNat 0) + (a3.getD a1.toNat 0))) > (IntKind.i64.wrap ((a3.getD ((bitsOf .or .i64 a0 a1).toNat) 0) + (a3.getD ((bitsOf .and .i64 a0 a1).toNat) 0)))))
theorem w_impl_ConvexFault_1 (a0 : Int) (a1 : Int) (a2 : Int) (a3 : List Int) (r : Bool) (h : m_impl_ConvexFault_1 a0 a1 a2 a3 = some r) : AM.Spec Try.prog 57 [.int .i64 a0, .int .i64 a1, .pbox [.int .i64 a2, .list (.ints a3)] 0] [] (.bool r) [] := by
  refine spec_of (E := E57_impl_ConvexFault_1) Try.func57 rfl rfl rfl rfl ?_
  obtain ⟨hg1, h⟩ := grd_some h
  obtain ⟨hg2, h⟩ := grd_some h
  obtain ⟨hg3, h⟩ := grd_some h
  obtain ⟨hg4, h⟩ := grd_some h
  refine Tri.run 2 [] [.keep [5] []] (K' := [.code [] 2]) (σ' := ⟨[(5, .bool (decide ((IntKind.i64.wrap ((a3.getD a0.toNat 0) + (a3.getD a1.toNat 0))) > (IntKind.i64.wrap ((a3.getD ((bitsOf .or .i64 a0 a1).toNat) 0) + (a3.getD ((bitsOf .and .i64 a0 a1).toNat) 0))))))], []⟩) rfl ⟨hg4, hg3, hg2, hg1, trivial⟩ rfl ?_
  have h := Option.some.inj h
  subst h
  exact Tri.ret rfl ⟨.inl rfl, rfl, rfl⟩
/-! impl.fault -/
noncomputable def E56_impl_fault : Env := ⟨Try.prog, tys, (Try.f56.body).getD .skip, 32, tysOk, mixedOk⟩
abbrev q_impl_fault_impl_ConvexFault_1 (r : Int × Int × Bool) (σ' : ASt) : Prop := resAV E56_impl_fault.T σ' Try.f56.results.toList = some (.tuple [.int .i64 r.1, .int .i64 r.2.1, .bool r.2.2]) ∧ keepO σ'.ob (namesO []) = []
noncomputable def l_impl_fault_impl_ConvexFault_1_1 (a1 : List Int) (a2 : Int) (a3 : List Int) (v2 : Int) (v3 : Int) : Option (Int ⊕ (Unit ⊕ ((Int × Int × Bool)))) :=
bif decide (v3 < (a1.length : Int)) then
((m_impl_ConvexFault_1 v2 v3 a2 a3).bind fun v4 =>
bif v4 then
(some (.inr (.inr (v2, v3, true))))
else
(some (.inl (IntKind.i64.wrap (v3 + (1 : Int))))))
else
(some (.inr (.inl ())))
noncomputable def l_impl_fault_impl_ConvexFault_1_0 (a1 : List Int) (a2 : Int) (a3 : List Int) (v2 : Int) : Option (Int ⊕ (Unit ⊕ ((Int × Int × Bool)))) :=
bif decide (v2 < (a1.length : Int)) then
((iter (l_impl_fault_impl_ConvexFault_1_1 a1 a2 a3 v2) (0 : Int)).bind fun
| (.inl _) => (
some (.inl (IntKind.i64.wrap (v2 + (1 : Int)))))
| (.inr r) => some (.inr (.inr r)))
else
(some (.inr (.inl ())))
noncomputable def m_impl_fault_impl_ConvexFault_1 (a0 : Int) (a1 : List Int) (a2 : Int) (a3 : List Int) : Option (Int × Int × Bool) :=
(m_impl_IsValidGame a0 a1).bind fun v1 =>
bif !v1 then
(some ((0 : Int), (0 : Int), false))
else
((iter (l_impl_fault_impl_ConvexFault_1_0 a1 a2 a3) (0 : Int)).bind fun
| (.inl _) => (
some ((0 : Int), (0 : Int), false))
| (.inr r) => some r)
theorem w_impl_fault_impl_ConvexFault_1 (a0 : Int) (a1 : List Int) (a2 : Int) (a3 : List Int) (r : Int × Int × Bool) (h : m_impl_fault_impl_ConvexFault_1 a0 a1 a2 a3 = some r) : AM.Spec Try.prog 56 [.agg [.int .i64 a0, .list (.ints a1)], .func 57 [] [.pbox [.int .i64 a2, .list (.ints a3)] 0]] [] (.tuple [.int .i64 r.1, .int .i64 r.2.1, .bool r.2.2]) [] := by
  refine spec_of (E := E56_impl_fault) Try.func56 rfl rfl rfl rfl ?_
  refine Tri.run 1 [] [.keep [1, 2] [2]] (K' := [.code [(1, 0), (0, 0)] 0, .code [(1, 0)] 1, .code [] 2]) (σ' := ⟨[(1, .func 57 [] [.pbox [.int .i64 a2, .list (.ints a3)] 0]), (2, .ptr 2 0)], [(2, .box [.int .i64 a0, .list (.ints a1)])]⟩) rfl trivial rfl ?_
  obtain ⟨v1, hk1, h⟩ := bind_some h
  refine Tri.run 1 [.r ⟨[], .bool v1, []⟩] [.keep [1, 2, 11] [2]] (K' := [.code [(1, 0)] 1, .code [] 2]) (σ' := ⟨[(1, .func 57 [] [.pbox [.int .i64 a2, .list (.ints a3)] 0]), (2, .ptr 2 0), (11, .bool (!v1))], [(2, .box [.int .i64 a0, .list (.ints a1)])]⟩) rfl ⟨(fun _ => (w_impl_IsValidGame a0 a1 v1 hk1)), trivial⟩ rfl ?_
  rcases bif_some h with ⟨hd2, h⟩ | ⟨hd2, h⟩
  · refine Tri.run 2 [.g true] [.keep [4, 5, 6] []] (K' := [.code [(1, 0), (1, 0)] 1, .code [] 2]) (σ' := ⟨[(4, .int .i64 (0 : Int)), (5, .int .i64 (0 : Int)), (6, .bool false)], []⟩) rfl ⟨hd2, trivial⟩ rfl ?_
    have h := Option.some.inj h
    subst h
    exact Tri.ret rfl ⟨.inl rfl, rfl, rfl⟩
  · refine Tri.run 2 [.g false] [.keep [1, 2, 14, 15] [2]] (K' := [.code [(2, 0), (1, 0)] 0, .blk 0, .code [] 3]) (σ' := ⟨[(1, .func 57 [] [.pbox [.int .i64 a2, .list (.ints a3)] 0]), (2, .ptr 2 0), (14, .int .i64 (a1.length : Int)), (15, .int .i64 (0 : Int))], [(2, .box [.int .i64 a0, .list (.ints a1)])]⟩) rfl ⟨hd2, trivial⟩ rfl ?_
    obtain ⟨x2, hk8, h⟩ := bind_some h
    refine Tri.loop (K1 := [.code [(2, 0), (1, 0), (0, 0)] 0]) (K2 := [.blk 0, .code [] 3]) (fun v2 => ⟨[(1, .func 57 [] [.pbox [.int .i64 a2, .list (.ints a3)] 0]), (2, .ptr 2 0), (14, .int .i64 (a1.length : Int)), (15, .int .i64 v2)], [(2, .box [.int .i64 a0, .list (.ints a1)])]⟩) (fun x e σ' => match x with | (.inl _) => e = .exit 0 ∧ σ' = ⟨[], []⟩ | (.inr r) => e = .ret ∧ q_impl_fault_impl_ConvexFault_1 r σ') hk8 rfl rfl ?_ ?_
    · intro v2 x hs
      clear h
      have h := hs
      clear hs
      refine Tri.run 1 [] [.keep [1, 2, 14, 15, 16] [2]] (K' := [.code [(2, 0), (1, 0), (0, 0), (1, 0)] 0, .code [(2, 0), (1, 0), (0, 0)] 2]) (σ' := ⟨[(1, .func 57 [] [.pbox [.int .i64 a2, .list (.ints a3)] 0]), (2, .ptr 2 0), (14, .int .i64 (a1.length : Int)), (15, .int .i64 v2), (16, .bool (decide (v2 < (a1.length : Int))))], [(2, .box [.int .i64 a0, .list (.ints a1)])]⟩) rfl trivial rfl ?_
      rcases bif_some h with ⟨hd3, h⟩ | ⟨hd3, h⟩
      · refine Tri.run 3 [.g true] [.keep [1, 2, 7, 14, 15, 20, 21] [2]] (K' := [.code [(2, 0), (1, 0), (0, 0), (2, 0), (0, 0), (2, 0)] 0, .blk 2, .blk 1, .code [(2, 0), (1, 0), (0, 0)] 3]) (σ' := ⟨[(1, .func 57 [] [.pbox [.int .i64 a2, .list (.ints a3)] 0]), (2, .ptr 2 0), (7, .int .i64 v2), (14, .int .i64 (a1.length : Int)), (15, .int .i64 v2), (20, .int .i64 (a1.length : Int)), (21, .int .i64 (0 : Int))], [(2, .box [.int .i64 a0, .list (.ints a1)])]⟩) rfl ⟨hd3, trivial⟩ rfl ?_
        obtain ⟨x2, hk7, h⟩ := bind_some h
        refine Tri.loop (K1 := [.code [(2, 0), (1, 0), (0, 0), (2, 0), (0, 0), (2, 0), (0, 0)] 0]) (K2 := [.blk 2, .blk 1, .code [(2, 0), (1, 0), (0, 0)] 3]) (fun v3 => ⟨[(1, .func 57 [] [.pbox [.int .i64 a2, .list (.ints a3)] 0]), (2, .ptr 2 0), (7, .int .i64 v2), (14, .int .i64 (a1.length : Int)), (15, .int .i64 v2), (20, .int .i64 (a1.length : Int)), (21, .int .i64 v3)], [(2, .box [.int .i64 a0, .list (.ints a1)])]⟩) (fun x e σ' => match x with | (.inl _) => e = .exit 2 ∧ σ' = ⟨[(1, .func 57 [] [.pbox [.int .i64 a2, .list (.ints a3)] 0]), (2, .ptr 2 0), (14, .int .i64 (a1.length : Int)), (15, .int .i64 v2)], [(2, .box [.int .i64 a0, .list (.ints a1)])]⟩ | (.inr r) => e = .ret ∧ q_impl_fault_impl_ConvexFault_1 r σ') hk7 rfl rfl ?_ ?_
        · intro v3 x hs
          clear h
          have h := hs
          clear hs
          refine Tri.run 1 [] [.keep [1, 2, 7, 14, 15, 20, 21, 22] [2]] (K' := [.code [(2, 0), (1, 0), (0, 0), (2, 0), (0, 0), (2, 0), (0, 0), (1, 0)] 0, .code [(2, 0), (1, 0), (0, 0), (2, 0), (0, 0), (2, 0), (0, 0)] 2]) (σ' := ⟨[(1, .func 57 [] [.pbox [.int .i64 a2, .list (.ints a3)] 0]), (2, .ptr 2 0), (7, .int .i64 v2), (14, .int .i64 (a1.length : Int)), (15, .int .i64 v2), (20, .int .i64 (a1.length : Int)), (21, .int .i64 v3), (22, .bool (decide (v3 < (a1.length : Int))))], [(2, .box [.int .i64 a0, .list (.ints a1)])]⟩) rfl trivial rfl ?_
          rcases bif_some h with ⟨hd4, h⟩ | ⟨hd4, h⟩
          · refine Tri.run 2 [.g true] [.keep [1, 2, 7, 8, 14, 15, 20, 21] [2]] (K' := [.code [(2, 0), (1, 0), (0, 0), (2, 0), (0, 0), (2, 0), (0, 0), (2, 0), (0, 0), (1, 0)] 0, .code [(2, 0), (1, 0), (0, 0), (2, 0), (0, 0), (2, 0), (0, 0), (2, 0), (0, 0)] 2, .blk 3, .code [(2, 0), (1, 0), (0, 0), (2, 0), (0, 0), (2, 0), (0, 0)] 3]) (σ' := ⟨[(1, .func 57 [] [.pbox [.int .i64 a2, .list (.ints a3)] 0]), (2, .ptr 2 0), (7, .int .i64 v2), (8, .int .i64 v3), (14, .int .i64 (a1.length : Int)), (15, .int .i64 v2), (20, .int .i64 (a1.length : Int)), (21, .int .i64 v3)], [(2, .box [.int .i64 a0, .list (.ints a1)])]⟩) rfl ⟨hd4, trivial⟩ rfl ?_
            obtain ⟨v4, hk5, h⟩ := bind_some h
            refine Tri.run 1 [.r ⟨[], .bool v4, []⟩] [.keep [1, 2, 7, 8, 14, 15, 20, 21, 27] [2]] (K' := [.code [(2, 0), (1, 0), (0, 0), (2, 0), (0, 0), (2, 0), (0, 0), (2, 0), (0, 0)] 2, .blk 3, .code [(2, 0), (1, 0), (0, 0), (2, 0), (0, 0), (2, 0), (0, 0)] 3]) (σ' := ⟨[(1, .func 57 [] [.pbox [.int .i64 a2, .list (.ints a3)] 0]), (2, .ptr 2 0), (7, .int .i64 v2), (8, .int .i64 v3), (14, .int .i64 (a1.length : Int)), (15, .int .i64 v2), (20, .int .i64 (a1.length : Int)), (21, .int .i64 v3), (27, .bool v4)], [(2, .box [.int .i64 a0, .list (.ints a1)])]⟩) rfl ⟨(fun _ => (w_impl_ConvexFault_1 v2 v3 a2 a3 v4 hk5)), trivial⟩ rfl ?_
            rcases bif_some h with ⟨hd6, h⟩ | ⟨hd6, h⟩
            · refine Tri.run 2 [.g true] [.keep [4, 5, 6] []] (K' := [.code [(2, 0), (1, 0), (0, 0), (2, 0), (0, 0), (2, 0), (0, 0), (2, 0), (0, 0), (2, 0)] 1, .blk 3, .code [(2, 0), (1, 0), (0, 0), (2, 0), (0, 0), (2, 0), (0, 0)] 3]) (σ' := ⟨[(4, .int .i64 v2), (5, .int .i64 v3), (6, .bool true)], []⟩) rfl ⟨hd6, trivial⟩ rfl ?_
              have h := Option.some.inj h
              subst h
              exact Tri.ret rfl ⟨nofun, rfl, rfl, rfl⟩
            · refine Tri.run 2 [.g false] [.keep [1, 2, 7, 14, 15, 20, 21] [2]] (K' := []) (σ' := ⟨[(1, .func 57 [] [.pbox [.int .i64 a2, .list (.ints a3)] 0]), (2, .ptr 2 0), (7, .int .i64 v2), (14, .int .i64 (a1.length : Int)), (15, .int .i64 v2), (20, .int .i64 (a1.length : Int)), (21, .int .i64 (IntKind.i64.wrap (v3 + (1 : Int))))], [(2, .box [.int .i64 a0, .list (.ints a1)])]⟩) rfl ⟨hd6, trivial⟩ rfl ?_
              have h := Option.some.inj h
              subst h
              exact Tri.nil ⟨rfl, rfl⟩
          · refine Tri.run 1 [.g false] [.keep [1, 2, 14, 15] [2]] (K' := [.code [(2, 0), (1, 0), (0, 0), (2, 0), (0, 0), (2, 0), (0, 0), (1, 0), (0, 1)] 0, .code [(2, 0), (1, 0), (0, 0), (2, 0), (0, 0), (2, 0), (0, 0)] 2]) (σ' := ⟨[(1, .func 57 [] [.pbox [.int .i64 a2, .list (.ints a3)] 0]), (2, .ptr 2 0), (14, .int .i64 (a1.length : Int)), (15, .int .i64 v2)], [(2, .box [.int .i64 a0, .list (.ints a1)])]⟩) rfl ⟨hd4, trivial⟩ rfl ?_
            have h := Option.some.inj h
            subst h
            exact Tri.out 2 rfl ⟨nofun, rfl, rfl⟩
        · intro e σ' hne hq
          rcases x2 with _ | r
          · obtain ⟨rfl, rfl⟩ := hq
            refine TriX.exit (K' := [.blk 1, .code [(2, 0), (1, 0), (0, 0)] 3]) rfl ?_
            refine Tri.run 1 [] [.keep [1, 2, 14, 15] [2]] (K' := []) (σ' := ⟨[(1, .func 57 [] [.pbox [.int .i64 a2, .list (.ints a3)] 0]), (2, .ptr 2 0), (14, .int .i64 (a1.length : Int)), (15, .int .i64 (IntKind.i64.wrap (v2 + (1 : Int))))], [(2, .box [.int .i64 a0, .list (.ints a1)])]⟩) rfl trivial rfl ?_
            have h := Option.some.inj h
            subst h
            exact Tri.nil ⟨rfl, rfl⟩
          · obtain ⟨rfl, hq⟩ := hq
            have h := Option.some.inj h
            subst h
            exact TriX.ret ⟨nofun, rfl, hq⟩
      · refine Tri.run 1 [.g false] [.keep [] []] (K' := [.code [(2, 0), (1, 0), (0, 0), (1, 0), (0, 1)] 0, .code [(2, 0), (1, 0), (0, 0)] 2]) (σ' := ⟨[], []⟩) rfl ⟨hd3, trivial⟩ rfl ?_
        have h := Option.some.inj h
        subst h
        exact Tri.out 0 rfl ⟨nofun, rfl, rfl⟩
    · intro e σ' hne hq
      rcases x2 with _ | r
      · obtain ⟨rfl, rfl⟩ := hq
        refine TriX.exit (K' := [.code [] 3]) rfl ?_
        refine Tri.run 1 [] [.keep [4, 5, 6] []] (K' := [.code [] 4]) (σ' := ⟨[(4, .int .i64 (0 : Int)), (5, .int .i64 (0 : Int)), (6, .bool false)], []⟩) rfl trivial rfl ?_
        have h := Option.some.inj h
        subst h
        exact Tri.ret rfl ⟨.inl rfl, rfl, rfl⟩
      · obtain ⟨rfl, hq⟩ := hq
        have h := Option.some.inj h
        subst h
        exact TriX.ret ⟨.inl rfl, hq⟩
/-! impl.ConvexFault -/
noncomputable def E9_impl_ConvexFault : Env := ⟨Try.prog, tys, (Try.f9.body).getD .skip, 11, tysOk, mixedOk⟩
abbrev q_impl_ConvexFault (r : Int × Int × Bool) (σ' : ASt) : Prop := resAV E9_impl_ConvexFault.T σ' Try.f9.results.toList = some (.tuple [.int .i64 r.1, .int .i64 r.2.1, .bool r.2.2]) ∧ keepO σ'.ob (namesO []) = []
noncomputable def m_impl_ConvexFault (a0 : Int) (a1 : List Int) : Option (Int × Int × Bool) :=
(m_impl_fault_impl_ConvexFault_1 a0 a1 a0 a1).bind fun (v1, v2, v3) =>
some (v1, v2, v3)
theorem w_impl_ConvexFault (a0 : Int) (a1 : List Int) (r : Int × Int × Bool) (h : m_impl_ConvexFault a0 a1 = some r) : AM.Spec Try.prog 9 [.agg [.int .i64 a0, .list (.ints a1)]] [] (.tuple [.int .i64 r.1, .int .i64 r.2.1, .bool r.2.2]) [] := by
  refine spec_of (E := E9_impl_ConvexFault) Try.func9 rfl rfl rfl rfl ?_
  refine Tri.run 1 [] [.keep [1] [1]] (K' := [.code [(1, 0)] 0, .code [] 2]) (σ' := ⟨[(1, .ptr 1 0)], [(1, .box [.int .i64 a0, .list (.ints a1)])]⟩) rfl trivial rfl ?_
  obtain ⟨⟨v1, v2, v3⟩, hk1, h⟩ := bind_some h
  refine Tri.run 1 [.r ⟨[], .tuple [.int .i64 v1, .int .i64 v2, .bool v3], []⟩] [.keep [2, 3, 4] []] (K' := [.code [] 2]) (σ' := ⟨[(2, .int .i64 v1), (3, .int .i64 v2), (4, .bool v3)], []⟩) rfl ⟨(fun _ => (w_impl_fault_impl_ConvexFault_1 a0 a1 a0 a1 (v1, v2, v3) hk1)), trivial⟩ rfl ?_
  have h := Option.some.inj h
  subst h
  exact Tri.ret rfl ⟨.inl rfl, rfl, rfl⟩
/-! spec.IsValidGame -/
noncomputable def E22_spec_IsValidGame : Env := ⟨Try.prog, tys, (Try.f22.body).getD .skip, 37, tysOk, mixedOk⟩
abbrev q_spec_IsValidGame (r : Bool) (σ' : ASt) : Prop := resAV E22_spec_IsValidGame.T σ' Try.f22.results.toList = some (.bool r) ∧ keepO σ'.ob (namesO []) = []
noncomputable def l_spec_IsValidGame_0 (a1 : List Int) (v1 : Int) : Option (Int ⊕ (Unit ⊕ Bool)) :=
bif decide (v1 < (a1.length : Int)) then
(grd ((0 : Int) ≤ v1 ∧ v1 < (a1.length : Int)) <|
(m_spec_l1In (a1.getD v1.toNat 0) (-500 : Int) (500 : Int)).bind fun v2 =>
bif !v2 then
(some (.inr (.inr false)))
else
(some (.inl (IntKind.i64.wrap (v1 + (1 : Int))))))
else
(some (.inr (.inl ())))
noncomputable def m_spec_IsValidGame (a0 : Int) (a1 : List Int) : Option Bool :=
(iter (l_spec_IsValidGame_0 a1) (0 : Int)).bind fun
| (.inl _) => (
(m_spec_l1In a0 (1 : Int) (5 : Int)).bind fun v3 =>
bif v3 then
((m_spec_CountCoalitions a0).bind fun v4 =>
bif (a1.length : Int) == v4 then
(grd ((0 : Int) ≤ (0 : Int) ∧ (0 : Int) < (a1.length : Int)) <|
some ((a1.getD ((0 : Int).toNat) 0) == (0 : Int)))
else
(some false))
else
(some false))
| (.inr r) => some r
theorem w_spec_IsValidGame (a0 : Int) (a1 : List Int) (r : Bool) (h : m_spec_IsValidGame a0 a1 = some r) : AM.Spec Try.prog 22 [.agg [.int .i64 a0, .list (.ints a1)]] [] (.bool r) [] := by
  refine spec_of (E := E22_spec_IsValidGame) Try.func22 rfl rfl rfl rfl ?_
  refine Tri.run 2 [] [.keep [1, 3] [1]] (K' := [.code [(1, 0), (1, 0)] 0, .blk 0, .code [] 2]) (σ' := ⟨[(1, .ptr 1 0), (3, .int .i64 (0 : Int))], [(1, .box [.int .i64 a0, .list (.ints a1)])]⟩) rfl trivial rfl ?_
  obtain ⟨x1, hk5, h⟩ := bind_some h
  refine Tri.loop (K1 := [.code [(1, 0), (1, 0), (0, 0)] 0]) (K2 := [.blk 0, .code [] 2]) (fun v1 => ⟨[(1, .ptr 1 0), (3, .int .i64 v1)], [(1, .box [.int .i64 a0, .list (.ints a1)])]⟩) (fun x e σ' => match x with | (.inl _) => e = .exit 0 ∧ σ' = ⟨[(1, .ptr 1 0)], [(1, .box [.int .i64 a0, .list (.ints a1)])]⟩ | (.inr r) => e = .ret ∧ q_spec_IsValidGame r σ') hk5 rfl rfl ?_ ?_
  · intro v1 x hs
    clear h
    have h := hs
    clear hs
    refine Tri.run 1 [] [.keep [1, 3, 8] [1]] (K' := [.code [(1, 0), (1, 0), (0, 0), (0, 0)] 1, .code [(1, 0), (1, 0), (0, 0)] 1]) (σ' := ⟨[(1, .ptr 1 0), (3, .int .i64 v1), (8, .bool (decide (v1 < (a1.length : Int))))], [(1, .box [.int .i64 a0, .list (.ints a1)])]⟩) rfl trivial rfl ?_
    rcases bif_some h with ⟨hd1, h⟩ | ⟨hd1, h⟩
    · obtain ⟨hg2, h⟩ := grd_some h
      obtain ⟨v2, hk3, h⟩ := bind_some h
      refine Tri.run 2 [.g true, .r ⟨[], .bool v2, []⟩] [.keep [1, 3, 17] [1]] (K' := [.code [(1, 0), (1, 0), (0, 0), (1, 0), (0, 0)] 1, .blk 1, .code [(1, 0), (1, 0), (0, 0)] 2]) (σ' := ⟨[(1, .ptr 1 0), (3, .int .i64 v1), (17, .bool (!v2))], [(1, .box [.int .i64 a0, .list (.ints a1)])]⟩) rfl ⟨(fun _ => (w_spec_l1In (a1.getD v1.toNat 0) (-500 : Int) (500 : Int) v2 hk3)), hg2, hd1, trivial⟩ rfl ?_
      rcases bif_some h with ⟨hd4, h⟩ | ⟨hd4, h⟩
      · refine Tri.run 2 [.g true] [.keep [2] []] (K' := [.code [(1, 0), (1, 0), (0, 0), (1, 0), (0, 0), (1, 0)] 1, .blk 1, .code [(1, 0), (1, 0), (0, 0)] 2]) (σ' := ⟨[(2, .bool false)], []⟩) rfl ⟨hd4, trivial⟩ rfl ?_
        have h := Option.some.inj h
        subst h
        exact Tri.ret rfl ⟨nofun, rfl, rfl, rfl⟩
      · refine Tri.run 2 [.g false] [.keep [1, 3] [1]] (K' := []) (σ' := ⟨[(1, .ptr 1 0), (3, .int .i64 (IntKind.i64.wrap (v1 + (1 : Int))))], [(1, .box [.int .i64 a0, .list (.ints a1)])]⟩) rfl ⟨hd4, trivial⟩ rfl ?_
        have h := Option.some.inj h
        subst h
        exact Tri.nil ⟨rfl, rfl⟩
    · refine Tri.run 1 [.g false] [.keep [1] [1]] (K' := [.code [(1, 0), (1, 0), (0, 0), (0, 0), (1, 1)] 0, .code [(1, 0), (1, 0), (0, 0)] 1]) (σ' := ⟨[(1, .ptr 1 0)], [(1, .box [.int .i64 a0, .list (.ints a1)])]⟩) rfl ⟨hd1, trivial⟩ rfl ?_
      have h := Option.some.inj h
      subst h
      exact Tri.out 0 rfl ⟨nofun, rfl, rfl⟩
  · intro e σ' hne hq
    rcases x1 with _ | r
    · obtain ⟨rfl, rfl⟩ := hq
      refine TriX.exit (K' := [.code [] 2]) rfl ?_
      obtain ⟨v3, hk6, h⟩ := bind_some h
      rcases bif_some h with ⟨hd7, h⟩ | ⟨hd7, h⟩
      · obtain ⟨v4, hk8, h⟩ := bind_some h
        rcases bif_some h with ⟨hd9, h⟩ | ⟨hd9, h⟩
        · obtain ⟨hg10, h⟩ := grd_some h
          refine Tri.run 1 [.r ⟨[], .bool v3, []⟩, .g true, .r ⟨[], .int .i64 v4, []⟩, .g true] [.keep [2] []] (K' := [.code [] 3]) (σ' := ⟨[(2, .bool ((a1.getD ((0 : Int).toNat) 0) == (0 : Int)))], []⟩) rfl ⟨hg10, hd9, (fun _ => (w_spec_CountCoalitions a0 v4 hk8)), hd7, (fun _ => (w_spec_l1In a0 (1 : Int) (5 : Int) v3 hk6)), trivial⟩ rfl ?_
          have h := Option.some.inj h
          subst h
          exact Tri.ret rfl ⟨.inl rfl, rfl, rfl⟩
        · refine Tri.run 1 [.r ⟨[], .bool v3, []⟩, .g true, .r ⟨[], .int .i64 v4, []⟩, .g false] [.keep [2] []] (K' := [.code [] 3]) (σ' := ⟨[(2, .bool false)], []⟩) rfl ⟨hd9, (fun _ => (w_spec_CountCoalitions a0 v4 hk8)), hd7, (fun _ => (w_spec_l1In a0 (1 : Int) (5 : Int) v3 hk6)), trivial⟩ rfl ?_
          have h := Option.some.inj h
          subst h
          exact Tri.ret rfl ⟨.inl rfl, rfl, rfl⟩
      · refine Tri.run 1 [.r ⟨[], .bool v3, []⟩, .g false, .g false] [.keep [2] []] (K' := [.code [] 3]) (σ' := ⟨[(2, .bool false)], []⟩) rfl ⟨rfl, hd7, (fun _ => (w_spec_l1In a0 (1 : Int) (5 : Int) v3 hk6)), trivial⟩ rfl ?_
        have h := Option.some.inj h
        subst h
        exact Tri.ret rfl ⟨.inl rfl, rfl, rfl⟩
    · obtain ⟨rfl, hq⟩ := hq
      have h := Option.some.inj h
      subst h
      exact TriX.ret ⟨.inl rfl, hq⟩
/-! spec.l2Good -/
noncomputable def E103_spec_l2Good : Env := ⟨Try.prog, tys, (Try.f103.body).getD .skip, 5, tysOk, mixedOk⟩
abbrev q_spec_l2Good (r : Bool) (σ' : ASt) : Prop := resAV E103_spec_l2Good.T σ' Try.f103.results.toList = some (.bool r) ∧ keepO σ'.ob (namesO []) = []
noncomputable def m_spec_l2Good (a0 : Int) : Option Bool :=
(m_spec_l1In a0 (0 : Int) (31 : Int)).bind fun v1 =>
some v1
theorem w_spec_l2Good (a0 : Int) (r : Bool) (h : m_spec_l2Good a0 = some r) : AM.Spec Try.prog 103 [.int .i64 a0] [] (.bool r) [] := by
  refine spec_of (E := E103_spec_l2Good) Try.func103 rfl rfl rfl rfl ?_
  refine Tri.run 1 [] [.keep [0] []] (K' := [.code [(1, 0)] 0, .code [] 2]) (σ' := ⟨[(0, .int .i64 a0)], []⟩) rfl trivial rfl ?_
  obtain ⟨v1, hk1, h⟩ := bind_some h
  refine Tri.run 1 [.r ⟨[], .bool v1, []⟩] [.keep [2] []] (K' := [.code [] 2]) (σ' := ⟨[(2, .bool v1)], []⟩) rfl ⟨(fun _ => (w_spec_l1In a0 (0 : Int) (31 : Int) v1 hk1)), trivial⟩ rfl ?_
  have h := Option.some.inj h
  subst h
  exact Tri.ret rfl ⟨.inl rfl, rfl, rfl⟩
/-! spec.IsSubset -/
noncomputable def E83_spec_IsSubset : Env := ⟨Try.prog, tys, (Try.f83.body).getD .skip, 25, tysOk, mixedOk⟩
abbrev q_spec_IsSubset (r : Bool) (σ' : ASt) : Prop := resAV E83_spec_IsSubset.T σ' Try.f83.results.toList = some (.bool r) ∧ keepO σ'.ob (namesO []) = []
noncomputable def l_spec_IsSubset_0 (a0 : Int) (a1 : Int) (v1 : Int) : Option (Int ⊕ (Unit ⊕ Bool)) :=
bif decide (v1 < (5 : Int)) then
((m_spec_HasPlayer a0 v1).bind fun v2 =>
bif v2 then
((m_spec_HasPlayer a1 v1).bind fun v3 =>
bif !v3 then
(some (.inr (.inr false)))
else
(some (.inl (IntKind.i64.wrap (v1 + (1 : Int))))))
else
(some (.inl (IntKind.i64.wrap (v1 + (1 : Int))))))
else
(some (.inr (.inl ())))
noncomputable def m_spec_IsSubset (a0 : Int) (a1 : Int) : Option Bool :=
(iter (l_spec_IsSubset_0 a0 a1) (0 : Int)).bind fun
| (.inl _) => (
(m_spec_l2Good a0).bind fun v4 =>
bif v4 then
((m_spec_l2Good a1).bind fun v5 =>
some v5)
else
(some false))
| (.inr r) => some r
theorem w_spec_IsSubset (a0 : Int) (a1 : Int) (r : Bool) (h : m_spec_IsSubset a0 a1 = some r) : AM.Spec Try.prog 83 [.int .i64 a0, .int .i64 a1] [] (.bool r) [] := by
  refine spec_of (E := E83_spec_IsSubset) Try.func83 rfl rfl rfl rfl ?_
  refine Tri.run 2 [] [.keep [0, 1, 5] []] (K' := [.code [(1, 0), (1, 0)] 0, .blk 0, .code [] 2]) (σ' := ⟨[(0, .int .i64 a0), (1, .int .i64 a1), (5, .int .i64 (0 : Int))], []⟩) rfl trivial rfl ?_
  obtain ⟨x1, hk6, h⟩ := bind_some h
  refine Tri.loop (K1 := [.code [(1, 0), (1, 0), (0, 0)] 0]) (K2 := [.blk 0, .code [] 2]) (fun v1 => ⟨[(0, .int .i64 a0), (1, .int .i64 a1), (5, .int .i64 v1)], []⟩) (fun x e σ' => match x with | (.inl _) => e = .exit 0 ∧ σ' = ⟨[(0, .int .i64 a0), (1, .int .i64 a1)], []⟩ | (.inr r) => e = .ret ∧ q_spec_IsSubset r σ') hk6 rfl rfl ?_ ?_
  · intro v1 x hs
    clear h
    have h := hs
    clear hs
    refine Tri.run 1 [] [.keep [0, 1, 5, 7] []] (K' := [.code [(1, 0), (1, 0), (0, 0), (0, 0)] 1, .code [(1, 0), (1, 0), (0, 0)] 1]) (σ' := ⟨[(0, .int .i64 a0), (1, .int .i64 a1), (5, .int .i64 v1), (7, .bool (decide (v1 < (5 : Int))))], []⟩) rfl trivial rfl ?_
    rcases bif_some h with ⟨hd1, h⟩ | ⟨hd1, h⟩
    · obtain ⟨v2, hk2, h⟩ := bind_some h
      rcases bif_some h with ⟨hd3, h⟩ | ⟨hd3, h⟩
      · obtain ⟨v3, hk4, h⟩ := bind_some h
        refine Tri.run 2 [.g true, .r ⟨[], .bool v2, []⟩, .g true, .r ⟨[], .bool v3, []⟩] [.keep [0, 1, 5, 18] []] (K' := [.code [(1, 0), (1, 0), (0, 0), (1, 0), (0, 0)] 1, .blk 1, .code [(1, 0), (1, 0), (0, 0)] 2]) (σ' := ⟨[(0, .int .i64 a0), (1, .int .i64 a1), (5, .int .i64 v1), (18, .bool (!v3))], []⟩) rfl ⟨(fun _ => (w_spec_HasPlayer a1 v1 v3 hk4)), hd3, (fun _ => (w_spec_HasPlayer a0 v1 v2 hk2)), hd1, trivial⟩ rfl ?_
        rcases bif_some h with ⟨hd5, h⟩ | ⟨hd5, h⟩
        · refine Tri.run 2 [.g true] [.keep [4] []] (K' := [.code [(1, 0), (1, 0), (0, 0), (1, 0), (0, 0), (1, 0)] 1, .blk 1, .code [(1, 0), (1, 0), (0, 0)] 2]) (σ' := ⟨[(4, .bool false)], []⟩) rfl ⟨hd5, trivial⟩ rfl ?_
          have h := Option.some.inj h
          subst h
          exact Tri.ret rfl ⟨nofun, rfl, rfl, rfl⟩
        · refine Tri.run 2 [.g false] [.keep [0, 1, 5] []] (K' := []) (σ' := ⟨[(0, .int .i64 a0), (1, .int .i64 a1), (5, .int .i64 (IntKind.i64.wrap (v1 + (1 : Int))))], []⟩) rfl ⟨hd5, trivial⟩ rfl ?_
          have h := Option.some.inj h
          subst h
          exact Tri.nil ⟨rfl, rfl⟩
      · refine Tri.run 2 [.g true, .r ⟨[], .bool v2, []⟩, .g false] [.keep [0, 1, 5, 18] []] (K' := [.code [(1, 0), (1, 0), (0, 0), (1, 0), (0, 0)] 1, .blk 1, .code [(1, 0), (1, 0), (0, 0)] 2]) (σ' := ⟨[(0, .int .i64 a0), (1, .int .i64 a1), (5, .int .i64 v1), (18, .bool false)], []⟩) rfl ⟨hd3, (fun _ => (w_spec_HasPlayer a0 v1 v2 hk2)), hd1, trivial⟩ rfl ?_
        refine Tri.run 2 [.g false] [.keep [0, 1, 5] []] (K' := []) (σ' := ⟨[(0, .int .i64 a0), (1, .int .i64 a1), (5, .int .i64 (IntKind.i64.wrap (v1 + (1 : Int))))], []⟩) rfl ⟨rfl, trivial⟩ rfl ?_
        have h := Option.some.inj h
        subst h
        exact Tri.nil ⟨rfl, rfl⟩
    · refine Tri.run 1 [.g false] [.keep [0, 1] []] (K' := [.code [(1, 0), (1, 0), (0, 0), (0, 0), (1, 1)] 0, .code [(1, 0), (1, 0), (0, 0)] 1]) (σ' := ⟨[(0, .int .i64 a0), (1, .int .i64 a1)], []⟩) rfl ⟨hd1, trivial⟩ rfl ?_
      have h := Option.some.inj h
      subst h
      exact Tri.out 0 rfl ⟨nofun, rfl, rfl⟩
  · intro e σ' hne hq
    rcases x1 with _ | r
    · obtain ⟨rfl, rfl⟩ := hq
      refine TriX.exit (K' := [.code [] 2]) rfl ?_
      obtain ⟨v4, hk7, h⟩ := bind_some h
      rcases bif_some h with ⟨hd8, h⟩ | ⟨hd8, h⟩
      · obtain ⟨v5, hk9, h⟩ := bind_some h
        refine Tri.run 1 [.r ⟨[], .bool v4, []⟩, .g true, .r ⟨[], .bool v5, []⟩] [.keep [4] []] (K' := [.code [] 3]) (σ' := ⟨[(4, .bool v5)], []⟩) rfl ⟨(fun _ => (w_spec_l2Good a1 v5 hk9)), hd8, (fun _ => (w_spec_l2Good a0 v4 hk7)), trivial⟩ rfl ?_
        have h := Option.some.inj h
        subst h
        exact Tri.ret rfl ⟨.inl rfl, rfl, rfl⟩
      · refine Tri.run 1 [.r ⟨[], .bool v4, []⟩, .g false] [.keep [4] []] (K' := [.code [] 3]) (σ' := ⟨[(4, .bool false)], []⟩) rfl ⟨hd8, (fun _ => (w_spec_l2Good a0 v4 hk7)), trivial⟩ rfl ?_
        have h := Option.some.inj h
        subst h
        exact Tri.ret rfl ⟨.inl rfl, rfl, rfl⟩
    · obtain ⟨rfl, hq⟩ := hq
      have h := Option.some.inj h
      subst h
      exact TriX.ret ⟨.inl rfl, hq⟩
/-! spec.Overlap -/
noncomputable def E100_spec_Overlap : Env := ⟨Try.prog, tys, (Try.f100.body).getD .skip, 32, tysOk, mixedOk⟩
abbrev q_spec_Overlap (r : Int) (σ' : ASt) : Prop := resAV E100_spec_Overlap.T σ' Try.f100.results.toList = some (.int .i64 r) ∧ keepO σ'.ob (namesO []) = []
noncomputable def l_spec_Overlap_0 (a0 : Int) (a1 : Int) : (Int × Int) → Option ((Int × Int) ⊕ Int)
  | (v1, v2) => (
bif decide (v2 < (5 : Int)) then
((m_spec_l2Good a0).bind fun v3 =>
bif v3 then
((m_spec_l2Good a1).bind fun v4 =>
bif v4 then
((m_spec_HasPlayer a0 v2).bind fun v5 =>
bif v5 then
((m_spec_HasPlayer a1 v2).bind fun v6 =>
bif v6 then
((m_spec_l2Bit v2).bind fun v7 =>
some (.inl (IntKind.i64.wrap (v1 + v7), IntKind.i64.wrap (v2 + (1 : Int)))))
else
(some (.inl (v1, IntKind.i64.wrap (v2 + (1 : Int))))))
else
(some (.inl (v1, IntKind.i64.wrap (v2 + (1 : Int))))))
else
(some (.inr v1)))
else
(some (.inr v1)))
else
(some (.inr v1)))
noncomputable def m_spec_Overlap (a0 : Int) (a1 : Int) : Option Int :=
(iter (l_spec_Overlap_0 a0 a1) ((0 : Int), (0 : Int))).bind fun
| v8 => (
some v8)
theorem w_spec_Overlap (a0 : Int) (a1 : Int) (r : Int) (h : m_spec_Overlap a0 a1 = some r) : AM.Spec Try.prog 100 [.int .i64 a0, .int .i64 a1] [] (.int .i64 r) [] := by
  refine spec_of (E := E100_spec_Overlap) Try.func100 rfl rfl rfl rfl ?_
  refine Tri.run 3 [] [.keep [0, 1, 5, 6] []] (K' := [.code [(2, 0), (1, 0)] 0, .blk 0, .code [] 3]) (σ' := ⟨[(0, .int .i64 a0), (1, .int .i64 a1), (5, .int .i64 (0 : Int)), (6, .int .i64 (0 : Int))], []⟩) rfl trivial rfl ?_
  obtain ⟨v8, hk11, h⟩ := bind_some h
  refine Tri.loop (K1 := [.code [(2, 0), (1, 0), (0, 0)] 0]) (K2 := [.blk 0, .code [] 3]) (fun (v1, v2) => ⟨[(0, .int .i64 a0), (1, .int .i64 a1), (5, .int .i64 v1), (6, .int .i64 v2)], []⟩) (fun x e σ' => match x with | v8 => e = .exit 0 ∧ σ' = ⟨[(5, .int .i64 v8)], []⟩) hk11 rfl rfl ?_ ?_
  · intro s x hs
    clear h
    have h := hs
    clear hs
    obtain ⟨v1, v2⟩ := s
    rcases bif_some h with ⟨hd1, h⟩ | ⟨hd1, h⟩
    · obtain ⟨v3, hk2, h⟩ := bind_some h
      rcases bif_some h with ⟨hd3, h⟩ | ⟨hd3, h⟩
      · obtain ⟨v4, hk4, h⟩ := bind_some h
        refine Tri.run 1 [.g true, .r ⟨[], .bool v3, []⟩, .g true, .r ⟨[], .bool v4, []⟩] [.keep [0, 1, 5, 6, 16] []] (K' := [.code [(2, 0), (1, 0), (0, 0), (0, 0)] 1, .code [(2, 0), (1, 0), (0, 0)] 1]) (σ' := ⟨[(0, .int .i64 a0), (1, .int .i64 a1), (5, .int .i64 v1), (6, .int .i64 v2), (16, .bool v4)], []⟩) rfl ⟨(fun _ => (w_spec_l2Good a1 v4 hk4)), hd3, (fun _ => (w_spec_l2Good a0 v3 hk2)), hd1, trivial⟩ rfl ?_
        rcases bif_some h with ⟨hd5, h⟩ | ⟨hd5, h⟩
        · obtain ⟨v5, hk6, h⟩ := bind_some h
          rcases bif_some h with ⟨hd7, h⟩ | ⟨hd7, h⟩
          · obtain ⟨v6, hk8, h⟩ := bind_some h
            refine Tri.run 2 [.g true, .r ⟨[], .bool v5, []⟩, .g true, .r ⟨[], .bool v6, []⟩] [.keep [0, 1, 5, 6, 26] []] (K' := [.code [(2, 0), (1, 0), (0, 0), (1, 0), (0, 0)] 1, .blk 1, .code [(2, 0), (1, 0), (0, 0)] 2]) (σ' := ⟨[(0, .int .i64 a0), (1, .int .i64 a1), (5, .int .i64 v1), (6, .int .i64 v2), (26, .bool v6)], []⟩) rfl ⟨(fun _ => (w_spec_HasPlayer a1 v2 v6 hk8)), hd7, (fun _ => (w_spec_HasPlayer a0 v2 v5 hk6)), hd5, trivial⟩ rfl ?_
            rcases bif_some h with ⟨hd9, h⟩ | ⟨hd9, h⟩
            · obtain ⟨v7, hk10, h⟩ := bind_some h
              refine Tri.run 3 [.g true, .r ⟨[], .int .i64 v7, []⟩] [.keep [0, 1, 5, 6] []] (K' := []) (σ' := ⟨[(0, .int .i64 a0), (1, .int .i64 a1), (5, .int .i64 (IntKind.i64.wrap (v1 + v7))), (6, .int .i64 (IntKind.i64.wrap (v2 + (1 : Int))))], []⟩) rfl ⟨(fun _ => (w_spec_l2Bit v2 v7 hk10)), hd9, trivial⟩ rfl ?_
              have h := Option.some.inj h
              subst h
              exact Tri.nil ⟨rfl, rfl⟩
            · refine Tri.run 2 [.g false] [.keep [0, 1, 5, 6] []] (K' := []) (σ' := ⟨[(0, .int .i64 a0), (1, .int .i64 a1), (5, .int .i64 v1), (6, .int .i64 (IntKind.i64.wrap (v2 + (1 : Int))))], []⟩) rfl ⟨hd9, trivial⟩ rfl ?_
              have h := Option.some.inj h
              subst h
              exact Tri.nil ⟨rfl, rfl⟩
          · refine Tri.run 2 [.g true, .r ⟨[], .bool v5, []⟩, .g false] [.keep [0, 1, 5, 6, 26] []] (K' := [.code [(2, 0), (1, 0), (0, 0), (1, 0), (0, 0)] 1, .blk 1, .code [(2, 0), (1, 0), (0, 0)] 2]) (σ' := ⟨[(0, .int .i64 a0), (1, .int .i64 a1), (5, .int .i64 v1), (6, .int .i64 v2), (26, .bool false)], []⟩) rfl ⟨hd7, (fun _ => (w_spec_HasPlayer a0 v2 v5 hk6)), hd5, trivial⟩ rfl ?_
            refine Tri.run 2 [.g false] [.keep [0, 1, 5, 6] []] (K' := []) (σ' := ⟨[(0, .int .i64 a0), (1, .int .i64 a1), (5, .int .i64 v1), (6, .int .i64 (IntKind.i64.wrap (v2 + (1 : Int))))], []⟩) rfl ⟨rfl, trivial⟩ rfl ?_
            have h := Option.some.inj h
            subst h
            exact Tri.nil ⟨rfl, rfl⟩
        · refine Tri.run 1 [.g false] [.keep [5] []] (K' := [.code [(2, 0), (1, 0), (0, 0), (0, 0), (1, 1)] 0, .code [(2, 0), (1, 0), (0, 0)] 1]) (σ' := ⟨[(5, .int .i64 v1)], []⟩) rfl ⟨hd5, trivial⟩ rfl ?_
          have h := Option.some.inj h
          subst h
          exact Tri.out 0 rfl ⟨nofun, rfl, rfl⟩
      · refine Tri.run 1 [.g true, .r ⟨[], .bool v3, []⟩, .g false] [.keep [0, 1, 5, 6, 16] []] (K' := [.code [(2, 0), (1, 0), (0, 0), (0, 0)] 1, .code [(2, 0), (1, 0), (0, 0)] 1]) (σ' := ⟨[(0, .int .i64 a0), (1, .int .i64 a1), (5, .int .i64 v1), (6, .int .i64 v2), (16, .bool false)], []⟩) rfl ⟨hd3, (fun _ => (w_spec_l2Good a0 v3 hk2)), hd1, trivial⟩ rfl ?_
        refine Tri.run 1 [.g false] [.keep [5] []] (K' := [.code [(2, 0), (1, 0), (0, 0), (0, 0), (1, 1)] 0, .code [(2, 0), (1, 0), (0, 0)] 1]) (σ' := ⟨[(5, .int .i64 v1)], []⟩) rfl ⟨rfl, trivial⟩ rfl ?_
        have h := Option.some.inj h
        subst h
        exact Tri.out 0 rfl ⟨nofun, rfl, rfl⟩
    · refine Tri.run 1 [.g false, .g false] [.keep [0, 1, 5, 6, 16] []] (K' := [.code [(2, 0), (1, 0), (0, 0), (0, 0)] 1, .code [(2, 0), (1, 0), (0, 0)] 1]) (σ' := ⟨[(0, .int .i64 a0), (1, .int .i64 a1), (5, .int .i64 v1), (6, .int .i64 v2), (16, .bool false)], []⟩) rfl ⟨rfl, hd1, trivial⟩ rfl ?_
      refine Tri.run 1 [.g false] [.keep [5] []] (K' := [.code [(2, 0), (1, 0), (0, 0), (0, 0), (1, 1)] 0, .code [(2, 0), (1, 0), (0, 0)] 1]) (σ' := ⟨[(5, .int .i64 v1)], []⟩) rfl ⟨rfl, trivial⟩ rfl ?_
      have h := Option.some.inj h
      subst h
      exact Tri.out 0 rfl ⟨nofun, rfl, rfl⟩
  · intro e σ' hne hq
    obtain ⟨rfl, rfl⟩ := hq
    refine TriX.exit (K' := [.code [] 3]) rfl ?_
    refine Tri.run 1 [] [.keep [4] []] (K' := [.code [] 4]) (σ' := ⟨[(4, .int .i64 v8)], []⟩) rfl trivial rfl ?_
    have h := Option.some.inj h
    subst h
    exact Tri.ret rfl ⟨.inl rfl, rfl, rfl⟩
/-! spec.Union -/
noncomputable def E101_spec_Union : Env := ⟨Try.prog, tys, (Try.f101.body).getD .skip, 32, tysOk, mixedOk⟩
abbrev q_spec_Union (r : Int) (σ' : ASt) : Prop := resAV E101_spec_Union.T σ' Try.f101.results.toList = some (.int .i64 r) ∧ keepO σ'.ob (namesO []) = []
noncomputable def l_spec_Union_0 (a0 : Int) (a1 : Int) : (Int × Int) → Option ((Int × Int) ⊕ Int)
  | (v1, v2) => (
bif decide (v2 < (5 : Int)) then
((m_spec_l2Good a0).bind fun v3 =>
bif v3 then
((m_spec_l2Good a1).bind fun v4 =>
bif v4 then
((m_spec_HasPlayer a0 v2).bind fun v5 =>
bif v5 then
((m_spec_l2Bit v2).bind fun v6 =>
some (.inl (IntKind.i64.wrap (v1 + v6), IntKind.i64.wrap (v2 + (1 : Int)))))
else
((m_spec_HasPlayer a1 v2).bind fun v7 =>
bif v7 then
((m_spec_l2Bit v2).bind fun v8 =>
some (.inl (IntKind.i64.wrap (v1 + v8), IntKind.i64.wrap (v2 + (1 : Int)))))
else
(some (.inl (v1, IntKind.i64.wrap (v2 + (1 : Int)))))))
else
(some (.inr v1)))
else
(some (.inr v1)))
else
(some (.inr v1)))
noncomputable def m_spec_Union (a0 : Int) (a1 : Int) : Option Int :=
(iter (l_spec_Union_0 a0 a1) ((0 : Int), (0 : Int))).bind fun
| v9 => (
some v9)
theorem w_spec_Union (a0 : Int) (a1 : Int) (r : Int) (h : m_spec_Union a0 a1 = some r) : AM.Spec Try.prog 101 [.int .i64 a0, .int .i64 a1] [] (.int .i64 r) [] := by
  refine spec_of (E := E101_spec_Union) Try.func101 rfl rfl rfl rfl ?_
  refine Tri.run 3 [] [.keep [0, 1, 5, 6] []] (K' := [.code [(2, 0), (1, 0)] 0, .blk 0, .code [] 3]) (σ' := ⟨[(0, .int .i64 a0), (1, .int .i64 a1), (5, .int .i64 (0 : Int)), (6, .int .i64 (0 : Int))], []⟩) rfl trivial rfl ?_
  obtain ⟨v9, hk12, h⟩ := bind_some h
  refine Tri.loop (K1 := [.code [(2, 0), (1, 0), (0, 0)] 0]) (K2 := [.blk 0, .code [] 3]) (fun (v1, v2) => ⟨[(0, .int .i64 a0), (1, .int .i64 a1), (5, .int .i64 v1), (6, .int .i64 v2)], []⟩) (fun x e σ' => match x with | v9 => e = .exit 0 ∧ σ' = ⟨[(5, .int .i64 v9)], []⟩) hk12 rfl rfl ?_ ?_
  · intro s x hs
    clear h
    have h := hs
    clear hs
    obtain ⟨v1, v2⟩ := s
    rcases bif_some h with ⟨hd1, h⟩ | ⟨hd1, h⟩
    · obtain ⟨v3, hk2, h⟩ := bind_some h
      rcases bif_some h with ⟨hd3, h⟩ | ⟨hd3, h⟩
      · obtain ⟨v4, hk4, h⟩ := bind_some h
        refine Tri.run 1 [.g true, .r ⟨[], .bool v3, []⟩, .g true, .r ⟨[], .bool v4, []⟩] [.keep [0, 1, 5, 6, 16] []] (K' := [.code [(2, 0), (1, 0), (0, 0), (0, 0)] 1, .code [(2, 0), (1, 0), (0, 0)] 1]) (σ' := ⟨[(0, .int .i64 a0), (1, .int .i64 a1), (5, .int .i64 v1), (6, .int .i64 v2), (16, .bool v4)], []⟩) rfl ⟨(fun _ => (w_spec_l2Good a1 v4 hk4)), hd3, (fun _ => (w_spec_l2Good a0 v3 hk2)), hd1, trivial⟩ rfl ?_
        rcases bif_some h with ⟨hd5, h⟩ | ⟨hd5, h⟩
        · obtain ⟨v5, hk6, h⟩ := bind_some h
          rcases bif_some h with ⟨hd7, h⟩ | ⟨hd7, h⟩
          · refine Tri.run 2 [.g true, .r ⟨[], .bool v5, []⟩, .g true] [.keep [0, 1, 5, 6, 26] []] (K' := [.code [(2, 0), (1, 0), (0, 0), (1, 0), (0, 0)] 1, .blk 1, .code [(2, 0), (1, 0), (0, 0)] 2]) (σ' := ⟨[(0, .int .i64 a0), (1, .int .i64 a1), (5, .int .i64 v1), (6, .int .i64 v2), (26, .bool true)], []⟩) rfl ⟨hd7, (fun _ => (w_spec_HasPlayer a0 v2 v5 hk6)), hd5, trivial⟩ rfl ?_
            obtain ⟨v6, hk8, h⟩ := bind_some h
            refine Tri.run 3 [.g true, .r ⟨[], .int .i64 v6, []⟩] [.keep [0, 1, 5, 6] []] (K' := []) (σ' := ⟨[(0, .int .i64 a0), (1, .int .i64 a1), (5, .int .i64 (IntKind.i64.wrap (v1 + v6))), (6, .int .i64 (IntKind.i64.wrap (v2 + (1 : Int))))], []⟩) rfl ⟨(fun _ => (w_spec_l2Bit v2 v6 hk8)), rfl, trivial⟩ rfl ?_
            have h := Option.some.inj h
            subst h
            exact Tri.nil ⟨rfl, rfl⟩
          · obtain ⟨v7, hk9, h⟩ := bind_some h
            refine Tri.run 2 [.g true, .r ⟨[], .bool v5, []⟩, .g false, .r ⟨[], .bool v7, []⟩] [.keep [0, 1, 5, 6, 26] []] (K' := [.code [(2, 0), (1, 0), (0, 0), (1, 0), (0, 0)] 1, .blk 1, .code [(2, 0), (1, 0), (0, 0)] 2]) (σ' := ⟨[(0, .int .i64 a0), (1, .int .i64 a1), (5, .int .i64 v1), (6, .int .i64 v2), (26, .bool v7)], []⟩) rfl ⟨(fun _ => (w_spec_HasPlayer a1 v2 v7 hk9)), hd7, (fun _ => (w_spec_HasPlayer a0 v2 v5 hk6)), hd5, trivial⟩ rfl ?_
            rcases bif_some h with ⟨hd10, h⟩ | ⟨hd10, h⟩
            · obtain ⟨v8, hk11, h⟩ := bind_some h
              refine Tri.run 3 [.g true, .r ⟨[], .int .i64 v8, []⟩] [.keep [0, 1, 5, 6] []] (K' := []) (σ' := ⟨[(0, .int .i64 a0), (1, .int .i64 a1), (5, .int .i64 (IntKind.i64.wrap (v1 + v8))), (6, .int .i64 (IntKind.i64.wrap (v2 + (1 : Int))))], []⟩) rfl ⟨(fun _ => (w_spec_l2Bit v2 v8 hk11)), hd10, trivial⟩ rfl ?_
              have h := Option.some.inj h
              subst h
              exact Tri.nil ⟨rfl, rfl⟩
            · refine Tri.run 2 [.g false] [.keep [0, 1, 5, 6] []] (K' := []) (σ' := ⟨[(0, .int .i64 a0), (1, .int .i64 a1), (5, .int .i64 v1), (6, .int .i64 (IntKind.i64.wrap (v2 + (1 : Int))))], []⟩) rfl ⟨hd10, trivial⟩ rfl ?_
              have h := Option.some.inj h
              subst h
              exact Tri.nil ⟨rfl, rfl⟩
        · refine Tri.run 1 [.g false] [.keep [5] []] (K' := [.code [(2, 0), (1, 0), (0, 0), (0, 0), (1, 1)] 0, .code [(2, 0), (1, 0), (0, 0)] 1]) (σ' := ⟨[(5, .int .i64 v1)], []⟩) rfl ⟨hd5, trivial⟩ rfl ?_
          have h := Option.some.inj h
          subst h
          exact Tri.out 0 rfl ⟨nofun, rfl, rfl⟩
      · refine Tri.run 1 [.g true, .r ⟨[], .bool v3, []⟩, .g false] [.keep [0, 1, 5, 6, 16] []] (K' := [.code [(2, 0), (1, 0), (0, 0), (0, 0)] 1, .code [(2, 0), (1, 0), (0, 0)] 1]) (σ' := ⟨[(0, .int .i64 a0), (1, .int .i64 a1), (5, .int .i64 v1), (6, .int .i64 v2), (16, .bool false)], []⟩) rfl ⟨hd3, (fun _ => (w_spec_l2Good a0 v3 hk2)), hd1, trivial⟩ rfl ?_
        refine Tri.run 1 [.g false] [.keep [5] []] (K' := [.code [(2, 0), (1, 0), (0, 0), (0, 0), (1, 1)] 0, .code [(2, 0), (1, 0), (0, 0)] 1]) (σ' := ⟨[(5, .int .i64 v1)], []⟩) rfl ⟨rfl, trivial⟩ rfl ?_
        have h := Option.some.inj h
        subst h
        exact Tri.out 0 rfl ⟨nofun, rfl, rfl⟩
    · refine Tri.run 1 [.g false, .g false] [.keep [0, 1, 5, 6, 16] []] (K' := [.code [(2, 0), (1, 0), (0, 0), (0, 0)] 1, .code [(2, 0), (1, 0), (0, 0)] 1]) (σ' := ⟨[(0, .int .i64 a0), (1, .int .i64 a1), (5, .int .i64 v1), (6, .int .i64 v2), (16, .bool false)], []⟩) rfl ⟨rfl, hd1, trivial⟩ rfl ?_
      refine Tri.run 1 [.g false] [.keep [5] []] (K' := [.code [(2, 0), (1, 0), (0, 0), (0, 0), (1, 1)] 0, .code [(2, 0), (1, 0), (0, 0)] 1]) (σ' := ⟨[(5, .int .i64 v1)], []⟩) rfl ⟨rfl, trivial⟩ rfl ?_
      have h := Option.some.inj h
      subst h
      exact Tri.out 0 rfl ⟨nofun, rfl, rfl⟩
  · intro e σ' hne hq
    obtain ⟨rfl, rfl⟩ := hq
    refine TriX.exit (K' := [.code [] 3]) rfl ?_
    refine Tri.run 1 [] [.keep [4] []] (K' := [.code [] 4]) (σ' := ⟨[(4, .int .i64 v9)], []⟩) rfl trivial rfl ?_
    have h := Option.some.inj h
    subst h
    exact Tri.ret rfl ⟨.inl rfl, rfl, rfl⟩
/-! spec.l10Fault -/
noncomputable def E58_spec_l10Fault : Env := ⟨Try.prog, tys, (Try.f58.body).getD .skip, 104, tysOk, mixedOk⟩
abbrev q_spec_l10Fault (r : Int × Int × Bool) (σ' : ASt) : Prop := resAV E58_spec_l10Fault.T σ' Try.f58.results.toList = some (.tuple [.int .i64 r.1, .int .i64 r.2.1, .bool r.2.2]) ∧ keepO σ'.ob (namesO []) = []
noncomputable def l_spec_l10Fault_1 (a1 : List Int) (a2 : Int) (v1 : Int) (v3 : Int) : Option (Int ⊕ (Unit ⊕ ((Int × Int × Bool)))) :=
bif decide (v3 < (a1.length : Int)) then
(bif a2 == (1 : Int) then
((m_spec_IsSubset v1 v3).bind fun v4 =>
bif v4 then
(grd ((0 : Int) ≤ v1 ∧ v1 < (a1.length : Int)) <|
grd ((0 : Int) ≤ v3 ∧ v3 < (a1.length : Int)) <|
bif decide ((a1.getD v1.toNat 0) > (a1.getD v3.toNat 0)) then
(some (.inr (.inr (v1, v3, true))))
else
(some (.inl (IntKind.i64.wrap (v3 + (1 : Int))))))
else
(some (.inl (IntKind.i64.wrap (v3 + (1 : Int))))))
else
(bif a2 == (2 : Int) then
((m_spec_Overlap v1 v3).bind fun v5 =>
bif v5 == (0 : Int) then
(grd ((0 : Int) ≤ v1 ∧ v1 < (a1.length : Int)) <|
grd ((0 : Int) ≤ v3 ∧ v3 < (a1.length : Int)) <|
(m_spec_Union v1 v3).bind fun v6 =>
grd ((0 : Int) ≤ v6 ∧ v6 < (a1.length : Int)) <|
bif decide ((IntKind.i64.wrap ((a1.getD v1.toNat 0) + (a1.getD v3.toNat 0))) > (a1.getD v6.toNat 0)) then
(some (.inr (.inr (v1, v3, true))))
else
(some (.inl (IntKind.i64.wrap (v3 + (1 : Int))))))
else
(some (.inl (IntKind.i64.wrap (v3 + (1 : Int))))))
else
(grd ((0 : Int) ≤ v1 ∧ v1 < (a1.length : Int)) <|
grd ((0 : Int) ≤ v3 ∧ v3 < (a1.length : Int)) <|
(m_spec_Union v1 v3).bind fun v7 =>
grd ((0 : Int) ≤ v7 ∧ v7 < (a1.length : Int)) <|
(m_spec_Overlap v1 v3).bind fun v8 =>
grd ((0 : Int) ≤ v8 ∧ v8 < (a1.length : Int)) <|
bif decide ((IntKind.i64.wrap ((a1.getD v1.toNat 0) + (a1.getD v3.toNat 0))) > (IntKind.i64.wrap ((a1.getD v7.toNat 0) + (a1.getD v8.toNat 0)))) then
(some (.inr (.inr (v1, v3, true))))
else
(some (.inl (IntKind.i64.wrap (v3 + (1 : Int))))))))
else
(some (.inr (.inl ())))
noncomputable def l_spec_l10Fault_0 (a0 : Int) (a1 : List Int) (a2 : Int) (v1 : Int) : Option (Int ⊕ (Unit ⊕ ((Int × Int × Bool)))) :=
bif decide (v1 < (a1.length : Int)) then
((m_spec_IsValidGame a0 a1).bind fun v2 =>
bif v2 then
((iter (l_spec_l10Fault_1 a1 a2 v1) (0 : Int)).bind fun
| (.inl _) => (
some (.inl (IntKind.i64.wrap (v1 + (1 : Int)))))
| (.inr r) => some (.inr (.inr r)))
else
(some (.inr (.inl ()))))
else
(some (.inr (.inl ())))
noncomputable def m_spec_l10Fault (a0 : Int) (a1 : List Int) (a2 : Int) : Option (Int × Int × Bool) :=
(iter (l_spec_l10Fault_0 a0 a1 a2) (0 : Int)).bind fun
| (.inl _) => (
some ((0 : Int), (0 : Int), false))
| (.inr r) => some r
theorem w_spec_l10Fault (a0 : Int) (a1 : List Int) (a2 : Int) (r : Int × Int × Bool) (h : m_spec_l10Fault a0 a1 a2 = some r) : AM.Spec Try.prog 58 [.agg [.int .i64 a0, .list (.ints a1)], .int .i64 a2] [] (.tuple [.int .i64 r.1, .int .i64 r.2.1, .bool r.2.2]) [] := by
  refine spec_of (E := E58_spec_l10Fault) Try.func58 rfl rfl rfl rfl ?_
  refine Tri.run 3 [] [.keep [1, 2, 7, 8] [2]] (K' := [.code [(2, 0), (1, 0)] 0, .blk 0, .code [] 3]) (σ' := ⟨[(1, .int .i64 a2), (2, .ptr 2 0), (7, .int .i64 (a1.length : Int)), (8, .int .i64 (0 : Int))], [(2, .box [.int .i64 a0, .list (.ints a1)])]⟩) rfl trivial rfl ?_
  obtain ⟨x2, hk27, h⟩ := bind_some h
  refine Tri.loop (K1 := [.code [(2, 0), (1, 0), (0, 0)] 0]) (K2 := [.blk 0, .code [] 3]) (fun v1 => ⟨[(1, .int .i64 a2), (2, .ptr 2 0), (7, .int .i64 (a1.length : Int)), (8, .int .i64 v1)], [(2, .box [.int .i64 a0, .list (.ints a1)])]⟩) (fun x e σ' => match x with | (.inl _) => e = .exit 0 ∧ σ' = ⟨[], []⟩ | (.inr r) => e = .ret ∧ q_spec_l10Fault r σ') hk27 rfl rfl ?_ ?_
  · intro v1 x hs
    clear h
    have h := hs
    clear hs
    rcases bif_some h with ⟨hd1, h⟩ | ⟨hd1, h⟩
    · obtain ⟨v2, hk2, h⟩ := bind_some h
      refine Tri.run 1 [.g true, .r ⟨[], .bool v2, []⟩] [.keep [1, 2, 7, 8, 20] [2]] (K' := [.code [(2, 0), (1, 0), (0, 0), (0, 0)] 1, .code [(2, 0), (1, 0), (0, 0)] 1]) (σ' := ⟨[(1, .int .i64 a2), (2, .ptr 2 0), (7, .int .i64 (a1.length : Int)), (8, .int .i64 v1), (20, .bool v2)], [(2, .box [.int .i64 a0, .list (.ints a1)])]⟩) rfl ⟨(fun _ => (w_spec_IsValidGame a0 a1 v2 hk2)), hd1, trivial⟩ rfl ?_
      rcases bif_some h with ⟨hd3, h⟩ | ⟨hd3, h⟩
      · refine Tri.run 2 [.g true] [.keep [1, 2, 7, 8, 9] [2]] (K' := [.code [(2, 0), (1, 0), (0, 0), (1, 0), (0, 0), (1, 0)] 0, .blk 2, .blk 1, .code [(2, 0), (1, 0), (0, 0)] 2]) (σ' := ⟨[(1, .int .i64 a2), (2, .ptr 2 0), (7, .int .i64 (a1.length : Int)), (8, .int .i64 v1), (9, .int .i64 (0 : Int))], [(2, .box [.int .i64 a0, .list (.ints a1)])]⟩) rfl ⟨hd3, trivial⟩ rfl ?_
        obtain ⟨x2, hk26, h⟩ := bind_some h
        refine Tri.loop (K1 := [.code [(2, 0), (1, 0), (0, 0), (1, 0), (0, 0), (1, 0), (0, 0)] 0]) (K2 := [.blk 2, .blk 1, .code [(2, 0), (1, 0), (0, 0)] 2]) (fun v3 => ⟨[(1, .int .i64 a2), (2, .ptr 2 0), (7, .int .i64 (a1.length : Int)), (8, .int .i64 v1), (9, .int .i64 v3)], [(2, .box [.int .i64 a0, .list (.ints a1)])]⟩) (fun x e σ' => match x with | (.inl _) => e = .exit 2 ∧ σ' = ⟨[(1, .int .i64 a2), (2, .ptr 2 0), (7, .int .i64 (a1.length : Int)), (8, .int .i64 v1)], [(2, .box [.int .i64 a0, .list (.ints a1)])]⟩ | (.inr r) => e = .ret ∧ q_spec_l10Fault r σ') hk26 rfl rfl ?_ ?_
        · intro v3 x hs
          clear h
          have h := hs
          clear hs
          refine Tri.run 1 [] [.keep [1, 2, 7, 8, 9, 25] [2]] (K' := [.code [(2, 0), (1, 0), (0, 0), (1, 0), (0, 0), (1, 0), (0, 0), (0, 0)] 1, .code [(2, 0), (1, 0), (0, 0), (1, 0), (0, 0), (1, 0), (0, 0)] 1]) (σ' := ⟨[(1, .int .i64 a2), (2, .ptr 2 0), (7, .int .i64 (a1.length : Int)), (8, .int .i64 v1), (9, .int .i64 v3), (25, .bool (decide (v3 < (a1.length : Int))))], [(2, .box [.int .i64 a0, .list (.ints a1)])]⟩) rfl trivial rfl ?_
          rcases bif_some h with ⟨hd4, h⟩ | ⟨hd4, h⟩
          · refine Tri.run 3 [.g true] [.keep [1, 2, 7, 8, 9, 28] [2]] (K' := [.code [(2, 0), (1, 0), (0, 0), (1, 0), (0, 0), (1, 0), (0, 0), (1, 0), (0, 0), (1, 0), (1, 0), (0, 0)] 0, .code [(2, 0), (1, 0), (0, 0), (1, 0), (0, 0), (1, 0), (0, 0), (1, 0), (0, 0), (1, 0), (1, 0)] 1, .blk 4, .code [(2, 0), (1, 0), (0, 0), (1, 0), (0, 0), (1, 0), (0, 0), (1, 0), (0, 0)] 2, .blk 3, .code [(2, 0), (1, 0), (0, 0), (1, 0), (0, 0), (1, 0), (0, 0)] 2]) (σ' := ⟨[(1, .int .i64 a2), (2, .ptr 2 0), (7, .int .i64 (a1.length : Int)), (8, .int .i64 v1), (9, .int .i64 v3), (28, .int .i64 a2)], [(2, .box [.int .i64 a0, .list (.ints a1)])]⟩) rfl ⟨hd4, trivial⟩ rfl ?_
            refine Tri.run 1 [] [.keep [1, 2, 7, 8, 9, 28, 56] [2]] (K' := [.code [(2, 0), (1, 0), (0, 0), (1, 0), (0, 0), (1, 0), (0, 0), (1, 0), (0, 0), (1, 0), (1, 0)] 1, .blk 4, .code [(2, 0), (1, 0), (0, 0), (1, 0), (0, 0), (1, 0), (0, 0), (1, 0), (0, 0)] 2, .blk 3, .code [(2, 0), (1, 0), (0, 0), (1, 0), (0, 0), (1, 0), (0, 0)] 2]) (σ' := ⟨[(1, .int .i64 a2), (2, .ptr 2 0), (7, .int .i64 (a1.length : Int)), (8, .int .i64 v1), (9, .int .i64 v3), (28, .int .i64 a2), (56, .bool (a2 == (1 : Int)))], [(2, .box [.int .i64 a0, .list (.ints a1)])]⟩) rfl trivial rfl ?_
            rcases bif_some h with ⟨hd5, h⟩ | ⟨hd5, h⟩
            · obtain ⟨v4, hk6, h⟩ := bind_some h
              rcases bif_some h with ⟨hd7, h⟩ | ⟨hd7, h⟩
              · obtain ⟨hg8, h⟩ := grd_some h
                obtain ⟨hg9, h⟩ := grd_some h
                refine Tri.run 3 [.g true, .r ⟨[], .bool v4, []⟩, .g true] [.keep [1, 2, 7, 8, 9, 101] [2]] (K' := [.code [(2, 0), (1, 0), (0, 0), (1, 0), (0, 0), (1, 0), (0, 0), (1, 0), (0, 0)] 3, .blk 3, .code [(2, 0), (1, 0), (0, 0), (1, 0), (0, 0), (1, 0), (0, 0)] 2]) (σ' := ⟨[(1, .int .i64 a2), (2, .ptr 2 0), (7, .int .i64 (a1.length : Int)), (8, .int .i64 v1), (9, .int .i64 v3), (101, .bool (decide ((a1.getD v1.toNat 0) > (a1.getD v3.toNat 0))))], [(2, .box [.int .i64 a0, .list (.ints a1)])]⟩) rfl ⟨hg9, hg8, hd7, (fun _ => (w_spec_IsSubset v1 v3 v4 hk6)), hd5, trivial⟩ rfl ?_
                rcases bif_some h with ⟨hd10, h⟩ | ⟨hd10, h⟩
                · refine Tri.run 2 [.g true] [.keep [4, 5, 6] []] (K' := [.code [(2, 0), (1, 0), (0, 0), (1, 0), (0, 0), (1, 0), (0, 0), (1, 0), (0, 0), (3, 0)] 1, .blk 3, .code [(2, 0), (1, 0), (0, 0), (1, 0), (0, 0), (1, 0), (0, 0)] 2]) (σ' := ⟨[(4, .int .i64 v1), (5, .int .i64 v3), (6, .bool true)], []⟩) rfl ⟨hd10, trivial⟩ rfl ?_
                  have h := Option.some.inj h
                  subst h
                  exact Tri.ret rfl ⟨nofun, rfl, rfl, rfl⟩
                · refine Tri.run 2 [.g false] [.keep [1, 2, 7, 8, 9] [2]] (K' := []) (σ' := ⟨[(1, .int .i64 a2), (2, .ptr 2 0), (7, .int .i64 (a1.length : Int)), (8, .int .i64 v1), (9, .int .i64 (IntKind.i64.wrap (v3 + (1 : Int))))], [(2, .box [.int .i64 a0, .list (.ints a1)])]⟩) rfl ⟨hd10, trivial⟩ rfl ?_
                  have h := Option.some.inj h
                  subst h
                  exact Tri.nil ⟨rfl, rfl⟩
              · refine Tri.run 3 [.g true, .r ⟨[], .bool v4, []⟩, .g false] [.keep [1, 2, 7, 8, 9, 101] [2]] (K' := [.code [(2, 0), (1, 0), (0, 0), (1, 0), (0, 0), (1, 0), (0, 0), (1, 0), (0, 0)] 3, .blk 3, .code [(2, 0), (1, 0), (0, 0), (1, 0), (0, 0), (1, 0), (0, 0)] 2]) (σ' := ⟨[(1, .int .i64 a2), (2, .ptr 2 0), (7, .int .i64 (a1.length : Int)), (8, .int .i64 v1), (9, .int .i64 v3), (101, .bool false)], [(2, .box [.int .i64 a0, .list (.ints a1)])]⟩) rfl ⟨hd7, (fun _ => (w_spec_IsSubset v1 v3 v4 hk6)), hd5, trivial⟩ rfl ?_
                refine Tri.run 2 [.g false] [.keep [1, 2, 7, 8, 9] [2]] (K' := []) (σ' := ⟨[(1, .int .i64 a2), (2, .ptr 2 0), (7, .int .i64 (a1.length : Int)), (8, .int .i64 v1), (9, .int .i64 (IntKind.i64.wrap (v3 + (1 : Int))))], [(2, .box [.int .i64 a0, .list (.ints a1)])]⟩) rfl ⟨rfl, trivial⟩ rfl ?_
                have h := Option.some.inj h
                subst h
                exact Tri.nil ⟨rfl, rfl⟩
            · refine Tri.run 2 [.g false] [.keep [1, 2, 7, 8, 9, 74] [2]] (K' := [.code [(2, 0), (1, 0), (0, 0), (1, 0), (0, 0), (1, 0), (0, 0), (1, 0), (0, 0), (1, 0), (1, 0), (1, 1)] 1, .blk 4, .code [(2, 0), (1, 0), (0, 0), (1, 0), (0, 0), (1, 0), (0, 0), (1, 0), (0, 0)] 2, .blk 3, .code [(2, 0), (1, 0), (0, 0), (1, 0), (0, 0), (1, 0), (0, 0)] 2]) (σ' := ⟨[(1, .int .i64 a2), (2, .ptr 2 0), (7, .int .i64 (a1.length : Int)), (8, .int .i64 v1), (9, .int .i64 v3), (74, .bool (a2 == (2 : Int)))], [(2, .box [.int .i64 a0, .list (.ints a1)])]⟩) rfl ⟨hd5, trivial⟩ rfl ?_
              rcases bif_some h with ⟨hd11, h⟩ | ⟨hd11, h⟩
              · obtain ⟨v5, hk12, h⟩ := bind_some h
                rcases bif_some h with ⟨hd13, h⟩ | ⟨hd13, h⟩
                · obtain ⟨hg14, h⟩ := grd_some h
                  obtain ⟨hg15, h⟩ := grd_some h
                  obtain ⟨v6, hk16, h⟩ := bind_some h
                  obtain ⟨hg17, h⟩ := grd_some h
                  refine Tri.run 3 [.g true, .r ⟨[], .int .i64 v5, []⟩, .g true, .r ⟨[], .int .i64 v6, []⟩] [.keep [1, 2, 7, 8, 9, 101] [2]] (K' := [.code [(2, 0), (1, 0), (0, 0), (1, 0), (0, 0), (1, 0), (0, 0), (1, 0), (0, 0)] 3, .blk 3, .code [(2, 0), (1, 0), (0, 0), (1, 0), (0, 0), (1, 0), (0, 0)] 2]) (σ' := ⟨[(1, .int .i64 a2), (2, .ptr 2 0), (7, .int .i64 (a1.length : Int)), (8, .int .i64 v1), (9, .int .i64 v3), (101, .bool (decide ((IntKind.i64.wrap ((a1.getD v1.toNat 0) + (a1.getD v3.toNat 0))) > (a1.getD v6.toNat 0))))], [(2, .box [.int .i64 a0, .list (.ints a1)])]⟩) rfl ⟨hg17, (fun _ => (w_spec_Union v1 v3 v6 hk16)), hg15, hg14, hd13, (fun _ => (w_spec_Overlap v1 v3 v5 hk12)), hd11, trivial⟩ rfl ?_
                  rcases bif_some h with ⟨hd18, h⟩ | ⟨hd18, h⟩
                  · refine Tri.run 2 [.g true] [.keep [4, 5, 6] []] (K' := [.code [(2, 0), (1, 0), (0, 0), (1, 0), (0, 0), (1, 0), (0, 0), (1, 0), (0, 0), (3, 0)] 1, .blk 3, .code [(2, 0), (1, 0), (0, 0), (1, 0), (0, 0), (1, 0), (0, 0)] 2]) (σ' := ⟨[(4, .int .i64 v1), (5, .int .i64 v3), (6, .bool true)], []⟩) rfl ⟨hd18, trivial⟩ rfl ?_
                    have h := Option.some.inj h
                    subst h
                    exact Tri.ret rfl ⟨nofun, rfl, rfl, rfl⟩
                  · refine Tri.run 2 [.g false] [.keep [1, 2, 7, 8, 9] [2]] (K' := []) (σ' := ⟨[(1, .int .i64 a2), (2, .ptr 2 0), (7, .int .i64 (a1.length : Int)), (8, .int .i64 v1), (9, .int .i64 (IntKind.i64.wrap (v3 + (1 : Int))))], [(2, .box [.int .i64 a0, .list (.ints a1)])]⟩) rfl ⟨hd18, trivial⟩ rfl ?_
                    have h := Option.some.inj h
                    subst h
                    exact Tri.nil ⟨rfl, rfl⟩
                · refine Tri.run 3 [.g true, .r ⟨[], .int .i64 v5, []⟩, .g false] [.keep [1, 2, 7, 8, 9, 101] [2]] (K' := [.code [(2, 0), (1, 0), (0, 0), (1, 0), (0, 0), (1, 0), (0, 0), (1, 0), (0, 0)] 3, .blk 3, .code [(2, 0), (1, 0), (0, 0), (1, 0), (0, 0), (1, 0), (0, 0)] 2]) (σ' := ⟨[(1, .int .i64 a2), (2, .ptr 2 0), (7, .int .i64 (a1.length : Int)), (8, .int .i64 v1), (9, .int .i64 v3), (101, .bool false)], [(2, .box [.int .i64 a0, .list (.ints a1)])]⟩) rfl ⟨hd13, (fun _ => (w_spec_Overlap v1 v3 v5 hk12)), hd11, trivial⟩ rfl ?_
                  refine Tri.run 2 [.g false] [.keep [1, 2, 7, 8, 9] [2]] (K' := []) (σ' := ⟨[(1, .int .i64 a2), (2, .ptr 2 0), (7, .int .i64 (a1.length : Int)), (8, .int .i64 v1), (9, .int .i64 (IntKind.i64.wrap (v3 + (1 : Int))))], [(2, .box [.int .i64 a0, .list (.ints a1)])]⟩) rfl ⟨rfl, trivial⟩ rfl ?_
                  have h := Option.some.inj h
                  subst h
                  exact Tri.nil ⟨rfl, rfl⟩
              · obtain ⟨hg19, h⟩ := grd_some h
                obtain ⟨hg20, h⟩ := grd_some h
                obtain ⟨v7, hk21, h⟩ := bind_some h
                obtain ⟨hg22, h⟩ := grd_some h
                obtain ⟨v8, hk23, h⟩ := bind_some h
                obtain ⟨hg24, h⟩ := grd_some h
                refine Tri.run 3 [.g false, .r ⟨[], .int .i64 v7, []⟩, .r ⟨[], .int .i64 v8, []⟩] [.keep [1, 2, 7, 8, 9, 101] [2]] (K' := [.code [(2, 0), (1, 0), (0, 0), (1, 0), (0, 0), (1, 0), (0, 0), (1, 0), (0, 0)] 3, .blk 3, .code [(2, 0), (1, 0), (0, 0), (1, 0), (0, 0), (1, 0), (0, 0)] 2]) (σ' := ⟨[(1, .int .i64 a2), (2, .ptr 2 0), (7, .int .i64 (a1.length : Int)), (8, .int .i64 v1), (9, .int .i64 v3), (101, .bool (decide ((IntKind.i64.wrap ((a1.getD v1.toNat 0) + (a1.getD v3.toNat 0))) > (IntKind.i64.wrap ((a1.getD v7.toNat 0) + (a1.getD v8.toNat 0))))))], [(2, .box [.int .i64 a0, .list (.ints a1)])]⟩) rfl ⟨hg24, (fun _ => (w_spec_Overlap v1 v3 v8 hk23)), hg22, (fun _ => (w_spec_Union v1 v3 v7 hk21)), hg20, hg19, hd11, trivial⟩ rfl ?_
                rcases bif_some h with ⟨hd25, h⟩ | ⟨hd25, h⟩
                · refine Tri.run 2 [.g true] [.keep [4, 5, 6] []] (K' := [.code [(2, 0), (1, 0), (0, 0), (1, 0), (0, 0), (1, 0), (0, 0), (1, 0), (0, 0), (3, 0)] 1, .blk 3, .code [(2, 0), (1, 0), (0, 0), (1, 0), (0, 0), (1, 0), (0, 0)] 2]) (σ' := ⟨[(4, .int .i64 v1), (5, .int .i64 v3), (6, .bool true)], []⟩) rfl ⟨hd25, trivial⟩ rfl ?_
                  have h := Option.some.inj h
                  subst h
                  exact Tri.ret rfl ⟨nofun, rfl, rfl, rfl⟩
                · refine Tri.run 2 [.g false] [.keep [1, 2, 7, 8, 9] [2]] (K' := []) (σ' := ⟨[(1, .int .i64 a2), (2, .ptr 2 0), (7, .int .i64 (a1.length : Int)), (8, .int .i64 v1), (9, .int .i64 (IntKind.i64.wrap (v3 + (1 : Int))))], [(2, .box [.int .i64 a0, .list (.ints a1)])]⟩) rfl ⟨hd25, trivial⟩ rfl ?_
                  have h := Option.some.inj h
                  subst h
                  exact Tri.nil ⟨rfl, rfl⟩
          · refine Tri.run 1 [.g false] [.keep [1, 2, 7, 8] [2]] (K' := [.code [(2, 0), (1, 0), (0, 0), (1, 0), (0, 0), (1, 0), (0, 0), (0, 0), (1, 1)] 0, .code [(2, 0), (1, 0), (0, 0), (1, 0), (0, 0), (1, 0), (0, 0)] 1]) (σ' := ⟨[(1, .int .i64 a2), (2, .ptr 2 0), (7, .int .i64 (a1.length : Int)), (8, .int .i64 v1)], [(2, .box [.int .i64 a0, .list (.ints a1)])]⟩) rfl ⟨hd4, trivial⟩ rfl ?_
            have h := Option.some.inj h
            subst h
            exact Tri.out 2 rfl ⟨nofun, rfl, rfl⟩
        · intro e σ' hne hq
          rcases x2 with _ | r
          · obtain ⟨rfl, rfl⟩ := hq
            refine TriX.exit (K' := [.blk 1, .code [(2, 0), (1, 0), (0, 0)] 2]) rfl ?_
            refine Tri.run 1 [] [.keep [1, 2, 7, 8] [2]] (K' := []) (σ' := ⟨[(1, .int .i64 a2), (2, .ptr 2 0), (7, .int .i64 (a1.length : Int)), (8, .int .i64 (IntKind.i64.wrap (v1 + (1 : Int))))], [(2, .box [.int .i64 a0, .list (.ints a1)])]⟩) rfl trivial rfl ?_
            have h := Option.some.inj h
            subst h
            exact Tri.nil ⟨rfl, rfl⟩
          · obtain ⟨rfl, hq⟩ := hq
            have h := Option.some.inj h
            subst h
            exact TriX.ret ⟨nofun, rfl, hq⟩
      · refine Tri.run 1 [.g false] [.keep [] []] (K' := [.code [(2, 0), (1, 0), (0, 0), (0, 0), (1, 1)] 0, .code [(2, 0), (1, 0), (0, 0)] 1]) (σ' := ⟨[], []⟩) rfl ⟨hd3, trivial⟩ rfl ?_
        have h := Option.some.inj h
        subst h
        exact Tri.out 0 rfl ⟨nofun, rfl, rfl⟩
    · refine Tri.run 1 [.g false] [.keep [1, 2, 7, 8, 20] [2]] (K' := [.code [(2, 0), (1, 0), (0, 0), (0, 0)] 1, .code [(2, 0), (1, 0), (0, 0)] 1]) (σ' := ⟨[(1, .int .i64 a2), (2, .ptr 2 0), (7, .int .i64 (a1.length : Int)), (8, .int .i64 v1), (20, .bool false)], [(2, .box [.int .i64 a0, .list (.ints a1)])]⟩) rfl ⟨hd1, trivial⟩ rfl ?_
      refine Tri.run 1 [.g false] [.keep [] []] (K' := [.code [(2, 0), (1, 0), (0, 0), (0, 0), (1, 1)] 0, .code [(2, 0), (1, 0), (0, 0)] 1]) (σ' := ⟨[], []⟩) rfl ⟨rfl, trivial⟩ rfl ?_
      have h := Option.some.inj h
      subst h
      exact Tri.out 0 rfl ⟨nofun, rfl, rfl⟩
  · intro e σ' hne hq
    rcases x2 with _ | r
    · obtain ⟨rfl, rfl⟩ := hq
      refine TriX.exit (K' := [.code [] 3]) rfl ?_
      refine Tri.run 1 [] [.keep [4, 5, 6] []] (K' := [.code [] 4]) (σ' := ⟨[(4, .int .i64 (0 : Int)), (5, .int .i64 (0 : Int)), (6, .bool false)], []⟩) rfl trivial rfl ?_
      have h := Option.some.inj h
      subst h
      exact Tri.ret rfl ⟨.inl rfl, rfl, rfl⟩
    · obtain ⟨rfl, hq⟩ := hq
      have h := Option.some.inj h
      subst h
      exact TriX.ret ⟨.inl rfl, hq⟩
/-! spec.ConvexFault -/
noncomputable def E10_spec_ConvexFault : Env := ⟨Try.prog, tys, (Try.f10.body).getD .skip, 17, tysOk, mixedOk⟩
abbrev q_spec_ConvexFault (r : Int × Int × Bool) (σ' : ASt) : Prop := resAV E10_spec_ConvexFault.T σ' Try.f10.results.toList = some (.tuple [.int .i64 r.1, .int .i64 r.2.1, .bool r.2.2]) ∧ keepO σ'.ob (namesO []) = []
noncomputable def m_spec_ConvexFault (a0 : Int) (a1 : List Int) : Option (Int × Int × Bool) :=
(m_spec_l10Fault a0 a1 (3 : Int)).bind fun (v1, v2, v3) =>
some (v1, v2, v3)
theorem w_spec_ConvexFault (a0 : Int) (a1 : List Int) (r : Int × Int × Bool) (h : m_spec_ConvexFault a0 a1 = some r) : AM.Spec Try.prog 10 [.agg [.int .i64 a0, .list (.ints a1)]] [] (.tuple [.int .i64 r.1, .int .i64 r.2.1, .bool r.2.2]) [] := by
  refine spec_of (E := E10_spec_ConvexFault) Try.func10 rfl rfl rfl rfl ?_
  refine Tri.run 1 [] [.keep [1] [1]] (K' := [.code [(1, 0)] 0, .code [] 2]) (σ' := ⟨[(1, .ptr 1 0)], [(1, .box [.int .i64 a0, .list (.ints a1)])]⟩) rfl trivial rfl ?_
  obtain ⟨⟨v1, v2, v3⟩, hk1, h⟩ := bind_some h
  refine Tri.run 2 [.r ⟨[], .tuple [.int .i64 v1, .int .i64 v2, .bool v3], []⟩] [.keep [2, 3, 4] []] (K' := [.code [] 3]) (σ' := ⟨[(2, .int .i64 v1), (3, .int .i64 v2), (4, .bool v3)], []⟩) rfl ⟨(fun _ => (w_spec_l10Fault a0 a1 (3 : Int) (v1, v2, v3) hk1)), trivial⟩ rfl ?_
  have h := Option.some.inj h
  subst h
  exact Tri.ret rfl ⟨.inl rfl, rfl, rfl⟩
/-! impl.IsConvex -/
noncomputable def E11_impl_IsConvex : Env := ⟨Try.prog, tys, (Try.f11.body).getD .skip, 18, tysOk, mixedOk⟩
abbrev q_impl_IsConvex (r : Bool) (σ' : ASt) : Prop := resAV E11_impl_IsConvex.T σ' Try.f11.results.toList = some (.bool r) ∧ keepO σ'.ob (namesO []) = []
noncomputable def m_impl_IsConvex (a0 : Int) (a1 : List Int) : Option Bool :=
(m_impl_ConvexFault a0 a1).bind fun (_, _, v3) =>
(m_impl_IsValidGame a0 a1).bind fun v4 =>
bif v4 then
(some (!v3))
else
(some false)
theorem w_impl_IsConvex (a0 : Int) (a1 : List Int) (r : Bool) (h : m_impl_IsConvex a0 a1 = some r) : AM.Spec Try.prog 11 [.agg [.int .i64 a0, .list (.ints a1)]] [] (.bool r) [] := by
  refine spec_of (E := E11_impl_IsConvex) Try.func11 rfl rfl rfl rfl ?_
  refine Tri.run 1 [] [.keep [1] [1]] (K' := [.code [(1, 0)] 0, .code [] 2]) (σ' := ⟨[(1, .ptr 1 0)], [(1, .box [.int .i64 a0, .list (.ints a1)])]⟩) rfl trivial rfl ?_
  obtain ⟨⟨v1, v2, v3⟩, hk1, h⟩ := bind_some h
  obtain ⟨v4, hk2, h⟩ := bind_some h
  rcases bif_some h with ⟨hd3, h⟩ | ⟨hd3, h⟩
  · refine Tri.run 2 [.r ⟨[], .tuple [.int .i64 v1, .int .i64 v2, .bool v3], []⟩, .r ⟨[], .bool v4, []⟩, .g true] [.keep [2] []] (K' := [.code [] 3]) (σ' := ⟨[(2, .bool (!v3))], []⟩) rfl ⟨hd3, (fun _ => (w_impl_IsValidGame a0 a1 v4 hk2)), (fun _ => (w_impl_ConvexFault a0 a1 (v1, v2, v3) hk1)), trivial⟩ rfl ?_
    have h := Option.some.inj h
    subst h
    exact Tri.ret rfl ⟨.inl rfl, rfl, rfl⟩
  · refine Tri.run 2 [.r ⟨[], .tuple [.int .i64 v1, .int .i64 v2, .bool v3], []⟩, .r ⟨[], .bool v4, []⟩, .g false] [.keep [2] []] (K' := [.code [] 3]) (σ' := ⟨[(2, .bool false)], []⟩) rfl ⟨hd3, (fun _ => (w_impl_IsValidGame a0 a1 v4 hk2)), (fun _ => (w_impl_ConvexFault a0 a1 (v1, v2, v3) hk1)), trivial⟩ rfl ?_
    have h := Option.some.inj h
    subst h
    exact Tri.ret rfl ⟨.inl rfl, rfl, rfl⟩
/-! impl.SuperadditiveFault$1 -/
noncomputable def E61_impl_SuperadditiveFault_1 : Env := ⟨Try.prog, tys, (Try.f61.body).getD .skip, 31, tysOk, mixedOk⟩
abbrev q_impl_SuperadditiveFault_1 (r : Bool) (σ' : ASt) : Prop := resAV E61_impl_SuperadditiveFault_1.T σ' Try.f61.results.toList = some (.bool r) ∧ keepO σ'.ob (namesO []) = []
noncomputable def m_impl_SuperadditiveFault_1 (a0 : Int) (a1 : Int) (_a2 : Int) (a3 : List Int) : Option Bool :=
bif (bitsOf .and .i64 a0 a1) == (0 : Int) then
(grd ((0 : Int) ≤ a0 ∧ a0 < (a3.length : Int)) <|
grd ((0 : Int) ≤ a1 ∧ a1 < (a3.length : Int)) <|
grd ((0 : Int) ≤ bitsOf .or .i64 a0 a1 ∧ bitsOf .or .i64 a0 a1 < (a3.length : Int)) <|
some (decide ((IntKind.i64.wrap ((a3.getD a0.toNat 0) + (a3.getD a1.toNat 0))) > (a3.getD ((bitsOf .or .i64 a0 a1).toNat) 0))))
else
(some false)
theorem w_impl_SuperadditiveFault_1 (a0 : Int) (a1 : Int) (a2 : Int) (a3 : List Int) (r : Bool) (h : m_impl_SuperadditiveFault_1 a0 a1 a2 a3 = some r) : AM.Spec Try.prog 61 [.int .i64 a0, .int .i64 a1, .pbox [.int .i64 a2, .list (.ints a3)] 0] [] (.bool r) [] := by
  refine spec_of (E := E61_impl_SuperadditiveFault_1) Try.func61 rfl rfl rfl rfl ?_
  refine Tri.run 1 [] [.keep [0, 1, 2] []] (K' := [.code [(1, 0)] 0, .code [] 2]) (σ' := ⟨[(0, .int .i64 a0), (1, .int .i64 a1), (2, .pbox [.int .i64 a2, .list (.ints a3)] 0)], []⟩) rfl trivial rfl ?_
  rcases bif_some h with ⟨hd1, h⟩ | ⟨hd1, h⟩
  · obtain ⟨hg2, h⟩ := grd_some h
    obtain ⟨hg3, h⟩ := grd_some h
    obtain ⟨hg4, h⟩ := grd_some h
    refine Tri.run 1 [.g true] [.keep [5] []] (K' := [.code [] 2]) (σ' := ⟨[(5, .bool (decide ((IntKind.i64.wrap ((a3.getD a0.toNat 0) + (a3.getD a1.toNat 0))) > (a3.getD ((bitsOf .or .i64 a0 a1).toNat) 0))))], []⟩) rfl ⟨hg4, hg3, hg2, hd1, trivial⟩ rfl ?_
    have h := Option.some.inj h
    subst h
    exact Tri.ret rfl ⟨.inl rfl, rfl, rfl⟩
  · refine Tri.run 1 [.g false] [.keep [5] []] (K' := [.code [] 2]) (σ' := ⟨[(5, .bool false)], []⟩) rfl ⟨hd1, trivial⟩ rfl ?_
    have h := Option.some.inj h
    subst h
    exact Tri.ret rfl ⟨.inl rfl, rfl, rfl⟩
/-! impl.fault -/
abbrev q_impl_fault_impl_SuperadditiveFault_1 (r : Int × Int × Bool) (σ' : ASt) : Prop := resAV E56_impl_fault.T σ' Try.f56.results.toList = some (.tuple [.int .i64 r.1, .int .i64 r.2.1, .bool r.2.2]) ∧ keepO σ'.ob (namesO []) = []
noncomputable def l_impl_fault_impl_SuperadditiveFault_1_1 (a1 : List Int) (a2 : Int) (a3 : List Int) (v2 : Int) (v3 : Int) : Option (Int ⊕ (Unit ⊕ ((Int × Int × Bool)))) :=
bif decide (v3 < (a1.length : Int)) then
((m_impl_SuperadditiveFault_1 v2 v3 a2 a3).bind fun v4 =>
bif v4 then
(some (.inr (.inr (v2, v3, true))))
else
(some (.inl (IntKind.i64.wrap (v3 + (1 : Int))))))
else
(some (.inr (.inl ())))
noncomputable def l_impl_fault_impl_SuperadditiveFault_1_0 (a1 : List Int) (a2 : Int) (a3 : List Int) (v2 : Int) : Option (Int ⊕ (Unit ⊕ ((Int × Int × Bool)))) :=
bif decide (v2 < (a1.length : Int)) then
((iter (l_impl_fault_impl_SuperadditiveFault_1_1 a1 a2 a3 v2) (0 : Int)).bind fun
| (.inl _) => (
some (.inl (IntKind.i64.wrap (v2 + (1 : Int)))))
| (.inr r) => some (.inr (.inr r)))
else
(some (.inr (.inl ())))
noncomputable def m_impl_fault_impl_SuperadditiveFault_1 (a0 : Int) (a1 : List Int) (a2 : Int) (a3 : List Int) : Option (Int × Int × Bool) :=
(m_impl_IsValidGame a0 a1).bind fun v1 =>
bif !v1 then
(some ((0 : Int), (0 : Int), false))
else
((iter (l_impl_fault_impl_SuperadditiveFault_1_0 a1 a2 a3) (0 : Int)).bind fun
| (.inl _) => (
some ((0 : Int), (0 : Int), false))
| (.inr r) => some r)
theorem w_impl_fault_impl_SuperadditiveFault_1 (a0 : Int) (a1 : List Int) (a2 : Int) (a3 : List Int) (r : Int × Int × Bool) (h : m_impl_fault_impl_SuperadditiveFault_1 a0 a1 a2 a3 = some r) : AM.Spec Try.prog 56 [.agg [.int .i64 a0, .list (.ints a1)], .func 61 [] [.pbox [.int .i64 a2, .list (.ints a3)] 0]] [] (.tuple [.int .i64 r.1, .int .i64 r.2.1, .bool r.2.2]) [] := by
  refine spec_of (E := E56_impl_fault) Try.func56 rfl rfl rfl rfl ?_
  refine Tri.run 1 [] [.keep [1, 2] [2]] (K' := [.code [(1, 0), (0, 0)] 0, .code [(1, 0)] 1, .code [] 2]) (σ' := ⟨[(1, .func 61 [] [.pbox [.int .i64 a2, .list (.ints a3)] 0]), (2, .ptr 2 0)], [(2, .box [.int .i64 a0, .list (.ints a1)])]⟩) rfl trivial rfl ?_
  obtain ⟨v1, hk1, h⟩ := bind_some h
  refine Tri.run 1 [.r ⟨[], .bool v1, []⟩] [.keep [1, 2, 11] [2]] (K' := [.code [(1, 0)] 1, .code [] 2]) (σ' := ⟨[(1, .func 61 [] [.pbox [.int .i64 a2, .list (.ints a3)] 0]), (2, .ptr 2 0), (11, .bool (!v1))], [(2, .box [.int .i64 a0, .list (.ints a1)])]⟩) rfl ⟨(fun _ => (w_impl_IsValidGame a0 a1 v1 hk1)), trivial⟩ rfl ?_
  rcases bif_some h with ⟨hd2, h⟩ | ⟨hd2, h⟩
  · refine Tri.run 2 [.g true] [.keep [4, 5, 6] []] (K' := [.code [(1, 0), (1, 0)] 1, .code [] 2]) (σ' := ⟨[(4, .int .i64 (0 : Int)), (5, .int .i64 (0 : Int)), (6, .bool false)], []⟩) rfl ⟨hd2, trivial⟩ rfl ?_
    have h := Option.some.inj h
    subst h
    exact Tri.ret rfl ⟨.inl rfl, rfl, rfl⟩
  · refine Tri.run 2 [.g false] [.keep [1, 2, 14, 15] [2]] (K' := [.code [(2, 0), (1, 0)] 0, .blk 0, .code [] 3]) (σ' := ⟨[(1, .func 61 [] [.pbox [.int .i64 a2, .list (.ints a3)] 0]), (2, .ptr 2 0), (14, .int .i64 (a1.length : Int)), (15, .int .i64 (0 : Int))], [(2, .box [.int .i64 a0, .list (.ints a1)])]⟩) rfl ⟨hd2, trivial⟩ rfl ?_
    obtain ⟨x2, hk8, h⟩ := bind_some h
    refine Tri.loop (K1 := [.code [(2, 0), (1, 0), (0, 0)] 0]) (K2 := [.blk 0, .code [] 3]) (fun v2 => ⟨[(1, .func 61 [] [.pbox [.int .i64 a2, .list (.ints a3)] 0]), (2, .ptr 2 0), (14, .int .i64 (a1.length : Int)), (15, .int .i64 v2)], [(2, .box [.int .i64 a0, .list (.ints a1)])]⟩) (fun x e σ' => match x with | (.inl _) => e = .exit 0 ∧ σ' = ⟨[], []⟩ | (.inr r) => e = .ret ∧ q_impl_fault_impl_SuperadditiveFault_1 r σ') hk8 rfl rfl ?_ ?_
    · intro v2 x hs
      clear h
      have h := hs
      clear hs
      refine Tri.run 1 [] [.keep [1, 2, 14, 15, 16] [2]] (K' := [.code [(2, 0), (1, 0), (0, 0), (1, 0)] 0, .code [(2, 0), (1, 0), (0, 0)] 2]) (σ' := ⟨[(1, .func 61 [] [.pbox [.int .i64 a2, .list (.ints a3)] 0]), (2, .ptr 2 0), (14, .int .i64 (a1.length : Int)), (15, .int .i64 v2), (16, .bool (decide (v2 < (a1.length : Int))))], [(2, .box [.int .i64 a0, .list (.ints a1)])]⟩) rfl trivial rfl ?_
      rcases bif_some h with ⟨hd3, h⟩ | ⟨hd3, h⟩
      · refine Tri.run 3 [.g true] [.keep [1, 2, 7, 14, 15, 20, 21] [2]] (K' := [.code [(2, 0), (1, 0), (0, 0), (2, 0), (0, 0), (2, 0)] 0, .blk 2, .blk 1, .code [(2, 0), (1, 0), (0, 0)] 3]) (σ' := ⟨[(1, .func 61 [] [.pbox [.int .i64 a2, .list (.ints a3)] 0]), (2, .ptr 2 0), (7, .int .i64 v2), (14, .int .i64 (a1.length : Int)), (15, .int .i64 v2), (20, .int .i64 (a1.length : Int)), (21, .int .i64 (0 : Int))], [(2, .box [.int .i64 a0, .list (.ints a1)])]⟩) rfl ⟨hd3, trivial⟩ rfl ?_
        obtain ⟨x2, hk7, h⟩ := bind_some h
        refine Tri.loop (K1 := [.code [(2, 0), (1, 0), (0, 0), (2, 0), (0, 0), (2, 0), (0, 0)] 0]) (K2 := [.blk 2, .blk 1, .code [(2, 0), (1, 0), (0, 0)] 3]) (fun v3 => ⟨[(1, .func 61 [] [.pbox [.int .i64 a2, .list (.ints a3)] 0]), (2, .ptr 2 0), (7, .int .i64 v2), (14, .int .i64 (a1.length : Int)), (15, .int .i64 v2), (20, .int .i64 (a1.length : Int)), (21, .int .i64 v3)], [(2, .box [.int .i64 a0, .list (.ints a1)])]⟩) (fun x e σ' => match x with | (.inl _) => e = .exit 2 ∧ σ' = ⟨[(1, .func 61 [] [.pbox [.int .i64 a2, .list (.ints a3)] 0]), (2, .ptr 2 0), (14, .int .i64 (a1.length : Int)), (15, .int .i64 v2)], [(2, .box [.int .i64 a0, .list (.ints a1)])]⟩ | (.inr r) => e = .ret ∧ q_impl_fault_impl_SuperadditiveFault_1 r σ') hk7 rfl rfl ?_ ?_
        · intro v3 x hs
          clear h
          have h := hs
          clear hs
          refine Tri.run 1 [] [.keep [1, 2, 7, 14, 15, 20, 21, 22] [2]] (K' := [.code [(2, 0), (1, 0), (0, 0), (2, 0), (0, 0), (2, 0), (0, 0), (1, 0)] 0, .code [(2, 0), (1, 0), (0, 0), (2, 0), (0, 0), (2, 0), (0, 0)] 2]) (σ' := ⟨[(1, .func 61 [] [.pbox [.int .i64 a2, .list (.ints a3)] 0]), (2, .ptr 2 0), (7, .int .i64 v2), (14, .int .i64 (a1.length : Int)), (15, .int .i64 v2), (20, .int .i64 (a1.length : Int)), (21, .int .i64 v3), (22, .bool (decide (v3 < (a1.length : Int))))], [(2, .box [.int .i64 a0, .list (.ints a1)])]⟩) rfl trivial rfl ?_
          rcases bif_some h with ⟨hd4, h⟩ | ⟨hd4, h⟩
          · refine Tri.run 2 [.g true] [.keep [1, 2, 7, 8, 14, 15, 20, 21] [2]] (K' := [.code [(2, 0), (1, 0), (0, 0), (2, 0), (0, 0), (2, 0), (0, 0), (2, 0), (0, 0), (1, 0)] 0, .code [(2, 0), (1, 0), (0, 0), (2, 0), (0, 0), (2, 0), (0, 0), (2, 0), (0, 0)] 2, .blk 3, .code [(2, 0), (1, 0), (0, 0), (2, 0), (0, 0), (2, 0), (0, 0)] 3]) (σ' := ⟨[(1, .func 61 [] [.pbox [.int .i64 a2, .list (.ints a3)] 0]), (2, .ptr 2 0), (7, .int .i64 v2), (8, .int .i64 v3), (14, .int .i64 (a1.length : Int)), (15, .int .i64 v2), (20, .int .i64 (a1.length : Int)), (21, .int .i64 v3)], [(2, .box [.int .i64 a0, .list (.ints a1)])]⟩) rfl ⟨hd4, trivial⟩ rfl ?_
            obtain ⟨v4, hk5, h⟩ := bind_some h
            refine Tri.run 1 [.r ⟨[], .bool v4, []⟩] [.keep [1, 2, 7, 8, 14, 15, 20, 21, 27] [2]] (K' := [.code [(2, 0), (1, 0), (0, 0), (2, 0), (0, 0), (2, 0), (0, 0), (2, 0), (0, 0)] 2, .blk 3, .code [(2, 0), (1, 0), (0, 0), (2, 0), (0, 0), (2, 0), (0, 0)] 3]) (σ' := ⟨[(1, .func 61 [] [.pbox [.int .i64 a2, .list (.ints a3)] 0]), (2, .ptr 2 0), (7, .int .i64 v2), (8, .int .i64 v3), (14, .int .i64 (a1.length : Int)), (15, .int .i64 v2), (20, .int .i64 (a1.length : Int)), (21, .int .i64 v3), (27, .bool v4)], [(2, .box [.int .i64 a0, .list (.ints a1)])]⟩) rfl ⟨(fun _ => (w_impl_SuperadditiveFault_1 v2 v3 a2 a3 v4 hk5)), trivial⟩ rfl ?_
            rcases bif_some h with ⟨hd6, h⟩ | ⟨hd6, h⟩
            · refine Tri.run 2 [.g true] [.keep [4, 5, 6] []] (K' := [.code [(2, 0), (1, 0), (0, 0), (2, 0), (0, 0), (2, 0), (0, 0), (2, 0), (0, 0), (2, 0)] 1, .blk 3, .code [(2, 0), (1, 0), (0, 0), (2, 0), (0, 0), (2, 0), (0, 0)] 3]) (σ' := ⟨[(4, .int .i64 v2), (5, .int .i64 v3), (6, .bool true)], []⟩) rfl ⟨hd6, trivial⟩ rfl ?_
              have h := Option.some.inj h
              subst h
              exact Tri.ret rfl ⟨nofun, rfl, rfl, rfl⟩
            · refine Tri.run 2 [.g false] [.keep [1, 2, 7, 14, 15, 20, 21] [2]] (K' := []) (σ' := ⟨[(1, .func 61 [] [.pbox [.int .i64 a2, .list (.ints a3)] 0]), (2, .ptr 2 0), (7, .int .i64 v2), (14, .int .i64 (a1.length : Int)), (15, .int .i64 v2), (20, .int .i64 (a1.length : Int)), (21, .int .i64 (IntKind.i64.wrap (v3 + (1 : Int))))], [(2, .box [.int .i64 a0, .list (.ints a1)])]⟩) rfl ⟨hd6, trivial⟩ rfl ?_
              have h := Option.some.inj h
              subst h
              exact Tri.nil ⟨rfl, rfl⟩
          · refine Tri.run 1 [.g false] [.keep [1, 2, 14, 15] [2]] (K' := [.code [(2, 0), (1, 0), (0, 0), (2, 0), (0, 0), (2, 0), (0, 0), (1, 0), (0, 1)] 0, .code [(2, 0), (1, 0), (0, 0), (2, 0), (0, 0), (2, 0), (0, 0)] 2]) (σ' := ⟨[(1, .func 61 [] [.pbox [.int .i64 a2, .list (.ints a3)] 0]), (2, .ptr 2 0), (14, .int .i64 (a1.length : Int)), (15, .int .i64 v2)], [(2, .box [.int .i64 a0, .list (.ints a1)])]⟩) rfl ⟨hd4, trivial⟩ rfl ?_
            have h := Option.some.inj h
            subst h
            exact Tri.out 2 rfl ⟨nofun, rfl, rfl⟩
        · intro e σ' hne hq
          rcases x2 with _ | r
          · obtain ⟨rfl, rfl⟩ := hq
            refine TriX.exit (K' := [.blk 1, .code [(2, 0), (1, 0), (0, 0)] 3]) rfl ?_
            refine Tri.run 1 [] [.keep [1, 2, 14, 15] [2]] (K' := []) (σ' := ⟨[(1, .func 61 [] [.pbox [.int .i64 a2, .list (.ints a3)] 0]), (2, .ptr 2 0), (14, .int .i64 (a1.length : Int)), (15, .int .i64 (IntKind.i64.wrap (v2 + (1 : Int))))], [(2, .box [.int .i64 a0, .list (.ints a1)])]⟩) rfl trivial rfl ?_
            have h := Option.some.inj h
            subst h
            exact Tri.nil ⟨rfl, rfl⟩
          · obtain ⟨rfl, hq⟩ := hq
            have h := Option.some.inj h
            subst h
            exact TriX.ret ⟨nofun, rfl, hq⟩
      · refine Tri.run 1 [.g false] [.keep [] []] (K' := [.code [(2, 0), (1, 0), (0, 0), (1, 0), (0, 1)] 0, .code [(2, 0), (1, 0), (0, 0)] 2]) (σ' := ⟨[], []⟩) rfl ⟨hd3, trivial⟩ rfl ?_
        have h := Option.some.inj h
        subst h
        exact Tri.out 0 rfl ⟨nofun, rfl, rfl⟩
    · intro e σ' hne hq
      rcases x2 with _ | r
      · obtain ⟨rfl, rfl⟩ := hq
        refine TriX.exit (K' := [.code [] 3]) rfl ?_
        refine Tri.run 1 [] [.keep [4, 5, 6] []] (K' := [.code [] 4]) (σ' := ⟨[(4, .int .i64 (0 : Int)), (5, .int .i64 (0 : Int)), (6, .bool false)], []⟩) rfl trivial rfl ?_
        have h := Option.some.inj h
        subst h
        exact Tri.ret rfl ⟨.inl rfl, rfl, rfl⟩
      · obtain ⟨rfl, hq⟩ := hq
        have h := Option.some.inj h
        subst h
        exact TriX.ret ⟨.inl rfl, hq⟩
/-! impl.SuperadditiveFault -/
noncomputable def E19_impl_SuperadditiveFault : Env := ⟨Try.prog, tys, (Try.f19.body).getD .skip, 11, tysOk, mixedOk⟩
abbrev q_impl_SuperadditiveFault (r : Int × Int × Bool) (σ' : ASt) : Prop := resAV E19_impl_SuperadditiveFault.T σ' Try.f19.results.toList = some (.tuple [.int .i64 r.1, .int .i64 r.2.1, .bool r.2.2]) ∧ keepO σ'.ob (namesO []) = []
noncomputable def m_impl_SuperadditiveFault (a0 : Int) (a1 : List Int) : Option (Int × Int × Bool) :=
(m_impl_fault_impl_SuperadditiveFault_1 a0 a1 a0 a1).bind fun (v1, v2, v3) =>
some (v1, v2, v3)
theorem w_impl_SuperadditiveFault (a0 : Int) (a1 : List Int) (r : Int × Int × Bool) (h : m_impl_SuperadditiveFault a0 a1 = some r) : AM.Spec Try.prog 19 [.agg [.int .i64 a0, .list (.ints a1)]] [] (.tuple [.int .i64 r.1, .int .i64 r.2.1, .bool r.2.2]) [] := by
  refine spec_of (E := E19_impl_SuperadditiveFault) Try.func19 rfl rfl rfl rfl ?_
  refine Tri.run 1 [] [.keep [1] [1]] (K' := [.code [(1, 0)] 0, .code [] 2]) (σ' := ⟨[(1, .ptr 1 0)], [(1, .box [.int .i64 a0, .list (.ints a1)])]⟩) rfl trivial rfl ?_
  obtain ⟨⟨v1, v2, v3⟩, hk1, h⟩ := bind_some h
  refine Tri.run 1 [.r ⟨[], .tuple [.int .i64 v1, .int .i64 v2, .bool v3], []⟩] [.keep [2, 3, 4] []] (K' := [.code [] 2]) (σ' := ⟨[(2, .int .i64 v1), (3, .int .i64 v2), (4, .bool v3)], []⟩) rfl ⟨(fun _ => (w_impl_fault_impl_SuperadditiveFault_1 a0 a1 a0 a1 (v1, v2, v3) hk1)), trivial⟩ rfl ?_
  have h := Option.some.inj h
  subst h
  exact Tri.ret rfl ⟨.inl rfl, rfl, rfl⟩
/-! impl.IsSuperadditive -/
noncomputable def E12_impl_IsSuperadditive : Env := ⟨Try.prog, tys, (Try.f12.body).getD .skip, 18, tysOk, mixedOk⟩
abbrev q_impl_IsSuperadditive (r : Bool) (σ' : ASt) : Prop := resAV E12_impl_IsSuperadditive.T σ' Try.f12.results.toList = some (.bool r) ∧ keepO σ'.ob (namesO []) = []
noncomputable def m_impl_IsSuperadditive (a0 : Int) (a1 : List Int) : Option Bool :=
(m_impl_SuperadditiveFault a0 a1).bind fun (_, _, v3) =>
(m_impl_IsValidGame a0 a1).bind fun v4 =>
bif v4 then
(some (!v3))
else
(some false)
theorem w_impl_IsSuperadditive (a0 : Int) (a1 : List Int) (r : Bool) (h : m_impl_IsSuperadditive a0 a1 = some r) : AM.Spec Try.prog 12 [.agg [.int .i64 a0, .list (.ints a1)]] [] (.bool r) [] := by
  refine spec_of (E := E12_impl_IsSuperadditive) Try.func12 rfl rfl rfl rfl ?_
  refine Tri.run 1 [] [.keep [1] [1]] (K' := [.code [(1, 0)] 0, .code [] 2]) (σ' := ⟨[(1, .ptr 1 0)], [(1, .box [.int .i64 a0, .list (.ints a1)])]⟩) rfl trivial rfl ?_
  obtain ⟨⟨v1, v2, v3⟩, hk1, h⟩ := bind_some h
  obtain ⟨v4, hk2, h⟩ := bind_some h
  rcases bif_some h with ⟨hd3, h⟩ | ⟨hd3, h⟩
  · refine Tri.run 2 [.r ⟨[], .tuple [.int .i64 v1, .int .i64 v2, .bool v3], []⟩, .r ⟨[], .bool v4, []⟩, .g true] [.keep [2] []] (K' := [.code [] 3]) (σ' := ⟨[(2, .bool (!v3))], []⟩) rfl ⟨hd3, (fun _ => (w_impl_IsValidGame a0 a1 v4 hk2)), (fun _ => (w_impl_SuperadditiveFault a0 a1 (v1, v2, v3) hk1)), trivial⟩ rfl ?_
    have h := Option.some.inj h
    subst h
    exact Tri.ret rfl ⟨.inl rfl, rfl, rfl⟩
  · refine Tri.run 2 [.r ⟨[], .tuple [.int .i64 v1, .int .i64 v2, .bool v3], []⟩, .r ⟨[], .bool v4, []⟩, .g false] [.keep [2] []] (K' := [.code [] 3]) (σ' := ⟨[(2, .bool false)], []⟩) rfl ⟨hd3, (fun _ => (w_impl_IsValidGame a0 a1 v4 hk2)), (fun _ => (w_impl_SuperadditiveFault a0 a1 (v1, v2, v3) hk1)), trivial⟩ rfl ?_
    have h := Option.some.inj h
    subst h
    exact Tri.ret rfl ⟨.inl rfl, rfl, rfl⟩
/-! impl.ValueOf -/
noncomputable def E13_impl_ValueOf : Env := ⟨Try.prog, tys, (Try.f13.body).getD .skip, 17, tysOk, mixedOk⟩
abbrev q_impl_ValueOf (r : Int) (σ' : ASt) : Prop := resAV E13_impl_ValueOf.T σ' Try.f13.results.toList = some (.int .i64 r) ∧ keepO σ'.ob (namesO []) = []
noncomputable def m_impl_ValueOf (_a0 : Int) (a1 : List Int) (a2 : Int) : Option Int :=
(m_impl_within a2 (0 : Int) (IntKind.i64.wrap ((a1.length : Int) - (1 : Int)))).bind fun v1 =>
bif !v1 then
(some (0 : Int))
else
(grd ((0 : Int) ≤ a2 ∧ a2 < (a1.length : Int)) <|
some (a1.getD a2.toNat 0))
theorem w_impl_ValueOf (a0 : Int) (a1 : List Int) (a2 : Int) (r : Int) (h : m_impl_ValueOf a0 a1 a2 = some r) : AM.Spec Try.prog 13 [.agg [.int .i64 a0, .list (.ints a1)], .int .i64 a2] [] (.int .i64 r) [] := by
  refine spec_of (E := E13_impl_ValueOf) Try.func13 rfl rfl rfl rfl ?_
  refine Tri.run 1 [] [.keep [1, 2] [2]] (K' := [.code [(1, 0), (0, 0)] 0, .code [(1, 0)] 1, .code [] 2]) (σ' := ⟨[(1, .int .i64 a2), (2, .ptr 2 0)], [(2, .box [.int .i64 a0, .list (.ints a1)])]⟩) rfl trivial rfl ?_
  obtain ⟨v1, hk1, h⟩ := bind_some h
  refine Tri.run 1 [.r ⟨[], .bool v1, []⟩] [.keep [1, 2, 11] [2]] (K' := [.code [(1, 0)] 1, .code [] 2]) (σ' := ⟨[(1, .int .i64 a2), (2, .ptr 2 0), (11, .bool (!v1))], [(2, .box [.int .i64 a0, .list (.ints a1)])]⟩) rfl ⟨(fun _ => (w_impl_within a2 (0 : Int) (IntKind.i64.wrap ((a1.length : Int) - (1 : Int))) v1 hk1)), trivial⟩ rfl ?_
  rcases bif_some h with ⟨hd2, h⟩ | ⟨hd2, h⟩
  · refine Tri.run 2 [.g true] [.keep [4] []] (K' := [.code [(1, 0), (1, 0)] 1, .code [] 2]) (σ' := ⟨[(4, .int .i64 (0 : Int))], []⟩) rfl ⟨hd2, trivial⟩ rfl ?_
    have h := Option.some.inj h
    subst h
    exact Tri.ret rfl ⟨.inl rfl, rfl, rfl⟩
  · obtain ⟨hg3, h⟩ := grd_some h
    refine Tri.run 2 [.g false] [.keep [4] []] (K' := [.code [] 3]) (σ' := ⟨[(4, .int .i64 (a1.getD a2.toNat 0))], []⟩) rfl ⟨hg3, hd2, trivial⟩ rfl ?_
    have h := Option.some.inj h
    subst h
    exact Tri.ret rfl ⟨.inl rfl, rfl, rfl⟩
/-! impl.Union -/
noncomputable def E14_impl_Union : Env := ⟨Try.prog, tys, (Try.f14.body).getD .skip, 16, tysOk, mixedOk⟩
abbrev q_impl_Union (r : Int) (σ' : ASt) : Prop := resAV E14_impl_Union.T σ' Try.f14.results.toList = some (.int .i64 r) ∧ keepO σ'.ob (namesO []) = []
noncomputable def m_impl_Union (a0 : Int) (a1 : Int) : Option Int :=
(m_impl_within a0 (0 : Int) (31 : Int)).bind fun v1 =>
bif !v1 then
(some (0 : Int))
else
((m_impl_within a1 (0 : Int) (31 : Int)).bind fun v2 =>
bif !v2 then
(some (0 : Int))
else
(some (bitsOf .or .i64 a0 a1)))
theorem w_impl_Union (a0 : Int) (a1 : Int) (r : Int) (h : m_impl_Union a0 a1 = some r) : AM.Spec Try.prog 14 [.int .i64 a0, .int .i64 a1] [] (.int .i64 r) [] := by
  refine spec_of (E := E14_impl_Union) Try.func14 rfl rfl rfl rfl ?_
  refine Tri.run 1 [] [.keep [0, 1] []] (K' := [.code [(1, 0), (0, 0)] 0, .code [(1, 0)] 1, .code [] 2]) (σ' := ⟨[(0, .int .i64 a0), (1, .int .i64 a1)], []⟩) rfl trivial rfl ?_
  obtain ⟨v1, hk1, h⟩ := bind_some h
  rcases bif_some h with ⟨hd2, h⟩ | ⟨hd2, h⟩
  · refine Tri.run 1 [.r ⟨[], .bool v1, []⟩, .g true] [.keep [0, 1, 12] []] (K' := [.code [(1, 0)] 1, .code [] 2]) (σ' := ⟨[(0, .int .i64 a0), (1, .int .i64 a1), (12, .bool true)], []⟩) rfl ⟨hd2, (fun _ => (w_impl_within a0 (0 : Int) (31 : Int) v1 hk1)), trivial⟩ rfl ?_
    refine Tri.run 2 [.g true] [.keep [4] []] (K' := [.code [(1, 0), (1, 0)] 1, .code [] 2]) (σ' := ⟨[(4, .int .i64 (0 : Int))], []⟩) rfl ⟨rfl, trivial⟩ rfl ?_
    have h := Option.some.inj h
    subst h
    exact Tri.ret rfl ⟨.inl rfl, rfl, rfl⟩
  · obtain ⟨v2, hk3, h⟩ := bind_some h
    refine Tri.run 1 [.r ⟨[], .bool v1, []⟩, .g false, .r ⟨[], .bool v2, []⟩] [.keep [0, 1, 12] []] (K' := [.code [(1, 0)] 1, .code [] 2]) (σ' := ⟨[(0, .int .i64 a0), (1, .int .i64 a1), (12, .bool (!v2))], []⟩) rfl ⟨(fun _ => (w_impl_within a1 (0 : Int) (31 : Int) v2 hk3)), hd2, (fun _ => (w_impl_within a0 (0 : Int) (31 : Int) v1 hk1)), trivial⟩ rfl ?_
    rcases bif_some h with ⟨hd4, h⟩ | ⟨hd4, h⟩
    · refine Tri.run 2 [.g true] [.keep [4] []] (K' := [.code [(1, 0), (1, 0)] 1, .code [] 2]) (σ' := ⟨[(4, .int .i64 (0 : Int))], []⟩) rfl ⟨hd4, trivial⟩ rfl ?_
      have h := Option.some.inj h
      subst h
      exact Tri.ret rfl ⟨.inl rfl, rfl, rfl⟩
    · refine Tri.run 2 [.g false] [.keep [4] []] (K' := [.code [] 3]) (σ' := ⟨[(4, .int .i64 (bitsOf .or .i64 a0 a1))], []⟩) rfl ⟨hd4, trivial⟩ rfl ?_
      have h := Option.some.inj h
      subst h
      exact Tri.ret rfl ⟨.inl rfl, rfl, rfl⟩
/-! impl.Overlap -/
noncomputable def E15_impl_Overlap : Env := ⟨Try.prog, tys, (Try.f15.body).getD .skip, 16, tysOk, mixedOk⟩
abbrev q_impl_Overlap (r : Int) (σ' : ASt) : Prop := resAV E15_impl_Overlap.T σ' Try.f15.results.toList = some (.int .i64 r) ∧ keepO σ'.ob (namesO []) = []
noncomputable def m_impl_Overlap (a0 : Int) (a1 : Int) : Option Int :=
(m_impl_within a0 (0 : Int) (31 : Int)).bind fun v1 =>
bif !v1 then
(some (0 : Int))
else
((m_impl_within a1 (0 : Int) (31 : Int)).bind fun v2 =>
bif !v2 then
(some (0 : Int))
else
(some (bitsOf .and .i64 a0 a1)))
theorem w_impl_Overlap (a0 : Int) (a1 : Int) (r : Int) (h : m_impl_Overlap a0 a1 = some r) : AM.Spec Try.prog 15 [.int .i64 a0, .int .i64 a1] [] (.int .i64 r) [] := by
  refine spec_of (E := E15_impl_Overlap) Try.func15 rfl rfl rfl rfl ?_
  refine Tri.run 1 [] [.keep [0, 1] []] (K' := [.code [(1, 0), (0, 0)] 0, .code [(1, 0)] 1, .code [] 2]) (σ' := ⟨[(0, .int .i64 a0), (1, .int .i64 a1)], []⟩) rfl trivial rfl ?_
  obtain ⟨v1, hk1, h⟩ := bind_some h
  rcases bif_some h with ⟨hd2, h⟩ | ⟨hd2, h⟩
  · refine Tri.run 1 [.r ⟨[], .bool v1, []⟩, .g true] [.keep [0, 1, 12] []] (K' := [.code [(1, 0)] 1, .code [] 2]) (σ' := ⟨[(0, .int .i64 a0), (1, .int .i64 a1), (12, .bool true)], []⟩) rfl ⟨hd2, (fun _ => (w_impl_within a0 (0 : Int) (31 : Int) v1 hk1)), trivial⟩ rfl ?_
    refine Tri.run 2 [.g true] [.keep [4] []] (K' := [.code [(1, 0), (1, 0)] 1, .code [] 2]) (σ' := ⟨[(4, .int .i64 (0 : Int))], []⟩) rfl ⟨rfl, trivial⟩ rfl ?_
    have h := Option.some.inj h
    subst h
    exact Tri.ret rfl ⟨.inl rfl, rfl, rfl⟩
  · obtain ⟨v2, hk3, h⟩ := bind_some h
    refine Tri.run 1 [.r ⟨[], .bool v1, []⟩, .g false, .r ⟨[], .bool v2, []⟩] [.keep [0, 1, 12] []] (K' := [.code [(1, 0)] 1, .code [] 2]) (σ' := ⟨[(0, .int .i64 a0), (1, .int .i64 a1), (12, .bool (!v2))], []⟩) rfl ⟨(fun _ => (w_impl_within a1 (0 : Int) (31 : Int) v2 hk3)), hd2, (fun _ => (w_impl_within a0 (0 : Int) (31 : Int) v1 hk1)), trivial⟩ rfl ?_
    rcases bif_some h with ⟨hd4, h⟩ | ⟨hd4, h⟩
    · refine Tri.run 2 [.g true] [.keep [4] []] (K' := [.code [(1, 0), (1, 0)] 1, .code [] 2]) (σ' := ⟨[(4, .int .i64 (0 : Int))], []⟩) rfl ⟨hd4, trivial⟩ rfl ?_
      have h := Option.some.inj h
      subst h
      exact Tri.ret rfl ⟨.inl rfl, rfl, rfl⟩
    · refine Tri.run 2 [.g false] [.keep [4] []] (K' := [.code [] 3]) (σ' := ⟨[(4, .int .i64 (bitsOf .and .i64 a0 a1))], []⟩) rfl ⟨hd4, trivial⟩ rfl ?_
      have h := Option.some.inj h
      subst h
      exact Tri.ret rfl ⟨.inl rfl, rfl, rfl⟩
/-! impl.MonotoneFault$1 -/
noncomputable def E60_impl_MonotoneFault_1 : Env := ⟨Try.prog, tys, (Try.f60.body).getD .skip, 23, tysOk, mixedOk⟩
abbrev q_impl_MonotoneFault_1 (r : Bool) (σ' : ASt) : Prop := resAV E60_impl_MonotoneFault_1.T σ' Try.f60.results.toList = some (.bool r) ∧ keepO σ'.ob (namesO []) = []
noncomputable def m_impl_MonotoneFault_1 (a0 : Int) (a1 : Int) (_a2 : Int) (a3 : List Int) : Option Bool :=
bif (bitsOf .andNot .i64 a0 a1) == (0 : Int) then
(grd ((0 : Int) ≤ a0 ∧ a0 < (a3.length : Int)) <|
grd ((0 : Int) ≤ a1 ∧ a1 < (a3.length : Int)) <|
some (decide ((a3.getD a0.toNat 0) > (a3.getD a1.toNat 0))))
else
(some false)
theorem w_impl_MonotoneFault_1 (a0 : Int) (a1 : Int) (a2 : Int) (a3 : List Int) (r : Bool) (h : m_impl_MonotoneFault_1 a0 a1 a2 a3 = some r) : AM.Spec Try.prog 60 [.int .i64 a0, .int .i64 a1, .pbox [.int .i64 a2, .list (.ints a3)] 0] [] (.bool r) [] := by
  refine spec_of (E := E60_impl_MonotoneFault_1) Try.func60 rfl rfl rfl rfl ?_
  refine Tri.run 1 [] [.keep [0, 1, 2] []] (K' := [.code [(1, 0)] 0, .code [] 2]) (σ' := ⟨[(0, .int .i64 a0), (1, .int .i64 a1), (2, .pbox [.int .i64 a2, .list (.ints a3)] 0)], []⟩) rfl trivial rfl ?_
  rcases bif_some h with ⟨hd1, h⟩ | ⟨hd1, h⟩
  · obtain ⟨hg2, h⟩ := grd_some h
    obtain ⟨hg3, h⟩ := grd_some h
    refine Tri.run 1 [.g true] [.keep [5] []] (K' := [.code [] 2]) (σ' := ⟨[(5, .bool (decide ((a3.getD a0.toNat 0) > (a3.getD a1.toNat 0))))], []⟩) rfl ⟨hg3, hg2, hd1, trivial⟩ rfl ?_
    have h := Option.some.inj h
    subst h
    exact Tri.ret rfl ⟨.inl rfl, rfl, rfl⟩
  · refine Tri.run 1 [.g false] [.keep [5] []] (K' := [.code [] 2]) (σ' := ⟨[(5, .bool false)], []⟩) rfl ⟨hd1, trivial⟩ rfl ?_
    have h := Option.some.inj h
    subst h
    exact Tri.ret rfl ⟨.inl rfl, rfl, rfl⟩
/-! impl.fault -/
abbrev q_impl_fault_impl_MonotoneFault_1 (r : Int × Int × Bool) (σ' : ASt) : Prop := resAV E56_impl_fault.T σ' Try.f56.results.toList = some (.tuple [.int .i64 r.1, .int .i64 r.2.1, .bool r.2.2]) ∧ keepO σ'.ob (namesO []) = []
noncomputable def l_impl_fault_impl_MonotoneFault_1_1 (a1 : List Int) (a2 : Int) (a3 : List Int) (v2 : Int) (v3 : Int) : Option (Int ⊕ (Unit ⊕ ((Int × Int × Bool)))) :=
bif decide (v3 < (a1.length : Int)) then
((m_impl_MonotoneFault_1 v2 v3 a2 a3).bind fun v4 =>
bif v4 then
(some (.inr (.inr (v2, v3, true))))
else
(some (.inl (IntKind.i64.wrap (v3 + (1 : Int))))))
else
(some (.inr (.inl ())))
noncomputable def l_impl_fault_impl_MonotoneFault_1_0 (a1 : List Int) (a2 : Int) (a3 : List Int) (v2 : Int) : Option (Int ⊕ (Unit ⊕ ((Int × Int × Bool)))) :=
bif decide (v2 < (a1.length : Int)) then
((iter (l_impl_fault_impl_MonotoneFault_1_1 a1 a2 a3 v2) (0 : Int)).bind fun
| (.inl _) => (
some (.inl (IntKind.i64.wrap (v2 + (1 : Int)))))
| (.inr r) => some (.inr (.inr r)))
else
(some (.inr (.inl ())))
noncomputable def m_impl_fault_impl_MonotoneFault_1 (a0 : Int) (a1 : List Int) (a2 : Int) (a3 : List Int) : Option (Int × Int × Bool) :=
(m_impl_IsValidGame a0 a1).bind fun v1 =>
bif !v1 then
(some ((0 : Int), (0 : Int), false))
else
((iter (l_impl_fault_impl_MonotoneFault_1_0 a1 a2 a3) (0 : Int)).bind fun
| (.inl _) => (
some ((0 : Int), (0 : Int), false))
| (.inr r) => some r)
theorem w_impl_fault_impl_MonotoneFault_1 (a0 : Int) (a1 : List Int) (a2 : Int) (a3 : List Int) (r : Int × Int × Bool) (h : m_impl_fault_impl_MonotoneFault_1 a0 a1 a2 a3 = some r) : AM.Spec Try.prog 56 [.agg [.int .i64 a0, .list (.ints a1)], .func 60 [] [.pbox [.int .i64 a2, .list (.ints a3)] 0]] [] (.tuple [.int .i64 r.1, .int .i64 r.2.1, .bool r.2.2]) [] := by
  refine spec_of (E := E56_impl_fault) Try.func56 rfl rfl rfl rfl ?_
  refine Tri.run 1 [] [.keep [1, 2] [2]] (K' := [.code [(1, 0), (0, 0)] 0, .code [(1, 0)] 1, .code [] 2]) (σ' := ⟨[(1, .func 60 [] [.pbox [.int .i64 a2, .list (.ints a3)] 0]), (2, .ptr 2 0)], [(2, .box [.int .i64 a0, .list (.ints a1)])]⟩) rfl trivial rfl ?_
  obtain ⟨v1, hk1, h⟩ := bind_some h
  refine Tri.run 1 [.r ⟨[], .bool v1, []⟩] [.keep [1, 2, 11] [2]] (K' := [.code [(1, 0)] 1, .code [] 2]) (σ' := ⟨[(1, .func 60 [] [.pbox [.int .i64 a2, .list (.ints a3)] 0]), (2, .ptr 2 0), (11, .bool (!v1))], [(2, .box [.int .i64 a0, .list (.ints a1)])]⟩) rfl ⟨(fun _ => (w_impl_IsValidGame a0 a1 v1 hk1)), trivial⟩ rfl ?_
  rcases bif_some h with ⟨hd2, h⟩ | ⟨hd2, h⟩
  · refine Tri.run 2 [.g true] [.keep [4, 5, 6] []] (K' := [.code [(1, 0), (1, 0)] 1, .code [] 2]) (σ' := ⟨[(4, .int .i64 (0 : Int)), (5, .int .i64 (0 : Int)), (6, .bool false)], []⟩) rfl ⟨hd2, trivial⟩ rfl ?_
    have h := Option.some.inj h
    subst h
    exact Tri.ret rfl ⟨.inl rfl, rfl, rfl⟩
  · refine Tri.run 2 [.g false] [.keep [1, 2, 14, 15] [2]] (K' := [.code [(2, 0), (1, 0)] 0, .blk 0, .code [] 3]) (σ' := ⟨[(1, .func 60 [] [.pbox [.int .i64 a2, .list (.ints a3)] 0]), (2, .ptr 2 0), (14, .int .i64 (a1.length : Int)), (15, .int .i64 (0 : Int))], [(2, .box [.int .i64 a0, .list (.ints a1)])]⟩) rfl ⟨hd2, trivial⟩ rfl ?_
    obtain ⟨x2, hk8, h⟩ := bind_some h
    refine Tri.loop (K1 := [.code [(2, 0), (1, 0), (0, 0)] 0]) (K2 := [.blk 0, .code [] 3]) (fun v2 => ⟨[(1, .func 60 [] [.pbox [.int .i64 a2, .list (.ints a3)] 0]), (2, .ptr 2 0), (14, .int .i64 (a1.length : Int)), (15, .int .i64 v2)], [(2, .box [.int .i64 a0, .list (.ints a1)])]⟩) (fun x e σ' => match x with | (.inl _) => e = .exit 0 ∧ σ' = ⟨[], []⟩ | (.inr r) => e = .ret ∧ q_impl_fault_impl_MonotoneFault_1 r σ') hk8 rfl rfl ?_ ?_
    · intro v2 x hs
      clear h
      have h := hs
      clear hs
      refine Tri.run 1 [] [.keep [1, 2, 14, 15, 16] [2]] (K' := [.code [(2, 0), (1, 0), (0, 0), (1, 0)] 0, .code [(2, 0), (1, 0), (0, 0)] 2]) (σ' := ⟨[(1, .func 60 [] [.pbox [.int .i64 a2, .list (.ints a3)] 0]), (2, .ptr 2 0), (14, .int .i64 (a1.length : Int)), (15, .int .i64 v2), (16, .bool (decide (v2 < (a1.length : Int))))], [(2, .box [.int .i64 a0, .list (.ints a1)])]⟩) rfl trivial rfl ?_
      rcases bif_some h with ⟨hd3, h⟩ | ⟨hd3, h⟩
      · refine Tri.run 3 [.g true] [.keep [1, 2, 7, 14, 15, 20, 21] [2]] (K' := [.code [(2, 0), (1, 0), (0, 0), (2, 0), (0, 0), (2, 0)] 0, .blk 2, .blk 1, .code [(2, 0), (1, 0), (0, 0)] 3]) (σ' := ⟨[(1, .func 60 [] [.pbox [.int .i64 a2, .list (.ints a3)] 0]), (2, .ptr 2 0), (7, .int .i64 v2), (14, .int .i64 (a1.length : Int)), (15, .int .i64 v2), (20, .int .i64 (a1.length : Int)), (21, .int .i64 (0 : Int))], [(2, .box [.int .i64 a0, .list (.ints a1)])]⟩) rfl ⟨hd3, trivial⟩ rfl ?_
        obtain ⟨x2, hk7, h⟩ := bind_some h
        refine Tri.loop (K1 := [.code [(2, 0), (1, 0), (0, 0), (2, 0), (0, 0), (2, 0), (0, 0)] 0]) (K2 := [.blk 2, .blk 1, .code [(2, 0), (1, 0), (0, 0)] 3]) (fun v3 => ⟨[(1, .func 60 [] [.pbox [.int .i64 a2, .list (.ints a3)] 0]), (2, .ptr 2 0), (7, .int .i64 v2), (14, .int .i64 (a1.length : Int)), (15, .int .i64 v2), (20, .int .i64 (a1.length : Int)), (21, .int .i64 v3)], [(2, .box [.int .i64 a0, .list (.ints a1)])]⟩) (fun x e σ' => match x with | (.inl _) => e = .exit 2 ∧ σ' = ⟨[(1, .func 60 [] [.pbox [.int .i64 a2, .list (.ints a3)] 0]), (2, .ptr 2 0), (14, .int .i64 (a1.length : Int)), (15, .int .i64 v2)], [(2, .box [.int .i64 a0, .list (.ints a1)])]⟩ | (.inr r) => e = .ret ∧ q_impl_fault_impl_MonotoneFault_1 r σ') hk7 rfl rfl ?_ ?_
        · intro v3 x hs
          clear h
          have h := hs
          clear hs
          refine Tri.run 1 [] [.keep [1, 2, 7, 14, 15, 20, 21, 22] [2]] (K' := [.code [(2, 0), (1, 0), (0, 0), (2, 0), (0, 0), (2, 0), (0, 0), (1, 0)] 0, .code [(2, 0), (1, 0), (0, 0), (2, 0), (0, 0), (2, 0), (0, 0)] 2]) (σ' := ⟨[(1, .func 60 [] [.pbox [.int .i64 a2, .list (.ints a3)] 0]), (2, .ptr 2 0), (7, .int .i64 v2), (14, .int .i64 (a1.length : Int)), (15, .int .i64 v2), (20, .int .i64 (a1.length : Int)), (21, .int .i64 v3), (22, .bool (decide (v3 < (a1.length : Int))))], [(2, .box [.int .i64 a0, .list (.ints a1)])]⟩) rfl trivial rfl ?_
          rcases bif_some h with ⟨hd4, h⟩ | ⟨hd4, h⟩
          · refine Tri.run 2 [.g true] [.keep [1, 2, 7, 8, 14, 15, 20, 21] [2]] (K' := [.code [(2, 0), (1, 0), (0, 0), (2, 0), (0, 0), (2, 0), (0, 0), (2, 0), (0, 0), (1, 0)] 0, .code [(2, 0), (1, 0), (0, 0), (2, 0), (0, 0), (2, 0), (0, 0), (2, 0), (0, 0)] 2, .blk 3, .code [(2, 0), (1, 0), (0, 0), (2, 0), (0, 0), (2, 0), (0, 0)] 3]) (σ' := ⟨[(1, .func 60 [] [.pbox [.int .i64 a2, .list (.ints a3)] 0]), (2, .ptr 2 0), (7, .int .i64 v2), (8, .int .i64 v3), (14, .int .i64 (a1.length : Int)), (15, .int .i64 v2), (20, .int .i64 (a1.length : Int)), (21, .int .i64 v3)], [(2, .box [.int .i64 a0, .list (.ints a1)])]⟩) rfl ⟨hd4, trivial⟩ rfl ?_
            obtain ⟨v4, hk5, h⟩ := bind_some h
            refine Tri.run 1 [.r ⟨[], .bool v4, []⟩] [.keep [1, 2, 7, 8, 14, 15, 20, 21, 27] [2]] (K' := [.code [(2, 0), (1, 0), (0, 0), (2, 0), (0, 0), (2, 0), (0, 0), (2, 0), (0, 0)] 2, .blk 3, .code [(2, 0), (1, 0), (0, 0), (2, 0), (0, 0), (2, 0), (0, 0)] 3]) (σ' := ⟨[(1, .func 60 [] [.pbox [.int .i64 a2, .list (.ints a3)] 0]), (2, .ptr 2 0), (7, .int .i64 v2), (8, .int .i64 v3), (14, .int .i64 (a1.length : Int)), (15, .int .i64 v2), (20, .int .i64 (a1.length : Int)), (21, .int .i64 v3), (27, .bool v4)], [(2, .box [.int .i64 a0, .list (.ints a1)])]⟩) rfl ⟨(fun _ => (w_impl_MonotoneFault_1 v2 v3 a2 a3 v4 hk5)), trivial⟩ rfl ?_
            rcases bif_some h with ⟨hd6, h⟩ | ⟨hd6, h⟩
            · refine Tri.run 2 [.g true] [.keep [4, 5, 6] []] (K' := [.code [(2, 0), (1, 0), (0, 0), (2, 0), (0, 0), (2, 0), (0, 0), (2, 0), (0, 0), (2, 0)] 1, .blk 3, .code [(2, 0), (1, 0), (0, 0), (2, 0), (0, 0), (2, 0), (0, 0)] 3]) (σ' := ⟨[(4, .int .i64 v2), (5, .int .i64 v3), (6, .bool true)], []⟩) rfl ⟨hd6, trivial⟩ rfl ?_
              have h := Option.some.inj h
              subst h
              exact Tri.ret rfl ⟨nofun, rfl, rfl, rfl⟩
            · refine Tri.run 2 [.g false] [.keep [1, 2, 7, 14, 15, 20, 21] [2]] (K' := []) (σ' := ⟨[(1, .func 60 [] [.pbox [.int .i64 a2, .list (.ints a3)] 0]), (2, .ptr 2 0), (7, .int .i64 v2), (14, .int .i64 (a1.length : Int)), (15, .int .i64 v2), (20, .int .i64 (a1.length : Int)), (21, .int .i64 (IntKind.i64.wrap (v3 + (1 : Int))))], [(2, .box [.int .i64 a0, .list (.ints a1)])]⟩) rfl ⟨hd6, trivial⟩ rfl ?_
              have h := Option.some.inj h
              subst h
              exact Tri.nil ⟨rfl, rfl⟩
          · refine Tri.run 1 [.g false] [.keep [1, 2, 14, 15] [2]] (K' := [.code [(2, 0), (1, 0), (0, 0), (2, 0), (0, 0), (2, 0), (0, 0), (1, 0), (0, 1)] 0, .code [(2, 0), (1, 0), (0, 0), (2, 0), (0, 0), (2, 0), (0, 0)] 2]) (σ' := ⟨[(1, .func 60 [] [.pbox [.int .i64 a2, .list (.ints a3)] 0]), (2, .ptr 2 0), (14, .int .i64 (a1.length : Int)), (15, .int .i64 v2)], [(2, .box [.int .i64 a0, .list (.ints a1)])]⟩) rfl ⟨hd4, trivial⟩ rfl ?_
            have h := Option.some.inj h
            subst h
            exact Tri.out 2 rfl ⟨nofun, rfl, rfl⟩
        · intro e σ' hne hq
          rcases x2 with _ | r
          · obtain ⟨rfl, rfl⟩ := hq
            refine TriX.exit (K' := [.blk 1, .code [(2, 0), (1, 0), (0, 0)] 3]) rfl ?_
            refine Tri.run 1 [] [.keep [1, 2, 14, 15] [2]] (K' := []) (σ' := ⟨[(1, .func 60 [] [.pbox [.int .i64 a2, .list (.ints a3)] 0]), (2, .ptr 2 0), (14, .int .i64 (a1.length : Int)), (15, .int .i64 (IntKind.i64.wrap (v2 + (1 : Int))))], [(2, .box [.int .i64 a0, .list (.ints a1)])]⟩) rfl trivial rfl ?_
            have h := Option.some.inj h
            subst h
            exact Tri.nil ⟨rfl, rfl⟩
          · obtain ⟨rfl, hq⟩ := hq
            have h := Option.some.inj h
            subst h
            exact TriX.ret ⟨nofun, rfl, hq⟩
      · refine Tri.run 1 [.g false] [.keep [] []] (K' := [.code [(2, 0), (1, 0), (0, 0), (1, 0), (0, 1)] 0, .code [(2, 0), (1, 0), (0, 0)] 2]) (σ' := ⟨[], []⟩) rfl ⟨hd3, trivial⟩ rfl ?_
        have h := Option.some.inj h
        subst h
        exact Tri.out 0 rfl ⟨nofun, rfl, rfl⟩
    · intro e σ' hne hq
      rcases x2 with _ | r
      · obtain ⟨rfl, rfl⟩ := hq
        refine TriX.exit (K' := [.code [] 3]) rfl ?_
        refine Tri.run 1 [] [.keep [4, 5, 6] []] (K' := [.code [] 4]) (σ' := ⟨[(4, .int .i64 (0 : Int)), (5, .int .i64 (0 : Int)), (6, .bool false)], []⟩) rfl trivial rfl ?_
        have h := Option.some.inj h
        subst h
        exact Tri.ret rfl ⟨.inl rfl, rfl, rfl⟩
      · obtain ⟨rfl, hq⟩ := hq
        have h := Option.some.inj h
        subst h
        exact TriX.ret ⟨.inl rfl, hq⟩
/-! impl.MonotoneFault -/
noncomputable def E16_impl_MonotoneFault : Env := ⟨Try.prog, tys, (Try.f16.body).getD .skip, 11, tysOk, mixedOk⟩
abbrev q_impl_MonotoneFault (r : Int × Int × Bool) (σ' : ASt) : Prop := resAV E16_impl_MonotoneFault.T σ' Try.f16.results.toList = some (.tuple [.int .i64 r.1, .int .i64 r.2.1, .bool r.2.2]) ∧ keepO σ'.ob (namesO []) = []
noncomputable def m_impl_MonotoneFault (a0 : Int) (a1 : List Int) : Option (Int × Int × Bool) :=
(m_impl_fault_impl_MonotoneFault_1 a0 a1 a0 a1).bind fun (v1, v2, v3) =>
some (v1, v2, v3)
theorem w_impl_MonotoneFault (a0 : Int) (a1 : List Int) (r : Int × Int × Bool) (h : m_impl_MonotoneFault a0 a1 = some r) : AM.Spec Try.prog 16 [.agg [.int .i64 a0, .list (.ints a1)]] [] (.tuple [.int .i64 r.1, .int .i64 r.2.1, .bool r.2.2]) [] := by
  refine spec_of (E := E16_impl_MonotoneFault) Try.func16 rfl rfl rfl rfl ?_
  refine Tri.run 1 [] [.keep [1] [1]] (K' := [.code [(1, 0)] 0, .code [] 2]) (σ' := ⟨[(1, .ptr 1 0)], [(1, .box [.int .i64 a0, .list (.ints a1)])]⟩) rfl trivial rfl ?_
  obtain ⟨⟨v1, v2, v3⟩, hk1, h⟩ := bind_some h
  refine Tri.run 1 [.r ⟨[], .tuple [.int .i64 v1, .int .i64 v2, .bool v3], []⟩] [.keep [2, 3, 4] []] (K' := [.code [] 2]) (σ' := ⟨[(2, .int .i64 v1), (3, .int .i64 v2), (4, .bool v3)], []⟩) rfl ⟨(fun _ => (w_impl_fault_impl_MonotoneFault_1 a0 a1 a0 a1 (v1, v2, v3) hk1)), trivial⟩ rfl ?_
  have h := Option.some.inj h
  subst h
  exact Tri.ret rfl ⟨.inl rfl, rfl, rfl⟩
/-! spec.MonotoneFault -/
noncomputable def E17_spec_MonotoneFault : Env := ⟨Try.prog, tys, (Try.f17.body).getD .skip, 17, tysOk, mixedOk⟩
abbrev q_spec_MonotoneFault (r : Int × Int × Bool) (σ' : ASt) : Prop := resAV E17_spec_MonotoneFault.T σ' Try.f17.results.toList = some (.tuple [.int .i64 r.1, .int .i64 r.2.1, .bool r.2.2]) ∧ keepO σ'.ob (namesO []) = []
noncomputable def m_spec_MonotoneFault (a0 : Int) (a1 : List Int) : Option (Int × Int × Bool) :=
(m_spec_l10Fault a0 a1 (1 : Int)).bind fun (v1, v2, v3) =>
some (v1, v2, v3)
theorem w_spec_MonotoneFault (a0 : Int) (a1 : List Int) (r : Int × Int × Bool) (h : m_spec_MonotoneFault a0 a1 = some r) : AM.Spec Try.prog 17 [.agg [.int .i64 a0, .list (.ints a1)]] [] (.tuple [.int .i64 r.1, .int .i64 r.2.1, .bool r.2.2]) [] := by
  refine spec_of (E := E17_spec_MonotoneFault) Try.func17 rfl rfl rfl rfl ?_
  refine Tri.run 1 [] [.keep [1] [1]] (K' := [.code [(1, 0)] 0, .code [] 2]) (σ' := ⟨[(1, .ptr 1 0)], [(1, .box [.int .i64 a0, .list (.ints a1)])]⟩) rfl trivial rfl ?_
  obtain ⟨⟨v1, v2, v3⟩, hk1, h⟩ := bind_some h
  refine Tri.run 2 [.r ⟨[], .tuple [.int .i64 v1, .int .i64 v2, .bool v3], []⟩] [.keep [2, 3, 4] []] (K' := [.code [] 3]) (σ' := ⟨[(2, .int .i64 v1), (3, .int .i64 v2), (4, .bool v3)], []⟩) rfl ⟨(fun _ => (w_spec_l10Fault a0 a1 (1 : Int) (v1, v2, v3) hk1)), trivial⟩ rfl ?_
  have h := Option.some.inj h
  subst h
  exact Tri.ret rfl ⟨.inl rfl, rfl, rfl⟩
/-! impl.IsSubset -/
noncomputable def E18_impl_IsSubset : Env := ⟨Try.prog, tys, (Try.f18.body).getD .skip, 17, tysOk, mixedOk⟩
abbrev q_impl_IsSubset (r : Bool) (σ' : ASt) : Prop := resAV E18_impl_IsSubset.T σ' Try.f18.results.toList = some (.bool r) ∧ keepO σ'.ob (namesO []) = []
noncomputable def m_impl_IsSubset (a0 : Int) (a1 : Int) : Option Bool :=
(m_impl_within a0 (0 : Int) (31 : Int)).bind fun v1 =>
bif v1 then
((m_impl_within a1 (0 : Int) (31 : Int)).bind fun v2 =>
bif v2 then
(some ((bitsOf .andNot .i64 a0 a1) == (0 : Int)))
else
(some false))
else
(some false)
theorem w_impl_IsSubset (a0 : Int) (a1 : Int) (r : Bool) (h : m_impl_IsSubset a0 a1 = some r) : AM.Spec Try.prog 18 [.int .i64 a0, .int .i64 a1] [] (.bool r) [] := by
  refine spec_of (E := E18_impl_IsSubset) Try.func18 rfl rfl rfl rfl ?_
  refine Tri.run 1 [] [.keep [0, 1] []] (K' := [.code [(1, 0)] 0, .code [] 2]) (σ' := ⟨[(0, .int .i64 a0), (1, .int .i64 a1)], []⟩) rfl trivial rfl ?_
  obtain ⟨v1, hk1, h⟩ := bind_some h
  rcases bif_some h with ⟨hd2, h⟩ | ⟨hd2, h⟩
  · obtain ⟨v2, hk3, h⟩ := bind_some h
    rcases bif_some h with ⟨hd4, h⟩ | ⟨hd4, h⟩
    · refine Tri.run 1 [.r ⟨[], .bool v1, []⟩, .g true, .r ⟨[], .bool v2, []⟩, .g true] [.keep [4] []] (K' := [.code [] 2]) (σ' := ⟨[(4, .bool ((bitsOf .andNot .i64 a0 a1) == (0 : Int)))], []⟩) rfl ⟨hd4, (fun _ => (w_impl_within a1 (0 : Int) (31 : Int) v2 hk3)), hd2, (fun _ => (w_impl_within a0 (0 : Int) (31 : Int) v1 hk1)), trivial⟩ rfl ?_
      have h := Option.some.inj h
      subst h
      exact Tri.ret rfl ⟨.inl rfl, rfl, rfl⟩
    · refine Tri.run 1 [.r ⟨[], .bool v1, []⟩, .g true, .r ⟨[], .bool v2, []⟩, .g false] [.keep [4] []] (K' := [.code [] 2]) (σ' := ⟨[(4, .bool false)], []⟩) rfl ⟨hd4, (fun _ => (w_impl_within a1 (0 : Int) (31 : Int) v2 hk3)), hd2, (fun _ => (w_impl_within a0 (0 : Int) (31 : Int) v1 hk1)), trivial⟩ rfl ?_
      have h := Option.some.inj h
      subst h
      exact Tri.ret rfl ⟨.inl rfl, rfl, rfl⟩
  · refine Tri.run 1 [.r ⟨[], .bool v1, []⟩, .g false, .g false] [.keep [4] []] (K' := [.code [] 2]) (σ' := ⟨[(4, .bool false)], []⟩) rfl ⟨rfl, hd2, (fun _ => (w_impl_within a0 (0 : Int) (31 : Int) v1 hk1)), trivial⟩ rfl ?_
    have h := Option.some.inj h
    subst h
    exact Tri.ret rfl ⟨.inl rfl, rfl, rfl⟩
/-! spec.SuperadditiveFault -/
noncomputable def E20_spec_SuperadditiveFault : Env := ⟨Try.prog, tys, (Try.f20.body).getD .skip, 17, tysOk, mixedOk⟩
abbrev q_spec_SuperadditiveFault (r : Int × Int × Bool) (σ' : ASt) : Prop := resAV E20_spec_SuperadditiveFault.T σ' Try.f20.results.toList = some (.tuple [.int .i64 r.1, .int .i64 r.2.1, .bool r.2.2]) ∧ keepO σ'.ob (namesO []) = []
noncomputable def m_spec_SuperadditiveFault (a0 : Int) (a1 : List Int) : Option (Int × Int × Bool) :=
(m_spec_l10Fault a0 a1 (2 : Int)).bind fun (v1, v2, v3) =>
some (v1, v2, v3)
theorem w_spec_SuperadditiveFault (a0 : Int) (a1 : List Int) (r : Int × Int × Bool) (h : m_spec_SuperadditiveFault a0 a1 = some r) : AM.Spec Try.prog 20 [.agg [.int .i64 a0, .list (.ints a1)]] [] (.tuple [.int .i64 r.1, .int .i64 r.2.1, .bool r.2.2]) [] := by
  refine spec_of (E := E20_spec_SuperadditiveFault) Try.func20 rfl rfl rfl rfl ?_
  refine Tri.run 1 [] [.keep [1] [1]] (K' := [.code [(1, 0)] 0, .code [] 2]) (σ' := ⟨[(1, .ptr 1 0)], [(1, .box [.int .i64 a0, .list (.ints a1)])]⟩) rfl trivial rfl ?_
  obtain ⟨⟨v1, v2, v3⟩, hk1, h⟩ := bind_some h
  refine Tri.run 2 [.r ⟨[], .tuple [.int .i64 v1, .int .i64 v2, .bool v3], []⟩] [.keep [2, 3, 4] []] (K' := [.code [] 3]) (σ' := ⟨[(2, .int .i64 v1), (3, .int .i64 v2), (4, .bool v3)], []⟩) rfl ⟨(fun _ => (w_spec_l10Fault a0 a1 (2 : Int) (v1, v2, v3) hk1)), trivial⟩ rfl ?_
  have h := Option.some.inj h
  subst h
  exact Tri.ret rfl ⟨.inl rfl, rfl, rfl⟩
/-! impl.IsMonotone -/
noncomputable def E21_impl_IsMonotone : Env := ⟨Try.prog, tys, (Try.f21.body).getD .skip, 18, tysOk, mixedOk⟩
abbrev q_impl_IsMonotone (r : Bool) (σ' : ASt) : Prop := resAV E21_impl_IsMonotone.T σ' Try.f21.results.toList = some (.bool r) ∧ keepO σ'.ob (namesO []) = []
noncomputable def m_impl_IsMonotone (a0 : Int) (a1 : List Int) : Option Bool :=
(m_impl_MonotoneFault a0 a1).bind fun (_, _, v3) =>
(m_impl_IsValidGame a0 a1).bind fun v4 =>
bif v4 then
(some (!v3))
else
(some false)
theorem w_impl_IsMonotone (a0 : Int) (a1 : List Int) (r : Bool) (h : m_impl_IsMonotone a0 a1 = some r) : AM.Spec Try.prog 21 [.agg [.int .i64 a0, .list (.ints a1)]] [] (.bool r) [] := by
  refine spec_of (E := E21_impl_IsMonotone) Try.func21 rfl rfl rfl rfl ?_
  refine Tri.run 1 [] [.keep [1] [1]] (K' := [.code [(1, 0)] 0, .code [] 2]) (σ' := ⟨[(1, .ptr 1 0)], [(1, .box [.int .i64 a0, .list (.ints a1)])]⟩) rfl trivial rfl ?_
  obtain ⟨⟨v1, v2, v3⟩, hk1, h⟩ := bind_some h
  obtain ⟨v4, hk2, h⟩ := bind_some h
  rcases bif_some h with ⟨hd3, h⟩ | ⟨hd3, h⟩
  · refine Tri.run 2 [.r ⟨[], .tuple [.int .i64 v1, .int .i64 v2, .bool v3], []⟩, .r ⟨[], .bool v4, []⟩, .g true] [.keep [2] []] (K' := [.code [] 3]) (σ' := ⟨[(2, .bool (!v3))], []⟩) rfl ⟨hd3, (fun _ => (w_impl_IsValidGame a0 a1 v4 hk2)), (fun _ => (w_impl_MonotoneFault a0 a1 (v1, v2, v3) hk1)), trivial⟩ rfl ?_
    have h := Option.some.inj h
    subst h
    exact Tri.ret rfl ⟨.inl rfl, rfl, rfl⟩
  · refine Tri.run 2 [.r ⟨[], .tuple [.int .i64 v1, .int .i64 v2, .bool v3], []⟩, .r ⟨[], .bool v4, []⟩, .g false] [.keep [2] []] (K' := [.code [] 3]) (σ' := ⟨[(2, .bool false)], []⟩) rfl ⟨hd3, (fun _ => (w_impl_IsValidGame a0 a1 v4 hk2)), (fun _ => (w_impl_MonotoneFault a0 a1 (v1, v2, v3) hk1)), trivial⟩ rfl ?_
    have h := Option.some.inj h
    subst h
    exact Tri.ret rfl ⟨.inl rfl, rfl, rfl⟩
end Go.Proofs.Ytmlfjoppaciknaa
