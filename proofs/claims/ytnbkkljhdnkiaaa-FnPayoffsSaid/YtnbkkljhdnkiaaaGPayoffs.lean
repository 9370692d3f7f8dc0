/- models and walks -/
import Derived.Test.YtnbkkljhdnkiaaaProg
import Derived.Test.YtnbkkljhdnkiaaaAmB
import Derived.Test.YtnbkkljhdnkiaaaAmS
namespace Go.Proofs.Ytnbkkljhdnkiaaa
open Go.AM Go.Shelf Go.Proofs
set_option maxRecDepth 100000
set_option maxHeartbeats 4000000
noncomputable def tys : TEnv := [(3,.int .i64),
 (4,.bool),
 (5,.int .u8),
 (22,.slice 3 (.ints [])),
 (28,.slice 44 (.rats [])),
 (30,.struct [(0,3),(1,22)] [.i 0,.nil (.ints [])] false),
 (38,.slice 5 (.bytes [])),
 (44,.struct [(0,3),(1,3)] [.i 0,.i 0] true),
 (99,.struct [(0,38),(1,3),(2,3)] [.nil (.bytes []),.i 0,.i 0] false)]
theorem tysOk : TOk Try.prog tys := tok_of (by kernel_rfl)
theorem mixedOk : Try.prog.follows .mixedOrders = true := by kernel_rfl
noncomputable def E172 : Env := ⟨Try.prog,tys,(Try.f16.body).getD .skip,6,tysOk,mixedOk⟩
abbrev K86 (r : Bool) (σ' : ASt) : Prop := isRes E172.T Try.f16 (.bool r) [] σ'
noncomputable def m_laws_big (a0 : List UInt8) : Option Bool :=
some (decide ((a0.length : Int) > 1048576))
theorem W0 (a0 : List UInt8) (r : Bool) (h : m_laws_big a0 = some r) : AM.Spec Try.prog 16 [.list (.bytes a0)] [] (.bool r) [] := by
 refine spec_of (E := E172) Try.func16 rfl rfl rfl rfl ?_
 refine Tri.f 2 [] [.keep [2] []] rfl trivial ?_
 cases h
 exact Tri.ret rfl ⟨.inl rfl,rfl,rfl⟩
noncomputable def E173 : Env := ⟨Try.prog,tys,(Try.f65.body).getD .skip,32,tysOk,mixedOk⟩
abbrev K87 (r : (List UInt8) × Int × Int) (σ' : ASt) : Prop := isRes E173.T Try.f65 (.ptr 1000 0) [(1000,.box [.list (.bytes r.1),.i r.2.1,.i r.2.2])] σ'
noncomputable def l_spec_l1New_0 (a0 : List UInt8) : (Int × Int) → Option ((Int × Int) ⊕ Int)
 | (v1,v2) => (
bif decide (v2 < (a0.length : Int)) then
(bif decide (v2 < 4000) then
(grd (0 ≤ v2 ∧ v2 < (a0.length : Int)) <|
some (.inl (bitsOf .and .i64 (IntKind.i64.wrap ((IntKind.i64.wrap ((IntKind.i64.wrap (v1 * 131)) + (IntKind.i64.wrap (((a0.getD v2.toNat 0).toNat : Int))))) + 7)) (1073741823 : Int),IntKind.i64.wrap (v2 + 1))))
else
(some (.inr v1)))
else
(some (.inr v1)))
noncomputable def m_spec_l1New (a0 : List UInt8) : Option ((List UInt8) × Int × Int) :=
(iter (l_spec_l1New_0 a0) (IntKind.i64.wrap ((26583 : Int) + (a0.length : Int)),(0 : Int))).bind fun
| v3 => (
some (a0,0,v3))
theorem W1 (a0 : List UInt8) (r : (List UInt8) × Int × Int) (h : m_spec_l1New a0 = some r) : AM.Spec Try.prog 65 [.list (.bytes a0)] [] (.ptr 1000 0) [(1000,.box [.list (.bytes r.1),.i r.2.1,.i r.2.2])] := by
 refine spec_of (E := E173) Try.func65 rfl rfl rfl rfl ?_
 refine Tri.f 3 [] [.keep [0,3,4] []] rfl trivial ?_
 obtain ⟨v3,hk4,h⟩ := bind_some h
 refine Tri.loop (K1 := [.code [(2,0),(1,0),(0,0)] 0]) (K2 := [.blk 0,.code [] 3]) (fun (v1,v2) => ⟨[(0,.list (.bytes a0)),(3,.i v1),(4,.i v2)],[]⟩) (fun x e σ' => match x with | v3 => e = .exit 0 ∧ σ' = ⟨[(0,.list (.bytes a0)),(3,.i v3)],[]⟩) hk4 rfl rfl ?_ ?_
 ·intro s x hs
  clear h
  have h := hs
  clear hs
  obtain ⟨v1,v2⟩ := s
  rcases bif_some h with ⟨hd1,h⟩ | ⟨hd1,h⟩
  ·refine Tri.f 1 [.g true] [.keep [0,3,4,15] []] rfl ⟨hd1,trivial⟩ ?_
   rcases bif_some h with ⟨hd2,h⟩ | ⟨hd2,h⟩
   ·obtain ⟨hg3,h⟩ := grd_some h
    refine Tri.f 3 [.g true] [.keep [0,3,4] []] rfl ⟨hg3,hd2,trivial⟩ ?_
    cases h
    exact Tri.nil ⟨rfl,rfl⟩
   ·refine Tri.f 1 [.g false] [.keep [0,3] []] rfl ⟨hd2,trivial⟩ ?_
    cases h
    exact Tri.out 0 rfl ⟨nofun,rfl,rfl⟩
  ·refine Tri.f 1 [.g false] [.keep [0,3,4,15] []] rfl ⟨hd1,trivial⟩ ?_
   refine Tri.f 1 [.g false] [.keep [0,3] []] rfl ⟨rfl,trivial⟩ ?_
   cases h
   exact Tri.out 0 rfl ⟨nofun,rfl,rfl⟩
 ·intro e σ' hne hq
  obtain ⟨rfl,rfl⟩ := hq
  refine TriX.exit (K' := [.code [] 3]) rfl ?_
  refine Tri.f 1 [] [.swap 31 1000,.keep [2] [1000]] rfl trivial ?_
  cases h
  exact Tri.ret rfl ⟨.inl rfl,rfl,rfl⟩
abbrev K88 (r : (List UInt8) × Int × Int × (List Int) × Int) (σ' : ASt) : Prop := isRes E173.T Try.f65 (.ptr 1000 0) [(1000,.box [.list (.bytes r.1),.i r.2.1,.i r.2.2.1]),(1001,.arr 3 0 0 (.ints r.2.2.2.1)),(2000,.box [.i r.2.2.2.2,.sl 1001 0])] σ'
noncomputable def l_spec_l1New_io2_0 (a2 : List UInt8) : (Int × Int) → Option ((Int × Int) ⊕ Int)
 | (v1,v2) => (
bif decide (v2 < (a2.length : Int)) then
(bif decide (v2 < 4000) then
(grd (0 ≤ v2 ∧ v2 < (a2.length : Int)) <|
some (.inl (bitsOf .and .i64 (IntKind.i64.wrap ((IntKind.i64.wrap ((IntKind.i64.wrap (v1 * 131)) + (IntKind.i64.wrap (((a2.getD v2.toNat 0).toNat : Int))))) + 7)) (1073741823 : Int),IntKind.i64.wrap (v2 + 1))))
else
(some (.inr v1)))
else
(some (.inr v1)))
noncomputable def m_spec_l1New_io2 (a0 : Int) (a1 : List Int) (a2 : List UInt8) : Option ((List UInt8) × Int × Int × (List Int) × Int) :=
(iter (l_spec_l1New_io2_0 a2) (IntKind.i64.wrap ((26583 : Int) + (a2.length : Int)),(0 : Int))).bind fun
| v3 => (
some (a2,0,v3,a1,a0))
theorem W2 (a0 : Int) (a1 : List Int) (a2 : List UInt8) (r : (List UInt8) × Int × Int × (List Int) × Int) (h : m_spec_l1New_io2 a0 a1 a2 = some r) : AM.Spec Try.prog 65 [.list (.bytes a2)] [(2000,.box [.i a0,.sl 2001 0]),(2001,.arr 3 0 0 (.ints a1))] (.ptr 1000 0) [(1000,.box [.list (.bytes r.1),.i r.2.1,.i r.2.2.1]),(1001,.arr 3 0 0 (.ints r.2.2.2.1)),(2000,.box [.i r.2.2.2.2,.sl 1001 0])] := by
 refine spec_of (E := E173) Try.func65 rfl rfl rfl rfl ?_
 refine Tri.f 3 [] [.swap 2001 1100,.keep [0,3,4] [1100,2000]] rfl trivial ?_
 obtain ⟨v3,hk4,h⟩ := bind_some h
 refine Tri.loop (K1 := [.code [(2,0),(1,0),(0,0)] 0]) (K2 := [.blk 0,.code [] 3]) (fun (v1,v2) => ⟨[(0,.list (.bytes a2)),(3,.i v1),(4,.i v2)],[(1100,.arr 3 0 0 (.ints a1)),(2000,.box [.i a0,.sl 1100 0])]⟩) (fun x e σ' => match x with | v3 => e = .exit 0 ∧ σ' = ⟨[(0,.list (.bytes a2)),(3,.i v3)],[(1100,.arr 3 0 0 (.ints a1)),(2000,.box [.i a0,.sl 1100 0])]⟩) hk4 rfl rfl ?_ ?_
 ·intro s x hs
  clear h
  have h := hs
  clear hs
  obtain ⟨v1,v2⟩ := s
  rcases bif_some h with ⟨hd1,h⟩ | ⟨hd1,h⟩
  ·refine Tri.f 1 [.g true] [.keep [0,3,4,15] [1100,2000]] rfl ⟨hd1,trivial⟩ ?_
   rcases bif_some h with ⟨hd2,h⟩ | ⟨hd2,h⟩
   ·obtain ⟨hg3,h⟩ := grd_some h
    refine Tri.f 3 [.g true] [.keep [0,3,4] [1100,2000]] rfl ⟨hg3,hd2,trivial⟩ ?_
    cases h
    exact Tri.nil ⟨rfl,rfl⟩
   ·refine Tri.f 1 [.g false] [.keep [0,3] [1100,2000]] rfl ⟨hd2,trivial⟩ ?_
    cases h
    exact Tri.out 0 rfl ⟨nofun,rfl,rfl⟩
  ·refine Tri.f 1 [.g false] [.keep [0,3,4,15] [1100,2000]] rfl ⟨hd1,trivial⟩ ?_
   refine Tri.f 1 [.g false] [.keep [0,3] [1100,2000]] rfl ⟨rfl,trivial⟩ ?_
   cases h
   exact Tri.out 0 rfl ⟨nofun,rfl,rfl⟩
 ·intro e σ' hne hq
  obtain ⟨rfl,rfl⟩ := hq
  refine TriX.exit (K' := [.code [] 3]) rfl ?_
  refine Tri.f 1 [] [.swap 31 1000,.swap 1100 1001,.keep [2] [1000,1001,2000]] rfl trivial ?_
  cases h
  exact Tri.ret rfl ⟨.inl rfl,rfl,rfl⟩
noncomputable def E174 : Env := ⟨Try.prog,tys,(Try.f92.body).getD .skip,58,tysOk,mixedOk⟩
abbrev K89 (u0 : Value) (a0 : List UInt8) (r : Int × Int × Int) (σ' : ASt) : Prop := isRes E174.T Try.f92 (.i r.1) [(2060,.box [.lst u0 (.bytes a0),.i r.2.1,.i r.2.2])] σ'
noncomputable def m_spec_l1Byte_io1 (a0 : List UInt8) (a1 a2 : Int) : Option (Int × Int × Int) :=
grd ((0 : Int) ≤ (33 : Int)) <|
grd ((0 : Int) ≤ (45 : Int)) <|
((some (bitsOf .and .i64 (bitsOf .xor .i64 ((IntKind.i64.wrap ((IntKind.i64.wrap (a2 * 6364136223846793005)) + 1442695040888963407)).fdiv (2 ^ (min (33 : Int).toNat 64))) ((IntKind.i64.wrap ((IntKind.i64.wrap (a2 * 6364136223846793005)) + 1442695040888963407)).fdiv (2 ^ (min (45 : Int).toNat 64)))) (255 : Int) : Int)).bind fun v1 =>
bif decide (a1 < (a0.length : Int)) then
(grd (0 ≤ a1 ∧ a1 < (a0.length : Int)) <|
some (bitsOf .and .i64 (IntKind.i64.wrap (v1 + (IntKind.i64.wrap (((a0.getD a1.toNat 0).toNat : Int))))) (255 : Int),IntKind.i64.wrap (a1 + 1),IntKind.i64.wrap ((IntKind.i64.wrap (a2 * 6364136223846793005)) + 1442695040888963407)))
else
(some (v1,a1,IntKind.i64.wrap ((IntKind.i64.wrap (a2 * 6364136223846793005)) + 1442695040888963407))))
theorem W3 (u0 : Value) (a0 : List UInt8) (a1 a2 : Int) (r : Int × Int × Int) (h : m_spec_l1Byte_io1 a0 a1 a2 = some r) : AM.Spec Try.prog 92 [.ptr 2060 0] [(2060,.box [.lst u0 (.bytes a0),.i a1,.i a2])] (.i r.1) [(2060,.box [.lst u0 (.bytes a0),.i r.2.1,.i r.2.2])] := by
 refine spec_of (E := E174) Try.func92 rfl rfl rfl rfl ?_
 obtain ⟨hg1,h⟩ := grd_some h
 obtain ⟨hg2,h⟩ := grd_some h
 refine Tri.u 3 [] [.keep [0,3] [2060]] [.code [(3,0),(0,0)] 0,.code [(3,0)] 1,.code [] 4] ⟨[(0,.ptr 2060 0),(3,.i (bitsOf .and .i64 (bitsOf .xor .i64 ((IntKind.i64.wrap ((IntKind.i64.wrap (a2 * 6364136223846793005)) + 1442695040888963407)).fdiv (2 ^ (min (33 : Int).toNat 64))) ((IntKind.i64.wrap ((IntKind.i64.wrap (a2 * 6364136223846793005)) + 1442695040888963407)).fdiv (2 ^ (min (45 : Int).toNat 64)))) (255 : Int)))],[(2060,.box [.lst u0 (.bytes a0),.i a1,.i (IntKind.i64.wrap ((IntKind.i64.wrap (a2 * 6364136223846793005)) + 1442695040888963407))])]⟩ rfl ⟨hg2,hg1,trivial⟩ rfl ?_
 obtain ⟨v1,hk3,h⟩ := bind_some h
 have hk3 := Option.some.inj hk3
 rw [hk3]
 refine Tri.f 1 [] [.keep [0,3,34] [2060]] rfl trivial ?_
 rcases bif_some h with ⟨hd4,h⟩ | ⟨hd4,h⟩
 ·obtain ⟨hg5,h⟩ := grd_some h
  refine Tri.f 3 [.g true] [.keep [3] [2060]] rfl ⟨hg5,hd4,trivial⟩ ?_
  refine Tri.f 1 [] [.keep [2] [2060]] rfl trivial ?_
  cases h
  exact Tri.ret rfl ⟨.inl rfl,rfl,rfl⟩
 ·refine Tri.f 2 [.g false] [.keep [2] [2060]] rfl ⟨hd4,trivial⟩ ?_
  cases h
  exact Tri.ret rfl ⟨.inl rfl,rfl,rfl⟩
noncomputable def E175 : Env := ⟨Try.prog,tys,(Try.f67.body).getD .skip,37,tysOk,mixedOk⟩
abbrev K90 (u0 : Value) (a0 : List UInt8) (r : Int × Int × Int) (σ' : ASt) : Prop := isRes E175.T Try.f67 (.i r.1) [(2040,.box [.lst u0 (.bytes a0),.i r.2.1,.i r.2.2])] σ'
noncomputable def m_spec_l1Below_io1 (a0 : List UInt8) (a1 a2 a3 : Int) : Option (Int × Int × Int) :=
bif decide (a3 ≤ 0) then
(some ((0 : Int),a1,a2))
else
(bif decide (a3 ≤ 256) then
((m_spec_l1Byte_io1 a0 a1 a2).bind fun (v1,v2,v3) =>
grd (a3 ≠ 0) <|
some (v1.tmod a3,v2,v3))
else
((m_spec_l1Byte_io1 a0 a1 a2).bind fun (v4,v5,v6) =>
(m_spec_l1Byte_io1 a0 v5 v6).bind fun (v7,v8,v9) =>
(m_spec_l1Byte_io1 a0 v8 v9).bind fun (v10,v11,v12) =>
(m_spec_l1Byte_io1 a0 v11 v12).bind fun (v13,v14,v15) =>
grd (a3 ≠ 0) <|
some ((IntKind.i64.wrap ((IntKind.i64.wrap ((IntKind.i64.wrap ((IntKind.i64.wrap (v4 * 16777216)) + (IntKind.i64.wrap (v7 * 65536)))) + (IntKind.i64.wrap (v10 * 256)))) + v13)).tmod a3,v14,v15)))
theorem W4 (u0 : Value) (a0 : List UInt8) (a1 a2 a3 : Int) (r : Int × Int × Int) (h : m_spec_l1Below_io1 a0 a1 a2 a3 = some r) : AM.Spec Try.prog 67 [.ptr 2040 0,.i a3] [(2040,.box [.lst u0 (.bytes a0),.i a1,.i a2])] (.i r.1) [(2040,.box [.lst u0 (.bytes a0),.i r.2.1,.i r.2.2])] := by
 refine spec_of (E := E175) Try.func67 rfl rfl rfl rfl ?_
 refine Tri.f 2 [] [.keep [0,1,10] [2040]] rfl trivial ?_
 rcases bif_some h with ⟨hd1,h⟩ | ⟨hd1,h⟩
 ·refine Tri.f 2 [.g true] [.keep [4] [2040]] rfl ⟨hd1,trivial⟩ ?_
  cases h
  exact Tri.ret rfl ⟨.inl rfl,rfl,rfl⟩
 ·refine Tri.f 2 [.g false] [.keep [0,1,12] [2040]] rfl ⟨hd1,trivial⟩ ?_
  rcases bif_some h with ⟨hd2,h⟩ | ⟨hd2,h⟩
  ·obtain ⟨⟨v1,v2,v3⟩,hk3,h⟩ := bind_some h
   obtain ⟨hg4,h⟩ := grd_some h
   refine Tri.f 2 [.g true,.r ⟨[2040],.i v1,[(2040,.box [.undf,.i v2,.i v3])]⟩] [.keep [4] [2040]] rfl ⟨hg4,(fun vf => ((W3 (vf 2040 0) a0 a1 a2 (v1,v2,v3) hk3).swap 2060 2040)),hd2,trivial⟩ ?_
   cases h
   exact Tri.ret rfl ⟨.inl rfl,rfl,rfl⟩
  ·obtain ⟨⟨v4,v5,v6⟩,hk5,h⟩ := bind_some h
   refine Tri.f 2 [.g false,.r ⟨[2040],.i v4,[(2040,.box [.undf,.i v5,.i v6])]⟩] [.keep [0,1,5] [2040]] rfl ⟨(fun vf => ((W3 (vf 2040 0) a0 a1 a2 (v4,v5,v6) hk5).swap 2060 2040)),hd2,trivial⟩ ?_
   obtain ⟨⟨v7,v8,v9⟩,hk6,h⟩ := bind_some h
   obtain ⟨⟨v10,v11,v12⟩,hk7,h⟩ := bind_some h
   refine Tri.f 2 [.r ⟨[2040],.i v7,[(2040,.box [.undf,.i v8,.i v9])]⟩,.r ⟨[2040],.i v10,[(2040,.box [.undf,.i v11,.i v12])]⟩] [.keep [0,1,5,6,7] [2040]] rfl ⟨(fun vf => ((W3 (vf 2040 0) a0 v8 v9 (v10,v11,v12) hk7).swap 2060 2040)),(fun vf => ((W3 (vf 2040 0) a0 v5 v6 (v7,v8,v9) hk6).swap 2060 2040)),trivial⟩ ?_
   obtain ⟨⟨v13,v14,v15⟩,hk8,h⟩ := bind_some h
   obtain ⟨hg9,h⟩ := grd_some h
   refine Tri.f 2 [.r ⟨[2040],.i v13,[(2040,.box [.undf,.i v14,.i v15])]⟩] [.keep [4] [2040]] rfl ⟨hg9,(fun vf => ((W3 (vf 2040 0) a0 v11 v12 (v13,v14,v15) hk8).swap 2060 2040)),trivial⟩ ?_
   cases h
   exact Tri.ret rfl ⟨.inl rfl,rfl,rfl⟩
noncomputable def E176 : Env := ⟨Try.prog,tys,(Try.f75.body).getD .skip,15,tysOk,mixedOk⟩
abbrev K91 (r : Bool) (σ' : ASt) : Prop := isRes E176.T Try.f75 (.bool r) [] σ'
noncomputable def m_spec_l1In (a0 a1 a2 : Int) : Option Bool :=
bif decide (a0 ≥ a1) then
(some (decide (a0 ≤ a2)))
else
(some false)
theorem W5 (a0 a1 a2 : Int) (r : Bool) (h : m_spec_l1In a0 a1 a2 = some r) : AM.Spec Try.prog 75 [.i a0,.i a1,.i a2] [] (.bool r) [] := by
 refine spec_of (E := E176) Try.func75 rfl rfl rfl rfl ?_
 refine Tri.f 1 [] [.keep [0,1,2] []] rfl trivial ?_
 rcases bif_some h with ⟨hd1,h⟩ | ⟨hd1,h⟩
 ·refine Tri.f 1 [.g true] [.keep [6] []] rfl ⟨hd1,trivial⟩ ?_
  cases h
  exact Tri.ret rfl ⟨.inl rfl,rfl,rfl⟩
 ·refine Tri.f 1 [.g false] [.keep [6] []] rfl ⟨hd1,trivial⟩ ?_
  cases h
  exact Tri.ret rfl ⟨.inl rfl,rfl,rfl⟩
noncomputable def E177 : Env := ⟨Try.prog,tys,(Try.f89.body).getD .skip,16,tysOk,mixedOk⟩
abbrev K92 (r : Int) (σ' : ASt) : Prop := isRes E177.T Try.f89 (.i r) [] σ'
noncomputable def l_spec_CountCoalitions_0 (a0 : Int) : (Int × Int) → Option ((Int × Int) ⊕ Int)
 | (v2,v3) => (
bif decide (v3 < a0) then
(some (.inl (IntKind.i64.wrap (v2 * 2),IntKind.i64.wrap (v3 + 1))))
else
(some (.inr v2)))
noncomputable def m_spec_CountCoalitions (a0 : Int) : Option Int :=
(m_spec_l1In a0 (0 : Int) (5 : Int)).bind fun v1 =>
bif !v1 then
(some (0 : Int))
else
((iter (l_spec_CountCoalitions_0 a0) ((1 : Int),(0 : Int))).bind fun
| v4 => (
some v4))
theorem W6 (a0 r : Int) (h : m_spec_CountCoalitions a0 = some r) : AM.Spec Try.prog 89 [.i a0] [] (.i r) [] := by
 refine spec_of (E := E177) Try.func89 rfl rfl rfl rfl ?_
 refine Tri.f 1 [] [.keep [0] []] rfl trivial ?_
 obtain ⟨v1,hk1,h⟩ := bind_some h
 refine Tri.f 1 [.v (.bool v1)] [.keep [0,7] []] rfl ⟨fun _ => W5 a0 (0 : Int) (5 : Int) v1 hk1,trivial⟩ ?_
 rcases bif_some h with ⟨hd2,h⟩ | ⟨hd2,h⟩
 ·refine Tri.f 2 [.g true] [.keep [2] []] rfl ⟨hd2,trivial⟩ ?_
  cases h
  exact Tri.ret rfl ⟨.inl rfl,rfl,rfl⟩
 ·refine Tri.f 3 [.g false] [.keep [0,3,4] []] rfl ⟨hd2,trivial⟩ ?_
  obtain ⟨v4,hk4,h⟩ := bind_some h
  refine Tri.loop (K1 := [.code [(3,0),(1,0),(0,0)] 0]) (K2 := [.blk 0,.code [] 4]) (fun (v2,v3) => ⟨[(0,.i a0),(3,.i v2),(4,.i v3)],[]⟩) (fun x e σ' => match x with | v4 => e = .exit 0 ∧ σ' = ⟨[(3,.i v4)],[]⟩) hk4 rfl rfl ?_ ?_
  ·intro s x hs
   clear h
   have h := hs
   clear hs
   obtain ⟨v2,v3⟩ := s
   refine Tri.f 1 [] [.keep [0,3,4,10] []] rfl trivial ?_
   rcases bif_some h with ⟨hd3,h⟩ | ⟨hd3,h⟩
   ·refine Tri.f 3 [.g true] [.keep [0,3,4] []] rfl ⟨hd3,trivial⟩ ?_
    cases h
    exact Tri.nil ⟨rfl,rfl⟩
   ·refine Tri.f 1 [.g false] [.keep [3] []] rfl ⟨hd3,trivial⟩ ?_
    cases h
    exact Tri.out 0 rfl ⟨nofun,rfl,rfl⟩
  ·intro e σ' hne hq
   obtain ⟨rfl,rfl⟩ := hq
   refine TriX.exit (K' := [.code [] 4]) rfl ?_
   refine Tri.f 1 [] [.keep [2] []] rfl trivial ?_
   cases h
   exact Tri.ret rfl ⟨.inl rfl,rfl,rfl⟩
noncomputable def E178 : Env := ⟨Try.prog,tys,(Try.f62.body).getD .skip,5,tysOk,mixedOk⟩
abbrev K93 (r : Int) (σ' : ASt) : Prop := isRes E178.T Try.f62 (.i r) [] σ'
noncomputable def m_spec_l2Bit (a0 : Int) : Option Int :=
(m_spec_CountCoalitions a0).bind fun v1 =>
some v1
theorem W7 (a0 r : Int) (h : m_spec_l2Bit a0 = some r) : AM.Spec Try.prog 62 [.i a0] [] (.i r) [] := by
 refine spec_of (E := E178) Try.func62 rfl rfl rfl rfl ?_
 refine Tri.f 1 [] [.keep [0] []] rfl trivial ?_
 obtain ⟨v1,hk1,h⟩ := bind_some h
 refine Tri.f 1 [.v (.i v1)] [.keep [2] []] rfl ⟨fun _ => W6 a0 v1 hk1,trivial⟩ ?_
 cases h
 exact Tri.ret rfl ⟨.inl rfl,rfl,rfl⟩
noncomputable def E179 : Env := ⟨Try.prog,tys,(Try.f96.body).getD .skip,19,tysOk,mixedOk⟩
abbrev K94 (r : Bool) (σ' : ASt) : Prop := isRes E179.T Try.f96 (.bool r) [] σ'
noncomputable def m_spec_HasPlayer (a0 a1 : Int) : Option Bool :=
(m_spec_l1In a1 (0 : Int) (4 : Int)).bind fun v1 =>
bif v1 then
(bif decide (a0 ≥ 0) then
((m_spec_l2Bit a1).bind fun v2 =>
grd (v2 ≠ 0) <|
grd ((2 : Int) ≠ 0) <|
some (((IntKind.i64.wrap (a0.tdiv v2)).tmod (2 : Int)) == 1))
else
(some false))
else
(some false)
theorem W8 (a0 a1 : Int) (r : Bool) (h : m_spec_HasPlayer a0 a1 = some r) : AM.Spec Try.prog 96 [.i a0,.i a1] [] (.bool r) [] := by
 refine spec_of (E := E179) Try.func96 rfl rfl rfl rfl ?_
 refine Tri.f 1 [] [.keep [0,1] []] rfl trivial ?_
 obtain ⟨v1,hk1,h⟩ := bind_some h
 rcases bif_some h with ⟨hd2,h⟩ | ⟨hd2,h⟩
 ·rcases bif_some h with ⟨hd3,h⟩ | ⟨hd3,h⟩
  ·obtain ⟨v2,hk4,h⟩ := bind_some h
   obtain ⟨hg5,h⟩ := grd_some h
   obtain ⟨hg6,h⟩ := grd_some h
   refine Tri.f 1 [.v (.bool v1),.g true,.g true,.v (.i v2)] [.keep [4] []] rfl ⟨hg6,hg5,fun _ => W7 a1 v2 hk4,hd3,hd2,fun _ => W5 a1 (0 : Int) (4 : Int) v1 hk1,trivial⟩ ?_
   cases h
   exact Tri.ret rfl ⟨.inl rfl,rfl,rfl⟩
  ·refine Tri.f 1 [.v (.bool v1),.g true,.g false] [.keep [4] []] rfl ⟨hd3,hd2,fun _ => W5 a1 (0 : Int) (4 : Int) v1 hk1,trivial⟩ ?_
   cases h
   exact Tri.ret rfl ⟨.inl rfl,rfl,rfl⟩
 ·refine Tri.f 1 [.v (.bool v1),.g false,.g false] [.keep [4] []] rfl ⟨rfl,hd2,fun _ => W5 a1 (0 : Int) (4 : Int) v1 hk1,trivial⟩ ?_
  cases h
  exact Tri.ret rfl ⟨.inl rfl,rfl,rfl⟩
noncomputable def E180 : Env := ⟨Try.prog,tys,(Try.f109.body).getD .skip,15,tysOk,mixedOk⟩
abbrev K95 (r : Int) (σ' : ASt) : Prop := isRes E180.T Try.f109 (.i r) [] σ'
noncomputable def l_spec_SizeOf_0 (a0 : Int) : (Int × Int) → Option ((Int × Int) ⊕ Int)
 | (v1,v2) => (
bif decide (v2 < 5) then
((m_spec_HasPlayer a0 v2).bind fun v3 =>
bif v3 then
(some (.inl (IntKind.i64.wrap (v1 + 1),IntKind.i64.wrap (v2 + 1))))
else
(some (.inl (v1,IntKind.i64.wrap (v2 + 1)))))
else
(some (.inr v1)))
noncomputable def m_spec_SizeOf (a0 : Int) : Option Int :=
(iter (l_spec_SizeOf_0 a0) ((0 : Int),(0 : Int))).bind fun
| v4 => (
some v4)
theorem W9 (a0 r : Int) (h : m_spec_SizeOf a0 = some r) : AM.Spec Try.prog 109 [.i a0] [] (.i r) [] := by
 refine spec_of (E := E180) Try.func109 rfl rfl rfl rfl ?_
 refine Tri.f 3 [] [.keep [0,3,4] []] rfl trivial ?_
 obtain ⟨v4,hk4,h⟩ := bind_some h
 refine Tri.loop (K1 := [.code [(2,0),(1,0),(0,0)] 0]) (K2 := [.blk 0,.code [] 3]) (fun (v1,v2) => ⟨[(0,.i a0),(3,.i v1),(4,.i v2)],[]⟩) (fun x e σ' => match x with | v4 => e = .exit 0 ∧ σ' = ⟨[(3,.i v4)],[]⟩) hk4 rfl rfl ?_ ?_
 ·intro s x hs
  clear h
  have h := hs
  clear hs
  obtain ⟨v1,v2⟩ := s
  refine Tri.f 1 [] [.keep [0,3,4,6] []] rfl trivial ?_
  rcases bif_some h with ⟨hd1,h⟩ | ⟨hd1,h⟩
  ·obtain ⟨v3,hk2,h⟩ := bind_some h
   refine Tri.f 2 [.g true,.v (.bool v3)] [.keep [0,3,4,11] []] rfl ⟨fun _ => W8 a0 v2 v3 hk2,hd1,trivial⟩ ?_
   rcases bif_some h with ⟨hd3,h⟩ | ⟨hd3,h⟩
   ·refine Tri.f 3 [.g true] [.keep [0,3,4] []] rfl ⟨hd3,trivial⟩ ?_
    cases h
    exact Tri.nil ⟨rfl,rfl⟩
   ·refine Tri.f 2 [.g false] [.keep [0,3,4] []] rfl ⟨hd3,trivial⟩ ?_
    cases h
    exact Tri.nil ⟨rfl,rfl⟩
  ·refine Tri.f 1 [.g false] [.keep [3] []] rfl ⟨hd1,trivial⟩ ?_
   cases h
   exact Tri.out 0 rfl ⟨nofun,rfl,rfl⟩
 ·intro e σ' hne hq
  obtain ⟨rfl,rfl⟩ := hq
  refine TriX.exit (K' := [.code [] 3]) rfl ?_
  refine Tri.f 1 [] [.keep [2] []] rfl trivial ?_
  cases h
  exact Tri.ret rfl ⟨.inl rfl,rfl,rfl⟩
noncomputable def E181 : Env := ⟨Try.prog,tys,(Try.f91.body).getD .skip,12,tysOk,mixedOk⟩
abbrev K96 (u0 : Value) (a0 : List UInt8) (r : Int × Int × Int) (σ' : ASt) : Prop := isRes E181.T Try.f91 (.i r.1) [(2080,.box [.lst u0 (.bytes a0),.i r.2.1,.i r.2.2])] σ'
noncomputable def m_spec_l1PickInt_io1 (a0 : List UInt8) (a1 a2 : Int) (a3 : List Int) : Option (Int × Int × Int) :=
(m_spec_l1Below_io1 a0 a1 a2 (a3.length : Int)).bind fun (v1,v2,v3) =>
grd (0 ≤ v1 ∧ v1 < (a3.length : Int)) <|
some (a3.getD v1.toNat 0,v2,v3)
theorem W10 (u0 : Value) (a0 : List UInt8) (a1 a2 : Int) (a3 : List Int) (r : Int × Int × Int) (h : m_spec_l1PickInt_io1 a0 a1 a2 a3 = some r) : AM.Spec Try.prog 91 [.ptr 2080 0,.list (.ints a3)] [(2080,.box [.lst u0 (.bytes a0),.i a1,.i a2])] (.i r.1) [(2080,.box [.lst u0 (.bytes a0),.i r.2.1,.i r.2.2])] := by
 refine spec_of (E := E181) Try.func91 rfl rfl rfl rfl ?_
 refine Tri.f 1 [] [.keep [0,1] [2080]] rfl trivial ?_
 obtain ⟨⟨v1,v2,v3⟩,hk1,h⟩ := bind_some h
 obtain ⟨hg2,h⟩ := grd_some h
 refine Tri.f 1 [.r ⟨[2080],.i v1,[(2080,.box [.undf,.i v2,.i v3])]⟩] [.keep [4] [2080]] rfl ⟨hg2,(fun vf => ((W4 (vf 2080 0) a0 a1 a2 (a3.length : Int) (v1,v2,v3) hk1).swap 2040 2080)),trivial⟩ ?_
 cases h
 exact Tri.ret rfl ⟨.inl rfl,rfl,rfl⟩
noncomputable def E182 : Env := ⟨Try.prog,tys,(Try.f110.body).getD .skip,10,tysOk,mixedOk⟩
abbrev K97 (r : Int) (σ' : ASt) : Prop := isRes E182.T Try.f110 (.i r) [] σ'
noncomputable def m_spec_l1Max (a0 a1 : Int) : Option Int :=
bif decide (a0 > a1) then
(some a0)
else
(some a1)
theorem W11 (a0 a1 r : Int) (h : m_spec_l1Max a0 a1 = some r) : AM.Spec Try.prog 110 [.i a0,.i a1] [] (.i r) [] := by
 refine spec_of (E := E182) Try.func110 rfl rfl rfl rfl ?_
 refine Tri.f 2 [] [.keep [0,1,7] []] rfl trivial ?_
 rcases bif_some h with ⟨hd1,h⟩ | ⟨hd1,h⟩
 ·refine Tri.f 2 [.g true] [.keep [4] []] rfl ⟨hd1,trivial⟩ ?_
  cases h
  exact Tri.ret rfl ⟨.inl rfl,rfl,rfl⟩
 ·refine Tri.f 2 [.g false] [.keep [4] []] rfl ⟨hd1,trivial⟩ ?_
  cases h
  exact Tri.ret rfl ⟨.inl rfl,rfl,rfl⟩
noncomputable def E183 : Env := ⟨Try.prog,tys,(Try.f111.body).getD .skip,4,tysOk,mixedOk⟩
abbrev K98 (r : Int) (σ' : ASt) : Prop := isRes E183.T Try.f111 (.i r) [] σ'
noncomputable def m_spec_l1Bit (a0 : Bool) : Option Int :=
bif a0 then
(some (1 : Int))
else
(some (0 : Int))
theorem W12 (a0 : Bool) (r : Int) (h : m_spec_l1Bit a0 = some r) : AM.Spec Try.prog 111 [.bool a0] [] (.i r) [] := by
 refine spec_of (E := E183) Try.func111 rfl rfl rfl rfl ?_
 refine Tri.f 2 [] [.keep [3] []] rfl trivial ?_
 rcases bif_some h with ⟨hd1,h⟩ | ⟨hd1,h⟩
 ·refine Tri.f 2 [.g true] [.keep [2] []] rfl ⟨hd1,trivial⟩ ?_
  cases h
  exact Tri.ret rfl ⟨.inl rfl,rfl,rfl⟩
 ·refine Tri.f 2 [.g false] [.keep [2] []] rfl ⟨hd1,trivial⟩ ?_
  cases h
  exact Tri.ret rfl ⟨.inl rfl,rfl,rfl⟩
noncomputable def E184 : Env := ⟨Try.prog,tys,(Try.f80.body).getD .skip,81,tysOk,mixedOk⟩
abbrev K99 (u0 : Value) (a0 : List UInt8) (r : Int × (List Int) × Int × Int) (σ' : ASt) : Prop := isRes E184.T Try.f80 (.agg [.i r.1,.sl 1000 0]) [(1000,.arr 3 0 0 (.ints r.2.1)),(2020,.box [.lst u0 (.bytes a0),.i r.2.2.1,.i r.2.2.2])] σ'
noncomputable def l_spec_l8Draw_io1_0 (a0 : List UInt8) (v1 v5 : Int) : (Int × (List Int) × Int × Int) → Option ((Int × (List Int) × Int × Int) ⊕ (((List Int) × Int × Int)))
 | (v8,v9,v10,v11) => (
bif decide (v8 < (v9.length : Int)) then
(bif v5 == 0 then
((m_spec_SizeOf v8).bind fun v12 =>
(m_spec_SizeOf v8).bind fun v13 =>
(m_spec_l1Below_io1 a0 v10 v11 (2 : Int)).bind fun (v14,v15,v16) =>
grd (0 ≤ v8 ∧ v8 < (v9.length : Int)) <|
some (.inl (IntKind.i64.wrap (v8 + 1),v9.set v8.toNat (IntKind.i64.wrap ((IntKind.i64.wrap (v12 * v13)) + v14)),v15,v16)))
else
(bif v5 == 1 then
((m_spec_l1PickInt_io1 a0 v10 v11 [(0 : Int),(1 : Int),(2 : Int),(3 : Int),(5 : Int),(8 : Int),(-2 : Int),(4 : Int)]).bind fun (v17,v18,v19) =>
grd (0 ≤ v8 ∧ v8 < (v9.length : Int)) <|
some (.inl (IntKind.i64.wrap (v8 + 1),v9.set v8.toNat v17,v18,v19)))
else
(bif v5 == 2 then
((m_spec_SizeOf v8).bind fun v20 =>
(m_spec_l1Below_io1 a0 v10 v11 (2 : Int)).bind fun (v21,v22,v23) =>
(m_spec_l1Max (0 : Int) (IntKind.i64.wrap ((IntKind.i64.wrap ((IntKind.i64.wrap ((3 : Int) * v20)) - 2)) - v21))).bind fun v24 =>
grd (0 ≤ v8 ∧ v8 < (v9.length : Int)) <|
some (.inl (IntKind.i64.wrap (v8 + 1),v9.set v8.toNat v24,v22,v23)))
else
((m_spec_SizeOf v8).bind fun v25 =>
(m_spec_l1Bit (decide ((IntKind.i64.wrap (v25 * 2)) > (IntKind.i64.wrap ((1 : Int) + v1))))).bind fun v26 =>
(m_spec_l1Below_io1 a0 v10 v11 (2 : Int)).bind fun (v27,v28,v29) =>
grd (0 ≤ v8 ∧ v8 < (v9.length : Int)) <|
some (.inl (IntKind.i64.wrap (v8 + 1),v9.set v8.toNat (IntKind.i64.wrap (v26 * (IntKind.i64.wrap ((3 : Int) + (IntKind.i64.wrap (v27 * 3)))))),v28,v29))))))
else
(some (.inr (v9,v10,v11))))
noncomputable def m_spec_l8Draw_io1 (a0 : List UInt8) (a1 a2 a3 : Int) : Option (Int × (List Int) × Int × Int) :=
(m_spec_l1Below_io1 a0 a1 a2 a3).bind fun (v1,v2,v3) =>
(m_spec_CountCoalitions (IntKind.i64.wrap ((1 : Int) + v1))).bind fun v4 =>
grd (0 ≤ v4 ∧ v4 = v4 ∧ v4 ≤ (room : Int)) <|
(m_spec_l1Below_io1 a0 v2 v3 (4 : Int)).bind fun (v5,v6,v7) =>
(iter (l_spec_l8Draw_io1_0 a0 v1 v5) ((1 : Int),List.replicate v4.toNat (0 : Int),v6,v7)).bind fun
| (v30,v31,v32) => (
some (IntKind.i64.wrap ((1 : Int) + v1),v30,v31,v32))
theorem W13 (u0 : Value) (a0 : List UInt8) (a1 a2 a3 : Int) (r : Int × (List Int) × Int × Int) (h : m_spec_l8Draw_io1 a0 a1 a2 a3 = some r) : AM.Spec Try.prog 80 [.ptr 2020 0,.i a3] [(2020,.box [.lst u0 (.bytes a0),.i a1,.i a2])] (.agg [.i r.1,.sl 1000 0]) [(1000,.arr 3 0 0 (.ints r.2.1)),(2020,.box [.lst u0 (.bytes a0),.i r.2.2.1,.i r.2.2.2])] := by
 refine spec_of (E := E184) Try.func80 rfl rfl rfl rfl ?_
 refine Tri.f 1 [] [.keep [0,1,4] [4,2020],.ownc 4 1 1100 3,.keep [0,1,4] [4,1100,2020]] rfl trivial ?_
 obtain ⟨⟨v1,v2,v3⟩,hk1,h⟩ := bind_some h
 obtain ⟨v4,hk2,h⟩ := bind_some h
 obtain ⟨hg3,h⟩ := grd_some h
 refine Tri.f 2 [.r ⟨[2020],.i v1,[(2020,.box [.undf,.i v2,.i v3])]⟩,.v (.i v4)] [.keep [0,4,5,6] [4,6,16,1100,2020]] rfl ⟨hg3,fun _ => W6 (IntKind.i64.wrap ((1 : Int) + v1)) v4 hk2,(fun vf => ((W4 (vf 2020 0) a0 a1 a2 a3 (v1,v2,v3) hk1).swap 2040 2020)),trivial⟩ ?_
 obtain ⟨⟨v5,v6,v7⟩,hk4,h⟩ := bind_some h
 refine Tri.f 2 [.r ⟨[2020],.i v5,[(2020,.box [.undf,.i v6,.i v7])]⟩] [.keep [0,4,5,6,7,8] [4,6,16,1100,2020]] rfl ⟨(fun vf => ((W4 (vf 2020 0) a0 v2 v3 (4 : Int) (v5,v6,v7) hk4).swap 2040 2020)),trivial⟩ ?_
 obtain ⟨x1,hk23,h⟩ := bind_some h
 refine Tri.loop (K1 := [.code [(4,0),(1,0),(0,0)] 0]) (K2 := [.blk 0,.code [] 5]) (fun (v8,v9,v10,v11) => ⟨[(0,.ptr 2020 0),(4,.ptr 4 0),(5,.i (IntKind.i64.wrap ((1 : Int) + v1))),(6,.ptr 6 0),(7,.i v5),(8,.i v8)],[(4,.box [.i 0,.sl 1100 0]),(6,.box [.i (IntKind.i64.wrap ((1 : Int) + v1)),.sl 16 0]),(16,.arr 3 0 0 (.ints v9)),(1100,.arr 3 0 0 (.ints [])),(2020,.box [.lst u0 (.bytes a0),.i v10,.i v11])]⟩) (fun x e σ' => match x with | (v30,v31,v32) => e = .exit 0 ∧ σ' = ⟨[(4,.ptr 4 0),(6,.ptr 6 0)],[(4,.box [.i 0,.sl 1100 0]),(6,.box [.i (IntKind.i64.wrap ((1 : Int) + v1)),.sl 16 0]),(16,.arr 3 0 0 (.ints v30)),(1100,.arr 3 0 0 (.ints [])),(2020,.box [.lst u0 (.bytes a0),.i v31,.i v32])]⟩) hk23 rfl rfl ?_ ?_
 ·intro s x hs
  clear h
  have h := hs
  clear hs
  obtain ⟨v8,v9,v10,v11⟩ := s
  refine Tri.f 1 [] [.keep [0,4,5,6,7,8,24] [4,6,16,1100,2020]] rfl trivial ?_
  rcases bif_some h with ⟨hd5,h⟩ | ⟨hd5,h⟩
  ·refine Tri.f 3 [.g true] [.keep [0,4,5,6,7,8,27,43] [4,6,16,1100,2020]] rfl ⟨hd5,trivial⟩ ?_
   rcases bif_some h with ⟨hd6,h⟩ | ⟨hd6,h⟩
   ·obtain ⟨v12,hk7,h⟩ := bind_some h
    obtain ⟨v13,hk8,h⟩ := bind_some h
    obtain ⟨⟨v14,v15,v16⟩,hk9,h⟩ := bind_some h
    obtain ⟨hg10,h⟩ := grd_some h
    refine Tri.f 3 [.g true,.v (.i v12),.v (.i v13),.r ⟨[2020],.i v14,[(2020,.box [.undf,.i v15,.i v16])]⟩] [.keep [0,4,5,6,7,8] [4,6,16,1100,2020]] rfl ⟨hg10,(fun vf => ((W4 (vf 2020 0) a0 v10 v11 (2 : Int) (v14,v15,v16) hk9).swap 2040 2020)),fun _ => W9 v8 v13 hk8,fun _ => W9 v8 v12 hk7,hd6,trivial⟩ ?_
    cases h
    exact Tri.nil ⟨rfl,rfl⟩
   ·refine Tri.f 2 [.g false] [.keep [0,4,5,6,7,8,27,57] [4,6,16,1100,2020]] rfl ⟨hd6,trivial⟩ ?_
    rcases bif_some h with ⟨hd11,h⟩ | ⟨hd11,h⟩
    ·obtain ⟨⟨v17,v18,v19⟩,hk12,h⟩ := bind_some h
     obtain ⟨hg13,h⟩ := grd_some h
     refine Tri.f 3 [.g true,.r ⟨[2020],.i v17,[(2020,.box [.undf,.i v18,.i v19])]⟩] [.keep [0,4,5,6,7,8] [4,6,16,1100,2020]] rfl ⟨hg13,(fun vf => ((W10 (vf 2020 0) a0 v10 v11 [(0 : Int),(1 : Int),(2 : Int),(3 : Int),(5 : Int),(8 : Int),(-2 : Int),(4 : Int)] (v17,v18,v19) hk12).swap 2080 2020)),hd11,trivial⟩ ?_
     cases h
     exact Tri.nil ⟨rfl,rfl⟩
    ·refine Tri.f 2 [.g false] [.keep [0,4,5,6,7,8,66] [4,6,16,1100,2020]] rfl ⟨hd11,trivial⟩ ?_
     rcases bif_some h with ⟨hd14,h⟩ | ⟨hd14,h⟩
     ·obtain ⟨v20,hk15,h⟩ := bind_some h
      obtain ⟨⟨v21,v22,v23⟩,hk16,h⟩ := bind_some h
      obtain ⟨v24,hk17,h⟩ := bind_some h
      obtain ⟨hg18,h⟩ := grd_some h
      refine Tri.f 3 [.g true,.v (.i v20),.r ⟨[2020],.i v21,[(2020,.box [.undf,.i v22,.i v23])]⟩,.v (.i v24)] [.keep [0,4,5,6,7,8] [4,6,16,1100,2020]] rfl ⟨hg18,fun _ => W11 (0 : Int) (IntKind.i64.wrap ((IntKind.i64.wrap ((IntKind.i64.wrap ((3 : Int) * v20)) - 2)) - v21)) v24 hk17,(fun vf => ((W4 (vf 2020 0) a0 v10 v11 (2 : Int) (v21,v22,v23) hk16).swap 2040 2020)),fun _ => W9 v8 v20 hk15,hd14,trivial⟩ ?_
      cases h
      exact Tri.nil ⟨rfl,rfl⟩
     ·obtain ⟨v25,hk19,h⟩ := bind_some h
      obtain ⟨v26,hk20,h⟩ := bind_some h
      obtain ⟨⟨v27,v28,v29⟩,hk21,h⟩ := bind_some h
      obtain ⟨hg22,h⟩ := grd_some h
      refine Tri.f 3 [.g false,.v (.i v25),.v (.i v26),.r ⟨[2020],.i v27,[(2020,.box [.undf,.i v28,.i v29])]⟩] [.keep [0,4,5,6,7,8] [4,6,16,1100,2020]] rfl ⟨hg22,(fun vf => ((W4 (vf 2020 0) a0 v10 v11 (2 : Int) (v27,v28,v29) hk21).swap 2040 2020)),fun _ => W12 (decide ((IntKind.i64.wrap (v25 * 2)) > (IntKind.i64.wrap ((1 : Int) + v1)))) v26 hk20,fun _ => W9 v8 v25 hk19,hd14,trivial⟩ ?_
      cases h
      exact Tri.nil ⟨rfl,rfl⟩
  ·refine Tri.f 1 [.g false] [.keep [4,6] [4,6,16,1100,2020]] rfl ⟨hd5,trivial⟩ ?_
   cases h
   exact Tri.out 0 rfl ⟨nofun,rfl,rfl⟩
 ·intro e σ' hne hq
  obtain ⟨v30,v31,v32⟩ := x1
  obtain ⟨rfl,rfl⟩ := hq
  refine TriX.exit (K' := [.code [] 5]) rfl ?_
  refine Tri.f 1 [] [.swap 16 1000,.keep [4] [4,1000,2020]] rfl trivial ?_
  cases h
  exact Tri.ret rfl ⟨.inl rfl,rfl,rfl⟩
noncomputable def E185 : Env := ⟨Try.prog,tys,(Try.f81.body).getD .skip,9,tysOk,mixedOk⟩
abbrev K100 (u0 : Value) (a0 : List UInt8) (r : Bool × Int × Int) (σ' : ASt) : Prop := isRes E185.T Try.f81 (.bool r.1) [(2100,.box [.lst u0 (.bytes a0),.i r.2.1,.i r.2.2])] σ'
noncomputable def m_spec_l1Once_io1 (a0 : List UInt8) (a1 a2 a3 : Int) : Option (Bool × Int × Int) :=
(m_spec_l1Below_io1 a0 a1 a2 a3).bind fun (v1,v2,v3) =>
some (v1 == 0,v2,v3)
theorem W14 (u0 : Value) (a0 : List UInt8) (a1 a2 a3 : Int) (r : Bool × Int × Int) (h : m_spec_l1Once_io1 a0 a1 a2 a3 = some r) : AM.Spec Try.prog 81 [.ptr 2100 0,.i a3] [(2100,.box [.lst u0 (.bytes a0),.i a1,.i a2])] (.bool r.1) [(2100,.box [.lst u0 (.bytes a0),.i r.2.1,.i r.2.2])] := by
 refine spec_of (E := E185) Try.func81 rfl rfl rfl rfl ?_
 refine Tri.f 1 [] [.keep [0,1] [2100]] rfl trivial ?_
 obtain ⟨⟨v1,v2,v3⟩,hk1,h⟩ := bind_some h
 refine Tri.f 1 [.r ⟨[2100],.i v1,[(2100,.box [.undf,.i v2,.i v3])]⟩] [.keep [4] [2100]] rfl ⟨(fun vf => ((W4 (vf 2100 0) a0 a1 a2 a3 (v1,v2,v3) hk1).swap 2040 2100)),trivial⟩ ?_
 cases h
 exact Tri.ret rfl ⟨.inl rfl,rfl,rfl⟩
noncomputable def E186 : Env := ⟨Try.prog,tys,(Try.f82.body).getD .skip,39,tysOk,mixedOk⟩
abbrev K101 (u0 : Value) (a0 : List UInt8) (r : Int × (List Int) × Int × Int) (σ' : ASt) : Prop := isRes E186.T Try.f82 (.agg [.i r.1,.sl 1000 0]) [(1000,.arr 3 0 0 (.ints r.2.1)),(2120,.box [.lst u0 (.bytes a0),.i r.2.2.1,.i r.2.2.2])] σ'
noncomputable def m_spec_l8Bent_io1 (a0 : List UInt8) (a1 a2 : Int) : Option (Int × (List Int) × Int × Int) :=
(m_spec_l8Draw_io1 a0 a1 a2 (4 : Int)).bind fun (v1,v2,v3,v4) =>
(m_spec_l1Below_io1 a0 v3 v4 (12 : Int)).bind fun (v5,v6,v7) =>
bif v5 == 0 then
(grd ((0 : Int) ≤ (0 : Int) ∧ (0 : Int) < (v2.length : Int)) <|
some (v1,v2.set ((0 : Int).toNat) (1 : Int),v6,v7))
else
(bif v5 == 1 then
((m_spec_l1PickInt_io1 a0 v6 v7 [(0 : Int),(6 : Int),(2 : Int),(-1 : Int)]).bind fun (v8,v9,v10) =>
some (v8,v2,v9,v10))
else
(bif v5 == 2 then
(grd (v2.length + ([(1 : Int)] : List Int).length ≤ room) <|
some (v1,v2 ++ [(1 : Int)],v6,v7))
else
(bif v5 == 3 then
((m_spec_l1PickInt_io1 a0 v6 v7 [(500 : Int),(501 : Int),(-501 : Int)]).bind fun (v11,v12,v13) =>
grd (0 ≤ IntKind.i64.wrap ((v2.length : Int) - 1) ∧ IntKind.i64.wrap ((v2.length : Int) - 1) < (v2.length : Int)) <|
some (v1,v2.set ((IntKind.i64.wrap ((v2.length : Int) - 1)).toNat) v11,v12,v13))
else
(some (v1,v2,v6,v7)))))
theorem W15 (u0 : Value) (a0 : List UInt8) (a1 a2 : Int) (r : Int × (List Int) × Int × Int) (h : m_spec_l8Bent_io1 a0 a1 a2 = some r) : AM.Spec Try.prog 82 [.ptr 2120 0] [(2120,.box [.lst u0 (.bytes a0),.i a1,.i a2])] (.agg [.i r.1,.sl 1000 0]) [(1000,.arr 3 0 0 (.ints r.2.1)),(2120,.box [.lst u0 (.bytes a0),.i r.2.2.1,.i r.2.2.2])] := by
 refine spec_of (E := E186) Try.func82 rfl rfl rfl rfl ?_
 refine Tri.f 1 [] [.keep [0,2] [2,2120],.ownc 2 1 1100 3,.keep [0,2] [2,1100,2120]] rfl trivial ?_
 obtain ⟨⟨v1,v2,v3,v4⟩,hk1,h⟩ := bind_some h
 obtain ⟨⟨v5,v6,v7⟩,hk2,h⟩ := bind_some h
 refine Tri.f 3 [.r ⟨[2120],.agg [.i v1,.sl 1101 0],[(1101,.arr 3 0 0 (.ints v2)),(2120,.box [.undf,.i v3,.i v4])]⟩,.r ⟨[2120],.i v5,[(2120,.box [.undf,.i v6,.i v7])]⟩] [.keep [0,2,3,7,8] [2,3,1100,1101,2120]] rfl ⟨(fun vf => ((W4 (vf 2120 0) a0 v3 v4 (12 : Int) (v5,v6,v7) hk2).swap 2040 2120)),(fun vf => (((W13 (vf 2120 0) a0 a1 a2 (4 : Int) (v1,v2,v3,v4) hk1).swap 1000 1101).swap 2020 2120)),trivial⟩ ?_
 rcases bif_some h with ⟨hd3,h⟩ | ⟨hd3,h⟩
 ·obtain ⟨hg4,h⟩ := grd_some h
  refine Tri.f 3 [.g true] [.swap 1101 1000,.keep [2] [2,1000,2120]] rfl ⟨hg4,hd3,trivial⟩ ?_
  cases h
  exact Tri.ret rfl ⟨.inl rfl,rfl,rfl⟩
 ·refine Tri.f 2 [.g false] [.keep [0,2,3,7,13] [2,3,1100,1101,2120]] rfl ⟨hd3,trivial⟩ ?_
  rcases bif_some h with ⟨hd5,h⟩ | ⟨hd5,h⟩
  ·obtain ⟨⟨v8,v9,v10⟩,hk6,h⟩ := bind_some h
   refine Tri.f 3 [.g true,.r ⟨[2120],.i v8,[(2120,.box [.undf,.i v9,.i v10])]⟩] [.swap 1101 1000,.keep [2] [2,1000,2120]] rfl ⟨(fun vf => ((W10 (vf 2120 0) a0 v6 v7 [(0 : Int),(6 : Int),(2 : Int),(-1 : Int)] (v8,v9,v10) hk6).swap 2080 2120)),hd5,trivial⟩ ?_
   cases h
   exact Tri.ret rfl ⟨.inl rfl,rfl,rfl⟩
  ·refine Tri.f 2 [.g false] [.keep [0,2,3,7,19] [2,3,1100,1101,2120]] rfl ⟨hd5,trivial⟩ ?_
   rcases bif_some h with ⟨hd7,h⟩ | ⟨hd7,h⟩
   ·obtain ⟨hg8,h⟩ := grd_some h
    refine Tri.f 3 [.g true] [.rever 1101,.swap 1101 1000,.keep [2] [2,1000,2120]] rfl ⟨hg8,hd7,trivial⟩ ?_
    cases h
    exact Tri.ret rfl ⟨.inl rfl,rfl,rfl⟩
   ·refine Tri.f 2 [.g false] [.keep [0,2,3,26] [2,3,1100,1101,2120]] rfl ⟨hd7,trivial⟩ ?_
    rcases bif_some h with ⟨hd9,h⟩ | ⟨hd9,h⟩
    ·obtain ⟨⟨v11,v12,v13⟩,hk10,h⟩ := bind_some h
     obtain ⟨hg11,h⟩ := grd_some h
     refine Tri.f 3 [.g true,.r ⟨[2120],.i v11,[(2120,.box [.undf,.i v12,.i v13])]⟩] [.swap 1101 1000,.keep [2] [2,1000,2120]] rfl ⟨hg11,(fun vf => ((W10 (vf 2120 0) a0 v6 v7 [(500 : Int),(501 : Int),(-501 : Int)] (v11,v12,v13) hk10).swap 2080 2120)),hd9,trivial⟩ ?_
     cases h
     exact Tri.ret rfl ⟨.inl rfl,rfl,rfl⟩
    ·refine Tri.f 2 [.g false] [.swap 1101 1000,.keep [2] [2,1000,2120]] rfl ⟨hd9,trivial⟩ ?_
     cases h
     exact Tri.ret rfl ⟨.inl rfl,rfl,rfl⟩
noncomputable def E187 : Env := ⟨Try.prog,tys,(Try.f57.body).getD .skip,37,tysOk,mixedOk⟩
abbrev K102 (r : Bool) (σ' : ASt) : Prop := isRes E187.T Try.f57 (.bool r) [] σ'
noncomputable def l_spec_IsValidGame_0 (a1 : List Int) (v1 : Int) : Option (Int ⊕ (Unit ⊕ Bool)) :=
bif decide (v1 < (a1.length : Int)) then
(grd (0 ≤ v1 ∧ v1 < (a1.length : Int)) <|
(m_spec_l1In (a1.getD v1.toNat 0) (-500 : Int) (500 : Int)).bind fun v2 =>
bif !v2 then
(some (.inr (.inr false)))
else
(some (.inl (IntKind.i64.wrap (v1 + 1)))))
else
(some (.inr (.inl ())))
noncomputable def m_spec_IsValidGame (a0 : Int) (a1 : List Int) : Option Bool :=
(iter (l_spec_IsValidGame_0 a1) (0 : Int)).bind fun
| (.inl _) => (
(m_spec_l1In a0 (1 : Int) (5 : Int)).bind fun v3 =>
bif v3 then
((m_spec_CountCoalitions a0).bind fun v4 =>
bif (a1.length : Int) == v4 then
(grd ((0 : Int) ≤ (0 : Int) ∧ (0 : Int) < (a1.length : Int)) <|
some ((a1.getD ((0 : Int).toNat) 0) == 0))
else
(some false))
else
(some false))
| (.inr r) => some r
theorem W16 (a0 : Int) (a1 : List Int) (r : Bool) (h : m_spec_IsValidGame a0 a1 = some r) : AM.Spec Try.prog 57 [.agg [.i a0,.list (.ints a1)]] [] (.bool r) [] := by
 refine spec_of (E := E187) Try.func57 rfl rfl rfl rfl ?_
 refine Tri.f 2 [] [.keep [1,3] [1]] rfl trivial ?_
 obtain ⟨x1,hk5,h⟩ := bind_some h
 refine Tri.loop (K1 := [.code [(1,0),(1,0),(0,0)] 0]) (K2 := [.blk 0,.code [] 2]) (fun v1 => ⟨[(1,.ptr 1 0),(3,.i v1)],[(1,.box [.i a0,.list (.ints a1)])]⟩) (fun x e σ' => match x with | (.inl _) => e = .exit 0 ∧ σ' = ⟨[(1,.ptr 1 0)],[(1,.box [.i a0,.list (.ints a1)])]⟩ | (.inr r) => e = .ret ∧ K102 r σ') hk5 rfl rfl ?_ ?_
 ·intro v1 x hs
  clear h
  have h := hs
  clear hs
  refine Tri.f 1 [] [.keep [1,3,8] [1]] rfl trivial ?_
  rcases bif_some h with ⟨hd1,h⟩ | ⟨hd1,h⟩
  ·obtain ⟨hg2,h⟩ := grd_some h
   obtain ⟨v2,hk3,h⟩ := bind_some h
   refine Tri.f 2 [.g true,.v (.bool v2)] [.keep [1,3,17] [1]] rfl ⟨fun _ => W5 (a1.getD v1.toNat 0) (-500 : Int) (500 : Int) v2 hk3,hg2,hd1,trivial⟩ ?_
   rcases bif_some h with ⟨hd4,h⟩ | ⟨hd4,h⟩
   ·refine Tri.f 2 [.g true] [.keep [2] []] rfl ⟨hd4,trivial⟩ ?_
    cases h
    exact Tri.ret rfl ⟨nofun,rfl,rfl,rfl⟩
   ·refine Tri.f 2 [.g false] [.keep [1,3] [1]] rfl ⟨hd4,trivial⟩ ?_
    cases h
    exact Tri.nil ⟨rfl,rfl⟩
  ·refine Tri.f 1 [.g false] [.keep [1] [1]] rfl ⟨hd1,trivial⟩ ?_
   cases h
   exact Tri.out 0 rfl ⟨nofun,rfl,rfl⟩
 ·intro e σ' hne hq
  rcases x1 with _ | r
  ·obtain ⟨rfl,rfl⟩ := hq
   refine TriX.exit (K' := [.code [] 2]) rfl ?_
   obtain ⟨v3,hk6,h⟩ := bind_some h
   rcases bif_some h with ⟨hd7,h⟩ | ⟨hd7,h⟩
   ·obtain ⟨v4,hk8,h⟩ := bind_some h
    rcases bif_some h with ⟨hd9,h⟩ | ⟨hd9,h⟩
    ·obtain ⟨hg10,h⟩ := grd_some h
     refine Tri.f 1 [.v (.bool v3),.g true,.v (.i v4),.g true] [.keep [2] []] rfl ⟨hg10,hd9,fun _ => W6 a0 v4 hk8,hd7,fun _ => W5 a0 (1 : Int) (5 : Int) v3 hk6,trivial⟩ ?_
     cases h
     exact Tri.ret rfl ⟨.inl rfl,rfl,rfl⟩
    ·refine Tri.f 1 [.v (.bool v3),.g true,.v (.i v4),.g false] [.keep [2] []] rfl ⟨hd9,fun _ => W6 a0 v4 hk8,hd7,fun _ => W5 a0 (1 : Int) (5 : Int) v3 hk6,trivial⟩ ?_
     cases h
     exact Tri.ret rfl ⟨.inl rfl,rfl,rfl⟩
   ·refine Tri.f 1 [.v (.bool v3),.g false,.g false] [.keep [2] []] rfl ⟨rfl,hd7,fun _ => W5 a0 (1 : Int) (5 : Int) v3 hk6,trivial⟩ ?_
    cases h
    exact Tri.ret rfl ⟨.inl rfl,rfl,rfl⟩
  ·obtain ⟨rfl,hq⟩ := hq
   cases h
   exact TriX.ret ⟨.inl rfl,hq⟩
noncomputable def E188 : Env := ⟨Try.prog,tys,(Try.f60.body).getD .skip,14,tysOk,mixedOk⟩
abbrev K103 (r : Int) (σ' : ASt) : Prop := isRes E188.T Try.f60 (.i r) [] σ'
noncomputable def m_spec_GrandValue (a0 : Int) (a1 : List Int) : Option Int :=
(m_spec_IsValidGame a0 a1).bind fun v1 =>
bif !v1 then
(some (0 : Int))
else
(grd (0 ≤ IntKind.i64.wrap ((a1.length : Int) - 1) ∧ IntKind.i64.wrap ((a1.length : Int) - 1) < (a1.length : Int)) <|
some (a1.getD ((IntKind.i64.wrap ((a1.length : Int) - 1)).toNat) 0))
theorem W17 (a0 : Int) (a1 : List Int) (r : Int) (h : m_spec_GrandValue a0 a1 = some r) : AM.Spec Try.prog 60 [.agg [.i a0,.list (.ints a1)]] [] (.i r) [] := by
 refine spec_of (E := E188) Try.func60 rfl rfl rfl rfl ?_
 refine Tri.f 1 [] [.keep [1] [1]] rfl trivial ?_
 obtain ⟨v1,hk1,h⟩ := bind_some h
 refine Tri.f 1 [.v (.bool v1)] [.keep [1,5] [1]] rfl ⟨fun _ => W16 a0 a1 v1 hk1,trivial⟩ ?_
 rcases bif_some h with ⟨hd2,h⟩ | ⟨hd2,h⟩
 ·refine Tri.f 2 [.g true] [.keep [2] []] rfl ⟨hd2,trivial⟩ ?_
  cases h
  exact Tri.ret rfl ⟨.inl rfl,rfl,rfl⟩
 ·obtain ⟨hg3,h⟩ := grd_some h
  refine Tri.f 2 [.g false] [.keep [2] []] rfl ⟨hg3,hd2,trivial⟩ ?_
  cases h
  exact Tri.ret rfl ⟨.inl rfl,rfl,rfl⟩
noncomputable def E189 : Env := ⟨Try.prog,tys,(Try.f59.body).getD .skip,5,tysOk,mixedOk⟩
abbrev K104 (r : Int × Int) (σ' : ASt) : Prop := isRes E189.T Try.f59 (.agg [.i r.1,.i r.2]) [] σ'
noncomputable def m_spec_l3Int (a0 : Int) : Option (Int × Int) :=
some (a0,(1 : Int))
theorem W18 (a0 : Int) (r : Int × Int) (h : m_spec_l3Int a0 = some r) : AM.Spec Try.prog 59 [.i a0] [] (.agg [.i r.1,.i r.2]) [] := by
 refine spec_of (E := E189) Try.func59 rfl rfl rfl rfl ?_
 refine Tri.f 2 [] [.keep [2] [2]] rfl trivial ?_
 cases h
 exact Tri.ret rfl ⟨.inl rfl,rfl,rfl⟩
noncomputable def E190 : Env := ⟨Try.prog,tys,(Try.f64.body).getD .skip,40,tysOk,mixedOk⟩
abbrev K105 (u0 : Value) (a0 : List UInt8) (r : (List Q) × Int × Int) (σ' : ASt) : Prop := isRes E190.T Try.f64 (.sl 1000 0) [(1000,.arr 44 0 0 (.rats r.1)),(2140,.box [.lst u0 (.bytes a0),.i r.2.1,.i r.2.2])] σ'
noncomputable def l_spec_l11Payoff_io1_0 (a0 : List UInt8) (a3 : Int) : (Int × Int × (List Q) × Int × Int) → Option ((Int × Int × (List Q) × Int × Int) ⊕ (((List Q) × Int × Int)))
 | (v2,v3,v4,v5,v6) => (
bif decide (v3 < a3) then
(bif decide (v3 < 5) then
((m_spec_l1PickInt_io1 a0 v5 v6 [(0 : Int),(1 : Int),(2 : Int),(3 : Int),(-1 : Int),(5 : Int)]).bind fun (v7,v8,v9) =>
bif v3 == (IntKind.i64.wrap (a3 - 1)) then
((m_spec_l3Int v2).bind fun (v10,v11) =>
grd (v4.length + ([⟨v10,v11⟩] : List Q).length ≤ room) <|
some (.inl (IntKind.i64.wrap (v2 - v2),IntKind.i64.wrap (v3 + 1),v4 ++ [⟨v10,v11⟩],v8,v9)))
else
((m_spec_l3Int v7).bind fun (v12,v13) =>
grd (v4.length + ([⟨v12,v13⟩] : List Q).length ≤ room) <|
some (.inl (IntKind.i64.wrap (v2 - v7),IntKind.i64.wrap (v3 + 1),v4 ++ [⟨v12,v13⟩],v8,v9))))
else
(some (.inr (v4,v5,v6))))
else
(some (.inr (v4,v5,v6))))
noncomputable def m_spec_l11Payoff_io1 (a0 : List UInt8) (a1 a2 a3 : Int) (a4 : List Int) : Option ((List Q) × Int × Int) :=
(m_spec_GrandValue a3 a4).bind fun v1 =>
(iter (l_spec_l11Payoff_io1_0 a0 a3) (v1,(0 : Int),[],a1,a2)).bind fun
| (v14,v15,v16) => (
some (v14,v15,v16))
theorem W19 (u0 : Value) (a0 : List UInt8) (a1 a2 a3 : Int) (a4 : List Int) (r : (List Q) × Int × Int) (h : m_spec_l11Payoff_io1 a0 a1 a2 a3 a4 = some r) : AM.Spec Try.prog 64 [.ptr 2140 0,.agg [.i a3,.list (.ints a4)]] [(2140,.box [.lst u0 (.bytes a0),.i a1,.i a2])] (.sl 1000 0) [(1000,.arr 44 0 0 (.rats r.1)),(2140,.box [.lst u0 (.bytes a0),.i r.2.1,.i r.2.2])] := by
 refine spec_of (E := E190) Try.func64 rfl rfl rfl rfl ?_
 refine Tri.f 2 [] [.keep [0,3,5] [3,9,2140]] rfl trivial ?_
 obtain ⟨v1,hk1,h⟩ := bind_some h
 refine Tri.f 2 [.v (.i v1)] [.keep [0,3,5,6,7] [3,9,2140]] rfl ⟨fun _ => W17 a3 a4 v1 hk1,trivial⟩ ?_
 obtain ⟨x1,hk10,h⟩ := bind_some h
 refine Tri.loop (K1 := [.code [(3,0),(1,0),(0,0)] 0]) (K2 := [.blk 0,.code [] 4]) (fun (v2,v3,v4,v5,v6) => ⟨[(0,.ptr 2140 0),(3,.ptr 3 0),(5,.sl 9 0),(6,.i v2),(7,.i v3)],[(3,.box [.i a3,.list (.ints a4)]),(9,.arr 44 0 0 (.rats v4)),(2140,.box [.lst u0 (.bytes a0),.i v5,.i v6])]⟩) (fun x e σ' => match x with | (v14,v15,v16) => e = .exit 0 ∧ σ' = ⟨[(5,.sl 9 0)],[(9,.arr 44 0 0 (.rats v14)),(2140,.box [.lst u0 (.bytes a0),.i v15,.i v16])]⟩) hk10 rfl rfl ?_ ?_
 ·intro s x hs
  clear h
  have h := hs
  clear hs
  obtain ⟨v2,v3,v4,v5,v6⟩ := s
  rcases bif_some h with ⟨hd2,h⟩ | ⟨hd2,h⟩
  ·refine Tri.f 1 [.g true] [.keep [0,3,5,6,7,19] [3,9,2140]] rfl ⟨hd2,trivial⟩ ?_
   rcases bif_some h with ⟨hd3,h⟩ | ⟨hd3,h⟩
   ·obtain ⟨⟨v7,v8,v9⟩,hk4,h⟩ := bind_some h
    refine Tri.f 3 [.g true,.r ⟨[2140],.i v7,[(2140,.box [.undf,.i v8,.i v9])]⟩] [.keep [0,3,5,6,7,8,29] [3,9,2140]] rfl ⟨(fun vf => ((W10 (vf 2140 0) a0 v5 v6 [(0 : Int),(1 : Int),(2 : Int),(3 : Int),(-1 : Int),(5 : Int)] (v7,v8,v9) hk4).swap 2080 2140)),hd3,trivial⟩ ?_
    rcases bif_some h with ⟨hd5,h⟩ | ⟨hd5,h⟩
    ·refine Tri.f 3 [.g true] [.keep [0,3,5,6,7,8] [3,9,2140]] rfl ⟨hd5,trivial⟩ ?_
     obtain ⟨⟨v10,v11⟩,hk6,h⟩ := bind_some h
     obtain ⟨hg7,h⟩ := grd_some h
     refine Tri.f 2 [.v (.agg [.i v10,.i v11])] [.rever 9,.keep [0,3,5,6,7] [3,9,2140]] rfl ⟨hg7,fun _ => W18 v2 (v10,v11) hk6,trivial⟩ ?_
     cases h
     exact Tri.nil ⟨rfl,rfl⟩
    ·refine Tri.f 2 [.g false] [.keep [0,3,5,6,7,8] [3,9,2140]] rfl ⟨hd5,trivial⟩ ?_
     obtain ⟨⟨v12,v13⟩,hk8,h⟩ := bind_some h
     obtain ⟨hg9,h⟩ := grd_some h
     refine Tri.f 2 [.v (.agg [.i v12,.i v13])] [.rever 9,.keep [0,3,5,6,7] [3,9,2140]] rfl ⟨hg9,fun _ => W18 v7 (v12,v13) hk8,trivial⟩ ?_
     cases h
     exact Tri.nil ⟨rfl,rfl⟩
   ·refine Tri.f 1 [.g false] [.keep [5] [9,2140]] rfl ⟨hd3,trivial⟩ ?_
    cases h
    exact Tri.out 0 rfl ⟨nofun,rfl,rfl⟩
  ·refine Tri.f 1 [.g false] [.keep [0,3,5,6,7,19] [3,9,2140]] rfl ⟨hd2,trivial⟩ ?_
   refine Tri.f 1 [.g false] [.keep [5] [9,2140]] rfl ⟨rfl,trivial⟩ ?_
   cases h
   exact Tri.out 0 rfl ⟨nofun,rfl,rfl⟩
 ·intro e σ' hne hq
  obtain ⟨v14,v15,v16⟩ := x1
  obtain ⟨rfl,rfl⟩ := hq
  refine TriX.exit (K' := [.code [] 4]) rfl ?_
  refine Tri.f 1 [] [.swap 9 1000,.keep [4] [1000,2140]] rfl trivial ?_
  cases h
  exact Tri.ret rfl ⟨.inl rfl,rfl,rfl⟩
noncomputable def E191 : Env := ⟨Try.prog,tys,(Try.f98.body).getD .skip,22,tysOk,mixedOk⟩
abbrev K106 (r : Int) (σ' : ASt) : Prop := isRes E191.T Try.f98 (.i r) [] σ'
noncomputable def l_spec_l3Gcd_0 : (Int × Int) → Option ((Int × Int) ⊕ Int)
 | (v1,v2) => (
bif decide (v2 > 0) then
(grd (v2 ≠ 0) <|
some (.inl (v2,v1.tmod v2)))
else
(some (.inr v1)))
noncomputable def l_spec_l3Gcd_1 : (Int × Int) → Option ((Int × Int) ⊕ Int)
 | (v4,v5) => (
bif decide (v5 > 0) then
(grd (v5 ≠ 0) <|
some (.inl (v5,v4.tmod v5)))
else
(some (.inr v4)))
noncomputable def l_spec_l3Gcd_2 : (Int × Int) → Option ((Int × Int) ⊕ Int)
 | (v7,v8) => (
bif decide (v8 > 0) then
(grd (v8 ≠ 0) <|
some (.inl (v8,v7.tmod v8)))
else
(some (.inr v7)))
noncomputable def l_spec_l3Gcd_3 : (Int × Int) → Option ((Int × Int) ⊕ Int)
 | (v10,v11) => (
bif decide (v11 > 0) then
(grd (v11 ≠ 0) <|
some (.inl (v11,v10.tmod v11)))
else
(some (.inr v10)))
noncomputable def m_spec_l3Gcd (a0 a1 : Int) : Option Int :=
bif decide (a0 < 0) then
(bif decide (a1 < 0) then
((iter (l_spec_l3Gcd_0) (IntKind.i64.wrap (0 - a0),IntKind.i64.wrap (0 - a1))).bind fun
| v3 => (
some v3))
else
((iter (l_spec_l3Gcd_1) (IntKind.i64.wrap (0 - a0),a1)).bind fun
| v6 => (
some v6)))
else
(bif decide (a1 < 0) then
((iter (l_spec_l3Gcd_2) (a0,IntKind.i64.wrap (0 - a1))).bind fun
| v9 => (
some v9))
else
((iter (l_spec_l3Gcd_3) (a0,a1)).bind fun
| v12 => (
some v12)))
theorem W20 (a0 a1 r : Int) (h : m_spec_l3Gcd a0 a1 = some r) : AM.Spec Try.prog 98 [.i a0,.i a1] [] (.i r) [] := by
 refine spec_of (E := E191) Try.func98 rfl rfl rfl rfl ?_
 refine Tri.f 2 [] [.keep [0,1,7] []] rfl trivial ?_
 rcases bif_some h with ⟨hd1,h⟩ | ⟨hd1,h⟩
 ·refine Tri.f 3 [.g true] [.keep [0,1,11] []] rfl ⟨hd1,trivial⟩ ?_
  rcases bif_some h with ⟨hd2,h⟩ | ⟨hd2,h⟩
  ·refine Tri.f 2 [.g true] [.keep [0,1] []] rfl ⟨hd2,trivial⟩ ?_
   obtain ⟨v3,hk5,h⟩ := bind_some h
   refine Tri.loop (K1 := [.code [(3,0),(0,0),(0,0)] 0]) (K2 := [.blk 0,.code [] 4]) (fun (v1,v2) => ⟨[(0,.i v1),(1,.i v2)],[]⟩) (fun x e σ' => match x with | v3 => e = .exit 0 ∧ σ' = ⟨[(0,.i v3)],[]⟩) hk5 rfl rfl ?_ ?_
   ·intro s x hs
    clear h
    have h := hs
    clear hs
    obtain ⟨v1,v2⟩ := s
    refine Tri.f 1 [] [.keep [0,1,15] []] rfl trivial ?_
    rcases bif_some h with ⟨hd3,h⟩ | ⟨hd3,h⟩
    ·obtain ⟨hg4,h⟩ := grd_some h
     refine Tri.f 3 [.g true] [.keep [0,5] []] rfl ⟨hg4,hd3,trivial⟩ ?_
     refine Tri.f 1 [] [.keep [0,1] []] rfl trivial ?_
     cases h
     exact Tri.nil ⟨rfl,rfl⟩
    ·refine Tri.f 1 [.g false] [.keep [0] []] rfl ⟨hd3,trivial⟩ ?_
     cases h
     exact Tri.out 0 rfl ⟨nofun,rfl,rfl⟩
   ·intro e σ' hne hq
    obtain ⟨rfl,rfl⟩ := hq
    refine TriX.exit (K' := [.code [] 4]) rfl ?_
    refine Tri.f 1 [] [.keep [4] []] rfl trivial ?_
    cases h
    exact Tri.ret rfl ⟨.inl rfl,rfl,rfl⟩
  ·refine Tri.f 1 [.g false] [.keep [0,1] []] rfl ⟨hd2,trivial⟩ ?_
   obtain ⟨v6,hk8,h⟩ := bind_some h
   refine Tri.loop (K1 := [.code [(3,0),(0,0),(0,0)] 0]) (K2 := [.blk 0,.code [] 4]) (fun (v4,v5) => ⟨[(0,.i v4),(1,.i v5)],[]⟩) (fun x e σ' => match x with | v6 => e = .exit 0 ∧ σ' = ⟨[(0,.i v6)],[]⟩) hk8 rfl rfl ?_ ?_
   ·intro s x hs
    clear h
    have h := hs
    clear hs
    obtain ⟨v4,v5⟩ := s
    refine Tri.f 1 [] [.keep [0,1,15] []] rfl trivial ?_
    rcases bif_some h with ⟨hd6,h⟩ | ⟨hd6,h⟩
    ·obtain ⟨hg7,h⟩ := grd_some h
     refine Tri.f 3 [.g true] [.keep [0,5] []] rfl ⟨hg7,hd6,trivial⟩ ?_
     refine Tri.f 1 [] [.keep [0,1] []] rfl trivial ?_
     cases h
     exact Tri.nil ⟨rfl,rfl⟩
    ·refine Tri.f 1 [.g false] [.keep [0] []] rfl ⟨hd6,trivial⟩ ?_
     cases h
     exact Tri.out 0 rfl ⟨nofun,rfl,rfl⟩
   ·intro e σ' hne hq
    obtain ⟨rfl,rfl⟩ := hq
    refine TriX.exit (K' := [.code [] 4]) rfl ?_
    refine Tri.f 1 [] [.keep [4] []] rfl trivial ?_
    cases h
    exact Tri.ret rfl ⟨.inl rfl,rfl,rfl⟩
 ·refine Tri.f 2 [.g false] [.keep [0,1,11] []] rfl ⟨hd1,trivial⟩ ?_
  rcases bif_some h with ⟨hd9,h⟩ | ⟨hd9,h⟩
  ·refine Tri.f 2 [.g true] [.keep [0,1] []] rfl ⟨hd9,trivial⟩ ?_
   obtain ⟨v9,hk12,h⟩ := bind_some h
   refine Tri.loop (K1 := [.code [(3,0),(0,0),(0,0)] 0]) (K2 := [.blk 0,.code [] 4]) (fun (v7,v8) => ⟨[(0,.i v7),(1,.i v8)],[]⟩) (fun x e σ' => match x with | v9 => e = .exit 0 ∧ σ' = ⟨[(0,.i v9)],[]⟩) hk12 rfl rfl ?_ ?_
   ·intro s x hs
    clear h
    have h := hs
    clear hs
    obtain ⟨v7,v8⟩ := s
    refine Tri.f 1 [] [.keep [0,1,15] []] rfl trivial ?_
    rcases bif_some h with ⟨hd10,h⟩ | ⟨hd10,h⟩
    ·obtain ⟨hg11,h⟩ := grd_some h
     refine Tri.f 3 [.g true] [.keep [0,5] []] rfl ⟨hg11,hd10,trivial⟩ ?_
     refine Tri.f 1 [] [.keep [0,1] []] rfl trivial ?_
     cases h
     exact Tri.nil ⟨rfl,rfl⟩
    ·refine Tri.f 1 [.g false] [.keep [0] []] rfl ⟨hd10,trivial⟩ ?_
     cases h
     exact Tri.out 0 rfl ⟨nofun,rfl,rfl⟩
   ·intro e σ' hne hq
    obtain ⟨rfl,rfl⟩ := hq
    refine TriX.exit (K' := [.code [] 4]) rfl ?_
    refine Tri.f 1 [] [.keep [4] []] rfl trivial ?_
    cases h
    exact Tri.ret rfl ⟨.inl rfl,rfl,rfl⟩
  ·refine Tri.f 1 [.g false] [.keep [0,1] []] rfl ⟨hd9,trivial⟩ ?_
   obtain ⟨v12,hk15,h⟩ := bind_some h
   refine Tri.loop (K1 := [.code [(3,0),(0,0),(0,0)] 0]) (K2 := [.blk 0,.code [] 4]) (fun (v10,v11) => ⟨[(0,.i v10),(1,.i v11)],[]⟩) (fun x e σ' => match x with | v12 => e = .exit 0 ∧ σ' = ⟨[(0,.i v12)],[]⟩) hk15 rfl rfl ?_ ?_
   ·intro s x hs
    clear h
    have h := hs
    clear hs
    obtain ⟨v10,v11⟩ := s
    refine Tri.f 1 [] [.keep [0,1,15] []] rfl trivial ?_
    rcases bif_some h with ⟨hd13,h⟩ | ⟨hd13,h⟩
    ·obtain ⟨hg14,h⟩ := grd_some h
     refine Tri.f 3 [.g true] [.keep [0,5] []] rfl ⟨hg14,hd13,trivial⟩ ?_
     refine Tri.f 1 [] [.keep [0,1] []] rfl trivial ?_
     cases h
     exact Tri.nil ⟨rfl,rfl⟩
    ·refine Tri.f 1 [.g false] [.keep [0] []] rfl ⟨hd13,trivial⟩ ?_
     cases h
     exact Tri.out 0 rfl ⟨nofun,rfl,rfl⟩
   ·intro e σ' hne hq
    obtain ⟨rfl,rfl⟩ := hq
    refine TriX.exit (K' := [.code [] 4]) rfl ?_
    refine Tri.f 1 [] [.keep [4] []] rfl trivial ?_
    cases h
    exact Tri.ret rfl ⟨.inl rfl,rfl,rfl⟩
noncomputable def E192 : Env := ⟨Try.prog,tys,(Try.f77.body).getD .skip,19,tysOk,mixedOk⟩
abbrev K107 (r : Bool) (σ' : ASt) : Prop := isRes E192.T Try.f77 (.bool r) [] σ'
noncomputable def m_spec_IsValidRat (a0 a1 : Int) : Option Bool :=
(m_spec_l1In a1 (1 : Int) (1000000000 : Int)).bind fun v1 =>
bif v1 then
((m_spec_l1In a0 (-1000000000 : Int) (1000000000 : Int)).bind fun v2 =>
bif v2 then
((m_spec_l3Gcd a0 a1).bind fun v3 =>
some (v3 == 1))
else
(some false))
else
(some false)
theorem W21 (a0 a1 : Int) (r : Bool) (h : m_spec_IsValidRat a0 a1 = some r) : AM.Spec Try.prog 77 [.agg [.i a0,.i a1]] [] (.bool r) [] := by
 refine spec_of (E := E192) Try.func77 rfl rfl rfl rfl ?_
 refine Tri.f 1 [] [.keep [1] [1]] rfl trivial ?_
 obtain ⟨v1,hk1,h⟩ := bind_some h
 rcases bif_some h with ⟨hd2,h⟩ | ⟨hd2,h⟩
 ·obtain ⟨v2,hk3,h⟩ := bind_some h
  rcases bif_some h with ⟨hd4,h⟩ | ⟨hd4,h⟩
  ·obtain ⟨v3,hk5,h⟩ := bind_some h
   refine Tri.f 1 [.v (.bool v1),.g true,.v (.bool v2),.g true,.v (.i v3)] [.keep [2] []] rfl ⟨fun _ => W20 a0 a1 v3 hk5,hd4,fun _ => W5 a0 (-1000000000 : Int) (1000000000 : Int) v2 hk3,hd2,fun _ => W5 a1 (1 : Int) (1000000000 : Int) v1 hk1,trivial⟩ ?_
   cases h
   exact Tri.ret rfl ⟨.inl rfl,rfl,rfl⟩
  ·refine Tri.f 1 [.v (.bool v1),.g true,.v (.bool v2),.g false] [.keep [2] []] rfl ⟨hd4,fun _ => W5 a0 (-1000000000 : Int) (1000000000 : Int) v2 hk3,hd2,fun _ => W5 a1 (1 : Int) (1000000000 : Int) v1 hk1,trivial⟩ ?_
   cases h
   exact Tri.ret rfl ⟨.inl rfl,rfl,rfl⟩
 ·refine Tri.f 1 [.v (.bool v1),.g false,.g false] [.keep [2] []] rfl ⟨rfl,hd2,fun _ => W5 a1 (1 : Int) (1000000000 : Int) v1 hk1,trivial⟩ ?_
  cases h
  exact Tri.ret rfl ⟨.inl rfl,rfl,rfl⟩
noncomputable def E193 : Env := ⟨Try.prog,tys,(Try.f97.body).getD .skip,42,tysOk,mixedOk⟩
abbrev K108 (r : Int × Int × Bool) (σ' : ASt) : Prop := isRes E193.T Try.f97 (.tuple [.agg [.i r.1,.i r.2.1],.bool r.2.2]) [] σ'
noncomputable def m_spec_RatOf (a0 a1 : Int) : Option (Int × Int × Bool) :=
bif a1 == 0 then
(some (0,0,false))
else
((m_spec_l1In a0 (-1000000000000000000 : Int) (1000000000000000000 : Int)).bind fun v1 =>
bif !v1 then
(some (0,0,false))
else
((m_spec_l1In a1 (-1000000000000000000 : Int) (1000000000000000000 : Int)).bind fun v2 =>
bif !v2 then
(some (0,0,false))
else
(bif decide (a1 < 0) then
((m_spec_l3Gcd (IntKind.i64.wrap (0 - a0)) (IntKind.i64.wrap (0 - a1))).bind fun v3 =>
grd (v3 ≠ 0) <|
grd (v3 ≠ 0) <|
(m_spec_IsValidRat (IntKind.i64.wrap ((IntKind.i64.wrap (0 - a0)).tdiv v3)) (IntKind.i64.wrap ((IntKind.i64.wrap (0 - a1)).tdiv v3))).bind fun v4 =>
bif !v4 then
(some (0,0,false))
else
(some (IntKind.i64.wrap ((IntKind.i64.wrap (0 - a0)).tdiv v3),IntKind.i64.wrap ((IntKind.i64.wrap (0 - a1)).tdiv v3),true)))
else
((m_spec_l3Gcd a0 a1).bind fun v5 =>
grd (v5 ≠ 0) <|
grd (v5 ≠ 0) <|
(m_spec_IsValidRat (IntKind.i64.wrap (a0.tdiv v5)) (IntKind.i64.wrap (a1.tdiv v5))).bind fun v6 =>
bif !v6 then
(some (0,0,false))
else
(some (IntKind.i64.wrap (a0.tdiv v5),IntKind.i64.wrap (a1.tdiv v5),true))))))
theorem W22 (a0 a1 : Int) (r : Int × Int × Bool) (h : m_spec_RatOf a0 a1 = some r) : AM.Spec Try.prog 97 [.i a0,.i a1] [] (.tuple [.agg [.i r.1,.i r.2.1],.bool r.2.2]) [] := by
 refine spec_of (E := E193) Try.func97 rfl rfl rfl rfl ?_
 refine Tri.f 1 [] [.keep [0,1,4] [4]] rfl trivial ?_
 rcases bif_some h with ⟨hd1,h⟩ | ⟨hd1,h⟩
 ·refine Tri.f 1 [.g true,.g true] [.keep [0,1,4,19] [4]] rfl ⟨rfl,hd1,trivial⟩ ?_
  refine Tri.f 2 [.g true] [.keep [4,5] [4]] rfl ⟨rfl,trivial⟩ ?_
  cases h
  exact Tri.ret rfl ⟨.inl rfl,rfl,rfl⟩
 ·obtain ⟨v1,hk2,h⟩ := bind_some h
  rcases bif_some h with ⟨hd3,h⟩ | ⟨hd3,h⟩
  ·refine Tri.f 1 [.g false,.v (.bool v1),.g true] [.keep [0,1,4,19] [4]] rfl ⟨hd3,fun _ => W5 a0 (-1000000000000000000 : Int) (1000000000000000000 : Int) v1 hk2,hd1,trivial⟩ ?_
   refine Tri.f 2 [.g true] [.keep [4,5] [4]] rfl ⟨rfl,trivial⟩ ?_
   cases h
   exact Tri.ret rfl ⟨.inl rfl,rfl,rfl⟩
  ·obtain ⟨v2,hk4,h⟩ := bind_some h
   refine Tri.f 1 [.g false,.v (.bool v1),.g false,.v (.bool v2)] [.keep [0,1,4,19] [4]] rfl ⟨fun _ => W5 a1 (-1000000000000000000 : Int) (1000000000000000000 : Int) v2 hk4,hd3,fun _ => W5 a0 (-1000000000000000000 : Int) (1000000000000000000 : Int) v1 hk2,hd1,trivial⟩ ?_
   rcases bif_some h with ⟨hd5,h⟩ | ⟨hd5,h⟩
   ·refine Tri.f 2 [.g true] [.keep [4,5] [4]] rfl ⟨hd5,trivial⟩ ?_
    cases h
    exact Tri.ret rfl ⟨.inl rfl,rfl,rfl⟩
   ·refine Tri.f 2 [.g false] [.keep [0,1,4,22] [4]] rfl ⟨hd5,trivial⟩ ?_
    rcases bif_some h with ⟨hd6,h⟩ | ⟨hd6,h⟩
    ·refine Tri.f 3 [.g true] [.keep [0,1,4] [4]] rfl ⟨hd6,trivial⟩ ?_
     obtain ⟨v3,hk7,h⟩ := bind_some h
     obtain ⟨hg8,h⟩ := grd_some h
     obtain ⟨hg9,h⟩ := grd_some h
     refine Tri.f 2 [.v (.i v3)] [.keep [4,7] [4,7]] rfl ⟨hg9,hg8,fun _ => W20 (IntKind.i64.wrap (0 - a0)) (IntKind.i64.wrap (0 - a1)) v3 hk7,trivial⟩ ?_
     obtain ⟨v4,hk10,h⟩ := bind_some h
     refine Tri.f 1 [.v (.bool v4)] [.keep [4,7,39] [4,7]] rfl ⟨fun _ => W21 (IntKind.i64.wrap ((IntKind.i64.wrap (0 - a0)).tdiv v3)) (IntKind.i64.wrap ((IntKind.i64.wrap (0 - a1)).tdiv v3)) v4 hk10,trivial⟩ ?_
     rcases bif_some h with ⟨hd11,h⟩ | ⟨hd11,h⟩
     ·refine Tri.f 2 [.g true] [.keep [4,5] [4]] rfl ⟨hd11,trivial⟩ ?_
      cases h
      exact Tri.ret rfl ⟨.inl rfl,rfl,rfl⟩
     ·refine Tri.f 2 [.g false] [.keep [4,5] [4]] rfl ⟨hd11,trivial⟩ ?_
      cases h
      exact Tri.ret rfl ⟨.inl rfl,rfl,rfl⟩
    ·obtain ⟨v5,hk12,h⟩ := bind_some h
     obtain ⟨hg13,h⟩ := grd_some h
     obtain ⟨hg14,h⟩ := grd_some h
     refine Tri.f 3 [.g false,.v (.i v5)] [.keep [4,7] [4,7]] rfl ⟨hg14,hg13,fun _ => W20 a0 a1 v5 hk12,hd6,trivial⟩ ?_
     obtain ⟨v6,hk15,h⟩ := bind_some h
     refine Tri.f 1 [.v (.bool v6)] [.keep [4,7,39] [4,7]] rfl ⟨fun _ => W21 (IntKind.i64.wrap (a0.tdiv v5)) (IntKind.i64.wrap (a1.tdiv v5)) v6 hk15,trivial⟩ ?_
     rcases bif_some h with ⟨hd16,h⟩ | ⟨hd16,h⟩
     ·refine Tri.f 2 [.g true] [.keep [4,5] [4]] rfl ⟨hd16,trivial⟩ ?_
      cases h
      exact Tri.ret rfl ⟨.inl rfl,rfl,rfl⟩
     ·refine Tri.f 2 [.g false] [.keep [4,5] [4]] rfl ⟨hd16,trivial⟩ ?_
      cases h
      exact Tri.ret rfl ⟨.inl rfl,rfl,rfl⟩
noncomputable def E194 : Env := ⟨Try.prog,tys,(Try.f83.body).getD .skip,25,tysOk,mixedOk⟩
abbrev K109 (u0 : Value) (a0 : List UInt8) (r : Int × Int × Int × Int) (σ' : ASt) : Prop := isRes E194.T Try.f83 (.agg [.i r.1,.i r.2.1]) [(2160,.box [.lst u0 (.bytes a0),.i r.2.2.1,.i r.2.2.2])] σ'
noncomputable def m_spec_l3Draw_io1 (a0 : List UInt8) (a1 a2 : Int) : Option (Int × Int × Int × Int) :=
(m_spec_l1PickInt_io1 a0 a1 a2 [(0 : Int),(1 : Int),(2 : Int),(-1 : Int),(3 : Int),(-7 : Int),(12 : Int),(999999999 : Int),(-1000000000 : Int)]).bind fun (v1,v2,v3) =>
(m_spec_l1PickInt_io1 a0 v2 v3 [(1 : Int),(1 : Int),(2 : Int),(3 : Int),(7 : Int),(1000000000 : Int),(999999937 : Int)]).bind fun (v4,v5,v6) =>
(m_spec_RatOf v1 v4).bind fun (v7,v8,_) =>
(m_spec_l1Once_io1 a0 v5 v6 (12 : Int)).bind fun (v10,v11,v12) =>
bif v10 then
((m_spec_l1PickInt_io1 a0 v11 v12 [(0 : Int),(2 : Int),(1000000001 : Int)]).bind fun (v13,v14,v15) =>
(m_spec_l1PickInt_io1 a0 v14 v15 [(0 : Int),(2 : Int),(-1 : Int),(1 : Int)]).bind fun (v16,v17,v18) =>
some (v13,v16,v17,v18))
else
(some (v7,v8,v11,v12))
theorem W23 (u0 : Value) (a0 : List UInt8) (a1 a2 : Int) (r : Int × Int × Int × Int) (h : m_spec_l3Draw_io1 a0 a1 a2 = some r) : AM.Spec Try.prog 83 [.ptr 2160 0] [(2160,.box [.lst u0 (.bytes a0),.i a1,.i a2])] (.agg [.i r.1,.i r.2.1]) [(2160,.box [.lst u0 (.bytes a0),.i r.2.2.1,.i r.2.2.2])] := by
 refine spec_of (E := E194) Try.func83 rfl rfl rfl rfl ?_
 refine Tri.f 1 [] [.keep [0,2] [2,2160]] rfl trivial ?_
 obtain ⟨⟨v1,v2,v3⟩,hk1,h⟩ := bind_some h
 obtain ⟨⟨v4,v5,v6⟩,hk2,h⟩ := bind_some h
 obtain ⟨⟨v7,v8,v9⟩,hk3,h⟩ := bind_some h
 obtain ⟨⟨v10,v11,v12⟩,hk4,h⟩ := bind_some h
 refine Tri.f 2 [.r ⟨[2160],.i v1,[(2160,.box [.undf,.i v2,.i v3])]⟩,.r ⟨[2160],.i v4,[(2160,.box [.undf,.i v5,.i v6])]⟩,.v (.tuple [.agg [.i v7,.i v8],.bool v9]),.r ⟨[2160],.bool v10,[(2160,.box [.undf,.i v11,.i v12])]⟩] [.keep [0,2,3,16] [2,3,2160]] rfl ⟨(fun vf => ((W14 (vf 2160 0) a0 v5 v6 (12 : Int) (v10,v11,v12) hk4).swap 2100 2160)),fun _ => W22 v1 v4 (v7,v8,v9) hk3,(fun vf => ((W10 (vf 2160 0) a0 v2 v3 [(1 : Int),(1 : Int),(2 : Int),(3 : Int),(7 : Int),(1000000000 : Int),(999999937 : Int)] (v4,v5,v6) hk2).swap 2080 2160)),(fun vf => ((W10 (vf 2160 0) a0 a1 a2 [(0 : Int),(1 : Int),(2 : Int),(-1 : Int),(3 : Int),(-7 : Int),(12 : Int),(999999999 : Int),(-1000000000 : Int)] (v1,v2,v3) hk1).swap 2080 2160)),trivial⟩ ?_
 rcases bif_some h with ⟨hd5,h⟩ | ⟨hd5,h⟩
 ·obtain ⟨⟨v13,v14,v15⟩,hk6,h⟩ := bind_some h
  obtain ⟨⟨v16,v17,v18⟩,hk7,h⟩ := bind_some h
  refine Tri.f 2 [.g true,.r ⟨[2160],.i v13,[(2160,.box [.undf,.i v14,.i v15])]⟩,.r ⟨[2160],.i v16,[(2160,.box [.undf,.i v17,.i v18])]⟩] [.keep [2] [2,2160]] rfl ⟨(fun vf => ((W10 (vf 2160 0) a0 v14 v15 [(0 : Int),(2 : Int),(-1 : Int),(1 : Int)] (v16,v17,v18) hk7).swap 2080 2160)),(fun vf => ((W10 (vf 2160 0) a0 v11 v12 [(0 : Int),(2 : Int),(1000000001 : Int)] (v13,v14,v15) hk6).swap 2080 2160)),hd5,trivial⟩ ?_
  cases h
  exact Tri.ret rfl ⟨.inl rfl,rfl,rfl⟩
 ·refine Tri.f 2 [.g false] [.keep [2] [2,2160]] rfl ⟨hd5,trivial⟩ ?_
  cases h
  exact Tri.ret rfl ⟨.inl rfl,rfl,rfl⟩
noncomputable def E195 : Env := ⟨Try.prog,tys,(Try.f112.body).getD .skip,14,tysOk,mixedOk⟩
abbrev K110 (r : Int) (σ' : ASt) : Prop := isRes E195.T Try.f112 (.i r) [] σ'
noncomputable def l_spec_l14Factorial_0 (a0 : Int) : (Int × Int) → Option ((Int × Int) ⊕ Int)
 | (v1,v2) => (
bif decide (v2 ≤ a0) then
(some (.inl (IntKind.i64.wrap (v1 * v2),IntKind.i64.wrap (v2 + 1))))
else
(some (.inr v1)))
noncomputable def m_spec_l14Factorial (a0 : Int) : Option Int :=
(iter (l_spec_l14Factorial_0 a0) ((1 : Int),(2 : Int))).bind fun
| v3 => (
some v3)
theorem W24 (a0 r : Int) (h : m_spec_l14Factorial a0 = some r) : AM.Spec Try.prog 112 [.i a0] [] (.i r) [] := by
 refine spec_of (E := E195) Try.func112 rfl rfl rfl rfl ?_
 refine Tri.f 3 [] [.keep [0,3,4] []] rfl trivial ?_
 obtain ⟨v3,hk2,h⟩ := bind_some h
 refine Tri.loop (K1 := [.code [(2,0),(1,0),(0,0)] 0]) (K2 := [.blk 0,.code [] 3]) (fun (v1,v2) => ⟨[(0,.i a0),(3,.i v1),(4,.i v2)],[]⟩) (fun x e σ' => match x with | v3 => e = .exit 0 ∧ σ' = ⟨[(3,.i v3)],[]⟩) hk2 rfl rfl ?_ ?_
 ·intro s x hs
  clear h
  have h := hs
  clear hs
  obtain ⟨v1,v2⟩ := s
  refine Tri.f 1 [] [.keep [0,3,4,7] []] rfl trivial ?_
  rcases bif_some h with ⟨hd1,h⟩ | ⟨hd1,h⟩
  ·refine Tri.f 3 [.g true] [.keep [0,3,4] []] rfl ⟨hd1,trivial⟩ ?_
   cases h
   exact Tri.nil ⟨rfl,rfl⟩
  ·refine Tri.f 1 [.g false] [.keep [3] []] rfl ⟨hd1,trivial⟩ ?_
   cases h
   exact Tri.out 0 rfl ⟨nofun,rfl,rfl⟩
 ·intro e σ' hne hq
  obtain ⟨rfl,rfl⟩ := hq
  refine TriX.exit (K' := [.code [] 3]) rfl ?_
  refine Tri.f 1 [] [.keep [2] []] rfl trivial ?_
  cases h
  exact Tri.ret rfl ⟨.inl rfl,rfl,rfl⟩
noncomputable def E196 : Env := ⟨Try.prog,tys,(Try.f84.body).getD .skip,73,tysOk,mixedOk⟩
abbrev K111 (r : Bool × (List Q)) (σ' : ASt) : Prop := isRes E196.T Try.f84 (.tuple [.sl 1000 0,.bool r.1]) [(1000,.arr 44 0 0 (.rats r.2))] σ'
noncomputable def l_spec_ShapleyValue_1 (a0 : Int) (a1 : List Int) (v2 : Int) : (Int × Int) → Option ((Int × Int) ⊕ Int)
 | (v4,v5) => (
bif decide (v5 < (a1.length : Int)) then
((m_spec_HasPlayer v5 v2).bind fun v6 =>
bif v6 then
(some (.inl (v4,IntKind.i64.wrap (v5 + 1))))
else
((m_spec_SizeOf v5).bind fun v7 =>
(m_spec_l14Factorial v7).bind fun v8 =>
(m_spec_l14Factorial (IntKind.i64.wrap ((IntKind.i64.wrap (a0 - v7)) - 1))).bind fun v9 =>
(m_spec_l2Bit v2).bind fun v10 =>
grd (0 ≤ IntKind.i64.wrap (v5 + v10) ∧ IntKind.i64.wrap (v5 + v10) < (a1.length : Int)) <|
grd (0 ≤ v5 ∧ v5 < (a1.length : Int)) <|
some (.inl (IntKind.i64.wrap (v4 + (IntKind.i64.wrap ((IntKind.i64.wrap (v8 * v9)) * (IntKind.i64.wrap ((a1.getD ((IntKind.i64.wrap (v5 + v10)).toNat) 0) - (a1.getD v5.toNat 0)))))),IntKind.i64.wrap (v5 + 1)))))
else
(some (.inr v4)))
noncomputable def l_spec_ShapleyValue_0 (a0 : Int) (a1 : List Int) : (Int × (List Q)) → Option ((Int × (List Q)) ⊕ ((List Q)))
 | (v2,v3) => (
bif decide (v2 < a0) then
((iter (l_spec_ShapleyValue_1 a0 a1 v2) ((0 : Int),(0 : Int))).bind fun
| v11 => (
(m_spec_l14Factorial a0).bind fun v12 =>
(m_spec_RatOf v11 v12).bind fun (v13,v14,_) =>
grd (v3.length + ([⟨v13,v14⟩] : List Q).length ≤ room) <|
some (.inl (IntKind.i64.wrap (v2 + 1),v3 ++ [⟨v13,v14⟩]))))
else
(some (.inr v3)))
noncomputable def m_spec_ShapleyValue (a0 : Int) (a1 : List Int) : Option (Bool × (List Q)) :=
(m_spec_IsValidGame a0 a1).bind fun v1 =>
bif !v1 then
(some (false,[]))
else
((iter (l_spec_ShapleyValue_0 a0 a1) ((0 : Int),[])).bind fun
| v16 => (
some (true,v16)))
theorem W25 (a0 : Int) (a1 : List Int) (r : Bool × (List Q)) (h : m_spec_ShapleyValue a0 a1 = some r) : AM.Spec Try.prog 84 [.agg [.i a0,.list (.ints a1)]] [] (.tuple [.sl 1000 0,.bool r.1]) [(1000,.arr 44 0 0 (.rats r.2))] := by
 refine spec_of (E := E196) Try.func84 rfl rfl rfl rfl ?_
 refine Tri.f 2 [] [.keep [1,4] [1,12]] rfl trivial ?_
 obtain ⟨v1,hk1,h⟩ := bind_some h
 refine Tri.f 1 [.v (.bool v1)] [.keep [1,4,15] [1,12]] rfl ⟨fun _ => W16 a0 a1 v1 hk1,trivial⟩ ?_
 rcases bif_some h with ⟨hd2,h⟩ | ⟨hd2,h⟩
 ·refine Tri.f 2 [.g true] [.swap 12 1000,.keep [2,3] [1000]] rfl ⟨hd2,trivial⟩ ?_
  cases h
  exact Tri.ret rfl ⟨.inl rfl,rfl,rfl⟩
 ·refine Tri.f 3 [.g false] [.keep [1,4,5,6] [1,12]] rfl ⟨hd2,trivial⟩ ?_
  obtain ⟨v16,hk17,h⟩ := bind_some h
  refine Tri.loop (K1 := [.code [(4,0),(1,0),(0,0)] 0]) (K2 := [.blk 0,.code [] 5]) (fun (v2,v3) => ⟨[(1,.ptr 1 0),(4,.sl 12 0),(5,.i a0),(6,.i v2)],[(1,.box [.i a0,.list (.ints a1)]),(12,.arr 44 0 0 (.rats v3))]⟩) (fun x e σ' => match x with | v16 => e = .exit 0 ∧ σ' = ⟨[(4,.sl 12 0)],[(12,.arr 44 0 0 (.rats v16))]⟩) hk17 rfl rfl ?_ ?_
  ·intro s x hs
   clear h
   have h := hs
   clear hs
   obtain ⟨v2,v3⟩ := s
   refine Tri.f 1 [] [.keep [1,4,5,6,21] [1,12]] rfl trivial ?_
   rcases bif_some h with ⟨hd3,h⟩ | ⟨hd3,h⟩
   ·refine Tri.f 3 [.g true] [.keep [1,4,5,6,7,8] [1,12]] rfl ⟨hd3,trivial⟩ ?_
    obtain ⟨v11,hk13,h⟩ := bind_some h
    refine Tri.loop (K1 := [.code [(4,0),(1,0),(0,0),(1,0),(0,0),(1,0),(1,0),(0,0)] 0]) (K2 := [.blk 2,.code [(4,0),(1,0),(0,0),(1,0),(0,0)] 2,.blk 1,.code [(4,0),(1,0),(0,0)] 2]) (fun (v4,v5) => ⟨[(1,.ptr 1 0),(4,.sl 12 0),(5,.i a0),(6,.i v2),(7,.i v4),(8,.i v5)],[(1,.box [.i a0,.list (.ints a1)]),(12,.arr 44 0 0 (.rats v3))]⟩) (fun x e σ' => match x with | v11 => e = .exit 2 ∧ σ' = ⟨[(1,.ptr 1 0),(4,.sl 12 0),(5,.i a0),(6,.i v2),(7,.i v11)],[(1,.box [.i a0,.list (.ints a1)]),(12,.arr 44 0 0 (.rats v3))]⟩) hk13 rfl rfl ?_ ?_
    ·intro s x hs
     clear h
     have h := hs
     clear hs
     obtain ⟨v4,v5⟩ := s
     refine Tri.f 1 [] [.keep [1,4,5,6,7,8,28] [1,12]] rfl trivial ?_
     rcases bif_some h with ⟨hd4,h⟩ | ⟨hd4,h⟩
     ·obtain ⟨v6,hk5,h⟩ := bind_some h
      refine Tri.f 2 [.g true,.v (.bool v6)] [.keep [1,4,5,6,7,8,33] [1,12]] rfl ⟨fun _ => W8 v5 v2 v6 hk5,hd4,trivial⟩ ?_
      rcases bif_some h with ⟨hd6,h⟩ | ⟨hd6,h⟩
      ·refine Tri.f 2 [.g true] [.keep [1,4,5,6,7,8] [1,12]] rfl ⟨hd6,trivial⟩ ?_
       cases h
       exact Tri.nil ⟨rfl,rfl⟩
      ·obtain ⟨v7,hk7,h⟩ := bind_some h
       refine Tri.f 2 [.g false,.v (.i v7)] [.keep [1,4,5,6,7,8,9] [1,12]] rfl ⟨fun _ => W9 v5 v7 hk7,hd6,trivial⟩ ?_
       obtain ⟨v8,hk8,h⟩ := bind_some h
       obtain ⟨v9,hk9,h⟩ := bind_some h
       obtain ⟨v10,hk10,h⟩ := bind_some h
       obtain ⟨hg11,h⟩ := grd_some h
       obtain ⟨hg12,h⟩ := grd_some h
       refine Tri.f 2 [.v (.i v8),.v (.i v9),.v (.i v10)] [.keep [1,4,5,6,7,8] [1,12]] rfl ⟨hg12,hg11,fun _ => W7 v2 v10 hk10,fun _ => W24 (IntKind.i64.wrap ((IntKind.i64.wrap (a0 - v7)) - 1)) v9 hk9,fun _ => W24 v7 v8 hk8,trivial⟩ ?_
       cases h
       exact Tri.nil ⟨rfl,rfl⟩
     ·refine Tri.f 1 [.g false] [.keep [1,4,5,6,7] [1,12]] rfl ⟨hd4,trivial⟩ ?_
      cases h
      exact Tri.out 2 rfl ⟨nofun,rfl,rfl⟩
    ·intro e σ' hne hq
     obtain ⟨rfl,rfl⟩ := hq
     refine TriX.exit (K' := [.code [(4,0),(1,0),(0,0),(1,0),(0,0)] 2,.blk 1,.code [(4,0),(1,0),(0,0)] 2]) rfl ?_
     obtain ⟨v12,hk14,h⟩ := bind_some h
     obtain ⟨⟨v13,v14,v15⟩,hk15,h⟩ := bind_some h
     obtain ⟨hg16,h⟩ := grd_some h
     refine Tri.f 3 [.v (.i v12),.v (.tuple [.agg [.i v13,.i v14],.bool v15])] [.rever 12,.keep [1,4,5,6] [1,12]] rfl ⟨hg16,fun _ => W22 v11 v12 (v13,v14,v15) hk15,fun _ => W24 a0 v12 hk14,trivial⟩ ?_
     cases h
     exact Tri.nil ⟨rfl,rfl⟩
   ·refine Tri.f 1 [.g false] [.keep [4] [12]] rfl ⟨hd3,trivial⟩ ?_
    cases h
    exact Tri.out 0 rfl ⟨nofun,rfl,rfl⟩
  ·intro e σ' hne hq
   obtain ⟨rfl,rfl⟩ := hq
   refine TriX.exit (K' := [.code [] 5]) rfl ?_
   refine Tri.f 1 [] [.swap 12 1000,.keep [2,3] [1000]] rfl trivial ?_
   cases h
   exact Tri.ret rfl ⟨.inl rfl,rfl,rfl⟩
noncomputable def E197 : Env := ⟨Try.prog,tys,(Try.f49.body).getD .skip,38,tysOk,mixedOk⟩
abbrev K112 (r : Int × (List Int) × (List Q)) (σ' : ASt) : Prop := isRes E197.T Try.f49 (.tuple [.agg [.i r.1,.sl 1000 0],.sl 1001 0]) [(1000,.arr 3 0 0 (.ints r.2.1)),(1001,.arr 44 0 0 (.rats r.2.2))] σ'
noncomputable def m_spec_l11Args (a0 : List UInt8) : Option (Int × (List Int) × (List Q)) :=
(m_spec_l1New_io2 0 [] a0).bind fun (v1,v2,v3,_,_) =>
(m_spec_l8Draw_io1 v1 v2 v3 (4 : Int)).bind fun (v6,v7,v8,v9) =>
(m_spec_l1Once_io1 v1 v8 v9 (16 : Int)).bind fun (v10,v11,v12) =>
bif v10 then
((m_spec_l8Bent_io1 v1 v11 v12).bind fun (v13,v14,v15,v16) =>
(m_spec_l11Payoff_io1 v1 v15 v16 v13 v14).bind fun (v17,v18,v19) =>
bif decide ((v17.length : Int) > 0) then
((m_spec_l1Once_io1 v1 v18 v19 (10 : Int)).bind fun (v20,v21,v22) =>
bif v20 then
((m_spec_l3Draw_io1 v1 v21 v22).bind fun (v23,v24,v25,v26) =>
grd ((0 : Int) ≤ (0 : Int) ∧ (0 : Int) < (v17.length : Int)) <|
(m_spec_l1Once_io1 v1 v25 v26 (3 : Int)).bind fun (v27,_,_) =>
bif v27 then
((m_spec_ShapleyValue v13 v14).bind fun (_,v31) =>
some (v13,v14,v31))
else
(some (v13,v14,v17.set ((0 : Int).toNat) ⟨v23,v24⟩)))
else
((m_spec_l1Once_io1 v1 v21 v22 (3 : Int)).bind fun (v32,_,_) =>
bif v32 then
((m_spec_ShapleyValue v13 v14).bind fun (_,v36) =>
some (v13,v14,v36))
else
(some (v13,v14,v17))))
else
((m_spec_l1Once_io1 v1 v18 v19 (3 : Int)).bind fun (v37,_,_) =>
bif v37 then
((m_spec_ShapleyValue v13 v14).bind fun (_,v41) =>
some (v13,v14,v41))
else
(some (v13,v14,v17))))
else
((m_spec_l11Payoff_io1 v1 v11 v12 v6 v7).bind fun (v42,v43,v44) =>
bif decide ((v42.length : Int) > 0) then
((m_spec_l1Once_io1 v1 v43 v44 (10 : Int)).bind fun (v45,v46,v47) =>
bif v45 then
((m_spec_l3Draw_io1 v1 v46 v47).bind fun (v48,v49,v50,v51) =>
grd ((0 : Int) ≤ (0 : Int) ∧ (0 : Int) < (v42.length : Int)) <|
(m_spec_l1Once_io1 v1 v50 v51 (3 : Int)).bind fun (v52,_,_) =>
bif v52 then
((m_spec_ShapleyValue v6 v7).bind fun (_,v56) =>
some (v6,v7,v56))
else
(some (v6,v7,v42.set ((0 : Int).toNat) ⟨v48,v49⟩)))
else
((m_spec_l1Once_io1 v1 v46 v47 (3 : Int)).bind fun (v57,_,_) =>
bif v57 then
((m_spec_ShapleyValue v6 v7).bind fun (_,v61) =>
some (v6,v7,v61))
else
(some (v6,v7,v42))))
else
((m_spec_l1Once_io1 v1 v43 v44 (3 : Int)).bind fun (v62,_,_) =>
bif v62 then
((m_spec_ShapleyValue v6 v7).bind fun (_,v66) =>
some (v6,v7,v66))
else
(some (v6,v7,v42))))
theorem W26 (a0 : List UInt8) (r : Int × (List Int) × (List Q)) (h : m_spec_l11Args a0 = some r) : AM.Spec Try.prog 49 [.list (.bytes a0)] [] (.tuple [.agg [.i r.1,.sl 1000 0],.sl 1001 0]) [(1000,.arr 3 0 0 (.ints r.2.1)),(1001,.arr 44 0 0 (.rats r.2.2))] := by
 refine spec_of (E := E197) Try.func49 rfl rfl rfl rfl ?_
 refine Tri.f 1 [] [.keep [0,2] [2],.ownc 2 1 1100 3,.keep [0,2] [2,1100]] rfl trivial ?_
 obtain ⟨⟨v1,v2,v3,v4,v5⟩,hk1,h⟩ := bind_some h
 obtain ⟨⟨v6,v7,v8,v9⟩,hk2,h⟩ := bind_some h
 refine Tri.f 2 [.r ⟨[2,1100],.ptr 1101 0,[(1101,.box [.list (.bytes v1),.i v2,.i v3]),(1102,.arr 3 0 0 (.ints v4)),(2,.box [.i v5,.sl 1102 0])]⟩,.r ⟨[1101],.agg [.i v6,.sl 1103 0],[(1103,.arr 3 0 0 (.ints v7)),(1101,.box [.undf,.i v8,.i v9])]⟩] [.keep [2,4,5] [2,5,1101,1102,1103]] rfl ⟨(fun vf => (((W13 (vf 1101 0) v1 v2 v3 (4 : Int) (v6,v7,v8,v9) hk2).swap 1000 1103).swap 2020 1101)),fun _ => ((((W2 0 [] a0 (v1,v2,v3,v4,v5) hk1).swap 1000 1101).swap 1001 1102).swap 2000 2).swap 2001 1100,trivial⟩ ?_
 obtain ⟨⟨v10,v11,v12⟩,hk3,h⟩ := bind_some h
 refine Tri.f 1 [.r ⟨[1101],.bool v10,[(1101,.box [.undf,.i v11,.i v12])]⟩] [.keep [2,4,5,12] [2,5,1101,1102,1103]] rfl ⟨(fun vf => ((W14 (vf 1101 0) v1 v8 v9 (16 : Int) (v10,v11,v12) hk3).swap 2100 1101)),trivial⟩ ?_
 rcases bif_some h with ⟨hd4,h⟩ | ⟨hd4,h⟩
 ·obtain ⟨⟨v13,v14,v15,v16⟩,hk5,h⟩ := bind_some h
  refine Tri.f 2 [.g true,.r ⟨[1101],.agg [.i v13,.sl 1104 0],[(1104,.arr 3 0 0 (.ints v14)),(1101,.box [.undf,.i v15,.i v16])]⟩] [.keep [2,4,5] [2,5,1101,1102,1104]] rfl ⟨(fun vf => (((W15 (vf 1101 0) v1 v11 v12 (v13,v14,v15,v16) hk5).swap 1000 1104).swap 2120 1101)),hd4,trivial⟩ ?_
  obtain ⟨⟨v17,v18,v19⟩,hk6,h⟩ := bind_some h
  rcases bif_some h with ⟨hd7,h⟩ | ⟨hd7,h⟩
  ·obtain ⟨⟨v20,v21,v22⟩,hk8,h⟩ := bind_some h
   refine Tri.f 2 [.r ⟨[1101],.sl 1105 0,[(1105,.arr 44 0 0 (.rats v17)),(1101,.box [.undf,.i v18,.i v19])]⟩,.g true,.r ⟨[1101],.bool v20,[(1101,.box [.undf,.i v21,.i v22])]⟩] [.keep [2,4,5,6,24] [2,5,1101,1102,1104,1105]] rfl ⟨(fun vf => ((W14 (vf 1101 0) v1 v18 v19 (10 : Int) (v20,v21,v22) hk8).swap 2100 1101)),hd7,(fun vf => (((W19 (vf 1101 0) v1 v15 v16 v13 v14 (v17,v18,v19) hk6).swap 1000 1105).swap 2140 1101)),trivial⟩ ?_
   rcases bif_some h with ⟨hd9,h⟩ | ⟨hd9,h⟩
   ·obtain ⟨⟨v23,v24,v25,v26⟩,hk10,h⟩ := bind_some h
    obtain ⟨hg11,h⟩ := grd_some h
    refine Tri.f 2 [.g true,.r ⟨[1101],.agg [.i v23,.i v24],[(1101,.box [.undf,.i v25,.i v26])]⟩] [.keep [2,4,5,6] [2,5,1101,1102,1104,1105]] rfl ⟨hg11,(fun vf => ((W23 (vf 1101 0) v1 v21 v22 (v23,v24,v25,v26) hk10).swap 2160 1101)),hd9,trivial⟩ ?_
    obtain ⟨⟨v27,v28,v29⟩,hk12,h⟩ := bind_some h
    refine Tri.f 1 [.r ⟨[1101],.bool v27,[(1101,.box [.undf,.i v28,.i v29])]⟩] [.keep [2,5,6,30] [2,5,1102,1104,1105]] rfl ⟨(fun vf => ((W14 (vf 1101 0) v1 v25 v26 (3 : Int) (v27,v28,v29) hk12).swap 2100 1101)),trivial⟩ ?_
    rcases bif_some h with ⟨hd13,h⟩ | ⟨hd13,h⟩
    ·obtain ⟨⟨v30,v31⟩,hk14,h⟩ := bind_some h
     refine Tri.f 3 [.g true,.r ⟨[],.tuple [.sl 1106 0,.bool v30],[(1106,.arr 44 0 0 (.rats v31))]⟩] [.swap 1104 1000,.swap 1106 1001,.keep [2,3] [2,1000,1001]] rfl ⟨fun _ => (W25 v13 v14 (v30,v31) hk14).swap 1000 1106,hd13,trivial⟩ ?_
     cases h
     exact Tri.ret rfl ⟨.inl rfl,rfl,rfl⟩
    ·refine Tri.f 2 [.g false] [.swap 1104 1000,.swap 1105 1001,.keep [2,3] [2,1000,1001]] rfl ⟨hd13,trivial⟩ ?_
     cases h
     exact Tri.ret rfl ⟨.inl rfl,rfl,rfl⟩
   ·obtain ⟨⟨v32,v33,v34⟩,hk15,h⟩ := bind_some h
    refine Tri.f 2 [.g false,.r ⟨[1101],.bool v32,[(1101,.box [.undf,.i v33,.i v34])]⟩] [.keep [2,5,6,30] [2,5,1102,1104,1105]] rfl ⟨(fun vf => ((W14 (vf 1101 0) v1 v21 v22 (3 : Int) (v32,v33,v34) hk15).swap 2100 1101)),hd9,trivial⟩ ?_
    rcases bif_some h with ⟨hd16,h⟩ | ⟨hd16,h⟩
    ·obtain ⟨⟨v35,v36⟩,hk17,h⟩ := bind_some h
     refine Tri.f 3 [.g true,.r ⟨[],.tuple [.sl 1107 0,.bool v35],[(1107,.arr 44 0 0 (.rats v36))]⟩] [.swap 1104 1000,.swap 1107 1001,.keep [2,3] [2,1000,1001]] rfl ⟨fun _ => (W25 v13 v14 (v35,v36) hk17).swap 1000 1107,hd16,trivial⟩ ?_
     cases h
     exact Tri.ret rfl ⟨.inl rfl,rfl,rfl⟩
    ·refine Tri.f 2 [.g false] [.swap 1104 1000,.swap 1105 1001,.keep [2,3] [2,1000,1001]] rfl ⟨hd16,trivial⟩ ?_
     cases h
     exact Tri.ret rfl ⟨.inl rfl,rfl,rfl⟩
  ·refine Tri.f 2 [.r ⟨[1101],.sl 1105 0,[(1105,.arr 44 0 0 (.rats v17)),(1101,.box [.undf,.i v18,.i v19])]⟩,.g false] [.keep [2,4,5,6,24] [2,5,1101,1102,1104,1105]] rfl ⟨hd7,(fun vf => (((W19 (vf 1101 0) v1 v15 v16 v13 v14 (v17,v18,v19) hk6).swap 1000 1105).swap 2140 1101)),trivial⟩ ?_
   obtain ⟨⟨v37,v38,v39⟩,hk18,h⟩ := bind_some h
   refine Tri.f 2 [.g false,.r ⟨[1101],.bool v37,[(1101,.box [.undf,.i v38,.i v39])]⟩] [.keep [2,5,6,30] [2,5,1102,1104,1105]] rfl ⟨(fun vf => ((W14 (vf 1101 0) v1 v18 v19 (3 : Int) (v37,v38,v39) hk18).swap 2100 1101)),rfl,trivial⟩ ?_
   rcases bif_some h with ⟨hd19,h⟩ | ⟨hd19,h⟩
   ·obtain ⟨⟨v40,v41⟩,hk20,h⟩ := bind_some h
    refine Tri.f 3 [.g true,.r ⟨[],.tuple [.sl 1108 0,.bool v40],[(1108,.arr 44 0 0 (.rats v41))]⟩] [.swap 1104 1000,.swap 1108 1001,.keep [2,3] [2,1000,1001]] rfl ⟨fun _ => (W25 v13 v14 (v40,v41) hk20).swap 1000 1108,hd19,trivial⟩ ?_
    cases h
    exact Tri.ret rfl ⟨.inl rfl,rfl,rfl⟩
   ·refine Tri.f 2 [.g false] [.swap 1104 1000,.swap 1105 1001,.keep [2,3] [2,1000,1001]] rfl ⟨hd19,trivial⟩ ?_
    cases h
    exact Tri.ret rfl ⟨.inl rfl,rfl,rfl⟩
 ·obtain ⟨⟨v42,v43,v44⟩,hk21,h⟩ := bind_some h
  refine Tri.f 2 [.g false,.r ⟨[1101],.sl 1109 0,[(1109,.arr 44 0 0 (.rats v42)),(1101,.box [.undf,.i v43,.i v44])]⟩] [.keep [2,4,5,6] [2,5,1101,1102,1103,1109]] rfl ⟨(fun vf => (((W19 (vf 1101 0) v1 v11 v12 v6 v7 (v42,v43,v44) hk21).swap 1000 1109).swap 2140 1101)),hd4,trivial⟩ ?_
  rcases bif_some h with ⟨hd22,h⟩ | ⟨hd22,h⟩
  ·obtain ⟨⟨v45,v46,v47⟩,hk23,h⟩ := bind_some h
   refine Tri.f 1 [.g true,.r ⟨[1101],.bool v45,[(1101,.box [.undf,.i v46,.i v47])]⟩] [.keep [2,4,5,6,24] [2,5,1101,1102,1103,1109]] rfl ⟨(fun vf => ((W14 (vf 1101 0) v1 v43 v44 (10 : Int) (v45,v46,v47) hk23).swap 2100 1101)),hd22,trivial⟩ ?_
   rcases bif_some h with ⟨hd24,h⟩ | ⟨hd24,h⟩
   ·obtain ⟨⟨v48,v49,v50,v51⟩,hk25,h⟩ := bind_some h
    obtain ⟨hg26,h⟩ := grd_some h
    refine Tri.f 2 [.g true,.r ⟨[1101],.agg [.i v48,.i v49],[(1101,.box [.undf,.i v50,.i v51])]⟩] [.keep [2,4,5,6] [2,5,1101,1102,1103,1109]] rfl ⟨hg26,(fun vf => ((W23 (vf 1101 0) v1 v46 v47 (v48,v49,v50,v51) hk25).swap 2160 1101)),hd24,trivial⟩ ?_
    obtain ⟨⟨v52,v53,v54⟩,hk27,h⟩ := bind_some h
    refine Tri.f 1 [.r ⟨[1101],.bool v52,[(1101,.box [.undf,.i v53,.i v54])]⟩] [.keep [2,5,6,30] [2,5,1102,1103,1109]] rfl ⟨(fun vf => ((W14 (vf 1101 0) v1 v50 v51 (3 : Int) (v52,v53,v54) hk27).swap 2100 1101)),trivial⟩ ?_
    rcases bif_some h with ⟨hd28,h⟩ | ⟨hd28,h⟩
    ·obtain ⟨⟨v55,v56⟩,hk29,h⟩ := bind_some h
     refine Tri.f 3 [.g true,.r ⟨[],.tuple [.sl 1110 0,.bool v55],[(1110,.arr 44 0 0 (.rats v56))]⟩] [.swap 1103 1000,.swap 1110 1001,.keep [2,3] [2,1000,1001]] rfl ⟨fun _ => (W25 v6 v7 (v55,v56) hk29).swap 1000 1110,hd28,trivial⟩ ?_
     cases h
     exact Tri.ret rfl ⟨.inl rfl,rfl,rfl⟩
    ·refine Tri.f 2 [.g false] [.swap 1103 1000,.swap 1109 1001,.keep [2,3] [2,1000,1001]] rfl ⟨hd28,trivial⟩ ?_
     cases h
     exact Tri.ret rfl ⟨.inl rfl,rfl,rfl⟩
   ·obtain ⟨⟨v57,v58,v59⟩,hk30,h⟩ := bind_some h
    refine Tri.f 2 [.g false,.r ⟨[1101],.bool v57,[(1101,.box [.undf,.i v58,.i v59])]⟩] [.keep [2,5,6,30] [2,5,1102,1103,1109]] rfl ⟨(fun vf => ((W14 (vf 1101 0) v1 v46 v47 (3 : Int) (v57,v58,v59) hk30).swap 2100 1101)),hd24,trivial⟩ ?_
    rcases bif_some h with ⟨hd31,h⟩ | ⟨hd31,h⟩
    ·obtain ⟨⟨v60,v61⟩,hk32,h⟩ := bind_some h
     refine Tri.f 3 [.g true,.r ⟨[],.tuple [.sl 1111 0,.bool v60],[(1111,.arr 44 0 0 (.rats v61))]⟩] [.swap 1103 1000,.swap 1111 1001,.keep [2,3] [2,1000,1001]] rfl ⟨fun _ => (W25 v6 v7 (v60,v61) hk32).swap 1000 1111,hd31,trivial⟩ ?_
     cases h
     exact Tri.ret rfl ⟨.inl rfl,rfl,rfl⟩
    ·refine Tri.f 2 [.g false] [.swap 1103 1000,.swap 1109 1001,.keep [2,3] [2,1000,1001]] rfl ⟨hd31,trivial⟩ ?_
     cases h
     exact Tri.ret rfl ⟨.inl rfl,rfl,rfl⟩
  ·refine Tri.f 1 [.g false] [.keep [2,4,5,6,24] [2,5,1101,1102,1103,1109]] rfl ⟨hd22,trivial⟩ ?_
   obtain ⟨⟨v62,v63,v64⟩,hk33,h⟩ := bind_some h
   refine Tri.f 2 [.g false,.r ⟨[1101],.bool v62,[(1101,.box [.undf,.i v63,.i v64])]⟩] [.keep [2,5,6,30] [2,5,1102,1103,1109]] rfl ⟨(fun vf => ((W14 (vf 1101 0) v1 v43 v44 (3 : Int) (v62,v63,v64) hk33).swap 2100 1101)),rfl,trivial⟩ ?_
   rcases bif_some h with ⟨hd34,h⟩ | ⟨hd34,h⟩
   ·obtain ⟨⟨v65,v66⟩,hk35,h⟩ := bind_some h
    refine Tri.f 3 [.g true,.r ⟨[],.tuple [.sl 1112 0,.bool v65],[(1112,.arr 44 0 0 (.rats v66))]⟩] [.swap 1103 1000,.swap 1112 1001,.keep [2,3] [2,1000,1001]] rfl ⟨fun _ => (W25 v6 v7 (v65,v66) hk35).swap 1000 1112,hd34,trivial⟩ ?_
    cases h
    exact Tri.ret rfl ⟨.inl rfl,rfl,rfl⟩
   ·refine Tri.f 2 [.g false] [.swap 1103 1000,.swap 1109 1001,.keep [2,3] [2,1000,1001]] rfl ⟨hd34,trivial⟩ ?_
    cases h
    exact Tri.ret rfl ⟨.inl rfl,rfl,rfl⟩
noncomputable def E198 : Env := ⟨Try.prog,tys,(Try.f17.body).getD .skip,8,tysOk,mixedOk⟩
abbrev K113 (r : Int × (List Int) × (List Q)) (σ' : ASt) : Prop := isRes E198.T Try.f17 (.tuple [.agg [.i r.1,.sl 1000 0],.sl 1001 0]) [(1000,.arr 3 0 0 (.ints r.2.1)),(1001,.arr 44 0 0 (.rats r.2.2))] σ'
noncomputable def m_spec_DrawInCore (a0 : List UInt8) : Option (Int × (List Int) × (List Q)) :=
(m_spec_l11Args a0).bind fun (v1,v2,v3) =>
some (v1,v2,v3)
theorem W27 (a0 : List UInt8) (r : Int × (List Int) × (List Q)) (h : m_spec_DrawInCore a0 = some r) : AM.Spec Try.prog 17 [.list (.bytes a0)] [] (.tuple [.agg [.i r.1,.sl 1000 0],.sl 1001 0]) [(1000,.arr 3 0 0 (.ints r.2.1)),(1001,.arr 44 0 0 (.rats r.2.2))] := by
 refine spec_of (E := E198) Try.func17 rfl rfl rfl rfl ?_
 refine Tri.f 1 [] [.keep [0,2] [2],.ownc 2 1 1100 3,.keep [0,2] [2,1100]] rfl trivial ?_
 obtain ⟨⟨v1,v2,v3⟩,hk1,h⟩ := bind_some h
 refine Tri.f 1 [.r ⟨[],.tuple [.agg [.i v1,.sl 1101 0],.sl 1102 0],[(1101,.arr 3 0 0 (.ints v2)),(1102,.arr 44 0 0 (.rats v3))]⟩] [.swap 1101 1000,.swap 1102 1001,.keep [2,3] [2,1000,1001]] rfl ⟨fun _ => ((W26 a0 (v1,v2,v3) hk1).swap 1000 1101).swap 1001 1102,trivial⟩ ?_
 cases h
 exact Tri.ret rfl ⟨.inl rfl,rfl,rfl⟩
noncomputable def E199 : Env := ⟨Try.prog,tys,(Try.f69.body).getD .skip,15,tysOk,mixedOk⟩
abbrev K114 (r : Bool) (σ' : ASt) : Prop := isRes E199.T Try.f69 (.bool r) [] σ'
noncomputable def m_impl_within (a0 a1 a2 : Int) : Option Bool :=
bif decide (a0 ≥ a1) then
(some (decide (a0 ≤ a2)))
else
(some false)
theorem W28 (a0 a1 a2 : Int) (r : Bool) (h : m_impl_within a0 a1 a2 = some r) : AM.Spec Try.prog 69 [.i a0,.i a1,.i a2] [] (.bool r) [] := by
 refine spec_of (E := E199) Try.func69 rfl rfl rfl rfl ?_
 refine Tri.f 1 [] [.keep [0,1,2] []] rfl trivial ?_
 rcases bif_some h with ⟨hd1,h⟩ | ⟨hd1,h⟩
 ·refine Tri.f 1 [.g true] [.keep [6] []] rfl ⟨hd1,trivial⟩ ?_
  cases h
  exact Tri.ret rfl ⟨.inl rfl,rfl,rfl⟩
 ·refine Tri.f 1 [.g false] [.keep [6] []] rfl ⟨hd1,trivial⟩ ?_
  cases h
  exact Tri.ret rfl ⟨.inl rfl,rfl,rfl⟩
noncomputable def E200 : Env := ⟨Try.prog,tys,(Try.f87.body).getD .skip,6,tysOk,mixedOk⟩
abbrev K115 (r : Bool) (σ' : ASt) : Prop := isRes E200.T Try.f87 (.bool r) [] σ'
noncomputable def m_impl_IsValidGame_1 (a0 : Int) : Option Bool :=
(m_impl_within a0 (-500 : Int) (500 : Int)).bind fun v1 =>
some (!v1)
theorem W29 (a0 : Int) (r : Bool) (h : m_impl_IsValidGame_1 a0 = some r) : AM.Spec Try.prog 87 [.i a0] [] (.bool r) [] := by
 refine spec_of (E := E200) Try.func87 rfl rfl rfl rfl ?_
 refine Tri.f 1 [] [.keep [0] []] rfl trivial ?_
 obtain ⟨v1,hk1,h⟩ := bind_some h
 refine Tri.f 1 [.v (.bool v1)] [.keep [2] []] rfl ⟨fun _ => W28 a0 (-500 : Int) (500 : Int) v1 hk1,trivial⟩ ?_
 cases h
 exact Tri.ret rfl ⟨.inl rfl,rfl,rfl⟩
noncomputable def E201 : Env := ⟨Try.prog,tys,(Try.f113.body).getD .skip,19,tysOk,mixedOk⟩
abbrev K116 (r : Int) (σ' : ASt) : Prop := isRes E201.T Try.f113 (.i r) [] σ'
noncomputable def l_slices_IndexFunc_int_int_impl_IsValidGame_1_0 (a0 : List Int) (v1 : Int) : Option (Int ⊕ (Unit ⊕ Int)) :=
bif decide (v1 < (a0.length : Int)) then
(grd (0 ≤ v1 ∧ v1 < (a0.length : Int)) <|
(m_impl_IsValidGame_1 (a0.getD v1.toNat 0)).bind fun v2 =>
bif v2 then
(some (.inr (.inr v1)))
else
(some (.inl (IntKind.i64.wrap (v1 + 1)))))
else
(some (.inr (.inl ())))
noncomputable def m_slices_IndexFunc_int_int_impl_IsValidGame_1 (a0 : List Int) : Option Int :=
(iter (l_slices_IndexFunc_int_int_impl_IsValidGame_1_0 a0) (0 : Int)).bind fun
| (.inl _) => (
some (-1 : Int))
| (.inr r) => some r
theorem W30 (a0 : List Int) (r : Int) (h : m_slices_IndexFunc_int_int_impl_IsValidGame_1 a0 = some r) : AM.Spec Try.prog 113 [.list (.ints a0),.func 87 [] []] [] (.i r) [] := by
 refine spec_of (E := E201) Try.func113 rfl rfl rfl rfl ?_
 refine Tri.f 2 [] [.keep [0,1,7,8] []] rfl trivial ?_
 obtain ⟨x1,hk5,h⟩ := bind_some h
 refine Tri.loop (K1 := [.code [(1,0),(1,0),(0,0)] 0]) (K2 := [.blk 0,.code [] 2]) (fun v1 => ⟨[(0,.list (.ints a0)),(1,.func 87 [] []),(7,.i (a0.length : Int)),(8,.i v1)],[]⟩) (fun x e σ' => match x with | (.inl _) => e = .exit 0 ∧ σ' = ⟨[],[]⟩ | (.inr r) => e = .ret ∧ K116 r σ') hk5 rfl rfl ?_ ?_
 ·intro v1 x hs
  clear h
  have h := hs
  clear hs
  refine Tri.f 1 [] [.keep [0,1,7,8,9] []] rfl trivial ?_
  rcases bif_some h with ⟨hd1,h⟩ | ⟨hd1,h⟩
  ·refine Tri.f 2 [.g true] [.keep [0,1,5,7,8] []] rfl ⟨hd1,trivial⟩ ?_
   obtain ⟨hg2,h⟩ := grd_some h
   obtain ⟨v2,hk3,h⟩ := bind_some h
   refine Tri.f 1 [.v (.bool v2)] [.keep [0,1,5,7,8,16] []] rfl ⟨fun _ => W29 (a0.getD v1.toNat 0) v2 hk3,hg2,trivial⟩ ?_
   rcases bif_some h with ⟨hd4,h⟩ | ⟨hd4,h⟩
   ·refine Tri.f 2 [.g true] [.keep [4] []] rfl ⟨hd4,trivial⟩ ?_
    cases h
    exact Tri.ret rfl ⟨nofun,rfl,rfl,rfl⟩
   ·refine Tri.f 2 [.g false] [.keep [0,1,7,8] []] rfl ⟨hd4,trivial⟩ ?_
    cases h
    exact Tri.nil ⟨rfl,rfl⟩
  ·refine Tri.f 1 [.g false] [.keep [] []] rfl ⟨hd1,trivial⟩ ?_
   cases h
   exact Tri.out 0 rfl ⟨nofun,rfl,rfl⟩
 ·intro e σ' hne hq
  rcases x1 with _ | r
  ·obtain ⟨rfl,rfl⟩ := hq
   refine TriX.exit (K' := [.code [] 2]) rfl ?_
   refine Tri.f 1 [] [.keep [4] []] rfl trivial ?_
   cases h
   exact Tri.ret rfl ⟨.inl rfl,rfl,rfl⟩
  ·obtain ⟨rfl,hq⟩ := hq
   cases h
   exact TriX.ret ⟨.inl rfl,hq⟩
noncomputable def E202 : Env := ⟨Try.prog,tys,(Try.f86.body).getD .skip,9,tysOk,mixedOk⟩
abbrev K117 (r : Bool) (σ' : ASt) : Prop := isRes E202.T Try.f86 (.bool r) [] σ'
noncomputable def m_slices_ContainsFunc_int_int_impl_IsValidGame_1 (a0 : List Int) : Option Bool :=
(m_slices_IndexFunc_int_int_impl_IsValidGame_1 a0).bind fun v1 =>
some (decide (v1 ≥ 0))
theorem W31 (a0 : List Int) (r : Bool) (h : m_slices_ContainsFunc_int_int_impl_IsValidGame_1 a0 = some r) : AM.Spec Try.prog 86 [.list (.ints a0),.func 87 [] []] [] (.bool r) [] := by
 refine spec_of (E := E202) Try.func86 rfl rfl rfl rfl ?_
 refine Tri.f 1 [] [.keep [0,1] []] rfl trivial ?_
 obtain ⟨v1,hk1,h⟩ := bind_some h
 refine Tri.f 1 [.v (.i v1)] [.keep [4] []] rfl ⟨fun _ => W30 a0 v1 hk1,trivial⟩ ?_
 cases h
 exact Tri.ret rfl ⟨.inl rfl,rfl,rfl⟩
noncomputable def E203 : Env := ⟨Try.prog,tys,(Try.f53.body).getD .skip,27,tysOk,mixedOk⟩
abbrev K118 (r : Bool) (σ' : ASt) : Prop := isRes E203.T Try.f53 (.bool r) [] σ'
noncomputable def m_impl_IsValidGame (a0 : Int) (a1 : List Int) : Option Bool :=
(m_impl_within a0 (1 : Int) (5 : Int)).bind fun v1 =>
bif !v1 then
(some false)
else
(grd (0 ≤ a0) <|
bif (a1.length : Int) != (IntKind.i64.wrap ((1 : Int) * 2 ^ (min a0.toNat 64))) then
(some false)
else
(grd ((0 : Int) ≤ (0 : Int) ∧ (0 : Int) < (a1.length : Int)) <|
bif (a1.getD ((0 : Int).toNat) 0) != 0 then
(some false)
else
((m_slices_ContainsFunc_int_int_impl_IsValidGame_1 a1).bind fun v2 =>
some (!v2))))
theorem W32 (a0 : Int) (a1 : List Int) (r : Bool) (h : m_impl_IsValidGame a0 a1 = some r) : AM.Spec Try.prog 53 [.agg [.i a0,.list (.ints a1)]] [] (.bool r) [] := by
 refine spec_of (E := E203) Try.func53 rfl rfl rfl rfl ?_
 refine Tri.f 1 [] [.keep [1] [1]] rfl trivial ?_
 obtain ⟨v1,hk1,h⟩ := bind_some h
 rcases bif_some h with ⟨hd2,h⟩ | ⟨hd2,h⟩
 ·refine Tri.f 1 [.v (.bool v1),.g true,.g true] [.keep [1,22] [1]] rfl ⟨rfl,hd2,fun _ => W28 a0 (1 : Int) (5 : Int) v1 hk1,trivial⟩ ?_
  refine Tri.f 2 [.g true] [.keep [2] []] rfl ⟨rfl,trivial⟩ ?_
  cases h
  exact Tri.ret rfl ⟨.inl rfl,rfl,rfl⟩
 ·obtain ⟨hg3,h⟩ := grd_some h
  rcases bif_some h with ⟨hd4,h⟩ | ⟨hd4,h⟩
  ·refine Tri.f 1 [.v (.bool v1),.g false,.g true] [.keep [1,22] [1]] rfl ⟨hd4,hg3,hd2,fun _ => W28 a0 (1 : Int) (5 : Int) v1 hk1,trivial⟩ ?_
   refine Tri.f 2 [.g true] [.keep [2] []] rfl ⟨rfl,trivial⟩ ?_
   cases h
   exact Tri.ret rfl ⟨.inl rfl,rfl,rfl⟩
  ·obtain ⟨hg5,h⟩ := grd_some h
   refine Tri.f 1 [.v (.bool v1),.g false,.g false] [.keep [1,22] [1]] rfl ⟨hg5,hd4,hg3,hd2,fun _ => W28 a0 (1 : Int) (5 : Int) v1 hk1,trivial⟩ ?_
   rcases bif_some h with ⟨hd6,h⟩ | ⟨hd6,h⟩
   ·refine Tri.f 2 [.g true] [.keep [2] []] rfl ⟨hd6,trivial⟩ ?_
    cases h
    exact Tri.ret rfl ⟨.inl rfl,rfl,rfl⟩
   ·obtain ⟨v2,hk7,h⟩ := bind_some h
    refine Tri.f 2 [.g false,.v (.bool v2)] [.keep [2] []] rfl ⟨fun _ => W31 a1 v2 hk7,hd6,trivial⟩ ?_
    cases h
    exact Tri.ret rfl ⟨.inl rfl,rfl,rfl⟩
noncomputable def E204 : Env := ⟨Try.prog,tys,(Try.f90.body).getD .skip,15,tysOk,mixedOk⟩
abbrev K119 (r : Int) (σ' : ASt) : Prop := isRes E204.T Try.f90 (.i r) [] σ'
noncomputable def l_impl_common_0 : (Int × Int) → Option ((Int × Int) ⊕ Int)
 | (v1,v2) => (
bif v2 != 0 then
(grd (v2 ≠ 0) <|
some (.inl (v2,v1.tmod v2)))
else
(some (.inr v1)))
noncomputable def m_impl_common (a0 a1 : Int) : Option Int :=
(iter (l_impl_common_0) (a0,a1)).bind fun
| v3 => (
some (if IntKind.i64.wrap (0 - v3) > v3 then IntKind.i64.wrap (0 - v3) else v3))
theorem W33 (a0 a1 r : Int) (h : m_impl_common a0 a1 = some r) : AM.Spec Try.prog 90 [.i a0,.i a1] [] (.i r) [] := by
 refine spec_of (E := E204) Try.func90 rfl rfl rfl rfl ?_
 refine Tri.f 1 [] [.keep [0,1] []] rfl trivial ?_
 obtain ⟨v3,hk3,h⟩ := bind_some h
 refine Tri.loop (K1 := [.code [(1,0),(0,0),(0,0)] 0]) (K2 := [.blk 0,.code [] 2]) (fun (v1,v2) => ⟨[(0,.i v1),(1,.i v2)],[]⟩) (fun x e σ' => match x with | v3 => e = .exit 0 ∧ σ' = ⟨[(0,.i v3)],[]⟩) hk3 rfl rfl ?_ ?_
 ·intro s x hs
  clear h
  have h := hs
  clear hs
  obtain ⟨v1,v2⟩ := s
  refine Tri.f 1 [] [.keep [0,1,6] []] rfl trivial ?_
  rcases bif_some h with ⟨hd1,h⟩ | ⟨hd1,h⟩
  ·obtain ⟨hg2,h⟩ := grd_some h
   refine Tri.f 2 [.g true] [.keep [0,1] []] rfl ⟨hg2,hd1,trivial⟩ ?_
   cases h
   exact Tri.nil ⟨rfl,rfl⟩
  ·refine Tri.f 1 [.g false] [.keep [0] []] rfl ⟨hd1,trivial⟩ ?_
   cases h
   exact Tri.out 0 rfl ⟨nofun,rfl,rfl⟩
 ·intro e σ' hne hq
  obtain ⟨rfl,rfl⟩ := hq
  refine TriX.exit (K' := [.code [] 2]) rfl ?_
  refine Tri.f 1 [] [.keep [4] []] rfl trivial ?_
  cases h
  exact Tri.ret rfl ⟨.inl rfl,rfl,rfl⟩
noncomputable def E205 : Env := ⟨Try.prog,tys,(Try.f63.body).getD .skip,19,tysOk,mixedOk⟩
abbrev K120 (r : Bool) (σ' : ASt) : Prop := isRes E205.T Try.f63 (.bool r) [] σ'
noncomputable def m_impl_IsValidRat (a0 a1 : Int) : Option Bool :=
(m_impl_within a1 (1 : Int) (1000000000 : Int)).bind fun v1 =>
bif v1 then
((m_impl_within a0 (-1000000000 : Int) (1000000000 : Int)).bind fun v2 =>
bif v2 then
((m_impl_common a0 a1).bind fun v3 =>
some (v3 == 1))
else
(some false))
else
(some false)
theorem W34 (a0 a1 : Int) (r : Bool) (h : m_impl_IsValidRat a0 a1 = some r) : AM.Spec Try.prog 63 [.agg [.i a0,.i a1]] [] (.bool r) [] := by
 refine spec_of (E := E205) Try.func63 rfl rfl rfl rfl ?_
 refine Tri.f 1 [] [.keep [1] [1]] rfl trivial ?_
 obtain ⟨v1,hk1,h⟩ := bind_some h
 rcases bif_some h with ⟨hd2,h⟩ | ⟨hd2,h⟩
 ·obtain ⟨v2,hk3,h⟩ := bind_some h
  rcases bif_some h with ⟨hd4,h⟩ | ⟨hd4,h⟩
  ·obtain ⟨v3,hk5,h⟩ := bind_some h
   refine Tri.f 1 [.v (.bool v1),.g true,.v (.bool v2),.g true,.v (.i v3)] [.keep [2] []] rfl ⟨fun _ => W33 a0 a1 v3 hk5,hd4,fun _ => W28 a0 (-1000000000 : Int) (1000000000 : Int) v2 hk3,hd2,fun _ => W28 a1 (1 : Int) (1000000000 : Int) v1 hk1,trivial⟩ ?_
   cases h
   exact Tri.ret rfl ⟨.inl rfl,rfl,rfl⟩
  ·refine Tri.f 1 [.v (.bool v1),.g true,.v (.bool v2),.g false] [.keep [2] []] rfl ⟨hd4,fun _ => W28 a0 (-1000000000 : Int) (1000000000 : Int) v2 hk3,hd2,fun _ => W28 a1 (1 : Int) (1000000000 : Int) v1 hk1,trivial⟩ ?_
   cases h
   exact Tri.ret rfl ⟨.inl rfl,rfl,rfl⟩
 ·refine Tri.f 1 [.v (.bool v1),.g false,.g false] [.keep [2] []] rfl ⟨rfl,hd2,fun _ => W28 a1 (1 : Int) (1000000000 : Int) v1 hk1,trivial⟩ ?_
  cases h
  exact Tri.ret rfl ⟨.inl rfl,rfl,rfl⟩
noncomputable def E206 : Env := ⟨Try.prog,tys,(Try.f88.body).getD .skip,6,tysOk,mixedOk⟩
abbrev K121 (r : Bool) (σ' : ASt) : Prop := isRes E206.T Try.f88 (.bool r) [] σ'
noncomputable def m_impl_AllValid_1 (a0 a1 : Int) : Option Bool :=
(m_impl_IsValidRat a0 a1).bind fun v1 =>
some (!v1)
theorem W35 (a0 a1 : Int) (r : Bool) (h : m_impl_AllValid_1 a0 a1 = some r) : AM.Spec Try.prog 88 [.agg [.i a0,.i a1]] [] (.bool r) [] := by
 refine spec_of (E := E206) Try.func88 rfl rfl rfl rfl ?_
 refine Tri.f 1 [] [.keep [1] [1]] rfl trivial ?_
 obtain ⟨v1,hk1,h⟩ := bind_some h
 refine Tri.f 1 [.v (.bool v1)] [.keep [2] []] rfl ⟨fun _ => W34 a0 a1 v1 hk1,trivial⟩ ?_
 cases h
 exact Tri.ret rfl ⟨.inl rfl,rfl,rfl⟩
noncomputable def E207 : Env := ⟨Try.prog,tys,(Try.f85.body).getD .skip,19,tysOk,mixedOk⟩
abbrev K122 (r : Int) (σ' : ASt) : Prop := isRes E207.T Try.f85 (.i r) [] σ'
noncomputable def l_slices_IndexFunc_impl_Rat_impl_Rat_impl_AllValid_1_0 (a0 : List Q) (v1 : Int) : Option (Int ⊕ (Unit ⊕ Int)) :=
bif decide (v1 < (a0.length : Int)) then
(grd (0 ≤ v1 ∧ v1 < (a0.length : Int)) <|
(m_impl_AllValid_1 ((a0.getD v1.toNat ⟨0,0⟩).num) ((a0.getD v1.toNat ⟨0,0⟩).den)).bind fun v2 =>
bif v2 then
(some (.inr (.inr v1)))
else
(some (.inl (IntKind.i64.wrap (v1 + 1)))))
else
(some (.inr (.inl ())))
noncomputable def m_slices_IndexFunc_impl_Rat_impl_Rat_impl_AllValid_1 (a0 : List Q) : Option Int :=
(iter (l_slices_IndexFunc_impl_Rat_impl_Rat_impl_AllValid_1_0 a0) (0 : Int)).bind fun
| (.inl _) => (
some (-1 : Int))
| (.inr r) => some r
theorem W36 (a0 : List Q) (r : Int) (h : m_slices_IndexFunc_impl_Rat_impl_Rat_impl_AllValid_1 a0 = some r) : AM.Spec Try.prog 85 [.list (.rats a0),.func 88 [] []] [] (.i r) [] := by
 refine spec_of (E := E207) Try.func85 rfl rfl rfl rfl ?_
 refine Tri.f 2 [] [.keep [0,1,7,8] []] rfl trivial ?_
 obtain ⟨x1,hk5,h⟩ := bind_some h
 refine Tri.loop (K1 := [.code [(1,0),(1,0),(0,0)] 0]) (K2 := [.blk 0,.code [] 2]) (fun v1 => ⟨[(0,.list (.rats a0)),(1,.func 88 [] []),(7,.i (a0.length : Int)),(8,.i v1)],[]⟩) (fun x e σ' => match x with | (.inl _) => e = .exit 0 ∧ σ' = ⟨[],[]⟩ | (.inr r) => e = .ret ∧ K122 r σ') hk5 rfl rfl ?_ ?_
 ·intro v1 x hs
  clear h
  have h := hs
  clear hs
  refine Tri.f 1 [] [.keep [0,1,7,8,9] []] rfl trivial ?_
  rcases bif_some h with ⟨hd1,h⟩ | ⟨hd1,h⟩
  ·refine Tri.f 2 [.g true] [.keep [0,1,5,7,8] []] rfl ⟨hd1,trivial⟩ ?_
   obtain ⟨hg2,h⟩ := grd_some h
   obtain ⟨v2,hk3,h⟩ := bind_some h
   refine Tri.f 1 [.v (.bool v2)] [.keep [0,1,5,7,8,16] []] rfl ⟨fun _ => W35 ((a0.getD v1.toNat ⟨0,0⟩).num) ((a0.getD v1.toNat ⟨0,0⟩).den) v2 hk3,hg2,trivial⟩ ?_
   rcases bif_some h with ⟨hd4,h⟩ | ⟨hd4,h⟩
   ·refine Tri.f 2 [.g true] [.keep [4] []] rfl ⟨hd4,trivial⟩ ?_
    cases h
    exact Tri.ret rfl ⟨nofun,rfl,rfl,rfl⟩
   ·refine Tri.f 2 [.g false] [.keep [0,1,7,8] []] rfl ⟨hd4,trivial⟩ ?_
    cases h
    exact Tri.nil ⟨rfl,rfl⟩
  ·refine Tri.f 1 [.g false] [.keep [] []] rfl ⟨hd1,trivial⟩ ?_
   cases h
   exact Tri.out 0 rfl ⟨nofun,rfl,rfl⟩
 ·intro e σ' hne hq
  rcases x1 with _ | r
  ·obtain ⟨rfl,rfl⟩ := hq
   refine TriX.exit (K' := [.code [] 2]) rfl ?_
   refine Tri.f 1 [] [.keep [4] []] rfl trivial ?_
   cases h
   exact Tri.ret rfl ⟨.inl rfl,rfl,rfl⟩
  ·obtain ⟨rfl,hq⟩ := hq
   cases h
   exact TriX.ret ⟨.inl rfl,hq⟩
noncomputable def E208 : Env := ⟨Try.prog,tys,(Try.f50.body).getD .skip,9,tysOk,mixedOk⟩
abbrev K123 (r : Bool) (σ' : ASt) : Prop := isRes E208.T Try.f50 (.bool r) [] σ'
noncomputable def m_slices_ContainsFunc_impl_Rat_impl_Rat_impl_AllValid_1 (a0 : List Q) : Option Bool :=
(m_slices_IndexFunc_impl_Rat_impl_Rat_impl_AllValid_1 a0).bind fun v1 =>
some (decide (v1 ≥ 0))
theorem W37 (a0 : List Q) (r : Bool) (h : m_slices_ContainsFunc_impl_Rat_impl_Rat_impl_AllValid_1 a0 = some r) : AM.Spec Try.prog 50 [.list (.rats a0),.func 88 [] []] [] (.bool r) [] := by
 refine spec_of (E := E208) Try.func50 rfl rfl rfl rfl ?_
 refine Tri.f 1 [] [.keep [0,1] []] rfl trivial ?_
 obtain ⟨v1,hk1,h⟩ := bind_some h
 refine Tri.f 1 [.v (.i v1)] [.keep [4] []] rfl ⟨fun _ => W36 a0 v1 hk1,trivial⟩ ?_
 cases h
 exact Tri.ret rfl ⟨.inl rfl,rfl,rfl⟩
noncomputable def E209 : Env := ⟨Try.prog,tys,(Try.f54.body).getD .skip,6,tysOk,mixedOk⟩
abbrev K124 (r : Bool) (σ' : ASt) : Prop := isRes E209.T Try.f54 (.bool r) [] σ'
noncomputable def m_impl_AllValid (a0 : List Q) : Option Bool :=
(m_slices_ContainsFunc_impl_Rat_impl_Rat_impl_AllValid_1 a0).bind fun v1 =>
some (!v1)
theorem W38 (a0 : List Q) (r : Bool) (h : m_impl_AllValid a0 = some r) : AM.Spec Try.prog 54 [.list (.rats a0)] [] (.bool r) [] := by
 refine spec_of (E := E209) Try.func54 rfl rfl rfl rfl ?_
 refine Tri.f 1 [] [.keep [0] []] rfl trivial ?_
 obtain ⟨v1,hk1,h⟩ := bind_some h
 refine Tri.f 1 [.v (.bool v1)] [.keep [2] []] rfl ⟨fun _ => W37 a0 v1 hk1,trivial⟩ ?_
 cases h
 exact Tri.ret rfl ⟨.inl rfl,rfl,rfl⟩
noncomputable def E210 : Env := ⟨Try.prog,tys,(Try.f55.body).getD .skip,5,tysOk,mixedOk⟩
abbrev K125 (r : Int × Int) (σ' : ASt) : Prop := isRes E210.T Try.f55 (.agg [.i r.1,.i r.2]) [] σ'
noncomputable def m_impl_whole (a0 : Int) : Option (Int × Int) :=
some (a0,(1 : Int))
theorem W39 (a0 : Int) (r : Int × Int) (h : m_impl_whole a0 = some r) : AM.Spec Try.prog 55 [.i a0] [] (.agg [.i r.1,.i r.2]) [] := by
 refine spec_of (E := E210) Try.func55 rfl rfl rfl rfl ?_
 refine Tri.f 2 [] [.keep [2] [2]] rfl trivial ?_
 cases h
 exact Tri.ret rfl ⟨.inl rfl,rfl,rfl⟩
noncomputable def E211 : Env := ⟨Try.prog,tys,(Try.f93.body).getD .skip,18,tysOk,mixedOk⟩
abbrev K126 (r : Bool) (σ' : ASt) : Prop := isRes E211.T Try.f93 (.bool r) [] σ'
noncomputable def m_impl_HasPlayer (a0 a1 : Int) : Option Bool :=
bif decide (a0 ≥ 0) then
((m_impl_within a1 (0 : Int) (4 : Int)).bind fun v1 =>
bif v1 then
(grd (0 ≤ a1) <|
some ((bitsOf .and .i64 (a0.fdiv (2 ^ (min a1.toNat 64))) (1 : Int)) == 1))
else
(some false))
else
(some false)
theorem W40 (a0 a1 : Int) (r : Bool) (h : m_impl_HasPlayer a0 a1 = some r) : AM.Spec Try.prog 93 [.i a0,.i a1] [] (.bool r) [] := by
 refine spec_of (E := E211) Try.func93 rfl rfl rfl rfl ?_
 refine Tri.f 1 [] [.keep [0,1] []] rfl trivial ?_
 rcases bif_some h with ⟨hd1,h⟩ | ⟨hd1,h⟩
 ·obtain ⟨v1,hk2,h⟩ := bind_some h
  rcases bif_some h with ⟨hd3,h⟩ | ⟨hd3,h⟩
  ·obtain ⟨hg4,h⟩ := grd_some h
   refine Tri.f 1 [.g true,.v (.bool v1),.g true] [.keep [4] []] rfl ⟨hg4,hd3,fun _ => W28 a1 (0 : Int) (4 : Int) v1 hk2,hd1,trivial⟩ ?_
   cases h
   exact Tri.ret rfl ⟨.inl rfl,rfl,rfl⟩
  ·refine Tri.f 1 [.g true,.v (.bool v1),.g false] [.keep [4] []] rfl ⟨hd3,fun _ => W28 a1 (0 : Int) (4 : Int) v1 hk2,hd1,trivial⟩ ?_
   cases h
   exact Tri.ret rfl ⟨.inl rfl,rfl,rfl⟩
 ·refine Tri.f 1 [.g false,.g false] [.keep [4] []] rfl ⟨rfl,hd1,trivial⟩ ?_
  cases h
  exact Tri.ret rfl ⟨.inl rfl,rfl,rfl⟩
noncomputable def E212 : Env := ⟨Try.prog,tys,(Try.f70.body).getD .skip,21,tysOk,mixedOk⟩
abbrev K127 (r : List Int) (σ' : ASt) : Prop := isRes E212.T Try.f70 (.sl 1000 0) [(1000,.arr 3 0 0 (.ints r))] σ'
noncomputable def l_impl_MembersOf_0 (a0 : Int) : (Int × (List Int)) → Option ((Int × (List Int)) ⊕ ((List Int)))
 | (v2,v3) => (
bif decide (v2 < 5) then
((m_impl_HasPlayer a0 v2).bind fun v4 =>
bif v4 then
(grd (v3.length + ([v2] : List Int).length ≤ room) <|
some (.inl (IntKind.i64.wrap (v2 + 1),v3 ++ [v2])))
else
(some (.inl (IntKind.i64.wrap (v2 + 1),v3))))
else
(some (.inr v3)))
noncomputable def m_impl_MembersOf (a0 : Int) : Option (List Int) :=
(m_impl_within a0 (0 : Int) (31 : Int)).bind fun v1 =>
bif !v1 then
(some [])
else
((iter (l_impl_MembersOf_0 a0) ((0 : Int),[])).bind fun
| v5 => (
some v5))
theorem W41 (a0 : Int) (r : List Int) (h : m_impl_MembersOf a0 = some r) : AM.Spec Try.prog 70 [.i a0] [] (.sl 1000 0) [(1000,.arr 3 0 0 (.ints r))] := by
 refine spec_of (E := E212) Try.func70 rfl rfl rfl rfl ?_
 refine Tri.f 1 [] [.keep [0] []] rfl trivial ?_
 obtain ⟨v1,hk1,h⟩ := bind_some h
 refine Tri.f 1 [.v (.bool v1)] [.keep [0,7] []] rfl ⟨fun _ => W28 a0 (0 : Int) (31 : Int) v1 hk1,trivial⟩ ?_
 rcases bif_some h with ⟨hd2,h⟩ | ⟨hd2,h⟩
 ·refine Tri.f 2 [.g true] [.own 2 [] 1100 3,.swap 1100 1000,.keep [2] [1000]] rfl ⟨hd2,trivial⟩ ?_
  cases h
  exact Tri.ret rfl ⟨.inl rfl,rfl,rfl⟩
 ·refine Tri.f 3 [.g false] [.keep [0,3,9] [8]] rfl ⟨hd2,trivial⟩ ?_
  obtain ⟨v5,hk7,h⟩ := bind_some h
  refine Tri.loop (K1 := [.code [(3,0),(1,0),(0,0)] 0]) (K2 := [.blk 0,.code [] 4]) (fun (v2,v3) => ⟨[(0,.i a0),(3,.sl 8 0),(9,.i v2)],[(8,.arr 3 0 0 (.ints v3))]⟩) (fun x e σ' => match x with | v5 => e = .exit 0 ∧ σ' = ⟨[(3,.sl 8 0)],[(8,.arr 3 0 0 (.ints v5))]⟩) hk7 rfl rfl ?_ ?_
  ·intro s x hs
   clear h
   have h := hs
   clear hs
   obtain ⟨v2,v3⟩ := s
   refine Tri.f 1 [] [.keep [0,3,9,10] [8]] rfl trivial ?_
   rcases bif_some h with ⟨hd3,h⟩ | ⟨hd3,h⟩
   ·refine Tri.f 2 [.g true] [.keep [0,3,4,9] [8]] rfl ⟨hd3,trivial⟩ ?_
    obtain ⟨v4,hk4,h⟩ := bind_some h
    refine Tri.f 1 [.v (.bool v4)] [.keep [0,3,4,9,14] [8]] rfl ⟨fun _ => W40 a0 v2 v4 hk4,trivial⟩ ?_
    rcases bif_some h with ⟨hd5,h⟩ | ⟨hd5,h⟩
    ·obtain ⟨hg6,h⟩ := grd_some h
     refine Tri.f 3 [.g true] [.rever 8,.keep [0,3,9] [8]] rfl ⟨hg6,hd5,trivial⟩ ?_
     cases h
     exact Tri.nil ⟨rfl,rfl⟩
    ·refine Tri.f 2 [.g false] [.keep [0,3,9] [8]] rfl ⟨hd5,trivial⟩ ?_
     cases h
     exact Tri.nil ⟨rfl,rfl⟩
   ·refine Tri.f 1 [.g false] [.keep [3] [8]] rfl ⟨hd3,trivial⟩ ?_
    cases h
    exact Tri.out 0 rfl ⟨nofun,rfl,rfl⟩
  ·intro e σ' hne hq
   obtain ⟨rfl,rfl⟩ := hq
   refine TriX.exit (K' := [.code [] 4]) rfl ?_
   refine Tri.f 1 [] [.swap 8 1000,.keep [2] [1000]] rfl trivial ?_
   cases h
   exact Tri.ret rfl ⟨.inl rfl,rfl,rfl⟩
noncomputable def E213 : Env := ⟨Try.prog,tys,(Try.f94.body).getD .skip,40,tysOk,mixedOk⟩
abbrev K128 (r : Int × Int × Bool) (σ' : ASt) : Prop := isRes E213.T Try.f94 (.tuple [.agg [.i r.1,.i r.2.1],.bool r.2.2]) [] σ'
noncomputable def m_impl_RatOf (a0 a1 : Int) : Option (Int × Int × Bool) :=
bif a1 == 0 then
(some (0,0,false))
else
((m_impl_within a0 (-1000000000000000000 : Int) (1000000000000000000 : Int)).bind fun v1 =>
bif !v1 then
(some (0,0,false))
else
((m_impl_within a1 (-1000000000000000000 : Int) (1000000000000000000 : Int)).bind fun v2 =>
bif !v2 then
(some (0,0,false))
else
((m_impl_common a0 a1).bind fun v3 =>
bif decide (a1 < 0) then
(grd ((IntKind.i64.wrap (0 - v3)) ≠ 0) <|
grd ((IntKind.i64.wrap (0 - v3)) ≠ 0) <|
(m_impl_IsValidRat (IntKind.i64.wrap (a0.tdiv (IntKind.i64.wrap (0 - v3)))) (IntKind.i64.wrap (a1.tdiv (IntKind.i64.wrap (0 - v3))))).bind fun v4 =>
bif !v4 then
(some (0,0,false))
else
(some (IntKind.i64.wrap (a0.tdiv (IntKind.i64.wrap (0 - v3))),IntKind.i64.wrap (a1.tdiv (IntKind.i64.wrap (0 - v3))),true)))
else
(grd (v3 ≠ 0) <|
grd (v3 ≠ 0) <|
(m_impl_IsValidRat (IntKind.i64.wrap (a0.tdiv v3)) (IntKind.i64.wrap (a1.tdiv v3))).bind fun v5 =>
bif !v5 then
(some (0,0,false))
else
(some (IntKind.i64.wrap (a0.tdiv v3),IntKind.i64.wrap (a1.tdiv v3),true))))))
theorem W42 (a0 a1 : Int) (r : Int × Int × Bool) (h : m_impl_RatOf a0 a1 = some r) : AM.Spec Try.prog 94 [.i a0,.i a1] [] (.tuple [.agg [.i r.1,.i r.2.1],.bool r.2.2]) [] := by
 refine spec_of (E := E213) Try.func94 rfl rfl rfl rfl ?_
 refine Tri.f 1 [] [.keep [0,1,4] [4]] rfl trivial ?_
 rcases bif_some h with ⟨hd1,h⟩ | ⟨hd1,h⟩
 ·refine Tri.f 1 [.g true,.g true] [.keep [0,1,4,19] [4]] rfl ⟨rfl,hd1,trivial⟩ ?_
  refine Tri.f 2 [.g true] [.keep [4,5] [4]] rfl ⟨rfl,trivial⟩ ?_
  cases h
  exact Tri.ret rfl ⟨.inl rfl,rfl,rfl⟩
 ·obtain ⟨v1,hk2,h⟩ := bind_some h
  rcases bif_some h with ⟨hd3,h⟩ | ⟨hd3,h⟩
  ·refine Tri.f 1 [.g false,.v (.bool v1),.g true] [.keep [0,1,4,19] [4]] rfl ⟨hd3,fun _ => W28 a0 (-1000000000000000000 : Int) (1000000000000000000 : Int) v1 hk2,hd1,trivial⟩ ?_
   refine Tri.f 2 [.g true] [.keep [4,5] [4]] rfl ⟨rfl,trivial⟩ ?_
   cases h
   exact Tri.ret rfl ⟨.inl rfl,rfl,rfl⟩
  ·obtain ⟨v2,hk4,h⟩ := bind_some h
   refine Tri.f 1 [.g false,.v (.bool v1),.g false,.v (.bool v2)] [.keep [0,1,4,19] [4]] rfl ⟨fun _ => W28 a1 (-1000000000000000000 : Int) (1000000000000000000 : Int) v2 hk4,hd3,fun _ => W28 a0 (-1000000000000000000 : Int) (1000000000000000000 : Int) v1 hk2,hd1,trivial⟩ ?_
   rcases bif_some h with ⟨hd5,h⟩ | ⟨hd5,h⟩
   ·refine Tri.f 2 [.g true] [.keep [4,5] [4]] rfl ⟨hd5,trivial⟩ ?_
    cases h
    exact Tri.ret rfl ⟨.inl rfl,rfl,rfl⟩
   ·obtain ⟨v3,hk6,h⟩ := bind_some h
    refine Tri.f 3 [.g false,.v (.i v3)] [.keep [0,1,4,6,25] [4]] rfl ⟨fun _ => W33 a0 a1 v3 hk6,hd5,trivial⟩ ?_
    rcases bif_some h with ⟨hd7,h⟩ | ⟨hd7,h⟩
    ·obtain ⟨hg8,h⟩ := grd_some h
     obtain ⟨hg9,h⟩ := grd_some h
     refine Tri.f 3 [.g true] [.keep [4,7] [4,7]] rfl ⟨hg9,hg8,hd7,trivial⟩ ?_
     obtain ⟨v4,hk10,h⟩ := bind_some h
     refine Tri.f 1 [.v (.bool v4)] [.keep [4,7,37] [4,7]] rfl ⟨fun _ => W34 (IntKind.i64.wrap (a0.tdiv (IntKind.i64.wrap (0 - v3)))) (IntKind.i64.wrap (a1.tdiv (IntKind.i64.wrap (0 - v3)))) v4 hk10,trivial⟩ ?_
     rcases bif_some h with ⟨hd11,h⟩ | ⟨hd11,h⟩
     ·refine Tri.f 2 [.g true] [.keep [4,5] [4]] rfl ⟨hd11,trivial⟩ ?_
      cases h
      exact Tri.ret rfl ⟨.inl rfl,rfl,rfl⟩
     ·refine Tri.f 2 [.g false] [.keep [4,5] [4]] rfl ⟨hd11,trivial⟩ ?_
      cases h
      exact Tri.ret rfl ⟨.inl rfl,rfl,rfl⟩
    ·obtain ⟨hg12,h⟩ := grd_some h
     obtain ⟨hg13,h⟩ := grd_some h
     refine Tri.f 2 [.g false] [.keep [4,7] [4,7]] rfl ⟨hg13,hg12,hd7,trivial⟩ ?_
     obtain ⟨v5,hk14,h⟩ := bind_some h
     refine Tri.f 1 [.v (.bool v5)] [.keep [4,7,37] [4,7]] rfl ⟨fun _ => W34 (IntKind.i64.wrap (a0.tdiv v3)) (IntKind.i64.wrap (a1.tdiv v3)) v5 hk14,trivial⟩ ?_
     rcases bif_some h with ⟨hd15,h⟩ | ⟨hd15,h⟩
     ·refine Tri.f 2 [.g true] [.keep [4,5] [4]] rfl ⟨hd15,trivial⟩ ?_
      cases h
      exact Tri.ret rfl ⟨.inl rfl,rfl,rfl⟩
     ·refine Tri.f 2 [.g false] [.keep [4,5] [4]] rfl ⟨hd15,trivial⟩ ?_
      cases h
      exact Tri.ret rfl ⟨.inl rfl,rfl,rfl⟩
noncomputable def E214 : Env := ⟨Try.prog,tys,(Try.f71.body).getD .skip,34,tysOk,mixedOk⟩
abbrev K129 (r : Int × Int × Bool) (σ' : ASt) : Prop := isRes E214.T Try.f71 (.tuple [.agg [.i r.1,.i r.2.1],.bool r.2.2]) [] σ'
noncomputable def m_impl_AddRat (a0 a1 a2 a3 : Int) : Option (Int × Int × Bool) :=
(m_impl_IsValidRat a0 a1).bind fun v1 =>
bif !v1 then
(some (0,0,false))
else
((m_impl_IsValidRat a2 a3).bind fun v2 =>
bif !v2 then
(some (0,0,false))
else
((m_impl_RatOf (IntKind.i64.wrap ((IntKind.i64.wrap (a0 * a3)) + (IntKind.i64.wrap (a2 * a1)))) (IntKind.i64.wrap (a1 * a3))).bind fun (v3,v4,v5) =>
some (v3,v4,v5)))
theorem W43 (a0 a1 a2 a3 : Int) (r : Int × Int × Bool) (h : m_impl_AddRat a0 a1 a2 a3 = some r) : AM.Spec Try.prog 71 [.agg [.i a0,.i a1],.agg [.i a2,.i a3]] [] (.tuple [.agg [.i r.1,.i r.2.1],.bool r.2.2]) [] := by
 refine spec_of (E := E214) Try.func71 rfl rfl rfl rfl ?_
 refine Tri.f 1 [] [.keep [2,3,4] [2,3,4]] rfl trivial ?_
 obtain ⟨v1,hk1,h⟩ := bind_some h
 rcases bif_some h with ⟨hd2,h⟩ | ⟨hd2,h⟩
 ·refine Tri.f 1 [.v (.bool v1),.g true] [.keep [2,3,4,13] [2,3,4]] rfl ⟨hd2,fun _ => W34 a0 a1 v1 hk1,trivial⟩ ?_
  refine Tri.f 2 [.g true] [.keep [4,5] [4]] rfl ⟨rfl,trivial⟩ ?_
  cases h
  exact Tri.ret rfl ⟨.inl rfl,rfl,rfl⟩
 ·obtain ⟨v2,hk3,h⟩ := bind_some h
  refine Tri.f 1 [.v (.bool v1),.g false,.v (.bool v2)] [.keep [2,3,4,13] [2,3,4]] rfl ⟨fun _ => W34 a2 a3 v2 hk3,hd2,fun _ => W34 a0 a1 v1 hk1,trivial⟩ ?_
  rcases bif_some h with ⟨hd4,h⟩ | ⟨hd4,h⟩
  ·refine Tri.f 2 [.g true] [.keep [4,5] [4]] rfl ⟨hd4,trivial⟩ ?_
   cases h
   exact Tri.ret rfl ⟨.inl rfl,rfl,rfl⟩
  ·obtain ⟨⟨v3,v4,v5⟩,hk5,h⟩ := bind_some h
   refine Tri.f 2 [.g false,.v (.tuple [.agg [.i v3,.i v4],.bool v5])] [.keep [4,5] [4]] rfl ⟨fun _ => W42 (IntKind.i64.wrap ((IntKind.i64.wrap (a0 * a3)) + (IntKind.i64.wrap (a2 * a1)))) (IntKind.i64.wrap (a1 * a3)) (v3,v4,v5) hk5,hd4,trivial⟩ ?_
   cases h
   exact Tri.ret rfl ⟨.inl rfl,rfl,rfl⟩
noncomputable def E215 : Env := ⟨Try.prog,tys,(Try.f31.body).getD .skip,43,tysOk,mixedOk⟩
abbrev K130 (r : Int × Int × Bool) (σ' : ASt) : Prop := isRes E215.T Try.f31 (.tuple [.agg [.i r.1,.i r.2.1],.bool r.2.2]) [] σ'
noncomputable def l_impl_ShareOf_0 (a0 : List Q) (v4 : List Int) : (Int × Int × Int) → Option ((Int × Int × Int) ⊕ ((Int × Int) ⊕ ((Int × Int × Bool))))
 | (v5,v6,v7) => (
bif decide (v5 < (v4.length : Int)) then
(grd (0 ≤ v5 ∧ v5 < (v4.length : Int)) <|
bif decide ((v4.getD v5.toNat 0) ≥ (a0.length : Int)) then
(some (.inr (.inr (0,0,false))))
else
(grd (0 ≤ v4.getD v5.toNat 0 ∧ v4.getD v5.toNat 0 < (a0.length : Int)) <|
(m_impl_AddRat v6 v7 ((a0.getD ((v4.getD v5.toNat 0).toNat) ⟨0,0⟩).num) ((a0.getD ((v4.getD v5.toNat 0).toNat) ⟨0,0⟩).den)).bind fun (v8,v9,v10) =>
bif !v10 then
(some (.inr (.inr (0,0,false))))
else
(some (.inl (IntKind.i64.wrap (v5 + 1),v8,v9)))))
else
(some (.inr (.inl (v6,v7)))))
noncomputable def m_impl_ShareOf (a0 : List Q) (a1 : Int) : Option (Int × Int × Bool) :=
(m_impl_within a1 (0 : Int) (31 : Int)).bind fun v1 =>
bif !v1 then
(some (0,0,false))
else
((m_impl_whole (0 : Int)).bind fun (v2,v3) =>
(m_impl_MembersOf a1).bind fun v4 =>
(iter (l_impl_ShareOf_0 a0 v4) ((0 : Int),v2,v3)).bind fun
| (.inl (v11,v12)) => (
some (v11,v12,true))
| (.inr r) => some r)
theorem W44 (a0 : List Q) (a1 : Int) (r : Int × Int × Bool) (h : m_impl_ShareOf a0 a1 = some r) : AM.Spec Try.prog 31 [.list (.rats a0),.i a1] [] (.tuple [.agg [.i r.1,.i r.2.1],.bool r.2.2]) [] := by
 refine spec_of (E := E215) Try.func31 rfl rfl rfl rfl ?_
 refine Tri.f 1 [] [.keep [0,1,4] [4]] rfl trivial ?_
 obtain ⟨v1,hk1,h⟩ := bind_some h
 refine Tri.f 1 [.v (.bool v1)] [.keep [0,1,4,13] [4]] rfl ⟨fun _ => W28 a1 (0 : Int) (31 : Int) v1 hk1,trivial⟩ ?_
 rcases bif_some h with ⟨hd2,h⟩ | ⟨hd2,h⟩
 ·refine Tri.f 2 [.g true] [.keep [4,5] [4]] rfl ⟨hd2,trivial⟩ ?_
  cases h
  exact Tri.ret rfl ⟨.inl rfl,rfl,rfl⟩
 ·obtain ⟨⟨v2,v3⟩,hk3,h⟩ := bind_some h
  refine Tri.f 2 [.g false,.v (.agg [.i v2,.i v3])] [.keep [0,1,4,6] [4,6]] rfl ⟨fun _ => W39 (0 : Int) (v2,v3) hk3,hd2,trivial⟩ ?_
  obtain ⟨v4,hk4,h⟩ := bind_some h
  refine Tri.f 1 [.r ⟨[],.sl 1100 0,[(1100,.arr 3 0 0 (.ints v4))]⟩] [.keep [0,4,6,17,18,19] [4,6,1100]] rfl ⟨fun _ => (W41 a1 v4 hk4).swap 1000 1100,trivial⟩ ?_
  obtain ⟨x1,hk11,h⟩ := bind_some h
  refine Tri.loop (K1 := [.code [(3,0),(1,0),(0,0)] 0]) (K2 := [.blk 0,.code [] 4]) (fun (v5,v6,v7) => ⟨[(0,.list (.rats a0)),(4,.ptr 4 0),(6,.ptr 6 0),(17,.sl 1100 0),(18,.i (v4.length : Int)),(19,.i v5)],[(4,.box [.i 0,.i 0]),(6,.box [.i v6,.i v7]),(1100,.arr 3 0 0 (.ints v4))]⟩) (fun x e σ' => match x with | (.inl (v11,v12)) => e = .exit 0 ∧ σ' = ⟨[(4,.ptr 4 0),(6,.ptr 6 0)],[(4,.box [.i 0,.i 0]),(6,.box [.i v11,.i v12])]⟩ | (.inr r) => e = .ret ∧ K130 r σ') hk11 rfl rfl ?_ ?_
  ·intro s x hs
   clear h
   have h := hs
   clear hs
   obtain ⟨v5,v6,v7⟩ := s
   refine Tri.f 1 [] [.keep [0,4,6,17,18,19,20] [4,6,1100]] rfl trivial ?_
   rcases bif_some h with ⟨hd5,h⟩ | ⟨hd5,h⟩
   ·obtain ⟨hg6,h⟩ := grd_some h
    refine Tri.f 3 [.g true] [.keep [0,4,6,8,17,18,19,26] [4,6,1100]] rfl ⟨hg6,hd5,trivial⟩ ?_
    rcases bif_some h with ⟨hd7,h⟩ | ⟨hd7,h⟩
    ·refine Tri.f 2 [.g true] [.keep [4,5] [4]] rfl ⟨hd7,trivial⟩ ?_
     cases h
     exact Tri.ret rfl ⟨nofun,rfl,rfl,rfl⟩
    ·obtain ⟨hg8,h⟩ := grd_some h
     obtain ⟨⟨v8,v9,v10⟩,hk9,h⟩ := bind_some h
     refine Tri.f 3 [.g false,.v (.tuple [.agg [.i v8,.i v9],.bool v10])] [.keep [0,4,6,9,17,18,19,38] [4,6,9,1100]] rfl ⟨fun _ => W43 v6 v7 ((a0.getD ((v4.getD v5.toNat 0).toNat) ⟨0,0⟩).num) ((a0.getD ((v4.getD v5.toNat 0).toNat) ⟨0,0⟩).den) (v8,v9,v10) hk9,hg8,hd7,trivial⟩ ?_
     rcases bif_some h with ⟨hd10,h⟩ | ⟨hd10,h⟩
     ·refine Tri.f 2 [.g true] [.keep [4,5] [4]] rfl ⟨hd10,trivial⟩ ?_
      cases h
      exact Tri.ret rfl ⟨nofun,rfl,rfl,rfl⟩
     ·refine Tri.f 3 [.g false] [.keep [0,4,6,17,18,19] [4,6,1100]] rfl ⟨hd10,trivial⟩ ?_
      cases h
      exact Tri.nil ⟨rfl,rfl⟩
   ·refine Tri.f 1 [.g false] [.keep [4,6] [4,6]] rfl ⟨hd5,trivial⟩ ?_
    cases h
    exact Tri.out 0 rfl ⟨nofun,rfl,rfl⟩
  ·intro e σ' hne hq
   rcases x1 with ⟨v11,v12⟩ | r
   ·obtain ⟨rfl,rfl⟩ := hq
    refine TriX.exit (K' := [.code [] 4]) rfl ?_
    refine Tri.f 1 [] [.keep [4,5] [4]] rfl trivial ?_
    cases h
    exact Tri.ret rfl ⟨.inl rfl,rfl,rfl⟩
   ·obtain ⟨rfl,hq⟩ := hq
    cases h
    exact TriX.ret ⟨.inl rfl,hq⟩
noncomputable def E216 : Env := ⟨Try.prog,tys,(Try.f56.body).getD .skip,14,tysOk,mixedOk⟩
abbrev K131 (r : Int) (σ' : ASt) : Prop := isRes E216.T Try.f56 (.i r) [] σ'
noncomputable def m_impl_GrandValue (a0 : Int) (a1 : List Int) : Option Int :=
(m_impl_IsValidGame a0 a1).bind fun v1 =>
bif !v1 then
(some (0 : Int))
else
(grd (0 ≤ IntKind.i64.wrap ((a1.length : Int) - 1) ∧ IntKind.i64.wrap ((a1.length : Int) - 1) < (a1.length : Int)) <|
some (a1.getD ((IntKind.i64.wrap ((a1.length : Int) - 1)).toNat) 0))
theorem W45 (a0 : Int) (a1 : List Int) (r : Int) (h : m_impl_GrandValue a0 a1 = some r) : AM.Spec Try.prog 56 [.agg [.i a0,.list (.ints a1)]] [] (.i r) [] := by
 refine spec_of (E := E216) Try.func56 rfl rfl rfl rfl ?_
 refine Tri.f 1 [] [.keep [1] [1]] rfl trivial ?_
 obtain ⟨v1,hk1,h⟩ := bind_some h
 refine Tri.f 1 [.v (.bool v1)] [.keep [1,5] [1]] rfl ⟨fun _ => W32 a0 a1 v1 hk1,trivial⟩ ?_
 rcases bif_some h with ⟨hd2,h⟩ | ⟨hd2,h⟩
 ·refine Tri.f 2 [.g true] [.keep [2] []] rfl ⟨hd2,trivial⟩ ?_
  cases h
  exact Tri.ret rfl ⟨.inl rfl,rfl,rfl⟩
 ·obtain ⟨hg3,h⟩ := grd_some h
  refine Tri.f 2 [.g false] [.keep [2] []] rfl ⟨hg3,hd2,trivial⟩ ?_
  cases h
  exact Tri.ret rfl ⟨.inl rfl,rfl,rfl⟩
noncomputable def E217 : Env := ⟨Try.prog,tys,(Try.f24.body).getD .skip,39,tysOk,mixedOk⟩
abbrev K132 (r : Bool) (σ' : ASt) : Prop := isRes E217.T Try.f24 (.bool r) [] σ'
noncomputable def m_impl_IsPayoff (a0 : Int) (a1 : List Int) (a2 : List Q) : Option Bool :=
(m_impl_IsValidGame a0 a1).bind fun v1 =>
bif !v1 then
(some false)
else
(bif (a2.length : Int) != a0 then
(some false)
else
((m_impl_AllValid a2).bind fun v2 =>
bif !v2 then
(some false)
else
((m_impl_ShareOf a2 (IntKind.i64.wrap ((a1.length : Int) - 1))).bind fun (v3,v4,v5) =>
bif v5 then
((m_impl_GrandValue a0 a1).bind fun v6 =>
(m_impl_whole v6).bind fun (v7,v8) =>
some (v3 == v7 && v4 == v8))
else
(some false))))
theorem W46 (a0 : Int) (a1 : List Int) (a2 : List Q) (r : Bool) (h : m_impl_IsPayoff a0 a1 a2 = some r) : AM.Spec Try.prog 24 [.agg [.i a0,.list (.ints a1)],.list (.rats a2)] [] (.bool r) [] := by
 refine spec_of (E := E217) Try.func24 rfl rfl rfl rfl ?_
 refine Tri.f 1 [] [.keep [1,2] [2]] rfl trivial ?_
 obtain ⟨v1,hk1,h⟩ := bind_some h
 rcases bif_some h with ⟨hd2,h⟩ | ⟨hd2,h⟩
 ·refine Tri.f 1 [.v (.bool v1),.g true,.g true] [.keep [1,2,21] [2]] rfl ⟨rfl,hd2,fun _ => W32 a0 a1 v1 hk1,trivial⟩ ?_
  refine Tri.f 2 [.g true] [.keep [4] []] rfl ⟨rfl,trivial⟩ ?_
  cases h
  exact Tri.ret rfl ⟨.inl rfl,rfl,rfl⟩
 ·rcases bif_some h with ⟨hd3,h⟩ | ⟨hd3,h⟩
  ·refine Tri.f 1 [.v (.bool v1),.g false,.g true] [.keep [1,2,21] [2]] rfl ⟨hd3,hd2,fun _ => W32 a0 a1 v1 hk1,trivial⟩ ?_
   refine Tri.f 2 [.g true] [.keep [4] []] rfl ⟨rfl,trivial⟩ ?_
   cases h
   exact Tri.ret rfl ⟨.inl rfl,rfl,rfl⟩
  ·obtain ⟨v2,hk4,h⟩ := bind_some h
   refine Tri.f 1 [.v (.bool v1),.g false,.g false,.v (.bool v2)] [.keep [1,2,21] [2]] rfl ⟨fun _ => W38 a2 v2 hk4,hd3,hd2,fun _ => W32 a0 a1 v1 hk1,trivial⟩ ?_
   rcases bif_some h with ⟨hd5,h⟩ | ⟨hd5,h⟩
   ·refine Tri.f 2 [.g true] [.keep [4] []] rfl ⟨hd5,trivial⟩ ?_
    cases h
    exact Tri.ret rfl ⟨.inl rfl,rfl,rfl⟩
   ·obtain ⟨⟨v3,v4,v5⟩,hk6,h⟩ := bind_some h
    refine Tri.f 2 [.g false,.v (.tuple [.agg [.i v3,.i v4],.bool v5])] [.keep [2,5,6] [2,5]] rfl ⟨fun _ => W44 a2 (IntKind.i64.wrap ((a1.length : Int) - 1)) (v3,v4,v5) hk6,hd5,trivial⟩ ?_
    rcases bif_some h with ⟨hd7,h⟩ | ⟨hd7,h⟩
    ·obtain ⟨v6,hk8,h⟩ := bind_some h
     obtain ⟨⟨v7,v8⟩,hk9,h⟩ := bind_some h
     refine Tri.f 1 [.g true,.v (.i v6),.v (.agg [.i v7,.i v8])] [.keep [4] []] rfl ⟨fun _ => W39 v6 (v7,v8) hk9,fun _ => W45 a0 a1 v6 hk8,hd7,trivial⟩ ?_
     cases h
     exact Tri.ret rfl ⟨.inl rfl,rfl,rfl⟩
    ·refine Tri.f 1 [.g false] [.keep [4] []] rfl ⟨hd7,trivial⟩ ?_
     cases h
     exact Tri.ret rfl ⟨.inl rfl,rfl,rfl⟩
noncomputable def E218 : Env := ⟨Try.prog,tys,(Try.f74.body).getD .skip,34,tysOk,mixedOk⟩
abbrev K133 (r : Int × Int × Bool) (σ' : ASt) : Prop := isRes E218.T Try.f74 (.tuple [.agg [.i r.1,.i r.2.1],.bool r.2.2]) [] σ'
noncomputable def m_impl_SubRat (a0 a1 a2 a3 : Int) : Option (Int × Int × Bool) :=
(m_impl_IsValidRat a0 a1).bind fun v1 =>
bif !v1 then
(some (0,0,false))
else
((m_impl_IsValidRat a2 a3).bind fun v2 =>
bif !v2 then
(some (0,0,false))
else
((m_impl_RatOf (IntKind.i64.wrap ((IntKind.i64.wrap (a0 * a3)) - (IntKind.i64.wrap (a2 * a1)))) (IntKind.i64.wrap (a1 * a3))).bind fun (v3,v4,v5) =>
some (v3,v4,v5)))
theorem W47 (a0 a1 a2 a3 : Int) (r : Int × Int × Bool) (h : m_impl_SubRat a0 a1 a2 a3 = some r) : AM.Spec Try.prog 74 [.agg [.i a0,.i a1],.agg [.i a2,.i a3]] [] (.tuple [.agg [.i r.1,.i r.2.1],.bool r.2.2]) [] := by
 refine spec_of (E := E218) Try.func74 rfl rfl rfl rfl ?_
 refine Tri.f 1 [] [.keep [2,3,4] [2,3,4]] rfl trivial ?_
 obtain ⟨v1,hk1,h⟩ := bind_some h
 rcases bif_some h with ⟨hd2,h⟩ | ⟨hd2,h⟩
 ·refine Tri.f 1 [.v (.bool v1),.g true] [.keep [2,3,4,13] [2,3,4]] rfl ⟨hd2,fun _ => W34 a0 a1 v1 hk1,trivial⟩ ?_
  refine Tri.f 2 [.g true] [.keep [4,5] [4]] rfl ⟨rfl,trivial⟩ ?_
  cases h
  exact Tri.ret rfl ⟨.inl rfl,rfl,rfl⟩
 ·obtain ⟨v2,hk3,h⟩ := bind_some h
  refine Tri.f 1 [.v (.bool v1),.g false,.v (.bool v2)] [.keep [2,3,4,13] [2,3,4]] rfl ⟨fun _ => W34 a2 a3 v2 hk3,hd2,fun _ => W34 a0 a1 v1 hk1,trivial⟩ ?_
  rcases bif_some h with ⟨hd4,h⟩ | ⟨hd4,h⟩
  ·refine Tri.f 2 [.g true] [.keep [4,5] [4]] rfl ⟨hd4,trivial⟩ ?_
   cases h
   exact Tri.ret rfl ⟨.inl rfl,rfl,rfl⟩
  ·obtain ⟨⟨v3,v4,v5⟩,hk5,h⟩ := bind_some h
   refine Tri.f 2 [.g false,.v (.tuple [.agg [.i v3,.i v4],.bool v5])] [.keep [4,5] [4]] rfl ⟨fun _ => W42 (IntKind.i64.wrap ((IntKind.i64.wrap (a0 * a3)) - (IntKind.i64.wrap (a2 * a1)))) (IntKind.i64.wrap (a1 * a3)) (v3,v4,v5) hk5,hd4,trivial⟩ ?_
   cases h
   exact Tri.ret rfl ⟨.inl rfl,rfl,rfl⟩
noncomputable def E219 : Env := ⟨Try.prog,tys,(Try.f34.body).getD .skip,42,tysOk,mixedOk⟩
abbrev K134 (r : Int × Int × Bool) (σ' : ASt) : Prop := isRes E219.T Try.f34 (.tuple [.agg [.i r.1,.i r.2.1],.bool r.2.2]) [] σ'
noncomputable def m_impl_ExcessOf (a0 : Int) (a1 : List Int) (a2 : List Q) (a3 : Int) : Option (Int × Int × Bool) :=
(m_impl_IsValidGame a0 a1).bind fun v1 =>
bif !v1 then
(some (0,0,false))
else
((m_impl_within a3 (0 : Int) (IntKind.i64.wrap ((a1.length : Int) - 1))).bind fun v2 =>
bif !v2 then
(some (0,0,false))
else
((m_impl_ShareOf a2 a3).bind fun (v3,v4,v5) =>
bif !v5 then
(some (0,0,false))
else
(grd (0 ≤ a3 ∧ a3 < (a1.length : Int)) <|
(m_impl_whole (a1.getD a3.toNat 0)).bind fun (v6,v7) =>
(m_impl_SubRat v6 v7 v3 v4).bind fun (v8,v9,v10) =>
some (v8,v9,v10))))
theorem W48 (a0 : Int) (a1 : List Int) (a2 : List Q) (a3 : Int) (r : Int × Int × Bool) (h : m_impl_ExcessOf a0 a1 a2 a3 = some r) : AM.Spec Try.prog 34 [.agg [.i a0,.list (.ints a1)],.list (.rats a2),.i a3] [] (.tuple [.agg [.i r.1,.i r.2.1],.bool r.2.2]) [] := by
 refine spec_of (E := E219) Try.func34 rfl rfl rfl rfl ?_
 refine Tri.f 1 [] [.keep [1,2,3,6] [3,6]] rfl trivial ?_
 obtain ⟨v1,hk1,h⟩ := bind_some h
 rcases bif_some h with ⟨hd2,h⟩ | ⟨hd2,h⟩
 ·refine Tri.f 1 [.v (.bool v1),.g true] [.keep [1,2,3,6,21] [3,6]] rfl ⟨hd2,fun _ => W32 a0 a1 v1 hk1,trivial⟩ ?_
  refine Tri.f 2 [.g true] [.keep [6,7] [6]] rfl ⟨rfl,trivial⟩ ?_
  cases h
  exact Tri.ret rfl ⟨.inl rfl,rfl,rfl⟩
 ·obtain ⟨v2,hk3,h⟩ := bind_some h
  refine Tri.f 1 [.v (.bool v1),.g false,.v (.bool v2)] [.keep [1,2,3,6,21] [3,6]] rfl ⟨fun _ => W28 a3 (0 : Int) (IntKind.i64.wrap ((a1.length : Int) - 1)) v2 hk3,hd2,fun _ => W32 a0 a1 v1 hk1,trivial⟩ ?_
  rcases bif_some h with ⟨hd4,h⟩ | ⟨hd4,h⟩
  ·refine Tri.f 2 [.g true] [.keep [6,7] [6]] rfl ⟨hd4,trivial⟩ ?_
   cases h
   exact Tri.ret rfl ⟨.inl rfl,rfl,rfl⟩
  ·obtain ⟨⟨v3,v4,v5⟩,hk5,h⟩ := bind_some h
   refine Tri.f 3 [.g false,.v (.tuple [.agg [.i v3,.i v4],.bool v5])] [.keep [2,3,6,8,30] [3,6,8]] rfl ⟨fun _ => W44 a2 a3 (v3,v4,v5) hk5,hd4,trivial⟩ ?_
   rcases bif_some h with ⟨hd6,h⟩ | ⟨hd6,h⟩
   ·refine Tri.f 2 [.g true] [.keep [6,7] [6]] rfl ⟨hd6,trivial⟩ ?_
    cases h
    exact Tri.ret rfl ⟨.inl rfl,rfl,rfl⟩
   ·obtain ⟨hg7,h⟩ := grd_some h
    obtain ⟨⟨v6,v7⟩,hk8,h⟩ := bind_some h
    obtain ⟨⟨v8,v9,v10⟩,hk9,h⟩ := bind_some h
    refine Tri.f 2 [.g false,.v (.agg [.i v6,.i v7]),.v (.tuple [.agg [.i v8,.i v9],.bool v10])] [.keep [6,7] [6]] rfl ⟨fun _ => W47 v6 v7 v3 v4 (v8,v9,v10) hk9,fun _ => W39 (a1.getD a3.toNat 0) (v6,v7) hk8,hg7,hd6,trivial⟩ ?_
    cases h
    exact Tri.ret rfl ⟨.inl rfl,rfl,rfl⟩
noncomputable def E220 : Env := ⟨Try.prog,tys,(Try.f43.body).getD .skip,39,tysOk,mixedOk⟩
abbrev K135 (r : Bool × (List Q)) (σ' : ASt) : Prop := isRes E220.T Try.f43 (.tuple [.sl 1000 0,.bool r.1]) [(1000,.arr 44 0 0 (.rats r.2))] σ'
noncomputable def l_impl_excesses_0 (a0 : Int) (a1 : List Int) (a2 : List Q) (a4 : Int) : (Int × (List Q)) → Option ((Int × (List Q)) ⊕ ((List Q) ⊕ ((Bool × (List Q)))))
 | (v2,v3) => (
bif decide (v2 ≤ a4) then
((m_impl_ExcessOf a0 a1 a2 v2).bind fun (v4,v5,v6) =>
bif !v6 then
(some (.inr (.inr (false,[]))))
else
(grd (v3.length + ([⟨v4,v5⟩] : List Q).length ≤ room) <|
some (.inl (IntKind.i64.wrap (v2 + 1),v3 ++ [⟨v4,v5⟩]))))
else
(some (.inr (.inl v3))))
noncomputable def m_impl_excesses (a0 : Int) (a1 : List Int) (a2 : List Q) (a3 a4 : Int) : Option (Bool × (List Q)) :=
(m_impl_IsPayoff a0 a1 a2).bind fun v1 =>
bif !v1 then
(some (false,[]))
else
((iter (l_impl_excesses_0 a0 a1 a2 a4) (a3,[])).bind fun
| (.inl v7) => (
some (true,v7))
| (.inr r) => some r)
theorem W49 (a0 : Int) (a1 : List Int) (a2 : List Q) (a3 a4 : Int) (r : Bool × (List Q)) (h : m_impl_excesses a0 a1 a2 a3 a4 = some r) : AM.Spec Try.prog 43 [.agg [.i a0,.list (.ints a1)],.list (.rats a2),.i a3,.i a4] [] (.tuple [.sl 1000 0,.bool r.1]) [(1000,.arr 44 0 0 (.rats r.2))] := by
 refine spec_of (E := E220) Try.func43 rfl rfl rfl rfl ?_
 refine Tri.f 1 [] [.keep [1,2,3,4] [4]] rfl trivial ?_
 obtain ⟨v1,hk1,h⟩ := bind_some h
 refine Tri.f 1 [.v (.bool v1)] [.keep [1,2,3,4,17] [4]] rfl ⟨fun _ => W46 a0 a1 a2 v1 hk1,trivial⟩ ?_
 rcases bif_some h with ⟨hd2,h⟩ | ⟨hd2,h⟩
 ·refine Tri.f 2 [.g true] [.own 8 [] 1100 44,.swap 1100 1000,.keep [8,9] [1000]] rfl ⟨hd2,trivial⟩ ?_
  cases h
  exact Tri.ret rfl ⟨.inl rfl,rfl,rfl⟩
 ·refine Tri.f 3 [.g false] [.keep [1,3,4,10,11] [4,18]] rfl ⟨hd2,trivial⟩ ?_
  obtain ⟨x1,hk7,h⟩ := bind_some h
  refine Tri.loop (K1 := [.code [(3,0),(1,0),(0,0)] 0]) (K2 := [.blk 0,.code [] 4]) (fun (v2,v3) => ⟨[(1,.list (.rats a2)),(3,.i a4),(4,.ptr 4 0),(10,.sl 18 0),(11,.i v2)],[(4,.box [.i a0,.list (.ints a1)]),(18,.arr 44 0 0 (.rats v3))]⟩) (fun x e σ' => match x with | (.inl v7) => e = .exit 0 ∧ σ' = ⟨[(10,.sl 18 0)],[(18,.arr 44 0 0 (.rats v7))]⟩ | (.inr r) => e = .ret ∧ K135 r σ') hk7 rfl rfl ?_ ?_
  ·intro s x hs
   clear h
   have h := hs
   clear hs
   obtain ⟨v2,v3⟩ := s
   refine Tri.f 1 [] [.keep [1,3,4,10,11,22] [4,18]] rfl trivial ?_
   rcases bif_some h with ⟨hd3,h⟩ | ⟨hd3,h⟩
   ·obtain ⟨⟨v4,v5,v6⟩,hk4,h⟩ := bind_some h
    refine Tri.f 3 [.g true,.v (.tuple [.agg [.i v4,.i v5],.bool v6])] [.keep [1,3,4,10,11,12,33] [4,12,18]] rfl ⟨fun _ => W48 a0 a1 a2 v2 (v4,v5,v6) hk4,hd3,trivial⟩ ?_
    rcases bif_some h with ⟨hd5,h⟩ | ⟨hd5,h⟩
    ·refine Tri.f 2 [.g true] [.own 8 [] 1101 44,.swap 1101 1000,.keep [8,9] [1000]] rfl ⟨hd5,trivial⟩ ?_
     cases h
     exact Tri.ret rfl ⟨nofun,rfl,rfl,rfl⟩
    ·obtain ⟨hg6,h⟩ := grd_some h
     refine Tri.f 3 [.g false] [.rever 18,.keep [1,3,4,10,11] [4,18]] rfl ⟨hg6,hd5,trivial⟩ ?_
     cases h
     exact Tri.nil ⟨rfl,rfl⟩
   ·refine Tri.f 1 [.g false] [.keep [10] [18]] rfl ⟨hd3,trivial⟩ ?_
    cases h
    exact Tri.out 0 rfl ⟨nofun,rfl,rfl⟩
  ·intro e σ' hne hq
   rcases x1 with v7 | r
   ·obtain ⟨rfl,rfl⟩ := hq
    refine TriX.exit (K' := [.code [] 4]) rfl ?_
    refine Tri.f 1 [] [.swap 18 1000,.keep [8,9] [1000]] rfl trivial ?_
    cases h
    exact Tri.ret rfl ⟨.inl rfl,rfl,rfl⟩
   ·obtain ⟨rfl,hq⟩ := hq
    cases h
    exact TriX.ret ⟨.inl rfl,hq⟩
noncomputable def E221 : Env := ⟨Try.prog,tys,(Try.f51.body).getD .skip,6,tysOk,mixedOk⟩
abbrev K136 (r : Bool) (σ' : ASt) : Prop := isRes E221.T Try.f51 (.bool r) [] σ'
noncomputable def m_impl_InCore_1 (a0 _a1 : Int) : Option Bool :=
some (decide (a0 > 0))
theorem W50 (a0 a1 : Int) (r : Bool) (h : m_impl_InCore_1 a0 a1 = some r) : AM.Spec Try.prog 51 [.agg [.i a0,.i a1]] [] (.bool r) [] := by
 refine spec_of (E := E221) Try.func51 rfl rfl rfl rfl ?_
 refine Tri.f 2 [] [.keep [2] []] rfl trivial ?_
 cases h
 exact Tri.ret rfl ⟨.inl rfl,rfl,rfl⟩
abbrev K137 (r : Int) (σ' : ASt) : Prop := isRes E207.T Try.f85 (.i r) [] σ'
noncomputable def l_slices_IndexFunc_impl_Rat_impl_Rat_impl_InCore_1_0 (a0 : List Q) (v1 : Int) : Option (Int ⊕ (Unit ⊕ Int)) :=
bif decide (v1 < (a0.length : Int)) then
(grd (0 ≤ v1 ∧ v1 < (a0.length : Int)) <|
(m_impl_InCore_1 ((a0.getD v1.toNat ⟨0,0⟩).num) ((a0.getD v1.toNat ⟨0,0⟩).den)).bind fun v2 =>
bif v2 then
(some (.inr (.inr v1)))
else
(some (.inl (IntKind.i64.wrap (v1 + 1)))))
else
(some (.inr (.inl ())))
noncomputable def m_slices_IndexFunc_impl_Rat_impl_Rat_impl_InCore_1 (a0 : List Q) : Option Int :=
(iter (l_slices_IndexFunc_impl_Rat_impl_Rat_impl_InCore_1_0 a0) (0 : Int)).bind fun
| (.inl _) => (
some (-1 : Int))
| (.inr r) => some r
theorem W51 (a0 : List Q) (r : Int) (h : m_slices_IndexFunc_impl_Rat_impl_Rat_impl_InCore_1 a0 = some r) : AM.Spec Try.prog 85 [.list (.rats a0),.func 51 [] []] [] (.i r) [] := by
 refine spec_of (E := E207) Try.func85 rfl rfl rfl rfl ?_
 refine Tri.f 2 [] [.keep [0,1,7,8] []] rfl trivial ?_
 obtain ⟨x1,hk5,h⟩ := bind_some h
 refine Tri.loop (K1 := [.code [(1,0),(1,0),(0,0)] 0]) (K2 := [.blk 0,.code [] 2]) (fun v1 => ⟨[(0,.list (.rats a0)),(1,.func 51 [] []),(7,.i (a0.length : Int)),(8,.i v1)],[]⟩) (fun x e σ' => match x with | (.inl _) => e = .exit 0 ∧ σ' = ⟨[],[]⟩ | (.inr r) => e = .ret ∧ K137 r σ') hk5 rfl rfl ?_ ?_
 ·intro v1 x hs
  clear h
  have h := hs
  clear hs
  refine Tri.f 1 [] [.keep [0,1,7,8,9] []] rfl trivial ?_
  rcases bif_some h with ⟨hd1,h⟩ | ⟨hd1,h⟩
  ·refine Tri.f 2 [.g true] [.keep [0,1,5,7,8] []] rfl ⟨hd1,trivial⟩ ?_
   obtain ⟨hg2,h⟩ := grd_some h
   obtain ⟨v2,hk3,h⟩ := bind_some h
   refine Tri.f 1 [.v (.bool v2)] [.keep [0,1,5,7,8,16] []] rfl ⟨fun _ => W50 ((a0.getD v1.toNat ⟨0,0⟩).num) ((a0.getD v1.toNat ⟨0,0⟩).den) v2 hk3,hg2,trivial⟩ ?_
   rcases bif_some h with ⟨hd4,h⟩ | ⟨hd4,h⟩
   ·refine Tri.f 2 [.g true] [.keep [4] []] rfl ⟨hd4,trivial⟩ ?_
    cases h
    exact Tri.ret rfl ⟨nofun,rfl,rfl,rfl⟩
   ·refine Tri.f 2 [.g false] [.keep [0,1,7,8] []] rfl ⟨hd4,trivial⟩ ?_
    cases h
    exact Tri.nil ⟨rfl,rfl⟩
  ·refine Tri.f 1 [.g false] [.keep [] []] rfl ⟨hd1,trivial⟩ ?_
   cases h
   exact Tri.out 0 rfl ⟨nofun,rfl,rfl⟩
 ·intro e σ' hne hq
  rcases x1 with _ | r
  ·obtain ⟨rfl,rfl⟩ := hq
   refine TriX.exit (K' := [.code [] 2]) rfl ?_
   refine Tri.f 1 [] [.keep [4] []] rfl trivial ?_
   cases h
   exact Tri.ret rfl ⟨.inl rfl,rfl,rfl⟩
  ·obtain ⟨rfl,hq⟩ := hq
   cases h
   exact TriX.ret ⟨.inl rfl,hq⟩
abbrev K138 (r : Bool) (σ' : ASt) : Prop := isRes E208.T Try.f50 (.bool r) [] σ'
noncomputable def m_slices_ContainsFunc_impl_Rat_impl_Rat_impl_InCore_1 (a0 : List Q) : Option Bool :=
(m_slices_IndexFunc_impl_Rat_impl_Rat_impl_InCore_1 a0).bind fun v1 =>
some (decide (v1 ≥ 0))
theorem W52 (a0 : List Q) (r : Bool) (h : m_slices_ContainsFunc_impl_Rat_impl_Rat_impl_InCore_1 a0 = some r) : AM.Spec Try.prog 50 [.list (.rats a0),.func 51 [] []] [] (.bool r) [] := by
 refine spec_of (E := E208) Try.func50 rfl rfl rfl rfl ?_
 refine Tri.f 1 [] [.keep [0,1] []] rfl trivial ?_
 obtain ⟨v1,hk1,h⟩ := bind_some h
 refine Tri.f 1 [.v (.i v1)] [.keep [4] []] rfl ⟨fun _ => W51 a0 v1 hk1,trivial⟩ ?_
 cases h
 exact Tri.ret rfl ⟨.inl rfl,rfl,rfl⟩
noncomputable def E222 : Env := ⟨Try.prog,tys,(Try.f18.body).getD .skip,23,tysOk,mixedOk⟩
abbrev K139 (r : Bool) (σ' : ASt) : Prop := isRes E222.T Try.f18 (.bool r) [] σ'
noncomputable def m_impl_InCore (a0 : Int) (a1 : List Int) (a2 : List Q) : Option Bool :=
(m_impl_excesses a0 a1 a2 (0 : Int) (IntKind.i64.wrap ((a1.length : Int) - 1))).bind fun (v1,v2) =>
bif v1 then
((m_slices_ContainsFunc_impl_Rat_impl_Rat_impl_InCore_1 v2).bind fun v3 =>
some (!v3))
else
(some false)
theorem W53 (a0 : Int) (a1 : List Int) (a2 : List Q) (r : Bool) (h : m_impl_InCore a0 a1 a2 = some r) : AM.Spec Try.prog 18 [.agg [.i a0,.list (.ints a1)],.list (.rats a2)] [] (.bool r) [] := by
 refine spec_of (E := E222) Try.func18 rfl rfl rfl rfl ?_
 refine Tri.f 1 [] [.keep [1,2] [2]] rfl trivial ?_
 obtain ⟨⟨v1,v2⟩,hk1,h⟩ := bind_some h
 rcases bif_some h with ⟨hd2,h⟩ | ⟨hd2,h⟩
 ·obtain ⟨v3,hk3,h⟩ := bind_some h
  refine Tri.f 2 [.r ⟨[],.tuple [.sl 1100 0,.bool v1],[(1100,.arr 44 0 0 (.rats v2))]⟩,.g true,.v (.bool v3)] [.keep [4] []] rfl ⟨fun _ => W52 v2 v3 hk3,hd2,fun _ => (W49 a0 a1 a2 (0 : Int) (IntKind.i64.wrap ((a1.length : Int) - 1)) (v1,v2) hk1).swap 1000 1100,trivial⟩ ?_
  cases h
  exact Tri.ret rfl ⟨.inl rfl,rfl,rfl⟩
 ·refine Tri.f 2 [.r ⟨[],.tuple [.sl 1100 0,.bool v1],[(1100,.arr 44 0 0 (.rats v2))]⟩,.g false] [.keep [4] []] rfl ⟨hd2,fun _ => (W49 a0 a1 a2 (0 : Int) (IntKind.i64.wrap ((a1.length : Int) - 1)) (v1,v2) hk1).swap 1000 1100,trivial⟩ ?_
  cases h
  exact Tri.ret rfl ⟨.inl rfl,rfl,rfl⟩
noncomputable def E223 : Env := ⟨Try.prog,tys,(Try.f28.body).getD .skip,33,tysOk,mixedOk⟩
abbrev K140 (r : Int) (σ' : ASt) : Prop := isRes E223.T Try.f28 (.i r) [] σ'
noncomputable def m_impl_CompareRat (a0 a1 a2 a3 : Int) : Option Int :=
(m_impl_IsValidRat a0 a1).bind fun v1 =>
bif !v1 then
(some (0 : Int))
else
((m_impl_IsValidRat a2 a3).bind fun v2 =>
bif !v2 then
(some (0 : Int))
else
(bif decide ((IntKind.i64.wrap (a0 * a3)) < (IntKind.i64.wrap (a2 * a1))) then
(some (-1 : Int))
else
(bif decide ((IntKind.i64.wrap (a0 * a3)) > (IntKind.i64.wrap (a2 * a1))) then
(some (1 : Int))
else
(some (0 : Int)))))
theorem W54 (a0 a1 a2 a3 r : Int) (h : m_impl_CompareRat a0 a1 a2 a3 = some r) : AM.Spec Try.prog 28 [.agg [.i a0,.i a1],.agg [.i a2,.i a3]] [] (.i r) [] := by
 refine spec_of (E := E223) Try.func28 rfl rfl rfl rfl ?_
 refine Tri.f 1 [] [.keep [2,3] [2,3]] rfl trivial ?_
 obtain ⟨v1,hk1,h⟩ := bind_some h
 rcases bif_some h with ⟨hd2,h⟩ | ⟨hd2,h⟩
 ·refine Tri.f 1 [.v (.bool v1),.g true] [.keep [2,3,14] [2,3]] rfl ⟨hd2,fun _ => W34 a0 a1 v1 hk1,trivial⟩ ?_
  refine Tri.f 2 [.g true] [.keep [4] []] rfl ⟨rfl,trivial⟩ ?_
  cases h
  exact Tri.ret rfl ⟨.inl rfl,rfl,rfl⟩
 ·obtain ⟨v2,hk3,h⟩ := bind_some h
  refine Tri.f 1 [.v (.bool v1),.g false,.v (.bool v2)] [.keep [2,3,14] [2,3]] rfl ⟨fun _ => W34 a2 a3 v2 hk3,hd2,fun _ => W34 a0 a1 v1 hk1,trivial⟩ ?_
  rcases bif_some h with ⟨hd4,h⟩ | ⟨hd4,h⟩
  ·refine Tri.f 2 [.g true] [.keep [4] []] rfl ⟨hd4,trivial⟩ ?_
   cases h
   exact Tri.ret rfl ⟨.inl rfl,rfl,rfl⟩
  ·refine Tri.f 3 [.g false] [.keep [5,6,25] []] rfl ⟨hd4,trivial⟩ ?_
   rcases bif_some h with ⟨hd5,h⟩ | ⟨hd5,h⟩
   ·refine Tri.f 2 [.g true] [.keep [4] []] rfl ⟨hd5,trivial⟩ ?_
    cases h
    exact Tri.ret rfl ⟨.inl rfl,rfl,rfl⟩
   ·refine Tri.f 2 [.g false] [.keep [29] []] rfl ⟨hd5,trivial⟩ ?_
    rcases bif_some h with ⟨hd6,h⟩ | ⟨hd6,h⟩
    ·refine Tri.f 2 [.g true] [.keep [4] []] rfl ⟨hd6,trivial⟩ ?_
     cases h
     exact Tri.ret rfl ⟨.inl rfl,rfl,rfl⟩
    ·refine Tri.f 2 [.g false] [.keep [4] []] rfl ⟨hd6,trivial⟩ ?_
     cases h
     exact Tri.ret rfl ⟨.inl rfl,rfl,rfl⟩
noncomputable def E224 : Env := ⟨Try.prog,tys,(Try.f52.body).getD .skip,33,tysOk,mixedOk⟩
abbrev K141 (r : Int × Int) (σ' : ASt) : Prop := isRes E224.T Try.f52 (.agg [.i r.1,.i r.2]) [] σ'
noncomputable def l_slices_MaxFunc_impl_Rat_impl_Rat_impl_CompareRat_0 (a0 : List Q) : (Int × Int × Int) → Option ((Int × Int × Int) ⊕ ((Int × Int)))
 | (v1,v2,v3) => (
bif decide (v1 < (a0.length : Int)) then
(grd (0 ≤ v1 ∧ v1 < (a0.length : Int)) <|
(m_impl_CompareRat ((a0.getD v1.toNat ⟨0,0⟩).num) ((a0.getD v1.toNat ⟨0,0⟩).den) v2 v3).bind fun v4 =>
bif decide (v4 > 0) then
(grd (0 ≤ v1 ∧ v1 < (a0.length : Int)) <|
some (.inl (IntKind.i64.wrap (v1 + 1),(a0.getD v1.toNat ⟨0,0⟩).num,(a0.getD v1.toNat ⟨0,0⟩).den)))
else
(some (.inl (IntKind.i64.wrap (v1 + 1),v2,v3))))
else
(some (.inr (v2,v3))))
noncomputable def m_slices_MaxFunc_impl_Rat_impl_Rat_impl_CompareRat (a0 : List Q) : Option (Int × Int) :=
bif decide ((a0.length : Int) < 1) then
(none)
else
(grd ((0 : Int) ≤ (0 : Int) ∧ (0 : Int) < (a0.length : Int)) <|
(iter (l_slices_MaxFunc_impl_Rat_impl_Rat_impl_CompareRat_0 a0) ((1 : Int),(a0.getD ((0 : Int).toNat) ⟨0,0⟩).num,(a0.getD ((0 : Int).toNat) ⟨0,0⟩).den)).bind fun
| (v5,v6) => (
some (v5,v6)))
theorem W55 (a0 : List Q) (r : Int × Int) (h : m_slices_MaxFunc_impl_Rat_impl_Rat_impl_CompareRat a0 = some r) : AM.Spec Try.prog 52 [.list (.rats a0),.func 28 [] []] [] (.agg [.i r.1,.i r.2]) [] := by
 refine spec_of (E := E224) Try.func52 rfl rfl rfl rfl ?_
 refine Tri.f 2 [] [.keep [0,1,4,9] [4]] rfl trivial ?_
 rcases bif_some h with ⟨hd1,h⟩ | ⟨hd1,h⟩
 ·cases h
 ·obtain ⟨hg2,h⟩ := grd_some h
  refine Tri.f 3 [.g false] [.keep [0,1,4,5,6] [4,5]] rfl ⟨hg2,hd1,trivial⟩ ?_
  obtain ⟨x1,hk8,h⟩ := bind_some h
  refine Tri.loop (K1 := [.code [(3,0),(1,0),(0,0)] 0]) (K2 := [.blk 0,.code [] 4]) (fun (v1,v2,v3) => ⟨[(0,.list (.rats a0)),(1,.func 28 [] []),(4,.ptr 4 0),(5,.ptr 5 0),(6,.i v1)],[(4,.box [.i 0,.i 0]),(5,.box [.i v2,.i v3])]⟩) (fun x e σ' => match x with | (v5,v6) => e = .exit 0 ∧ σ' = ⟨[(4,.ptr 4 0),(5,.ptr 5 0)],[(4,.box [.i 0,.i 0]),(5,.box [.i v5,.i v6])]⟩) hk8 rfl rfl ?_ ?_
  ·intro s x hs
   clear h
   have h := hs
   clear hs
   obtain ⟨v1,v2,v3⟩ := s
   refine Tri.f 1 [] [.keep [0,1,4,5,6,17] [4,5]] rfl trivial ?_
   rcases bif_some h with ⟨hd3,h⟩ | ⟨hd3,h⟩
   ·obtain ⟨hg4,h⟩ := grd_some h
    obtain ⟨v4,hk5,h⟩ := bind_some h
    refine Tri.f 2 [.g true,.v (.i v4)] [.keep [0,1,4,5,6,27] [4,5]] rfl ⟨fun _ => W54 ((a0.getD v1.toNat ⟨0,0⟩).num) ((a0.getD v1.toNat ⟨0,0⟩).den) v2 v3 v4 hk5,hg4,hd3,trivial⟩ ?_
    rcases bif_some h with ⟨hd6,h⟩ | ⟨hd6,h⟩
    ·obtain ⟨hg7,h⟩ := grd_some h
     refine Tri.f 3 [.g true] [.keep [0,1,4,5,6] [4,5]] rfl ⟨hg7,hd6,trivial⟩ ?_
     cases h
     exact Tri.nil ⟨rfl,rfl⟩
    ·refine Tri.f 2 [.g false] [.keep [0,1,4,5,6] [4,5]] rfl ⟨hd6,trivial⟩ ?_
     cases h
     exact Tri.nil ⟨rfl,rfl⟩
   ·refine Tri.f 1 [.g false] [.keep [4,5] [4,5]] rfl ⟨hd3,trivial⟩ ?_
    cases h
    exact Tri.out 0 rfl ⟨nofun,rfl,rfl⟩
  ·intro e σ' hne hq
   obtain ⟨v5,v6⟩ := x1
   obtain ⟨rfl,rfl⟩ := hq
   refine TriX.exit (K' := [.code [] 4]) rfl ?_
   refine Tri.f 1 [] [.keep [4] [4]] rfl trivial ?_
   cases h
   exact Tri.ret rfl ⟨.inl rfl,rfl,rfl⟩
noncomputable def E225 : Env := ⟨Try.prog,tys,(Try.f19.body).getD .skip,52,tysOk,mixedOk⟩
abbrev K142 (r : Int × Int × Bool × (List Int)) (σ' : ASt) : Prop := isRes E225.T Try.f19 (.tuple [.agg [.i r.1,.i r.2.1],.sl 1000 0,.bool r.2.2.1]) [(1000,.arr 3 0 0 (.ints r.2.2.2))] σ'
noncomputable def l_impl_WorstExcess_0 (v2 : List Q) (v3 v4 : Int) : (Int × (List Int)) → Option ((Int × (List Int)) ⊕ ((List Int)))
 | (v5,v6) => (
bif decide (v5 < (v2.length : Int)) then
(grd (0 ≤ v5 ∧ v5 < (v2.length : Int)) <|
bif ((v2.getD v5.toNat ⟨0,0⟩).num) == v3 && ((v2.getD v5.toNat ⟨0,0⟩).den) == v4 then
(grd (v6.length + ([IntKind.i64.wrap (v5 + 1)] : List Int).length ≤ room) <|
some (.inl (IntKind.i64.wrap (v5 + 1),v6 ++ [IntKind.i64.wrap (v5 + 1)])))
else
(some (.inl (IntKind.i64.wrap (v5 + 1),v6))))
else
(some (.inr v6)))
noncomputable def m_impl_WorstExcess (a0 : Int) (a1 : List Int) (a2 : List Q) : Option (Int × Int × Bool × (List Int)) :=
(m_impl_excesses a0 a1 a2 (1 : Int) (IntKind.i64.wrap ((a1.length : Int) - 2))).bind fun (v1,v2) =>
bif !v1 then
(some (0,0,false,[]))
else
(bif (v2.length : Int) == 0 then
(some (0,0,false,[]))
else
((m_slices_MaxFunc_impl_Rat_impl_Rat_impl_CompareRat v2).bind fun (v3,v4) =>
(iter (l_impl_WorstExcess_0 v2 v3 v4) ((0 : Int),[])).bind fun
| v7 => (
some (v3,v4,true,v7))))
theorem W56 (a0 : Int) (a1 : List Int) (a2 : List Q) (r : Int × Int × Bool × (List Int)) (h : m_impl_WorstExcess a0 a1 a2 = some r) : AM.Spec Try.prog 19 [.agg [.i a0,.list (.ints a1)],.list (.rats a2)] [] (.tuple [.agg [.i r.1,.i r.2.1],.sl 1000 0,.bool r.2.2.1]) [(1000,.arr 3 0 0 (.ints r.2.2.2))] := by
 refine spec_of (E := E225) Try.func19 rfl rfl rfl rfl ?_
 refine Tri.f 1 [] [.keep [1,2,4] [2,4]] rfl trivial ?_
 obtain ⟨⟨v1,v2⟩,hk1,h⟩ := bind_some h
 rcases bif_some h with ⟨hd2,h⟩ | ⟨hd2,h⟩
 ·refine Tri.f 2 [.r ⟨[],.tuple [.sl 1100 0,.bool v1],[(1100,.arr 44 0 0 (.rats v2))]⟩,.g true] [.keep [4,7,29] [4,1100]] rfl ⟨hd2,fun _ => (W49 a0 a1 a2 (1 : Int) (IntKind.i64.wrap ((a1.length : Int) - 2)) (v1,v2) hk1).swap 1000 1100,trivial⟩ ?_
  refine Tri.f 2 [.g true] [.own 5 [] 1101 3,.swap 1101 1000,.keep [4,5,6] [4,1000]] rfl ⟨rfl,trivial⟩ ?_
  cases h
  exact Tri.ret rfl ⟨.inl rfl,rfl,rfl⟩
 ·refine Tri.f 2 [.r ⟨[],.tuple [.sl 1100 0,.bool v1],[(1100,.arr 44 0 0 (.rats v2))]⟩,.g false] [.keep [4,7,29] [4,1100]] rfl ⟨hd2,fun _ => (W49 a0 a1 a2 (1 : Int) (IntKind.i64.wrap ((a1.length : Int) - 2)) (v1,v2) hk1).swap 1000 1100,trivial⟩ ?_
  rcases bif_some h with ⟨hd3,h⟩ | ⟨hd3,h⟩
  ·refine Tri.f 2 [.g true] [.own 5 [] 1102 3,.swap 1102 1000,.keep [4,5,6] [4,1000]] rfl ⟨hd3,trivial⟩ ?_
   cases h
   exact Tri.ret rfl ⟨.inl rfl,rfl,rfl⟩
  ·obtain ⟨⟨v3,v4⟩,hk4,h⟩ := bind_some h
   refine Tri.f 3 [.g false,.v (.agg [.i v3,.i v4])] [.keep [4,7,9,10] [4,9,33,1100]] rfl ⟨fun _ => W55 v2 (v3,v4) hk4,hd3,trivial⟩ ?_
   refine Tri.f 1 [] [.keep [4,9,10,34,35,36] [4,9,33,1100]] rfl trivial ?_
   obtain ⟨v7,hk9,h⟩ := bind_some h
   refine Tri.loop (K1 := [.code [(5,0),(1,0),(0,0)] 0]) (K2 := [.blk 0,.code [] 6]) (fun (v5,v6) => ⟨[(4,.ptr 4 0),(9,.ptr 9 0),(10,.sl 33 0),(34,.sl 1100 0),(35,.i (v2.length : Int)),(36,.i v5)],[(4,.box [.i 0,.i 0]),(9,.box [.i v3,.i v4]),(33,.arr 3 0 0 (.ints v6)),(1100,.arr 44 0 0 (.rats v2))]⟩) (fun x e σ' => match x with | v7 => e = .exit 0 ∧ σ' = ⟨[(4,.ptr 4 0),(9,.ptr 9 0),(10,.sl 33 0)],[(4,.box [.i 0,.i 0]),(9,.box [.i v3,.i v4]),(33,.arr 3 0 0 (.ints v7))]⟩) hk9 rfl rfl ?_ ?_
   ·intro s x hs
    clear h
    have h := hs
    clear hs
    obtain ⟨v5,v6⟩ := s
    refine Tri.f 1 [] [.keep [4,9,10,34,35,36,37] [4,9,33,1100]] rfl trivial ?_
    rcases bif_some h with ⟨hd5,h⟩ | ⟨hd5,h⟩
    ·obtain ⟨hg6,h⟩ := grd_some h
     refine Tri.f 3 [.g true] [.keep [4,9,10,11,34,35,36,43] [4,9,33,1100]] rfl ⟨hg6,hd5,trivial⟩ ?_
     rcases bif_some h with ⟨hd7,h⟩ | ⟨hd7,h⟩
     ·obtain ⟨hg8,h⟩ := grd_some h
      refine Tri.f 3 [.g true] [.rever 33,.keep [4,9,10,34,35,36] [4,9,33,1100]] rfl ⟨hg8,hd7,trivial⟩ ?_
      cases h
      exact Tri.nil ⟨rfl,rfl⟩
     ·refine Tri.f 2 [.g false] [.keep [4,9,10,34,35,36] [4,9,33,1100]] rfl ⟨hd7,trivial⟩ ?_
      cases h
      exact Tri.nil ⟨rfl,rfl⟩
    ·refine Tri.f 1 [.g false] [.keep [4,9,10] [4,9,33]] rfl ⟨hd5,trivial⟩ ?_
     cases h
     exact Tri.out 0 rfl ⟨nofun,rfl,rfl⟩
   ·intro e σ' hne hq
    obtain ⟨rfl,rfl⟩ := hq
    refine TriX.exit (K' := [.code [] 6]) rfl ?_
    refine Tri.f 1 [] [.swap 33 1000,.keep [4,5,6] [4,1000]] rfl trivial ?_
    cases h
    exact Tri.ret rfl ⟨.inl rfl,rfl,rfl⟩
noncomputable def E226 : Env := ⟨Try.prog,tys,(Try.f58.body).getD .skip,16,tysOk,mixedOk⟩
abbrev K143 (r : Bool) (σ' : ASt) : Prop := isRes E226.T Try.f58 (.bool r) [] σ'
noncomputable def l_spec_AllValid_0 (a0 : List Q) (v1 : Int) : Option (Int ⊕ (Unit ⊕ Bool)) :=
bif decide (v1 < (a0.length : Int)) then
(grd (0 ≤ v1 ∧ v1 < (a0.length : Int)) <|
(m_spec_IsValidRat ((a0.getD v1.toNat ⟨0,0⟩).num) ((a0.getD v1.toNat ⟨0,0⟩).den)).bind fun v2 =>
bif !v2 then
(some (.inr (.inr false)))
else
(some (.inl (IntKind.i64.wrap (v1 + 1)))))
else
(some (.inr (.inl ())))
noncomputable def m_spec_AllValid (a0 : List Q) : Option Bool :=
(iter (l_spec_AllValid_0 a0) (0 : Int)).bind fun
| (.inl _) => (
some true)
| (.inr r) => some r
theorem W57 (a0 : List Q) (r : Bool) (h : m_spec_AllValid a0 = some r) : AM.Spec Try.prog 58 [.list (.rats a0)] [] (.bool r) [] := by
 refine spec_of (E := E226) Try.func58 rfl rfl rfl rfl ?_
 refine Tri.f 2 [] [.keep [0,3] []] rfl trivial ?_
 obtain ⟨x1,hk5,h⟩ := bind_some h
 refine Tri.loop (K1 := [.code [(1,0),(1,0),(0,0)] 0]) (K2 := [.blk 0,.code [] 2]) (fun v1 => ⟨[(0,.list (.rats a0)),(3,.i v1)],[]⟩) (fun x e σ' => match x with | (.inl _) => e = .exit 0 ∧ σ' = ⟨[],[]⟩ | (.inr r) => e = .ret ∧ K143 r σ') hk5 rfl rfl ?_ ?_
 ·intro v1 x hs
  clear h
  have h := hs
  clear hs
  refine Tri.f 1 [] [.keep [0,3,7] []] rfl trivial ?_
  rcases bif_some h with ⟨hd1,h⟩ | ⟨hd1,h⟩
  ·obtain ⟨hg2,h⟩ := grd_some h
   obtain ⟨v2,hk3,h⟩ := bind_some h
   refine Tri.f 2 [.g true,.v (.bool v2)] [.keep [0,3,15] []] rfl ⟨fun _ => W21 ((a0.getD v1.toNat ⟨0,0⟩).num) ((a0.getD v1.toNat ⟨0,0⟩).den) v2 hk3,hg2,hd1,trivial⟩ ?_
   rcases bif_some h with ⟨hd4,h⟩ | ⟨hd4,h⟩
   ·refine Tri.f 2 [.g true] [.keep [2] []] rfl ⟨hd4,trivial⟩ ?_
    cases h
    exact Tri.ret rfl ⟨nofun,rfl,rfl,rfl⟩
   ·refine Tri.f 2 [.g false] [.keep [0,3] []] rfl ⟨hd4,trivial⟩ ?_
    cases h
    exact Tri.nil ⟨rfl,rfl⟩
  ·refine Tri.f 1 [.g false] [.keep [] []] rfl ⟨hd1,trivial⟩ ?_
   cases h
   exact Tri.out 0 rfl ⟨nofun,rfl,rfl⟩
 ·intro e σ' hne hq
  rcases x1 with _ | r
  ·obtain ⟨rfl,rfl⟩ := hq
   refine TriX.exit (K' := [.code [] 2]) rfl ?_
   refine Tri.f 1 [] [.keep [2] []] rfl trivial ?_
   cases h
   exact Tri.ret rfl ⟨.inl rfl,rfl,rfl⟩
  ·obtain ⟨rfl,hq⟩ := hq
   cases h
   exact TriX.ret ⟨.inl rfl,hq⟩
noncomputable def E227 : Env := ⟨Try.prog,tys,(Try.f95.body).getD .skip,5,tysOk,mixedOk⟩
abbrev K144 (r : Bool) (σ' : ASt) : Prop := isRes E227.T Try.f95 (.bool r) [] σ'
noncomputable def m_spec_l2Good (a0 : Int) : Option Bool :=
(m_spec_l1In a0 (0 : Int) (31 : Int)).bind fun v1 =>
some v1
theorem W58 (a0 : Int) (r : Bool) (h : m_spec_l2Good a0 = some r) : AM.Spec Try.prog 95 [.i a0] [] (.bool r) [] := by
 refine spec_of (E := E227) Try.func95 rfl rfl rfl rfl ?_
 refine Tri.f 1 [] [.keep [0] []] rfl trivial ?_
 obtain ⟨v1,hk1,h⟩ := bind_some h
 refine Tri.f 1 [.v (.bool v1)] [.keep [2] []] rfl ⟨fun _ => W5 a0 (0 : Int) (31 : Int) v1 hk1,trivial⟩ ?_
 cases h
 exact Tri.ret rfl ⟨.inl rfl,rfl,rfl⟩
noncomputable def E228 : Env := ⟨Try.prog,tys,(Try.f72.body).getD .skip,22,tysOk,mixedOk⟩
abbrev K145 (r : List Int) (σ' : ASt) : Prop := isRes E228.T Try.f72 (.sl 1000 0) [(1000,.arr 3 0 0 (.ints r))] σ'
noncomputable def l_spec_MembersOf_0 (a0 : Int) : (Int × (List Int)) → Option ((Int × (List Int)) ⊕ ((List Int)))
 | (v1,v2) => (
bif decide (v1 < 5) then
((m_spec_l2Good a0).bind fun v3 =>
bif v3 then
((m_spec_HasPlayer a0 v1).bind fun v4 =>
bif v4 then
(grd (v2.length + ([v1] : List Int).length ≤ room) <|
some (.inl (IntKind.i64.wrap (v1 + 1),v2 ++ [v1])))
else
(some (.inl (IntKind.i64.wrap (v1 + 1),v2))))
else
(some (.inr v2)))
else
(some (.inr v2)))
noncomputable def m_spec_MembersOf (a0 : Int) : Option (List Int) :=
(iter (l_spec_MembersOf_0 a0) ((0 : Int),[])).bind fun
| v5 => (
some v5)
theorem W59 (a0 : Int) (r : List Int) (h : m_spec_MembersOf a0 = some r) : AM.Spec Try.prog 72 [.i a0] [] (.sl 1000 0) [(1000,.arr 3 0 0 (.ints r))] := by
 refine spec_of (E := E228) Try.func72 rfl rfl rfl rfl ?_
 refine Tri.f 3 [] [.keep [0,3,4] [5]] rfl trivial ?_
 obtain ⟨v5,hk7,h⟩ := bind_some h
 refine Tri.loop (K1 := [.code [(2,0),(1,0),(0,0)] 0]) (K2 := [.blk 0,.code [] 3]) (fun (v1,v2) => ⟨[(0,.i a0),(3,.sl 5 0),(4,.i v1)],[(5,.arr 3 0 0 (.ints v2))]⟩) (fun x e σ' => match x with | v5 => e = .exit 0 ∧ σ' = ⟨[(3,.sl 5 0)],[(5,.arr 3 0 0 (.ints v5))]⟩) hk7 rfl rfl ?_ ?_
 ·intro s x hs
  clear h
  have h := hs
  clear hs
  obtain ⟨v1,v2⟩ := s
  rcases bif_some h with ⟨hd1,h⟩ | ⟨hd1,h⟩
  ·obtain ⟨v3,hk2,h⟩ := bind_some h
   refine Tri.f 1 [.g true,.v (.bool v3)] [.keep [0,3,4,11] [5]] rfl ⟨fun _ => W58 a0 v3 hk2,hd1,trivial⟩ ?_
   rcases bif_some h with ⟨hd3,h⟩ | ⟨hd3,h⟩
   ·obtain ⟨v4,hk4,h⟩ := bind_some h
    refine Tri.f 2 [.g true,.v (.bool v4)] [.keep [0,3,4,16] [5]] rfl ⟨fun _ => W8 a0 v1 v4 hk4,hd3,trivial⟩ ?_
    rcases bif_some h with ⟨hd5,h⟩ | ⟨hd5,h⟩
    ·obtain ⟨hg6,h⟩ := grd_some h
     refine Tri.f 3 [.g true] [.rever 5,.keep [0,3,4] [5]] rfl ⟨hg6,hd5,trivial⟩ ?_
     cases h
     exact Tri.nil ⟨rfl,rfl⟩
    ·refine Tri.f 2 [.g false] [.keep [0,3,4] [5]] rfl ⟨hd5,trivial⟩ ?_
     cases h
     exact Tri.nil ⟨rfl,rfl⟩
   ·refine Tri.f 1 [.g false] [.keep [3] [5]] rfl ⟨hd3,trivial⟩ ?_
    cases h
    exact Tri.out 0 rfl ⟨nofun,rfl,rfl⟩
  ·refine Tri.f 1 [.g false] [.keep [0,3,4,11] [5]] rfl ⟨hd1,trivial⟩ ?_
   refine Tri.f 1 [.g false] [.keep [3] [5]] rfl ⟨rfl,trivial⟩ ?_
   cases h
   exact Tri.out 0 rfl ⟨nofun,rfl,rfl⟩
 ·intro e σ' hne hq
  obtain ⟨rfl,rfl⟩ := hq
  refine TriX.exit (K' := [.code [] 3]) rfl ?_
  refine Tri.f 1 [] [.swap 5 1000,.keep [2] [1000]] rfl trivial ?_
  cases h
  exact Tri.ret rfl ⟨.inl rfl,rfl,rfl⟩
noncomputable def E229 : Env := ⟨Try.prog,tys,(Try.f73.body).getD .skip,34,tysOk,mixedOk⟩
abbrev K146 (r : Int × Int × Bool) (σ' : ASt) : Prop := isRes E229.T Try.f73 (.tuple [.agg [.i r.1,.i r.2.1],.bool r.2.2]) [] σ'
noncomputable def m_spec_AddRat (a0 a1 a2 a3 : Int) : Option (Int × Int × Bool) :=
(m_spec_IsValidRat a0 a1).bind fun v1 =>
bif !v1 then
(some (0,0,false))
else
((m_spec_IsValidRat a2 a3).bind fun v2 =>
bif !v2 then
(some (0,0,false))
else
((m_spec_RatOf (IntKind.i64.wrap ((IntKind.i64.wrap (a0 * a3)) + (IntKind.i64.wrap (a2 * a1)))) (IntKind.i64.wrap (a1 * a3))).bind fun (v3,v4,v5) =>
some (v3,v4,v5)))
theorem W60 (a0 a1 a2 a3 : Int) (r : Int × Int × Bool) (h : m_spec_AddRat a0 a1 a2 a3 = some r) : AM.Spec Try.prog 73 [.agg [.i a0,.i a1],.agg [.i a2,.i a3]] [] (.tuple [.agg [.i r.1,.i r.2.1],.bool r.2.2]) [] := by
 refine spec_of (E := E229) Try.func73 rfl rfl rfl rfl ?_
 refine Tri.f 1 [] [.keep [2,3,4] [2,3,4]] rfl trivial ?_
 obtain ⟨v1,hk1,h⟩ := bind_some h
 rcases bif_some h with ⟨hd2,h⟩ | ⟨hd2,h⟩
 ·refine Tri.f 1 [.v (.bool v1),.g true] [.keep [2,3,4,13] [2,3,4]] rfl ⟨hd2,fun _ => W21 a0 a1 v1 hk1,trivial⟩ ?_
  refine Tri.f 2 [.g true] [.keep [4,5] [4]] rfl ⟨rfl,trivial⟩ ?_
  cases h
  exact Tri.ret rfl ⟨.inl rfl,rfl,rfl⟩
 ·obtain ⟨v2,hk3,h⟩ := bind_some h
  refine Tri.f 1 [.v (.bool v1),.g false,.v (.bool v2)] [.keep [2,3,4,13] [2,3,4]] rfl ⟨fun _ => W21 a2 a3 v2 hk3,hd2,fun _ => W21 a0 a1 v1 hk1,trivial⟩ ?_
  rcases bif_some h with ⟨hd4,h⟩ | ⟨hd4,h⟩
  ·refine Tri.f 2 [.g true] [.keep [4,5] [4]] rfl ⟨hd4,trivial⟩ ?_
   cases h
   exact Tri.ret rfl ⟨.inl rfl,rfl,rfl⟩
  ·obtain ⟨⟨v3,v4,v5⟩,hk5,h⟩ := bind_some h
   refine Tri.f 2 [.g false,.v (.tuple [.agg [.i v3,.i v4],.bool v5])] [.keep [4,5] [4]] rfl ⟨fun _ => W22 (IntKind.i64.wrap ((IntKind.i64.wrap (a0 * a3)) + (IntKind.i64.wrap (a2 * a1)))) (IntKind.i64.wrap (a1 * a3)) (v3,v4,v5) hk5,hd4,trivial⟩ ?_
   cases h
   exact Tri.ret rfl ⟨.inl rfl,rfl,rfl⟩
noncomputable def E230 : Env := ⟨Try.prog,tys,(Try.f32.body).getD .skip,52,tysOk,mixedOk⟩
abbrev K147 (r : Int × Int × Bool) (σ' : ASt) : Prop := isRes E230.T Try.f32 (.tuple [.agg [.i r.1,.i r.2.1],.bool r.2.2]) [] σ'
noncomputable def l_spec_ShareOf_0 (a0 : List Q) (v3 : List Int) : (Int × Int × Int) → Option ((Int × Int × Int) ⊕ ((Int × Int) ⊕ ((Int × Int × Bool))))
 | (v4,v5,v6) => (
bif decide (v4 < (v3.length : Int)) then
(grd (0 ≤ v4 ∧ v4 < (v3.length : Int)) <|
bif decide ((v3.getD v4.toNat 0) ≥ (a0.length : Int)) then
(some (.inr (.inr (0,0,false))))
else
(grd (0 ≤ v4 ∧ v4 < (v3.length : Int)) <|
grd (0 ≤ v3.getD v4.toNat 0 ∧ v3.getD v4.toNat 0 < (a0.length : Int)) <|
(m_spec_AddRat v5 v6 ((a0.getD ((v3.getD v4.toNat 0).toNat) ⟨0,0⟩).num) ((a0.getD ((v3.getD v4.toNat 0).toNat) ⟨0,0⟩).den)).bind fun (v7,v8,v9) =>
bif !v9 then
(some (.inr (.inr (0,0,false))))
else
(some (.inl (IntKind.i64.wrap (v4 + 1),v7,v8)))))
else
(some (.inr (.inl (v5,v6)))))
noncomputable def m_spec_ShareOf (a0 : List Q) (a1 : Int) : Option (Int × Int × Bool) :=
(m_spec_l3Int (0 : Int)).bind fun (v1,v2) =>
bif decide (a1 < 0) then
(some (0,0,false))
else
(bif decide (a1 > 31) then
(some (0,0,false))
else
((m_spec_MembersOf a1).bind fun v3 =>
(iter (l_spec_ShareOf_0 a0 v3) ((0 : Int),v1,v2)).bind fun
| (.inl (v10,v11)) => (
some (v10,v11,true))
| (.inr r) => some r))
theorem W61 (a0 : List Q) (a1 : Int) (r : Int × Int × Bool) (h : m_spec_ShareOf a0 a1 = some r) : AM.Spec Try.prog 32 [.list (.rats a0),.i a1] [] (.tuple [.agg [.i r.1,.i r.2.1],.bool r.2.2]) [] := by
 refine spec_of (E := E230) Try.func32 rfl rfl rfl rfl ?_
 refine Tri.f 1 [] [.keep [0,1,4] [4]] rfl trivial ?_
 obtain ⟨⟨v1,v2⟩,hk1,h⟩ := bind_some h
 rcases bif_some h with ⟨hd2,h⟩ | ⟨hd2,h⟩
 ·refine Tri.f 2 [.v (.agg [.i v1,.i v2]),.g true] [.keep [0,1,4,6,17] [4,6]] rfl ⟨hd2,fun _ => W18 (0 : Int) (v1,v2) hk1,trivial⟩ ?_
  refine Tri.f 2 [.g true] [.keep [4,5] [4]] rfl ⟨rfl,trivial⟩ ?_
  cases h
  exact Tri.ret rfl ⟨.inl rfl,rfl,rfl⟩
 ·refine Tri.f 2 [.v (.agg [.i v1,.i v2]),.g false] [.keep [0,1,4,6,17] [4,6]] rfl ⟨hd2,fun _ => W18 (0 : Int) (v1,v2) hk1,trivial⟩ ?_
  rcases bif_some h with ⟨hd3,h⟩ | ⟨hd3,h⟩
  ·refine Tri.f 2 [.g true] [.keep [4,5] [4]] rfl ⟨hd3,trivial⟩ ?_
   cases h
   exact Tri.ret rfl ⟨.inl rfl,rfl,rfl⟩
  ·obtain ⟨v3,hk4,h⟩ := bind_some h
   refine Tri.f 3 [.g false,.r ⟨[],.sl 1100 0,[(1100,.arr 3 0 0 (.ints v3))]⟩] [.keep [0,4,6,7,8] [4,6,1100]] rfl ⟨fun _ => (W59 a1 v3 hk4).swap 1000 1100,hd3,trivial⟩ ?_
   obtain ⟨x1,hk12,h⟩ := bind_some h
   refine Tri.loop (K1 := [.code [(4,0),(1,0),(0,0)] 0]) (K2 := [.blk 0,.code [] 5]) (fun (v4,v5,v6) => ⟨[(0,.list (.rats a0)),(4,.ptr 4 0),(6,.ptr 6 0),(7,.sl 1100 0),(8,.i v4)],[(4,.box [.i 0,.i 0]),(6,.box [.i v5,.i v6]),(1100,.arr 3 0 0 (.ints v3))]⟩) (fun x e σ' => match x with | (.inl (v10,v11)) => e = .exit 0 ∧ σ' = ⟨[(4,.ptr 4 0),(6,.ptr 6 0)],[(4,.box [.i 0,.i 0]),(6,.box [.i v10,.i v11])]⟩ | (.inr r) => e = .ret ∧ K147 r σ') hk12 rfl rfl ?_ ?_
   ·intro s x hs
    clear h
    have h := hs
    clear hs
    obtain ⟨v4,v5,v6⟩ := s
    refine Tri.f 1 [] [.keep [0,4,6,7,8,24] [4,6,1100]] rfl trivial ?_
    rcases bif_some h with ⟨hd5,h⟩ | ⟨hd5,h⟩
    ·obtain ⟨hg6,h⟩ := grd_some h
     refine Tri.f 2 [.g true] [.keep [0,4,6,7,8,33] [4,6,1100]] rfl ⟨hg6,hd5,trivial⟩ ?_
     rcases bif_some h with ⟨hd7,h⟩ | ⟨hd7,h⟩
     ·refine Tri.f 2 [.g true] [.keep [4,5] [4]] rfl ⟨hd7,trivial⟩ ?_
      cases h
      exact Tri.ret rfl ⟨nofun,rfl,rfl,rfl⟩
     ·obtain ⟨hg8,h⟩ := grd_some h
      obtain ⟨hg9,h⟩ := grd_some h
      obtain ⟨⟨v7,v8,v9⟩,hk10,h⟩ := bind_some h
      refine Tri.f 3 [.g false,.v (.tuple [.agg [.i v7,.i v8],.bool v9])] [.keep [0,4,6,7,8,9,48] [4,6,9,1100]] rfl ⟨fun _ => W60 v5 v6 ((a0.getD ((v3.getD v4.toNat 0).toNat) ⟨0,0⟩).num) ((a0.getD ((v3.getD v4.toNat 0).toNat) ⟨0,0⟩).den) (v7,v8,v9) hk10,hg9,hg8,hd7,trivial⟩ ?_
      rcases bif_some h with ⟨hd11,h⟩ | ⟨hd11,h⟩
      ·refine Tri.f 2 [.g true] [.keep [4,5] [4]] rfl ⟨hd11,trivial⟩ ?_
       cases h
       exact Tri.ret rfl ⟨nofun,rfl,rfl,rfl⟩
      ·refine Tri.f 3 [.g false] [.keep [0,4,6,7,8] [4,6,1100]] rfl ⟨hd11,trivial⟩ ?_
       cases h
       exact Tri.nil ⟨rfl,rfl⟩
    ·refine Tri.f 1 [.g false] [.keep [4,6] [4,6]] rfl ⟨hd5,trivial⟩ ?_
     cases h
     exact Tri.out 0 rfl ⟨nofun,rfl,rfl⟩
   ·intro e σ' hne hq
    rcases x1 with ⟨v10,v11⟩ | r
    ·obtain ⟨rfl,rfl⟩ := hq
     refine TriX.exit (K' := [.code [] 5]) rfl ?_
     refine Tri.f 1 [] [.keep [4,5] [4]] rfl trivial ?_
     cases h
     exact Tri.ret rfl ⟨.inl rfl,rfl,rfl⟩
    ·obtain ⟨rfl,hq⟩ := hq
     cases h
     exact TriX.ret ⟨.inl rfl,hq⟩
noncomputable def E231 : Env := ⟨Try.prog,tys,(Try.f25.body).getD .skip,39,tysOk,mixedOk⟩
abbrev K148 (r : Bool) (σ' : ASt) : Prop := isRes E231.T Try.f25 (.bool r) [] σ'
noncomputable def m_spec_IsPayoff (a0 : Int) (a1 : List Int) (a2 : List Q) : Option Bool :=
(m_spec_IsValidGame a0 a1).bind fun v1 =>
bif !v1 then
(some false)
else
(bif (a2.length : Int) != a0 then
(some false)
else
((m_spec_AllValid a2).bind fun v2 =>
bif !v2 then
(some false)
else
((m_spec_ShareOf a2 (IntKind.i64.wrap ((a1.length : Int) - 1))).bind fun (v3,v4,v5) =>
bif v5 then
((m_spec_GrandValue a0 a1).bind fun v6 =>
(m_spec_l3Int v6).bind fun (v7,v8) =>
some (v3 == v7 && v4 == v8))
else
(some false))))
theorem W62 (a0 : Int) (a1 : List Int) (a2 : List Q) (r : Bool) (h : m_spec_IsPayoff a0 a1 a2 = some r) : AM.Spec Try.prog 25 [.agg [.i a0,.list (.ints a1)],.list (.rats a2)] [] (.bool r) [] := by
 refine spec_of (E := E231) Try.func25 rfl rfl rfl rfl ?_
 refine Tri.f 1 [] [.keep [1,2] [2]] rfl trivial ?_
 obtain ⟨v1,hk1,h⟩ := bind_some h
 rcases bif_some h with ⟨hd2,h⟩ | ⟨hd2,h⟩
 ·refine Tri.f 1 [.v (.bool v1),.g true,.g true] [.keep [1,2,21] [2]] rfl ⟨rfl,hd2,fun _ => W16 a0 a1 v1 hk1,trivial⟩ ?_
  refine Tri.f 2 [.g true] [.keep [4] []] rfl ⟨rfl,trivial⟩ ?_
  cases h
  exact Tri.ret rfl ⟨.inl rfl,rfl,rfl⟩
 ·rcases bif_some h with ⟨hd3,h⟩ | ⟨hd3,h⟩
  ·refine Tri.f 1 [.v (.bool v1),.g false,.g true] [.keep [1,2,21] [2]] rfl ⟨hd3,hd2,fun _ => W16 a0 a1 v1 hk1,trivial⟩ ?_
   refine Tri.f 2 [.g true] [.keep [4] []] rfl ⟨rfl,trivial⟩ ?_
   cases h
   exact Tri.ret rfl ⟨.inl rfl,rfl,rfl⟩
  ·obtain ⟨v2,hk4,h⟩ := bind_some h
   refine Tri.f 1 [.v (.bool v1),.g false,.g false,.v (.bool v2)] [.keep [1,2,21] [2]] rfl ⟨fun _ => W57 a2 v2 hk4,hd3,hd2,fun _ => W16 a0 a1 v1 hk1,trivial⟩ ?_
   rcases bif_some h with ⟨hd5,h⟩ | ⟨hd5,h⟩
   ·refine Tri.f 2 [.g true] [.keep [4] []] rfl ⟨hd5,trivial⟩ ?_
    cases h
    exact Tri.ret rfl ⟨.inl rfl,rfl,rfl⟩
   ·obtain ⟨⟨v3,v4,v5⟩,hk6,h⟩ := bind_some h
    refine Tri.f 2 [.g false,.v (.tuple [.agg [.i v3,.i v4],.bool v5])] [.keep [2,5,6] [2,5]] rfl ⟨fun _ => W61 a2 (IntKind.i64.wrap ((a1.length : Int) - 1)) (v3,v4,v5) hk6,hd5,trivial⟩ ?_
    rcases bif_some h with ⟨hd7,h⟩ | ⟨hd7,h⟩
    ·obtain ⟨v6,hk8,h⟩ := bind_some h
     obtain ⟨⟨v7,v8⟩,hk9,h⟩ := bind_some h
     refine Tri.f 1 [.g true,.v (.i v6),.v (.agg [.i v7,.i v8])] [.keep [4] []] rfl ⟨fun _ => W18 v6 (v7,v8) hk9,fun _ => W17 a0 a1 v6 hk8,hd7,trivial⟩ ?_
     cases h
     exact Tri.ret rfl ⟨.inl rfl,rfl,rfl⟩
    ·refine Tri.f 1 [.g false] [.keep [4] []] rfl ⟨hd7,trivial⟩ ?_
     cases h
     exact Tri.ret rfl ⟨.inl rfl,rfl,rfl⟩
noncomputable def E232 : Env := ⟨Try.prog,tys,(Try.f76.body).getD .skip,19,tysOk,mixedOk⟩
abbrev K149 (r : Int × Int × Bool) (σ' : ASt) : Prop := isRes E232.T Try.f76 (.tuple [.agg [.i r.1,.i r.2.1],.bool r.2.2]) [] σ'
noncomputable def m_spec_SubRat (a0 a1 a2 a3 : Int) : Option (Int × Int × Bool) :=
(m_spec_IsValidRat a2 a3).bind fun v1 =>
bif !v1 then
(some (0,0,false))
else
((m_spec_AddRat a0 a1 (IntKind.i64.wrap (0 - a2)) a3).bind fun (v2,v3,v4) =>
some (v2,v3,v4))
theorem W63 (a0 a1 a2 a3 : Int) (r : Int × Int × Bool) (h : m_spec_SubRat a0 a1 a2 a3 = some r) : AM.Spec Try.prog 76 [.agg [.i a0,.i a1],.agg [.i a2,.i a3]] [] (.tuple [.agg [.i r.1,.i r.2.1],.bool r.2.2]) [] := by
 refine spec_of (E := E232) Try.func76 rfl rfl rfl rfl ?_
 refine Tri.f 1 [] [.keep [2,3,4] [2,3,4]] rfl trivial ?_
 obtain ⟨v1,hk1,h⟩ := bind_some h
 refine Tri.f 1 [.v (.bool v1)] [.keep [2,3,4,8] [2,3,4]] rfl ⟨fun _ => W21 a2 a3 v1 hk1,trivial⟩ ?_
 rcases bif_some h with ⟨hd2,h⟩ | ⟨hd2,h⟩
 ·refine Tri.f 2 [.g true] [.keep [4,5] [4]] rfl ⟨hd2,trivial⟩ ?_
  cases h
  exact Tri.ret rfl ⟨.inl rfl,rfl,rfl⟩
 ·refine Tri.f 2 [.g false] [.keep [2,3,4] [2,3,4]] rfl ⟨hd2,trivial⟩ ?_
  obtain ⟨⟨v2,v3,v4⟩,hk3,h⟩ := bind_some h
  refine Tri.f 1 [.v (.tuple [.agg [.i v2,.i v3],.bool v4])] [.keep [4,5] [4]] rfl ⟨fun _ => W60 a0 a1 (IntKind.i64.wrap (0 - a2)) a3 (v2,v3,v4) hk3,trivial⟩ ?_
  cases h
  exact Tri.ret rfl ⟨.inl rfl,rfl,rfl⟩
noncomputable def E233 : Env := ⟨Try.prog,tys,(Try.f35.body).getD .skip,50,tysOk,mixedOk⟩
abbrev K150 (r : Int × Int × Bool) (σ' : ASt) : Prop := isRes E233.T Try.f35 (.tuple [.agg [.i r.1,.i r.2.1],.bool r.2.2]) [] σ'
noncomputable def m_spec_ExcessOf (a0 : Int) (a1 : List Int) (a2 : List Q) (a3 : Int) : Option (Int × Int × Bool) :=
(m_spec_IsValidGame a0 a1).bind fun v1 =>
bif !v1 then
(some (0,0,false))
else
((m_spec_l1In a3 (0 : Int) (IntKind.i64.wrap ((a1.length : Int) - 1))).bind fun v2 =>
bif !v2 then
(some (0,0,false))
else
((m_spec_ShareOf a2 a3).bind fun (v3,v4,v5) =>
grd (0 ≤ a3 ∧ a3 < (a1.length : Int)) <|
(m_spec_l3Int (a1.getD a3.toNat 0)).bind fun (v6,v7) =>
(m_spec_SubRat v6 v7 v3 v4).bind fun (v8,v9,v10) =>
bif !v5 then
(some (0,0,false))
else
(bif !v10 then
(some (0,0,false))
else
(some (v8,v9,true)))))
theorem W64 (a0 : Int) (a1 : List Int) (a2 : List Q) (a3 : Int) (r : Int × Int × Bool) (h : m_spec_ExcessOf a0 a1 a2 a3 = some r) : AM.Spec Try.prog 35 [.agg [.i a0,.list (.ints a1)],.list (.rats a2),.i a3] [] (.tuple [.agg [.i r.1,.i r.2.1],.bool r.2.2]) [] := by
 refine spec_of (E := E233) Try.func35 rfl rfl rfl rfl ?_
 refine Tri.f 1 [] [.keep [1,2,3,6] [3,6]] rfl trivial ?_
 obtain ⟨v1,hk1,h⟩ := bind_some h
 rcases bif_some h with ⟨hd2,h⟩ | ⟨hd2,h⟩
 ·refine Tri.f 1 [.v (.bool v1),.g true] [.keep [1,2,3,6,23] [3,6]] rfl ⟨hd2,fun _ => W16 a0 a1 v1 hk1,trivial⟩ ?_
  refine Tri.f 2 [.g true] [.keep [6,7] [6]] rfl ⟨rfl,trivial⟩ ?_
  cases h
  exact Tri.ret rfl ⟨.inl rfl,rfl,rfl⟩
 ·obtain ⟨v2,hk3,h⟩ := bind_some h
  refine Tri.f 1 [.v (.bool v1),.g false,.v (.bool v2)] [.keep [1,2,3,6,23] [3,6]] rfl ⟨fun _ => W5 a3 (0 : Int) (IntKind.i64.wrap ((a1.length : Int) - 1)) v2 hk3,hd2,fun _ => W16 a0 a1 v1 hk1,trivial⟩ ?_
  rcases bif_some h with ⟨hd4,h⟩ | ⟨hd4,h⟩
  ·refine Tri.f 2 [.g true] [.keep [6,7] [6]] rfl ⟨hd4,trivial⟩ ?_
   cases h
   exact Tri.ret rfl ⟨.inl rfl,rfl,rfl⟩
  ·obtain ⟨⟨v3,v4,v5⟩,hk5,h⟩ := bind_some h
   refine Tri.f 2 [.g false,.v (.tuple [.agg [.i v3,.i v4],.bool v5])] [.keep [2,3,6,8,9] [3,6,8]] rfl ⟨fun _ => W61 a2 a3 (v3,v4,v5) hk5,hd4,trivial⟩ ?_
   obtain ⟨hg6,h⟩ := grd_some h
   obtain ⟨⟨v6,v7⟩,hk7,h⟩ := bind_some h
   obtain ⟨⟨v8,v9,v10⟩,hk8,h⟩ := bind_some h
   rcases bif_some h with ⟨hd9,h⟩ | ⟨hd9,h⟩
   ·refine Tri.f 2 [.v (.agg [.i v6,.i v7]),.v (.tuple [.agg [.i v8,.i v9],.bool v10]),.g true] [.keep [6,10,47] [6,10]] rfl ⟨hd9,fun _ => W63 v6 v7 v3 v4 (v8,v9,v10) hk8,fun _ => W18 (a1.getD a3.toNat 0) (v6,v7) hk7,hg6,trivial⟩ ?_
    refine Tri.f 2 [.g true] [.keep [6,7] [6]] rfl ⟨rfl,trivial⟩ ?_
    cases h
    exact Tri.ret rfl ⟨.inl rfl,rfl,rfl⟩
   ·refine Tri.f 2 [.v (.agg [.i v6,.i v7]),.v (.tuple [.agg [.i v8,.i v9],.bool v10]),.g false] [.keep [6,10,47] [6,10]] rfl ⟨hd9,fun _ => W63 v6 v7 v3 v4 (v8,v9,v10) hk8,fun _ => W18 (a1.getD a3.toNat 0) (v6,v7) hk7,hg6,trivial⟩ ?_
    rcases bif_some h with ⟨hd10,h⟩ | ⟨hd10,h⟩
    ·refine Tri.f 2 [.g true] [.keep [6,7] [6]] rfl ⟨hd10,trivial⟩ ?_
     cases h
     exact Tri.ret rfl ⟨.inl rfl,rfl,rfl⟩
    ·refine Tri.f 2 [.g false] [.keep [6,7] [6]] rfl ⟨hd10,trivial⟩ ?_
     cases h
     exact Tri.ret rfl ⟨.inl rfl,rfl,rfl⟩
noncomputable def E234 : Env := ⟨Try.prog,tys,(Try.f39.body).getD .skip,39,tysOk,mixedOk⟩
abbrev K151 (r : Bool × (List Q)) (σ' : ASt) : Prop := isRes E234.T Try.f39 (.tuple [.sl 1000 0,.bool r.1]) [(1000,.arr 44 0 0 (.rats r.2))] σ'
noncomputable def l_spec_l11All_0 (a0 : Int) (a1 : List Int) (a2 : List Q) : (Int × (List Q)) → Option ((Int × (List Q)) ⊕ ((List Q) ⊕ ((Bool × (List Q)))))
 | (v2,v3) => (
bif decide (v2 < (IntKind.i64.wrap ((a1.length : Int) - 1))) then
((m_spec_ExcessOf a0 a1 a2 v2).bind fun (v4,v5,v6) =>
bif !v6 then
(some (.inr (.inr (false,[]))))
else
(grd (v3.length + ([⟨v4,v5⟩] : List Q).length ≤ room) <|
some (.inl (IntKind.i64.wrap (v2 + 1),v3 ++ [⟨v4,v5⟩]))))
else
(some (.inr (.inl v3))))
noncomputable def m_spec_l11All (a0 : Int) (a1 : List Int) (a2 : List Q) : Option (Bool × (List Q)) :=
(m_spec_IsPayoff a0 a1 a2).bind fun v1 =>
bif !v1 then
(some (false,[]))
else
((iter (l_spec_l11All_0 a0 a1 a2) ((1 : Int),[])).bind fun
| (.inl v7) => (
some (true,v7))
| (.inr r) => some r)
theorem W65 (a0 : Int) (a1 : List Int) (a2 : List Q) (r : Bool × (List Q)) (h : m_spec_l11All a0 a1 a2 = some r) : AM.Spec Try.prog 39 [.agg [.i a0,.list (.ints a1)],.list (.rats a2)] [] (.tuple [.sl 1000 0,.bool r.1]) [(1000,.arr 44 0 0 (.rats r.2))] := by
 refine spec_of (E := E234) Try.func39 rfl rfl rfl rfl ?_
 refine Tri.f 2 [] [.keep [1,2,6] [2,10]] rfl trivial ?_
 obtain ⟨v1,hk1,h⟩ := bind_some h
 refine Tri.f 1 [.v (.bool v1)] [.keep [1,2,6,14] [2,10]] rfl ⟨fun _ => W62 a0 a1 a2 v1 hk1,trivial⟩ ?_
 rcases bif_some h with ⟨hd2,h⟩ | ⟨hd2,h⟩
 ·refine Tri.f 2 [.g true] [.swap 10 1000,.keep [4,5] [1000]] rfl ⟨hd2,trivial⟩ ?_
  cases h
  exact Tri.ret rfl ⟨.inl rfl,rfl,rfl⟩
 ·refine Tri.f 2 [.g false] [.keep [1,2,6,7] [2,10]] rfl ⟨hd2,trivial⟩ ?_
  obtain ⟨x1,hk7,h⟩ := bind_some h
  refine Tri.loop (K1 := [.code [(3,0),(1,0),(0,0)] 0]) (K2 := [.blk 0,.code [] 4]) (fun (v2,v3) => ⟨[(1,.list (.rats a2)),(2,.ptr 2 0),(6,.sl 10 0),(7,.i v2)],[(2,.box [.i a0,.list (.ints a1)]),(10,.arr 44 0 0 (.rats v3))]⟩) (fun x e σ' => match x with | (.inl v7) => e = .exit 0 ∧ σ' = ⟨[(6,.sl 10 0)],[(10,.arr 44 0 0 (.rats v7))]⟩ | (.inr r) => e = .ret ∧ K151 r σ') hk7 rfl rfl ?_ ?_
  ·intro s x hs
   clear h
   have h := hs
   clear hs
   obtain ⟨v2,v3⟩ := s
   refine Tri.f 1 [] [.keep [1,2,6,7,21] [2,10]] rfl trivial ?_
   rcases bif_some h with ⟨hd3,h⟩ | ⟨hd3,h⟩
   ·obtain ⟨⟨v4,v5,v6⟩,hk4,h⟩ := bind_some h
    refine Tri.f 3 [.g true,.v (.tuple [.agg [.i v4,.i v5],.bool v6])] [.keep [1,2,6,7,8,32] [2,8,10]] rfl ⟨fun _ => W64 a0 a1 a2 v2 (v4,v5,v6) hk4,hd3,trivial⟩ ?_
    rcases bif_some h with ⟨hd5,h⟩ | ⟨hd5,h⟩
    ·refine Tri.f 2 [.g true] [.swap 33 1000,.keep [4,5] [1000]] rfl ⟨hd5,trivial⟩ ?_
     cases h
     exact Tri.ret rfl ⟨nofun,rfl,rfl,rfl⟩
    ·obtain ⟨hg6,h⟩ := grd_some h
     refine Tri.f 3 [.g false] [.rever 10,.keep [1,2,6,7] [2,10]] rfl ⟨hg6,hd5,trivial⟩ ?_
     cases h
     exact Tri.nil ⟨rfl,rfl⟩
   ·refine Tri.f 1 [.g false] [.keep [6] [10]] rfl ⟨hd3,trivial⟩ ?_
    cases h
    exact Tri.out 0 rfl ⟨nofun,rfl,rfl⟩
  ·intro e σ' hne hq
   rcases x1 with v7 | r
   ·obtain ⟨rfl,rfl⟩ := hq
    refine TriX.exit (K' := [.code [] 4]) rfl ?_
    refine Tri.f 1 [] [.swap 10 1000,.keep [4,5] [1000]] rfl trivial ?_
    cases h
    exact Tri.ret rfl ⟨.inl rfl,rfl,rfl⟩
   ·obtain ⟨rfl,hq⟩ := hq
    cases h
    exact TriX.ret ⟨.inl rfl,hq⟩
noncomputable def E235 : Env := ⟨Try.prog,tys,(Try.f40.body).getD .skip,33,tysOk,mixedOk⟩
abbrev K152 (r : Int) (σ' : ASt) : Prop := isRes E235.T Try.f40 (.i r) [] σ'
noncomputable def m_spec_CompareRat (a0 a1 a2 a3 : Int) : Option Int :=
(m_spec_IsValidRat a0 a1).bind fun v1 =>
bif !v1 then
(some (0 : Int))
else
((m_spec_IsValidRat a2 a3).bind fun v2 =>
bif !v2 then
(some (0 : Int))
else
(bif decide ((IntKind.i64.wrap (a0 * a3)) < (IntKind.i64.wrap (a2 * a1))) then
(some (-1 : Int))
else
(bif decide ((IntKind.i64.wrap (a0 * a3)) > (IntKind.i64.wrap (a2 * a1))) then
(some (1 : Int))
else
(some (0 : Int)))))
theorem W66 (a0 a1 a2 a3 r : Int) (h : m_spec_CompareRat a0 a1 a2 a3 = some r) : AM.Spec Try.prog 40 [.agg [.i a0,.i a1],.agg [.i a2,.i a3]] [] (.i r) [] := by
 refine spec_of (E := E235) Try.func40 rfl rfl rfl rfl ?_
 refine Tri.f 1 [] [.keep [2,3] [2,3]] rfl trivial ?_
 obtain ⟨v1,hk1,h⟩ := bind_some h
 rcases bif_some h with ⟨hd2,h⟩ | ⟨hd2,h⟩
 ·refine Tri.f 1 [.v (.bool v1),.g true] [.keep [2,3,14] [2,3]] rfl ⟨hd2,fun _ => W21 a0 a1 v1 hk1,trivial⟩ ?_
  refine Tri.f 2 [.g true] [.keep [4] []] rfl ⟨rfl,trivial⟩ ?_
  cases h
  exact Tri.ret rfl ⟨.inl rfl,rfl,rfl⟩
 ·obtain ⟨v2,hk3,h⟩ := bind_some h
  refine Tri.f 1 [.v (.bool v1),.g false,.v (.bool v2)] [.keep [2,3,14] [2,3]] rfl ⟨fun _ => W21 a2 a3 v2 hk3,hd2,fun _ => W21 a0 a1 v1 hk1,trivial⟩ ?_
  rcases bif_some h with ⟨hd4,h⟩ | ⟨hd4,h⟩
  ·refine Tri.f 2 [.g true] [.keep [4] []] rfl ⟨hd4,trivial⟩ ?_
   cases h
   exact Tri.ret rfl ⟨.inl rfl,rfl,rfl⟩
  ·refine Tri.f 3 [.g false] [.keep [5,6] []] rfl ⟨hd4,trivial⟩ ?_
   refine Tri.f 1 [] [.keep [5,6,25] []] rfl trivial ?_
   rcases bif_some h with ⟨hd5,h⟩ | ⟨hd5,h⟩
   ·refine Tri.f 2 [.g true] [.keep [4] []] rfl ⟨hd5,trivial⟩ ?_
    cases h
    exact Tri.ret rfl ⟨.inl rfl,rfl,rfl⟩
   ·refine Tri.f 2 [.g false] [.keep [29] []] rfl ⟨hd5,trivial⟩ ?_
    rcases bif_some h with ⟨hd6,h⟩ | ⟨hd6,h⟩
    ·refine Tri.f 2 [.g true] [.keep [4] []] rfl ⟨hd6,trivial⟩ ?_
     cases h
     exact Tri.ret rfl ⟨.inl rfl,rfl,rfl⟩
    ·refine Tri.f 2 [.g false] [.keep [4] []] rfl ⟨hd6,trivial⟩ ?_
     cases h
     exact Tri.ret rfl ⟨.inl rfl,rfl,rfl⟩
noncomputable def E236 : Env := ⟨Try.prog,tys,(Try.f20.body).getD .skip,68,tysOk,mixedOk⟩
abbrev K153 (r : Int × Int × Bool × (List Int)) (σ' : ASt) : Prop := isRes E236.T Try.f20 (.tuple [.agg [.i r.1,.i r.2.1],.sl 1000 0,.bool r.2.2.1]) [(1000,.arr 3 0 0 (.ints r.2.2.2))] σ'
noncomputable def l_spec_WorstExcess_0 (v2 : List Q) : (Int × Int × Int) → Option ((Int × Int × Int) ⊕ ((Int × Int)))
 | (v3,v4,v5) => (
bif decide (v3 < (v2.length : Int)) then
(grd (0 ≤ v3 ∧ v3 < (v2.length : Int)) <|
(m_spec_CompareRat ((v2.getD v3.toNat ⟨0,0⟩).num) ((v2.getD v3.toNat ⟨0,0⟩).den) v4 v5).bind fun v6 =>
bif decide (v6 > 0) then
(grd (0 ≤ v3 ∧ v3 < (v2.length : Int)) <|
some (.inl (IntKind.i64.wrap (v3 + 1),(v2.getD v3.toNat ⟨0,0⟩).num,(v2.getD v3.toNat ⟨0,0⟩).den)))
else
(some (.inl (IntKind.i64.wrap (v3 + 1),v4,v5))))
else
(some (.inr (v4,v5))))
noncomputable def l_spec_WorstExcess_1 (v2 : List Q) (v7 v8 : Int) : (Int × (List Int)) → Option ((Int × (List Int)) ⊕ ((List Int)))
 | (v9,v10) => (
bif decide (v9 < (v2.length : Int)) then
(grd (0 ≤ v9 ∧ v9 < (v2.length : Int)) <|
bif ((v2.getD v9.toNat ⟨0,0⟩).num) == v7 && ((v2.getD v9.toNat ⟨0,0⟩).den) == v8 then
(grd (v10.length + ([IntKind.i64.wrap (v9 + 1)] : List Int).length ≤ room) <|
some (.inl (IntKind.i64.wrap (v9 + 1),v10 ++ [IntKind.i64.wrap (v9 + 1)])))
else
(some (.inl (IntKind.i64.wrap (v9 + 1),v10))))
else
(some (.inr v10)))
noncomputable def m_spec_WorstExcess (a0 : Int) (a1 : List Int) (a2 : List Q) : Option (Int × Int × Bool × (List Int)) :=
(m_spec_l11All a0 a1 a2).bind fun (v1,v2) =>
bif !v1 then
(some (0,0,false,[]))
else
(bif (v2.length : Int) == 0 then
(some (0,0,false,[]))
else
(grd ((0 : Int) ≤ (0 : Int) ∧ (0 : Int) < (v2.length : Int)) <|
(iter (l_spec_WorstExcess_0 v2) ((0 : Int),(v2.getD ((0 : Int).toNat) ⟨0,0⟩).num,(v2.getD ((0 : Int).toNat) ⟨0,0⟩).den)).bind fun
| (v7,v8) => (
(iter (l_spec_WorstExcess_1 v2 v7 v8) ((0 : Int),[])).bind fun
| v11 => (
some (v7,v8,true,v11)))))
theorem W67 (a0 : Int) (a1 : List Int) (a2 : List Q) (r : Int × Int × Bool × (List Int)) (h : m_spec_WorstExcess a0 a1 a2 = some r) : AM.Spec Try.prog 20 [.agg [.i a0,.list (.ints a1)],.list (.rats a2)] [] (.tuple [.agg [.i r.1,.i r.2.1],.sl 1000 0,.bool r.2.2.1]) [(1000,.arr 3 0 0 (.ints r.2.2.2))] := by
 refine spec_of (E := E236) Try.func20 rfl rfl rfl rfl ?_
 refine Tri.f 1 [] [.keep [1,2,4] [2,4]] rfl trivial ?_
 obtain ⟨⟨v1,v2⟩,hk1,h⟩ := bind_some h
 rcases bif_some h with ⟨hd2,h⟩ | ⟨hd2,h⟩
 ·refine Tri.f 2 [.r ⟨[],.tuple [.sl 1100 0,.bool v1],[(1100,.arr 44 0 0 (.rats v2))]⟩,.g true] [.keep [4,7,25] [4,1100]] rfl ⟨hd2,fun _ => (W65 a0 a1 a2 (v1,v2) hk1).swap 1000 1100,trivial⟩ ?_
  refine Tri.f 2 [.g true] [.swap 27 1000,.keep [4,5,6] [4,1000]] rfl ⟨rfl,trivial⟩ ?_
  cases h
  exact Tri.ret rfl ⟨.inl rfl,rfl,rfl⟩
 ·refine Tri.f 2 [.r ⟨[],.tuple [.sl 1100 0,.bool v1],[(1100,.arr 44 0 0 (.rats v2))]⟩,.g false] [.keep [4,7,25] [4,1100]] rfl ⟨hd2,fun _ => (W65 a0 a1 a2 (v1,v2) hk1).swap 1000 1100,trivial⟩ ?_
  rcases bif_some h with ⟨hd3,h⟩ | ⟨hd3,h⟩
  ·refine Tri.f 2 [.g true] [.swap 27 1000,.keep [4,5,6] [4,1000]] rfl ⟨hd3,trivial⟩ ?_
   cases h
   exact Tri.ret rfl ⟨.inl rfl,rfl,rfl⟩
  ·obtain ⟨hg4,h⟩ := grd_some h
   refine Tri.f 3 [.g false] [.keep [4,7,9,10] [4,9,1100]] rfl ⟨hg4,hd3,trivial⟩ ?_
   obtain ⟨x1,hk10,h⟩ := bind_some h
   refine Tri.loop (K1 := [.code [(4,0),(1,0),(0,0)] 0]) (K2 := [.blk 0,.code [] 5]) (fun (v3,v4,v5) => ⟨[(4,.ptr 4 0),(7,.sl 1100 0),(9,.ptr 9 0),(10,.i v3)],[(4,.box [.i 0,.i 0]),(9,.box [.i v4,.i v5]),(1100,.arr 44 0 0 (.rats v2))]⟩) (fun x e σ' => match x with | (v7,v8) => e = .exit 0 ∧ σ' = ⟨[(4,.ptr 4 0),(7,.sl 1100 0),(9,.ptr 9 0)],[(4,.box [.i 0,.i 0]),(9,.box [.i v7,.i v8]),(1100,.arr 44 0 0 (.rats v2))]⟩) hk10 rfl rfl ?_ ?_
   ·intro s x hs
    clear h
    have h := hs
    clear hs
    obtain ⟨v3,v4,v5⟩ := s
    refine Tri.f 1 [] [.keep [4,7,9,10,34] [4,9,1100]] rfl trivial ?_
    rcases bif_some h with ⟨hd5,h⟩ | ⟨hd5,h⟩
    ·obtain ⟨hg6,h⟩ := grd_some h
     obtain ⟨v6,hk7,h⟩ := bind_some h
     refine Tri.f 2 [.g true,.v (.i v6)] [.keep [4,7,9,10,43] [4,9,1100]] rfl ⟨fun _ => W66 ((v2.getD v3.toNat ⟨0,0⟩).num) ((v2.getD v3.toNat ⟨0,0⟩).den) v4 v5 v6 hk7,hg6,hd5,trivial⟩ ?_
     rcases bif_some h with ⟨hd8,h⟩ | ⟨hd8,h⟩
     ·obtain ⟨hg9,h⟩ := grd_some h
      refine Tri.f 3 [.g true] [.keep [4,7,9,10] [4,9,1100]] rfl ⟨hg9,hd8,trivial⟩ ?_
      cases h
      exact Tri.nil ⟨rfl,rfl⟩
     ·refine Tri.f 2 [.g false] [.keep [4,7,9,10] [4,9,1100]] rfl ⟨hd8,trivial⟩ ?_
      cases h
      exact Tri.nil ⟨rfl,rfl⟩
    ·refine Tri.f 1 [.g false] [.keep [4,7,9] [4,9,1100]] rfl ⟨hd5,trivial⟩ ?_
     cases h
     exact Tri.out 0 rfl ⟨nofun,rfl,rfl⟩
   ·intro e σ' hne hq
    obtain ⟨v7,v8⟩ := x1
    obtain ⟨rfl,rfl⟩ := hq
    refine TriX.exit (K' := [.code [] 5]) rfl ?_
    refine Tri.f 2 [] [.keep [4,7,9,11,12] [4,9,48,1100]] rfl trivial ?_
    obtain ⟨v11,hk15,h⟩ := bind_some h
    refine Tri.loop (K1 := [.code [(6,0),(1,0),(0,0)] 0]) (K2 := [.blk 2,.code [] 7]) (fun (v9,v10) => ⟨[(4,.ptr 4 0),(7,.sl 1100 0),(9,.ptr 9 0),(11,.sl 48 0),(12,.i v9)],[(4,.box [.i 0,.i 0]),(9,.box [.i v7,.i v8]),(48,.arr 3 0 0 (.ints v10)),(1100,.arr 44 0 0 (.rats v2))]⟩) (fun x e σ' => match x with | v11 => e = .exit 2 ∧ σ' = ⟨[(4,.ptr 4 0),(9,.ptr 9 0),(11,.sl 48 0)],[(4,.box [.i 0,.i 0]),(9,.box [.i v7,.i v8]),(48,.arr 3 0 0 (.ints v11))]⟩) hk15 rfl rfl ?_ ?_
    ·intro s x hs
     clear h
     have h := hs
     clear hs
     obtain ⟨v9,v10⟩ := s
     refine Tri.f 1 [] [.keep [4,7,9,11,12,52] [4,9,48,1100]] rfl trivial ?_
     rcases bif_some h with ⟨hd11,h⟩ | ⟨hd11,h⟩
     ·obtain ⟨hg12,h⟩ := grd_some h
      refine Tri.f 2 [.g true] [.keep [4,7,9,11,12,60] [4,9,48,1100]] rfl ⟨hg12,hd11,trivial⟩ ?_
      rcases bif_some h with ⟨hd13,h⟩ | ⟨hd13,h⟩
      ·obtain ⟨hg14,h⟩ := grd_some h
       refine Tri.f 3 [.g true] [.rever 48,.keep [4,7,9,11,12] [4,9,48,1100]] rfl ⟨hg14,hd13,trivial⟩ ?_
       cases h
       exact Tri.nil ⟨rfl,rfl⟩
      ·refine Tri.f 2 [.g false] [.keep [4,7,9,11,12] [4,9,48,1100]] rfl ⟨hd13,trivial⟩ ?_
       cases h
       exact Tri.nil ⟨rfl,rfl⟩
     ·refine Tri.f 1 [.g false] [.keep [4,9,11] [4,9,48]] rfl ⟨hd11,trivial⟩ ?_
      cases h
      exact Tri.out 2 rfl ⟨nofun,rfl,rfl⟩
    ·intro e σ' hne hq
     obtain ⟨rfl,rfl⟩ := hq
     refine TriX.exit (K' := [.code [] 7]) rfl ?_
     refine Tri.f 1 [] [.swap 48 1000,.keep [4,5,6] [4,1000]] rfl trivial ?_
     cases h
     exact Tri.ret rfl ⟨.inl rfl,rfl,rfl⟩
noncomputable def E237 : Env := ⟨Try.prog,tys,(Try.f45.body).getD .skip,8,tysOk,mixedOk⟩
abbrev K154 (r : Int) (σ' : ASt) : Prop := isRes E237.T Try.f45 (.i r) [] σ'
noncomputable def m_impl_ExcessVector_1 (a0 a1 a2 a3 : Int) : Option Int :=
(m_impl_CompareRat a2 a3 a0 a1).bind fun v1 =>
some v1
theorem W68 (a0 a1 a2 a3 r : Int) (h : m_impl_ExcessVector_1 a0 a1 a2 a3 = some r) : AM.Spec Try.prog 45 [.agg [.i a0,.i a1],.agg [.i a2,.i a3]] [] (.i r) [] := by
 refine spec_of (E := E237) Try.func45 rfl rfl rfl rfl ?_
 refine Tri.f 1 [] [.keep [2,3] [2,3]] rfl trivial ?_
 obtain ⟨v1,hk1,h⟩ := bind_some h
 refine Tri.f 1 [.v (.i v1)] [.keep [4] []] rfl ⟨fun _ => W54 a2 a3 a0 a1 v1 hk1,trivial⟩ ?_
 cases h
 exact Tri.ret rfl ⟨.inl rfl,rfl,rfl⟩
def Try.sortR_ren : Go.Shelf.Ren := ⟨fun | 6 => 44 | 15 => 79 | 14 => 78 | 28 => 107 | 29 => 108 | 20 => 99 | 21 => 100 | 22 => 101 | 23 => 102 | 24 => 103 | 25 => 104 | 26 => 105 | 27 => 106 | 46 => 114 | 47 => 115 | 48 => 116 | 49 => 117 | 50 => 118 | 57 => 119 | n => n,fun | 22 => 28 | 24 => 44 | 25 => 48 | 3 => 3 | 39 => 87 | 0 => 0 | 53 => 111 | 55 => 113 | 4 => 4 | 46 => 104 | 45 => 103 | 50 => 108 | 5 => 5 | 9 => 9 | 66 => 116 | 70 => 120 | 76 => 122 | 77 => 123 | n => n,fun | n => n⟩
theorem Try.sortR : Go.Proofs.SlLaysF0.n6 Try.prog Try.sortR_ren := {
 mixed := by kernel_rfl,
 f6 := ⟨Try.f44.name,by decide,Try.func44.trans (congrArg some (by kernel_rfl))⟩,
 f14 := ⟨Try.f78.name,by decide,Try.func78.trans (congrArg some (by kernel_rfl))⟩,
 f15 := Try.func79.trans (congrArg some (by kernel_rfl)),
 f20 := ⟨Try.f99.name,by decide,Try.func99.trans (congrArg some (by kernel_rfl))⟩,
 f21 := ⟨Try.f100.name,by decide,Try.func100.trans (congrArg some (by kernel_rfl))⟩,
 f22 := ⟨Try.f101.name,by decide,Try.func101.trans (congrArg some (by kernel_rfl))⟩,
 f23 := ⟨Try.f102.name,by decide,Try.func102.trans (congrArg some (by kernel_rfl))⟩,
 f24 := ⟨Try.f103.name,by decide,Try.func103.trans (congrArg some (by kernel_rfl))⟩,
 f25 := ⟨Try.f104.name,by decide,Try.func104.trans (congrArg some (by kernel_rfl))⟩,
 f26 := ⟨Try.f105.name,by decide,Try.func105.trans (congrArg some (by kernel_rfl))⟩,
 f27 := ⟨Try.f106.name,by decide,Try.func106.trans (congrArg some (by kernel_rfl))⟩,
 f28 := Try.func107.trans (congrArg some (by kernel_rfl)),
 f29 := Try.func108.trans (congrArg some (by kernel_rfl)),
 f46 := ⟨Try.f114.name,by decide,Try.func114.trans (congrArg some (by kernel_rfl))⟩,
 f47 := Try.func115.trans (congrArg some (by kernel_rfl)),
 f48 := Try.func116.trans (congrArg some (by kernel_rfl)),
 f49 := ⟨Try.f117.name,by decide,Try.func117.trans (congrArg some (by kernel_rfl))⟩,
 f50 := ⟨Try.f118.name,by decide,Try.func118.trans (congrArg some (by kernel_rfl))⟩,
 f57 := ⟨Try.f119.name,by decide,Try.func119.trans (congrArg some (by kernel_rfl))⟩,
 t0 := Try.underlying0,
 a0 := Try.isAgg0,
 z0 := Try.sizeOf0,
 v0 := Try.zeroValue0,
 t3 := Try.underlying3,
 a3 := Try.isAgg3,
 z3 := Try.sizeOf3,
 v3 := Try.zeroValue3,
 t4 := Try.underlying4,
 a4 := Try.isAgg4,
 z4 := Try.sizeOf4,
 v4 := Try.zeroValue4,
 t5 := Try.underlying5,
 a5 := Try.isAgg5,
 z5 := Try.sizeOf5,
 v5 := Try.zeroValue5,
 t9 := Try.underlying9,
 a9 := Try.isAgg9,
 z9 := Try.sizeOf9,
 v9 := Try.zeroValue9,
 t22 := Try.underlying28,
 a22 := Try.isAgg28,
 z22 := Try.sizeOf28,
 v22 := Try.zeroValue28,
 t25 := Try.underlying48,
 a25 := Try.isAgg48,
 z25 := Try.sizeOf48,
 v25 := Try.zeroValue48,
 t39 := Try.underlying87,
 a39 := Try.isAgg87,
 z39 := Try.sizeOf87,
 v39 := Try.zeroValue87,
 t45 := Try.underlying103,
 a45 := Try.isAgg103,
 z45 := Try.sizeOf103,
 v45 := Try.zeroValue103,
 t46 := Try.underlying104,
 a46 := Try.isAgg104,
 z46 := Try.sizeOf104,
 v46 := Try.zeroValue104,
 t50 := Try.underlying108,
 a50 := Try.isAgg108,
 z50 := Try.sizeOf108,
 v50 := Try.zeroValue108,
 t53 := Try.underlying111,
 a53 := Try.isAgg111,
 z53 := Try.sizeOf111,
 v53 := Try.zeroValue111,
 t55 := Try.underlying113,
 a55 := Try.isAgg113,
 z55 := Try.sizeOf113,
 v55 := Try.zeroValue113,
 t66 := Try.underlying116,
 a66 := Try.isAgg116,
 z66 := Try.sizeOf116,
 v66 := Try.zeroValue116,
 t70 := Try.underlying120,
 a70 := Try.isAgg120,
 z70 := Try.sizeOf120,
 v70 := Try.zeroValue120,
 t76 := Try.underlying122,
 a76 := Try.isAgg122,
 z76 := Try.sizeOf122,
 v76 := Try.zeroValue122,
 t77 := Try.underlying123,
 a77 := Try.isAgg123,
 z77 := Try.sizeOf123,
 v77 := Try.zeroValue123 }
noncomputable def m_slices_SortFunc_impl_Rat_impl_Rat_impl_ExcessVector_1_io1 (a0 : List Q) : Option (List Q) :=
grd (a0.length ≤ 1000000 ∧ (∀ q ∈ a0,okR q) ∧ ∀ x y : Q,okR x → okR y → m_impl_ExcessVector_1 x.num x.den y.num y.den = some (cmpR y x)) <|
some (sortR a0)
theorem W69 (a0 r : List Q) (h : m_slices_SortFunc_impl_Rat_impl_Rat_impl_ExcessVector_1_io1 a0 = some r) : AM.Spec Try.prog 44 [.sl 2180 0,.func 45 [] []] [(2180,.arr 44 0 0 (.rats a0))] (.tuple []) [(2180,.arr 44 0 0 (.rats r))] := by
 obtain ⟨⟨h1,h2,h3⟩,h⟩ := grd_some h
 cases h
 have h0 := spec_sort (P := Try.prog) (f := 44) (g := 45) (e := 44) ⟨_,Try.func44,by decide,rfl⟩ h1 h2 (fun p cap fv w => AnyF.slices_SortFunc_none Try.sortR p cap fv w)
  (fun blk cap d w hc hH hb hsz => AnyQ.slices_SortFunc_total Try.sortR 2 Try.isAgg44 Try.sizeOf44 encQ (fun _ => rfl) encQ_cells cfQ swoQ 45 #[] blk 0 cap d w (enters_of Try.func45 (by kernel_rfl) rfl) hc hH hb hsz totQ)
  (fun x y hx hy => W68 x.num x.den y.num y.den _ (h3 x y hx hy))
 exact h0.swap 2000 2180
noncomputable def E238 : Env := ⟨Try.prog,tys,(Try.f10.body).getD .skip,22,tysOk,mixedOk⟩
abbrev K155 (r : List Q) (σ' : ASt) : Prop := isRes E238.T Try.f10 (.sl 1000 0) [(1000,.arr 44 0 0 (.rats r))] σ'
noncomputable def m_impl_ExcessVector (a0 : Int) (a1 : List Int) (a2 : List Q) : Option (List Q) :=
(m_impl_excesses a0 a1 a2 (1 : Int) (IntKind.i64.wrap ((a1.length : Int) - 2))).bind fun (v1,v2) =>
bif !v1 then
(some [])
else
((m_slices_SortFunc_impl_Rat_impl_Rat_impl_ExcessVector_1_io1 v2).bind fun v3 =>
some v3)
theorem W70 (a0 : Int) (a1 : List Int) (a2 r : List Q) (h : m_impl_ExcessVector a0 a1 a2 = some r) : AM.Spec Try.prog 10 [.agg [.i a0,.list (.ints a1)],.list (.rats a2)] [] (.sl 1000 0) [(1000,.arr 44 0 0 (.rats r))] := by
 refine spec_of (E := E238) Try.func10 rfl rfl rfl rfl ?_
 refine Tri.f 1 [] [.keep [1,2] [2]] rfl trivial ?_
 obtain ⟨⟨v1,v2⟩,hk1,h⟩ := bind_some h
 refine Tri.f 2 [.r ⟨[],.tuple [.sl 1100 0,.bool v1],[(1100,.arr 44 0 0 (.rats v2))]⟩] [.keep [5,18] [1100]] rfl ⟨fun _ => (W49 a0 a1 a2 (1 : Int) (IntKind.i64.wrap ((a1.length : Int) - 2)) (v1,v2) hk1).swap 1000 1100,trivial⟩ ?_
 rcases bif_some h with ⟨hd2,h⟩ | ⟨hd2,h⟩
 ·refine Tri.f 2 [.g true] [.own 4 [] 1101 44,.swap 1101 1000,.keep [4] [1000]] rfl ⟨hd2,trivial⟩ ?_
  cases h
  exact Tri.ret rfl ⟨.inl rfl,rfl,rfl⟩
 ·obtain ⟨v3,hk3,h⟩ := bind_some h
  refine Tri.f 3 [.g false,.r ⟨[1100],.tuple [],[(1100,.arr 44 0 0 (.rats v3))]⟩] [.swap 1100 1000,.keep [4] [1000]] rfl ⟨fun _ => (W69 v2 v3 hk3).swap 2180 1100,hd2,trivial⟩ ?_
  cases h
  exact Tri.ret rfl ⟨.inl rfl,rfl,rfl⟩
noncomputable def E239 : Env := ⟨Try.prog,tys,(Try.f21.body).getD .skip,27,tysOk,mixedOk⟩
abbrev K156 (r : Bool) (σ' : ASt) : Prop := isRes E239.T Try.f21 (.bool r) [] σ'
noncomputable def l_spec_InCore_0 (v2 : List Q) (v3 : Int) : Option (Int ⊕ (Unit ⊕ Bool)) :=
bif decide (v3 < (v2.length : Int)) then
(grd (0 ≤ v3 ∧ v3 < (v2.length : Int)) <|
bif decide (((v2.getD v3.toNat ⟨0,0⟩).num) > 0) then
(some (.inr (.inr false)))
else
(some (.inl (IntKind.i64.wrap (v3 + 1)))))
else
(some (.inr (.inl ())))
noncomputable def m_spec_InCore (a0 : Int) (a1 : List Int) (a2 : List Q) : Option Bool :=
(m_spec_l11All a0 a1 a2).bind fun (v1,v2) =>
(iter (l_spec_InCore_0 v2) (0 : Int)).bind fun
| (.inl _) => (
some v1)
| (.inr r) => some r
theorem W71 (a0 : Int) (a1 : List Int) (a2 : List Q) (r : Bool) (h : m_spec_InCore a0 a1 a2 = some r) : AM.Spec Try.prog 21 [.agg [.i a0,.list (.ints a1)],.list (.rats a2)] [] (.bool r) [] := by
 refine spec_of (E := E239) Try.func21 rfl rfl rfl rfl ?_
 refine Tri.f 1 [] [.keep [1,2] [2]] rfl trivial ?_
 obtain ⟨⟨v1,v2⟩,hk1,h⟩ := bind_some h
 refine Tri.f 2 [.r ⟨[],.tuple [.sl 1100 0,.bool v1],[(1100,.arr 44 0 0 (.rats v2))]⟩] [.keep [5,6,7] [1100]] rfl ⟨fun _ => (W65 a0 a1 a2 (v1,v2) hk1).swap 1000 1100,trivial⟩ ?_
 obtain ⟨x1,hk5,h⟩ := bind_some h
 refine Tri.loop (K1 := [.code [(2,0),(1,0),(0,0)] 0]) (K2 := [.blk 0,.code [] 3]) (fun v3 => ⟨[(5,.sl 1100 0),(6,.bool v1),(7,.i v3)],[(1100,.arr 44 0 0 (.rats v2))]⟩) (fun x e σ' => match x with | (.inl _) => e = .exit 0 ∧ σ' = ⟨[(6,.bool v1)],[]⟩ | (.inr r) => e = .ret ∧ K156 r σ') hk5 rfl rfl ?_ ?_
 ·intro v3 x hs
  clear h
  have h := hs
  clear hs
  refine Tri.f 1 [] [.keep [5,6,7,17] [1100]] rfl trivial ?_
  rcases bif_some h with ⟨hd2,h⟩ | ⟨hd2,h⟩
  ·obtain ⟨hg3,h⟩ := grd_some h
   refine Tri.f 2 [.g true] [.keep [5,6,7,25] [1100]] rfl ⟨hg3,hd2,trivial⟩ ?_
   rcases bif_some h with ⟨hd4,h⟩ | ⟨hd4,h⟩
   ·refine Tri.f 2 [.g true] [.keep [4] []] rfl ⟨hd4,trivial⟩ ?_
    cases h
    exact Tri.ret rfl ⟨nofun,rfl,rfl,rfl⟩
   ·refine Tri.f 2 [.g false] [.keep [5,6,7] [1100]] rfl ⟨hd4,trivial⟩ ?_
    cases h
    exact Tri.nil ⟨rfl,rfl⟩
  ·refine Tri.f 1 [.g false] [.keep [6] []] rfl ⟨hd2,trivial⟩ ?_
   cases h
   exact Tri.out 0 rfl ⟨nofun,rfl,rfl⟩
 ·intro e σ' hne hq
  rcases x1 with _ | r
  ·obtain ⟨rfl,rfl⟩ := hq
   refine TriX.exit (K' := [.code [] 3]) rfl ?_
   refine Tri.f 1 [] [.keep [4] []] rfl trivial ?_
   cases h
   exact Tri.ret rfl ⟨.inl rfl,rfl,rfl⟩
  ·obtain ⟨rfl,hq⟩ := hq
   cases h
   exact TriX.ret ⟨.inl rfl,hq⟩
noncomputable def E240 : Env := ⟨Try.prog,tys,(Try.f22.body).getD .skip,26,tysOk,mixedOk⟩
abbrev K157 (r : Bool) (σ' : ASt) : Prop := isRes E240.T Try.f22 (.bool r) [] σ'
noncomputable def l_laws_sameInts_0 (a0 a1 : List Int) (v1 : Int) : Option (Int ⊕ (Unit ⊕ Bool)) :=
bif decide (v1 < (a0.length : Int)) then
(grd (0 ≤ v1 ∧ v1 < (a0.length : Int)) <|
grd (0 ≤ v1 ∧ v1 < (a1.length : Int)) <|
bif (a0.getD v1.toNat 0) != (a1.getD v1.toNat 0) then
(some (.inr (.inr false)))
else
(some (.inl (IntKind.i64.wrap (v1 + 1)))))
else
(some (.inr (.inl ())))
noncomputable def m_laws_sameInts (a0 a1 : List Int) : Option Bool :=
bif (a0.length : Int) != (a1.length : Int) then
(some false)
else
((iter (l_laws_sameInts_0 a0 a1) (0 : Int)).bind fun
| (.inl _) => (
some true)
| (.inr r) => some r)
theorem W72 (a0 a1 : List Int) (r : Bool) (h : m_laws_sameInts a0 a1 = some r) : AM.Spec Try.prog 22 [.list (.ints a0),.list (.ints a1)] [] (.bool r) [] := by
 refine spec_of (E := E240) Try.func22 rfl rfl rfl rfl ?_
 refine Tri.f 2 [] [.keep [0,1,10] []] rfl trivial ?_
 rcases bif_some h with ⟨hd1,h⟩ | ⟨hd1,h⟩
 ·refine Tri.f 2 [.g true] [.keep [4] []] rfl ⟨hd1,trivial⟩ ?_
  cases h
  exact Tri.ret rfl ⟨.inl rfl,rfl,rfl⟩
 ·refine Tri.f 2 [.g false] [.keep [0,1,5] []] rfl ⟨hd1,trivial⟩ ?_
  obtain ⟨x1,hk6,h⟩ := bind_some h
  refine Tri.loop (K1 := [.code [(2,0),(1,0),(0,0)] 0]) (K2 := [.blk 0,.code [] 3]) (fun v1 => ⟨[(0,.list (.ints a0)),(1,.list (.ints a1)),(5,.i v1)],[]⟩) (fun x e σ' => match x with | (.inl _) => e = .exit 0 ∧ σ' = ⟨[],[]⟩ | (.inr r) => e = .ret ∧ K157 r σ') hk6 rfl rfl ?_ ?_
  ·intro v1 x hs
   clear h
   have h := hs
   clear hs
   refine Tri.f 1 [] [.keep [0,1,5,14] []] rfl trivial ?_
   rcases bif_some h with ⟨hd2,h⟩ | ⟨hd2,h⟩
   ·obtain ⟨hg3,h⟩ := grd_some h
    obtain ⟨hg4,h⟩ := grd_some h
    refine Tri.f 2 [.g true] [.keep [0,1,5,25] []] rfl ⟨hg4,hg3,hd2,trivial⟩ ?_
    rcases bif_some h with ⟨hd5,h⟩ | ⟨hd5,h⟩
    ·refine Tri.f 2 [.g true] [.keep [4] []] rfl ⟨hd5,trivial⟩ ?_
     cases h
     exact Tri.ret rfl ⟨nofun,rfl,rfl,rfl⟩
    ·refine Tri.f 2 [.g false] [.keep [0,1,5] []] rfl ⟨hd5,trivial⟩ ?_
     cases h
     exact Tri.nil ⟨rfl,rfl⟩
   ·refine Tri.f 1 [.g false] [.keep [] []] rfl ⟨hd2,trivial⟩ ?_
    cases h
    exact Tri.out 0 rfl ⟨nofun,rfl,rfl⟩
  ·intro e σ' hne hq
   rcases x1 with _ | r
   ·obtain ⟨rfl,rfl⟩ := hq
    refine TriX.exit (K' := [.code [] 3]) rfl ?_
    refine Tri.f 1 [] [.keep [4] []] rfl trivial ?_
    cases h
    exact Tri.ret rfl ⟨.inl rfl,rfl,rfl⟩
   ·obtain ⟨rfl,hq⟩ := hq
    cases h
    exact TriX.ret ⟨.inl rfl,hq⟩
noncomputable def E241 : Env := ⟨Try.prog,tys,(Try.f7.body).getD .skip,61,tysOk,mixedOk⟩
abbrev K158 (r : List Q) (σ' : ASt) : Prop := isRes E241.T Try.f7 (.sl 1000 0) [(1000,.arr 44 0 0 (.rats r))] σ'
noncomputable def l_spec_ExcessVector_1 (v2 : List Q) (v3 : Int) (v4 : List Q) (v5 : Int) : Option (Int ⊕ Int) :=
bif decide (v5 > 0) then
(grd (0 ≤ IntKind.i64.wrap (v5 - 1) ∧ IntKind.i64.wrap (v5 - 1) < (v4.length : Int)) <|
grd (0 ≤ v3 ∧ v3 < (v2.length : Int)) <|
(m_spec_CompareRat ((v4.getD ((IntKind.i64.wrap (v5 - 1)).toNat) ⟨0,0⟩).num) ((v4.getD ((IntKind.i64.wrap (v5 - 1)).toNat) ⟨0,0⟩).den) ((v2.getD v3.toNat ⟨0,0⟩).num) ((v2.getD v3.toNat ⟨0,0⟩).den)).bind fun v6 =>
bif decide (v6 < 0) then
(some (.inl (IntKind.i64.wrap (v5 - 1))))
else
(some (.inr v5)))
else
(some (.inr v5))
noncomputable def l_spec_ExcessVector_0 (v2 : List Q) : (Int × (List Q)) → Option ((Int × (List Q)) ⊕ ((List Q)))
 | (v3,v4) => (
bif decide (v3 < (v2.length : Int)) then
((iter (l_spec_ExcessVector_1 v2 v3 v4) (v4.length : Int)).bind fun
| v7 => (
grd (0 ≤ v7 ∧ v7 ≤ (v4.length : Int)) <|
grd (([] : List Q).length + ((v4.drop 0).take v7.toNat).length ≤ room) <|
grd (0 ≤ v3 ∧ v3 < (v2.length : Int)) <|
grd (([] ++ ((v4.drop 0).take v7.toNat) : List Q).length + ([⟨(v2.getD v3.toNat ⟨0,0⟩).num,(v2.getD v3.toNat ⟨0,0⟩).den⟩] : List Q).length ≤ room) <|
grd (0 ≤ v7 ∧ v7 ≤ (v4.length : Int)) <|
grd ((([] ++ ((v4.drop 0).take v7.toNat)) ++ [⟨(v2.getD v3.toNat ⟨0,0⟩).num,(v2.getD v3.toNat ⟨0,0⟩).den⟩] : List Q).length + ((v4.drop v7.toNat).take (v4.length - v7.toNat)).length ≤ room) <|
some (.inl (IntKind.i64.wrap (v3 + 1),(([] ++ ((v4.drop 0).take v7.toNat)) ++ [⟨(v2.getD v3.toNat ⟨0,0⟩).num,(v2.getD v3.toNat ⟨0,0⟩).den⟩]) ++ ((v4.drop v7.toNat).take (v4.length - v7.toNat))))))
else
(some (.inr v4)))
noncomputable def m_spec_ExcessVector (a0 : Int) (a1 : List Int) (a2 : List Q) : Option (List Q) :=
(m_spec_l11All a0 a1 a2).bind fun (_,v2) =>
(iter (l_spec_ExcessVector_0 v2) ((0 : Int),[])).bind fun
| v8 => (
some v8)
theorem W73 (a0 : Int) (a1 : List Int) (a2 r : List Q) (h : m_spec_ExcessVector a0 a1 a2 = some r) : AM.Spec Try.prog 7 [.agg [.i a0,.list (.ints a1)],.list (.rats a2)] [] (.sl 1000 0) [(1000,.arr 44 0 0 (.rats r))] := by
 refine spec_of (E := E241) Try.func7 rfl rfl rfl rfl ?_
 refine Tri.f 1 [] [.keep [1,2] [2]] rfl trivial ?_
 obtain ⟨⟨v1,v2⟩,hk1,h⟩ := bind_some h
 refine Tri.f 3 [.r ⟨[],.tuple [.sl 1100 0,.bool v1],[(1100,.arr 44 0 0 (.rats v2))]⟩] [.keep [5,7,8] [17,1100]] rfl ⟨fun _ => (W65 a0 a1 a2 (v1,v2) hk1).swap 1000 1100,trivial⟩ ?_
 obtain ⟨v8,hk15,h⟩ := bind_some h
 refine Tri.loop (K1 := [.code [(3,0),(1,0),(0,0)] 0]) (K2 := [.blk 0,.code [] 4]) (fun (v3,v4) => ⟨[(5,.sl 1100 0),(7,.sl 17 0),(8,.i v3)],[(17,.arr 44 0 0 (.rats v4)),(1100,.arr 44 0 0 (.rats v2))]⟩) (fun x e σ' => match x with | v8 => e = .exit 0 ∧ σ' = ⟨[(7,.sl 17 0)],[(17,.arr 44 0 0 (.rats v8))]⟩) hk15 rfl rfl ?_ ?_
 ·intro s x hs
  clear h
  have h := hs
  clear hs
  obtain ⟨v3,v4⟩ := s
  refine Tri.f 1 [] [.keep [5,7,8,21] [17,1100]] rfl trivial ?_
  rcases bif_some h with ⟨hd2,h⟩ | ⟨hd2,h⟩
  ·refine Tri.f 2 [.g true] [.keep [5,7,8,9] [17,1100]] rfl ⟨hd2,trivial⟩ ?_
   obtain ⟨v7,hk8,h⟩ := bind_some h
   refine Tri.loop (K1 := [.code [(3,0),(1,0),(0,0),(1,0),(0,0),(1,0),(0,0),(0,0)] 0]) (K2 := [.blk 2,.code [(3,0),(1,0),(0,0),(1,0),(0,0)] 2,.blk 1,.code [(3,0),(1,0),(0,0)] 2]) (fun v5 => ⟨[(5,.sl 1100 0),(7,.sl 17 0),(8,.i v3),(9,.i v5)],[(17,.arr 44 0 0 (.rats v4)),(1100,.arr 44 0 0 (.rats v2))]⟩) (fun x e σ' => match x with | v7 => e = .exit 2 ∧ σ' = ⟨[(5,.sl 1100 0),(7,.sl 17 0),(8,.i v3),(9,.i v7)],[(17,.arr 44 0 0 (.rats v4)),(1100,.arr 44 0 0 (.rats v2))]⟩) hk8 rfl rfl ?_ ?_
   ·intro v5 x hs
    clear h
    have h := hs
    clear hs
    rcases bif_some h with ⟨hd3,h⟩ | ⟨hd3,h⟩
    ·obtain ⟨hg4,h⟩ := grd_some h
     obtain ⟨hg5,h⟩ := grd_some h
     obtain ⟨v6,hk6,h⟩ := bind_some h
     refine Tri.f 1 [.g true,.v (.i v6)] [.keep [5,7,8,9,40] [17,1100]] rfl ⟨fun _ => W66 ((v4.getD ((IntKind.i64.wrap (v5 - 1)).toNat) ⟨0,0⟩).num) ((v4.getD ((IntKind.i64.wrap (v5 - 1)).toNat) ⟨0,0⟩).den) ((v2.getD v3.toNat ⟨0,0⟩).num) ((v2.getD v3.toNat ⟨0,0⟩).den) v6 hk6,hg5,hg4,hd3,trivial⟩ ?_
     rcases bif_some h with ⟨hd7,h⟩ | ⟨hd7,h⟩
     ·refine Tri.f 2 [.g true] [.keep [5,7,8,9] [17,1100]] rfl ⟨hd7,trivial⟩ ?_
      cases h
      exact Tri.nil ⟨rfl,rfl⟩
     ·refine Tri.f 1 [.g false] [.keep [5,7,8,9] [17,1100]] rfl ⟨hd7,trivial⟩ ?_
      cases h
      exact Tri.out 2 rfl ⟨nofun,rfl,rfl⟩
    ·refine Tri.f 1 [.g false] [.keep [5,7,8,9,40] [17,1100]] rfl ⟨hd3,trivial⟩ ?_
     refine Tri.f 1 [.g false] [.keep [5,7,8,9] [17,1100]] rfl ⟨rfl,trivial⟩ ?_
     cases h
     exact Tri.out 2 rfl ⟨nofun,rfl,rfl⟩
   ·intro e σ' hne hq
    obtain ⟨rfl,rfl⟩ := hq
    refine TriX.exit (K' := [.code [(3,0),(1,0),(0,0),(1,0),(0,0)] 2,.blk 1,.code [(3,0),(1,0),(0,0)] 2]) rfl ?_
    obtain ⟨hg9,h⟩ := grd_some h
    obtain ⟨hg10,h⟩ := grd_some h
    obtain ⟨hg11,h⟩ := grd_some h
    obtain ⟨hg12,h⟩ := grd_some h
    obtain ⟨hg13,h⟩ := grd_some h
    obtain ⟨hg14,h⟩ := grd_some h
    refine Tri.f 3 [] [.keep [5,7,8] [43,1100]] rfl ⟨hg14,hg13,hg12,hg11,hg10,hg9,trivial⟩ ?_
    refine Tri.f 1 [] [.rever 43,.swap 43 17,.keep [5,7,8] [17,1100]] rfl trivial ?_
    cases h
    exact Tri.nil ⟨rfl,rfl⟩
  ·refine Tri.f 1 [.g false] [.keep [7] [17]] rfl ⟨hd2,trivial⟩ ?_
   cases h
   exact Tri.out 0 rfl ⟨nofun,rfl,rfl⟩
 ·intro e σ' hne hq
  obtain ⟨rfl,rfl⟩ := hq
  refine TriX.exit (K' := [.code [] 4]) rfl ?_
  refine Tri.f 1 [] [.swap 17 1000,.keep [4] [1000]] rfl trivial ?_
  cases h
  exact Tri.ret rfl ⟨.inl rfl,rfl,rfl⟩
noncomputable def E242 : Env := ⟨Try.prog,tys,(Try.f23.body).getD .skip,26,tysOk,mixedOk⟩
abbrev K159 (r : Bool) (σ' : ASt) : Prop := isRes E242.T Try.f23 (.bool r) [] σ'
noncomputable def l_spec_EqualVector_0 (a0 a1 : List Q) (v1 : Int) : Option (Int ⊕ (Unit ⊕ Bool)) :=
bif decide (v1 < (a0.length : Int)) then
(grd (0 ≤ v1 ∧ v1 < (a0.length : Int)) <|
grd (0 ≤ v1 ∧ v1 < (a1.length : Int)) <|
bif !(((a0.getD v1.toNat ⟨0,0⟩).num) == ((a1.getD v1.toNat ⟨0,0⟩).num) && ((a0.getD v1.toNat ⟨0,0⟩).den) == ((a1.getD v1.toNat ⟨0,0⟩).den)) then
(some (.inr (.inr false)))
else
(some (.inl (IntKind.i64.wrap (v1 + 1)))))
else
(some (.inr (.inl ())))
noncomputable def m_spec_EqualVector (a0 a1 : List Q) : Option Bool :=
bif (a0.length : Int) != (a1.length : Int) then
(some false)
else
((iter (l_spec_EqualVector_0 a0 a1) (0 : Int)).bind fun
| (.inl _) => (
some true)
| (.inr r) => some r)
theorem W74 (a0 a1 : List Q) (r : Bool) (h : m_spec_EqualVector a0 a1 = some r) : AM.Spec Try.prog 23 [.list (.rats a0),.list (.rats a1)] [] (.bool r) [] := by
 refine spec_of (E := E242) Try.func23 rfl rfl rfl rfl ?_
 refine Tri.f 2 [] [.keep [0,1,10] []] rfl trivial ?_
 rcases bif_some h with ⟨hd1,h⟩ | ⟨hd1,h⟩
 ·refine Tri.f 2 [.g true] [.keep [4] []] rfl ⟨hd1,trivial⟩ ?_
  cases h
  exact Tri.ret rfl ⟨.inl rfl,rfl,rfl⟩
 ·refine Tri.f 2 [.g false] [.keep [0,1,5] []] rfl ⟨hd1,trivial⟩ ?_
  obtain ⟨x1,hk6,h⟩ := bind_some h
  refine Tri.loop (K1 := [.code [(2,0),(1,0),(0,0)] 0]) (K2 := [.blk 0,.code [] 3]) (fun v1 => ⟨[(0,.list (.rats a0)),(1,.list (.rats a1)),(5,.i v1)],[]⟩) (fun x e σ' => match x with | (.inl _) => e = .exit 0 ∧ σ' = ⟨[],[]⟩ | (.inr r) => e = .ret ∧ K159 r σ') hk6 rfl rfl ?_ ?_
  ·intro v1 x hs
   clear h
   have h := hs
   clear hs
   refine Tri.f 1 [] [.keep [0,1,5,14] []] rfl trivial ?_
   rcases bif_some h with ⟨hd2,h⟩ | ⟨hd2,h⟩
   ·obtain ⟨hg3,h⟩ := grd_some h
    obtain ⟨hg4,h⟩ := grd_some h
    refine Tri.f 2 [.g true] [.keep [0,1,5,25] []] rfl ⟨hg4,hg3,hd2,trivial⟩ ?_
    rcases bif_some h with ⟨hd5,h⟩ | ⟨hd5,h⟩
    ·refine Tri.f 2 [.g true] [.keep [4] []] rfl ⟨hd5,trivial⟩ ?_
     cases h
     exact Tri.ret rfl ⟨nofun,rfl,rfl,rfl⟩
    ·refine Tri.f 2 [.g false] [.keep [0,1,5] []] rfl ⟨hd5,trivial⟩ ?_
     cases h
     exact Tri.nil ⟨rfl,rfl⟩
   ·refine Tri.f 1 [.g false] [.keep [] []] rfl ⟨hd2,trivial⟩ ?_
    cases h
    exact Tri.out 0 rfl ⟨nofun,rfl,rfl⟩
  ·intro e σ' hne hq
   rcases x1 with _ | r
   ·obtain ⟨rfl,rfl⟩ := hq
    refine TriX.exit (K' := [.code [] 3]) rfl ?_
    refine Tri.f 1 [] [.keep [4] []] rfl trivial ?_
    cases h
    exact Tri.ret rfl ⟨.inl rfl,rfl,rfl⟩
   ·obtain ⟨rfl,hq⟩ := hq
    cases h
    exact TriX.ret ⟨.inl rfl,hq⟩
noncomputable def E243 : Env := ⟨Try.prog,tys,(Try.f26.body).getD .skip,29,tysOk,mixedOk⟩
abbrev K160 (r : Bool) (σ' : ASt) : Prop := isRes E243.T Try.f26 (.bool r) [] σ'
noncomputable def l_impl_IsImputation_0 (a1 : List Int) (a2 : List Q) (v2 : Int) : Option (Int ⊕ (Unit ⊕ Bool)) :=
bif decide (v2 < (a2.length : Int)) then
(grd (0 ≤ v2 ∧ v2 < (a2.length : Int)) <|
grd (0 ≤ v2) <|
grd (0 ≤ IntKind.i64.wrap ((1 : Int) * 2 ^ (min v2.toNat 64)) ∧ IntKind.i64.wrap ((1 : Int) * 2 ^ (min v2.toNat 64)) < (a1.length : Int)) <|
(m_impl_whole (a1.getD ((IntKind.i64.wrap ((1 : Int) * 2 ^ (min v2.toNat 64))).toNat) 0)).bind fun (v3,v4) =>
(m_impl_CompareRat ((a2.getD v2.toNat ⟨0,0⟩).num) ((a2.getD v2.toNat ⟨0,0⟩).den) v3 v4).bind fun v5 =>
bif decide (v5 < 0) then
(some (.inr (.inr false)))
else
(some (.inl (IntKind.i64.wrap (v2 + 1)))))
else
(some (.inr (.inl ())))
noncomputable def m_impl_IsImputation (a0 : Int) (a1 : List Int) (a2 : List Q) : Option Bool :=
(m_impl_IsPayoff a0 a1 a2).bind fun v1 =>
bif !v1 then
(some false)
else
((iter (l_impl_IsImputation_0 a1 a2) (0 : Int)).bind fun
| (.inl _) => (
some true)
| (.inr r) => some r)
theorem W75 (a0 : Int) (a1 : List Int) (a2 : List Q) (r : Bool) (h : m_impl_IsImputation a0 a1 a2 = some r) : AM.Spec Try.prog 26 [.agg [.i a0,.list (.ints a1)],.list (.rats a2)] [] (.bool r) [] := by
 refine spec_of (E := E243) Try.func26 rfl rfl rfl rfl ?_
 refine Tri.f 1 [] [.keep [1,2] [2]] rfl trivial ?_
 obtain ⟨v1,hk1,h⟩ := bind_some h
 refine Tri.f 1 [.v (.bool v1)] [.keep [1,2,10] [2]] rfl ⟨fun _ => W46 a0 a1 a2 v1 hk1,trivial⟩ ?_
 rcases bif_some h with ⟨hd2,h⟩ | ⟨hd2,h⟩
 ·refine Tri.f 2 [.g true] [.keep [4] []] rfl ⟨hd2,trivial⟩ ?_
  cases h
  exact Tri.ret rfl ⟨.inl rfl,rfl,rfl⟩
 ·refine Tri.f 2 [.g false] [.keep [2,11,12,13] [2]] rfl ⟨hd2,trivial⟩ ?_
  obtain ⟨x1,hk10,h⟩ := bind_some h
  refine Tri.loop (K1 := [.code [(2,0),(1,0),(0,0)] 0]) (K2 := [.blk 0,.code [] 3]) (fun v2 => ⟨[(2,.ptr 2 0),(11,.list (.rats a2)),(12,.i (a2.length : Int)),(13,.i v2)],[(2,.box [.i a0,.list (.ints a1)])]⟩) (fun x e σ' => match x with | (.inl _) => e = .exit 0 ∧ σ' = ⟨[],[]⟩ | (.inr r) => e = .ret ∧ K160 r σ') hk10 rfl rfl ?_ ?_
  ·intro v2 x hs
   clear h
   have h := hs
   clear hs
   refine Tri.f 1 [] [.keep [2,11,12,13,14] [2]] rfl trivial ?_
   rcases bif_some h with ⟨hd3,h⟩ | ⟨hd3,h⟩
   ·obtain ⟨hg4,h⟩ := grd_some h
    refine Tri.f 2 [.g true] [.keep [2,5,6,11,12,13] [2,6]] rfl ⟨hg4,hd3,trivial⟩ ?_
    obtain ⟨hg5,h⟩ := grd_some h
    obtain ⟨hg6,h⟩ := grd_some h
    obtain ⟨⟨v3,v4⟩,hk7,h⟩ := bind_some h
    obtain ⟨v5,hk8,h⟩ := bind_some h
    refine Tri.f 1 [.v (.agg [.i v3,.i v4]),.v (.i v5)] [.keep [2,11,12,13,27] [2]] rfl ⟨fun _ => W54 ((a2.getD v2.toNat ⟨0,0⟩).num) ((a2.getD v2.toNat ⟨0,0⟩).den) v3 v4 v5 hk8,fun _ => W39 (a1.getD ((IntKind.i64.wrap ((1 : Int) * 2 ^ (min v2.toNat 64))).toNat) 0) (v3,v4) hk7,hg6,hg5,trivial⟩ ?_
    rcases bif_some h with ⟨hd9,h⟩ | ⟨hd9,h⟩
    ·refine Tri.f 2 [.g true] [.keep [4] []] rfl ⟨hd9,trivial⟩ ?_
     cases h
     exact Tri.ret rfl ⟨nofun,rfl,rfl,rfl⟩
    ·refine Tri.f 2 [.g false] [.keep [2,11,12,13] [2]] rfl ⟨hd9,trivial⟩ ?_
     cases h
     exact Tri.nil ⟨rfl,rfl⟩
   ·refine Tri.f 1 [.g false] [.keep [] []] rfl ⟨hd3,trivial⟩ ?_
    cases h
    exact Tri.out 0 rfl ⟨nofun,rfl,rfl⟩
  ·intro e σ' hne hq
   rcases x1 with _ | r
   ·obtain ⟨rfl,rfl⟩ := hq
    refine TriX.exit (K' := [.code [] 3]) rfl ?_
    refine Tri.f 1 [] [.keep [4] []] rfl trivial ?_
    cases h
    exact Tri.ret rfl ⟨.inl rfl,rfl,rfl⟩
   ·obtain ⟨rfl,hq⟩ := hq
    cases h
    exact TriX.ret ⟨.inl rfl,hq⟩
noncomputable def E244 : Env := ⟨Try.prog,tys,(Try.f61.body).getD .skip,17,tysOk,mixedOk⟩
abbrev K161 (r : Int) (σ' : ASt) : Prop := isRes E244.T Try.f61 (.i r) [] σ'
noncomputable def m_spec_ValueOf (_a0 : Int) (a1 : List Int) (a2 : Int) : Option Int :=
(m_spec_l1In a2 (0 : Int) (IntKind.i64.wrap ((a1.length : Int) - 1))).bind fun v1 =>
bif !v1 then
(some (0 : Int))
else
(grd (0 ≤ a2 ∧ a2 < (a1.length : Int)) <|
some (a1.getD a2.toNat 0))
theorem W76 (a0 : Int) (a1 : List Int) (a2 r : Int) (h : m_spec_ValueOf a0 a1 a2 = some r) : AM.Spec Try.prog 61 [.agg [.i a0,.list (.ints a1)],.i a2] [] (.i r) [] := by
 refine spec_of (E := E244) Try.func61 rfl rfl rfl rfl ?_
 refine Tri.f 1 [] [.keep [1,2] [2]] rfl trivial ?_
 obtain ⟨v1,hk1,h⟩ := bind_some h
 refine Tri.f 1 [.v (.bool v1)] [.keep [1,2,11] [2]] rfl ⟨fun _ => W5 a2 (0 : Int) (IntKind.i64.wrap ((a1.length : Int) - 1)) v1 hk1,trivial⟩ ?_
 rcases bif_some h with ⟨hd2,h⟩ | ⟨hd2,h⟩
 ·refine Tri.f 2 [.g true] [.keep [4] []] rfl ⟨hd2,trivial⟩ ?_
  cases h
  exact Tri.ret rfl ⟨.inl rfl,rfl,rfl⟩
 ·obtain ⟨hg3,h⟩ := grd_some h
  refine Tri.f 2 [.g false] [.keep [4] []] rfl ⟨hg3,hd2,trivial⟩ ?_
  cases h
  exact Tri.ret rfl ⟨.inl rfl,rfl,rfl⟩
noncomputable def E245 : Env := ⟨Try.prog,tys,(Try.f27.body).getD .skip,30,tysOk,mixedOk⟩
abbrev K162 (r : Bool) (σ' : ASt) : Prop := isRes E245.T Try.f27 (.bool r) [] σ'
noncomputable def l_spec_IsImputation_0 (a0 : Int) (a1 : List Int) (a2 : List Q) (v1 : Int) : Option (Int ⊕ (Unit ⊕ Bool)) :=
bif decide (v1 < (a2.length : Int)) then
(bif decide (v1 < 5) then
(grd (0 ≤ v1 ∧ v1 < (a2.length : Int)) <|
(m_spec_l2Bit v1).bind fun v2 =>
(m_spec_ValueOf a0 a1 v2).bind fun v3 =>
(m_spec_l3Int v3).bind fun (v4,v5) =>
(m_spec_CompareRat ((a2.getD v1.toNat ⟨0,0⟩).num) ((a2.getD v1.toNat ⟨0,0⟩).den) v4 v5).bind fun v6 =>
bif decide (v6 < 0) then
(some (.inr (.inr false)))
else
(some (.inl (IntKind.i64.wrap (v1 + 1)))))
else
(some (.inr (.inl ()))))
else
(some (.inr (.inl ())))
noncomputable def m_spec_IsImputation (a0 : Int) (a1 : List Int) (a2 : List Q) : Option Bool :=
(iter (l_spec_IsImputation_0 a0 a1 a2) (0 : Int)).bind fun
| (.inl _) => (
(m_spec_IsPayoff a0 a1 a2).bind fun v7 =>
some v7)
| (.inr r) => some r
theorem W77 (a0 : Int) (a1 : List Int) (a2 : List Q) (r : Bool) (h : m_spec_IsImputation a0 a1 a2 = some r) : AM.Spec Try.prog 27 [.agg [.i a0,.list (.ints a1)],.list (.rats a2)] [] (.bool r) [] := by
 refine spec_of (E := E245) Try.func27 rfl rfl rfl rfl ?_
 refine Tri.f 2 [] [.keep [1,2,5] [2]] rfl trivial ?_
 obtain ⟨x1,hk9,h⟩ := bind_some h
 refine Tri.loop (K1 := [.code [(1,0),(1,0),(0,0)] 0]) (K2 := [.blk 0,.code [] 2]) (fun v1 => ⟨[(1,.list (.rats a2)),(2,.ptr 2 0),(5,.i v1)],[(2,.box [.i a0,.list (.ints a1)])]⟩) (fun x e σ' => match x with | (.inl _) => e = .exit 0 ∧ σ' = ⟨[(1,.list (.rats a2)),(2,.ptr 2 0)],[(2,.box [.i a0,.list (.ints a1)])]⟩ | (.inr r) => e = .ret ∧ K162 r σ') hk9 rfl rfl ?_ ?_
 ·intro v1 x hs
  clear h
  have h := hs
  clear hs
  rcases bif_some h with ⟨hd1,h⟩ | ⟨hd1,h⟩
  ·refine Tri.f 1 [.g true] [.keep [1,2,5,13] [2]] rfl ⟨hd1,trivial⟩ ?_
   rcases bif_some h with ⟨hd2,h⟩ | ⟨hd2,h⟩
   ·obtain ⟨hg3,h⟩ := grd_some h
    obtain ⟨v2,hk4,h⟩ := bind_some h
    obtain ⟨v3,hk5,h⟩ := bind_some h
    obtain ⟨⟨v4,v5⟩,hk6,h⟩ := bind_some h
    obtain ⟨v6,hk7,h⟩ := bind_some h
    refine Tri.f 2 [.g true,.v (.i v2),.v (.i v3),.v (.agg [.i v4,.i v5]),.v (.i v6)] [.keep [1,2,5,26] [2]] rfl ⟨fun _ => W66 ((a2.getD v1.toNat ⟨0,0⟩).num) ((a2.getD v1.toNat ⟨0,0⟩).den) v4 v5 v6 hk7,fun _ => W18 v3 (v4,v5) hk6,fun _ => W76 a0 a1 v2 v3 hk5,fun _ => W7 v1 v2 hk4,hg3,hd2,trivial⟩ ?_
    rcases bif_some h with ⟨hd8,h⟩ | ⟨hd8,h⟩
    ·refine Tri.f 2 [.g true] [.keep [4] []] rfl ⟨hd8,trivial⟩ ?_
     cases h
     exact Tri.ret rfl ⟨nofun,rfl,rfl,rfl⟩
    ·refine Tri.f 2 [.g false] [.keep [1,2,5] [2]] rfl ⟨hd8,trivial⟩ ?_
     cases h
     exact Tri.nil ⟨rfl,rfl⟩
   ·refine Tri.f 1 [.g false] [.keep [1,2] [2]] rfl ⟨hd2,trivial⟩ ?_
    cases h
    exact Tri.out 0 rfl ⟨nofun,rfl,rfl⟩
  ·refine Tri.f 1 [.g false] [.keep [1,2,5,13] [2]] rfl ⟨hd1,trivial⟩ ?_
   refine Tri.f 1 [.g false] [.keep [1,2] [2]] rfl ⟨rfl,trivial⟩ ?_
   cases h
   exact Tri.out 0 rfl ⟨nofun,rfl,rfl⟩
 ·intro e σ' hne hq
  rcases x1 with _ | r
  ·obtain ⟨rfl,rfl⟩ := hq
   refine TriX.exit (K' := [.code [] 2]) rfl ?_
   obtain ⟨v7,hk10,h⟩ := bind_some h
   refine Tri.f 1 [.v (.bool v7)] [.keep [4] []] rfl ⟨fun _ => W62 a0 a1 a2 v7 hk10,trivial⟩ ?_
   cases h
   exact Tri.ret rfl ⟨.inl rfl,rfl,rfl⟩
  ·obtain ⟨rfl,hq⟩ := hq
   cases h
   exact TriX.ret ⟨.inl rfl,hq⟩
noncomputable def E246 : Env := ⟨Try.prog,tys,(Try.f29.body).getD .skip,22,tysOk,mixedOk⟩
abbrev K163 (r : (List Q) × (List Q)) (σ' : ASt) : Prop := isRes E246.T Try.f29 (.tuple [.sl 1000 0,.sl 1001 0]) [(1000,.arr 44 0 0 (.rats r.1)),(1001,.arr 44 0 0 (.rats r.2))] σ'
noncomputable def m_spec_DrawCompareExcesses (a0 : List UInt8) : Option ((List Q) × (List Q)) :=
(m_spec_l11Args a0).bind fun (v1,v2,v3) =>
(m_spec_l1New a0).bind fun (v4,v5,v6) =>
(m_spec_l11Payoff_io1 v4 v5 v6 v1 v2).bind fun (v7,_,_) =>
(m_spec_ExcessVector v1 v2 v3).bind fun v10 =>
(m_spec_ExcessVector v1 v2 v7).bind fun v11 =>
some (v10,v11)
theorem W78 (a0 : List UInt8) (r : (List Q) × (List Q)) (h : m_spec_DrawCompareExcesses a0 = some r) : AM.Spec Try.prog 29 [.list (.bytes a0)] [] (.tuple [.sl 1000 0,.sl 1001 0]) [(1000,.arr 44 0 0 (.rats r.1)),(1001,.arr 44 0 0 (.rats r.2))] := by
 refine spec_of (E := E246) Try.func29 rfl rfl rfl rfl ?_
 refine Tri.f 1 [] [.keep [0] []] rfl trivial ?_
 obtain ⟨⟨v1,v2,v3⟩,hk1,h⟩ := bind_some h
 refine Tri.f 1 [.r ⟨[],.tuple [.agg [.i v1,.sl 1100 0],.sl 1101 0],[(1100,.arr 3 0 0 (.ints v2)),(1101,.arr 44 0 0 (.rats v3))]⟩] [.keep [0,4,5] [4,1100,1101],.give [],.keep [0,4,5] []] rfl ⟨fun _ => ((W26 a0 (v1,v2,v3) hk1).swap 1000 1100).swap 1001 1101,trivial⟩ ?_
 obtain ⟨⟨v4,v5,v6⟩,hk2,h⟩ := bind_some h
 obtain ⟨⟨v7,v8,v9⟩,hk3,h⟩ := bind_some h
 obtain ⟨v10,hk4,h⟩ := bind_some h
 obtain ⟨v11,hk5,h⟩ := bind_some h
 refine Tri.f 2 [.r ⟨[],.ptr 1102 0,[(1102,.box [.list (.bytes v4),.i v5,.i v6])]⟩,.r ⟨[1102],.sl 1103 0,[(1103,.arr 44 0 0 (.rats v7)),(1102,.box [.undf,.i v8,.i v9])]⟩,.r ⟨[],.sl 1104 0,[(1104,.arr 44 0 0 (.rats v10))]⟩,.r ⟨[],.sl 1105 0,[(1105,.arr 44 0 0 (.rats v11))]⟩] [.swap 1104 1000,.swap 1105 1001,.keep [2,3] [1000,1001]] rfl ⟨fun _ => (W73 v1 v2 v7 v11 hk5).swap 1000 1105,fun _ => (W73 v1 v2 v3 v10 hk4).swap 1000 1104,(fun vf => (((W19 (vf 1102 0) v4 v5 v6 v1 v2 (v7,v8,v9) hk3).swap 1000 1103).swap 2140 1102)),fun _ => (W1 a0 (v4,v5,v6) hk2).swap 1000 1102,trivial⟩ ?_
 cases h
 exact Tri.ret rfl ⟨.inl rfl,rfl,rfl⟩
noncomputable def E247 : Env := ⟨Try.prog,tys,(Try.f66.body).getD .skip,19,tysOk,mixedOk⟩
abbrev K164 (u0 : Value) (a0 : List UInt8) (r : (List Q) × Int × Int) (σ' : ASt) : Prop := isRes E247.T Try.f66 (.sl 1000 0) [(1000,.arr 44 0 0 (.rats r.1)),(2200,.box [.lst u0 (.bytes a0),.i r.2.1,.i r.2.2])] σ'
noncomputable def l_spec_l4Draw_io1_0 (a0 : List UInt8) (a3 : Int) : (Int × (List Q) × Int × Int) → Option ((Int × (List Q) × Int × Int) ⊕ (((List Q) × Int × Int)))
 | (v1,v2,v3,v4) => (
bif decide (v1 < a3) then
((m_spec_l3Draw_io1 a0 v3 v4).bind fun (v5,v6,v7,v8) =>
grd (v2.length + ([⟨v5,v6⟩] : List Q).length ≤ room) <|
some (.inl (IntKind.i64.wrap (v1 + 1),v2 ++ [⟨v5,v6⟩],v7,v8)))
else
(some (.inr (v2,v3,v4))))
noncomputable def m_spec_l4Draw_io1 (a0 : List UInt8) (a1 a2 a3 : Int) : Option ((List Q) × Int × Int) :=
(iter (l_spec_l4Draw_io1_0 a0 a3) ((0 : Int),[],a1,a2)).bind fun
| (v9,v10,v11) => (
some (v9,v10,v11))
theorem W79 (u0 : Value) (a0 : List UInt8) (a1 a2 a3 : Int) (r : (List Q) × Int × Int) (h : m_spec_l4Draw_io1 a0 a1 a2 a3 = some r) : AM.Spec Try.prog 66 [.ptr 2200 0,.i a3] [(2200,.box [.lst u0 (.bytes a0),.i a1,.i a2])] (.sl 1000 0) [(1000,.arr 44 0 0 (.rats r.1)),(2200,.box [.lst u0 (.bytes a0),.i r.2.1,.i r.2.2])] := by
 refine spec_of (E := E247) Try.func66 rfl rfl rfl rfl ?_
 refine Tri.f 3 [] [.keep [0,1,5,6] [7,2200]] rfl trivial ?_
 obtain ⟨x1,hk4,h⟩ := bind_some h
 refine Tri.loop (K1 := [.code [(2,0),(1,0),(0,0)] 0]) (K2 := [.blk 0,.code [] 3]) (fun (v1,v2,v3,v4) => ⟨[(0,.ptr 2200 0),(1,.i a3),(5,.sl 7 0),(6,.i v1)],[(7,.arr 44 0 0 (.rats v2)),(2200,.box [.lst u0 (.bytes a0),.i v3,.i v4])]⟩) (fun x e σ' => match x with | (v9,v10,v11) => e = .exit 0 ∧ σ' = ⟨[(5,.sl 7 0)],[(7,.arr 44 0 0 (.rats v9)),(2200,.box [.lst u0 (.bytes a0),.i v10,.i v11])]⟩) hk4 rfl rfl ?_ ?_
 ·intro s x hs
  clear h
  have h := hs
  clear hs
  obtain ⟨v1,v2,v3,v4⟩ := s
  refine Tri.f 1 [] [.keep [0,1,5,6,10] [7,2200]] rfl trivial ?_
  rcases bif_some h with ⟨hd1,h⟩ | ⟨hd1,h⟩
  ·obtain ⟨⟨v5,v6,v7,v8⟩,hk2,h⟩ := bind_some h
   obtain ⟨hg3,h⟩ := grd_some h
   refine Tri.f 3 [.g true,.r ⟨[2200],.agg [.i v5,.i v6],[(2200,.box [.undf,.i v7,.i v8])]⟩] [.rever 7,.keep [0,1,5,6] [7,2200]] rfl ⟨hg3,(fun vf => ((W23 (vf 2200 0) a0 v3 v4 (v5,v6,v7,v8) hk2).swap 2160 2200)),hd1,trivial⟩ ?_
   cases h
   exact Tri.nil ⟨rfl,rfl⟩
  ·refine Tri.f 1 [.g false] [.keep [5] [7,2200]] rfl ⟨hd1,trivial⟩ ?_
   cases h
   exact Tri.out 0 rfl ⟨nofun,rfl,rfl⟩
 ·intro e σ' hne hq
  obtain ⟨v9,v10,v11⟩ := x1
  obtain ⟨rfl,rfl⟩ := hq
  refine TriX.exit (K' := [.code [] 3]) rfl ?_
  refine Tri.f 1 [] [.swap 7 1000,.keep [4] [1000,2200]] rfl trivial ?_
  cases h
  exact Tri.ret rfl ⟨.inl rfl,rfl,rfl⟩
noncomputable def E248 : Env := ⟨Try.prog,tys,(Try.f68.body).getD .skip,6,tysOk,mixedOk⟩
abbrev K165 (u0 : Value) (a0 : List UInt8) (r : Int × Int × Int) (σ' : ASt) : Prop := isRes E248.T Try.f68 (.i r.1) [(2220,.box [.lst u0 (.bytes a0),.i r.2.1,.i r.2.2])] σ'
noncomputable def m_spec_l2Any_io1 (a0 : List UInt8) (a1 a2 : Int) : Option (Int × Int × Int) :=
(m_spec_l1PickInt_io1 a0 a1 a2 [(0 : Int),(1 : Int),(2 : Int),(3 : Int),(5 : Int),(7 : Int),(12 : Int),(21 : Int),(31 : Int),(32 : Int),(-1 : Int)]).bind fun (v1,v2,v3) =>
some (v1,v2,v3)
theorem W80 (u0 : Value) (a0 : List UInt8) (a1 a2 : Int) (r : Int × Int × Int) (h : m_spec_l2Any_io1 a0 a1 a2 = some r) : AM.Spec Try.prog 68 [.ptr 2220 0] [(2220,.box [.lst u0 (.bytes a0),.i a1,.i a2])] (.i r.1) [(2220,.box [.lst u0 (.bytes a0),.i r.2.1,.i r.2.2])] := by
 refine spec_of (E := E248) Try.func68 rfl rfl rfl rfl ?_
 refine Tri.f 1 [] [.keep [0] [2220]] rfl trivial ?_
 obtain ⟨⟨v1,v2,v3⟩,hk1,h⟩ := bind_some h
 refine Tri.f 1 [.r ⟨[2220],.i v1,[(2220,.box [.undf,.i v2,.i v3])]⟩] [.keep [2] [2220]] rfl ⟨(fun vf => ((W10 (vf 2220 0) a0 a1 a2 [(0 : Int),(1 : Int),(2 : Int),(3 : Int),(5 : Int),(7 : Int),(12 : Int),(21 : Int),(31 : Int),(32 : Int),(-1 : Int)] (v1,v2,v3) hk1).swap 2080 2220)),trivial⟩ ?_
 cases h
 exact Tri.ret rfl ⟨.inl rfl,rfl,rfl⟩
noncomputable def E249 : Env := ⟨Try.prog,tys,(Try.f30.body).getD .skip,13,tysOk,mixedOk⟩
abbrev K166 (r : Int × (List Q)) (σ' : ASt) : Prop := isRes E249.T Try.f30 (.tuple [.sl 1000 0,.i r.1]) [(1000,.arr 44 0 0 (.rats r.2))] σ'
noncomputable def m_spec_DrawShareOf (a0 : List UInt8) : Option (Int × (List Q)) :=
(m_spec_l1New a0).bind fun (v1,v2,v3) =>
(m_spec_l1Below_io1 v1 v2 v3 (6 : Int)).bind fun (v4,v5,v6) =>
(m_spec_l4Draw_io1 v1 v5 v6 v4).bind fun (v7,v8,v9) =>
(m_spec_l2Any_io1 v1 v8 v9).bind fun (v10,_,_) =>
some (v10,v7)
theorem W81 (a0 : List UInt8) (r : Int × (List Q)) (h : m_spec_DrawShareOf a0 = some r) : AM.Spec Try.prog 30 [.list (.bytes a0)] [] (.tuple [.sl 1000 0,.i r.1]) [(1000,.arr 44 0 0 (.rats r.2))] := by
 refine spec_of (E := E249) Try.func30 rfl rfl rfl rfl ?_
 refine Tri.f 1 [] [.keep [0] []] rfl trivial ?_
 obtain ⟨⟨v1,v2,v3⟩,hk1,h⟩ := bind_some h
 obtain ⟨⟨v4,v5,v6⟩,hk2,h⟩ := bind_some h
 obtain ⟨⟨v7,v8,v9⟩,hk3,h⟩ := bind_some h
 obtain ⟨⟨v10,v11,v12⟩,hk4,h⟩ := bind_some h
 refine Tri.f 2 [.r ⟨[],.ptr 1100 0,[(1100,.box [.list (.bytes v1),.i v2,.i v3])]⟩,.r ⟨[1100],.i v4,[(1100,.box [.undf,.i v5,.i v6])]⟩,.r ⟨[1100],.sl 1101 0,[(1101,.arr 44 0 0 (.rats v7)),(1100,.box [.undf,.i v8,.i v9])]⟩,.r ⟨[1100],.i v10,[(1100,.box [.undf,.i v11,.i v12])]⟩] [.swap 1101 1000,.keep [2,3] [1000]] rfl ⟨(fun vf => ((W80 (vf 1100 0) v1 v8 v9 (v10,v11,v12) hk4).swap 2220 1100)),(fun vf => (((W79 (vf 1100 0) v1 v5 v6 v4 (v7,v8,v9) hk3).swap 1000 1101).swap 2200 1100)),(fun vf => ((W4 (vf 1100 0) v1 v2 v3 (6 : Int) (v4,v5,v6) hk2).swap 2040 1100)),fun _ => (W1 a0 (v1,v2,v3) hk1).swap 1000 1100,trivial⟩ ?_
 cases h
 exact Tri.ret rfl ⟨.inl rfl,rfl,rfl⟩
abbrev K167 (u0 : Value) (a1 : List Int) (r : (List UInt8) × Int × Int × Int) (σ' : ASt) : Prop := isRes E173.T Try.f65 (.ptr 1000 0) [(1000,.box [.list (.bytes r.1),.i r.2.1,.i r.2.2.1]),(2000,.box [.i r.2.2.2,.lst u0 (.ints a1)])] σ'
noncomputable def l_spec_l1New_io1_0 (a2 : List UInt8) : (Int × Int) → Option ((Int × Int) ⊕ Int)
 | (v1,v2) => (
bif decide (v2 < (a2.length : Int)) then
(bif decide (v2 < 4000) then
(grd (0 ≤ v2 ∧ v2 < (a2.length : Int)) <|
some (.inl (bitsOf .and .i64 (IntKind.i64.wrap ((IntKind.i64.wrap ((IntKind.i64.wrap (v1 * 131)) + (IntKind.i64.wrap (((a2.getD v2.toNat 0).toNat : Int))))) + 7)) (1073741823 : Int),IntKind.i64.wrap (v2 + 1))))
else
(some (.inr v1)))
else
(some (.inr v1)))
noncomputable def m_spec_l1New_io1 (a0 : Int) (_a1 : List Int) (a2 : List UInt8) : Option ((List UInt8) × Int × Int × Int) :=
(iter (l_spec_l1New_io1_0 a2) (IntKind.i64.wrap ((26583 : Int) + (a2.length : Int)),(0 : Int))).bind fun
| v3 => (
some (a2,0,v3,a0))
theorem W82 (u0 : Value) (a0 : Int) (a1 : List Int) (a2 : List UInt8) (r : (List UInt8) × Int × Int × Int) (h : m_spec_l1New_io1 a0 a1 a2 = some r) : AM.Spec Try.prog 65 [.list (.bytes a2)] [(2000,.box [.i a0,.lst u0 (.ints a1)])] (.ptr 1000 0) [(1000,.box [.list (.bytes r.1),.i r.2.1,.i r.2.2.1]),(2000,.box [.i r.2.2.2,.lst u0 (.ints a1)])] := by
 refine spec_of (E := E173) Try.func65 rfl rfl rfl rfl ?_
 refine Tri.f 3 [] [.keep [0,3,4] [2000]] rfl trivial ?_
 obtain ⟨v3,hk4,h⟩ := bind_some h
 refine Tri.loop (K1 := [.code [(2,0),(1,0),(0,0)] 0]) (K2 := [.blk 0,.code [] 3]) (fun (v1,v2) => ⟨[(0,.list (.bytes a2)),(3,.i v1),(4,.i v2)],[(2000,.box [.i a0,.lst u0 (.ints a1)])]⟩) (fun x e σ' => match x with | v3 => e = .exit 0 ∧ σ' = ⟨[(0,.list (.bytes a2)),(3,.i v3)],[(2000,.box [.i a0,.lst u0 (.ints a1)])]⟩) hk4 rfl rfl ?_ ?_
 ·intro s x hs
  clear h
  have h := hs
  clear hs
  obtain ⟨v1,v2⟩ := s
  rcases bif_some h with ⟨hd1,h⟩ | ⟨hd1,h⟩
  ·refine Tri.f 1 [.g true] [.keep [0,3,4,15] [2000]] rfl ⟨hd1,trivial⟩ ?_
   rcases bif_some h with ⟨hd2,h⟩ | ⟨hd2,h⟩
   ·obtain ⟨hg3,h⟩ := grd_some h
    refine Tri.f 3 [.g true] [.keep [0,3,4] [2000]] rfl ⟨hg3,hd2,trivial⟩ ?_
    cases h
    exact Tri.nil ⟨rfl,rfl⟩
   ·refine Tri.f 1 [.g false] [.keep [0,3] [2000]] rfl ⟨hd2,trivial⟩ ?_
    cases h
    exact Tri.out 0 rfl ⟨nofun,rfl,rfl⟩
  ·refine Tri.f 1 [.g false] [.keep [0,3,4,15] [2000]] rfl ⟨hd1,trivial⟩ ?_
   refine Tri.f 1 [.g false] [.keep [0,3] [2000]] rfl ⟨rfl,trivial⟩ ?_
   cases h
   exact Tri.out 0 rfl ⟨nofun,rfl,rfl⟩
 ·intro e σ' hne hq
  obtain ⟨rfl,rfl⟩ := hq
  refine TriX.exit (K' := [.code [] 3]) rfl ?_
  refine Tri.f 1 [] [.swap 31 1000,.keep [2] [1000,2000]] rfl trivial ?_
  cases h
  exact Tri.ret rfl ⟨.inl rfl,rfl,rfl⟩
noncomputable def E250 : Env := ⟨Try.prog,tys,(Try.f33.body).getD .skip,22,tysOk,mixedOk⟩
abbrev K168 (r : Int × (List Int) × (List Q) × Int) (σ' : ASt) : Prop := isRes E250.T Try.f33 (.tuple [.agg [.i r.1,.list (.ints r.2.1)],.list (.rats r.2.2.1),.i r.2.2.2]) [] σ'
noncomputable def m_spec_DrawExcessOf (a0 : List UInt8) : Option (Int × (List Int) × (List Q) × Int) :=
(m_spec_l11Args a0).bind fun (v1,v2,v3) =>
(m_spec_l1New_io1 0 [] a0).bind fun (v4,v5,v6,_) =>
(m_spec_l1Below_io1 v4 v5 v6 (IntKind.i64.wrap ((v2.length : Int) + 2))).bind fun (v8,_,_) =>
some (v1,v2,v3,IntKind.i64.wrap (v8 - 1))
theorem W83 (a0 : List UInt8) (r : Int × (List Int) × (List Q) × Int) (h : m_spec_DrawExcessOf a0 = some r) : AM.Spec Try.prog 33 [.list (.bytes a0)] [] (.tuple [.agg [.i r.1,.list (.ints r.2.1)],.list (.rats r.2.2.1),.i r.2.2.2]) [] := by
 refine spec_of (E := E250) Try.func33 rfl rfl rfl rfl ?_
 refine Tri.f 1 [] [.keep [0,2] [2],.ownc 2 1 1100 3,.keep [0,2] [2,1100]] rfl trivial ?_
 obtain ⟨⟨v1,v2,v3⟩,hk1,h⟩ := bind_some h
 refine Tri.f 1 [.r ⟨[],.tuple [.agg [.i v1,.sl 1101 0],.sl 1102 0],[(1101,.arr 3 0 0 (.ints v2)),(1102,.arr 44 0 0 (.rats v3))]⟩] [.keep [0,2,5,6] [2,5,1100,1101,1102],.give [2],.keep [0,2,5,6] [2]] rfl ⟨fun _ => ((W26 a0 (v1,v2,v3) hk1).swap 1000 1101).swap 1001 1102,trivial⟩ ?_
 obtain ⟨⟨v4,v5,v6,v7⟩,hk2,h⟩ := bind_some h
 obtain ⟨⟨v8,v9,v10⟩,hk3,h⟩ := bind_some h
 refine Tri.f 1 [.r ⟨[2],.ptr 1103 0,[(1103,.box [.list (.bytes v4),.i v5,.i v6]),(2,.box [.i v7,.undf])]⟩,.r ⟨[1103],.i v8,[(1103,.box [.undf,.i v9,.i v10])]⟩] [.keep [2,3,4] [2]] rfl ⟨(fun vf => ((W4 (vf 1103 0) v4 v5 v6 (IntKind.i64.wrap ((v2.length : Int) + 2)) (v8,v9,v10) hk3).swap 2040 1103)),(fun vf => (((W82 (vf 2 1) 0 [] a0 (v4,v5,v6,v7) hk2).swap 1000 1103).swap 2000 2)),trivial⟩ ?_
 cases h
 exact Tri.ret rfl ⟨.inl rfl,rfl,rfl⟩
noncomputable def E251 : Env := ⟨Try.prog,tys,(Try.f36.body).getD .skip,43,tysOk,mixedOk⟩
abbrev K169 (r : Int) (σ' : ASt) : Prop := isRes E251.T Try.f36 (.i r) [] σ'
noncomputable def l_impl_CompareExcesses_0 (a0 a1 : List Q) (v1 : Int) : Option (Int ⊕ (Unit ⊕ Int)) :=
bif decide (v1 < (a0.length : Int)) then
(bif decide (v1 < (a1.length : Int)) then
(grd (0 ≤ v1 ∧ v1 < (a0.length : Int)) <|
grd (0 ≤ v1 ∧ v1 < (a1.length : Int)) <|
(m_impl_CompareRat ((a0.getD v1.toNat ⟨0,0⟩).num) ((a0.getD v1.toNat ⟨0,0⟩).den) ((a1.getD v1.toNat ⟨0,0⟩).num) ((a1.getD v1.toNat ⟨0,0⟩).den)).bind fun v2 =>
bif v2 != 0 then
(some (.inr (.inr v2)))
else
(some (.inl (IntKind.i64.wrap (v1 + 1)))))
else
(some (.inr (.inl ()))))
else
(some (.inr (.inl ())))
noncomputable def m_impl_CompareExcesses (a0 a1 : List Q) : Option Int :=
(iter (l_impl_CompareExcesses_0 a0 a1) (0 : Int)).bind fun
| (.inl _) => (
bif decide ((a0.length : Int) < (a1.length : Int)) then
(some (-1 : Int))
else
(bif decide ((a0.length : Int) > (a1.length : Int)) then
(some (1 : Int))
else
(some (0 : Int))))
| (.inr r) => some r
theorem W84 (a0 a1 : List Q) (r : Int) (h : m_impl_CompareExcesses a0 a1 = some r) : AM.Spec Try.prog 36 [.list (.rats a0),.list (.rats a1)] [] (.i r) [] := by
 refine spec_of (E := E251) Try.func36 rfl rfl rfl rfl ?_
 refine Tri.f 2 [] [.keep [0,1,5] []] rfl trivial ?_
 obtain ⟨x1,hk7,h⟩ := bind_some h
 refine Tri.loop (K1 := [.code [(1,0),(1,0),(0,0)] 0]) (K2 := [.blk 0,.code [] 2]) (fun v1 => ⟨[(0,.list (.rats a0)),(1,.list (.rats a1)),(5,.i v1)],[]⟩) (fun x e σ' => match x with | (.inl _) => e = .exit 0 ∧ σ' = ⟨[(0,.list (.rats a0)),(1,.list (.rats a1))],[]⟩ | (.inr r) => e = .ret ∧ K169 r σ') hk7 rfl rfl ?_ ?_
 ·intro v1 x hs
  clear h
  have h := hs
  clear hs
  rcases bif_some h with ⟨hd1,h⟩ | ⟨hd1,h⟩
  ·refine Tri.f 1 [.g true] [.keep [0,1,5,16] []] rfl ⟨hd1,trivial⟩ ?_
   rcases bif_some h with ⟨hd2,h⟩ | ⟨hd2,h⟩
   ·obtain ⟨hg3,h⟩ := grd_some h
    obtain ⟨hg4,h⟩ := grd_some h
    obtain ⟨v2,hk5,h⟩ := bind_some h
    refine Tri.f 3 [.g true,.v (.i v2)] [.keep [0,1,5,6,29] []] rfl ⟨fun _ => W54 ((a0.getD v1.toNat ⟨0,0⟩).num) ((a0.getD v1.toNat ⟨0,0⟩).den) ((a1.getD v1.toNat ⟨0,0⟩).num) ((a1.getD v1.toNat ⟨0,0⟩).den) v2 hk5,hg4,hg3,hd2,trivial⟩ ?_
    rcases bif_some h with ⟨hd6,h⟩ | ⟨hd6,h⟩
    ·refine Tri.f 2 [.g true] [.keep [4] []] rfl ⟨hd6,trivial⟩ ?_
     cases h
     exact Tri.ret rfl ⟨nofun,rfl,rfl,rfl⟩
    ·refine Tri.f 2 [.g false] [.keep [0,1,5] []] rfl ⟨hd6,trivial⟩ ?_
     cases h
     exact Tri.nil ⟨rfl,rfl⟩
   ·refine Tri.f 1 [.g false] [.keep [0,1] []] rfl ⟨hd2,trivial⟩ ?_
    cases h
    exact Tri.out 0 rfl ⟨nofun,rfl,rfl⟩
  ·refine Tri.f 1 [.g false] [.keep [0,1,5,16] []] rfl ⟨hd1,trivial⟩ ?_
   refine Tri.f 1 [.g false] [.keep [0,1] []] rfl ⟨rfl,trivial⟩ ?_
   cases h
   exact Tri.out 0 rfl ⟨nofun,rfl,rfl⟩
 ·intro e σ' hne hq
  rcases x1 with _ | r
  ·obtain ⟨rfl,rfl⟩ := hq
   refine TriX.exit (K' := [.code [] 2]) rfl ?_
   refine Tri.f 1 [] [.keep [0,1,31] []] rfl trivial ?_
   rcases bif_some h with ⟨hd8,h⟩ | ⟨hd8,h⟩
   ·refine Tri.f 2 [.g true] [.keep [4] []] rfl ⟨hd8,trivial⟩ ?_
    cases h
    exact Tri.ret rfl ⟨.inl rfl,rfl,rfl⟩
   ·refine Tri.f 2 [.g false] [.keep [37] []] rfl ⟨hd8,trivial⟩ ?_
    rcases bif_some h with ⟨hd9,h⟩ | ⟨hd9,h⟩
    ·refine Tri.f 2 [.g true] [.keep [4] []] rfl ⟨hd9,trivial⟩ ?_
     cases h
     exact Tri.ret rfl ⟨.inl rfl,rfl,rfl⟩
    ·refine Tri.f 2 [.g false] [.keep [4] []] rfl ⟨hd9,trivial⟩ ?_
     cases h
     exact Tri.ret rfl ⟨.inl rfl,rfl,rfl⟩
  ·obtain ⟨rfl,hq⟩ := hq
   cases h
   exact TriX.ret ⟨.inl rfl,hq⟩
noncomputable def E252 : Env := ⟨Try.prog,tys,(Try.f37.body).getD .skip,43,tysOk,mixedOk⟩
abbrev K170 (r : Int) (σ' : ASt) : Prop := isRes E252.T Try.f37 (.i r) [] σ'
noncomputable def l_spec_CompareExcesses_0 (a0 a1 : List Q) (v1 : Int) : Option (Int ⊕ (Unit ⊕ Int)) :=
bif decide (v1 < (a0.length : Int)) then
(bif decide (v1 < (a1.length : Int)) then
(grd (0 ≤ v1 ∧ v1 < (a0.length : Int)) <|
grd (0 ≤ v1 ∧ v1 < (a1.length : Int)) <|
(m_spec_CompareRat ((a0.getD v1.toNat ⟨0,0⟩).num) ((a0.getD v1.toNat ⟨0,0⟩).den) ((a1.getD v1.toNat ⟨0,0⟩).num) ((a1.getD v1.toNat ⟨0,0⟩).den)).bind fun v2 =>
bif v2 != 0 then
(some (.inr (.inr v2)))
else
(some (.inl (IntKind.i64.wrap (v1 + 1)))))
else
(some (.inr (.inl ()))))
else
(some (.inr (.inl ())))
noncomputable def m_spec_CompareExcesses (a0 a1 : List Q) : Option Int :=
(iter (l_spec_CompareExcesses_0 a0 a1) (0 : Int)).bind fun
| (.inl _) => (
bif decide ((a0.length : Int) < (a1.length : Int)) then
(some (-1 : Int))
else
(bif decide ((a0.length : Int) > (a1.length : Int)) then
(some (1 : Int))
else
(some (0 : Int))))
| (.inr r) => some r
theorem W85 (a0 a1 : List Q) (r : Int) (h : m_spec_CompareExcesses a0 a1 = some r) : AM.Spec Try.prog 37 [.list (.rats a0),.list (.rats a1)] [] (.i r) [] := by
 refine spec_of (E := E252) Try.func37 rfl rfl rfl rfl ?_
 refine Tri.f 2 [] [.keep [0,1,5] []] rfl trivial ?_
 obtain ⟨x1,hk7,h⟩ := bind_some h
 refine Tri.loop (K1 := [.code [(1,0),(1,0),(0,0)] 0]) (K2 := [.blk 0,.code [] 2]) (fun v1 => ⟨[(0,.list (.rats a0)),(1,.list (.rats a1)),(5,.i v1)],[]⟩) (fun x e σ' => match x with | (.inl _) => e = .exit 0 ∧ σ' = ⟨[(0,.list (.rats a0)),(1,.list (.rats a1))],[]⟩ | (.inr r) => e = .ret ∧ K170 r σ') hk7 rfl rfl ?_ ?_
 ·intro v1 x hs
  clear h
  have h := hs
  clear hs
  rcases bif_some h with ⟨hd1,h⟩ | ⟨hd1,h⟩
  ·refine Tri.f 1 [.g true] [.keep [0,1,5,16] []] rfl ⟨hd1,trivial⟩ ?_
   rcases bif_some h with ⟨hd2,h⟩ | ⟨hd2,h⟩
   ·obtain ⟨hg3,h⟩ := grd_some h
    obtain ⟨hg4,h⟩ := grd_some h
    obtain ⟨v2,hk5,h⟩ := bind_some h
    refine Tri.f 3 [.g true,.v (.i v2)] [.keep [0,1,5,6,29] []] rfl ⟨fun _ => W66 ((a0.getD v1.toNat ⟨0,0⟩).num) ((a0.getD v1.toNat ⟨0,0⟩).den) ((a1.getD v1.toNat ⟨0,0⟩).num) ((a1.getD v1.toNat ⟨0,0⟩).den) v2 hk5,hg4,hg3,hd2,trivial⟩ ?_
    rcases bif_some h with ⟨hd6,h⟩ | ⟨hd6,h⟩
    ·refine Tri.f 2 [.g true] [.keep [4] []] rfl ⟨hd6,trivial⟩ ?_
     cases h
     exact Tri.ret rfl ⟨nofun,rfl,rfl,rfl⟩
    ·refine Tri.f 2 [.g false] [.keep [0,1,5] []] rfl ⟨hd6,trivial⟩ ?_
     cases h
     exact Tri.nil ⟨rfl,rfl⟩
   ·refine Tri.f 1 [.g false] [.keep [0,1] []] rfl ⟨hd2,trivial⟩ ?_
    cases h
    exact Tri.out 0 rfl ⟨nofun,rfl,rfl⟩
  ·refine Tri.f 1 [.g false] [.keep [0,1,5,16] []] rfl ⟨hd1,trivial⟩ ?_
   refine Tri.f 1 [.g false] [.keep [0,1] []] rfl ⟨rfl,trivial⟩ ?_
   cases h
   exact Tri.out 0 rfl ⟨nofun,rfl,rfl⟩
 ·intro e σ' hne hq
  rcases x1 with _ | r
  ·obtain ⟨rfl,rfl⟩ := hq
   refine TriX.exit (K' := [.code [] 2]) rfl ?_
   refine Tri.f 1 [] [.keep [0,1,31] []] rfl trivial ?_
   rcases bif_some h with ⟨hd8,h⟩ | ⟨hd8,h⟩
   ·refine Tri.f 2 [.g true] [.keep [4] []] rfl ⟨hd8,trivial⟩ ?_
    cases h
    exact Tri.ret rfl ⟨.inl rfl,rfl,rfl⟩
   ·refine Tri.f 2 [.g false] [.keep [37] []] rfl ⟨hd8,trivial⟩ ?_
    rcases bif_some h with ⟨hd9,h⟩ | ⟨hd9,h⟩
    ·refine Tri.f 2 [.g true] [.keep [4] []] rfl ⟨hd9,trivial⟩ ?_
     cases h
     exact Tri.ret rfl ⟨.inl rfl,rfl,rfl⟩
    ·refine Tri.f 2 [.g false] [.keep [4] []] rfl ⟨hd9,trivial⟩ ?_
     cases h
     exact Tri.ret rfl ⟨.inl rfl,rfl,rfl⟩
  ·obtain ⟨rfl,hq⟩ := hq
   cases h
   exact TriX.ret ⟨.inl rfl,hq⟩
end Go.Proofs.Ytnbkkljhdnkiaaa
