/- models and walks -/
import Derived.Test.YtbkpiknmlomjnaaProg
import Derived.Test.YtbkpiknmlomjnaaAmB
namespace Go.Proofs.Ytbkpiknmlomjnaa
open Go.AM
set_option maxRecDepth 100000
set_option maxHeartbeats 4000000
noncomputable def tys : TEnv := [(3,.int .i64),
 (4,.bool),
 (5,.int .u8),
 (22,.slice 5 (.bytes [])),
 (24,.slice 25 (.intss [])),
 (25,.slice 3 (.ints [])),
 (26,.slice 32 (.rats [])),
 (28,.struct [(0,24),(1,25),(2,26)] [.nil (.intss []),.nil (.ints []),.nil (.rats [])] false),
 (32,.struct [(0,3),(1,3)] [.i 0,.i 0] true),
 (34,.struct [(0,3),(1,26),(2,26),(3,26),(4,32),(6,3)] [.i 0,.nil (.rats []),.nil (.rats []),.nil (.rats []),.i 0,.i 0,.i 0] false),
 (50,.slice 26 (.ratss [])),
 (52,.struct [(0,50),(1,25),(2,3)] [.nil (.ratss []),.nil (.ints []),.i 0] false),
 (55,.struct [(0,28),(3,52),(6,3),(7,4)] [.nil (.intss []),.nil (.ints []),.nil (.rats []),.nil (.ratss []),.nil (.ints []),.i 0,.i 0,.bool false] false),
 (66,.struct [(0,22),(1,3),(2,3)] [.nil (.bytes []),.i 0,.i 0] false)]
theorem tysOk : TOk Try.prog tys := tok_of (by kernel_rfl)
theorem mixedOk : Try.prog.follows .mixedOrders = true := by kernel_rfl
noncomputable def E175 : Env := ⟨Try.prog,tys,(Try.f4.body).getD .skip,6,tysOk,mixedOk⟩
abbrev K87 (r : Bool) (σ' : ASt) : Prop := isRes E175.T Try.f4 (.bool r) [] σ'
noncomputable def m_laws_big (a0 : List UInt8) : Option Bool :=
some (decide ((a0.length : Int) > 1048576))
theorem W0 (a0 : List UInt8) (r : Bool) (h : m_laws_big a0 = some r) : AM.Spec Try.prog 4 [.list (.bytes a0)] [] (.bool r) [] := by
 refine spec_of (E := E175) Try.func4 rfl rfl rfl rfl ?_
 refine Tri.f 2 [] [.keep [2] []] rfl trivial ?_
 cases h
 exact Tri.ret rfl ⟨.inl rfl,rfl,rfl⟩
noncomputable def E176 : Env := ⟨Try.prog,tys,(Try.f14.body).getD .skip,32,tysOk,mixedOk⟩
abbrev K88 (r : (List UInt8) × Int × Int × (List (List Int)) × (List Int) × (List Q)) (σ' : ASt) : Prop := isRes E176.T Try.f14 (.ptr 1000 0) [(1000,.box [.list (.bytes r.1),.i r.2.1,.i r.2.2.1]),(1001,.arr 25 0 0 (.intss r.2.2.2.1)),(1002,.arr 3 0 0 (.ints r.2.2.2.2.1)),(1003,.arr 32 0 0 (.rats r.2.2.2.2.2)),(2000,.box [.sl 1001 0,.sl 1002 0,.sl 1003 0])] σ'
noncomputable def l_spec_l1New_io4_0 (a3 : List UInt8) : (Int × Int) → Option ((Int × Int) ⊕ Int)
 | (v1,v2) => (
bif decide (v2 < (a3.length : Int)) then
(bif decide (v2 < 4000) then
(grd (0 ≤ v2 ∧ v2 < (a3.length : Int)) <|
some (.inl (bitsOf .and .i64 (IntKind.i64.wrap ((IntKind.i64.wrap ((IntKind.i64.wrap (v1 * 131)) + (IntKind.i64.wrap (((a3.getD v2.toNat 0).toNat : Int))))) + 7)) (1073741823 : Int),IntKind.i64.wrap (v2 + 1))))
else
(some (.inr v1)))
else
(some (.inr v1)))
noncomputable def m_spec_l1New_io4 (a0 : List (List Int)) (a1 : List Int) (a2 : List Q) (a3 : List UInt8) : Option ((List UInt8) × Int × Int × (List (List Int)) × (List Int) × (List Q)) :=
(iter (l_spec_l1New_io4_0 a3) (IntKind.i64.wrap ((26583 : Int) + (a3.length : Int)),(0 : Int))).bind fun
| v3 => (
some (a3,0,v3,a0,a1,a2))
theorem W1 (a0 : List (List Int)) (a1 : List Int) (a2 : List Q) (a3 : List UInt8) (r : (List UInt8) × Int × Int × (List (List Int)) × (List Int) × (List Q)) (h : m_spec_l1New_io4 a0 a1 a2 a3 = some r) : AM.Spec Try.prog 14 [.list (.bytes a3)] [(2000,.box [.sl 2001 0,.sl 2002 0,.sl 2003 0]),(2001,.arr 25 0 0 (.intss a0)),(2002,.arr 3 0 0 (.ints a1)),(2003,.arr 32 0 0 (.rats a2))] (.ptr 1000 0) [(1000,.box [.list (.bytes r.1),.i r.2.1,.i r.2.2.1]),(1001,.arr 25 0 0 (.intss r.2.2.2.1)),(1002,.arr 3 0 0 (.ints r.2.2.2.2.1)),(1003,.arr 32 0 0 (.rats r.2.2.2.2.2)),(2000,.box [.sl 1001 0,.sl 1002 0,.sl 1003 0])] := by
 refine spec_of (E := E176) Try.func14 rfl rfl rfl rfl ?_
 refine Tri.f 3 [] [.swap 2001 1100,.swap 2002 1101,.swap 2003 1102,.keep [0,3,4] [1100,1101,1102,2000]] rfl trivial ?_
 obtain ⟨v3,hk4,h⟩ := bind_some h
 refine Tri.loop (K1 := [.code [(2,0),(1,0),(0,0)] 0]) (K2 := [.blk 0,.code [] 3]) (fun (v1,v2) => ⟨[(0,.list (.bytes a3)),(3,.i v1),(4,.i v2)],[(1100,.arr 25 0 0 (.intss a0)),(1101,.arr 3 0 0 (.ints a1)),(1102,.arr 32 0 0 (.rats a2)),(2000,.box [.sl 1100 0,.sl 1101 0,.sl 1102 0])]⟩) (fun x e σ' => match x with | v3 => e = .exit 0 ∧ σ' = ⟨[(0,.list (.bytes a3)),(3,.i v3)],[(1100,.arr 25 0 0 (.intss a0)),(1101,.arr 3 0 0 (.ints a1)),(1102,.arr 32 0 0 (.rats a2)),(2000,.box [.sl 1100 0,.sl 1101 0,.sl 1102 0])]⟩) hk4 rfl rfl ?_ ?_
 ·intro s x hs
  clear h
  have h := hs
  clear hs
  obtain ⟨v1,v2⟩ := s
  rcases bif_some h with ⟨hd1,h⟩ | ⟨hd1,h⟩
  ·refine Tri.f 1 [.g true] [.keep [0,3,4,15] [1100,1101,1102,2000]] rfl ⟨hd1,trivial⟩ ?_
   rcases bif_some h with ⟨hd2,h⟩ | ⟨hd2,h⟩
   ·obtain ⟨hg3,h⟩ := grd_some h
    refine Tri.f 3 [.g true] [.keep [0,3,4] [1100,1101,1102,2000]] rfl ⟨hg3,hd2,trivial⟩ ?_
    cases h
    exact Tri.nil ⟨rfl,rfl⟩
   ·refine Tri.f 1 [.g false] [.keep [0,3] [1100,1101,1102,2000]] rfl ⟨hd2,trivial⟩ ?_
    cases h
    exact Tri.out 0 rfl ⟨nofun,rfl,rfl⟩
  ·refine Tri.f 1 [.g false] [.keep [0,3,4,15] [1100,1101,1102,2000]] rfl ⟨hd1,trivial⟩ ?_
   refine Tri.f 1 [.g false] [.keep [0,3] [1100,1101,1102,2000]] rfl ⟨rfl,trivial⟩ ?_
   cases h
   exact Tri.out 0 rfl ⟨nofun,rfl,rfl⟩
 ·intro e σ' hne hq
  obtain ⟨rfl,rfl⟩ := hq
  refine TriX.exit (K' := [.code [] 3]) rfl ?_
  refine Tri.f 1 [] [.swap 31 1000,.swap 1100 1001,.swap 1101 1002,.swap 1102 1003,.keep [2] [1000,1001,1002,1003,2000]] rfl trivial ?_
  cases h
  exact Tri.ret rfl ⟨.inl rfl,rfl,rfl⟩
noncomputable def E177 : Env := ⟨Try.prog,tys,(Try.f67.body).getD .skip,58,tysOk,mixedOk⟩
abbrev K89 (u0 : Value) (a0 : List UInt8) (r : Int × Int × Int) (σ' : ASt) : Prop := isRes E177.T Try.f67 (.i r.1) [(2080,.box [.lst u0 (.bytes a0),.i r.2.1,.i r.2.2])] σ'
noncomputable def m_spec_l1Byte_io1 (a0 : List UInt8) (a1 a2 : Int) : Option (Int × Int × Int) :=
grd ((0 : Int) ≤ (33 : Int)) <|
grd ((0 : Int) ≤ (45 : Int)) <|
((some (bitsOf .and .i64 (bitsOf .xor .i64 ((IntKind.i64.wrap ((IntKind.i64.wrap (a2 * 6364136223846793005)) + 1442695040888963407)).fdiv (2 ^ (min (33 : Int).toNat 64))) ((IntKind.i64.wrap ((IntKind.i64.wrap (a2 * 6364136223846793005)) + 1442695040888963407)).fdiv (2 ^ (min (45 : Int).toNat 64)))) (255 : Int) : Int)).bind fun v1 =>
bif decide (a1 < (a0.length : Int)) then
(grd (0 ≤ a1 ∧ a1 < (a0.length : Int)) <|
some (bitsOf .and .i64 (IntKind.i64.wrap (v1 + (IntKind.i64.wrap (((a0.getD a1.toNat 0).toNat : Int))))) (255 : Int),IntKind.i64.wrap (a1 + 1),IntKind.i64.wrap ((IntKind.i64.wrap (a2 * 6364136223846793005)) + 1442695040888963407)))
else
(some (v1,a1,IntKind.i64.wrap ((IntKind.i64.wrap (a2 * 6364136223846793005)) + 1442695040888963407))))
theorem W2 (u0 : Value) (a0 : List UInt8) (a1 a2 : Int) (r : Int × Int × Int) (h : m_spec_l1Byte_io1 a0 a1 a2 = some r) : AM.Spec Try.prog 67 [.ptr 2080 0] [(2080,.box [.lst u0 (.bytes a0),.i a1,.i a2])] (.i r.1) [(2080,.box [.lst u0 (.bytes a0),.i r.2.1,.i r.2.2])] := by
 refine spec_of (E := E177) Try.func67 rfl rfl rfl rfl ?_
 obtain ⟨hg1,h⟩ := grd_some h
 obtain ⟨hg2,h⟩ := grd_some h
 refine Tri.u 3 [] [.keep [0,3] [2080]] [.code [(3,0),(0,0)] 0,.code [(3,0)] 1,.code [] 4] ⟨[(0,.ptr 2080 0),(3,.i (bitsOf .and .i64 (bitsOf .xor .i64 ((IntKind.i64.wrap ((IntKind.i64.wrap (a2 * 6364136223846793005)) + 1442695040888963407)).fdiv (2 ^ (min (33 : Int).toNat 64))) ((IntKind.i64.wrap ((IntKind.i64.wrap (a2 * 6364136223846793005)) + 1442695040888963407)).fdiv (2 ^ (min (45 : Int).toNat 64)))) (255 : Int)))],[(2080,.box [.lst u0 (.bytes a0),.i a1,.i (IntKind.i64.wrap ((IntKind.i64.wrap (a2 * 6364136223846793005)) + 1442695040888963407))])]⟩ rfl ⟨hg2,hg1,trivial⟩ rfl ?_
 obtain ⟨v1,hk3,h⟩ := bind_some h
 have hk3 := Option.some.inj hk3
 rw [hk3]
 refine Tri.f 1 [] [.keep [0,3,34] [2080]] rfl trivial ?_
 rcases bif_some h with ⟨hd4,h⟩ | ⟨hd4,h⟩
 ·obtain ⟨hg5,h⟩ := grd_some h
  refine Tri.f 3 [.g true] [.keep [3] [2080]] rfl ⟨hg5,hd4,trivial⟩ ?_
  refine Tri.f 1 [] [.keep [2] [2080]] rfl trivial ?_
  cases h
  exact Tri.ret rfl ⟨.inl rfl,rfl,rfl⟩
 ·refine Tri.f 2 [.g false] [.keep [2] [2080]] rfl ⟨hd4,trivial⟩ ?_
  cases h
  exact Tri.ret rfl ⟨.inl rfl,rfl,rfl⟩
noncomputable def E178 : Env := ⟨Try.prog,tys,(Try.f34.body).getD .skip,37,tysOk,mixedOk⟩
abbrev K90 (u0 : Value) (a0 : List UInt8) (r : Int × Int × Int) (σ' : ASt) : Prop := isRes E178.T Try.f34 (.i r.1) [(2060,.box [.lst u0 (.bytes a0),.i r.2.1,.i r.2.2])] σ'
noncomputable def m_spec_l1Below_io1 (a0 : List UInt8) (a1 a2 a3 : Int) : Option (Int × Int × Int) :=
bif decide (a3 ≤ 0) then
(some ((0 : Int),a1,a2))
else
(bif decide (a3 ≤ 256) then
((m_spec_l1Byte_io1 a0 a1 a2).bind fun (v1,v2,v3) =>
grd (a3 ≠ 0) <|
some (v1.tmod a3,v2,v3))
else
((m_spec_l1Byte_io1 a0 a1 a2).bind fun (v4,v5,v6) =>
(m_spec_l1Byte_io1 a0 v5 v6).bind fun (v7,v8,v9) =>
(m_spec_l1Byte_io1 a0 v8 v9).bind fun (v10,v11,v12) =>
(m_spec_l1Byte_io1 a0 v11 v12).bind fun (v13,v14,v15) =>
grd (a3 ≠ 0) <|
some ((IntKind.i64.wrap ((IntKind.i64.wrap ((IntKind.i64.wrap ((IntKind.i64.wrap (v4 * 16777216)) + (IntKind.i64.wrap (v7 * 65536)))) + (IntKind.i64.wrap (v10 * 256)))) + v13)).tmod a3,v14,v15)))
theorem W3 (u0 : Value) (a0 : List UInt8) (a1 a2 a3 : Int) (r : Int × Int × Int) (h : m_spec_l1Below_io1 a0 a1 a2 a3 = some r) : AM.Spec Try.prog 34 [.ptr 2060 0,.i a3] [(2060,.box [.lst u0 (.bytes a0),.i a1,.i a2])] (.i r.1) [(2060,.box [.lst u0 (.bytes a0),.i r.2.1,.i r.2.2])] := by
 refine spec_of (E := E178) Try.func34 rfl rfl rfl rfl ?_
 refine Tri.f 2 [] [.keep [0,1,10] [2060]] rfl trivial ?_
 rcases bif_some h with ⟨hd1,h⟩ | ⟨hd1,h⟩
 ·refine Tri.f 2 [.g true] [.keep [4] [2060]] rfl ⟨hd1,trivial⟩ ?_
  cases h
  exact Tri.ret rfl ⟨.inl rfl,rfl,rfl⟩
 ·refine Tri.f 2 [.g false] [.keep [0,1,12] [2060]] rfl ⟨hd1,trivial⟩ ?_
  rcases bif_some h with ⟨hd2,h⟩ | ⟨hd2,h⟩
  ·obtain ⟨⟨v1,v2,v3⟩,hk3,h⟩ := bind_some h
   obtain ⟨hg4,h⟩ := grd_some h
   refine Tri.f 2 [.g true,.r ⟨[2060],.i v1,[(2060,.box [.undf,.i v2,.i v3])]⟩] [.keep [4] [2060]] rfl ⟨hg4,(fun vf => ((W2 (vf 2060 0) a0 a1 a2 (v1,v2,v3) hk3).swap 2080 2060)),hd2,trivial⟩ ?_
   cases h
   exact Tri.ret rfl ⟨.inl rfl,rfl,rfl⟩
  ·obtain ⟨⟨v4,v5,v6⟩,hk5,h⟩ := bind_some h
   refine Tri.f 2 [.g false,.r ⟨[2060],.i v4,[(2060,.box [.undf,.i v5,.i v6])]⟩] [.keep [0,1,5] [2060]] rfl ⟨(fun vf => ((W2 (vf 2060 0) a0 a1 a2 (v4,v5,v6) hk5).swap 2080 2060)),hd2,trivial⟩ ?_
   obtain ⟨⟨v7,v8,v9⟩,hk6,h⟩ := bind_some h
   obtain ⟨⟨v10,v11,v12⟩,hk7,h⟩ := bind_some h
   refine Tri.f 2 [.r ⟨[2060],.i v7,[(2060,.box [.undf,.i v8,.i v9])]⟩,.r ⟨[2060],.i v10,[(2060,.box [.undf,.i v11,.i v12])]⟩] [.keep [0,1,5,6,7] [2060]] rfl ⟨(fun vf => ((W2 (vf 2060 0) a0 v8 v9 (v10,v11,v12) hk7).swap 2080 2060)),(fun vf => ((W2 (vf 2060 0) a0 v5 v6 (v7,v8,v9) hk6).swap 2080 2060)),trivial⟩ ?_
   obtain ⟨⟨v13,v14,v15⟩,hk8,h⟩ := bind_some h
   obtain ⟨hg9,h⟩ := grd_some h
   refine Tri.f 2 [.r ⟨[2060],.i v13,[(2060,.box [.undf,.i v14,.i v15])]⟩] [.keep [4] [2060]] rfl ⟨hg9,(fun vf => ((W2 (vf 2060 0) a0 v11 v12 (v13,v14,v15) hk8).swap 2080 2060)),trivial⟩ ?_
   cases h
   exact Tri.ret rfl ⟨.inl rfl,rfl,rfl⟩
noncomputable def E179 : Env := ⟨Try.prog,tys,(Try.f16.body).getD .skip,9,tysOk,mixedOk⟩
abbrev K91 (u0 : Value) (a0 : List UInt8) (r : Bool × Int × Int) (σ' : ASt) : Prop := isRes E179.T Try.f16 (.bool r.1) [(2100,.box [.lst u0 (.bytes a0),.i r.2.1,.i r.2.2])] σ'
noncomputable def m_spec_l1Once_io1 (a0 : List UInt8) (a1 a2 a3 : Int) : Option (Bool × Int × Int) :=
(m_spec_l1Below_io1 a0 a1 a2 a3).bind fun (v1,v2,v3) =>
some (v1 == 0,v2,v3)
theorem W4 (u0 : Value) (a0 : List UInt8) (a1 a2 a3 : Int) (r : Bool × Int × Int) (h : m_spec_l1Once_io1 a0 a1 a2 a3 = some r) : AM.Spec Try.prog 16 [.ptr 2100 0,.i a3] [(2100,.box [.lst u0 (.bytes a0),.i a1,.i a2])] (.bool r.1) [(2100,.box [.lst u0 (.bytes a0),.i r.2.1,.i r.2.2])] := by
 refine spec_of (E := E179) Try.func16 rfl rfl rfl rfl ?_
 refine Tri.f 1 [] [.keep [0,1] [2100]] rfl trivial ?_
 obtain ⟨⟨v1,v2,v3⟩,hk1,h⟩ := bind_some h
 refine Tri.f 1 [.r ⟨[2100],.i v1,[(2100,.box [.undf,.i v2,.i v3])]⟩] [.keep [4] [2100]] rfl ⟨(fun vf => ((W3 (vf 2100 0) a0 a1 a2 a3 (v1,v2,v3) hk1).swap 2060 2100)),trivial⟩ ?_
 cases h
 exact Tri.ret rfl ⟨.inl rfl,rfl,rfl⟩
noncomputable def E180 : Env := ⟨Try.prog,tys,(Try.f35.body).getD .skip,12,tysOk,mixedOk⟩
abbrev K92 (u0 : Value) (a0 : List UInt8) (r : Int × Int × Int) (σ' : ASt) : Prop := isRes E180.T Try.f35 (.i r.1) [(2140,.box [.lst u0 (.bytes a0),.i r.2.1,.i r.2.2])] σ'
noncomputable def m_spec_l1PickInt_io1 (a0 : List UInt8) (a1 a2 : Int) (a3 : List Int) : Option (Int × Int × Int) :=
(m_spec_l1Below_io1 a0 a1 a2 (a3.length : Int)).bind fun (v1,v2,v3) =>
grd (0 ≤ v1 ∧ v1 < (a3.length : Int)) <|
some (a3.getD v1.toNat 0,v2,v3)
theorem W5 (u0 : Value) (a0 : List UInt8) (a1 a2 : Int) (a3 : List Int) (r : Int × Int × Int) (h : m_spec_l1PickInt_io1 a0 a1 a2 a3 = some r) : AM.Spec Try.prog 35 [.ptr 2140 0,.list (.ints a3)] [(2140,.box [.lst u0 (.bytes a0),.i a1,.i a2])] (.i r.1) [(2140,.box [.lst u0 (.bytes a0),.i r.2.1,.i r.2.2])] := by
 refine spec_of (E := E180) Try.func35 rfl rfl rfl rfl ?_
 refine Tri.f 1 [] [.keep [0,1] [2140]] rfl trivial ?_
 obtain ⟨⟨v1,v2,v3⟩,hk1,h⟩ := bind_some h
 obtain ⟨hg2,h⟩ := grd_some h
 refine Tri.f 1 [.r ⟨[2140],.i v1,[(2140,.box [.undf,.i v2,.i v3])]⟩] [.keep [4] [2140]] rfl ⟨hg2,(fun vf => ((W3 (vf 2140 0) a0 a1 a2 (a3.length : Int) (v1,v2,v3) hk1).swap 2060 2140)),trivial⟩ ?_
 cases h
 exact Tri.ret rfl ⟨.inl rfl,rfl,rfl⟩
noncomputable def E181 : Env := ⟨Try.prog,tys,(Try.f66.body).getD .skip,6,tysOk,mixedOk⟩
abbrev K93 (u0 : Value) (a0 : List UInt8) (r : Int × Int × Int) (σ' : ASt) : Prop := isRes E181.T Try.f66 (.i r.1) [(2120,.box [.lst u0 (.bytes a0),.i r.2.1,.i r.2.2])] σ'
noncomputable def m_spec_l5Number_io1 (a0 : List UInt8) (a1 a2 : Int) : Option (Int × Int × Int) :=
(m_spec_l1PickInt_io1 a0 a1 a2 [(0 : Int),(0 : Int),(1 : Int),(1 : Int),(2 : Int),(-1 : Int),(-2 : Int),(3 : Int),(5 : Int),(-4 : Int)]).bind fun (v1,v2,v3) =>
some (v1,v2,v3)
theorem W6 (u0 : Value) (a0 : List UInt8) (a1 a2 : Int) (r : Int × Int × Int) (h : m_spec_l5Number_io1 a0 a1 a2 = some r) : AM.Spec Try.prog 66 [.ptr 2120 0] [(2120,.box [.lst u0 (.bytes a0),.i a1,.i a2])] (.i r.1) [(2120,.box [.lst u0 (.bytes a0),.i r.2.1,.i r.2.2])] := by
 refine spec_of (E := E181) Try.func66 rfl rfl rfl rfl ?_
 refine Tri.f 1 [] [.keep [0] [2120]] rfl trivial ?_
 obtain ⟨⟨v1,v2,v3⟩,hk1,h⟩ := bind_some h
 refine Tri.f 1 [.r ⟨[2120],.i v1,[(2120,.box [.undf,.i v2,.i v3])]⟩] [.keep [2] [2120]] rfl ⟨(fun vf => ((W5 (vf 2120 0) a0 a1 a2 [(0 : Int),(0 : Int),(1 : Int),(1 : Int),(2 : Int),(-1 : Int),(-2 : Int),(3 : Int),(5 : Int),(-4 : Int)] (v1,v2,v3) hk1).swap 2140 2120)),trivial⟩ ?_
 cases h
 exact Tri.ret rfl ⟨.inl rfl,rfl,rfl⟩
noncomputable def E182 : Env := ⟨Try.prog,tys,(Try.f26.body).getD .skip,15,tysOk,mixedOk⟩
abbrev K94 (r : Bool) (σ' : ASt) : Prop := isRes E182.T Try.f26 (.bool r) [] σ'
noncomputable def m_spec_l1In (a0 a1 a2 : Int) : Option Bool :=
bif decide (a0 ≥ a1) then
(some (decide (a0 ≤ a2)))
else
(some false)
theorem W7 (a0 a1 a2 : Int) (r : Bool) (h : m_spec_l1In a0 a1 a2 = some r) : AM.Spec Try.prog 26 [.i a0,.i a1,.i a2] [] (.bool r) [] := by
 refine spec_of (E := E182) Try.func26 rfl rfl rfl rfl ?_
 refine Tri.f 1 [] [.keep [0,1,2] []] rfl trivial ?_
 rcases bif_some h with ⟨hd1,h⟩ | ⟨hd1,h⟩
 ·refine Tri.f 1 [.g true] [.keep [6] []] rfl ⟨hd1,trivial⟩ ?_
  cases h
  exact Tri.ret rfl ⟨.inl rfl,rfl,rfl⟩
 ·refine Tri.f 1 [.g false] [.keep [6] []] rfl ⟨hd1,trivial⟩ ?_
  cases h
  exact Tri.ret rfl ⟨.inl rfl,rfl,rfl⟩
noncomputable def E183 : Env := ⟨Try.prog,tys,(Try.f83.body).getD .skip,22,tysOk,mixedOk⟩
abbrev K95 (r : Int) (σ' : ASt) : Prop := isRes E183.T Try.f83 (.i r) [] σ'
noncomputable def l_spec_l3Gcd_0 : (Int × Int) → Option ((Int × Int) ⊕ Int)
 | (v1,v2) => (
bif decide (v2 > 0) then
(grd (v2 ≠ 0) <|
some (.inl (v2,v1.tmod v2)))
else
(some (.inr v1)))
noncomputable def l_spec_l3Gcd_1 : (Int × Int) → Option ((Int × Int) ⊕ Int)
 | (v4,v5) => (
bif decide (v5 > 0) then
(grd (v5 ≠ 0) <|
some (.inl (v5,v4.tmod v5)))
else
(some (.inr v4)))
noncomputable def l_spec_l3Gcd_2 : (Int × Int) → Option ((Int × Int) ⊕ Int)
 | (v7,v8) => (
bif decide (v8 > 0) then
(grd (v8 ≠ 0) <|
some (.inl (v8,v7.tmod v8)))
else
(some (.inr v7)))
noncomputable def l_spec_l3Gcd_3 : (Int × Int) → Option ((Int × Int) ⊕ Int)
 | (v10,v11) => (
bif decide (v11 > 0) then
(grd (v11 ≠ 0) <|
some (.inl (v11,v10.tmod v11)))
else
(some (.inr v10)))
noncomputable def m_spec_l3Gcd (a0 a1 : Int) : Option Int :=
bif decide (a0 < 0) then
(bif decide (a1 < 0) then
((iter (l_spec_l3Gcd_0) (IntKind.i64.wrap (0 - a0),IntKind.i64.wrap (0 - a1))).bind fun
| v3 => (
some v3))
else
((iter (l_spec_l3Gcd_1) (IntKind.i64.wrap (0 - a0),a1)).bind fun
| v6 => (
some v6)))
else
(bif decide (a1 < 0) then
((iter (l_spec_l3Gcd_2) (a0,IntKind.i64.wrap (0 - a1))).bind fun
| v9 => (
some v9))
else
((iter (l_spec_l3Gcd_3) (a0,a1)).bind fun
| v12 => (
some v12)))
theorem W8 (a0 a1 r : Int) (h : m_spec_l3Gcd a0 a1 = some r) : AM.Spec Try.prog 83 [.i a0,.i a1] [] (.i r) [] := by
 refine spec_of (E := E183) Try.func83 rfl rfl rfl rfl ?_
 refine Tri.f 2 [] [.keep [0,1,7] []] rfl trivial ?_
 rcases bif_some h with ⟨hd1,h⟩ | ⟨hd1,h⟩
 ·refine Tri.f 3 [.g true] [.keep [0,1,11] []] rfl ⟨hd1,trivial⟩ ?_
  rcases bif_some h with ⟨hd2,h⟩ | ⟨hd2,h⟩
  ·refine Tri.f 2 [.g true] [.keep [0,1] []] rfl ⟨hd2,trivial⟩ ?_
   obtain ⟨v3,hk5,h⟩ := bind_some h
   refine Tri.loop (K1 := [.code [(3,0),(0,0),(0,0)] 0]) (K2 := [.blk 0,.code [] 4]) (fun (v1,v2) => ⟨[(0,.i v1),(1,.i v2)],[]⟩) (fun x e σ' => match x with | v3 => e = .exit 0 ∧ σ' = ⟨[(0,.i v3)],[]⟩) hk5 rfl rfl ?_ ?_
   ·intro s x hs
    clear h
    have h := hs
    clear hs
    obtain ⟨v1,v2⟩ := s
    refine Tri.f 1 [] [.keep [0,1,15] []] rfl trivial ?_
    rcases bif_some h with ⟨hd3,h⟩ | ⟨hd3,h⟩
    ·obtain ⟨hg4,h⟩ := grd_some h
     refine Tri.f 3 [.g true] [.keep [0,5] []] rfl ⟨hg4,hd3,trivial⟩ ?_
     refine Tri.f 1 [] [.keep [0,1] []] rfl trivial ?_
     cases h
     exact Tri.nil ⟨rfl,rfl⟩
    ·refine Tri.f 1 [.g false] [.keep [0] []] rfl ⟨hd3,trivial⟩ ?_
     cases h
     exact Tri.out 0 rfl ⟨nofun,rfl,rfl⟩
   ·intro e σ' hne hq
    obtain ⟨rfl,rfl⟩ := hq
    refine TriX.exit (K' := [.code [] 4]) rfl ?_
    refine Tri.f 1 [] [.keep [4] []] rfl trivial ?_
    cases h
    exact Tri.ret rfl ⟨.inl rfl,rfl,rfl⟩
  ·refine Tri.f 1 [.g false] [.keep [0,1] []] rfl ⟨hd2,trivial⟩ ?_
   obtain ⟨v6,hk8,h⟩ := bind_some h
   refine Tri.loop (K1 := [.code [(3,0),(0,0),(0,0)] 0]) (K2 := [.blk 0,.code [] 4]) (fun (v4,v5) => ⟨[(0,.i v4),(1,.i v5)],[]⟩) (fun x e σ' => match x with | v6 => e = .exit 0 ∧ σ' = ⟨[(0,.i v6)],[]⟩) hk8 rfl rfl ?_ ?_
   ·intro s x hs
    clear h
    have h := hs
    clear hs
    obtain ⟨v4,v5⟩ := s
    refine Tri.f 1 [] [.keep [0,1,15] []] rfl trivial ?_
    rcases bif_some h with ⟨hd6,h⟩ | ⟨hd6,h⟩
    ·obtain ⟨hg7,h⟩ := grd_some h
     refine Tri.f 3 [.g true] [.keep [0,5] []] rfl ⟨hg7,hd6,trivial⟩ ?_
     refine Tri.f 1 [] [.keep [0,1] []] rfl trivial ?_
     cases h
     exact Tri.nil ⟨rfl,rfl⟩
    ·refine Tri.f 1 [.g false] [.keep [0] []] rfl ⟨hd6,trivial⟩ ?_
     cases h
     exact Tri.out 0 rfl ⟨nofun,rfl,rfl⟩
   ·intro e σ' hne hq
    obtain ⟨rfl,rfl⟩ := hq
    refine TriX.exit (K' := [.code [] 4]) rfl ?_
    refine Tri.f 1 [] [.keep [4] []] rfl trivial ?_
    cases h
    exact Tri.ret rfl ⟨.inl rfl,rfl,rfl⟩
 ·refine Tri.f 2 [.g false] [.keep [0,1,11] []] rfl ⟨hd1,trivial⟩ ?_
  rcases bif_some h with ⟨hd9,h⟩ | ⟨hd9,h⟩
  ·refine Tri.f 2 [.g true] [.keep [0,1] []] rfl ⟨hd9,trivial⟩ ?_
   obtain ⟨v9,hk12,h⟩ := bind_some h
   refine Tri.loop (K1 := [.code [(3,0),(0,0),(0,0)] 0]) (K2 := [.blk 0,.code [] 4]) (fun (v7,v8) => ⟨[(0,.i v7),(1,.i v8)],[]⟩) (fun x e σ' => match x with | v9 => e = .exit 0 ∧ σ' = ⟨[(0,.i v9)],[]⟩) hk12 rfl rfl ?_ ?_
   ·intro s x hs
    clear h
    have h := hs
    clear hs
    obtain ⟨v7,v8⟩ := s
    refine Tri.f 1 [] [.keep [0,1,15] []] rfl trivial ?_
    rcases bif_some h with ⟨hd10,h⟩ | ⟨hd10,h⟩
    ·obtain ⟨hg11,h⟩ := grd_some h
     refine Tri.f 3 [.g true] [.keep [0,5] []] rfl ⟨hg11,hd10,trivial⟩ ?_
     refine Tri.f 1 [] [.keep [0,1] []] rfl trivial ?_
     cases h
     exact Tri.nil ⟨rfl,rfl⟩
    ·refine Tri.f 1 [.g false] [.keep [0] []] rfl ⟨hd10,trivial⟩ ?_
     cases h
     exact Tri.out 0 rfl ⟨nofun,rfl,rfl⟩
   ·intro e σ' hne hq
    obtain ⟨rfl,rfl⟩ := hq
    refine TriX.exit (K' := [.code [] 4]) rfl ?_
    refine Tri.f 1 [] [.keep [4] []] rfl trivial ?_
    cases h
    exact Tri.ret rfl ⟨.inl rfl,rfl,rfl⟩
  ·refine Tri.f 1 [.g false] [.keep [0,1] []] rfl ⟨hd9,trivial⟩ ?_
   obtain ⟨v12,hk15,h⟩ := bind_some h
   refine Tri.loop (K1 := [.code [(3,0),(0,0),(0,0)] 0]) (K2 := [.blk 0,.code [] 4]) (fun (v10,v11) => ⟨[(0,.i v10),(1,.i v11)],[]⟩) (fun x e σ' => match x with | v12 => e = .exit 0 ∧ σ' = ⟨[(0,.i v12)],[]⟩) hk15 rfl rfl ?_ ?_
   ·intro s x hs
    clear h
    have h := hs
    clear hs
    obtain ⟨v10,v11⟩ := s
    refine Tri.f 1 [] [.keep [0,1,15] []] rfl trivial ?_
    rcases bif_some h with ⟨hd13,h⟩ | ⟨hd13,h⟩
    ·obtain ⟨hg14,h⟩ := grd_some h
     refine Tri.f 3 [.g true] [.keep [0,5] []] rfl ⟨hg14,hd13,trivial⟩ ?_
     refine Tri.f 1 [] [.keep [0,1] []] rfl trivial ?_
     cases h
     exact Tri.nil ⟨rfl,rfl⟩
    ·refine Tri.f 1 [.g false] [.keep [0] []] rfl ⟨hd13,trivial⟩ ?_
     cases h
     exact Tri.out 0 rfl ⟨nofun,rfl,rfl⟩
   ·intro e σ' hne hq
    obtain ⟨rfl,rfl⟩ := hq
    refine TriX.exit (K' := [.code [] 4]) rfl ?_
    refine Tri.f 1 [] [.keep [4] []] rfl trivial ?_
    cases h
    exact Tri.ret rfl ⟨.inl rfl,rfl,rfl⟩
noncomputable def E184 : Env := ⟨Try.prog,tys,(Try.f68.body).getD .skip,19,tysOk,mixedOk⟩
abbrev K96 (r : Bool) (σ' : ASt) : Prop := isRes E184.T Try.f68 (.bool r) [] σ'
noncomputable def m_spec_IsValidRat (a0 a1 : Int) : Option Bool :=
(m_spec_l1In a1 (1 : Int) (1000000000 : Int)).bind fun v1 =>
bif v1 then
((m_spec_l1In a0 (-1000000000 : Int) (1000000000 : Int)).bind fun v2 =>
bif v2 then
((m_spec_l3Gcd a0 a1).bind fun v3 =>
some (v3 == 1))
else
(some false))
else
(some false)
theorem W9 (a0 a1 : Int) (r : Bool) (h : m_spec_IsValidRat a0 a1 = some r) : AM.Spec Try.prog 68 [.agg [.i a0,.i a1]] [] (.bool r) [] := by
 refine spec_of (E := E184) Try.func68 rfl rfl rfl rfl ?_
 refine Tri.f 1 [] [.keep [1] [1]] rfl trivial ?_
 obtain ⟨v1,hk1,h⟩ := bind_some h
 rcases bif_some h with ⟨hd2,h⟩ | ⟨hd2,h⟩
 ·obtain ⟨v2,hk3,h⟩ := bind_some h
  rcases bif_some h with ⟨hd4,h⟩ | ⟨hd4,h⟩
  ·obtain ⟨v3,hk5,h⟩ := bind_some h
   refine Tri.f 1 [.v (.bool v1),.g true,.v (.bool v2),.g true,.v (.i v3)] [.keep [2] []] rfl ⟨fun _ => W8 a0 a1 v3 hk5,hd4,fun _ => W7 a0 (-1000000000 : Int) (1000000000 : Int) v2 hk3,hd2,fun _ => W7 a1 (1 : Int) (1000000000 : Int) v1 hk1,trivial⟩ ?_
   cases h
   exact Tri.ret rfl ⟨.inl rfl,rfl,rfl⟩
  ·refine Tri.f 1 [.v (.bool v1),.g true,.v (.bool v2),.g false] [.keep [2] []] rfl ⟨hd4,fun _ => W7 a0 (-1000000000 : Int) (1000000000 : Int) v2 hk3,hd2,fun _ => W7 a1 (1 : Int) (1000000000 : Int) v1 hk1,trivial⟩ ?_
   cases h
   exact Tri.ret rfl ⟨.inl rfl,rfl,rfl⟩
 ·refine Tri.f 1 [.v (.bool v1),.g false,.g false] [.keep [2] []] rfl ⟨rfl,hd2,fun _ => W7 a1 (1 : Int) (1000000000 : Int) v1 hk1,trivial⟩ ?_
  cases h
  exact Tri.ret rfl ⟨.inl rfl,rfl,rfl⟩
noncomputable def E185 : Env := ⟨Try.prog,tys,(Try.f65.body).getD .skip,42,tysOk,mixedOk⟩
abbrev K97 (r : Int × Int × Bool) (σ' : ASt) : Prop := isRes E185.T Try.f65 (.tuple [.agg [.i r.1,.i r.2.1],.bool r.2.2]) [] σ'
noncomputable def m_spec_RatOf (a0 a1 : Int) : Option (Int × Int × Bool) :=
bif a1 == 0 then
(some (0,0,false))
else
((m_spec_l1In a0 (-1000000000000000000 : Int) (1000000000000000000 : Int)).bind fun v1 =>
bif !v1 then
(some (0,0,false))
else
((m_spec_l1In a1 (-1000000000000000000 : Int) (1000000000000000000 : Int)).bind fun v2 =>
bif !v2 then
(some (0,0,false))
else
(bif decide (a1 < 0) then
((m_spec_l3Gcd (IntKind.i64.wrap (0 - a0)) (IntKind.i64.wrap (0 - a1))).bind fun v3 =>
grd (v3 ≠ 0) <|
grd (v3 ≠ 0) <|
(m_spec_IsValidRat (IntKind.i64.wrap ((IntKind.i64.wrap (0 - a0)).tdiv v3)) (IntKind.i64.wrap ((IntKind.i64.wrap (0 - a1)).tdiv v3))).bind fun v4 =>
bif !v4 then
(some (0,0,false))
else
(some (IntKind.i64.wrap ((IntKind.i64.wrap (0 - a0)).tdiv v3),IntKind.i64.wrap ((IntKind.i64.wrap (0 - a1)).tdiv v3),true)))
else
((m_spec_l3Gcd a0 a1).bind fun v5 =>
grd (v5 ≠ 0) <|
grd (v5 ≠ 0) <|
(m_spec_IsValidRat (IntKind.i64.wrap (a0.tdiv v5)) (IntKind.i64.wrap (a1.tdiv v5))).bind fun v6 =>
bif !v6 then
(some (0,0,false))
else
(some (IntKind.i64.wrap (a0.tdiv v5),IntKind.i64.wrap (a1.tdiv v5),true))))))
theorem W10 (a0 a1 : Int) (r : Int × Int × Bool) (h : m_spec_RatOf a0 a1 = some r) : AM.Spec Try.prog 65 [.i a0,.i a1] [] (.tuple [.agg [.i r.1,.i r.2.1],.bool r.2.2]) [] := by
 refine spec_of (E := E185) Try.func65 rfl rfl rfl rfl ?_
 refine Tri.f 1 [] [.keep [0,1,4] [4]] rfl trivial ?_
 rcases bif_some h with ⟨hd1,h⟩ | ⟨hd1,h⟩
 ·refine Tri.f 1 [.g true,.g true] [.keep [0,1,4,19] [4]] rfl ⟨rfl,hd1,trivial⟩ ?_
  refine Tri.f 2 [.g true] [.keep [4,5] [4]] rfl ⟨rfl,trivial⟩ ?_
  cases h
  exact Tri.ret rfl ⟨.inl rfl,rfl,rfl⟩
 ·obtain ⟨v1,hk2,h⟩ := bind_some h
  rcases bif_some h with ⟨hd3,h⟩ | ⟨hd3,h⟩
  ·refine Tri.f 1 [.g false,.v (.bool v1),.g true] [.keep [0,1,4,19] [4]] rfl ⟨hd3,fun _ => W7 a0 (-1000000000000000000 : Int) (1000000000000000000 : Int) v1 hk2,hd1,trivial⟩ ?_
   refine Tri.f 2 [.g true] [.keep [4,5] [4]] rfl ⟨rfl,trivial⟩ ?_
   cases h
   exact Tri.ret rfl ⟨.inl rfl,rfl,rfl⟩
  ·obtain ⟨v2,hk4,h⟩ := bind_some h
   refine Tri.f 1 [.g false,.v (.bool v1),.g false,.v (.bool v2)] [.keep [0,1,4,19] [4]] rfl ⟨fun _ => W7 a1 (-1000000000000000000 : Int) (1000000000000000000 : Int) v2 hk4,hd3,fun _ => W7 a0 (-1000000000000000000 : Int) (1000000000000000000 : Int) v1 hk2,hd1,trivial⟩ ?_
   rcases bif_some h with ⟨hd5,h⟩ | ⟨hd5,h⟩
   ·refine Tri.f 2 [.g true] [.keep [4,5] [4]] rfl ⟨hd5,trivial⟩ ?_
    cases h
    exact Tri.ret rfl ⟨.inl rfl,rfl,rfl⟩
   ·refine Tri.f 2 [.g false] [.keep [0,1,4,22] [4]] rfl ⟨hd5,trivial⟩ ?_
    rcases bif_some h with ⟨hd6,h⟩ | ⟨hd6,h⟩
    ·refine Tri.f 3 [.g true] [.keep [0,1,4] [4]] rfl ⟨hd6,trivial⟩ ?_
     obtain ⟨v3,hk7,h⟩ := bind_some h
     obtain ⟨hg8,h⟩ := grd_some h
     obtain ⟨hg9,h⟩ := grd_some h
     refine Tri.f 2 [.v (.i v3)] [.keep [4,7] [4,7]] rfl ⟨hg9,hg8,fun _ => W8 (IntKind.i64.wrap (0 - a0)) (IntKind.i64.wrap (0 - a1)) v3 hk7,trivial⟩ ?_
     obtain ⟨v4,hk10,h⟩ := bind_some h
     refine Tri.f 1 [.v (.bool v4)] [.keep [4,7,39] [4,7]] rfl ⟨fun _ => W9 (IntKind.i64.wrap ((IntKind.i64.wrap (0 - a0)).tdiv v3)) (IntKind.i64.wrap ((IntKind.i64.wrap (0 - a1)).tdiv v3)) v4 hk10,trivial⟩ ?_
     rcases bif_some h with ⟨hd11,h⟩ | ⟨hd11,h⟩
     ·refine Tri.f 2 [.g true] [.keep [4,5] [4]] rfl ⟨hd11,trivial⟩ ?_
      cases h
      exact Tri.ret rfl ⟨.inl rfl,rfl,rfl⟩
     ·refine Tri.f 2 [.g false] [.keep [4,5] [4]] rfl ⟨hd11,trivial⟩ ?_
      cases h
      exact Tri.ret rfl ⟨.inl rfl,rfl,rfl⟩
    ·obtain ⟨v5,hk12,h⟩ := bind_some h
     obtain ⟨hg13,h⟩ := grd_some h
     obtain ⟨hg14,h⟩ := grd_some h
     refine Tri.f 3 [.g false,.v (.i v5)] [.keep [4,7] [4,7]] rfl ⟨hg14,hg13,fun _ => W8 a0 a1 v5 hk12,hd6,trivial⟩ ?_
     obtain ⟨v6,hk15,h⟩ := bind_some h
     refine Tri.f 1 [.v (.bool v6)] [.keep [4,7,39] [4,7]] rfl ⟨fun _ => W9 (IntKind.i64.wrap (a0.tdiv v5)) (IntKind.i64.wrap (a1.tdiv v5)) v6 hk15,trivial⟩ ?_
     rcases bif_some h with ⟨hd16,h⟩ | ⟨hd16,h⟩
     ·refine Tri.f 2 [.g true] [.keep [4,5] [4]] rfl ⟨hd16,trivial⟩ ?_
      cases h
      exact Tri.ret rfl ⟨.inl rfl,rfl,rfl⟩
     ·refine Tri.f 2 [.g false] [.keep [4,5] [4]] rfl ⟨hd16,trivial⟩ ?_
      cases h
      exact Tri.ret rfl ⟨.inl rfl,rfl,rfl⟩
noncomputable def E186 : Env := ⟨Try.prog,tys,(Try.f40.body).getD .skip,4,tysOk,mixedOk⟩
abbrev K98 (r : Int) (σ' : ASt) : Prop := isRes E186.T Try.f40 (.i r) [] σ'
noncomputable def m_spec_l1Bit (a0 : Bool) : Option Int :=
bif a0 then
(some (1 : Int))
else
(some (0 : Int))
theorem W11 (a0 : Bool) (r : Int) (h : m_spec_l1Bit a0 = some r) : AM.Spec Try.prog 40 [.bool a0] [] (.i r) [] := by
 refine spec_of (E := E186) Try.func40 rfl rfl rfl rfl ?_
 refine Tri.f 2 [] [.keep [3] []] rfl trivial ?_
 rcases bif_some h with ⟨hd1,h⟩ | ⟨hd1,h⟩
 ·refine Tri.f 2 [.g true] [.keep [2] []] rfl ⟨hd1,trivial⟩ ?_
  cases h
  exact Tri.ret rfl ⟨.inl rfl,rfl,rfl⟩
 ·refine Tri.f 2 [.g false] [.keep [2] []] rfl ⟨hd1,trivial⟩ ?_
  cases h
  exact Tri.ret rfl ⟨.inl rfl,rfl,rfl⟩
noncomputable def E187 : Env := ⟨Try.prog,tys,(Try.f39.body).getD .skip,5,tysOk,mixedOk⟩
abbrev K99 (r : Int × Int) (σ' : ASt) : Prop := isRes E187.T Try.f39 (.agg [.i r.1,.i r.2]) [] σ'
noncomputable def m_spec_l3Int (a0 : Int) : Option (Int × Int) :=
some (a0,(1 : Int))
theorem W12 (a0 : Int) (r : Int × Int) (h : m_spec_l3Int a0 = some r) : AM.Spec Try.prog 39 [.i a0] [] (.agg [.i r.1,.i r.2]) [] := by
 refine spec_of (E := E187) Try.func39 rfl rfl rfl rfl ?_
 refine Tri.f 2 [] [.keep [2] [2]] rfl trivial ?_
 cases h
 exact Tri.ret rfl ⟨.inl rfl,rfl,rfl⟩
noncomputable def E188 : Env := ⟨Try.prog,tys,(Try.f33.body).getD .skip,109,tysOk,mixedOk⟩
abbrev K100 (u0 : Value) (a0 : List UInt8) (r : (List (List Int)) × (List Int) × (List Q) × Int × Int) (σ' : ASt) : Prop := isRes E188.T Try.f33 (.agg [.sl 1000 0,.sl 1001 0,.sl 1002 0]) [(1000,.arr 25 0 0 (.intss r.1)),(1001,.arr 3 0 0 (.ints r.2.1)),(1002,.arr 32 0 0 (.rats r.2.2.1)),(2040,.box [.lst u0 (.bytes a0),.i r.2.2.2.1,.i r.2.2.2.2])] σ'
noncomputable def l_spec_l5Draw_io1_0 (a0 : List UInt8) (v1 : Int) : (Int × (List Q) × Int × Int) → Option ((Int × (List Q) × Int × Int) ⊕ (((List Q) × Int × Int)))
 | (v10,v11,v12,v13) => (
bif decide (v10 < (IntKind.i64.wrap ((1 : Int) + v1))) then
((m_spec_l5Number_io1 a0 v12 v13).bind fun (v14,v15,v16) =>
(m_spec_l1PickInt_io1 a0 v15 v16 [(1 : Int),(1 : Int),(1 : Int),(2 : Int)]).bind fun (v17,v18,v19) =>
(m_spec_RatOf v14 v17).bind fun (v20,v21,_) =>
grd (v11.length + ([⟨v20,v21⟩] : List Q).length ≤ room) <|
some (.inl (IntKind.i64.wrap (v10 + 1),v11 ++ [⟨v20,v21⟩],v18,v19)))
else
(some (.inr (v11,v12,v13))))
noncomputable def l_spec_l5Draw_io1_2 (a0 : List UInt8) (v1 : Int) : (Int × (List Int) × Int × Int) → Option ((Int × (List Int) × Int × Int) ⊕ (((List Int) × Int × Int)))
 | (v31,v32,v33,v34) => (
bif decide (v31 < (IntKind.i64.wrap ((1 : Int) + v1))) then
((m_spec_l5Number_io1 a0 v33 v34).bind fun (v35,v36,v37) =>
grd (v32.length + ([v35] : List Int).length ≤ room) <|
some (.inl (IntKind.i64.wrap (v31 + 1),v32 ++ [v35],v36,v37)))
else
(some (.inr (v32,v33,v34))))
noncomputable def l_spec_l5Draw_io1_1 (a0 : List UInt8) (v1 v4 : Int) : (Int × (List (List Int)) × (List Int) × Int × Int) → Option ((Int × (List (List Int)) × (List Int) × Int × Int) ⊕ (((List (List Int)) × (List Int) × Int × Int)))
 | (v26,v27,v28,v29,v30) => (
bif decide (v26 < (IntKind.i64.wrap ((1 : Int) + v4))) then
((iter (l_spec_l5Draw_io1_2 a0 v1) ((0 : Int),[],v29,v30)).bind fun
| (v38,v39,v40) => (
grd (v27.length + ([v38] : List (List Int)).length ≤ room) <|
(m_spec_l1PickInt_io1 a0 v39 v40 [(0 : Int),(1 : Int),(4 : Int),(6 : Int),(7 : Int),(-2 : Int),(10 : Int)]).bind fun (v41,v42,v43) =>
grd (v28.length + ([v41] : List Int).length ≤ room) <|
some (.inl (IntKind.i64.wrap (v26 + 1),v27 ++ [v38],v28 ++ [v41],v42,v43))))
else
(some (.inr (v27,v28,v29,v30))))
noncomputable def l_spec_l5Draw_io1_4 (v4 v48 : Int) : (Int × (List (List Int))) → Option ((Int × (List (List Int))) ⊕ ((List (List Int))))
 | (v51,v52) => (
bif decide (v51 < (IntKind.i64.wrap ((1 : Int) + v4))) then
(grd (0 ≤ v51 ∧ v51 < (v52.length : Int)) <|
(m_spec_l1Bit (v51 == v48)).bind fun v53 =>
grd ((v52.getD v51.toNat []).length + ([v53] : List Int).length ≤ room) <|
grd (0 ≤ v51 ∧ v51 < ((v52.set v51.toNat ((v52.getD v51.toNat []) ++ [v53])).length : Int)) <|
some (.inl (IntKind.i64.wrap (v51 + 1),v52.set v51.toNat ((v52.getD v51.toNat []) ++ [v53]))))
else
(some (.inr v52)))
noncomputable def l_spec_l5Draw_io1_3 (v4 : Int) (v7 : Bool) : (Int × (List (List Int)) × (List Q)) → Option ((Int × (List (List Int)) × (List Q)) ⊕ (((List (List Int)) × (List Q))))
 | (v48,v49,v50) => (
bif decide (v48 < (IntKind.i64.wrap ((1 : Int) + v4))) then
(bif v7 then
((iter (l_spec_l5Draw_io1_4 v4 v48) ((0 : Int),v49)).bind fun
| v54 => (
(m_spec_l3Int (0 : Int)).bind fun (v55,v56) =>
grd (v50.length + ([⟨v55,v56⟩] : List Q).length ≤ room) <|
some (.inl (IntKind.i64.wrap (v48 + 1),v54,v50 ++ [⟨v55,v56⟩]))))
else
(some (.inr (v49,v50))))
else
(some (.inr (v49,v50))))
noncomputable def m_spec_l5Draw_io1 (a0 : List UInt8) (a1 a2 : Int) : Option ((List (List Int)) × (List Int) × (List Q) × Int × Int) :=
(m_spec_l1Below_io1 a0 a1 a2 (3 : Int)).bind fun (v1,v2,v3) =>
(m_spec_l1Below_io1 a0 v2 v3 (3 : Int)).bind fun (v4,v5,v6) =>
(m_spec_l1Once_io1 a0 v5 v6 (2 : Int)).bind fun (v7,v8,v9) =>
(iter (l_spec_l5Draw_io1_0 a0 v1) ((0 : Int),[],v8,v9)).bind fun
| (v23,v24,v25) => (
(iter (l_spec_l5Draw_io1_1 a0 v1 v4) ((0 : Int),[],[],v24,v25)).bind fun
| (v44,v45,v46,v47) => (
(iter (l_spec_l5Draw_io1_3 v4 v7) ((0 : Int),v44,v23)).bind fun
| (v57,v58) => (
some (v57,v45,v58,v46,v47))))
theorem W13 (u0 : Value) (a0 : List UInt8) (a1 a2 : Int) (r : (List (List Int)) × (List Int) × (List Q) × Int × Int) (h : m_spec_l5Draw_io1 a0 a1 a2 = some r) : AM.Spec Try.prog 33 [.ptr 2040 0] [(2040,.box [.lst u0 (.bytes a0),.i a1,.i a2])] (.agg [.sl 1000 0,.sl 1001 0,.sl 1002 0]) [(1000,.arr 25 0 0 (.intss r.1)),(1001,.arr 3 0 0 (.ints r.2.1)),(1002,.arr 32 0 0 (.rats r.2.2.1)),(2040,.box [.lst u0 (.bytes a0),.i r.2.2.2.1,.i r.2.2.2.2])] := by
 refine spec_of (E := E188) Try.func33 rfl rfl rfl rfl ?_
 refine Tri.f 1 [] [.keep [0,2] [2,2040],.ownc 2 0 1100 25,.ownc 2 1 1101 3,.ownc 2 2 1102 32,.keep [0,2] [2,1100,1101,1102,2040]] rfl trivial ?_
 obtain ⟨⟨v1,v2,v3⟩,hk1,h⟩ := bind_some h
 obtain ⟨⟨v4,v5,v6⟩,hk2,h⟩ := bind_some h
 refine Tri.f 2 [.r ⟨[2040],.i v1,[(2040,.box [.undf,.i v2,.i v3])]⟩,.r ⟨[2040],.i v4,[(2040,.box [.undf,.i v5,.i v6])]⟩] [.keep [0,2,3,4] [2,1100,1101,1102,2040]] rfl ⟨(fun vf => ((W3 (vf 2040 0) a0 v2 v3 (3 : Int) (v4,v5,v6) hk2).swap 2060 2040)),(fun vf => ((W3 (vf 2040 0) a0 a1 a2 (3 : Int) (v1,v2,v3) hk1).swap 2060 2040)),trivial⟩ ?_
 obtain ⟨⟨v7,v8,v9⟩,hk3,h⟩ := bind_some h
 refine Tri.f 3 [.r ⟨[2040],.bool v7,[(2040,.box [.undf,.i v8,.i v9])]⟩] [.ownc 6 0 1103 25,.ownc 6 1 1104 3,.ownc 6 2 1105 32,.keep [0,2,3,4,5,6,7] [2,6,1100,1101,1102,1103,1104,1105,2040]] rfl ⟨(fun vf => ((W4 (vf 2040 0) a0 v5 v6 (2 : Int) (v7,v8,v9) hk3).swap 2100 2040)),trivial⟩ ?_
 obtain ⟨x1,hk9,h⟩ := bind_some h
 refine Tri.loop (K1 := [.code [(5,0),(1,0),(0,0)] 0]) (K2 := [.blk 0,.code [] 6]) (fun (v10,v11,v12,v13) => ⟨[(0,.ptr 2040 0),(2,.ptr 2 0),(3,.i (IntKind.i64.wrap ((1 : Int) + v1))),(4,.i (IntKind.i64.wrap ((1 : Int) + v4))),(5,.bool v7),(6,.ptr 6 0),(7,.i v10)],[(2,.box [.sl 1100 0,.sl 1101 0,.sl 1102 0]),(6,.box [.sl 1103 0,.sl 1104 0,.sl 1105 0]),(1100,.arr 25 0 0 (.intss [])),(1101,.arr 3 0 0 (.ints [])),(1102,.arr 32 0 0 (.rats [])),(1103,.arr 25 0 0 (.intss [])),(1104,.arr 3 0 0 (.ints [])),(1105,.arr 32 0 0 (.rats v11)),(2040,.box [.lst u0 (.bytes a0),.i v12,.i v13])]⟩) (fun x e σ' => match x with | (v23,v24,v25) => e = .exit 0 ∧ σ' = ⟨[(0,.ptr 2040 0),(2,.ptr 2 0),(3,.i (IntKind.i64.wrap ((1 : Int) + v1))),(4,.i (IntKind.i64.wrap ((1 : Int) + v4))),(5,.bool v7),(6,.ptr 6 0)],[(2,.box [.sl 1100 0,.sl 1101 0,.sl 1102 0]),(6,.box [.sl 1103 0,.sl 1104 0,.sl 1105 0]),(1100,.arr 25 0 0 (.intss [])),(1101,.arr 3 0 0 (.ints [])),(1102,.arr 32 0 0 (.rats [])),(1103,.arr 25 0 0 (.intss [])),(1104,.arr 3 0 0 (.ints [])),(1105,.arr 32 0 0 (.rats v23)),(2040,.box [.lst u0 (.bytes a0),.i v24,.i v25])]⟩) hk9 rfl rfl ?_ ?_
 ·intro s x hs
  clear h
  have h := hs
  clear hs
  obtain ⟨v10,v11,v12,v13⟩ := s
  refine Tri.f 1 [] [.keep [0,2,3,4,5,6,7,26] [2,6,1100,1101,1102,1103,1104,1105,2040]] rfl trivial ?_
  rcases bif_some h with ⟨hd4,h⟩ | ⟨hd4,h⟩
  ·obtain ⟨⟨v14,v15,v16⟩,hk5,h⟩ := bind_some h
   obtain ⟨⟨v17,v18,v19⟩,hk6,h⟩ := bind_some h
   obtain ⟨⟨v20,v21,v22⟩,hk7,h⟩ := bind_some h
   obtain ⟨hg8,h⟩ := grd_some h
   refine Tri.f 3 [.g true,.r ⟨[2040],.i v14,[(2040,.box [.undf,.i v15,.i v16])]⟩,.r ⟨[2040],.i v17,[(2040,.box [.undf,.i v18,.i v19])]⟩,.v (.tuple [.agg [.i v20,.i v21],.bool v22])] [.keep [0,2,3,4,5,6,7] [2,6,1100,1101,1102,1103,1104,1105,2040]] rfl ⟨hg8,fun _ => W10 v14 v17 (v20,v21,v22) hk7,(fun vf => ((W5 (vf 2040 0) a0 v15 v16 [(1 : Int),(1 : Int),(1 : Int),(2 : Int)] (v17,v18,v19) hk6).swap 2140 2040)),(fun vf => ((W6 (vf 2040 0) a0 v12 v13 (v14,v15,v16) hk5).swap 2120 2040)),hd4,trivial⟩ ?_
   refine Tri.f 1 [] [.rever 1105,.keep [0,2,3,4,5,6,7] [2,6,1100,1101,1102,1103,1104,1105,2040]] rfl trivial ?_
   cases h
   exact Tri.nil ⟨rfl,rfl⟩
  ·refine Tri.f 1 [.g false] [.keep [0,2,3,4,5,6] [2,6,1100,1101,1102,1103,1104,1105,2040]] rfl ⟨hd4,trivial⟩ ?_
   cases h
   exact Tri.out 0 rfl ⟨nofun,rfl,rfl⟩
 ·intro e σ' hne hq
  obtain ⟨v23,v24,v25⟩ := x1
  obtain ⟨rfl,rfl⟩ := hq
  refine TriX.exit (K' := [.code [] 6]) rfl ?_
  refine Tri.f 1 [] [.keep [0,2,3,4,5,6,10] [2,6,1100,1101,1102,1103,1104,1105,2040]] rfl trivial ?_
  obtain ⟨x3,hk18,h⟩ := bind_some h
  refine Tri.loop (K1 := [.code [(6,0),(1,0),(0,0)] 0]) (K2 := [.blk 2,.code [] 7]) (fun (v26,v27,v28,v29,v30) => ⟨[(0,.ptr 2040 0),(2,.ptr 2 0),(3,.i (IntKind.i64.wrap ((1 : Int) + v1))),(4,.i (IntKind.i64.wrap ((1 : Int) + v4))),(5,.bool v7),(6,.ptr 6 0),(10,.i v26)],[(2,.box [.sl 1100 0,.sl 1101 0,.sl 1102 0]),(6,.box [.sl 1103 0,.sl 1104 0,.sl 1105 0]),(1100,.arr 25 0 0 (.intss [])),(1101,.arr 3 0 0 (.ints [])),(1102,.arr 32 0 0 (.rats [])),(1103,.arr 25 0 0 (.intss v27)),(1104,.arr 3 0 0 (.ints v28)),(1105,.arr 32 0 0 (.rats v23)),(2040,.box [.lst u0 (.bytes a0),.i v29,.i v30])]⟩) (fun x e σ' => match x with | (v44,v45,v46,v47) => e = .exit 2 ∧ σ' = ⟨[(2,.ptr 2 0),(4,.i (IntKind.i64.wrap ((1 : Int) + v4))),(5,.bool v7),(6,.ptr 6 0)],[(2,.box [.sl 1100 0,.sl 1101 0,.sl 1102 0]),(6,.box [.sl 1103 0,.sl 1104 0,.sl 1105 0]),(1100,.arr 25 0 0 (.intss [])),(1101,.arr 3 0 0 (.ints [])),(1102,.arr 32 0 0 (.rats [])),(1103,.arr 25 0 0 (.intss v44)),(1104,.arr 3 0 0 (.ints v45)),(1105,.arr 32 0 0 (.rats v23)),(2040,.box [.lst u0 (.bytes a0),.i v46,.i v47])]⟩) hk18 rfl rfl ?_ ?_
  ·intro s x hs
   clear h
   have h := hs
   clear hs
   obtain ⟨v26,v27,v28,v29,v30⟩ := s
   refine Tri.f 1 [] [.keep [0,2,3,4,5,6,10,46] [2,6,1100,1101,1102,1103,1104,1105,2040]] rfl trivial ?_
   rcases bif_some h with ⟨hd10,h⟩ | ⟨hd10,h⟩
   ·refine Tri.f 3 [.g true] [.keep [0,2,3,4,5,6,10,11,12] [2,6,49,1100,1101,1102,1103,1104,1105,2040]] rfl ⟨hd10,trivial⟩ ?_
    obtain ⟨x3,hk14,h⟩ := bind_some h
    refine Tri.loop (K1 := [.code [(6,0),(1,0),(0,0),(1,0),(0,0),(1,0),(1,0),(0,0)] 0]) (K2 := [.blk 4,.code [(6,0),(1,0),(0,0),(1,0),(0,0)] 2,.blk 3,.code [(6,0),(1,0),(0,0)] 2]) (fun (v31,v32,v33,v34) => ⟨[(0,.ptr 2040 0),(2,.ptr 2 0),(3,.i (IntKind.i64.wrap ((1 : Int) + v1))),(4,.i (IntKind.i64.wrap ((1 : Int) + v4))),(5,.bool v7),(6,.ptr 6 0),(10,.i v26),(11,.sl 49 0),(12,.i v31)],[(2,.box [.sl 1100 0,.sl 1101 0,.sl 1102 0]),(6,.box [.sl 1103 0,.sl 1104 0,.sl 1105 0]),(49,.arr 3 0 0 (.ints v32)),(1100,.arr 25 0 0 (.intss [])),(1101,.arr 3 0 0 (.ints [])),(1102,.arr 32 0 0 (.rats [])),(1103,.arr 25 0 0 (.intss v27)),(1104,.arr 3 0 0 (.ints v28)),(1105,.arr 32 0 0 (.rats v23)),(2040,.box [.lst u0 (.bytes a0),.i v33,.i v34])]⟩) (fun x e σ' => match x with | (v38,v39,v40) => e = .exit 4 ∧ σ' = ⟨[(0,.ptr 2040 0),(2,.ptr 2 0),(3,.i (IntKind.i64.wrap ((1 : Int) + v1))),(4,.i (IntKind.i64.wrap ((1 : Int) + v4))),(5,.bool v7),(6,.ptr 6 0),(10,.i v26),(11,.sl 49 0)],[(2,.box [.sl 1100 0,.sl 1101 0,.sl 1102 0]),(6,.box [.sl 1103 0,.sl 1104 0,.sl 1105 0]),(49,.arr 3 0 0 (.ints v38)),(1100,.arr 25 0 0 (.intss [])),(1101,.arr 3 0 0 (.ints [])),(1102,.arr 32 0 0 (.rats [])),(1103,.arr 25 0 0 (.intss v27)),(1104,.arr 3 0 0 (.ints v28)),(1105,.arr 32 0 0 (.rats v23)),(2040,.box [.lst u0 (.bytes a0),.i v39,.i v40])]⟩) hk14 rfl rfl ?_ ?_
    ·intro s x hs
     clear h
     have h := hs
     clear hs
     obtain ⟨v31,v32,v33,v34⟩ := s
     refine Tri.f 1 [] [.keep [0,2,3,4,5,6,10,11,12,52] [2,6,49,1100,1101,1102,1103,1104,1105,2040]] rfl trivial ?_
     rcases bif_some h with ⟨hd11,h⟩ | ⟨hd11,h⟩
     ·obtain ⟨⟨v35,v36,v37⟩,hk12,h⟩ := bind_some h
      obtain ⟨hg13,h⟩ := grd_some h
      refine Tri.f 3 [.g true,.r ⟨[2040],.i v35,[(2040,.box [.undf,.i v36,.i v37])]⟩] [.rever 49,.keep [0,2,3,4,5,6,10,11,12] [2,6,49,1100,1101,1102,1103,1104,1105,2040]] rfl ⟨hg13,(fun vf => ((W6 (vf 2040 0) a0 v33 v34 (v35,v36,v37) hk12).swap 2120 2040)),hd11,trivial⟩ ?_
      cases h
      exact Tri.nil ⟨rfl,rfl⟩
     ·refine Tri.f 1 [.g false] [.keep [0,2,3,4,5,6,10,11] [2,6,49,1100,1101,1102,1103,1104,1105,2040]] rfl ⟨hd11,trivial⟩ ?_
      cases h
      exact Tri.out 4 rfl ⟨nofun,rfl,rfl⟩
    ·intro e σ' hne hq
     obtain ⟨v38,v39,v40⟩ := x3
     obtain ⟨rfl,rfl⟩ := hq
     refine TriX.exit (K' := [.code [(6,0),(1,0),(0,0),(1,0),(0,0)] 2,.blk 3,.code [(6,0),(1,0),(0,0)] 2]) rfl ?_
     obtain ⟨hg15,h⟩ := grd_some h
     refine Tri.f 1 [] [.keep [0,2,3,4,5,6,10] [2,6,1100,1101,1102,1103,1104,1105,2040],.rever 1103,.keep [0,2,3,4,5,6,10] [2,6,1100,1101,1102,1103,1104,1105,2040]] rfl ⟨hg15,trivial⟩ ?_
     obtain ⟨⟨v41,v42,v43⟩,hk16,h⟩ := bind_some h
     obtain ⟨hg17,h⟩ := grd_some h
     refine Tri.f 2 [.r ⟨[2040],.i v41,[(2040,.box [.undf,.i v42,.i v43])]⟩] [.rever 1104,.keep [0,2,3,4,5,6,10] [2,6,1100,1101,1102,1103,1104,1105,2040]] rfl ⟨hg17,(fun vf => ((W5 (vf 2040 0) a0 v39 v40 [(0 : Int),(1 : Int),(4 : Int),(6 : Int),(7 : Int),(-2 : Int),(10 : Int)] (v41,v42,v43) hk16).swap 2140 2040)),trivial⟩ ?_
     cases h
     exact Tri.nil ⟨rfl,rfl⟩
   ·refine Tri.f 1 [.g false] [.keep [2,4,5,6] [2,6,1100,1101,1102,1103,1104,1105,2040]] rfl ⟨hd10,trivial⟩ ?_
    cases h
    exact Tri.out 2 rfl ⟨nofun,rfl,rfl⟩
  ·intro e σ' hne hq
   obtain ⟨v44,v45,v46,v47⟩ := x3
   obtain ⟨rfl,rfl⟩ := hq
   refine TriX.exit (K' := [.code [] 7]) rfl ?_
   refine Tri.f 1 [] [.keep [2,4,5,6,13] [2,6,1100,1101,1102,1103,1104,1105,2040]] rfl trivial ?_
   obtain ⟨x5,hk29,h⟩ := bind_some h
   refine Tri.loop (K1 := [.code [(7,0),(1,0),(0,0)] 0]) (K2 := [.blk 6,.code [] 8]) (fun (v48,v49,v50) => ⟨[(2,.ptr 2 0),(4,.i (IntKind.i64.wrap ((1 : Int) + v4))),(5,.bool v7),(6,.ptr 6 0),(13,.i v48)],[(2,.box [.sl 1100 0,.sl 1101 0,.sl 1102 0]),(6,.box [.sl 1103 0,.sl 1104 0,.sl 1105 0]),(1100,.arr 25 0 0 (.intss [])),(1101,.arr 3 0 0 (.ints [])),(1102,.arr 32 0 0 (.rats [])),(1103,.arr 25 0 0 (.intss v49)),(1104,.arr 3 0 0 (.ints v45)),(1105,.arr 32 0 0 (.rats v50)),(2040,.box [.lst u0 (.bytes a0),.i v46,.i v47])]⟩) (fun x e σ' => match x with | (v57,v58) => e = .exit 6 ∧ σ' = ⟨[(2,.ptr 2 0),(6,.ptr 6 0)],[(2,.box [.sl 1100 0,.sl 1101 0,.sl 1102 0]),(6,.box [.sl 1103 0,.sl 1104 0,.sl 1105 0]),(1100,.arr 25 0 0 (.intss [])),(1101,.arr 3 0 0 (.ints [])),(1102,.arr 32 0 0 (.rats [])),(1103,.arr 25 0 0 (.intss v57)),(1104,.arr 3 0 0 (.ints v45)),(1105,.arr 32 0 0 (.rats v58)),(2040,.box [.lst u0 (.bytes a0),.i v46,.i v47])]⟩) hk29 rfl rfl ?_ ?_
   ·intro s x hs
    clear h
    have h := hs
    clear hs
    obtain ⟨v48,v49,v50⟩ := s
    rcases bif_some h with ⟨hd19,h⟩ | ⟨hd19,h⟩
    ·refine Tri.f 1 [.g true] [.keep [2,4,5,6,13,79] [2,6,1100,1101,1102,1103,1104,1105,2040]] rfl ⟨hd19,trivial⟩ ?_
     rcases bif_some h with ⟨hd20,h⟩ | ⟨hd20,h⟩
     ·refine Tri.f 2 [.g true] [.keep [2,4,5,6,13,14] [2,6,1100,1101,1102,1103,1104,1105,2040]] rfl ⟨hd20,trivial⟩ ?_
      obtain ⟨v54,hk26,h⟩ := bind_some h
      refine Tri.loop (K1 := [.code [(7,0),(1,0),(0,0),(1,0),(0,0),(0,0),(1,0),(0,0)] 0]) (K2 := [.blk 8,.code [(7,0),(1,0),(0,0),(1,0),(0,0)] 1,.blk 7,.code [(7,0),(1,0),(0,0)] 2]) (fun (v51,v52) => ⟨[(2,.ptr 2 0),(4,.i (IntKind.i64.wrap ((1 : Int) + v4))),(5,.bool v7),(6,.ptr 6 0),(13,.i v48),(14,.i v51)],[(2,.box [.sl 1100 0,.sl 1101 0,.sl 1102 0]),(6,.box [.sl 1103 0,.sl 1104 0,.sl 1105 0]),(1100,.arr 25 0 0 (.intss [])),(1101,.arr 3 0 0 (.ints [])),(1102,.arr 32 0 0 (.rats [])),(1103,.arr 25 0 0 (.intss v52)),(1104,.arr 3 0 0 (.ints v45)),(1105,.arr 32 0 0 (.rats v50)),(2040,.box [.lst u0 (.bytes a0),.i v46,.i v47])]⟩) (fun x e σ' => match x with | v54 => e = .exit 8 ∧ σ' = ⟨[(2,.ptr 2 0),(4,.i (IntKind.i64.wrap ((1 : Int) + v4))),(5,.bool v7),(6,.ptr 6 0),(13,.i v48)],[(2,.box [.sl 1100 0,.sl 1101 0,.sl 1102 0]),(6,.box [.sl 1103 0,.sl 1104 0,.sl 1105 0]),(1100,.arr 25 0 0 (.intss [])),(1101,.arr 3 0 0 (.ints [])),(1102,.arr 32 0 0 (.rats [])),(1103,.arr 25 0 0 (.intss v54)),(1104,.arr 3 0 0 (.ints v45)),(1105,.arr 32 0 0 (.rats v50)),(2040,.box [.lst u0 (.bytes a0),.i v46,.i v47])]⟩) hk26 rfl rfl ?_ ?_
      ·intro s x hs
       clear h
       have h := hs
       clear hs
       obtain ⟨v51,v52⟩ := s
       refine Tri.f 1 [] [.keep [2,4,5,6,13,14,84] [2,6,1100,1101,1102,1103,1104,1105,2040]] rfl trivial ?_
       rcases bif_some h with ⟨hd21,h⟩ | ⟨hd21,h⟩
       ·obtain ⟨hg22,h⟩ := grd_some h
        obtain ⟨v53,hk23,h⟩ := bind_some h
        obtain ⟨hg24,h⟩ := grd_some h
        obtain ⟨hg25,h⟩ := grd_some h
        refine Tri.f 3 [.g true,.v (.i v53)] [.rever 1103,.keep [2,4,5,6,13,14] [2,6,1100,1101,1102,1103,1104,1105,2040]] rfl ⟨rfl,rfl,hg25,hg24,fun _ => W11 (v51 == v48) v53 hk23,hg22,hd21,trivial⟩ ?_
        cases h
        exact Tri.nil ⟨rfl,rfl⟩
       ·refine Tri.f 1 [.g false] [.keep [2,4,5,6,13] [2,6,1100,1101,1102,1103,1104,1105,2040]] rfl ⟨hd21,trivial⟩ ?_
        cases h
        exact Tri.out 8 rfl ⟨nofun,rfl,rfl⟩
      ·intro e σ' hne hq
       obtain ⟨rfl,rfl⟩ := hq
       refine TriX.exit (K' := [.code [(7,0),(1,0),(0,0),(1,0),(0,0)] 1,.blk 7,.code [(7,0),(1,0),(0,0)] 2]) rfl ?_
       obtain ⟨⟨v55,v56⟩,hk27,h⟩ := bind_some h
       obtain ⟨hg28,h⟩ := grd_some h
       refine Tri.f 2 [.v (.agg [.i v55,.i v56])] [.rever 1105,.keep [2,4,5,6,13] [2,6,1100,1101,1102,1103,1104,1105,2040]] rfl ⟨hg28,fun _ => W12 (0 : Int) (v55,v56) hk27,trivial⟩ ?_
       cases h
       exact Tri.nil ⟨rfl,rfl⟩
     ·refine Tri.f 1 [.g false] [.keep [2,6] [2,6,1100,1101,1102,1103,1104,1105,2040]] rfl ⟨hd20,trivial⟩ ?_
      cases h
      exact Tri.out 6 rfl ⟨nofun,rfl,rfl⟩
    ·refine Tri.f 1 [.g false] [.keep [2,4,5,6,13,79] [2,6,1100,1101,1102,1103,1104,1105,2040]] rfl ⟨hd19,trivial⟩ ?_
     refine Tri.f 1 [.g false] [.keep [2,6] [2,6,1100,1101,1102,1103,1104,1105,2040]] rfl ⟨rfl,trivial⟩ ?_
     cases h
     exact Tri.out 6 rfl ⟨nofun,rfl,rfl⟩
   ·intro e σ' hne hq
    obtain ⟨v57,v58⟩ := x5
    obtain ⟨rfl,rfl⟩ := hq
    refine TriX.exit (K' := [.code [] 8]) rfl ?_
    refine Tri.f 1 [] [.swap 1103 1000,.swap 1104 1001,.swap 1105 1002,.keep [2] [2,1000,1001,1002,2040]] rfl trivial ?_
    cases h
    exact Tri.ret rfl ⟨.inl rfl,rfl,rfl⟩
noncomputable def E189 : Env := ⟨Try.prog,tys,(Try.f15.body).getD .skip,37,tysOk,mixedOk⟩
abbrev K101 (u0 : Value) (a0 : List UInt8) (r : (List (List Int)) × (List Int) × (List Q) × Int × Int) (σ' : ASt) : Prop := isRes E189.T Try.f15 (.agg [.sl 1000 0,.sl 1001 0,.sl 1002 0]) [(1000,.arr 25 0 0 (.intss r.1)),(1001,.arr 3 0 0 (.ints r.2.1)),(1002,.arr 32 0 0 (.rats r.2.2.1)),(2020,.box [.lst u0 (.bytes a0),.i r.2.2.2.1,.i r.2.2.2.2])] σ'
noncomputable def m_spec_l5Bent_io1 (a0 : List UInt8) (a1 a2 : Int) : Option ((List (List Int)) × (List Int) × (List Q) × Int × Int) :=
(m_spec_l5Draw_io1 a0 a1 a2).bind fun (v1,v2,v3,v4,v5) =>
(m_spec_l1Below_io1 a0 v4 v5 (12 : Int)).bind fun (v6,v7,v8) =>
bif v6 == 0 then
(grd (v2.length + ([(1 : Int)] : List Int).length ≤ room) <|
some (v1,v2 ++ [(1 : Int)],v3,v7,v8))
else
(bif v6 == 1 then
(grd ((0 : Int) ≤ (0 : Int) ∧ (0 : Int) < (v1.length : Int)) <|
grd ((v1.getD ((0 : Int).toNat) []).length + ([(1 : Int)] : List Int).length ≤ room) <|
grd ((0 : Int) ≤ (0 : Int) ∧ (0 : Int) < ((v1.set ((0 : Int).toNat) ((v1.getD ((0 : Int).toNat) []) ++ [(1 : Int)])).length : Int)) <|
some (v1.set ((0 : Int).toNat) ((v1.getD ((0 : Int).toNat) []) ++ [(1 : Int)]),v2,v3,v7,v8))
else
(bif v6 == 2 then
(grd ((0 : Int) ≤ (0 : Int) ∧ (0 : Int) < (v1.length : Int)) <|
(m_spec_l1PickInt_io1 a0 v7 v8 [(5000 : Int),(5001 : Int),(-5001 : Int)]).bind fun (v9,v10,v11) =>
grd ((0 : Int) ≤ (0 : Int) ∧ (0 : Int) < ((v1.getD ((0 : Int).toNat) []).length : Int)) <|
some (v1.set ((0 : Int).toNat) ((v1.getD ((0 : Int).toNat) []).set ((0 : Int).toNat) v9),v2,v3,v10,v11))
else
(some (v1,v2,v3,v7,v8))))
theorem W14 (u0 : Value) (a0 : List UInt8) (a1 a2 : Int) (r : (List (List Int)) × (List Int) × (List Q) × Int × Int) (h : m_spec_l5Bent_io1 a0 a1 a2 = some r) : AM.Spec Try.prog 15 [.ptr 2020 0] [(2020,.box [.lst u0 (.bytes a0),.i a1,.i a2])] (.agg [.sl 1000 0,.sl 1001 0,.sl 1002 0]) [(1000,.arr 25 0 0 (.intss r.1)),(1001,.arr 3 0 0 (.ints r.2.1)),(1002,.arr 32 0 0 (.rats r.2.2.1)),(2020,.box [.lst u0 (.bytes a0),.i r.2.2.2.1,.i r.2.2.2.2])] := by
 refine spec_of (E := E189) Try.func15 rfl rfl rfl rfl ?_
 refine Tri.f 1 [] [.keep [0,2] [2,2020],.ownc 2 0 1100 25,.ownc 2 1 1101 3,.ownc 2 2 1102 32,.keep [0,2] [2,1100,1101,1102,2020]] rfl trivial ?_
 obtain ⟨⟨v1,v2,v3,v4,v5⟩,hk1,h⟩ := bind_some h
 obtain ⟨⟨v6,v7,v8⟩,hk2,h⟩ := bind_some h
 refine Tri.f 3 [.r ⟨[2020],.agg [.sl 1103 0,.sl 1104 0,.sl 1105 0],[(1103,.arr 25 0 0 (.intss v1)),(1104,.arr 3 0 0 (.ints v2)),(1105,.arr 32 0 0 (.rats v3)),(2020,.box [.undf,.i v4,.i v5])]⟩,.r ⟨[2020],.i v6,[(2020,.box [.undf,.i v7,.i v8])]⟩] [.keep [0,2,3,7,8] [2,3,1100,1101,1102,1103,1104,1105,2020]] rfl ⟨(fun vf => ((W3 (vf 2020 0) a0 v4 v5 (12 : Int) (v6,v7,v8) hk2).swap 2060 2020)),(fun vf => (((((W13 (vf 2020 0) a0 a1 a2 (v1,v2,v3,v4,v5) hk1).swap 1000 1103).swap 1001 1104).swap 1002 1105).swap 2040 2020)),trivial⟩ ?_
 rcases bif_some h with ⟨hd3,h⟩ | ⟨hd3,h⟩
 ·obtain ⟨hg4,h⟩ := grd_some h
  refine Tri.f 3 [.g true] [.rever 1104,.swap 1103 1000,.swap 1104 1001,.swap 1105 1002,.keep [2] [2,1000,1001,1002,2020]] rfl ⟨hg4,hd3,trivial⟩ ?_
  cases h
  exact Tri.ret rfl ⟨.inl rfl,rfl,rfl⟩
 ·refine Tri.f 2 [.g false] [.keep [0,2,3,7,15] [2,3,1100,1101,1102,1103,1104,1105,2020]] rfl ⟨hd3,trivial⟩ ?_
  rcases bif_some h with ⟨hd5,h⟩ | ⟨hd5,h⟩
  ·obtain ⟨hg6,h⟩ := grd_some h
   obtain ⟨hg7,h⟩ := grd_some h
   obtain ⟨hg8,h⟩ := grd_some h
   refine Tri.f 3 [.g true] [.rever 1103,.swap 1103 1000,.swap 1104 1001,.swap 1105 1002,.keep [2] [2,1000,1001,1002,2020]] rfl ⟨rfl,rfl,hg8,hg7,hg6,hd5,trivial⟩ ?_
   cases h
   exact Tri.ret rfl ⟨.inl rfl,rfl,rfl⟩
  ·refine Tri.f 2 [.g false] [.keep [0,2,3,26] [2,3,1100,1101,1102,1103,1104,1105,2020]] rfl ⟨hd5,trivial⟩ ?_
   rcases bif_some h with ⟨hd9,h⟩ | ⟨hd9,h⟩
   ·obtain ⟨hg10,h⟩ := grd_some h
    obtain ⟨⟨v9,v10,v11⟩,hk11,h⟩ := bind_some h
    obtain ⟨hg12,h⟩ := grd_some h
    refine Tri.f 3 [.g true,.r ⟨[2020],.i v9,[(2020,.box [.undf,.i v10,.i v11])]⟩] [.swap 1103 1000,.swap 1104 1001,.swap 1105 1002,.keep [2] [2,1000,1001,1002,2020]] rfl ⟨hg12,(fun vf => ((W5 (vf 2020 0) a0 v7 v8 [(5000 : Int),(5001 : Int),(-5001 : Int)] (v9,v10,v11) hk11).swap 2140 2020)),hg10,hd9,trivial⟩ ?_
    cases h
    exact Tri.ret rfl ⟨.inl rfl,rfl,rfl⟩
   ·refine Tri.f 2 [.g false] [.swap 1103 1000,.swap 1104 1001,.swap 1105 1002,.keep [2] [2,1000,1001,1002,2020]] rfl ⟨hd9,trivial⟩ ?_
    cases h
    exact Tri.ret rfl ⟨.inl rfl,rfl,rfl⟩
noncomputable def E190 : Env := ⟨Try.prog,tys,(Try.f37.body).getD .skip,16,tysOk,mixedOk⟩
abbrev K102 (r : Bool) (σ' : ASt) : Prop := isRes E190.T Try.f37 (.bool r) [] σ'
noncomputable def l_spec_l5Small_0 (a0 : List Int) (v1 : Int) : Option (Int ⊕ (Unit ⊕ Bool)) :=
bif decide (v1 < (a0.length : Int)) then
(grd (0 ≤ v1 ∧ v1 < (a0.length : Int)) <|
(m_spec_l1In (a0.getD v1.toNat 0) (-5000 : Int) (5000 : Int)).bind fun v2 =>
bif !v2 then
(some (.inr (.inr false)))
else
(some (.inl (IntKind.i64.wrap (v1 + 1)))))
else
(some (.inr (.inl ())))
noncomputable def m_spec_l5Small (a0 : List Int) : Option Bool :=
(iter (l_spec_l5Small_0 a0) (0 : Int)).bind fun
| (.inl _) => (
some true)
| (.inr r) => some r
theorem W15 (a0 : List Int) (r : Bool) (h : m_spec_l5Small a0 = some r) : AM.Spec Try.prog 37 [.list (.ints a0)] [] (.bool r) [] := by
 refine spec_of (E := E190) Try.func37 rfl rfl rfl rfl ?_
 refine Tri.f 2 [] [.keep [0,3] []] rfl trivial ?_
 obtain ⟨x1,hk5,h⟩ := bind_some h
 refine Tri.loop (K1 := [.code [(1,0),(1,0),(0,0)] 0]) (K2 := [.blk 0,.code [] 2]) (fun v1 => ⟨[(0,.list (.ints a0)),(3,.i v1)],[]⟩) (fun x e σ' => match x with | (.inl _) => e = .exit 0 ∧ σ' = ⟨[],[]⟩ | (.inr r) => e = .ret ∧ K102 r σ') hk5 rfl rfl ?_ ?_
 ·intro v1 x hs
  clear h
  have h := hs
  clear hs
  refine Tri.f 1 [] [.keep [0,3,7] []] rfl trivial ?_
  rcases bif_some h with ⟨hd1,h⟩ | ⟨hd1,h⟩
  ·obtain ⟨hg2,h⟩ := grd_some h
   obtain ⟨v2,hk3,h⟩ := bind_some h
   refine Tri.f 2 [.g true,.v (.bool v2)] [.keep [0,3,15] []] rfl ⟨fun _ => W7 (a0.getD v1.toNat 0) (-5000 : Int) (5000 : Int) v2 hk3,hg2,hd1,trivial⟩ ?_
   rcases bif_some h with ⟨hd4,h⟩ | ⟨hd4,h⟩
   ·refine Tri.f 2 [.g true] [.keep [2] []] rfl ⟨hd4,trivial⟩ ?_
    cases h
    exact Tri.ret rfl ⟨nofun,rfl,rfl,rfl⟩
   ·refine Tri.f 2 [.g false] [.keep [0,3] []] rfl ⟨hd4,trivial⟩ ?_
    cases h
    exact Tri.nil ⟨rfl,rfl⟩
  ·refine Tri.f 1 [.g false] [.keep [] []] rfl ⟨hd1,trivial⟩ ?_
   cases h
   exact Tri.out 0 rfl ⟨nofun,rfl,rfl⟩
 ·intro e σ' hne hq
  rcases x1 with _ | r
  ·obtain ⟨rfl,rfl⟩ := hq
   refine TriX.exit (K' := [.code [] 2]) rfl ?_
   refine Tri.f 1 [] [.keep [2] []] rfl trivial ?_
   cases h
   exact Tri.ret rfl ⟨.inl rfl,rfl,rfl⟩
  ·obtain ⟨rfl,hq⟩ := hq
   cases h
   exact TriX.ret ⟨.inl rfl,hq⟩
noncomputable def E191 : Env := ⟨Try.prog,tys,(Try.f38.body).getD .skip,16,tysOk,mixedOk⟩
abbrev K103 (r : Bool) (σ' : ASt) : Prop := isRes E191.T Try.f38 (.bool r) [] σ'
noncomputable def l_spec_AllValid_0 (a0 : List Q) (v1 : Int) : Option (Int ⊕ (Unit ⊕ Bool)) :=
bif decide (v1 < (a0.length : Int)) then
(grd (0 ≤ v1 ∧ v1 < (a0.length : Int)) <|
(m_spec_IsValidRat ((a0.getD v1.toNat ⟨0,0⟩).num) ((a0.getD v1.toNat ⟨0,0⟩).den)).bind fun v2 =>
bif !v2 then
(some (.inr (.inr false)))
else
(some (.inl (IntKind.i64.wrap (v1 + 1)))))
else
(some (.inr (.inl ())))
noncomputable def m_spec_AllValid (a0 : List Q) : Option Bool :=
(iter (l_spec_AllValid_0 a0) (0 : Int)).bind fun
| (.inl _) => (
some true)
| (.inr r) => some r
theorem W16 (a0 : List Q) (r : Bool) (h : m_spec_AllValid a0 = some r) : AM.Spec Try.prog 38 [.list (.rats a0)] [] (.bool r) [] := by
 refine spec_of (E := E191) Try.func38 rfl rfl rfl rfl ?_
 refine Tri.f 2 [] [.keep [0,3] []] rfl trivial ?_
 obtain ⟨x1,hk5,h⟩ := bind_some h
 refine Tri.loop (K1 := [.code [(1,0),(1,0),(0,0)] 0]) (K2 := [.blk 0,.code [] 2]) (fun v1 => ⟨[(0,.list (.rats a0)),(3,.i v1)],[]⟩) (fun x e σ' => match x with | (.inl _) => e = .exit 0 ∧ σ' = ⟨[],[]⟩ | (.inr r) => e = .ret ∧ K103 r σ') hk5 rfl rfl ?_ ?_
 ·intro v1 x hs
  clear h
  have h := hs
  clear hs
  refine Tri.f 1 [] [.keep [0,3,7] []] rfl trivial ?_
  rcases bif_some h with ⟨hd1,h⟩ | ⟨hd1,h⟩
  ·obtain ⟨hg2,h⟩ := grd_some h
   obtain ⟨v2,hk3,h⟩ := bind_some h
   refine Tri.f 2 [.g true,.v (.bool v2)] [.keep [0,3,15] []] rfl ⟨fun _ => W9 ((a0.getD v1.toNat ⟨0,0⟩).num) ((a0.getD v1.toNat ⟨0,0⟩).den) v2 hk3,hg2,hd1,trivial⟩ ?_
   rcases bif_some h with ⟨hd4,h⟩ | ⟨hd4,h⟩
   ·refine Tri.f 2 [.g true] [.keep [2] []] rfl ⟨hd4,trivial⟩ ?_
    cases h
    exact Tri.ret rfl ⟨nofun,rfl,rfl,rfl⟩
   ·refine Tri.f 2 [.g false] [.keep [0,3] []] rfl ⟨hd4,trivial⟩ ?_
    cases h
    exact Tri.nil ⟨rfl,rfl⟩
  ·refine Tri.f 1 [.g false] [.keep [] []] rfl ⟨hd1,trivial⟩ ?_
   cases h
   exact Tri.out 0 rfl ⟨nofun,rfl,rfl⟩
 ·intro e σ' hne hq
  rcases x1 with _ | r
  ·obtain ⟨rfl,rfl⟩ := hq
   refine TriX.exit (K' := [.code [] 2]) rfl ?_
   refine Tri.f 1 [] [.keep [2] []] rfl trivial ?_
   cases h
   exact Tri.ret rfl ⟨.inl rfl,rfl,rfl⟩
  ·obtain ⟨rfl,hq⟩ := hq
   cases h
   exact TriX.ret ⟨.inl rfl,hq⟩
noncomputable def E192 : Env := ⟨Try.prog,tys,(Try.f18.body).getD .skip,59,tysOk,mixedOk⟩
abbrev K104 (r : Bool) (σ' : ASt) : Prop := isRes E192.T Try.f18 (.bool r) [] σ'
noncomputable def l_spec_IsValidLP_0 (a0 : List (List Int)) (a2 : List Q) (v1 : Int) : Option (Int ⊕ (Unit ⊕ Bool)) :=
bif decide (v1 < (a0.length : Int)) then
(grd (0 ≤ v1 ∧ v1 < (a0.length : Int)) <|
bif ((a0.getD v1.toNat []).length : Int) != (a2.length : Int) then
(some (.inr (.inr false)))
else
(grd (0 ≤ v1 ∧ v1 < (a0.length : Int)) <|
(m_spec_l5Small (a0.getD v1.toNat [])).bind fun v2 =>
bif !v2 then
(some (.inr (.inr false)))
else
(some (.inl (IntKind.i64.wrap (v1 + 1))))))
else
(some (.inr (.inl ())))
noncomputable def m_spec_IsValidLP (a0 : List (List Int)) (a1 : List Int) (a2 : List Q) : Option Bool :=
(iter (l_spec_IsValidLP_0 a0 a2) (0 : Int)).bind fun
| (.inl _) => (
bif decide ((a2.length : Int) ≤ 70) then
(bif decide ((a0.length : Int) ≤ 8) then
(bif (a1.length : Int) == (a0.length : Int) then
((m_spec_l5Small a1).bind fun v3 =>
bif v3 then
((m_spec_AllValid a2).bind fun v4 =>
some v4)
else
(some false))
else
(some false))
else
(some false))
else
(some false))
| (.inr r) => some r
theorem W17 (a0 : List (List Int)) (a1 : List Int) (a2 : List Q) (r : Bool) (h : m_spec_IsValidLP a0 a1 a2 = some r) : AM.Spec Try.prog 18 [.agg [.list (.intss a0),.list (.ints a1),.list (.rats a2)]] [] (.bool r) [] := by
 refine spec_of (E := E192) Try.func18 rfl rfl rfl rfl ?_
 refine Tri.f 2 [] [.keep [1,3] [1]] rfl trivial ?_
 obtain ⟨x1,hk7,h⟩ := bind_some h
 refine Tri.loop (K1 := [.code [(1,0),(1,0),(0,0)] 0]) (K2 := [.blk 0,.code [] 2]) (fun v1 => ⟨[(1,.ptr 1 0),(3,.i v1)],[(1,.box [.list (.intss a0),.list (.ints a1),.list (.rats a2)])]⟩) (fun x e σ' => match x with | (.inl _) => e = .exit 0 ∧ σ' = ⟨[(1,.ptr 1 0)],[(1,.box [.list (.intss a0),.list (.ints a1),.list (.rats a2)])]⟩ | (.inr r) => e = .ret ∧ K104 r σ') hk7 rfl rfl ?_ ?_
 ·intro v1 x hs
  clear h
  have h := hs
  clear hs
  refine Tri.f 1 [] [.keep [1,3,8] [1]] rfl trivial ?_
  rcases bif_some h with ⟨hd1,h⟩ | ⟨hd1,h⟩
  ·obtain ⟨hg2,h⟩ := grd_some h
   rcases bif_some h with ⟨hd3,h⟩ | ⟨hd3,h⟩
   ·refine Tri.f 2 [.g true,.g true] [.keep [1,3,29] [1]] rfl ⟨hd3,hg2,hd1,trivial⟩ ?_
    refine Tri.f 2 [.g true] [.keep [2] []] rfl ⟨rfl,trivial⟩ ?_
    cases h
    exact Tri.ret rfl ⟨nofun,rfl,rfl,rfl⟩
   ·obtain ⟨hg4,h⟩ := grd_some h
    obtain ⟨v2,hk5,h⟩ := bind_some h
    refine Tri.f 2 [.g true,.g false,.v (.bool v2)] [.keep [1,3,29] [1]] rfl ⟨fun _ => W15 (a0.getD v1.toNat []) v2 hk5,hg4,hd3,hg2,hd1,trivial⟩ ?_
    rcases bif_some h with ⟨hd6,h⟩ | ⟨hd6,h⟩
    ·refine Tri.f 2 [.g true] [.keep [2] []] rfl ⟨hd6,trivial⟩ ?_
     cases h
     exact Tri.ret rfl ⟨nofun,rfl,rfl,rfl⟩
    ·refine Tri.f 2 [.g false] [.keep [1,3] [1]] rfl ⟨hd6,trivial⟩ ?_
     cases h
     exact Tri.nil ⟨rfl,rfl⟩
  ·refine Tri.f 1 [.g false] [.keep [1] [1]] rfl ⟨hd1,trivial⟩ ?_
   cases h
   exact Tri.out 0 rfl ⟨nofun,rfl,rfl⟩
 ·intro e σ' hne hq
  rcases x1 with _ | r
  ·obtain ⟨rfl,rfl⟩ := hq
   refine TriX.exit (K' := [.code [] 2]) rfl ?_
   rcases bif_some h with ⟨hd8,h⟩ | ⟨hd8,h⟩
   ·rcases bif_some h with ⟨hd9,h⟩ | ⟨hd9,h⟩
    ·rcases bif_some h with ⟨hd10,h⟩ | ⟨hd10,h⟩
     ·obtain ⟨v3,hk11,h⟩ := bind_some h
      rcases bif_some h with ⟨hd12,h⟩ | ⟨hd12,h⟩
      ·obtain ⟨v4,hk13,h⟩ := bind_some h
       refine Tri.f 1 [.g true,.g true,.g true,.v (.bool v3),.g true,.v (.bool v4)] [.keep [2] []] rfl ⟨fun _ => W16 a2 v4 hk13,hd12,fun _ => W15 a1 v3 hk11,hd10,hd9,hd8,trivial⟩ ?_
       cases h
       exact Tri.ret rfl ⟨.inl rfl,rfl,rfl⟩
      ·refine Tri.f 1 [.g true,.g true,.g true,.v (.bool v3),.g false] [.keep [2] []] rfl ⟨hd12,fun _ => W15 a1 v3 hk11,hd10,hd9,hd8,trivial⟩ ?_
       cases h
       exact Tri.ret rfl ⟨.inl rfl,rfl,rfl⟩
     ·refine Tri.f 1 [.g true,.g true,.g false,.g false] [.keep [2] []] rfl ⟨rfl,hd10,hd9,hd8,trivial⟩ ?_
      cases h
      exact Tri.ret rfl ⟨.inl rfl,rfl,rfl⟩
    ·refine Tri.f 1 [.g true,.g false,.g false,.g false] [.keep [2] []] rfl ⟨rfl,rfl,hd9,hd8,trivial⟩ ?_
     cases h
     exact Tri.ret rfl ⟨.inl rfl,rfl,rfl⟩
   ·refine Tri.f 1 [.g false,.g false,.g false,.g false] [.keep [2] []] rfl ⟨rfl,rfl,rfl,hd8,trivial⟩ ?_
    cases h
    exact Tri.ret rfl ⟨.inl rfl,rfl,rfl⟩
  ·obtain ⟨rfl,hq⟩ := hq
   cases h
   exact TriX.ret ⟨.inl rfl,hq⟩
noncomputable def E193 : Env := ⟨Try.prog,tys,(Try.f19.body).getD .skip,94,tysOk,mixedOk⟩
abbrev K105 (r : Int × (List (List Q)) × (List Int)) (σ' : ASt) : Prop := isRes E193.T Try.f19 (.agg [.sl 1000 0,.sl 1001 0,.i r.1]) [(1000,.arr 26 0 0 (.ratss r.2.1)),(1001,.arr 3 0 0 (.ints r.2.2))] σ'
noncomputable def l_spec_StartTableau_1 (a0 : List (List Int)) (a2 : List Q) (v2 : Int) : (Int × (List Q)) → Option ((Int × (List Q)) ⊕ ((List Q)))
 | (v5,v6) => (
bif decide (v5 < (a2.length : Int)) then
(grd (0 ≤ v2 ∧ v2 < (a0.length : Int)) <|
grd (0 ≤ v5 ∧ v5 < ((a0.getD v2.toNat []).length : Int)) <|
(m_spec_l3Int (IntKind.i64.wrap ((-1 : Int) * ((a0.getD v2.toNat []).getD v5.toNat 0)))).bind fun (v7,v8) =>
grd (v6.length + ([⟨v7,v8⟩] : List Q).length ≤ room) <|
some (.inl (IntKind.i64.wrap (v5 + 1),v6 ++ [⟨v7,v8⟩])))
else
(some (.inr v6)))
noncomputable def l_spec_StartTableau_2 (a0 : List (List Int)) (v2 : Int) : (Int × (List Q)) → Option ((Int × (List Q)) ⊕ ((List Q)))
 | (v10,v11) => (
bif decide (v10 < (a0.length : Int)) then
((m_spec_l1Bit (v10 == v2)).bind fun v12 =>
(m_spec_l3Int v12).bind fun (v13,v14) =>
grd (v11.length + ([⟨v13,v14⟩] : List Q).length ≤ room) <|
some (.inl (IntKind.i64.wrap (v10 + 1),v11 ++ [⟨v13,v14⟩])))
else
(some (.inr v11)))
noncomputable def l_spec_StartTableau_3 (a0 : List (List Int)) (a2 : List Q) (v2 : Int) : (Int × (List Q)) → Option ((Int × (List Q)) ⊕ ((List Q)))
 | (v18,v19) => (
bif decide (v18 < (a2.length : Int)) then
(grd (0 ≤ v2 ∧ v2 < (a0.length : Int)) <|
grd (0 ≤ v18 ∧ v18 < ((a0.getD v2.toNat []).length : Int)) <|
(m_spec_l3Int (IntKind.i64.wrap ((1 : Int) * ((a0.getD v2.toNat []).getD v18.toNat 0)))).bind fun (v20,v21) =>
grd (v19.length + ([⟨v20,v21⟩] : List Q).length ≤ room) <|
some (.inl (IntKind.i64.wrap (v18 + 1),v19 ++ [⟨v20,v21⟩])))
else
(some (.inr v19)))
noncomputable def l_spec_StartTableau_4 (a0 : List (List Int)) (v2 : Int) : (Int × (List Q)) → Option ((Int × (List Q)) ⊕ ((List Q)))
 | (v23,v24) => (
bif decide (v23 < (a0.length : Int)) then
((m_spec_l1Bit (v23 == v2)).bind fun v25 =>
(m_spec_l3Int v25).bind fun (v26,v27) =>
grd (v24.length + ([⟨v26,v27⟩] : List Q).length ≤ room) <|
some (.inl (IntKind.i64.wrap (v23 + 1),v24 ++ [⟨v26,v27⟩])))
else
(some (.inr v24)))
noncomputable def l_spec_StartTableau_0 (a0 : List (List Int)) (a1 : List Int) (a2 : List Q) : (Int × (List (List Q)) × (List Int)) → Option ((Int × (List (List Q)) × (List Int)) ⊕ (((List (List Q)) × (List Int))))
 | (v2,v3,v4) => (
bif decide (v2 < (a0.length : Int)) then
(grd (0 ≤ v2 ∧ v2 < (a1.length : Int)) <|
bif decide ((a1.getD v2.toNat 0) < 0) then
((iter (l_spec_StartTableau_1 a0 a2 v2) ((0 : Int),[])).bind fun
| v9 => (
(iter (l_spec_StartTableau_2 a0 v2) ((0 : Int),v9)).bind fun
| v15 => (
grd (0 ≤ v2 ∧ v2 < (a1.length : Int)) <|
(m_spec_l3Int (IntKind.i64.wrap ((-1 : Int) * (a1.getD v2.toNat 0)))).bind fun (v16,v17) =>
grd (v15.length + ([⟨v16,v17⟩] : List Q).length ≤ room) <|
grd (v3.length + ([v15 ++ [⟨v16,v17⟩]] : List (List Q)).length ≤ room) <|
grd (v4.length + ([IntKind.i64.wrap ((a2.length : Int) + v2)] : List Int).length ≤ room) <|
some (.inl (IntKind.i64.wrap (v2 + 1),v3 ++ [v15 ++ [⟨v16,v17⟩]],v4 ++ [IntKind.i64.wrap ((a2.length : Int) + v2)])))))
else
((iter (l_spec_StartTableau_3 a0 a2 v2) ((0 : Int),[])).bind fun
| v22 => (
(iter (l_spec_StartTableau_4 a0 v2) ((0 : Int),v22)).bind fun
| v28 => (
grd (0 ≤ v2 ∧ v2 < (a1.length : Int)) <|
(m_spec_l3Int (IntKind.i64.wrap ((1 : Int) * (a1.getD v2.toNat 0)))).bind fun (v29,v30) =>
grd (v28.length + ([⟨v29,v30⟩] : List Q).length ≤ room) <|
grd (v3.length + ([v28 ++ [⟨v29,v30⟩]] : List (List Q)).length ≤ room) <|
grd (v4.length + ([IntKind.i64.wrap ((a2.length : Int) + v2)] : List Int).length ≤ room) <|
some (.inl (IntKind.i64.wrap (v2 + 1),v3 ++ [v28 ++ [⟨v29,v30⟩]],v4 ++ [IntKind.i64.wrap ((a2.length : Int) + v2)]))))))
else
(some (.inr (v3,v4))))
noncomputable def m_spec_StartTableau (a0 : List (List Int)) (a1 : List Int) (a2 : List Q) : Option (Int × (List (List Q)) × (List Int)) :=
(m_spec_IsValidLP a0 a1 a2).bind fun v1 =>
bif !v1 then
(some (0,[],[]))
else
((iter (l_spec_StartTableau_0 a0 a1 a2) ((0 : Int),[],[])).bind fun
| (v31,v32) => (
some ((a2.length : Int),v31,v32)))
theorem W18 (a0 : List (List Int)) (a1 : List Int) (a2 : List Q) (r : Int × (List (List Q)) × (List Int)) (h : m_spec_StartTableau a0 a1 a2 = some r) : AM.Spec Try.prog 19 [.agg [.list (.intss a0),.list (.ints a1),.list (.rats a2)]] [] (.agg [.sl 1000 0,.sl 1001 0,.i r.1]) [(1000,.arr 26 0 0 (.ratss r.2.1)),(1001,.arr 3 0 0 (.ints r.2.2))] := by
 refine spec_of (E := E193) Try.func19 rfl rfl rfl rfl ?_
 refine Tri.f 1 [] [.keep [1,2] [1,2],.ownc 2 0 1100 26,.ownc 2 1 1101 3,.keep [1,2] [1,2,1100,1101]] rfl trivial ?_
 obtain ⟨v1,hk1,h⟩ := bind_some h
 refine Tri.f 1 [.v (.bool v1)] [.keep [1,2,11] [1,2,1100,1101]] rfl ⟨fun _ => W17 a0 a1 a2 v1 hk1,trivial⟩ ?_
 rcases bif_some h with ⟨hd2,h⟩ | ⟨hd2,h⟩
 ·refine Tri.f 2 [.g true] [.ownc 2 0 1102 26,.ownc 2 1 1103 3,.swap 1102 1000,.swap 1103 1001,.keep [2] [2,1000,1001]] rfl ⟨hd2,trivial⟩ ?_
  cases h
  exact Tri.ret rfl ⟨.inl rfl,rfl,rfl⟩
 ·refine Tri.f 3 [.g false] [.ownc 3 0 1104 26,.ownc 3 1 1105 3,.keep [1,2,3,4] [1,2,3,1100,1101,1104,1105]] rfl ⟨hd2,trivial⟩ ?_
  obtain ⟨x5,hk38,h⟩ := bind_some h
  refine Tri.loop (K1 := [.code [(3,0),(1,0),(0,0)] 0]) (K2 := [.blk 0,.code [] 4]) (fun (v2,v3,v4) => ⟨[(1,.ptr 1 0),(2,.ptr 2 0),(3,.ptr 3 0),(4,.i v2)],[(1,.box [.list (.intss a0),.list (.ints a1),.list (.rats a2)]),(2,.box [.sl 1100 0,.sl 1101 0,.i 0]),(3,.box [.sl 1104 0,.sl 1105 0,.i (a2.length : Int)]),(1100,.arr 26 0 0 (.ratss [])),(1101,.arr 3 0 0 (.ints [])),(1104,.arr 26 0 0 (.ratss v3)),(1105,.arr 3 0 0 (.ints v4))]⟩) (fun x e σ' => match x with | (v31,v32) => e = .exit 0 ∧ σ' = ⟨[(2,.ptr 2 0),(3,.ptr 3 0)],[(2,.box [.sl 1100 0,.sl 1101 0,.i 0]),(3,.box [.sl 1104 0,.sl 1105 0,.i (a2.length : Int)]),(1100,.arr 26 0 0 (.ratss [])),(1101,.arr 3 0 0 (.ints [])),(1104,.arr 26 0 0 (.ratss v31)),(1105,.arr 3 0 0 (.ints v32))]⟩) hk38 rfl rfl ?_ ?_
  ·intro s x hs
   clear h
   have h := hs
   clear hs
   obtain ⟨v2,v3,v4⟩ := s
   refine Tri.f 1 [] [.keep [1,2,3,4,21] [1,2,3,1100,1101,1104,1105]] rfl trivial ?_
   rcases bif_some h with ⟨hd3,h⟩ | ⟨hd3,h⟩
   ·obtain ⟨hg4,h⟩ := grd_some h
    refine Tri.f 3 [.g true] [.keep [1,2,3,4,5,29] [1,2,3,1100,1101,1104,1105]] rfl ⟨hg4,hd3,trivial⟩ ?_
    rcases bif_some h with ⟨hd5,h⟩ | ⟨hd5,h⟩
    ·refine Tri.f 3 [.g true] [.keep [1,2,3,4,5,6] [1,2,3,30,1100,1101,1104,1105]] rfl ⟨hd5,trivial⟩ ?_
     refine Tri.f 1 [] [.keep [1,2,3,4,5,6,7] [1,2,3,30,1100,1101,1104,1105]] rfl trivial ?_
     obtain ⟨v9,hk11,h⟩ := bind_some h
     refine Tri.loop (K1 := [.code [(3,0),(1,0),(0,0),(1,0),(0,0),(3,0),(1,0),(0,0)] 0]) (K2 := [.blk 2,.code [(3,0),(1,0),(0,0),(1,0),(0,0)] 4,.blk 1,.code [(3,0),(1,0),(0,0)] 2]) (fun (v5,v6) => ⟨[(1,.ptr 1 0),(2,.ptr 2 0),(3,.ptr 3 0),(4,.i v2),(5,.i (-1 : Int)),(6,.sl 30 0),(7,.i v5)],[(1,.box [.list (.intss a0),.list (.ints a1),.list (.rats a2)]),(2,.box [.sl 1100 0,.sl 1101 0,.i 0]),(3,.box [.sl 1104 0,.sl 1105 0,.i (a2.length : Int)]),(30,.arr 32 0 0 (.rats v6)),(1100,.arr 26 0 0 (.ratss [])),(1101,.arr 3 0 0 (.ints [])),(1104,.arr 26 0 0 (.ratss v3)),(1105,.arr 3 0 0 (.ints v4))]⟩) (fun x e σ' => match x with | v9 => e = .exit 2 ∧ σ' = ⟨[(1,.ptr 1 0),(2,.ptr 2 0),(3,.ptr 3 0),(4,.i v2),(5,.i (-1 : Int)),(6,.sl 30 0)],[(1,.box [.list (.intss a0),.list (.ints a1),.list (.rats a2)]),(2,.box [.sl 1100 0,.sl 1101 0,.i 0]),(3,.box [.sl 1104 0,.sl 1105 0,.i (a2.length : Int)]),(30,.arr 32 0 0 (.rats v9)),(1100,.arr 26 0 0 (.ratss [])),(1101,.arr 3 0 0 (.ints [])),(1104,.arr 26 0 0 (.ratss v3)),(1105,.arr 3 0 0 (.ints v4))]⟩) hk11 rfl rfl ?_ ?_
     ·intro s x hs
      clear h
      have h := hs
      clear hs
      obtain ⟨v5,v6⟩ := s
      refine Tri.f 1 [] [.keep [1,2,3,4,5,6,7,35] [1,2,3,30,1100,1101,1104,1105]] rfl trivial ?_
      rcases bif_some h with ⟨hd6,h⟩ | ⟨hd6,h⟩
      ·obtain ⟨hg7,h⟩ := grd_some h
       obtain ⟨hg8,h⟩ := grd_some h
       obtain ⟨⟨v7,v8⟩,hk9,h⟩ := bind_some h
       obtain ⟨hg10,h⟩ := grd_some h
       refine Tri.f 3 [.g true,.v (.agg [.i v7,.i v8])] [.rever 30,.keep [1,2,3,4,5,6,7] [1,2,3,30,1100,1101,1104,1105]] rfl ⟨hg10,fun _ => W12 (IntKind.i64.wrap ((-1 : Int) * ((a0.getD v2.toNat []).getD v5.toNat 0))) (v7,v8) hk9,hg8,hg7,hd6,trivial⟩ ?_
       cases h
       exact Tri.nil ⟨rfl,rfl⟩
      ·refine Tri.f 1 [.g false] [.keep [1,2,3,4,5,6] [1,2,3,30,1100,1101,1104,1105]] rfl ⟨hd6,trivial⟩ ?_
       cases h
       exact Tri.out 2 rfl ⟨nofun,rfl,rfl⟩
     ·intro e σ' hne hq
      obtain ⟨rfl,rfl⟩ := hq
      refine TriX.exit (K' := [.code [(3,0),(1,0),(0,0),(1,0),(0,0)] 4,.blk 1,.code [(3,0),(1,0),(0,0)] 2]) rfl ?_
      refine Tri.f 1 [] [.keep [1,2,3,4,5,6,8] [1,2,3,30,1100,1101,1104,1105]] rfl trivial ?_
      obtain ⟨v15,hk16,h⟩ := bind_some h
      refine Tri.loop (K1 := [.code [(3,0),(1,0),(0,0),(1,0),(0,0),(4,0),(1,0),(0,0)] 0]) (K2 := [.blk 4,.code [(3,0),(1,0),(0,0),(1,0),(0,0)] 5,.blk 1,.code [(3,0),(1,0),(0,0)] 2]) (fun (v10,v11) => ⟨[(1,.ptr 1 0),(2,.ptr 2 0),(3,.ptr 3 0),(4,.i v2),(5,.i (-1 : Int)),(6,.sl 30 0),(8,.i v10)],[(1,.box [.list (.intss a0),.list (.ints a1),.list (.rats a2)]),(2,.box [.sl 1100 0,.sl 1101 0,.i 0]),(3,.box [.sl 1104 0,.sl 1105 0,.i (a2.length : Int)]),(30,.arr 32 0 0 (.rats v11)),(1100,.arr 26 0 0 (.ratss [])),(1101,.arr 3 0 0 (.ints [])),(1104,.arr 26 0 0 (.ratss v3)),(1105,.arr 3 0 0 (.ints v4))]⟩) (fun x e σ' => match x with | v15 => e = .exit 4 ∧ σ' = ⟨[(1,.ptr 1 0),(2,.ptr 2 0),(3,.ptr 3 0),(4,.i v2),(5,.i (-1 : Int)),(6,.sl 30 0)],[(1,.box [.list (.intss a0),.list (.ints a1),.list (.rats a2)]),(2,.box [.sl 1100 0,.sl 1101 0,.i 0]),(3,.box [.sl 1104 0,.sl 1105 0,.i (a2.length : Int)]),(30,.arr 32 0 0 (.rats v15)),(1100,.arr 26 0 0 (.ratss [])),(1101,.arr 3 0 0 (.ints [])),(1104,.arr 26 0 0 (.ratss v3)),(1105,.arr 3 0 0 (.ints v4))]⟩) hk16 rfl rfl ?_ ?_
      ·intro s x hs
       clear h
       have h := hs
       clear hs
       obtain ⟨v10,v11⟩ := s
       refine Tri.f 1 [] [.keep [1,2,3,4,5,6,8,56] [1,2,3,30,1100,1101,1104,1105]] rfl trivial ?_
       rcases bif_some h with ⟨hd12,h⟩ | ⟨hd12,h⟩
       ·obtain ⟨v12,hk13,h⟩ := bind_some h
        obtain ⟨⟨v13,v14⟩,hk14,h⟩ := bind_some h
        obtain ⟨hg15,h⟩ := grd_some h
        refine Tri.f 3 [.g true,.v (.i v12),.v (.agg [.i v13,.i v14])] [.rever 30,.keep [1,2,3,4,5,6,8] [1,2,3,30,1100,1101,1104,1105]] rfl ⟨hg15,fun _ => W12 v12 (v13,v14) hk14,fun _ => W11 (v10 == v2) v12 hk13,hd12,trivial⟩ ?_
        cases h
        exact Tri.nil ⟨rfl,rfl⟩
       ·refine Tri.f 1 [.g false] [.keep [1,2,3,4,5,6] [1,2,3,30,1100,1101,1104,1105]] rfl ⟨hd12,trivial⟩ ?_
        cases h
        exact Tri.out 4 rfl ⟨nofun,rfl,rfl⟩
      ·intro e σ' hne hq
       obtain ⟨rfl,rfl⟩ := hq
       refine TriX.exit (K' := [.code [(3,0),(1,0),(0,0),(1,0),(0,0)] 5,.blk 1,.code [(3,0),(1,0),(0,0)] 2]) rfl ?_
       obtain ⟨hg17,h⟩ := grd_some h
       obtain ⟨⟨v16,v17⟩,hk18,h⟩ := bind_some h
       obtain ⟨hg19,h⟩ := grd_some h
       obtain ⟨hg20,h⟩ := grd_some h
       obtain ⟨hg21,h⟩ := grd_some h
       refine Tri.f 3 [.v (.agg [.i v16,.i v17])] [.rever 1104,.rever 1105,.keep [1,2,3,4] [1,2,3,1100,1101,1104,1105]] rfl ⟨hg21,hg20,hg19,fun _ => W12 (IntKind.i64.wrap ((-1 : Int) * (a1.getD v2.toNat 0))) (v16,v17) hk18,hg17,trivial⟩ ?_
       cases h
       exact Tri.nil ⟨rfl,rfl⟩
    ·refine Tri.f 3 [.g false] [.keep [1,2,3,4,5,6,7] [1,2,3,30,1100,1101,1104,1105]] rfl ⟨hd5,trivial⟩ ?_
     obtain ⟨v22,hk27,h⟩ := bind_some h
     refine Tri.loop (K1 := [.code [(3,0),(1,0),(0,0),(1,0),(0,0),(3,0),(1,0),(0,0)] 0]) (K2 := [.blk 2,.code [(3,0),(1,0),(0,0),(1,0),(0,0)] 4,.blk 1,.code [(3,0),(1,0),(0,0)] 2]) (fun (v18,v19) => ⟨[(1,.ptr 1 0),(2,.ptr 2 0),(3,.ptr 3 0),(4,.i v2),(5,.i (1 : Int)),(6,.sl 30 0),(7,.i v18)],[(1,.box [.list (.intss a0),.list (.ints a1),.list (.rats a2)]),(2,.box [.sl 1100 0,.sl 1101 0,.i 0]),(3,.box [.sl 1104 0,.sl 1105 0,.i (a2.length : Int)]),(30,.arr 32 0 0 (.rats v19)),(1100,.arr 26 0 0 (.ratss [])),(1101,.arr 3 0 0 (.ints [])),(1104,.arr 26 0 0 (.ratss v3)),(1105,.arr 3 0 0 (.ints v4))]⟩) (fun x e σ' => match x with | v22 => e = .exit 2 ∧ σ' = ⟨[(1,.ptr 1 0),(2,.ptr 2 0),(3,.ptr 3 0),(4,.i v2),(5,.i (1 : Int)),(6,.sl 30 0)],[(1,.box [.list (.intss a0),.list (.ints a1),.list (.rats a2)]),(2,.box [.sl 1100 0,.sl 1101 0,.i 0]),(3,.box [.sl 1104 0,.sl 1105 0,.i (a2.length : Int)]),(30,.arr 32 0 0 (.rats v22)),(1100,.arr 26 0 0 (.ratss [])),(1101,.arr 3 0 0 (.ints [])),(1104,.arr 26 0 0 (.ratss v3)),(1105,.arr 3 0 0 (.ints v4))]⟩) hk27 rfl rfl ?_ ?_
     ·intro s x hs
      clear h
      have h := hs
      clear hs
      obtain ⟨v18,v19⟩ := s
      refine Tri.f 1 [] [.keep [1,2,3,4,5,6,7,35] [1,2,3,30,1100,1101,1104,1105]] rfl trivial ?_
      rcases bif_some h with ⟨hd22,h⟩ | ⟨hd22,h⟩
      ·obtain ⟨hg23,h⟩ := grd_some h
       obtain ⟨hg24,h⟩ := grd_some h
       obtain ⟨⟨v20,v21⟩,hk25,h⟩ := bind_some h
       obtain ⟨hg26,h⟩ := grd_some h
       refine Tri.f 3 [.g true,.v (.agg [.i v20,.i v21])] [.rever 30,.keep [1,2,3,4,5,6,7] [1,2,3,30,1100,1101,1104,1105]] rfl ⟨hg26,fun _ => W12 (IntKind.i64.wrap ((1 : Int) * ((a0.getD v2.toNat []).getD v18.toNat 0))) (v20,v21) hk25,hg24,hg23,hd22,trivial⟩ ?_
       cases h
       exact Tri.nil ⟨rfl,rfl⟩
      ·refine Tri.f 1 [.g false] [.keep [1,2,3,4,5,6] [1,2,3,30,1100,1101,1104,1105]] rfl ⟨hd22,trivial⟩ ?_
       cases h
       exact Tri.out 2 rfl ⟨nofun,rfl,rfl⟩
     ·intro e σ' hne hq
      obtain ⟨rfl,rfl⟩ := hq
      refine TriX.exit (K' := [.code [(3,0),(1,0),(0,0),(1,0),(0,0)] 4,.blk 1,.code [(3,0),(1,0),(0,0)] 2]) rfl ?_
      refine Tri.f 1 [] [.keep [1,2,3,4,5,6,8] [1,2,3,30,1100,1101,1104,1105]] rfl trivial ?_
      obtain ⟨v28,hk32,h⟩ := bind_some h
      refine Tri.loop (K1 := [.code [(3,0),(1,0),(0,0),(1,0),(0,0),(4,0),(1,0),(0,0)] 0]) (K2 := [.blk 4,.code [(3,0),(1,0),(0,0),(1,0),(0,0)] 5,.blk 1,.code [(3,0),(1,0),(0,0)] 2]) (fun (v23,v24) => ⟨[(1,.ptr 1 0),(2,.ptr 2 0),(3,.ptr 3 0),(4,.i v2),(5,.i (1 : Int)),(6,.sl 30 0),(8,.i v23)],[(1,.box [.list (.intss a0),.list (.ints a1),.list (.rats a2)]),(2,.box [.sl 1100 0,.sl 1101 0,.i 0]),(3,.box [.sl 1104 0,.sl 1105 0,.i (a2.length : Int)]),(30,.arr 32 0 0 (.rats v24)),(1100,.arr 26 0 0 (.ratss [])),(1101,.arr 3 0 0 (.ints [])),(1104,.arr 26 0 0 (.ratss v3)),(1105,.arr 3 0 0 (.ints v4))]⟩) (fun x e σ' => match x with | v28 => e = .exit 4 ∧ σ' = ⟨[(1,.ptr 1 0),(2,.ptr 2 0),(3,.ptr 3 0),(4,.i v2),(5,.i (1 : Int)),(6,.sl 30 0)],[(1,.box [.list (.intss a0),.list (.ints a1),.list (.rats a2)]),(2,.box [.sl 1100 0,.sl 1101 0,.i 0]),(3,.box [.sl 1104 0,.sl 1105 0,.i (a2.length : Int)]),(30,.arr 32 0 0 (.rats v28)),(1100,.arr 26 0 0 (.ratss [])),(1101,.arr 3 0 0 (.ints [])),(1104,.arr 26 0 0 (.ratss v3)),(1105,.arr 3 0 0 (.ints v4))]⟩) hk32 rfl rfl ?_ ?_
      ·intro s x hs
       clear h
       have h := hs
       clear hs
       obtain ⟨v23,v24⟩ := s
       refine Tri.f 1 [] [.keep [1,2,3,4,5,6,8,56] [1,2,3,30,1100,1101,1104,1105]] rfl trivial ?_
       rcases bif_some h with ⟨hd28,h⟩ | ⟨hd28,h⟩
       ·obtain ⟨v25,hk29,h⟩ := bind_some h
        obtain ⟨⟨v26,v27⟩,hk30,h⟩ := bind_some h
        obtain ⟨hg31,h⟩ := grd_some h
        refine Tri.f 3 [.g true,.v (.i v25),.v (.agg [.i v26,.i v27])] [.rever 30,.keep [1,2,3,4,5,6,8] [1,2,3,30,1100,1101,1104,1105]] rfl ⟨hg31,fun _ => W12 v25 (v26,v27) hk30,fun _ => W11 (v23 == v2) v25 hk29,hd28,trivial⟩ ?_
        cases h
        exact Tri.nil ⟨rfl,rfl⟩
       ·refine Tri.f 1 [.g false] [.keep [1,2,3,4,5,6] [1,2,3,30,1100,1101,1104,1105]] rfl ⟨hd28,trivial⟩ ?_
        cases h
        exact Tri.out 4 rfl ⟨nofun,rfl,rfl⟩
      ·intro e σ' hne hq
       obtain ⟨rfl,rfl⟩ := hq
       refine TriX.exit (K' := [.code [(3,0),(1,0),(0,0),(1,0),(0,0)] 5,.blk 1,.code [(3,0),(1,0),(0,0)] 2]) rfl ?_
       obtain ⟨hg33,h⟩ := grd_some h
       obtain ⟨⟨v29,v30⟩,hk34,h⟩ := bind_some h
       obtain ⟨hg35,h⟩ := grd_some h
       obtain ⟨hg36,h⟩ := grd_some h
       obtain ⟨hg37,h⟩ := grd_some h
       refine Tri.f 3 [.v (.agg [.i v29,.i v30])] [.rever 1104,.rever 1105,.keep [1,2,3,4] [1,2,3,1100,1101,1104,1105]] rfl ⟨hg37,hg36,hg35,fun _ => W12 (IntKind.i64.wrap ((1 : Int) * (a1.getD v2.toNat 0))) (v29,v30) hk34,hg33,trivial⟩ ?_
       cases h
       exact Tri.nil ⟨rfl,rfl⟩
   ·refine Tri.f 1 [.g false] [.keep [2,3] [2,3,1100,1101,1104,1105]] rfl ⟨hd3,trivial⟩ ?_
    cases h
    exact Tri.out 0 rfl ⟨nofun,rfl,rfl⟩
  ·intro e σ' hne hq
   obtain ⟨v31,v32⟩ := x5
   obtain ⟨rfl,rfl⟩ := hq
   refine TriX.exit (K' := [.code [] 4]) rfl ?_
   refine Tri.f 1 [] [.swap 1104 1000,.swap 1105 1001,.keep [2] [2,1000,1001]] rfl trivial ?_
   cases h
   exact Tri.ret rfl ⟨.inl rfl,rfl,rfl⟩
noncomputable def E194 : Env := ⟨Try.prog,tys,(Try.f42.body).getD .skip,43,tysOk,mixedOk⟩
abbrev K106 (r : List Q) (σ' : ASt) : Prop := isRes E194.T Try.f42 (.sl 1000 0) [(1000,.arr 32 0 0 (.rats r))] σ'
noncomputable def l_spec_l7Costs_0 (a2 : List Q) (a3 : Bool) : (Int × (List Q)) → Option ((Int × (List Q)) ⊕ ((List Q)))
 | (v1,v2) => (
bif decide (v1 < (a2.length : Int)) then
(bif a3 then
((m_spec_l3Int (0 : Int)).bind fun (v3,v4) =>
grd (v2.length + ([⟨v3,v4⟩] : List Q).length ≤ room) <|
some (.inl (IntKind.i64.wrap (v1 + 1),v2 ++ [⟨v3,v4⟩])))
else
(grd (0 ≤ v1 ∧ v1 < (a2.length : Int)) <|
grd (v2.length + ([⟨(a2.getD v1.toNat ⟨0,0⟩).num,(a2.getD v1.toNat ⟨0,0⟩).den⟩] : List Q).length ≤ room) <|
some (.inl (IntKind.i64.wrap (v1 + 1),v2 ++ [⟨(a2.getD v1.toNat ⟨0,0⟩).num,(a2.getD v1.toNat ⟨0,0⟩).den⟩]))))
else
(some (.inr v2)))
noncomputable def l_spec_l7Costs_1 (a0 : List (List Int)) (a3 : Bool) : (Int × (List Q)) → Option ((Int × (List Q)) ⊕ ((List Q)))
 | (v6,v7) => (
bif decide (v6 < (a0.length : Int)) then
((m_spec_l1Bit a3).bind fun v8 =>
(m_spec_l3Int v8).bind fun (v9,v10) =>
grd (v7.length + ([⟨v9,v10⟩] : List Q).length ≤ room) <|
some (.inl (IntKind.i64.wrap (v6 + 1),v7 ++ [⟨v9,v10⟩])))
else
(some (.inr v7)))
noncomputable def m_spec_l7Costs (a0 : List (List Int)) (_a1 : List Int) (a2 : List Q) (a3 : Bool) : Option (List Q) :=
(iter (l_spec_l7Costs_0 a2 a3) ((0 : Int),[])).bind fun
| v5 => (
(iter (l_spec_l7Costs_1 a0 a3) ((0 : Int),v5)).bind fun
| v11 => (
some v11))
theorem W19 (a0 : List (List Int)) (a1 : List Int) (a2 : List Q) (a3 : Bool) (r : List Q) (h : m_spec_l7Costs a0 a1 a2 a3 = some r) : AM.Spec Try.prog 42 [.agg [.list (.intss a0),.list (.ints a1),.list (.rats a2)],.bool a3] [] (.sl 1000 0) [(1000,.arr 32 0 0 (.rats r))] := by
 refine spec_of (E := E194) Try.func42 rfl rfl rfl rfl ?_
 refine Tri.f 3 [] [.keep [1,2,5,6] [2,8]] rfl trivial ?_
 obtain ⟨v5,hk7,h⟩ := bind_some h
 refine Tri.loop (K1 := [.code [(2,0),(1,0),(0,0)] 0]) (K2 := [.blk 0,.code [] 3]) (fun (v1,v2) => ⟨[(1,.bool a3),(2,.ptr 2 0),(5,.sl 8 0),(6,.i v1)],[(2,.box [.list (.intss a0),.list (.ints a1),.list (.rats a2)]),(8,.arr 32 0 0 (.rats v2))]⟩) (fun x e σ' => match x with | v5 => e = .exit 0 ∧ σ' = ⟨[(1,.bool a3),(2,.ptr 2 0),(5,.sl 8 0)],[(2,.box [.list (.intss a0),.list (.ints a1),.list (.rats a2)]),(8,.arr 32 0 0 (.rats v5))]⟩) hk7 rfl rfl ?_ ?_
 ·intro s x hs
  clear h
  have h := hs
  clear hs
  obtain ⟨v1,v2⟩ := s
  refine Tri.f 1 [] [.keep [1,2,5,6,13] [2,8]] rfl trivial ?_
  rcases bif_some h with ⟨hd1,h⟩ | ⟨hd1,h⟩
  ·refine Tri.f 2 [.g true] [.keep [1,2,5,6,16] [2,8]] rfl ⟨hd1,trivial⟩ ?_
   rcases bif_some h with ⟨hd2,h⟩ | ⟨hd2,h⟩
   ·obtain ⟨⟨v3,v4⟩,hk3,h⟩ := bind_some h
    obtain ⟨hg4,h⟩ := grd_some h
    refine Tri.f 3 [.g true,.v (.agg [.i v3,.i v4])] [.rever 8,.keep [1,2,5,6] [2,8]] rfl ⟨hg4,fun _ => W12 (0 : Int) (v3,v4) hk3,hd2,trivial⟩ ?_
    cases h
    exact Tri.nil ⟨rfl,rfl⟩
   ·obtain ⟨hg5,h⟩ := grd_some h
    obtain ⟨hg6,h⟩ := grd_some h
    refine Tri.f 3 [.g false] [.rever 8,.keep [1,2,5,6] [2,8]] rfl ⟨hg6,hg5,hd2,trivial⟩ ?_
    cases h
    exact Tri.nil ⟨rfl,rfl⟩
  ·refine Tri.f 1 [.g false] [.keep [1,2,5] [2,8]] rfl ⟨hd1,trivial⟩ ?_
   cases h
   exact Tri.out 0 rfl ⟨nofun,rfl,rfl⟩
 ·intro e σ' hne hq
  obtain ⟨rfl,rfl⟩ := hq
  refine TriX.exit (K' := [.code [] 3]) rfl ?_
  refine Tri.f 1 [] [.keep [1,2,5,7] [2,8]] rfl trivial ?_
  obtain ⟨v11,hk12,h⟩ := bind_some h
  refine Tri.loop (K1 := [.code [(3,0),(1,0),(0,0)] 0]) (K2 := [.blk 2,.code [] 4]) (fun (v6,v7) => ⟨[(1,.bool a3),(2,.ptr 2 0),(5,.sl 8 0),(7,.i v6)],[(2,.box [.list (.intss a0),.list (.ints a1),.list (.rats a2)]),(8,.arr 32 0 0 (.rats v7))]⟩) (fun x e σ' => match x with | v11 => e = .exit 2 ∧ σ' = ⟨[(5,.sl 8 0)],[(8,.arr 32 0 0 (.rats v11))]⟩) hk12 rfl rfl ?_ ?_
  ·intro s x hs
   clear h
   have h := hs
   clear hs
   obtain ⟨v6,v7⟩ := s
   refine Tri.f 1 [] [.keep [1,2,5,7,33] [2,8]] rfl trivial ?_
   rcases bif_some h with ⟨hd8,h⟩ | ⟨hd8,h⟩
   ·obtain ⟨v8,hk9,h⟩ := bind_some h
    obtain ⟨⟨v9,v10⟩,hk10,h⟩ := bind_some h
    obtain ⟨hg11,h⟩ := grd_some h
    refine Tri.f 3 [.g true,.v (.i v8),.v (.agg [.i v9,.i v10])] [.rever 8,.keep [1,2,5,7] [2,8]] rfl ⟨hg11,fun _ => W12 v8 (v9,v10) hk10,fun _ => W11 a3 v8 hk9,hd8,trivial⟩ ?_
    cases h
    exact Tri.nil ⟨rfl,rfl⟩
   ·refine Tri.f 1 [.g false] [.keep [5] [8]] rfl ⟨hd8,trivial⟩ ?_
    cases h
    exact Tri.out 2 rfl ⟨nofun,rfl,rfl⟩
  ·intro e σ' hne hq
   obtain ⟨rfl,rfl⟩ := hq
   refine TriX.exit (K' := [.code [] 4]) rfl ?_
   refine Tri.f 1 [] [.swap 8 1000,.keep [4] [1000]] rfl trivial ?_
   cases h
   exact Tri.ret rfl ⟨.inl rfl,rfl,rfl⟩
noncomputable def E195 : Env := ⟨Try.prog,tys,(Try.f75.body).getD .skip,54,tysOk,mixedOk⟩
abbrev K107 (r : Bool) (σ' : ASt) : Prop := isRes E195.T Try.f75 (.bool r) [] σ'
noncomputable def l_spec_l6Good_0 (a0 : List (List Q)) (a1 : List Int) (a2 v1 : Int) : Option (Int ⊕ (Unit ⊕ Bool)) :=
bif decide (v1 < (a0.length : Int)) then
(grd (0 ≤ v1 ∧ v1 < (a0.length : Int)) <|
bif ((a0.getD v1.toNat []).length : Int) != (IntKind.i64.wrap ((IntKind.i64.wrap (a2 + (a0.length : Int))) + 1)) then
(some (.inr (.inr false)))
else
(grd (0 ≤ v1 ∧ v1 < (a1.length : Int)) <|
(m_spec_l1In (a1.getD v1.toNat 0) (0 : Int) (IntKind.i64.wrap ((IntKind.i64.wrap (a2 + (a0.length : Int))) - 1))).bind fun v2 =>
bif !v2 then
(some (.inr (.inr false)))
else
(some (.inl (IntKind.i64.wrap (v1 + 1))))))
else
(some (.inr (.inl ())))
noncomputable def m_spec_l6Good (a0 : List (List Q)) (a1 : List Int) (a2 : Int) : Option Bool :=
bif decide (a2 < 0) then
(some false)
else
(bif decide (a2 > 1000) then
(some false)
else
(bif (a1.length : Int) != (a0.length : Int) then
(some false)
else
((iter (l_spec_l6Good_0 a0 a1 a2) (0 : Int)).bind fun
| (.inl _) => (
some true)
| (.inr r) => some r)))
theorem W20 (a0 : List (List Q)) (a1 : List Int) (a2 : Int) (r : Bool) (h : m_spec_l6Good a0 a1 a2 = some r) : AM.Spec Try.prog 75 [.agg [.list (.ratss a0),.list (.ints a1),.i a2]] [] (.bool r) [] := by
 refine spec_of (E := E195) Try.func75 rfl rfl rfl rfl ?_
 refine Tri.f 2 [] [.keep [1,3] [1]] rfl trivial ?_
 rcases bif_some h with ⟨hd1,h⟩ | ⟨hd1,h⟩
 ·refine Tri.f 1 [.g true,.g true] [.keep [1,3,22] [1]] rfl ⟨rfl,hd1,trivial⟩ ?_
  refine Tri.f 2 [.g true] [.keep [2] []] rfl ⟨rfl,trivial⟩ ?_
  cases h
  exact Tri.ret rfl ⟨.inl rfl,rfl,rfl⟩
 ·rcases bif_some h with ⟨hd2,h⟩ | ⟨hd2,h⟩
  ·refine Tri.f 1 [.g false,.g true] [.keep [1,3,22] [1]] rfl ⟨hd2,hd1,trivial⟩ ?_
   refine Tri.f 2 [.g true] [.keep [2] []] rfl ⟨rfl,trivial⟩ ?_
   cases h
   exact Tri.ret rfl ⟨.inl rfl,rfl,rfl⟩
  ·refine Tri.f 1 [.g false,.g false] [.keep [1,3,22] [1]] rfl ⟨hd2,hd1,trivial⟩ ?_
   rcases bif_some h with ⟨hd3,h⟩ | ⟨hd3,h⟩
   ·refine Tri.f 2 [.g true] [.keep [2] []] rfl ⟨hd3,trivial⟩ ?_
    cases h
    exact Tri.ret rfl ⟨.inl rfl,rfl,rfl⟩
   ·refine Tri.f 2 [.g false] [.keep [1,3,4] [1]] rfl ⟨hd3,trivial⟩ ?_
    obtain ⟨x1,hk10,h⟩ := bind_some h
    refine Tri.loop (K1 := [.code [(3,0),(1,0),(0,0)] 0]) (K2 := [.blk 0,.code [] 4]) (fun v1 => ⟨[(1,.ptr 1 0),(3,.i (a0.length : Int)),(4,.i v1)],[(1,.box [.list (.ratss a0),.list (.ints a1),.i a2])]⟩) (fun x e σ' => match x with | (.inl _) => e = .exit 0 ∧ σ' = ⟨[],[]⟩ | (.inr r) => e = .ret ∧ K107 r σ') hk10 rfl rfl ?_ ?_
    ·intro v1 x hs
     clear h
     have h := hs
     clear hs
     refine Tri.f 1 [] [.keep [1,3,4,25] [1]] rfl trivial ?_
     rcases bif_some h with ⟨hd4,h⟩ | ⟨hd4,h⟩
     ·obtain ⟨hg5,h⟩ := grd_some h
      rcases bif_some h with ⟨hd6,h⟩ | ⟨hd6,h⟩
      ·refine Tri.f 2 [.g true,.g true] [.keep [1,3,4,53] [1]] rfl ⟨hd6,hg5,hd4,trivial⟩ ?_
       refine Tri.f 2 [.g true] [.keep [2] []] rfl ⟨rfl,trivial⟩ ?_
       cases h
       exact Tri.ret rfl ⟨nofun,rfl,rfl,rfl⟩
      ·obtain ⟨hg7,h⟩ := grd_some h
       obtain ⟨v2,hk8,h⟩ := bind_some h
       refine Tri.f 2 [.g true,.g false,.v (.bool v2)] [.keep [1,3,4,53] [1]] rfl ⟨fun _ => W7 (a1.getD v1.toNat 0) (0 : Int) (IntKind.i64.wrap ((IntKind.i64.wrap (a2 + (a0.length : Int))) - 1)) v2 hk8,hg7,hd6,hg5,hd4,trivial⟩ ?_
       rcases bif_some h with ⟨hd9,h⟩ | ⟨hd9,h⟩
       ·refine Tri.f 2 [.g true] [.keep [2] []] rfl ⟨hd9,trivial⟩ ?_
        cases h
        exact Tri.ret rfl ⟨nofun,rfl,rfl,rfl⟩
       ·refine Tri.f 2 [.g false] [.keep [1,3,4] [1]] rfl ⟨hd9,trivial⟩ ?_
        cases h
        exact Tri.nil ⟨rfl,rfl⟩
     ·refine Tri.f 1 [.g false] [.keep [] []] rfl ⟨hd4,trivial⟩ ?_
      cases h
      exact Tri.out 0 rfl ⟨nofun,rfl,rfl⟩
    ·intro e σ' hne hq
     rcases x1 with _ | r
     ·obtain ⟨rfl,rfl⟩ := hq
      refine TriX.exit (K' := [.code [] 4]) rfl ?_
      refine Tri.f 1 [] [.keep [2] []] rfl trivial ?_
      cases h
      exact Tri.ret rfl ⟨.inl rfl,rfl,rfl⟩
     ·obtain ⟨rfl,hq⟩ := hq
      cases h
      exact TriX.ret ⟨.inl rfl,hq⟩
noncomputable def E196 : Env := ⟨Try.prog,tys,(Try.f22.body).getD .skip,6,tysOk,mixedOk⟩
abbrev K108 (r : List Q) (σ' : ASt) : Prop := isRes E196.T Try.f22 (.sl 1000 0) [(1000,.arr 32 0 0 (.rats r))] σ'
noncomputable def m_spec_l4Copy (a0 : List Q) : Option (List Q) :=
grd (([] : List Q).length + a0.length ≤ room) <|
some ([] ++ a0)
theorem W21 (a0 r : List Q) (h : m_spec_l4Copy a0 = some r) : AM.Spec Try.prog 22 [.list (.rats a0)] [] (.sl 1000 0) [(1000,.arr 32 0 0 (.rats r))] := by
 refine spec_of (E := E196) Try.func22 rfl rfl rfl rfl ?_
 obtain ⟨hg1,h⟩ := grd_some h
 refine Tri.f 2 [] [.rever 3,.swap 3 1000,.keep [2] [1000]] rfl ⟨hg1,trivial⟩ ?_
 cases h
 exact Tri.ret rfl ⟨.inl rfl,rfl,rfl⟩
noncomputable def E197 : Env := ⟨Try.prog,tys,(Try.f77.body).getD .skip,28,tysOk,mixedOk⟩
abbrev K109 (r : Int × Int × Bool) (σ' : ASt) : Prop := isRes E197.T Try.f77 (.tuple [.agg [.i r.1,.i r.2.1],.bool r.2.2]) [] σ'
noncomputable def m_spec_MulRat (a0 a1 a2 a3 : Int) : Option (Int × Int × Bool) :=
(m_spec_IsValidRat a0 a1).bind fun v1 =>
bif !v1 then
(some (0,0,false))
else
((m_spec_IsValidRat a2 a3).bind fun v2 =>
bif !v2 then
(some (0,0,false))
else
((m_spec_RatOf (IntKind.i64.wrap (a0 * a2)) (IntKind.i64.wrap (a1 * a3))).bind fun (v3,v4,v5) =>
some (v3,v4,v5)))
theorem W22 (a0 a1 a2 a3 : Int) (r : Int × Int × Bool) (h : m_spec_MulRat a0 a1 a2 a3 = some r) : AM.Spec Try.prog 77 [.agg [.i a0,.i a1],.agg [.i a2,.i a3]] [] (.tuple [.agg [.i r.1,.i r.2.1],.bool r.2.2]) [] := by
 refine spec_of (E := E197) Try.func77 rfl rfl rfl rfl ?_
 refine Tri.f 1 [] [.keep [2,3,4] [2,3,4]] rfl trivial ?_
 obtain ⟨v1,hk1,h⟩ := bind_some h
 rcases bif_some h with ⟨hd2,h⟩ | ⟨hd2,h⟩
 ·refine Tri.f 1 [.v (.bool v1),.g true] [.keep [2,3,4,13] [2,3,4]] rfl ⟨hd2,fun _ => W9 a0 a1 v1 hk1,trivial⟩ ?_
  refine Tri.f 2 [.g true] [.keep [4,5] [4]] rfl ⟨rfl,trivial⟩ ?_
  cases h
  exact Tri.ret rfl ⟨.inl rfl,rfl,rfl⟩
 ·obtain ⟨v2,hk3,h⟩ := bind_some h
  refine Tri.f 1 [.v (.bool v1),.g false,.v (.bool v2)] [.keep [2,3,4,13] [2,3,4]] rfl ⟨fun _ => W9 a2 a3 v2 hk3,hd2,fun _ => W9 a0 a1 v1 hk1,trivial⟩ ?_
  rcases bif_some h with ⟨hd4,h⟩ | ⟨hd4,h⟩
  ·refine Tri.f 2 [.g true] [.keep [4,5] [4]] rfl ⟨hd4,trivial⟩ ?_
   cases h
   exact Tri.ret rfl ⟨.inl rfl,rfl,rfl⟩
  ·obtain ⟨⟨v3,v4,v5⟩,hk5,h⟩ := bind_some h
   refine Tri.f 2 [.g false,.v (.tuple [.agg [.i v3,.i v4],.bool v5])] [.keep [4,5] [4]] rfl ⟨fun _ => W10 (IntKind.i64.wrap (a0 * a2)) (IntKind.i64.wrap (a1 * a3)) (v3,v4,v5) hk5,hd4,trivial⟩ ?_
   cases h
   exact Tri.ret rfl ⟨.inl rfl,rfl,rfl⟩
noncomputable def E198 : Env := ⟨Try.prog,tys,(Try.f78.body).getD .skip,34,tysOk,mixedOk⟩
abbrev K110 (r : Int × Int × Bool) (σ' : ASt) : Prop := isRes E198.T Try.f78 (.tuple [.agg [.i r.1,.i r.2.1],.bool r.2.2]) [] σ'
noncomputable def m_spec_AddRat (a0 a1 a2 a3 : Int) : Option (Int × Int × Bool) :=
(m_spec_IsValidRat a0 a1).bind fun v1 =>
bif !v1 then
(some (0,0,false))
else
((m_spec_IsValidRat a2 a3).bind fun v2 =>
bif !v2 then
(some (0,0,false))
else
((m_spec_RatOf (IntKind.i64.wrap ((IntKind.i64.wrap (a0 * a3)) + (IntKind.i64.wrap (a2 * a1)))) (IntKind.i64.wrap (a1 * a3))).bind fun (v3,v4,v5) =>
some (v3,v4,v5)))
theorem W23 (a0 a1 a2 a3 : Int) (r : Int × Int × Bool) (h : m_spec_AddRat a0 a1 a2 a3 = some r) : AM.Spec Try.prog 78 [.agg [.i a0,.i a1],.agg [.i a2,.i a3]] [] (.tuple [.agg [.i r.1,.i r.2.1],.bool r.2.2]) [] := by
 refine spec_of (E := E198) Try.func78 rfl rfl rfl rfl ?_
 refine Tri.f 1 [] [.keep [2,3,4] [2,3,4]] rfl trivial ?_
 obtain ⟨v1,hk1,h⟩ := bind_some h
 rcases bif_some h with ⟨hd2,h⟩ | ⟨hd2,h⟩
 ·refine Tri.f 1 [.v (.bool v1),.g true] [.keep [2,3,4,13] [2,3,4]] rfl ⟨hd2,fun _ => W9 a0 a1 v1 hk1,trivial⟩ ?_
  refine Tri.f 2 [.g true] [.keep [4,5] [4]] rfl ⟨rfl,trivial⟩ ?_
  cases h
  exact Tri.ret rfl ⟨.inl rfl,rfl,rfl⟩
 ·obtain ⟨v2,hk3,h⟩ := bind_some h
  refine Tri.f 1 [.v (.bool v1),.g false,.v (.bool v2)] [.keep [2,3,4,13] [2,3,4]] rfl ⟨fun _ => W9 a2 a3 v2 hk3,hd2,fun _ => W9 a0 a1 v1 hk1,trivial⟩ ?_
  rcases bif_some h with ⟨hd4,h⟩ | ⟨hd4,h⟩
  ·refine Tri.f 2 [.g true] [.keep [4,5] [4]] rfl ⟨hd4,trivial⟩ ?_
   cases h
   exact Tri.ret rfl ⟨.inl rfl,rfl,rfl⟩
  ·obtain ⟨⟨v3,v4,v5⟩,hk5,h⟩ := bind_some h
   refine Tri.f 2 [.g false,.v (.tuple [.agg [.i v3,.i v4],.bool v5])] [.keep [4,5] [4]] rfl ⟨fun _ => W10 (IntKind.i64.wrap ((IntKind.i64.wrap (a0 * a3)) + (IntKind.i64.wrap (a2 * a1)))) (IntKind.i64.wrap (a1 * a3)) (v3,v4,v5) hk5,hd4,trivial⟩ ?_
   cases h
   exact Tri.ret rfl ⟨.inl rfl,rfl,rfl⟩
noncomputable def E199 : Env := ⟨Try.prog,tys,(Try.f84.body).getD .skip,57,tysOk,mixedOk⟩
abbrev K111 (r : Bool × (List Q)) (σ' : ASt) : Prop := isRes E199.T Try.f84 (.tuple [.sl 1000 0,.bool r.1]) [(1000,.arr 32 0 0 (.rats r.2))] σ'
noncomputable def l_spec_AddScaled_0 (a0 : List Q) (a1 a2 : Int) (a3 : List Q) : (Int × (List Q)) → Option ((Int × (List Q)) ⊕ ((List Q) ⊕ ((Bool × (List Q)))))
 | (v1,v2) => (
bif decide (v1 < (a0.length : Int)) then
(grd (0 ≤ v1 ∧ v1 < (a3.length : Int)) <|
(m_spec_MulRat a1 a2 ((a3.getD v1.toNat ⟨0,0⟩).num) ((a3.getD v1.toNat ⟨0,0⟩).den)).bind fun (v3,v4,v5) =>
grd (0 ≤ v1 ∧ v1 < (a0.length : Int)) <|
(m_spec_AddRat ((a0.getD v1.toNat ⟨0,0⟩).num) ((a0.getD v1.toNat ⟨0,0⟩).den) v3 v4).bind fun (v6,v7,v8) =>
bif !v5 then
(some (.inr (.inr (false,[]))))
else
(bif !v8 then
(some (.inr (.inr (false,[]))))
else
(grd (v2.length + ([⟨v6,v7⟩] : List Q).length ≤ room) <|
some (.inl (IntKind.i64.wrap (v1 + 1),v2 ++ [⟨v6,v7⟩])))))
else
(some (.inr (.inl v2))))
noncomputable def m_spec_AddScaled (a0 : List Q) (a1 a2 : Int) (a3 : List Q) : Option (Bool × (List Q)) :=
bif (a0.length : Int) != (a3.length : Int) then
(some (false,[]))
else
((iter (l_spec_AddScaled_0 a0 a1 a2 a3) ((0 : Int),[])).bind fun
| (.inl v9) => (
some (true,v9))
| (.inr r) => some r)
theorem W24 (a0 : List Q) (a1 a2 : Int) (a3 : List Q) (r : Bool × (List Q)) (h : m_spec_AddScaled a0 a1 a2 a3 = some r) : AM.Spec Try.prog 84 [.list (.rats a0),.agg [.i a1,.i a2],.list (.rats a3)] [] (.tuple [.sl 1000 0,.bool r.1]) [(1000,.arr 32 0 0 (.rats r.2))] := by
 refine spec_of (E := E199) Try.func84 rfl rfl rfl rfl ?_
 refine Tri.f 3 [] [.keep [0,2,4,8,19] [4,14]] rfl trivial ?_
 rcases bif_some h with ⟨hd1,h⟩ | ⟨hd1,h⟩
 ·refine Tri.f 2 [.g true] [.swap 14 1000,.keep [6,7] [1000]] rfl ⟨hd1,trivial⟩ ?_
  cases h
  exact Tri.ret rfl ⟨.inl rfl,rfl,rfl⟩
 ·refine Tri.f 2 [.g false] [.keep [0,2,4,8,9] [4,14]] rfl ⟨hd1,trivial⟩ ?_
  obtain ⟨x1,hk10,h⟩ := bind_some h
  refine Tri.loop (K1 := [.code [(3,0),(1,0),(0,0)] 0]) (K2 := [.blk 0,.code [] 4]) (fun (v1,v2) => ⟨[(0,.list (.rats a0)),(2,.list (.rats a3)),(4,.ptr 4 0),(8,.sl 14 0),(9,.i v1)],[(4,.box [.i a1,.i a2]),(14,.arr 32 0 0 (.rats v2))]⟩) (fun x e σ' => match x with | (.inl v9) => e = .exit 0 ∧ σ' = ⟨[(8,.sl 14 0)],[(14,.arr 32 0 0 (.rats v9))]⟩ | (.inr r) => e = .ret ∧ K111 r σ') hk10 rfl rfl ?_ ?_
  ·intro s x hs
   clear h
   have h := hs
   clear hs
   obtain ⟨v1,v2⟩ := s
   refine Tri.f 1 [] [.keep [0,2,4,8,9,24] [4,14]] rfl trivial ?_
   rcases bif_some h with ⟨hd2,h⟩ | ⟨hd2,h⟩
   ·obtain ⟨hg3,h⟩ := grd_some h
    obtain ⟨⟨v3,v4,v5⟩,hk4,h⟩ := bind_some h
    refine Tri.f 2 [.g true,.v (.tuple [.agg [.i v3,.i v4],.bool v5])] [.keep [0,2,4,8,9,10,11] [4,10,14]] rfl ⟨fun _ => W22 a1 a2 ((a3.getD v1.toNat ⟨0,0⟩).num) ((a3.getD v1.toNat ⟨0,0⟩).den) (v3,v4,v5) hk4,hg3,hd2,trivial⟩ ?_
    obtain ⟨hg5,h⟩ := grd_some h
    obtain ⟨⟨v6,v7,v8⟩,hk6,h⟩ := bind_some h
    rcases bif_some h with ⟨hd7,h⟩ | ⟨hd7,h⟩
    ·refine Tri.f 2 [.v (.tuple [.agg [.i v6,.i v7],.bool v8]),.g true] [.keep [0,2,4,8,9,12,50] [4,12,14]] rfl ⟨hd7,fun _ => W23 ((a0.getD v1.toNat ⟨0,0⟩).num) ((a0.getD v1.toNat ⟨0,0⟩).den) v3 v4 (v6,v7,v8) hk6,hg5,trivial⟩ ?_
     refine Tri.f 2 [.g true] [.swap 51 1000,.keep [6,7] [1000]] rfl ⟨rfl,trivial⟩ ?_
     cases h
     exact Tri.ret rfl ⟨nofun,rfl,rfl,rfl⟩
    ·refine Tri.f 2 [.v (.tuple [.agg [.i v6,.i v7],.bool v8]),.g false] [.keep [0,2,4,8,9,12,50] [4,12,14]] rfl ⟨hd7,fun _ => W23 ((a0.getD v1.toNat ⟨0,0⟩).num) ((a0.getD v1.toNat ⟨0,0⟩).den) v3 v4 (v6,v7,v8) hk6,hg5,trivial⟩ ?_
     rcases bif_some h with ⟨hd8,h⟩ | ⟨hd8,h⟩
     ·refine Tri.f 2 [.g true] [.swap 51 1000,.keep [6,7] [1000]] rfl ⟨hd8,trivial⟩ ?_
      cases h
      exact Tri.ret rfl ⟨nofun,rfl,rfl,rfl⟩
     ·obtain ⟨hg9,h⟩ := grd_some h
      refine Tri.f 3 [.g false] [.rever 14,.keep [0,2,4,8,9] [4,14]] rfl ⟨hg9,hd8,trivial⟩ ?_
      cases h
      exact Tri.nil ⟨rfl,rfl⟩
   ·refine Tri.f 1 [.g false] [.keep [8] [14]] rfl ⟨hd2,trivial⟩ ?_
    cases h
    exact Tri.out 0 rfl ⟨nofun,rfl,rfl⟩
  ·intro e σ' hne hq
   rcases x1 with v9 | r
   ·obtain ⟨rfl,rfl⟩ := hq
    refine TriX.exit (K' := [.code [] 4]) rfl ?_
    refine Tri.f 1 [] [.swap 14 1000,.keep [6,7] [1000]] rfl trivial ?_
    cases h
    exact Tri.ret rfl ⟨.inl rfl,rfl,rfl⟩
   ·obtain ⟨rfl,hq⟩ := hq
    cases h
    exact TriX.ret ⟨.inl rfl,hq⟩
noncomputable def E200 : Env := ⟨Try.prog,tys,(Try.f69.body).getD .skip,75,tysOk,mixedOk⟩
abbrev K112 (r : Bool × (List Q)) (σ' : ASt) : Prop := isRes E200.T Try.f69 (.tuple [.sl 1000 0,.bool r.1]) [(1000,.arr 32 0 0 (.rats r.2))] σ'
noncomputable def l_spec_CostRow_0 (a0 : List (List Q)) (a1 : List Int) (a3 : List Q) : (Bool × Int × (List Q)) → Option ((Bool × Int × (List Q)) ⊕ ((Bool × (List Q))))
 | (v6,v7,v8) => (
bif decide (v7 < (a0.length : Int)) then
(bif v6 then
(grd (0 ≤ v7 ∧ v7 < (a1.length : Int)) <|
grd (0 ≤ a1.getD v7.toNat 0 ∧ a1.getD v7.toNat 0 < (a3.length : Int)) <|
grd (0 ≤ v7 ∧ v7 < (a1.length : Int)) <|
grd (0 ≤ a1.getD v7.toNat 0 ∧ a1.getD v7.toNat 0 < (a3.length : Int)) <|
grd (0 ≤ v7 ∧ v7 < (a0.length : Int)) <|
(m_spec_AddScaled v8 (IntKind.i64.wrap (0 - ((a3.getD ((a1.getD v7.toNat 0).toNat) ⟨0,0⟩).num))) ((a3.getD ((a1.getD v7.toNat 0).toNat) ⟨0,0⟩).den) (a0.getD v7.toNat [])).bind fun (v9,v10) =>
some (.inl (v9,IntKind.i64.wrap (v7 + 1),v10)))
else
(some (.inr (v6,v8))))
else
(some (.inr (v6,v8))))
noncomputable def m_spec_CostRow (a0 : List (List Q)) (a1 : List Int) (a2 : Int) (a3 : List Q) : Option (Bool × (List Q)) :=
(m_spec_l6Good a0 a1 a2).bind fun v1 =>
bif !v1 then
(some (false,[]))
else
(bif (a3.length : Int) != (IntKind.i64.wrap (a2 + (a0.length : Int))) then
(some (false,[]))
else
((m_spec_l4Copy a3).bind fun v2 =>
(m_spec_l3Int (0 : Int)).bind fun (v3,v4) =>
grd (v2.length + ([⟨v3,v4⟩] : List Q).length ≤ room) <|
(m_spec_AllValid a3).bind fun v5 =>
(iter (l_spec_CostRow_0 a0 a1 a3) (v5,(0 : Int),v2 ++ [⟨v3,v4⟩])).bind fun
| (v11,v12) => (
bif !v11 then
(some (false,[]))
else
(some (true,v12)))))
theorem W25 (a0 : List (List Q)) (a1 : List Int) (a2 : Int) (a3 : List Q) (r : Bool × (List Q)) (h : m_spec_CostRow a0 a1 a2 a3 = some r) : AM.Spec Try.prog 69 [.agg [.list (.ratss a0),.list (.ints a1),.i a2],.list (.rats a3)] [] (.tuple [.sl 1000 0,.bool r.1]) [(1000,.arr 32 0 0 (.rats r.2))] := by
 refine spec_of (E := E200) Try.func69 rfl rfl rfl rfl ?_
 refine Tri.f 1 [] [.keep [1,2] [2]] rfl trivial ?_
 obtain ⟨v1,hk1,h⟩ := bind_some h
 rcases bif_some h with ⟨hd2,h⟩ | ⟨hd2,h⟩
 ·refine Tri.f 1 [.v (.bool v1),.g true] [.keep [1,2,22] [2]] rfl ⟨hd2,fun _ => W20 a0 a1 a2 v1 hk1,trivial⟩ ?_
  refine Tri.f 2 [.g true] [.swap 23 1000,.keep [4,5] [1000]] rfl ⟨rfl,trivial⟩ ?_
  cases h
  exact Tri.ret rfl ⟨.inl rfl,rfl,rfl⟩
 ·refine Tri.f 1 [.v (.bool v1),.g false] [.keep [1,2,22] [2]] rfl ⟨hd2,fun _ => W20 a0 a1 a2 v1 hk1,trivial⟩ ?_
  rcases bif_some h with ⟨hd3,h⟩ | ⟨hd3,h⟩
  ·refine Tri.f 2 [.g true] [.swap 23 1000,.keep [4,5] [1000]] rfl ⟨hd3,trivial⟩ ?_
   cases h
   exact Tri.ret rfl ⟨.inl rfl,rfl,rfl⟩
  ·obtain ⟨v2,hk4,h⟩ := bind_some h
   obtain ⟨⟨v3,v4⟩,hk5,h⟩ := bind_some h
   obtain ⟨hg6,h⟩ := grd_some h
   refine Tri.f 2 [.g false,.r ⟨[],.sl 1100 0,[(1100,.arr 32 0 0 (.rats v2))]⟩,.v (.agg [.i v3,.i v4])] [.keep [1,2,6] [2,1100],.rever 1100,.keep [1,2,6] [2,1100]] rfl ⟨hg6,fun _ => W12 (0 : Int) (v3,v4) hk5,fun _ => (W21 a3 v2 hk4).swap 1000 1100,hd3,trivial⟩ ?_
   obtain ⟨v5,hk7,h⟩ := bind_some h
   refine Tri.f 2 [.v (.bool v5)] [.keep [1,2,6,7,8] [2,1100]] rfl ⟨fun _ => W16 a3 v5 hk7,trivial⟩ ?_
   obtain ⟨x1,hk16,h⟩ := bind_some h
   refine Tri.loop (K1 := [.code [(4,0),(1,0),(0,0)] 0]) (K2 := [.blk 0,.code [] 5]) (fun (v6,v7,v8) => ⟨[(1,.list (.rats a3)),(2,.ptr 2 0),(6,.sl 1100 0),(7,.bool v6),(8,.i v7)],[(2,.box [.list (.ratss a0),.list (.ints a1),.i a2]),(1100,.arr 32 0 0 (.rats v8))]⟩) (fun x e σ' => match x with | (v11,v12) => e = .exit 0 ∧ σ' = ⟨[(6,.sl 1100 0),(7,.bool v11)],[(1100,.arr 32 0 0 (.rats v12))]⟩) hk16 rfl rfl ?_ ?_
   ·intro s x hs
    clear h
    have h := hs
    clear hs
    obtain ⟨v6,v7,v8⟩ := s
    rcases bif_some h with ⟨hd8,h⟩ | ⟨hd8,h⟩
    ·refine Tri.f 1 [.g true] [.keep [1,2,6,7,8,38] [2,1100]] rfl ⟨hd8,trivial⟩ ?_
     rcases bif_some h with ⟨hd9,h⟩ | ⟨hd9,h⟩
     ·obtain ⟨hg10,h⟩ := grd_some h
      obtain ⟨hg11,h⟩ := grd_some h
      obtain ⟨hg12,h⟩ := grd_some h
      obtain ⟨hg13,h⟩ := grd_some h
      obtain ⟨hg14,h⟩ := grd_some h
      obtain ⟨⟨v9,v10⟩,hk15,h⟩ := bind_some h
      refine Tri.f 3 [.g true,.r ⟨[],.tuple [.sl 1101 0,.bool v9],[(1101,.arr 32 0 0 (.rats v10))]⟩] [.swap 1101 1100,.keep [1,2,6,7,8] [2,1100]] rfl ⟨fun _ => (W24 v8 (IntKind.i64.wrap (0 - ((a3.getD ((a1.getD v7.toNat 0).toNat) ⟨0,0⟩).num))) ((a3.getD ((a1.getD v7.toNat 0).toNat) ⟨0,0⟩).den) (a0.getD v7.toNat []) (v9,v10) hk15).swap 1000 1101,hg14,hg13,hg12,hg11,hg10,hd9,trivial⟩ ?_
      cases h
      exact Tri.nil ⟨rfl,rfl⟩
     ·refine Tri.f 1 [.g false] [.keep [6,7] [1100]] rfl ⟨hd9,trivial⟩ ?_
      cases h
      exact Tri.out 0 rfl ⟨nofun,rfl,rfl⟩
    ·refine Tri.f 1 [.g false] [.keep [1,2,6,7,8,38] [2,1100]] rfl ⟨hd8,trivial⟩ ?_
     refine Tri.f 1 [.g false] [.keep [6,7] [1100]] rfl ⟨rfl,trivial⟩ ?_
     cases h
     exact Tri.out 0 rfl ⟨nofun,rfl,rfl⟩
   ·intro e σ' hne hq
    obtain ⟨v11,v12⟩ := x1
    obtain ⟨rfl,rfl⟩ := hq
    refine TriX.exit (K' := [.code [] 5]) rfl ?_
    refine Tri.f 1 [] [.keep [6,72] [1100]] rfl trivial ?_
    rcases bif_some h with ⟨hd17,h⟩ | ⟨hd17,h⟩
    ·refine Tri.f 2 [.g true] [.swap 73 1000,.keep [4,5] [1000]] rfl ⟨hd17,trivial⟩ ?_
     cases h
     exact Tri.ret rfl ⟨.inl rfl,rfl,rfl⟩
    ·refine Tri.f 2 [.g false] [.swap 1100 1000,.keep [4,5] [1000]] rfl ⟨hd17,trivial⟩ ?_
     cases h
     exact Tri.ret rfl ⟨.inl rfl,rfl,rfl⟩
noncomputable def E201 : Env := ⟨Try.prog,tys,(Try.f73.body).getD .skip,33,tysOk,mixedOk⟩
abbrev K113 (r : Int) (σ' : ASt) : Prop := isRes E201.T Try.f73 (.i r) [] σ'
noncomputable def m_spec_CompareRat (a0 a1 a2 a3 : Int) : Option Int :=
(m_spec_IsValidRat a0 a1).bind fun v1 =>
bif !v1 then
(some (0 : Int))
else
((m_spec_IsValidRat a2 a3).bind fun v2 =>
bif !v2 then
(some (0 : Int))
else
(bif decide ((IntKind.i64.wrap (a0 * a3)) < (IntKind.i64.wrap (a2 * a1))) then
(some (-1 : Int))
else
(bif decide ((IntKind.i64.wrap (a0 * a3)) > (IntKind.i64.wrap (a2 * a1))) then
(some (1 : Int))
else
(some (0 : Int)))))
theorem W26 (a0 a1 a2 a3 r : Int) (h : m_spec_CompareRat a0 a1 a2 a3 = some r) : AM.Spec Try.prog 73 [.agg [.i a0,.i a1],.agg [.i a2,.i a3]] [] (.i r) [] := by
 refine spec_of (E := E201) Try.func73 rfl rfl rfl rfl ?_
 refine Tri.f 1 [] [.keep [2,3] [2,3]] rfl trivial ?_
 obtain ⟨v1,hk1,h⟩ := bind_some h
 rcases bif_some h with ⟨hd2,h⟩ | ⟨hd2,h⟩
 ·refine Tri.f 1 [.v (.bool v1),.g true] [.keep [2,3,14] [2,3]] rfl ⟨hd2,fun _ => W9 a0 a1 v1 hk1,trivial⟩ ?_
  refine Tri.f 2 [.g true] [.keep [4] []] rfl ⟨rfl,trivial⟩ ?_
  cases h
  exact Tri.ret rfl ⟨.inl rfl,rfl,rfl⟩
 ·obtain ⟨v2,hk3,h⟩ := bind_some h
  refine Tri.f 1 [.v (.bool v1),.g false,.v (.bool v2)] [.keep [2,3,14] [2,3]] rfl ⟨fun _ => W9 a2 a3 v2 hk3,hd2,fun _ => W9 a0 a1 v1 hk1,trivial⟩ ?_
  rcases bif_some h with ⟨hd4,h⟩ | ⟨hd4,h⟩
  ·refine Tri.f 2 [.g true] [.keep [4] []] rfl ⟨hd4,trivial⟩ ?_
   cases h
   exact Tri.ret rfl ⟨.inl rfl,rfl,rfl⟩
  ·refine Tri.f 3 [.g false] [.keep [5,6] []] rfl ⟨hd4,trivial⟩ ?_
   refine Tri.f 1 [] [.keep [5,6,25] []] rfl trivial ?_
   rcases bif_some h with ⟨hd5,h⟩ | ⟨hd5,h⟩
   ·refine Tri.f 2 [.g true] [.keep [4] []] rfl ⟨hd5,trivial⟩ ?_
    cases h
    exact Tri.ret rfl ⟨.inl rfl,rfl,rfl⟩
   ·refine Tri.f 2 [.g false] [.keep [29] []] rfl ⟨hd5,trivial⟩ ?_
    rcases bif_some h with ⟨hd6,h⟩ | ⟨hd6,h⟩
    ·refine Tri.f 2 [.g true] [.keep [4] []] rfl ⟨hd6,trivial⟩ ?_
     cases h
     exact Tri.ret rfl ⟨.inl rfl,rfl,rfl⟩
    ·refine Tri.f 2 [.g false] [.keep [4] []] rfl ⟨hd6,trivial⟩ ?_
     cases h
     exact Tri.ret rfl ⟨.inl rfl,rfl,rfl⟩
noncomputable def E202 : Env := ⟨Try.prog,tys,(Try.f43.body).getD .skip,6,tysOk,mixedOk⟩
abbrev K114 (r : Int) (σ' : ASt) : Prop := isRes E202.T Try.f43 (.i r) [] σ'
noncomputable def m_spec_l3Sign (a0 a1 : Int) : Option Int :=
(m_spec_l3Int (0 : Int)).bind fun (v1,v2) =>
(m_spec_CompareRat a0 a1 v1 v2).bind fun v3 =>
some v3
theorem W27 (a0 a1 r : Int) (h : m_spec_l3Sign a0 a1 = some r) : AM.Spec Try.prog 43 [.agg [.i a0,.i a1]] [] (.i r) [] := by
 refine spec_of (E := E202) Try.func43 rfl rfl rfl rfl ?_
 refine Tri.f 1 [] [.keep [1] [1]] rfl trivial ?_
 obtain ⟨⟨v1,v2⟩,hk1,h⟩ := bind_some h
 obtain ⟨v3,hk2,h⟩ := bind_some h
 refine Tri.f 1 [.v (.agg [.i v1,.i v2]),.v (.i v3)] [.keep [2] []] rfl ⟨fun _ => W26 a0 a1 v1 v2 v3 hk2,fun _ => W12 (0 : Int) (v1,v2) hk1,trivial⟩ ?_
 cases h
 exact Tri.ret rfl ⟨.inl rfl,rfl,rfl⟩
noncomputable def E203 : Env := ⟨Try.prog,tys,(Try.f70.body).getD .skip,26,tysOk,mixedOk⟩
abbrev K115 (r : Int) (σ' : ASt) : Prop := isRes E203.T Try.f70 (.i r) [] σ'
noncomputable def l_spec_EnteringColumn_0 (a3 : List Q) (a4 v1 : Int) : Option (Int ⊕ (Unit ⊕ Int)) :=
bif decide (v1 < a4) then
(bif decide (a4 ≤ (a3.length : Int)) then
(grd (0 ≤ v1 ∧ v1 < (a3.length : Int)) <|
(m_spec_l3Sign ((a3.getD v1.toNat ⟨0,0⟩).num) ((a3.getD v1.toNat ⟨0,0⟩).den)).bind fun v2 =>
bif decide (v2 < 0) then
(some (.inr (.inr v1)))
else
(some (.inl (IntKind.i64.wrap (v1 + 1)))))
else
(some (.inr (.inl ()))))
else
(some (.inr (.inl ())))
noncomputable def m_spec_EnteringColumn (_a0 : List (List Q)) (_a1 : List Int) (_a2 : Int) (a3 : List Q) (a4 : Int) : Option Int :=
(iter (l_spec_EnteringColumn_0 a3 a4) (0 : Int)).bind fun
| (.inl _) => (
some (-1 : Int))
| (.inr r) => some r
theorem W28 (a0 : List (List Q)) (a1 : List Int) (a2 : Int) (a3 : List Q) (a4 r : Int) (h : m_spec_EnteringColumn a0 a1 a2 a3 a4 = some r) : AM.Spec Try.prog 70 [.agg [.list (.ratss a0),.list (.ints a1),.i a2],.list (.rats a3),.i a4] [] (.i r) [] := by
 refine spec_of (E := E203) Try.func70 rfl rfl rfl rfl ?_
 refine Tri.f 2 [] [.keep [1,2,7] []] rfl trivial ?_
 obtain ⟨x1,hk6,h⟩ := bind_some h
 refine Tri.loop (K1 := [.code [(1,0),(1,0),(0,0)] 0]) (K2 := [.blk 0,.code [] 2]) (fun v1 => ⟨[(1,.list (.rats a3)),(2,.i a4),(7,.i v1)],[]⟩) (fun x e σ' => match x with | (.inl _) => e = .exit 0 ∧ σ' = ⟨[],[]⟩ | (.inr r) => e = .ret ∧ K115 r σ') hk6 rfl rfl ?_ ?_
 ·intro v1 x hs
  clear h
  have h := hs
  clear hs
  rcases bif_some h with ⟨hd1,h⟩ | ⟨hd1,h⟩
  ·refine Tri.f 1 [.g true] [.keep [1,2,7,16] []] rfl ⟨hd1,trivial⟩ ?_
   rcases bif_some h with ⟨hd2,h⟩ | ⟨hd2,h⟩
   ·obtain ⟨hg3,h⟩ := grd_some h
    obtain ⟨v2,hk4,h⟩ := bind_some h
    refine Tri.f 2 [.g true,.v (.i v2)] [.keep [1,2,7,24] []] rfl ⟨fun _ => W27 ((a3.getD v1.toNat ⟨0,0⟩).num) ((a3.getD v1.toNat ⟨0,0⟩).den) v2 hk4,hg3,hd2,trivial⟩ ?_
    rcases bif_some h with ⟨hd5,h⟩ | ⟨hd5,h⟩
    ·refine Tri.f 2 [.g true] [.keep [6] []] rfl ⟨hd5,trivial⟩ ?_
     cases h
     exact Tri.ret rfl ⟨nofun,rfl,rfl,rfl⟩
    ·refine Tri.f 2 [.g false] [.keep [1,2,7] []] rfl ⟨hd5,trivial⟩ ?_
     cases h
     exact Tri.nil ⟨rfl,rfl⟩
   ·refine Tri.f 1 [.g false] [.keep [] []] rfl ⟨hd2,trivial⟩ ?_
    cases h
    exact Tri.out 0 rfl ⟨nofun,rfl,rfl⟩
  ·refine Tri.f 1 [.g false] [.keep [1,2,7,16] []] rfl ⟨hd1,trivial⟩ ?_
   refine Tri.f 1 [.g false] [.keep [] []] rfl ⟨rfl,trivial⟩ ?_
   cases h
   exact Tri.out 0 rfl ⟨nofun,rfl,rfl⟩
 ·intro e σ' hne hq
  rcases x1 with _ | r
  ·obtain ⟨rfl,rfl⟩ := hq
   refine TriX.exit (K' := [.code [] 2]) rfl ?_
   refine Tri.f 1 [] [.keep [6] []] rfl trivial ?_
   cases h
   exact Tri.ret rfl ⟨.inl rfl,rfl,rfl⟩
  ·obtain ⟨rfl,hq⟩ := hq
   cases h
   exact TriX.ret ⟨.inl rfl,hq⟩
noncomputable def E204 : Env := ⟨Try.prog,tys,(Try.f85.body).getD .skip,28,tysOk,mixedOk⟩
abbrev K116 (r : Int × Int × Bool) (σ' : ASt) : Prop := isRes E204.T Try.f85 (.tuple [.agg [.i r.1,.i r.2.1],.bool r.2.2]) [] σ'
noncomputable def m_spec_DivRat (a0 a1 a2 a3 : Int) : Option (Int × Int × Bool) :=
(m_spec_IsValidRat a0 a1).bind fun v1 =>
bif !v1 then
(some (0,0,false))
else
((m_spec_IsValidRat a2 a3).bind fun v2 =>
bif !v2 then
(some (0,0,false))
else
((m_spec_RatOf (IntKind.i64.wrap (a0 * a3)) (IntKind.i64.wrap (a1 * a2))).bind fun (v3,v4,v5) =>
some (v3,v4,v5)))
theorem W29 (a0 a1 a2 a3 : Int) (r : Int × Int × Bool) (h : m_spec_DivRat a0 a1 a2 a3 = some r) : AM.Spec Try.prog 85 [.agg [.i a0,.i a1],.agg [.i a2,.i a3]] [] (.tuple [.agg [.i r.1,.i r.2.1],.bool r.2.2]) [] := by
 refine spec_of (E := E204) Try.func85 rfl rfl rfl rfl ?_
 refine Tri.f 1 [] [.keep [2,3,4] [2,3,4]] rfl trivial ?_
 obtain ⟨v1,hk1,h⟩ := bind_some h
 rcases bif_some h with ⟨hd2,h⟩ | ⟨hd2,h⟩
 ·refine Tri.f 1 [.v (.bool v1),.g true] [.keep [2,3,4,13] [2,3,4]] rfl ⟨hd2,fun _ => W9 a0 a1 v1 hk1,trivial⟩ ?_
  refine Tri.f 2 [.g true] [.keep [4,5] [4]] rfl ⟨rfl,trivial⟩ ?_
  cases h
  exact Tri.ret rfl ⟨.inl rfl,rfl,rfl⟩
 ·obtain ⟨v2,hk3,h⟩ := bind_some h
  refine Tri.f 1 [.v (.bool v1),.g false,.v (.bool v2)] [.keep [2,3,4,13] [2,3,4]] rfl ⟨fun _ => W9 a2 a3 v2 hk3,hd2,fun _ => W9 a0 a1 v1 hk1,trivial⟩ ?_
  rcases bif_some h with ⟨hd4,h⟩ | ⟨hd4,h⟩
  ·refine Tri.f 2 [.g true] [.keep [4,5] [4]] rfl ⟨hd4,trivial⟩ ?_
   cases h
   exact Tri.ret rfl ⟨.inl rfl,rfl,rfl⟩
  ·obtain ⟨⟨v3,v4,v5⟩,hk5,h⟩ := bind_some h
   refine Tri.f 2 [.g false,.v (.tuple [.agg [.i v3,.i v4],.bool v5])] [.keep [4,5] [4]] rfl ⟨fun _ => W10 (IntKind.i64.wrap (a0 * a3)) (IntKind.i64.wrap (a1 * a2)) (v3,v4,v5) hk5,hd4,trivial⟩ ?_
   cases h
   exact Tri.ret rfl ⟨.inl rfl,rfl,rfl⟩
noncomputable def E205 : Env := ⟨Try.prog,tys,(Try.f71.body).getD .skip,97,tysOk,mixedOk⟩
abbrev K117 (r : Int) (σ' : ASt) : Prop := isRes E205.T Try.f71 (.i r) [] σ'
noncomputable def l_spec_LeavingRow_0 (a0 : List (List Q)) (a1 : List Int) (a2 a3 : Int) : (Int × Int × Int × Int) → Option ((Int × Int × Int × Int) ⊕ Int)
 | (v3,v4,v5,v6) => (
bif decide (v4 < (a0.length : Int)) then
(grd (0 ≤ v4 ∧ v4 < (a0.length : Int)) <|
grd (0 ≤ a3 ∧ a3 < ((a0.getD v4.toNat []).length : Int)) <|
grd (0 ≤ v4 ∧ v4 < (a0.length : Int)) <|
grd (0 ≤ IntKind.i64.wrap (a2 + (a0.length : Int)) ∧ IntKind.i64.wrap (a2 + (a0.length : Int)) < ((a0.getD v4.toNat []).length : Int)) <|
(m_spec_DivRat (((a0.getD v4.toNat []).getD ((IntKind.i64.wrap (a2 + (a0.length : Int))).toNat) ⟨0,0⟩).num) (((a0.getD v4.toNat []).getD ((IntKind.i64.wrap (a2 + (a0.length : Int))).toNat) ⟨0,0⟩).den) (((a0.getD v4.toNat []).getD a3.toNat ⟨0,0⟩).num) (((a0.getD v4.toNat []).getD a3.toNat ⟨0,0⟩).den)).bind fun (v7,v8,v9) =>
(m_spec_l3Sign (((a0.getD v4.toNat []).getD a3.toNat ⟨0,0⟩).num) (((a0.getD v4.toNat []).getD a3.toNat ⟨0,0⟩).den)).bind fun v10 =>
bif decide (v10 ≤ 0) then
(some (.inl (v3,IntKind.i64.wrap (v4 + 1),v5,v6)))
else
(bif !v9 then
(some (.inl (v3,IntKind.i64.wrap (v4 + 1),v5,v6)))
else
((m_spec_CompareRat v7 v8 v5 v6).bind fun v11 =>
bif decide (v3 < 0) then
(some (.inl (v4,IntKind.i64.wrap (v4 + 1),v7,v8)))
else
(bif decide (v11 < 0) then
(some (.inl (v4,IntKind.i64.wrap (v4 + 1),v7,v8)))
else
(bif v11 == 0 then
(grd (0 ≤ v4 ∧ v4 < (a1.length : Int)) <|
grd (0 ≤ v3 ∧ v3 < (a1.length : Int)) <|
bif decide ((a1.getD v4.toNat 0) < (a1.getD v3.toNat 0)) then
(some (.inl (v4,IntKind.i64.wrap (v4 + 1),v7,v8)))
else
(some (.inl (v3,IntKind.i64.wrap (v4 + 1),v5,v6))))
else
(some (.inl (v3,IntKind.i64.wrap (v4 + 1),v5,v6))))))))
else
(some (.inr v3)))
noncomputable def m_spec_LeavingRow (a0 : List (List Q)) (a1 : List Int) (a2 a3 : Int) : Option Int :=
(m_spec_l6Good a0 a1 a2).bind fun v1 =>
bif !v1 then
(some (-1 : Int))
else
((m_spec_l1In a3 (0 : Int) (IntKind.i64.wrap ((IntKind.i64.wrap (a2 + (a0.length : Int))) - 1))).bind fun v2 =>
bif !v2 then
(some (-1 : Int))
else
((iter (l_spec_LeavingRow_0 a0 a1 a2 a3) ((-1 : Int),(0 : Int),0,0)).bind fun
| v12 => (
some v12)))
theorem W30 (a0 : List (List Q)) (a1 : List Int) (a2 a3 r : Int) (h : m_spec_LeavingRow a0 a1 a2 a3 = some r) : AM.Spec Try.prog 71 [.agg [.list (.ratss a0),.list (.ints a1),.i a2],.i a3] [] (.i r) [] := by
 refine spec_of (E := E205) Try.func71 rfl rfl rfl rfl ?_
 refine Tri.f 1 [] [.keep [1,2] [2]] rfl trivial ?_
 obtain ⟨v1,hk1,h⟩ := bind_some h
 rcases bif_some h with ⟨hd2,h⟩ | ⟨hd2,h⟩
 ·refine Tri.f 1 [.v (.bool v1),.g true] [.keep [1,2,26] [2]] rfl ⟨hd2,fun _ => W20 a0 a1 a2 v1 hk1,trivial⟩ ?_
  refine Tri.f 2 [.g true] [.keep [4] []] rfl ⟨rfl,trivial⟩ ?_
  cases h
  exact Tri.ret rfl ⟨.inl rfl,rfl,rfl⟩
 ·obtain ⟨v2,hk3,h⟩ := bind_some h
  refine Tri.f 1 [.v (.bool v1),.g false,.v (.bool v2)] [.keep [1,2,26] [2]] rfl ⟨fun _ => W7 a3 (0 : Int) (IntKind.i64.wrap ((IntKind.i64.wrap (a2 + (a0.length : Int))) - 1)) v2 hk3,hd2,fun _ => W20 a0 a1 a2 v1 hk1,trivial⟩ ?_
  rcases bif_some h with ⟨hd4,h⟩ | ⟨hd4,h⟩
  ·refine Tri.f 2 [.g true] [.keep [4] []] rfl ⟨hd4,trivial⟩ ?_
   cases h
   exact Tri.ret rfl ⟨.inl rfl,rfl,rfl⟩
  ·refine Tri.f 3 [.g false] [.keep [1,2,5,6] [2,6]] rfl ⟨hd4,trivial⟩ ?_
   refine Tri.f 1 [] [.keep [1,2,5,6,7] [2,6]] rfl trivial ?_
   obtain ⟨v12,hk21,h⟩ := bind_some h
   refine Tri.loop (K1 := [.code [(4,0),(1,0),(0,0)] 0]) (K2 := [.blk 0,.code [] 5]) (fun (v3,v4,v5,v6) => ⟨[(1,.i a3),(2,.ptr 2 0),(5,.i v3),(6,.ptr 6 0),(7,.i v4)],[(2,.box [.list (.ratss a0),.list (.ints a1),.i a2]),(6,.box [.i v5,.i v6])]⟩) (fun x e σ' => match x with | v12 => e = .exit 0 ∧ σ' = ⟨[(5,.i v12)],[]⟩) hk21 rfl rfl ?_ ?_
   ·intro s x hs
    clear h
    have h := hs
    clear hs
    obtain ⟨v3,v4,v5,v6⟩ := s
    refine Tri.f 1 [] [.keep [1,2,5,6,7,32] [2,6]] rfl trivial ?_
    rcases bif_some h with ⟨hd5,h⟩ | ⟨hd5,h⟩
    ·obtain ⟨hg6,h⟩ := grd_some h
     obtain ⟨hg7,h⟩ := grd_some h
     refine Tri.f 2 [.g true] [.keep [1,2,5,6,7,8] [2,6,8]] rfl ⟨hg7,hg6,hd5,trivial⟩ ?_
     obtain ⟨hg8,h⟩ := grd_some h
     obtain ⟨hg9,h⟩ := grd_some h
     obtain ⟨⟨v7,v8,v9⟩,hk10,h⟩ := bind_some h
     obtain ⟨v10,hk11,h⟩ := bind_some h
     rcases bif_some h with ⟨hd12,h⟩ | ⟨hd12,h⟩
     ·refine Tri.f 2 [.v (.tuple [.agg [.i v7,.i v8],.bool v9]),.v (.i v10),.g true] [.keep [1,2,5,6,7,9,67] [2,6,9]] rfl ⟨hd12,fun _ => W27 (((a0.getD v4.toNat []).getD a3.toNat ⟨0,0⟩).num) (((a0.getD v4.toNat []).getD a3.toNat ⟨0,0⟩).den) v10 hk11,fun _ => W29 (((a0.getD v4.toNat []).getD ((IntKind.i64.wrap (a2 + (a0.length : Int))).toNat) ⟨0,0⟩).num) (((a0.getD v4.toNat []).getD ((IntKind.i64.wrap (a2 + (a0.length : Int))).toNat) ⟨0,0⟩).den) (((a0.getD v4.toNat []).getD a3.toNat ⟨0,0⟩).num) (((a0.getD v4.toNat []).getD a3.toNat ⟨0,0⟩).den) (v7,v8,v9) hk10,hg9,hg8,trivial⟩ ?_
      refine Tri.f 2 [.g true] [.keep [1,2,5,6,7] [2,6]] rfl ⟨rfl,trivial⟩ ?_
      cases h
      exact Tri.nil ⟨rfl,rfl⟩
     ·refine Tri.f 2 [.v (.tuple [.agg [.i v7,.i v8],.bool v9]),.v (.i v10),.g false] [.keep [1,2,5,6,7,9,67] [2,6,9]] rfl ⟨hd12,fun _ => W27 (((a0.getD v4.toNat []).getD a3.toNat ⟨0,0⟩).num) (((a0.getD v4.toNat []).getD a3.toNat ⟨0,0⟩).den) v10 hk11,fun _ => W29 (((a0.getD v4.toNat []).getD ((IntKind.i64.wrap (a2 + (a0.length : Int))).toNat) ⟨0,0⟩).num) (((a0.getD v4.toNat []).getD ((IntKind.i64.wrap (a2 + (a0.length : Int))).toNat) ⟨0,0⟩).den) (((a0.getD v4.toNat []).getD a3.toNat ⟨0,0⟩).num) (((a0.getD v4.toNat []).getD a3.toNat ⟨0,0⟩).den) (v7,v8,v9) hk10,hg9,hg8,trivial⟩ ?_
      rcases bif_some h with ⟨hd13,h⟩ | ⟨hd13,h⟩
      ·refine Tri.f 2 [.g true] [.keep [1,2,5,6,7] [2,6]] rfl ⟨hd13,trivial⟩ ?_
       cases h
       exact Tri.nil ⟨rfl,rfl⟩
      ·obtain ⟨v11,hk14,h⟩ := bind_some h
       refine Tri.f 2 [.g false,.v (.i v11)] [.keep [1,2,5,6,7,9,11] [2,6,9]] rfl ⟨fun _ => W26 v7 v8 v5 v6 v11 hk14,hd13,trivial⟩ ?_
       rcases bif_some h with ⟨hd15,h⟩ | ⟨hd15,h⟩
       ·refine Tri.f 1 [.g true,.g true] [.keep [1,2,5,6,7,9,93] [2,6,9]] rfl ⟨rfl,hd15,trivial⟩ ?_
        refine Tri.f 3 [.g true] [.keep [1,2,5,6,7] [2,6]] rfl ⟨rfl,trivial⟩ ?_
        refine Tri.f 1 [] [.keep [1,2,5,6,7] [2,6]] rfl trivial ?_
        cases h
        exact Tri.nil ⟨rfl,rfl⟩
       ·rcases bif_some h with ⟨hd16,h⟩ | ⟨hd16,h⟩
        ·refine Tri.f 1 [.g false,.g true] [.keep [1,2,5,6,7,9,93] [2,6,9]] rfl ⟨hd16,hd15,trivial⟩ ?_
         refine Tri.f 3 [.g true] [.keep [1,2,5,6,7] [2,6]] rfl ⟨rfl,trivial⟩ ?_
         refine Tri.f 1 [] [.keep [1,2,5,6,7] [2,6]] rfl trivial ?_
         cases h
         exact Tri.nil ⟨rfl,rfl⟩
        ·rcases bif_some h with ⟨hd17,h⟩ | ⟨hd17,h⟩
         ·obtain ⟨hg18,h⟩ := grd_some h
          obtain ⟨hg19,h⟩ := grd_some h
          refine Tri.f 1 [.g false,.g false,.g true] [.keep [1,2,5,6,7,9,93] [2,6,9]] rfl ⟨hg19,hg18,hd17,hd16,hd15,trivial⟩ ?_
          rcases bif_some h with ⟨hd20,h⟩ | ⟨hd20,h⟩
          ·refine Tri.f 3 [.g true] [.keep [1,2,5,6,7] [2,6]] rfl ⟨hd20,trivial⟩ ?_
           refine Tri.f 1 [] [.keep [1,2,5,6,7] [2,6]] rfl trivial ?_
           cases h
           exact Tri.nil ⟨rfl,rfl⟩
          ·refine Tri.f 2 [.g false] [.keep [1,2,5,6,7] [2,6]] rfl ⟨hd20,trivial⟩ ?_
           cases h
           exact Tri.nil ⟨rfl,rfl⟩
         ·refine Tri.f 1 [.g false,.g false,.g false] [.keep [1,2,5,6,7,9,93] [2,6,9]] rfl ⟨hd17,hd16,hd15,trivial⟩ ?_
          refine Tri.f 2 [.g false] [.keep [1,2,5,6,7] [2,6]] rfl ⟨rfl,trivial⟩ ?_
          cases h
          exact Tri.nil ⟨rfl,rfl⟩
    ·refine Tri.f 1 [.g false] [.keep [5] []] rfl ⟨hd5,trivial⟩ ?_
     cases h
     exact Tri.out 0 rfl ⟨nofun,rfl,rfl⟩
   ·intro e σ' hne hq
    obtain ⟨rfl,rfl⟩ := hq
    refine TriX.exit (K' := [.code [] 5]) rfl ?_
    refine Tri.f 1 [] [.keep [4] []] rfl trivial ?_
    cases h
    exact Tri.ret rfl ⟨.inl rfl,rfl,rfl⟩
noncomputable def E206 : Env := ⟨Try.prog,tys,(Try.f87.body).getD .skip,31,tysOk,mixedOk⟩
abbrev K118 (r : Int × (List (List Q)) × (List Int)) (σ' : ASt) : Prop := isRes E206.T Try.f87 (.agg [.sl 1000 0,.sl 1001 0,.i r.1]) [(1000,.arr 26 0 0 (.ratss r.2.1)),(1001,.arr 3 0 0 (.ints r.2.2))] σ'
noncomputable def l_spec_l6Copy_0 (a0 : List (List Q)) : (Int × (List (List Q))) → Option ((Int × (List (List Q))) ⊕ ((List (List Q))))
 | (v1,v2) => (
bif decide (v1 < (a0.length : Int)) then
(grd (0 ≤ v1 ∧ v1 < (a0.length : Int)) <|
(m_spec_l4Copy (a0.getD v1.toNat [])).bind fun v3 =>
grd (v2.length + ([v3] : List (List Q)).length ≤ room) <|
some (.inl (IntKind.i64.wrap (v1 + 1),v2 ++ [v3])))
else
(some (.inr v2)))
noncomputable def m_spec_l6Copy (a0 : List (List Q)) (a1 : List Int) (a2 : Int) : Option (Int × (List (List Q)) × (List Int)) :=
grd (([] : List Int).length + a1.length ≤ room) <|
(iter (l_spec_l6Copy_0 a0) ((0 : Int),[])).bind fun
| v4 => (
some (a2,v4,[] ++ a1))
theorem W31 (a0 : List (List Q)) (a1 : List Int) (a2 : Int) (r : Int × (List (List Q)) × (List Int)) (h : m_spec_l6Copy a0 a1 a2 = some r) : AM.Spec Try.prog 87 [.agg [.list (.ratss a0),.list (.ints a1),.i a2]] [] (.agg [.sl 1000 0,.sl 1001 0,.i r.1]) [(1000,.arr 26 0 0 (.ratss r.2.1)),(1001,.arr 3 0 0 (.ints r.2.2))] := by
 refine spec_of (E := E206) Try.func87 rfl rfl rfl rfl ?_
 obtain ⟨hg1,h⟩ := grd_some h
 refine Tri.f 3 [] [.ownc 2 0 1100 26,.ownc 2 1 1101 3,.ownc 3 0 1102 26,.rever 5,.keep [1,2,3,4] [1,2,3,5,1100,1101,1102]] rfl ⟨hg1,trivial⟩ ?_
 obtain ⟨v4,hk6,h⟩ := bind_some h
 refine Tri.loop (K1 := [.code [(2,0),(1,0),(0,0)] 0]) (K2 := [.blk 0,.code [] 3]) (fun (v1,v2) => ⟨[(1,.ptr 1 0),(2,.ptr 2 0),(3,.ptr 3 0),(4,.i v1)],[(1,.box [.list (.ratss a0),.list (.ints a1),.i a2]),(2,.box [.sl 1100 0,.sl 1101 0,.i 0]),(3,.box [.sl 1102 0,.sl 5 0,.i a2]),(5,.arr 3 0 0 (.ints ([] ++ a1))),(1100,.arr 26 0 0 (.ratss [])),(1101,.arr 3 0 0 (.ints [])),(1102,.arr 26 0 0 (.ratss v2))]⟩) (fun x e σ' => match x with | v4 => e = .exit 0 ∧ σ' = ⟨[(2,.ptr 2 0),(3,.ptr 3 0)],[(2,.box [.sl 1100 0,.sl 1101 0,.i 0]),(3,.box [.sl 1102 0,.sl 5 0,.i a2]),(5,.arr 3 0 0 (.ints ([] ++ a1))),(1100,.arr 26 0 0 (.ratss [])),(1101,.arr 3 0 0 (.ints [])),(1102,.arr 26 0 0 (.ratss v4))]⟩) hk6 rfl rfl ?_ ?_
 ·intro s x hs
  clear h
  have h := hs
  clear hs
  obtain ⟨v1,v2⟩ := s
  refine Tri.f 1 [] [.keep [1,2,3,4,16] [1,2,3,5,1100,1101,1102]] rfl trivial ?_
  rcases bif_some h with ⟨hd2,h⟩ | ⟨hd2,h⟩
  ·obtain ⟨hg3,h⟩ := grd_some h
   obtain ⟨v3,hk4,h⟩ := bind_some h
   obtain ⟨hg5,h⟩ := grd_some h
   refine Tri.f 3 [.g true,.r ⟨[],.sl 1103 0,[(1103,.arr 32 0 0 (.rats v3))]⟩] [.rever 1102,.keep [1,2,3,4] [1,2,3,5,1100,1101,1102]] rfl ⟨hg5,fun _ => (W21 (a0.getD v1.toNat []) v3 hk4).swap 1000 1103,hg3,hd2,trivial⟩ ?_
   cases h
   exact Tri.nil ⟨rfl,rfl⟩
  ·refine Tri.f 1 [.g false] [.keep [2,3] [2,3,5,1100,1101,1102]] rfl ⟨hd2,trivial⟩ ?_
   cases h
   exact Tri.out 0 rfl ⟨nofun,rfl,rfl⟩
 ·intro e σ' hne hq
  obtain ⟨rfl,rfl⟩ := hq
  refine TriX.exit (K' := [.code [] 3]) rfl ?_
  refine Tri.f 1 [] [.swap 1102 1000,.swap 5 1001,.keep [2] [2,1000,1001]] rfl trivial ?_
  cases h
  exact Tri.ret rfl ⟨.inl rfl,rfl,rfl⟩
noncomputable def E207 : Env := ⟨Try.prog,tys,(Try.f88.body).getD .skip,34,tysOk,mixedOk⟩
abbrev K119 (r : Bool × (List Q)) (σ' : ASt) : Prop := isRes E207.T Try.f88 (.tuple [.sl 1000 0,.bool r.1]) [(1000,.arr 32 0 0 (.rats r.2))] σ'
noncomputable def l_spec_l6Divide_0 (a0 : List Q) (a1 a2 : Int) : (Int × (List Q)) → Option ((Int × (List Q)) ⊕ ((List Q) ⊕ ((Bool × (List Q)))))
 | (v1,v2) => (
bif decide (v1 < (a0.length : Int)) then
(grd (0 ≤ v1 ∧ v1 < (a0.length : Int)) <|
(m_spec_DivRat ((a0.getD v1.toNat ⟨0,0⟩).num) ((a0.getD v1.toNat ⟨0,0⟩).den) a1 a2).bind fun (v3,v4,v5) =>
bif !v5 then
(some (.inr (.inr (false,[]))))
else
(grd (v2.length + ([⟨v3,v4⟩] : List Q).length ≤ room) <|
some (.inl (IntKind.i64.wrap (v1 + 1),v2 ++ [⟨v3,v4⟩]))))
else
(some (.inr (.inl v2))))
noncomputable def m_spec_l6Divide (a0 : List Q) (a1 a2 : Int) : Option (Bool × (List Q)) :=
(iter (l_spec_l6Divide_0 a0 a1 a2) ((0 : Int),[])).bind fun
| (.inl v6) => (
some (true,v6))
| (.inr r) => some r
theorem W32 (a0 : List Q) (a1 a2 : Int) (r : Bool × (List Q)) (h : m_spec_l6Divide a0 a1 a2 = some r) : AM.Spec Try.prog 88 [.list (.rats a0),.agg [.i a1,.i a2]] [] (.tuple [.sl 1000 0,.bool r.1]) [(1000,.arr 32 0 0 (.rats r.2))] := by
 refine spec_of (E := E207) Try.func88 rfl rfl rfl rfl ?_
 refine Tri.f 3 [] [.keep [0,3,6,7] [3,10]] rfl trivial ?_
 obtain ⟨x1,hk6,h⟩ := bind_some h
 refine Tri.loop (K1 := [.code [(2,0),(1,0),(0,0)] 0]) (K2 := [.blk 0,.code [] 3]) (fun (v1,v2) => ⟨[(0,.list (.rats a0)),(3,.ptr 3 0),(6,.sl 10 0),(7,.i v1)],[(3,.box [.i a1,.i a2]),(10,.arr 32 0 0 (.rats v2))]⟩) (fun x e σ' => match x with | (.inl v6) => e = .exit 0 ∧ σ' = ⟨[(6,.sl 10 0)],[(10,.arr 32 0 0 (.rats v6))]⟩ | (.inr r) => e = .ret ∧ K119 r σ') hk6 rfl rfl ?_ ?_
 ·intro s x hs
  clear h
  have h := hs
  clear hs
  obtain ⟨v1,v2⟩ := s
  refine Tri.f 1 [] [.keep [0,3,6,7,14] [3,10]] rfl trivial ?_
  rcases bif_some h with ⟨hd1,h⟩ | ⟨hd1,h⟩
  ·obtain ⟨hg2,h⟩ := grd_some h
   obtain ⟨⟨v3,v4,v5⟩,hk3,h⟩ := bind_some h
   refine Tri.f 3 [.g true,.v (.tuple [.agg [.i v3,.i v4],.bool v5])] [.keep [0,3,6,7,8,27] [3,8,10]] rfl ⟨fun _ => W29 ((a0.getD v1.toNat ⟨0,0⟩).num) ((a0.getD v1.toNat ⟨0,0⟩).den) a1 a2 (v3,v4,v5) hk3,hg2,hd1,trivial⟩ ?_
   rcases bif_some h with ⟨hd4,h⟩ | ⟨hd4,h⟩
   ·refine Tri.f 2 [.g true] [.swap 28 1000,.keep [4,5] [1000]] rfl ⟨hd4,trivial⟩ ?_
    cases h
    exact Tri.ret rfl ⟨nofun,rfl,rfl,rfl⟩
   ·obtain ⟨hg5,h⟩ := grd_some h
    refine Tri.f 3 [.g false] [.rever 10,.keep [0,3,6,7] [3,10]] rfl ⟨hg5,hd4,trivial⟩ ?_
    cases h
    exact Tri.nil ⟨rfl,rfl⟩
  ·refine Tri.f 1 [.g false] [.keep [6] [10]] rfl ⟨hd1,trivial⟩ ?_
   cases h
   exact Tri.out 0 rfl ⟨nofun,rfl,rfl⟩
 ·intro e σ' hne hq
  rcases x1 with v6 | r
  ·obtain ⟨rfl,rfl⟩ := hq
   refine TriX.exit (K' := [.code [] 3]) rfl ?_
   refine Tri.f 1 [] [.swap 10 1000,.keep [4,5] [1000]] rfl trivial ?_
   cases h
   exact Tri.ret rfl ⟨.inl rfl,rfl,rfl⟩
  ·obtain ⟨rfl,hq⟩ := hq
   cases h
   exact TriX.ret ⟨.inl rfl,hq⟩
noncomputable def E208 : Env := ⟨Try.prog,tys,(Try.f86.body).getD .skip,135,tysOk,mixedOk⟩
abbrev K120 (r : Int × Bool × (List (List Q)) × (List Int)) (σ' : ASt) : Prop := isRes E208.T Try.f86 (.tuple [.agg [.sl 1000 0,.sl 1001 0,.i r.1],.bool r.2.1]) [(1000,.arr 26 0 0 (.ratss r.2.2.1)),(1001,.arr 3 0 0 (.ints r.2.2.2))] σ'
noncomputable def l_spec_PivotTableau_0 (a0 : List (List Q)) (a1 : List Int) (a2 a3 a4 : Int) : (Int × (List (List Q))) → Option ((Int × (List (List Q))) ⊕ ((List (List Q)) ⊕ ((Int × Bool × (List (List Q)) × (List Int)))))
 | (v24,v25) => (
bif decide (v24 < (a0.length : Int)) then
(grd (0 ≤ v24 ∧ v24 < (a0.length : Int)) <|
grd (0 ≤ a4 ∧ a4 < ((a0.getD v24.toNat []).length : Int)) <|
bif v24 == a3 then
(some (.inl (IntKind.i64.wrap (v24 + 1),v25)))
else
((m_spec_l3Int (0 : Int)).bind fun (v26,v27) =>
bif (((a0.getD v24.toNat []).getD a4.toNat ⟨0,0⟩).num) == v26 && (((a0.getD v24.toNat []).getD a4.toNat ⟨0,0⟩).den) == v27 then
(some (.inl (IntKind.i64.wrap (v24 + 1),v25)))
else
(grd (0 ≤ v24 ∧ v24 < (a0.length : Int)) <|
(m_spec_AddScaled (a0.getD v24.toNat []) (IntKind.i64.wrap (0 - (((a0.getD v24.toNat []).getD a4.toNat ⟨0,0⟩).num))) (((a0.getD v24.toNat []).getD a4.toNat ⟨0,0⟩).den) (v25.getD a3.toNat [])).bind fun (v28,v29) =>
bif !v28 then
((m_spec_l6Copy a0 a1 a2).bind fun (v30,v31,v32) =>
some (.inr (.inr (v30,false,v31,v32))))
else
(grd (0 ≤ v24 ∧ v24 < (v25.length : Int)) <|
grd (v24.toNat ≠ a3.toNat) <|
some (.inl (IntKind.i64.wrap (v24 + 1),v25.set v24.toNat v29))))))
else
(some (.inr (.inl v25))))
noncomputable def m_spec_PivotTableau (a0 : List (List Q)) (a1 : List Int) (a2 a3 a4 : Int) : Option (Int × Bool × (List (List Q)) × (List Int)) :=
(m_spec_l6Good a0 a1 a2).bind fun v1 =>
bif !v1 then
((m_spec_l6Copy a0 a1 a2).bind fun (v2,v3,v4) =>
some (v2,false,v3,v4))
else
((m_spec_l1In a3 (0 : Int) (IntKind.i64.wrap ((a0.length : Int) - 1))).bind fun v5 =>
bif !v5 then
((m_spec_l6Copy a0 a1 a2).bind fun (v6,v7,v8) =>
some (v6,false,v7,v8))
else
((m_spec_l1In a4 (0 : Int) (IntKind.i64.wrap ((IntKind.i64.wrap (a2 + (a0.length : Int))) - 1))).bind fun v9 =>
bif !v9 then
((m_spec_l6Copy a0 a1 a2).bind fun (v10,v11,v12) =>
some (v10,false,v11,v12))
else
(grd (0 ≤ a3 ∧ a3 < (a0.length : Int)) <|
grd (0 ≤ a4 ∧ a4 < ((a0.getD a3.toNat []).length : Int)) <|
bif (((a0.getD a3.toNat []).getD a4.toNat ⟨0,0⟩).num) == 0 then
((m_spec_l6Copy a0 a1 a2).bind fun (v13,v14,v15) =>
some (v13,false,v14,v15))
else
((m_spec_l6Copy a0 a1 a2).bind fun (v16,v17,v18) =>
grd (0 ≤ a3 ∧ a3 < (a0.length : Int)) <|
grd (0 ≤ a3 ∧ a3 < (a0.length : Int)) <|
grd (0 ≤ a4 ∧ a4 < ((a0.getD a3.toNat []).length : Int)) <|
(m_spec_l6Divide (a0.getD a3.toNat []) (((a0.getD a3.toNat []).getD a4.toNat ⟨0,0⟩).num) (((a0.getD a3.toNat []).getD a4.toNat ⟨0,0⟩).den)).bind fun (v19,v20) =>
bif !v19 then
((m_spec_l6Copy a0 a1 a2).bind fun (v21,v22,v23) =>
some (v21,false,v22,v23))
else
(grd (0 ≤ a3 ∧ a3 < (v17.length : Int)) <|
(iter (l_spec_PivotTableau_0 a0 a1 a2 a3 a4) ((0 : Int),v17.set a3.toNat v20)).bind fun
| (.inl v33) => (
grd (0 ≤ a3 ∧ a3 < (v18.length : Int)) <|
some (v16,true,v33,v18.set a3.toNat a4))
| (.inr r) => some r)))))
theorem W33 (a0 : List (List Q)) (a1 : List Int) (a2 a3 a4 : Int) (r : Int × Bool × (List (List Q)) × (List Int)) (h : m_spec_PivotTableau a0 a1 a2 a3 a4 = some r) : AM.Spec Try.prog 86 [.agg [.list (.ratss a0),.list (.ints a1),.i a2],.i a3,.i a4] [] (.tuple [.agg [.sl 1000 0,.sl 1001 0,.i r.1],.bool r.2.1]) [(1000,.arr 26 0 0 (.ratss r.2.2.1)),(1001,.arr 3 0 0 (.ints r.2.2.2))] := by
 refine spec_of (E := E208) Try.func86 rfl rfl rfl rfl ?_
 refine Tri.f 1 [] [.keep [1,2,3,6] [3,6],.ownc 6 0 1100 26,.ownc 6 1 1101 3,.keep [1,2,3,6] [3,6,1100,1101]] rfl trivial ?_
 obtain ⟨v1,hk1,h⟩ := bind_some h
 rcases bif_some h with ⟨hd2,h⟩ | ⟨hd2,h⟩
 ·refine Tri.f 1 [.v (.bool v1),.g true,.g true,.g true] [.keep [1,2,3,6,50] [3,6,1100,1101]] rfl ⟨rfl,rfl,hd2,fun _ => W20 a0 a1 a2 v1 hk1,trivial⟩ ?_
  obtain ⟨⟨v2,v3,v4⟩,hk3,h⟩ := bind_some h
  refine Tri.f 2 [.g true,.r ⟨[],.agg [.sl 1102 0,.sl 1103 0,.i v2],[(1102,.arr 26 0 0 (.ratss v3)),(1103,.arr 3 0 0 (.ints v4))]⟩] [.swap 1102 1000,.swap 1103 1001,.keep [6,7] [6,1000,1001]] rfl ⟨fun _ => ((W31 a0 a1 a2 (v2,v3,v4) hk3).swap 1000 1102).swap 1001 1103,rfl,trivial⟩ ?_
  cases h
  exact Tri.ret rfl ⟨.inl rfl,rfl,rfl⟩
 ·obtain ⟨v5,hk4,h⟩ := bind_some h
  rcases bif_some h with ⟨hd5,h⟩ | ⟨hd5,h⟩
  ·refine Tri.f 1 [.v (.bool v1),.g false,.v (.bool v5),.g true,.g true] [.keep [1,2,3,6,50] [3,6,1100,1101]] rfl ⟨rfl,hd5,fun _ => W7 a3 (0 : Int) (IntKind.i64.wrap ((a0.length : Int) - 1)) v5 hk4,hd2,fun _ => W20 a0 a1 a2 v1 hk1,trivial⟩ ?_
   obtain ⟨⟨v6,v7,v8⟩,hk6,h⟩ := bind_some h
   refine Tri.f 2 [.g true,.r ⟨[],.agg [.sl 1104 0,.sl 1105 0,.i v6],[(1104,.arr 26 0 0 (.ratss v7)),(1105,.arr 3 0 0 (.ints v8))]⟩] [.swap 1104 1000,.swap 1105 1001,.keep [6,7] [6,1000,1001]] rfl ⟨fun _ => ((W31 a0 a1 a2 (v6,v7,v8) hk6).swap 1000 1104).swap 1001 1105,rfl,trivial⟩ ?_
   cases h
   exact Tri.ret rfl ⟨.inl rfl,rfl,rfl⟩
  ·obtain ⟨v9,hk7,h⟩ := bind_some h
   rcases bif_some h with ⟨hd8,h⟩ | ⟨hd8,h⟩
   ·refine Tri.f 1 [.v (.bool v1),.g false,.v (.bool v5),.g false,.v (.bool v9),.g true] [.keep [1,2,3,6,50] [3,6,1100,1101]] rfl ⟨hd8,fun _ => W7 a4 (0 : Int) (IntKind.i64.wrap ((IntKind.i64.wrap (a2 + (a0.length : Int))) - 1)) v9 hk7,hd5,fun _ => W7 a3 (0 : Int) (IntKind.i64.wrap ((a0.length : Int) - 1)) v5 hk4,hd2,fun _ => W20 a0 a1 a2 v1 hk1,trivial⟩ ?_
    obtain ⟨⟨v10,v11,v12⟩,hk9,h⟩ := bind_some h
    refine Tri.f 2 [.g true,.r ⟨[],.agg [.sl 1106 0,.sl 1107 0,.i v10],[(1106,.arr 26 0 0 (.ratss v11)),(1107,.arr 3 0 0 (.ints v12))]⟩] [.swap 1106 1000,.swap 1107 1001,.keep [6,7] [6,1000,1001]] rfl ⟨fun _ => ((W31 a0 a1 a2 (v10,v11,v12) hk9).swap 1000 1106).swap 1001 1107,rfl,trivial⟩ ?_
    cases h
    exact Tri.ret rfl ⟨.inl rfl,rfl,rfl⟩
   ·obtain ⟨hg10,h⟩ := grd_some h
    obtain ⟨hg11,h⟩ := grd_some h
    refine Tri.f 1 [.v (.bool v1),.g false,.v (.bool v5),.g false,.v (.bool v9),.g false] [.keep [1,2,3,6,50] [3,6,1100,1101]] rfl ⟨hg11,hg10,hd8,fun _ => W7 a4 (0 : Int) (IntKind.i64.wrap ((IntKind.i64.wrap (a2 + (a0.length : Int))) - 1)) v9 hk7,hd5,fun _ => W7 a3 (0 : Int) (IntKind.i64.wrap ((a0.length : Int) - 1)) v5 hk4,hd2,fun _ => W20 a0 a1 a2 v1 hk1,trivial⟩ ?_
    rcases bif_some h with ⟨hd12,h⟩ | ⟨hd12,h⟩
    ·obtain ⟨⟨v13,v14,v15⟩,hk13,h⟩ := bind_some h
     refine Tri.f 2 [.g true,.r ⟨[],.agg [.sl 1108 0,.sl 1109 0,.i v13],[(1108,.arr 26 0 0 (.ratss v14)),(1109,.arr 3 0 0 (.ints v15))]⟩] [.swap 1108 1000,.swap 1109 1001,.keep [6,7] [6,1000,1001]] rfl ⟨fun _ => ((W31 a0 a1 a2 (v13,v14,v15) hk13).swap 1000 1108).swap 1001 1109,hd12,trivial⟩ ?_
     cases h
     exact Tri.ret rfl ⟨.inl rfl,rfl,rfl⟩
    ·obtain ⟨⟨v16,v17,v18⟩,hk14,h⟩ := bind_some h
     refine Tri.f 2 [.g false,.r ⟨[],.agg [.sl 1110 0,.sl 1111 0,.i v16],[(1110,.arr 26 0 0 (.ratss v17)),(1111,.arr 3 0 0 (.ints v18))]⟩] [.keep [1,2,3,6,8] [3,6,8,1100,1101,1110,1111]] rfl ⟨fun _ => ((W31 a0 a1 a2 (v16,v17,v18) hk14).swap 1000 1110).swap 1001 1111,hd12,trivial⟩ ?_
     obtain ⟨hg15,h⟩ := grd_some h
     obtain ⟨hg16,h⟩ := grd_some h
     obtain ⟨hg17,h⟩ := grd_some h
     obtain ⟨⟨v19,v20⟩,hk18,h⟩ := bind_some h
     refine Tri.f 2 [.r ⟨[],.tuple [.sl 1112 0,.bool v19],[(1112,.arr 32 0 0 (.rats v20))]⟩] [.keep [1,2,3,6,8,9,73] [3,6,8,1100,1101,1110,1111,1112]] rfl ⟨fun _ => (W32 (a0.getD a3.toNat []) (((a0.getD a3.toNat []).getD a4.toNat ⟨0,0⟩).num) (((a0.getD a3.toNat []).getD a4.toNat ⟨0,0⟩).den) (v19,v20) hk18).swap 1000 1112,hg17,hg16,hg15,trivial⟩ ?_
     rcases bif_some h with ⟨hd19,h⟩ | ⟨hd19,h⟩
     ·obtain ⟨⟨v21,v22,v23⟩,hk20,h⟩ := bind_some h
      refine Tri.f 2 [.g true,.r ⟨[],.agg [.sl 1113 0,.sl 1114 0,.i v21],[(1113,.arr 26 0 0 (.ratss v22)),(1114,.arr 3 0 0 (.ints v23))]⟩] [.swap 1113 1000,.swap 1114 1001,.keep [6,7] [6,1000,1001]] rfl ⟨fun _ => ((W31 a0 a1 a2 (v21,v22,v23) hk20).swap 1000 1113).swap 1001 1114,hd19,trivial⟩ ?_
      cases h
      exact Tri.ret rfl ⟨.inl rfl,rfl,rfl⟩
     ·refine Tri.f 1 [.g false] [.keep [1,2,3,6,8,9] [3,6,8,1100,1101,1110,1111,1112]] rfl ⟨hd19,trivial⟩ ?_
      obtain ⟨hg21,h⟩ := grd_some h
      refine Tri.row [] [9] [.keep [1,2,3,6,8,9] [3,6,8,1100,1101,1110,1111]] (K' := [.code [(6,0),(0,0)] 0,.code [(6,0)] 1,.code [] 7]) (σ' := ⟨[(1,.i a3),(2,.i a4),(3,.ptr 3 0),(6,.ptr 6 0),(8,.ptr 8 0),(9,.sub 1110 0 1 a3.toNat)],[(3,.box [.list (.ratss a0),.list (.ints a1),.i a2]),(6,.box [.sl 1100 0,.sl 1101 0,.i 0]),(8,.box [.sl 1110 0,.sl 1111 0,.i v16]),(1100,.arr 26 0 0 (.ratss [])),(1101,.arr 3 0 0 (.ints [])),(1110,.arr 26 0 1 (.ratss (v17.set a3.toNat v20))),(1111,.arr 3 0 0 (.ints v18))]⟩) rfl ⟨hg21,trivial⟩ rfl ?_
      refine Tri.f 1 [] [.rever 1110,.keep [1,2,3,6,8,9,11] [3,6,8,1100,1101,1110,1111]] rfl trivial ?_
      obtain ⟨x1,hk34,h⟩ := bind_some h
      refine Tri.loop (K1 := [.code [(6,0),(1,0),(0,0)] 0]) (K2 := [.blk 0,.code [] 7]) (fun (v24,v25) => ⟨[(1,.i a3),(2,.i a4),(3,.ptr 3 0),(6,.ptr 6 0),(8,.ptr 8 0),(9,.sub 1110 0 0 a3.toNat),(11,.i v24)],[(3,.box [.list (.ratss a0),.list (.ints a1),.i a2]),(6,.box [.sl 1100 0,.sl 1101 0,.i 0]),(8,.box [.sl 1110 0,.sl 1111 0,.i v16]),(1100,.arr 26 0 0 (.ratss [])),(1101,.arr 3 0 0 (.ints [])),(1110,.arr 26 0 0 (.ratss v25)),(1111,.arr 3 0 0 (.ints v18))]⟩) (fun x e σ' => match x with | (.inl v33) => e = .exit 0 ∧ σ' = ⟨[(1,.i a3),(2,.i a4),(6,.ptr 6 0),(8,.ptr 8 0)],[(6,.box [.sl 1100 0,.sl 1101 0,.i 0]),(8,.box [.sl 1110 0,.sl 1111 0,.i v16]),(1100,.arr 26 0 0 (.ratss [])),(1101,.arr 3 0 0 (.ints [])),(1110,.arr 26 0 0 (.ratss v33)),(1111,.arr 3 0 0 (.ints v18))]⟩ | (.inr r) => e = .ret ∧ K120 r σ') hk34 rfl rfl ?_ ?_
      ·intro s x hs
       clear h
       have h := hs
       clear hs
       obtain ⟨v24,v25⟩ := s
       refine Tri.f 1 [] [.keep [1,2,3,6,8,9,11,85] [3,6,8,1100,1101,1110,1111]] rfl trivial ?_
       rcases bif_some h with ⟨hd22,h⟩ | ⟨hd22,h⟩
       ·obtain ⟨hg23,h⟩ := grd_some h
        obtain ⟨hg24,h⟩ := grd_some h
        refine Tri.f 2 [.g true] [.keep [1,2,3,6,8,9,11,12] [3,6,8,12,1100,1101,1110,1111]] rfl ⟨hg24,hg23,hd22,trivial⟩ ?_
        rcases bif_some h with ⟨hd25,h⟩ | ⟨hd25,h⟩
        ·refine Tri.f 1 [.g true] [.keep [1,2,3,6,8,9,11,12,103] [3,6,8,12,1100,1101,1110,1111]] rfl ⟨hd25,trivial⟩ ?_
         refine Tri.f 2 [.g true] [.keep [1,2,3,6,8,9,11] [3,6,8,1100,1101,1110,1111]] rfl ⟨rfl,trivial⟩ ?_
         cases h
         exact Tri.nil ⟨rfl,rfl⟩
        ·obtain ⟨⟨v26,v27⟩,hk26,h⟩ := bind_some h
         refine Tri.f 1 [.g false,.v (.agg [.i v26,.i v27])] [.keep [1,2,3,6,8,9,11,12,103] [3,6,8,12,1100,1101,1110,1111]] rfl ⟨fun _ => W12 (0 : Int) (v26,v27) hk26,hd25,trivial⟩ ?_
         rcases bif_some h with ⟨hd27,h⟩ | ⟨hd27,h⟩
         ·refine Tri.f 2 [.g true] [.keep [1,2,3,6,8,9,11] [3,6,8,1100,1101,1110,1111]] rfl ⟨hd27,trivial⟩ ?_
          cases h
          exact Tri.nil ⟨rfl,rfl⟩
         ·obtain ⟨hg28,h⟩ := grd_some h
          obtain ⟨⟨v28,v29⟩,hk29,h⟩ := bind_some h
          refine Tri.f 3 [.g false,.r ⟨[],.tuple [.sl 1115 0,.bool v28],[(1115,.arr 32 0 0 (.rats v29))]⟩] [.keep [1,2,3,6,8,9,11,13,121] [3,6,8,1100,1101,1110,1111,1115]] rfl ⟨fun _ => (W24 (a0.getD v24.toNat []) (IntKind.i64.wrap (0 - (((a0.getD v24.toNat []).getD a4.toNat ⟨0,0⟩).num))) (((a0.getD v24.toNat []).getD a4.toNat ⟨0,0⟩).den) (v25.getD a3.toNat []) (v28,v29) hk29).swap 1000 1115,hg28,hd27,trivial⟩ ?_
          rcases bif_some h with ⟨hd30,h⟩ | ⟨hd30,h⟩
          ·obtain ⟨⟨v30,v31,v32⟩,hk31,h⟩ := bind_some h
           refine Tri.f 2 [.g true,.r ⟨[],.agg [.sl 1116 0,.sl 1117 0,.i v30],[(1116,.arr 26 0 0 (.ratss v31)),(1117,.arr 3 0 0 (.ints v32))]⟩] [.swap 1116 1000,.swap 1117 1001,.keep [6,7] [6,1000,1001]] rfl ⟨fun _ => ((W31 a0 a1 a2 (v30,v31,v32) hk31).swap 1000 1116).swap 1001 1117,hd30,trivial⟩ ?_
           cases h
           exact Tri.ret rfl ⟨nofun,rfl,rfl,rfl⟩
          ·refine Tri.f 1 [.g false] [.keep [1,2,3,6,8,9,11,13] [3,6,8,1100,1101,1110,1111,1115]] rfl ⟨hd30,trivial⟩ ?_
           obtain ⟨hg32,h⟩ := grd_some h
           obtain ⟨hg33,h⟩ := grd_some h
           refine Tri.row [] [9] [.keep [1,2,3,6,8,9,11] [3,6,8,1100,1101,1110,1111]] (K' := [.code [(6,0),(1,0),(0,0)] 2]) (σ' := ⟨[(1,.i a3),(2,.i a4),(3,.ptr 3 0),(6,.ptr 6 0),(8,.ptr 8 0),(9,.sub 1110 0 1 a3.toNat),(11,.i v24)],[(3,.box [.list (.ratss a0),.list (.ints a1),.i a2]),(6,.box [.sl 1100 0,.sl 1101 0,.i 0]),(8,.box [.sl 1110 0,.sl 1111 0,.i v16]),(1100,.arr 26 0 0 (.ratss [])),(1101,.arr 3 0 0 (.ints [])),(1110,.arr 26 0 1 (.ratss (v25.set v24.toNat v29))),(1111,.arr 3 0 0 (.ints v18))]⟩) rfl ⟨hg33,hg32,trivial⟩ rfl ?_
           refine Tri.f 1 [] [.rever 1110,.keep [1,2,3,6,8,9,11] [3,6,8,1100,1101,1110,1111]] rfl trivial ?_
           cases h
           exact Tri.nil ⟨rfl,rfl⟩
       ·refine Tri.f 1 [.g false] [.keep [1,2,6,8] [6,8,1100,1101,1110,1111]] rfl ⟨hd22,trivial⟩ ?_
        cases h
        exact Tri.out 0 rfl ⟨nofun,rfl,rfl⟩
      ·intro e σ' hne hq
       rcases x1 with v33 | r
       ·obtain ⟨rfl,rfl⟩ := hq
        refine TriX.exit (K' := [.code [] 7]) rfl ?_
        obtain ⟨hg35,h⟩ := grd_some h
        refine Tri.f 2 [] [.swap 1110 1000,.swap 1111 1001,.keep [6,7] [6,1000,1001]] rfl ⟨hg35,trivial⟩ ?_
        cases h
        exact Tri.ret rfl ⟨.inl rfl,rfl,rfl⟩
       ·obtain ⟨rfl,hq⟩ := hq
        cases h
        exact TriX.ret ⟨.inl rfl,hq⟩
noncomputable def E209 : Env := ⟨Try.prog,tys,(Try.f72.body).getD .skip,49,tysOk,mixedOk⟩
abbrev K121 (u0 : Value) (a0 : List (List Int)) (u1 : Value) (a1 : List Int) (u2 : Value) (a2 : List Q) (r : (List (List Q)) × (List Int) × Int × Int × Bool) (σ' : ASt) : Prop := isRes E209.T Try.f72 (.tuple []) [(1000,.arr 26 0 0 (.ratss r.1)),(1001,.arr 3 0 0 (.ints r.2.1)),(2200,.box [.lst u0 (.intss a0),.lst u1 (.ints a1),.lst u2 (.rats a2),.sl 1000 0,.sl 1001 0,.i r.2.2.1,.i r.2.2.2.1,.bool r.2.2.2.2])] σ'
noncomputable def m_spec_l7Pivot_io3 (_a0 : List (List Int)) (_a1 : List Int) (_a2 : List Q) (a3 : List (List Q)) (a4 : List Int) (a5 a6 : Int) (a7 : Bool) (a8 a9 : Int) : Option ((List (List Q)) × (List Int) × Int × Int × Bool) :=
bif decide (a6 ≥ 1000) then
(some (a3,a4,a5,a6,true))
else
((m_spec_PivotTableau a3 a4 a5 a8 a9).bind fun (v1,v2,v3,v4) =>
bif a7 then
(some (v3,v4,v1,IntKind.i64.wrap (a6 + 1),true))
else
(some (v3,v4,v1,IntKind.i64.wrap (a6 + 1),!v2)))
theorem W34 (u0 u1 u2 : Value) (a0 : List (List Int)) (a1 : List Int) (a2 : List Q) (a3 : List (List Q)) (a4 : List Int) (a5 : Int) (a6 : Int) (a7 : Bool) (a8 : Int) (a9 : Int) (r : (List (List Q)) × (List Int) × Int × Int × Bool) (h : m_spec_l7Pivot_io3 a0 a1 a2 a3 a4 a5 a6 a7 a8 a9 = some r) : AM.Spec Try.prog 72 [.ptr 2200 0,.i a8,.i a9] [(2200,.box [.lst u0 (.intss a0),.lst u1 (.ints a1),.lst u2 (.rats a2),.sl 2201 0,.sl 2202 0,.i a5,.i a6,.bool a7]),(2201,.arr 26 0 0 (.ratss a3)),(2202,.arr 3 0 0 (.ints a4))] (.tuple []) [(1000,.arr 26 0 0 (.ratss r.1)),(1001,.arr 3 0 0 (.ints r.2.1)),(2200,.box [.lst u0 (.intss a0),.lst u1 (.ints a1),.lst u2 (.rats a2),.sl 1000 0,.sl 1001 0,.i r.2.2.1,.i r.2.2.2.1,.bool r.2.2.2.2])] := by
 refine spec_of (E := E209) Try.func72 rfl rfl rfl rfl ?_
 refine Tri.f 1 [] [.keep [0,1,2,12] [2200,2201,2202]] rfl trivial ?_
 rcases bif_some h with ⟨hd1,h⟩ | ⟨hd1,h⟩
 ·refine Tri.f 2 [.g true] [.swap 2201 1100,.swap 2202 1101,.swap 1100 1000,.swap 1101 1001,.keep [] [1000,1001,2200]] rfl ⟨hd1,trivial⟩ ?_
  cases h
  exact Tri.ret rfl ⟨.inl rfl,rfl,rfl⟩
 ·obtain ⟨⟨v1,v2,v3,v4⟩,hk2,h⟩ := bind_some h
  refine Tri.f 3 [.g false,.r ⟨[],.tuple [.agg [.sl 1102 0,.sl 1103 0,.i v1],.bool v2],[(1102,.arr 26 0 0 (.ratss v3)),(1103,.arr 3 0 0 (.ints v4))]⟩] [.keep [0,7] [1102,1103,2200,2201,2202]] rfl ⟨fun _ => ((W33 a3 a4 a5 a8 a9 (v1,v2,v3,v4) hk2).swap 1000 1102).swap 1001 1103,hd1,trivial⟩ ?_
  refine Tri.f 1 [] [.keep [0,7] [1102,1103,2200,2201,2202]] rfl trivial ?_
  rcases bif_some h with ⟨hd3,h⟩ | ⟨hd3,h⟩
  ·refine Tri.f 1 [.g true] [.swap 1102 1000,.swap 1103 1001,.keep [] [1000,1001,2200]] rfl ⟨hd3,trivial⟩ ?_
   cases h
   exact Tri.nil ⟨.inr rfl,rfl,rfl⟩
  ·refine Tri.f 1 [.g false] [.swap 1102 1000,.swap 1103 1001,.keep [] [1000,1001,2200]] rfl ⟨hd3,trivial⟩ ?_
   cases h
   exact Tri.nil ⟨.inr rfl,rfl,rfl⟩
noncomputable def E210 : Env := ⟨Try.prog,tys,(Try.f41.body).getD .skip,58,tysOk,mixedOk⟩
abbrev K122 (u0 : Value) (a0 : List (List Int)) (u1 : Value) (a1 : List Int) (u2 : Value) (a2 : List Q) (r : Int × (List Q) × (List (List Q)) × (List Int) × Int × Int × Bool) (σ' : ASt) : Prop := isRes E210.T Try.f41 (.tuple [.sl 1000 0,.i r.1]) [(1000,.arr 32 0 0 (.rats r.2.1)),(1001,.arr 26 0 0 (.ratss r.2.2.1)),(1002,.arr 3 0 0 (.ints r.2.2.2.1)),(2180,.box [.lst u0 (.intss a0),.lst u1 (.ints a1),.lst u2 (.rats a2),.sl 1001 0,.sl 1002 0,.i r.2.2.2.2.1,.i r.2.2.2.2.2.1,.bool r.2.2.2.2.2.2])] σ'
noncomputable def l_spec_l7Phase_io3_0 (a0 : List (List Int)) (a1 : List Int) (a2 a8 : List Q) : ((List (List Q)) × (List Int) × Int × Int × Bool) → Option (((List (List Q)) × (List Int) × Int × Int × Bool) ⊕ ((Int × (List Q) × (List (List Q)) × (List Int) × Int × Int × Bool)))
 | (v1,v2,v3,v4,v5) => (
(m_spec_CostRow v1 v2 v3 a8).bind fun (v6,v7) =>
bif !v6 then
(some (.inr ((-1 : Int),v7,v1,v2,v3,v4,true)))
else
((m_spec_EnteringColumn v1 v2 v3 v7 v3).bind fun v8 =>
bif decide (v8 < 0) then
(some (.inr ((-1 : Int),v7,v1,v2,v3,v4,v5)))
else
((m_spec_LeavingRow v1 v2 v3 v8).bind fun v9 =>
bif decide (v9 < 0) then
(some (.inr (v8,v7,v1,v2,v3,v4,v5)))
else
((m_spec_l7Pivot_io3 a0 a1 a2 v1 v2 v3 v4 v5 v9 v8).bind fun (v10,v11,v12,v13,v14) =>
bif v14 then
(some (.inr ((-1 : Int),v7,v10,v11,v12,v13,v14)))
else
(some (.inl (v10,v11,v12,v13,v14)))))))
noncomputable def m_spec_l7Phase_io3 (a0 : List (List Int)) (a1 : List Int) (a2 : List Q) (a3 : List (List Q)) (a4 : List Int) (a5 a6 : Int) (a7 : Bool) (a8 : List Q) : Option (Int × (List Q) × (List (List Q)) × (List Int) × Int × Int × Bool) :=
(iter (l_spec_l7Phase_io3_0 a0 a1 a2 a8) (a3,a4,a5,a6,a7)).bind fun
| r => some r
theorem W35 (u0 u1 u2 : Value) (a0 : List (List Int)) (a1 : List Int) (a2 : List Q) (a3 : List (List Q)) (a4 : List Int) (a5 : Int) (a6 : Int) (a7 : Bool) (a8 : List Q) (r : Int × (List Q) × (List (List Q)) × (List Int) × Int × Int × Bool) (h : m_spec_l7Phase_io3 a0 a1 a2 a3 a4 a5 a6 a7 a8 = some r) : AM.Spec Try.prog 41 [.ptr 2180 0,.list (.rats a8)] [(2180,.box [.lst u0 (.intss a0),.lst u1 (.ints a1),.lst u2 (.rats a2),.sl 2181 0,.sl 2182 0,.i a5,.i a6,.bool a7]),(2181,.arr 26 0 0 (.ratss a3)),(2182,.arr 3 0 0 (.ints a4))] (.tuple [.sl 1000 0,.i r.1]) [(1000,.arr 32 0 0 (.rats r.2.1)),(1001,.arr 26 0 0 (.ratss r.2.2.1)),(1002,.arr 3 0 0 (.ints r.2.2.2.1)),(2180,.box [.lst u0 (.intss a0),.lst u1 (.ints a1),.lst u2 (.rats a2),.sl 1001 0,.sl 1002 0,.i r.2.2.2.2.1,.i r.2.2.2.2.2.1,.bool r.2.2.2.2.2.2])] := by
 refine spec_of (E := E210) Try.func41 rfl rfl rfl rfl ?_
 refine Tri.f 1 [] [.swap 2181 1100,.swap 2182 1101,.keep [0,1] [1100,1101,2180]] rfl trivial ?_
 obtain ⟨r,hk9,h⟩ := bind_some h
 refine Tri.loop (K1 := [.code [(1,0),(0,0)] 0]) (K2 := [.blk 0]) (fun (v1,v2,v3,v4,v5) => ⟨[(0,.ptr 2180 0),(1,.list (.rats a8))],[(1100,.arr 26 0 0 (.ratss v1)),(1101,.arr 3 0 0 (.ints v2)),(2180,.box [.lst u0 (.intss a0),.lst u1 (.ints a1),.lst u2 (.rats a2),.sl 1100 0,.sl 1101 0,.i v3,.i v4,.bool v5])]⟩) (fun x e σ' => match x with | r => e = .ret ∧ K122 u0 a0 u1 a1 u2 a2 r σ') hk9 rfl rfl ?_ ?_
 ·intro s x hs
  clear h
  have h := hs
  clear hs
  obtain ⟨v1,v2,v3,v4,v5⟩ := s
  obtain ⟨⟨v6,v7⟩,hk1,h⟩ := bind_some h
  refine Tri.f 2 [.r ⟨[],.tuple [.sl 1102 0,.bool v6],[(1102,.arr 32 0 0 (.rats v7))]⟩] [.keep [0,1,6,20] [1100,1101,1102,2180]] rfl ⟨fun _ => (W25 v1 v2 v3 a8 (v6,v7) hk1).swap 1000 1102,trivial⟩ ?_
  rcases bif_some h with ⟨hd2,h⟩ | ⟨hd2,h⟩
  ·refine Tri.f 3 [.g true] [.swap 1102 1000,.swap 1100 1001,.swap 1101 1002,.keep [4,5] [1000,1001,1002,2180]] rfl ⟨hd2,trivial⟩ ?_
   cases h
   exact Tri.ret rfl ⟨nofun,rfl,rfl,rfl⟩
  ·obtain ⟨v8,hk3,h⟩ := bind_some h
   refine Tri.f 3 [.g false,.v (.i v8)] [.keep [0,1,6,8,37] [1100,1101,1102,2180]] rfl ⟨fun _ => W28 v1 v2 v3 v7 v3 v8 hk3,hd2,trivial⟩ ?_
   rcases bif_some h with ⟨hd4,h⟩ | ⟨hd4,h⟩
   ·refine Tri.f 2 [.g true] [.swap 1102 1000,.swap 1100 1001,.swap 1101 1002,.keep [4,5] [1000,1001,1002,2180]] rfl ⟨hd4,trivial⟩ ?_
    cases h
    exact Tri.ret rfl ⟨nofun,rfl,rfl,rfl⟩
   ·obtain ⟨v9,hk5,h⟩ := bind_some h
    refine Tri.f 3 [.g false,.v (.i v9)] [.keep [0,1,6,8,9,46] [1100,1101,1102,2180]] rfl ⟨fun _ => W30 v1 v2 v3 v8 v9 hk5,hd4,trivial⟩ ?_
    rcases bif_some h with ⟨hd6,h⟩ | ⟨hd6,h⟩
    ·refine Tri.f 2 [.g true] [.swap 1102 1000,.swap 1100 1001,.swap 1101 1002,.keep [4,5] [1000,1001,1002,2180]] rfl ⟨hd6,trivial⟩ ?_
     cases h
     exact Tri.ret rfl ⟨nofun,rfl,rfl,rfl⟩
    ·obtain ⟨⟨v10,v11,v12,v13,v14⟩,hk7,h⟩ := bind_some h
     refine Tri.f 3 [.g false,.r ⟨[2180,1100,1101],.tuple [],[(1103,.arr 26 0 0 (.ratss v10)),(1104,.arr 3 0 0 (.ints v11)),(2180,.box [.undf,.undf,.undf,.sl 1103 0,.sl 1104 0,.i v12,.i v13,.bool v14])]⟩] [.keep [0,1,6,56] [1102,1103,1104,2180]] rfl ⟨(fun vf => ((((((W34 (vf 2180 0) (vf 2180 1) (vf 2180 2) a0 a1 a2 v1 v2 v3 v4 v5 v9 v8 (v10,v11,v12,v13,v14) hk7).swap 1000 1103).swap 1001 1104).swap 2200 2180).swap 2201 1100).swap 2202 1101)),hd6,trivial⟩ ?_
     rcases bif_some h with ⟨hd8,h⟩ | ⟨hd8,h⟩
     ·refine Tri.f 2 [.g true] [.swap 1102 1000,.swap 1103 1001,.swap 1104 1002,.keep [4,5] [1000,1001,1002,2180]] rfl ⟨hd8,trivial⟩ ?_
      cases h
      exact Tri.ret rfl ⟨nofun,rfl,rfl,rfl⟩
     ·refine Tri.f 1 [.g false] [.swap 1103 1100,.swap 1104 1101,.keep [0,1] [1100,1101,2180]] rfl ⟨hd8,trivial⟩ ?_
      cases h
      exact Tri.nil ⟨rfl,rfl⟩
 ·intro e σ' hne hq
  obtain ⟨rfl,hq⟩ := hq
  cases h
  exact TriX.ret ⟨.inl rfl,hq⟩
noncomputable def E211 : Env := ⟨Try.prog,tys,(Try.f74.body).getD .skip,19,tysOk,mixedOk⟩
abbrev K123 (r : Int × Int × Bool) (σ' : ASt) : Prop := isRes E211.T Try.f74 (.tuple [.agg [.i r.1,.i r.2.1],.bool r.2.2]) [] σ'
noncomputable def m_spec_SubRat (a0 a1 a2 a3 : Int) : Option (Int × Int × Bool) :=
(m_spec_IsValidRat a2 a3).bind fun v1 =>
bif !v1 then
(some (0,0,false))
else
((m_spec_AddRat a0 a1 (IntKind.i64.wrap (0 - a2)) a3).bind fun (v2,v3,v4) =>
some (v2,v3,v4))
theorem W36 (a0 a1 a2 a3 : Int) (r : Int × Int × Bool) (h : m_spec_SubRat a0 a1 a2 a3 = some r) : AM.Spec Try.prog 74 [.agg [.i a0,.i a1],.agg [.i a2,.i a3]] [] (.tuple [.agg [.i r.1,.i r.2.1],.bool r.2.2]) [] := by
 refine spec_of (E := E211) Try.func74 rfl rfl rfl rfl ?_
 refine Tri.f 1 [] [.keep [2,3,4] [2,3,4]] rfl trivial ?_
 obtain ⟨v1,hk1,h⟩ := bind_some h
 refine Tri.f 1 [.v (.bool v1)] [.keep [2,3,4,8] [2,3,4]] rfl ⟨fun _ => W9 a2 a3 v1 hk1,trivial⟩ ?_
 rcases bif_some h with ⟨hd2,h⟩ | ⟨hd2,h⟩
 ·refine Tri.f 2 [.g true] [.keep [4,5] [4]] rfl ⟨hd2,trivial⟩ ?_
  cases h
  exact Tri.ret rfl ⟨.inl rfl,rfl,rfl⟩
 ·refine Tri.f 2 [.g false] [.keep [2,3,4] [2,3,4]] rfl ⟨hd2,trivial⟩ ?_
  obtain ⟨⟨v2,v3,v4⟩,hk3,h⟩ := bind_some h
  refine Tri.f 1 [.v (.tuple [.agg [.i v2,.i v3],.bool v4])] [.keep [4,5] [4]] rfl ⟨fun _ => W23 a0 a1 (IntKind.i64.wrap (0 - a2)) a3 (v2,v3,v4) hk3,trivial⟩ ?_
  cases h
  exact Tri.ret rfl ⟨.inl rfl,rfl,rfl⟩
noncomputable def E212 : Env := ⟨Try.prog,tys,(Try.f44.body).getD .skip,56,tysOk,mixedOk⟩
abbrev K124 (u0 : Value) (a0 : List (List Int)) (u1 : Value) (a1 : List Int) (u2 : Value) (a2 : List Q) (r : (List Q) × (List (List Q)) × (List Int) × Int × Int × Bool) (σ' : ASt) : Prop := isRes E212.T Try.f44 (.sl 1000 0) [(1000,.arr 32 0 0 (.rats r.1)),(1001,.arr 26 0 0 (.ratss r.2.1)),(1002,.arr 3 0 0 (.ints r.2.2.1)),(2220,.box [.lst u0 (.intss a0),.lst u1 (.ints a1),.lst u2 (.rats a2),.sl 1001 0,.sl 1002 0,.i r.2.2.2.1,.i r.2.2.2.2.1,.bool r.2.2.2.2.2])] σ'
noncomputable def l_spec_l7Dual_io3_0 (a0 : List (List Int)) (a1 : List Int) (a5 : Int) (a8 : List Q) (a9 : Int) : (Int × (List Q)) → Option ((Int × (List Q)) ⊕ ((List Q)))
 | (v1,v2) => (
bif decide (v1 < (a0.length : Int)) then
((m_spec_l3Int a9).bind fun (v3,v4) =>
grd (0 ≤ IntKind.i64.wrap (a5 + v1) ∧ IntKind.i64.wrap (a5 + v1) < (a8.length : Int)) <|
(m_spec_SubRat v3 v4 ((a8.getD ((IntKind.i64.wrap (a5 + v1)).toNat) ⟨0,0⟩).num) ((a8.getD ((IntKind.i64.wrap (a5 + v1)).toNat) ⟨0,0⟩).den)).bind fun (v5,v6,_) =>
grd (0 ≤ v1 ∧ v1 < (a1.length : Int)) <|
bif decide ((a1.getD v1.toNat 0) < 0) then
(grd (v2.length + ([⟨IntKind.i64.wrap (0 - v5),v6⟩] : List Q).length ≤ room) <|
some (.inl (IntKind.i64.wrap (v1 + 1),v2 ++ [⟨IntKind.i64.wrap (0 - v5),v6⟩])))
else
(grd (v2.length + ([⟨v5,v6⟩] : List Q).length ≤ room) <|
some (.inl (IntKind.i64.wrap (v1 + 1),v2 ++ [⟨v5,v6⟩]))))
else
(some (.inr v2)))
noncomputable def m_spec_l7Dual_io3 (a0 : List (List Int)) (a1 : List Int) (_a2 : List Q) (a3 : List (List Q)) (a4 : List Int) (a5 a6 : Int) (a7 : Bool) (a8 : List Q) (a9 : Int) : Option ((List Q) × (List (List Q)) × (List Int) × Int × Int × Bool) :=
(iter (l_spec_l7Dual_io3_0 a0 a1 a5 a8 a9) ((0 : Int),[])).bind fun
| v8 => (
some (v8,a3,a4,a5,a6,a7))
theorem W37 (u0 u1 u2 : Value) (a0 : List (List Int)) (a1 : List Int) (a2 : List Q) (a3 : List (List Q)) (a4 : List Int) (a5 : Int) (a6 : Int) (a7 : Bool) (a8 : List Q) (a9 : Int) (r : (List Q) × (List (List Q)) × (List Int) × Int × Int × Bool) (h : m_spec_l7Dual_io3 a0 a1 a2 a3 a4 a5 a6 a7 a8 a9 = some r) : AM.Spec Try.prog 44 [.ptr 2220 0,.list (.rats a8),.i a9] [(2220,.box [.lst u0 (.intss a0),.lst u1 (.ints a1),.lst u2 (.rats a2),.sl 2221 0,.sl 2222 0,.i a5,.i a6,.bool a7]),(2221,.arr 26 0 0 (.ratss a3)),(2222,.arr 3 0 0 (.ints a4))] (.sl 1000 0) [(1000,.arr 32 0 0 (.rats r.1)),(1001,.arr 26 0 0 (.ratss r.2.1)),(1002,.arr 3 0 0 (.ints r.2.2.1)),(2220,.box [.lst u0 (.intss a0),.lst u1 (.ints a1),.lst u2 (.rats a2),.sl 1001 0,.sl 1002 0,.i r.2.2.2.1,.i r.2.2.2.2.1,.bool r.2.2.2.2.2])] := by
 refine spec_of (E := E212) Try.func44 rfl rfl rfl rfl ?_
 refine Tri.f 3 [] [.swap 2221 1100,.swap 2222 1101,.keep [0,1,2,7,8] [11,1100,1101,2220]] rfl trivial ?_
 obtain ⟨v8,hk9,h⟩ := bind_some h
 refine Tri.loop (K1 := [.code [(2,0),(1,0),(0,0)] 0]) (K2 := [.blk 0,.code [] 3]) (fun (v1,v2) => ⟨[(0,.ptr 2220 0),(1,.list (.rats a8)),(2,.i a9),(7,.sl 11 0),(8,.i v1)],[(11,.arr 32 0 0 (.rats v2)),(1100,.arr 26 0 0 (.ratss a3)),(1101,.arr 3 0 0 (.ints a4)),(2220,.box [.lst u0 (.intss a0),.lst u1 (.ints a1),.lst u2 (.rats a2),.sl 1100 0,.sl 1101 0,.i a5,.i a6,.bool a7])]⟩) (fun x e σ' => match x with | v8 => e = .exit 0 ∧ σ' = ⟨[(7,.sl 11 0)],[(11,.arr 32 0 0 (.rats v8)),(1100,.arr 26 0 0 (.ratss a3)),(1101,.arr 3 0 0 (.ints a4)),(2220,.box [.lst u0 (.intss a0),.lst u1 (.ints a1),.lst u2 (.rats a2),.sl 1100 0,.sl 1101 0,.i a5,.i a6,.bool a7])]⟩) hk9 rfl rfl ?_ ?_
 ·intro s x hs
  clear h
  have h := hs
  clear hs
  obtain ⟨v1,v2⟩ := s
  refine Tri.f 1 [] [.keep [0,1,2,7,8,19] [11,1100,1101,2220]] rfl trivial ?_
  rcases bif_some h with ⟨hd1,h⟩ | ⟨hd1,h⟩
  ·obtain ⟨⟨v3,v4⟩,hk2,h⟩ := bind_some h
   obtain ⟨hg3,h⟩ := grd_some h
   obtain ⟨⟨v5,v6,v7⟩,hk4,h⟩ := bind_some h
   obtain ⟨hg5,h⟩ := grd_some h
   refine Tri.f 3 [.g true,.v (.agg [.i v3,.i v4]),.v (.tuple [.agg [.i v5,.i v6],.bool v7])] [.keep [0,1,2,7,8,9,46] [9,11,1100,1101,2220]] rfl ⟨hg5,fun _ => W36 v3 v4 ((a8.getD ((IntKind.i64.wrap (a5 + v1)).toNat) ⟨0,0⟩).num) ((a8.getD ((IntKind.i64.wrap (a5 + v1)).toNat) ⟨0,0⟩).den) (v5,v6,v7) hk4,hg3,fun _ => W12 a9 (v3,v4) hk2,hd1,trivial⟩ ?_
   rcases bif_some h with ⟨hd6,h⟩ | ⟨hd6,h⟩
   ·obtain ⟨hg7,h⟩ := grd_some h
    refine Tri.f 3 [.g true] [.keep [0,1,2,7,8] [11,1100,1101,2220]] rfl ⟨hg7,hd6,trivial⟩ ?_
    refine Tri.f 1 [] [.rever 11,.keep [0,1,2,7,8] [11,1100,1101,2220]] rfl trivial ?_
    cases h
    exact Tri.nil ⟨rfl,rfl⟩
   ·obtain ⟨hg8,h⟩ := grd_some h
    refine Tri.f 3 [.g false] [.rever 11,.keep [0,1,2,7,8] [11,1100,1101,2220]] rfl ⟨hg8,hd6,trivial⟩ ?_
    cases h
    exact Tri.nil ⟨rfl,rfl⟩
  ·refine Tri.f 1 [.g false] [.keep [7] [11,1100,1101,2220]] rfl ⟨hd1,trivial⟩ ?_
   cases h
   exact Tri.out 0 rfl ⟨nofun,rfl,rfl⟩
 ·intro e σ' hne hq
  obtain ⟨rfl,rfl⟩ := hq
  refine TriX.exit (K' := [.code [] 3]) rfl ?_
  refine Tri.f 1 [] [.swap 11 1000,.swap 1100 1001,.swap 1101 1002,.keep [6] [1000,1001,1002,2220]] rfl trivial ?_
  cases h
  exact Tri.ret rfl ⟨.inl rfl,rfl,rfl⟩
noncomputable def E213 : Env := ⟨Try.prog,tys,(Try.f45.body).getD .skip,61,tysOk,mixedOk⟩
abbrev K125 (u0 : Value) (a0 : List (List Int)) (u1 : Value) (a1 : List Int) (u2 : Value) (a2 : List Q) (r : (List (List Q)) × (List Int) × Int × Int × Bool) (σ' : ASt) : Prop := isRes E213.T Try.f45 (.tuple []) [(1000,.arr 26 0 0 (.ratss r.1)),(1001,.arr 3 0 0 (.ints r.2.1)),(2240,.box [.lst u0 (.intss a0),.lst u1 (.ints a1),.lst u2 (.rats a2),.sl 1000 0,.sl 1001 0,.i r.2.2.1,.i r.2.2.2.1,.bool r.2.2.2.2])] σ'
noncomputable def l_spec_l7Drive_io3_1 (a0 : List (List Int)) (a1 : List Int) (a2 : List Q) (v1 : Int) (v2 : List (List Q)) (v3 : List Int) (v4 v5 : Int) (v6 : Bool) (v7 : Int) : Option (Int ⊕ (((List (List Q)) × (List Int) × Int × Int × Bool))) :=
bif decide (v7 < v4) then
(grd (0 ≤ v1 ∧ v1 < (v2.length : Int)) <|
grd (0 ≤ v7 ∧ v7 < ((v2.getD v1.toNat []).length : Int)) <|
bif (((v2.getD v1.toNat []).getD v7.toNat ⟨0,0⟩).num) != 0 then
((m_spec_l7Pivot_io3 a0 a1 a2 v2 v3 v4 v5 v6 v1 v7).bind fun (v8,v9,v10,v11,v12) =>
some (.inr (v8,v9,v10,v11,v12)))
else
(some (.inl (IntKind.i64.wrap (v7 + 1)))))
else
(some (.inr (v2,v3,v4,v5,v6)))
noncomputable def l_spec_l7Drive_io3_0 (a0 : List (List Int)) (a1 : List Int) (a2 : List Q) : (Int × (List (List Q)) × (List Int) × Int × Int × Bool) → Option ((Int × (List (List Q)) × (List Int) × Int × Int × Bool) ⊕ (((List (List Q)) × (List Int) × Int × Int × Bool)))
 | (v1,v2,v3,v4,v5,v6) => (
bif decide (v1 < (v2.length : Int)) then
(bif !v6 then
(grd (0 ≤ v1 ∧ v1 < (v3.length : Int)) <|
bif decide ((v3.getD v1.toNat 0) < v4) then
(some (.inl (IntKind.i64.wrap (v1 + 1),v2,v3,v4,v5,v6)))
else
((iter (l_spec_l7Drive_io3_1 a0 a1 a2 v1 v2 v3 v4 v5 v6) (0 : Int)).bind fun
| (v13,v14,v15,v16,v17) => (
some (.inl (IntKind.i64.wrap (v1 + 1),v13,v14,v15,v16,v17)))))
else
(some (.inr (v2,v3,v4,v5,v6))))
else
(some (.inr (v2,v3,v4,v5,v6))))
noncomputable def m_spec_l7Drive_io3 (a0 : List (List Int)) (a1 : List Int) (a2 : List Q) (a3 : List (List Q)) (a4 : List Int) (a5 a6 : Int) (a7 : Bool) : Option ((List (List Q)) × (List Int) × Int × Int × Bool) :=
(iter (l_spec_l7Drive_io3_0 a0 a1 a2) ((0 : Int),a3,a4,a5,a6,a7)).bind fun
| (v18,v19,v20,v21,v22) => (
some (v18,v19,v20,v21,v22))
theorem W38 (u0 u1 u2 : Value) (a0 : List (List Int)) (a1 : List Int) (a2 : List Q) (a3 : List (List Q)) (a4 : List Int) (a5 : Int) (a6 : Int) (a7 : Bool) (r : (List (List Q)) × (List Int) × Int × Int × Bool) (h : m_spec_l7Drive_io3 a0 a1 a2 a3 a4 a5 a6 a7 = some r) : AM.Spec Try.prog 45 [.ptr 2240 0] [(2240,.box [.lst u0 (.intss a0),.lst u1 (.ints a1),.lst u2 (.rats a2),.sl 2241 0,.sl 2242 0,.i a5,.i a6,.bool a7]),(2241,.arr 26 0 0 (.ratss a3)),(2242,.arr 3 0 0 (.ints a4))] (.tuple []) [(1000,.arr 26 0 0 (.ratss r.1)),(1001,.arr 3 0 0 (.ints r.2.1)),(2240,.box [.lst u0 (.intss a0),.lst u1 (.ints a1),.lst u2 (.rats a2),.sl 1000 0,.sl 1001 0,.i r.2.2.1,.i r.2.2.2.1,.bool r.2.2.2.2])] := by
 refine spec_of (E := E213) Try.func45 rfl rfl rfl rfl ?_
 refine Tri.f 1 [] [.swap 2241 1100,.swap 2242 1101,.keep [0,2] [1100,1101,2240]] rfl trivial ?_
 obtain ⟨x2,hk11,h⟩ := bind_some h
 refine Tri.loop (K1 := [.code [(1,0),(0,0)] 0]) (K2 := [.blk 0]) (fun (v1,v2,v3,v4,v5,v6) => ⟨[(0,.ptr 2240 0),(2,.i v1)],[(1100,.arr 26 0 0 (.ratss v2)),(1101,.arr 3 0 0 (.ints v3)),(2240,.box [.lst u0 (.intss a0),.lst u1 (.ints a1),.lst u2 (.rats a2),.sl 1100 0,.sl 1101 0,.i v4,.i v5,.bool v6])]⟩) (fun x e σ' => match x with | (v18,v19,v20,v21,v22) => e = .exit 0 ∧ σ' = ⟨[],[(1100,.arr 26 0 0 (.ratss v18)),(1101,.arr 3 0 0 (.ints v19)),(2240,.box [.lst u0 (.intss a0),.lst u1 (.ints a1),.lst u2 (.rats a2),.sl 1100 0,.sl 1101 0,.i v20,.i v21,.bool v22])]⟩) hk11 rfl rfl ?_ ?_
 ·intro s x hs
  clear h
  have h := hs
  clear hs
  obtain ⟨v1,v2,v3,v4,v5,v6⟩ := s
  rcases bif_some h with ⟨hd1,h⟩ | ⟨hd1,h⟩
  ·refine Tri.f 1 [.g true] [.keep [0,2,18] [1100,1101,2240]] rfl ⟨hd1,trivial⟩ ?_
   rcases bif_some h with ⟨hd2,h⟩ | ⟨hd2,h⟩
   ·obtain ⟨hg3,h⟩ := grd_some h
    refine Tri.f 2 [.g true] [.keep [0,2,34] [1100,1101,2240]] rfl ⟨hg3,hd2,trivial⟩ ?_
    rcases bif_some h with ⟨hd4,h⟩ | ⟨hd4,h⟩
    ·refine Tri.f 2 [.g true] [.keep [0,2] [1100,1101,2240]] rfl ⟨hd4,trivial⟩ ?_
     cases h
     exact Tri.nil ⟨rfl,rfl⟩
    ·refine Tri.f 2 [.g false] [.keep [0,2,3] [1100,1101,2240]] rfl ⟨hd4,trivial⟩ ?_
     obtain ⟨x2,hk10,h⟩ := bind_some h
     refine Tri.loop (K1 := [.code [(1,0),(0,0),(1,0),(0,0),(2,0),(0,0)] 0]) (K2 := [.blk 2,.blk 1,.code [(1,0),(0,0)] 2]) (fun v7 => ⟨[(0,.ptr 2240 0),(2,.i v1),(3,.i v7)],[(1100,.arr 26 0 0 (.ratss v2)),(1101,.arr 3 0 0 (.ints v3)),(2240,.box [.lst u0 (.intss a0),.lst u1 (.ints a1),.lst u2 (.rats a2),.sl 1100 0,.sl 1101 0,.i v4,.i v5,.bool v6])]⟩) (fun x e σ' => match x with | (v13,v14,v15,v16,v17) => e = .exit 2 ∧ σ' = ⟨[(0,.ptr 2240 0),(2,.i v1)],[(1102,.arr 26 0 0 (.ratss v13)),(1103,.arr 3 0 0 (.ints v14)),(2240,.box [.lst u0 (.intss a0),.lst u1 (.ints a1),.lst u2 (.rats a2),.sl 1102 0,.sl 1103 0,.i v15,.i v16,.bool v17])]⟩) hk10 rfl rfl ?_ ?_
     ·intro v7 x hs
      clear h
      have h := hs
      clear hs
      refine Tri.f 1 [] [.keep [0,2,3,41] [1100,1101,2240]] rfl trivial ?_
      rcases bif_some h with ⟨hd5,h⟩ | ⟨hd5,h⟩
      ·obtain ⟨hg6,h⟩ := grd_some h
       obtain ⟨hg7,h⟩ := grd_some h
       refine Tri.f 2 [.g true] [.keep [0,2,3,56] [1100,1101,2240]] rfl ⟨hg7,hg6,hd5,trivial⟩ ?_
       rcases bif_some h with ⟨hd8,h⟩ | ⟨hd8,h⟩
       ·obtain ⟨⟨v8,v9,v10,v11,v12⟩,hk9,h⟩ := bind_some h
        refine Tri.f 2 [.g true,.r ⟨[2240,1100,1101],.tuple [],[(1102,.arr 26 0 0 (.ratss v8)),(1103,.arr 3 0 0 (.ints v9)),(2240,.box [.undf,.undf,.undf,.sl 1102 0,.sl 1103 0,.i v10,.i v11,.bool v12])]⟩] [.keep [0,2] [1102,1103,2240]] rfl ⟨(fun vf => ((((((W34 (vf 2240 0) (vf 2240 1) (vf 2240 2) a0 a1 a2 v2 v3 v4 v5 v6 v1 v7 (v8,v9,v10,v11,v12) hk9).swap 1000 1102).swap 1001 1103).swap 2200 2240).swap 2201 1100).swap 2202 1101)),hd8,trivial⟩ ?_
        cases h
        exact Tri.out 2 rfl ⟨nofun,rfl,rfl⟩
       ·refine Tri.f 2 [.g false] [.keep [0,2,3] [1100,1101,2240]] rfl ⟨hd8,trivial⟩ ?_
        cases h
        exact Tri.nil ⟨rfl,rfl⟩
      ·refine Tri.f 1 [.g false] [.swap 1100 1102,.swap 1101 1103,.keep [0,2] [1102,1103,2240]] rfl ⟨hd5,trivial⟩ ?_
       cases h
       exact Tri.out 2 rfl ⟨nofun,rfl,rfl⟩
     ·intro e σ' hne hq
      obtain ⟨v13,v14,v15,v16,v17⟩ := x2
      obtain ⟨rfl,rfl⟩ := hq
      refine TriX.exit (K' := [.blk 1,.code [(1,0),(0,0)] 2]) rfl ?_
      refine Tri.f 1 [] [.swap 1102 1100,.swap 1103 1101,.keep [0,2] [1100,1101,2240]] rfl trivial ?_
      cases h
      exact Tri.nil ⟨rfl,rfl⟩
   ·refine Tri.f 1 [.g false] [.keep [] [1100,1101,2240]] rfl ⟨hd2,trivial⟩ ?_
    cases h
    exact Tri.out 0 rfl ⟨nofun,rfl,rfl⟩
  ·refine Tri.f 1 [.g false] [.keep [0,2,18] [1100,1101,2240]] rfl ⟨hd1,trivial⟩ ?_
   refine Tri.f 1 [.g false] [.keep [] [1100,1101,2240]] rfl ⟨rfl,trivial⟩ ?_
   cases h
   exact Tri.out 0 rfl ⟨nofun,rfl,rfl⟩
 ·intro e σ' hne hq
  obtain ⟨v18,v19,v20,v21,v22⟩ := x2
  obtain ⟨rfl,rfl⟩ := hq
  refine TriX.exit (K' := []) rfl ?_
  refine Tri.f 0 [] [.swap 1100 1000,.swap 1101 1001,.keep [] [1000,1001,2240]] rfl trivial ?_
  cases h
  exact Tri.nil ⟨.inr rfl,rfl,rfl⟩
noncomputable def E214 : Env := ⟨Try.prog,tys,(Try.f46.body).getD .skip,53,tysOk,mixedOk⟩
abbrev K126 (r : List Q) (σ' : ASt) : Prop := isRes E214.T Try.f46 (.sl 1000 0) [(1000,.arr 32 0 0 (.rats r))] σ'
noncomputable def l_spec_SolutionOf_0 (a0 : List (List Q)) (a2 : Int) : (Int × (List Q)) → Option ((Int × (List Q)) ⊕ ((List Q)))
 | (v2,v3) => (
bif decide (v2 < (IntKind.i64.wrap (a2 + (a0.length : Int)))) then
((m_spec_l3Int (0 : Int)).bind fun (v4,v5) =>
grd (v3.length + ([⟨v4,v5⟩] : List Q).length ≤ room) <|
some (.inl (IntKind.i64.wrap (v2 + 1),v3 ++ [⟨v4,v5⟩])))
else
(some (.inr v3)))
noncomputable def l_spec_SolutionOf_1 (a0 : List (List Q)) (a1 : List Int) (a2 : Int) : (Int × (List Q)) → Option ((Int × (List Q)) ⊕ ((List Q)))
 | (v7,v8) => (
bif decide (v7 < (a0.length : Int)) then
(grd (0 ≤ v7 ∧ v7 < (a1.length : Int)) <|
grd (0 ≤ v7 ∧ v7 < (a0.length : Int)) <|
grd (0 ≤ IntKind.i64.wrap (a2 + (a0.length : Int)) ∧ IntKind.i64.wrap (a2 + (a0.length : Int)) < ((a0.getD v7.toNat []).length : Int)) <|
grd (0 ≤ a1.getD v7.toNat 0 ∧ a1.getD v7.toNat 0 < (v8.length : Int)) <|
some (.inl (IntKind.i64.wrap (v7 + 1),v8.set ((a1.getD v7.toNat 0).toNat) ⟨((a0.getD v7.toNat []).getD ((IntKind.i64.wrap (a2 + (a0.length : Int))).toNat) ⟨0,0⟩).num,((a0.getD v7.toNat []).getD ((IntKind.i64.wrap (a2 + (a0.length : Int))).toNat) ⟨0,0⟩).den⟩)))
else
(some (.inr v8)))
noncomputable def m_spec_SolutionOf (a0 : List (List Q)) (a1 : List Int) (a2 : Int) : Option (List Q) :=
(m_spec_l6Good a0 a1 a2).bind fun v1 =>
bif !v1 then
(some [])
else
((iter (l_spec_SolutionOf_0 a0 a2) ((0 : Int),[])).bind fun
| v6 => (
(iter (l_spec_SolutionOf_1 a0 a1 a2) ((0 : Int),v6)).bind fun
| v9 => (
some v9)))
theorem W39 (a0 : List (List Q)) (a1 : List Int) (a2 : Int) (r : List Q) (h : m_spec_SolutionOf a0 a1 a2 = some r) : AM.Spec Try.prog 46 [.agg [.list (.ratss a0),.list (.ints a1),.i a2]] [] (.sl 1000 0) [(1000,.arr 32 0 0 (.rats r))] := by
 refine spec_of (E := E214) Try.func46 rfl rfl rfl rfl ?_
 refine Tri.f 2 [] [.keep [1,3] [1,6]] rfl trivial ?_
 obtain ⟨v1,hk1,h⟩ := bind_some h
 refine Tri.f 1 [.v (.bool v1)] [.keep [1,3,9] [1,6]] rfl ⟨fun _ => W20 a0 a1 a2 v1 hk1,trivial⟩ ?_
 rcases bif_some h with ⟨hd2,h⟩ | ⟨hd2,h⟩
 ·refine Tri.f 2 [.g true] [.swap 6 1000,.keep [2] [1000]] rfl ⟨hd2,trivial⟩ ?_
  cases h
  exact Tri.ret rfl ⟨.inl rfl,rfl,rfl⟩
 ·refine Tri.f 2 [.g false] [.keep [1,3,4] [1,6]] rfl ⟨hd2,trivial⟩ ?_
  obtain ⟨v6,hk6,h⟩ := bind_some h
  refine Tri.loop (K1 := [.code [(3,0),(1,0),(0,0)] 0]) (K2 := [.blk 0,.code [] 4]) (fun (v2,v3) => ⟨[(1,.ptr 1 0),(3,.sl 6 0),(4,.i v2)],[(1,.box [.list (.ratss a0),.list (.ints a1),.i a2]),(6,.arr 32 0 0 (.rats v3))]⟩) (fun x e σ' => match x with | v6 => e = .exit 0 ∧ σ' = ⟨[(1,.ptr 1 0),(3,.sl 6 0)],[(1,.box [.list (.ratss a0),.list (.ints a1),.i a2]),(6,.arr 32 0 0 (.rats v6))]⟩) hk6 rfl rfl ?_ ?_
  ·intro s x hs
   clear h
   have h := hs
   clear hs
   obtain ⟨v2,v3⟩ := s
   refine Tri.f 1 [] [.keep [1,3,4,18] [1,6]] rfl trivial ?_
   rcases bif_some h with ⟨hd3,h⟩ | ⟨hd3,h⟩
   ·obtain ⟨⟨v4,v5⟩,hk4,h⟩ := bind_some h
    obtain ⟨hg5,h⟩ := grd_some h
    refine Tri.f 3 [.g true,.v (.agg [.i v4,.i v5])] [.rever 6,.keep [1,3,4] [1,6]] rfl ⟨hg5,fun _ => W12 (0 : Int) (v4,v5) hk4,hd3,trivial⟩ ?_
    cases h
    exact Tri.nil ⟨rfl,rfl⟩
   ·refine Tri.f 1 [.g false] [.keep [1,3] [1,6]] rfl ⟨hd3,trivial⟩ ?_
    cases h
    exact Tri.out 0 rfl ⟨nofun,rfl,rfl⟩
  ·intro e σ' hne hq
   obtain ⟨rfl,rfl⟩ := hq
   refine TriX.exit (K' := [.code [] 4]) rfl ?_
   refine Tri.f 1 [] [.keep [1,3,5] [1,6]] rfl trivial ?_
   obtain ⟨v9,hk12,h⟩ := bind_some h
   refine Tri.loop (K1 := [.code [(4,0),(1,0),(0,0)] 0]) (K2 := [.blk 2,.code [] 5]) (fun (v7,v8) => ⟨[(1,.ptr 1 0),(3,.sl 6 0),(5,.i v7)],[(1,.box [.list (.ratss a0),.list (.ints a1),.i a2]),(6,.arr 32 0 0 (.rats v8))]⟩) (fun x e σ' => match x with | v9 => e = .exit 2 ∧ σ' = ⟨[(3,.sl 6 0)],[(6,.arr 32 0 0 (.rats v9))]⟩) hk12 rfl rfl ?_ ?_
   ·intro s x hs
    clear h
    have h := hs
    clear hs
    obtain ⟨v7,v8⟩ := s
    refine Tri.f 1 [] [.keep [1,3,5,29] [1,6]] rfl trivial ?_
    rcases bif_some h with ⟨hd7,h⟩ | ⟨hd7,h⟩
    ·obtain ⟨hg8,h⟩ := grd_some h
     obtain ⟨hg9,h⟩ := grd_some h
     obtain ⟨hg10,h⟩ := grd_some h
     obtain ⟨hg11,h⟩ := grd_some h
     refine Tri.f 3 [.g true] [.keep [1,3,5] [1,6]] rfl ⟨hg11,hg10,hg9,hg8,hd7,trivial⟩ ?_
     cases h
     exact Tri.nil ⟨rfl,rfl⟩
    ·refine Tri.f 1 [.g false] [.keep [3] [6]] rfl ⟨hd7,trivial⟩ ?_
     cases h
     exact Tri.out 2 rfl ⟨nofun,rfl,rfl⟩
   ·intro e σ' hne hq
    obtain ⟨rfl,rfl⟩ := hq
    refine TriX.exit (K' := [.code [] 5]) rfl ?_
    refine Tri.f 1 [] [.swap 6 1000,.keep [2] [1000]] rfl trivial ?_
    cases h
    exact Tri.ret rfl ⟨.inl rfl,rfl,rfl⟩
noncomputable def E215 : Env := ⟨Try.prog,tys,(Try.f48.body).getD .skip,9,tysOk,mixedOk⟩
abbrev K127 (r : Int × Int) (σ' : ASt) : Prop := isRes E215.T Try.f48 (.agg [.i r.1,.i r.2]) [] σ'
noncomputable def m_spec_l7Negated (a0 a1 : Int) : Option (Int × Int) :=
some (IntKind.i64.wrap (0 - a0),a1)
theorem W40 (a0 a1 : Int) (r : Int × Int) (h : m_spec_l7Negated a0 a1 = some r) : AM.Spec Try.prog 48 [.agg [.i a0,.i a1]] [] (.agg [.i r.1,.i r.2]) [] := by
 refine spec_of (E := E215) Try.func48 rfl rfl rfl rfl ?_
 refine Tri.f 2 [] [.keep [2] [2]] rfl trivial ?_
 cases h
 exact Tri.ret rfl ⟨.inl rfl,rfl,rfl⟩
noncomputable def E216 : Env := ⟨Try.prog,tys,(Try.f47.body).getD .skip,73,tysOk,mixedOk⟩
abbrev K128 (u0 : Value) (a0 : List (List Int)) (u1 : Value) (a1 : List Int) (u2 : Value) (a2 : List Q) (r : (List Q) × (List (List Q)) × (List Int) × Int × Int × Bool) (σ' : ASt) : Prop := isRes E216.T Try.f47 (.sl 1000 0) [(1000,.arr 32 0 0 (.rats r.1)),(1001,.arr 26 0 0 (.ratss r.2.1)),(1002,.arr 3 0 0 (.ints r.2.2.1)),(2260,.box [.lst u0 (.intss a0),.lst u1 (.ints a1),.lst u2 (.rats a2),.sl 1001 0,.sl 1002 0,.i r.2.2.2.1,.i r.2.2.2.2.1,.bool r.2.2.2.2.2])] σ'
noncomputable def l_spec_l7Ray_io3_0 (a5 a8 : Int) : (Int × (List Q)) → Option ((Int × (List Q)) ⊕ ((List Q)))
 | (v1,v2) => (
bif decide (v1 < a5) then
((m_spec_l1Bit (v1 == a8)).bind fun v3 =>
(m_spec_l3Int v3).bind fun (v4,v5) =>
grd (v2.length + ([⟨v4,v5⟩] : List Q).length ≤ room) <|
some (.inl (IntKind.i64.wrap (v1 + 1),v2 ++ [⟨v4,v5⟩])))
else
(some (.inr v2)))
noncomputable def l_spec_l7Ray_io3_1 (a3 : List (List Q)) (a4 : List Int) (a5 a8 : Int) : (Int × (List Q)) → Option ((Int × (List Q)) ⊕ ((List Q)))
 | (v7,v8) => (
bif decide (v7 < (a3.length : Int)) then
(grd (0 ≤ v7 ∧ v7 < (a4.length : Int)) <|
bif decide ((a4.getD v7.toNat 0) < a5) then
(grd (0 ≤ v7 ∧ v7 < (a4.length : Int)) <|
grd (0 ≤ v7 ∧ v7 < (a3.length : Int)) <|
grd (0 ≤ a8 ∧ a8 < ((a3.getD v7.toNat []).length : Int)) <|
(m_spec_l7Negated (((a3.getD v7.toNat []).getD a8.toNat ⟨0,0⟩).num) (((a3.getD v7.toNat []).getD a8.toNat ⟨0,0⟩).den)).bind fun (v9,v10) =>
grd (0 ≤ a4.getD v7.toNat 0 ∧ a4.getD v7.toNat 0 < (v8.length : Int)) <|
some (.inl (IntKind.i64.wrap (v7 + 1),v8.set ((a4.getD v7.toNat 0).toNat) ⟨v9,v10⟩)))
else
(some (.inl (IntKind.i64.wrap (v7 + 1),v8))))
else
(some (.inr v8)))
noncomputable def m_spec_l7Ray_io3 (_a0 : List (List Int)) (_a1 : List Int) (_a2 : List Q) (a3 : List (List Q)) (a4 : List Int) (a5 a6 : Int) (a7 : Bool) (a8 : Int) : Option ((List Q) × (List (List Q)) × (List Int) × Int × Int × Bool) :=
(iter (l_spec_l7Ray_io3_0 a5 a8) ((0 : Int),[])).bind fun
| v6 => (
(iter (l_spec_l7Ray_io3_1 a3 a4 a5 a8) ((0 : Int),v6)).bind fun
| v11 => (
some (v11,a3,a4,a5,a6,a7)))
theorem W41 (u0 u1 u2 : Value) (a0 : List (List Int)) (a1 : List Int) (a2 : List Q) (a3 : List (List Q)) (a4 : List Int) (a5 : Int) (a6 : Int) (a7 : Bool) (a8 : Int) (r : (List Q) × (List (List Q)) × (List Int) × Int × Int × Bool) (h : m_spec_l7Ray_io3 a0 a1 a2 a3 a4 a5 a6 a7 a8 = some r) : AM.Spec Try.prog 47 [.ptr 2260 0,.i a8] [(2260,.box [.lst u0 (.intss a0),.lst u1 (.ints a1),.lst u2 (.rats a2),.sl 2261 0,.sl 2262 0,.i a5,.i a6,.bool a7]),(2261,.arr 26 0 0 (.ratss a3)),(2262,.arr 3 0 0 (.ints a4))] (.sl 1000 0) [(1000,.arr 32 0 0 (.rats r.1)),(1001,.arr 26 0 0 (.ratss r.2.1)),(1002,.arr 3 0 0 (.ints r.2.2.1)),(2260,.box [.lst u0 (.intss a0),.lst u1 (.ints a1),.lst u2 (.rats a2),.sl 1001 0,.sl 1002 0,.i r.2.2.2.1,.i r.2.2.2.2.1,.bool r.2.2.2.2.2])] := by
 refine spec_of (E := E216) Try.func47 rfl rfl rfl rfl ?_
 refine Tri.f 3 [] [.swap 2261 1100,.swap 2262 1101,.keep [0,1,5,6] [8,1100,1101,2260]] rfl trivial ?_
 obtain ⟨v6,hk5,h⟩ := bind_some h
 refine Tri.loop (K1 := [.code [(2,0),(1,0),(0,0)] 0]) (K2 := [.blk 0,.code [] 3]) (fun (v1,v2) => ⟨[(0,.ptr 2260 0),(1,.i a8),(5,.sl 8 0),(6,.i v1)],[(8,.arr 32 0 0 (.rats v2)),(1100,.arr 26 0 0 (.ratss a3)),(1101,.arr 3 0 0 (.ints a4)),(2260,.box [.lst u0 (.intss a0),.lst u1 (.ints a1),.lst u2 (.rats a2),.sl 1100 0,.sl 1101 0,.i a5,.i a6,.bool a7])]⟩) (fun x e σ' => match x with | v6 => e = .exit 0 ∧ σ' = ⟨[(0,.ptr 2260 0),(1,.i a8),(5,.sl 8 0)],[(8,.arr 32 0 0 (.rats v6)),(1100,.arr 26 0 0 (.ratss a3)),(1101,.arr 3 0 0 (.ints a4)),(2260,.box [.lst u0 (.intss a0),.lst u1 (.ints a1),.lst u2 (.rats a2),.sl 1100 0,.sl 1101 0,.i a5,.i a6,.bool a7])]⟩) hk5 rfl rfl ?_ ?_
 ·intro s x hs
  clear h
  have h := hs
  clear hs
  obtain ⟨v1,v2⟩ := s
  refine Tri.f 1 [] [.keep [0,1,5,6,15] [8,1100,1101,2260]] rfl trivial ?_
  rcases bif_some h with ⟨hd1,h⟩ | ⟨hd1,h⟩
  ·obtain ⟨v3,hk2,h⟩ := bind_some h
   obtain ⟨⟨v4,v5⟩,hk3,h⟩ := bind_some h
   obtain ⟨hg4,h⟩ := grd_some h
   refine Tri.f 3 [.g true,.v (.i v3),.v (.agg [.i v4,.i v5])] [.rever 8,.keep [0,1,5,6] [8,1100,1101,2260]] rfl ⟨hg4,fun _ => W12 v3 (v4,v5) hk3,fun _ => W11 (v1 == a8) v3 hk2,hd1,trivial⟩ ?_
   cases h
   exact Tri.nil ⟨rfl,rfl⟩
  ·refine Tri.f 1 [.g false] [.keep [0,1,5] [8,1100,1101,2260]] rfl ⟨hd1,trivial⟩ ?_
   cases h
   exact Tri.out 0 rfl ⟨nofun,rfl,rfl⟩
 ·intro e σ' hne hq
  obtain ⟨rfl,rfl⟩ := hq
  refine TriX.exit (K' := [.code [] 3]) rfl ?_
  refine Tri.f 1 [] [.keep [0,1,5,7] [8,1100,1101,2260]] rfl trivial ?_
  obtain ⟨v11,hk14,h⟩ := bind_some h
  refine Tri.loop (K1 := [.code [(3,0),(1,0),(0,0)] 0]) (K2 := [.blk 2,.code [] 4]) (fun (v7,v8) => ⟨[(0,.ptr 2260 0),(1,.i a8),(5,.sl 8 0),(7,.i v7)],[(8,.arr 32 0 0 (.rats v8)),(1100,.arr 26 0 0 (.ratss a3)),(1101,.arr 3 0 0 (.ints a4)),(2260,.box [.lst u0 (.intss a0),.lst u1 (.ints a1),.lst u2 (.rats a2),.sl 1100 0,.sl 1101 0,.i a5,.i a6,.bool a7])]⟩) (fun x e σ' => match x with | v11 => e = .exit 2 ∧ σ' = ⟨[(5,.sl 8 0)],[(8,.arr 32 0 0 (.rats v11)),(1100,.arr 26 0 0 (.ratss a3)),(1101,.arr 3 0 0 (.ints a4)),(2260,.box [.lst u0 (.intss a0),.lst u1 (.ints a1),.lst u2 (.rats a2),.sl 1100 0,.sl 1101 0,.i a5,.i a6,.bool a7])]⟩) hk14 rfl rfl ?_ ?_
  ·intro s x hs
   clear h
   have h := hs
   clear hs
   obtain ⟨v7,v8⟩ := s
   refine Tri.f 1 [] [.keep [0,1,5,7,33] [8,1100,1101,2260]] rfl trivial ?_
   rcases bif_some h with ⟨hd6,h⟩ | ⟨hd6,h⟩
   ·obtain ⟨hg7,h⟩ := grd_some h
    refine Tri.f 2 [.g true] [.keep [0,1,5,7,49] [8,1100,1101,2260]] rfl ⟨hg7,hd6,trivial⟩ ?_
    rcases bif_some h with ⟨hd8,h⟩ | ⟨hd8,h⟩
    ·obtain ⟨hg9,h⟩ := grd_some h
     obtain ⟨hg10,h⟩ := grd_some h
     obtain ⟨hg11,h⟩ := grd_some h
     obtain ⟨⟨v9,v10⟩,hk12,h⟩ := bind_some h
     obtain ⟨hg13,h⟩ := grd_some h
     refine Tri.f 3 [.g true,.v (.agg [.i v9,.i v10])] [.keep [0,1,5,7] [8,1100,1101,2260]] rfl ⟨hg13,fun _ => W40 (((a3.getD v7.toNat []).getD a8.toNat ⟨0,0⟩).num) (((a3.getD v7.toNat []).getD a8.toNat ⟨0,0⟩).den) (v9,v10) hk12,hg11,hg10,hg9,hd8,trivial⟩ ?_
     cases h
     exact Tri.nil ⟨rfl,rfl⟩
    ·refine Tri.f 2 [.g false] [.keep [0,1,5,7] [8,1100,1101,2260]] rfl ⟨hd8,trivial⟩ ?_
     cases h
     exact Tri.nil ⟨rfl,rfl⟩
   ·refine Tri.f 1 [.g false] [.keep [5] [8,1100,1101,2260]] rfl ⟨hd6,trivial⟩ ?_
    cases h
    exact Tri.out 2 rfl ⟨nofun,rfl,rfl⟩
  ·intro e σ' hne hq
   obtain ⟨rfl,rfl⟩ := hq
   refine TriX.exit (K' := [.code [] 4]) rfl ?_
   refine Tri.f 1 [] [.swap 8 1000,.swap 1100 1001,.swap 1101 1002,.keep [4] [1000,1001,1002,2260]] rfl trivial ?_
   cases h
   exact Tri.ret rfl ⟨.inl rfl,rfl,rfl⟩
noncomputable def E217 : Env := ⟨Try.prog,tys,(Try.f20.body).getD .skip,86,tysOk,mixedOk⟩
abbrev K129 (u0 : Value) (a0 : List (List Int)) (u1 : Value) (a1 : List Int) (u2 : Value) (a2 : List Q) (r : Int × Int × Int × Int × (List Q) × (List Q) × (List Q) × (List (List Q)) × (List Int) × Int × Int × Bool) (σ' : ASt) : Prop := isRes E217.T Try.f20 (.agg [.i r.1,.sl 1000 0,.sl 1001 0,.sl 1002 0,.i r.2.1,.i r.2.2.1,.i r.2.2.2.1]) [(1000,.arr 32 0 0 (.rats r.2.2.2.2.1)),(1001,.arr 32 0 0 (.rats r.2.2.2.2.2.1)),(1002,.arr 32 0 0 (.rats r.2.2.2.2.2.2.1)),(1003,.arr 26 0 0 (.ratss r.2.2.2.2.2.2.2.1)),(1004,.arr 3 0 0 (.ints r.2.2.2.2.2.2.2.2.1)),(2160,.box [.lst u0 (.intss a0),.lst u1 (.ints a1),.lst u2 (.rats a2),.sl 1003 0,.sl 1004 0,.i r.2.2.2.2.2.2.2.2.2.1,.i r.2.2.2.2.2.2.2.2.2.2.1,.bool r.2.2.2.2.2.2.2.2.2.2.2])] σ'
noncomputable def m_spec_l7Solve_io3 (a0 : List (List Int)) (a1 : List Int) (a2 : List Q) (a3 : List (List Q)) (a4 : List Int) (a5 a6 : Int) (a7 : Bool) : Option (Int × Int × Int × Int × (List Q) × (List Q) × (List Q) × (List (List Q)) × (List Int) × Int × Int × Bool) :=
(m_spec_l7Costs a0 a1 a2 true).bind fun v1 =>
(m_spec_l7Phase_io3 a0 a1 a2 a3 a4 a5 a6 a7 v1).bind fun (_,v3,v4,v5,v6,v7,v8) =>
bif v8 then
(some (0,0,0,0,[],[],[],v4,v5,v6,v7,v8))
else
(grd (0 ≤ IntKind.i64.wrap ((v3.length : Int) - 1) ∧ IntKind.i64.wrap ((v3.length : Int) - 1) < (v3.length : Int)) <|
(m_spec_l3Sign ((v3.getD ((IntKind.i64.wrap ((v3.length : Int) - 1)).toNat) ⟨0,0⟩).num) ((v3.getD ((IntKind.i64.wrap ((v3.length : Int) - 1)).toNat) ⟨0,0⟩).den)).bind fun v9 =>
bif decide (v9 < 0) then
((m_spec_l7Dual_io3 a0 a1 a2 v4 v5 v6 v7 v8 v3 (1 : Int)).bind fun (v10,v11,v12,v13,v14,v15) =>
some ((2 : Int),0,0,0,[],v10,[],v11,v12,v13,v14,v15))
else
((m_spec_l7Drive_io3 a0 a1 a2 v4 v5 v6 v7 v8).bind fun (v16,v17,v18,v19,v20) =>
bif v20 then
(some (0,0,0,0,[],[],[],v16,v17,v18,v19,v20))
else
((m_spec_l7Costs a0 a1 a2 false).bind fun v21 =>
(m_spec_l7Phase_io3 a0 a1 a2 v16 v17 v18 v19 v20 v21).bind fun (v22,v23,v24,v25,v26,v27,v28) =>
bif v28 then
(some (0,0,0,0,[],[],[],v24,v25,v26,v27,v28))
else
((m_spec_SolutionOf v24 v25 v26).bind fun v29 =>
grd (0 ≤ v26 ∧ v26 ≤ (v29.length : Int)) <|
bif decide (v22 ≥ 0) then
((m_spec_l7Ray_io3 a0 a1 a2 v24 v25 v26 v27 v28 v22).bind fun (v30,v31,v32,v33,v34,v35) =>
some ((3 : Int),0,0,0,v29.take v26.toNat,[],v30,v31,v32,v33,v34,v35))
else
((m_spec_l7Dual_io3 a0 a1 a2 v24 v25 v26 v27 v28 v23 (0 : Int)).bind fun (v36,v37,v38,v39,v40,v41) =>
grd (0 ≤ IntKind.i64.wrap ((v23.length : Int) - 1) ∧ IntKind.i64.wrap ((v23.length : Int) - 1) < (v23.length : Int)) <|
(m_spec_l7Negated ((v23.getD ((IntKind.i64.wrap ((v23.length : Int) - 1)).toNat) ⟨0,0⟩).num) ((v23.getD ((IntKind.i64.wrap ((v23.length : Int) - 1)).toNat) ⟨0,0⟩).den)).bind fun (v42,v43) =>
some ((1 : Int),v42,v43,0,v29.take v26.toNat,v36,[],v37,v38,v39,v40,v41))))))
theorem W42 (u0 u1 u2 : Value) (a0 : List (List Int)) (a1 : List Int) (a2 : List Q) (a3 : List (List Q)) (a4 : List Int) (a5 : Int) (a6 : Int) (a7 : Bool) (r : Int × Int × Int × Int × (List Q) × (List Q) × (List Q) × (List (List Q)) × (List Int) × Int × Int × Bool) (h : m_spec_l7Solve_io3 a0 a1 a2 a3 a4 a5 a6 a7 = some r) : AM.Spec Try.prog 20 [.ptr 2160 0] [(2160,.box [.lst u0 (.intss a0),.lst u1 (.ints a1),.lst u2 (.rats a2),.sl 2161 0,.sl 2162 0,.i a5,.i a6,.bool a7]),(2161,.arr 26 0 0 (.ratss a3)),(2162,.arr 3 0 0 (.ints a4))] (.agg [.i r.1,.sl 1000 0,.sl 1001 0,.sl 1002 0,.i r.2.1,.i r.2.2.1,.i r.2.2.2.1]) [(1000,.arr 32 0 0 (.rats r.2.2.2.2.1)),(1001,.arr 32 0 0 (.rats r.2.2.2.2.2.1)),(1002,.arr 32 0 0 (.rats r.2.2.2.2.2.2.1)),(1003,.arr 26 0 0 (.ratss r.2.2.2.2.2.2.2.1)),(1004,.arr 3 0 0 (.ints r.2.2.2.2.2.2.2.2.1)),(2160,.box [.lst u0 (.intss a0),.lst u1 (.ints a1),.lst u2 (.rats a2),.sl 1003 0,.sl 1004 0,.i r.2.2.2.2.2.2.2.2.2.1,.i r.2.2.2.2.2.2.2.2.2.2.1,.bool r.2.2.2.2.2.2.2.2.2.2.2])] := by
 refine spec_of (E := E217) Try.func20 rfl rfl rfl rfl ?_
 refine Tri.f 1 [] [.keep [0,2] [2,2160,2161,2162],.ownc 2 1 1100 32,.ownc 2 2 1101 32,.ownc 2 3 1102 32,.keep [0,2] [2,1100,1101,1102,2160,2161,2162]] rfl trivial ?_
 obtain ⟨v1,hk1,h⟩ := bind_some h
 obtain ⟨⟨v2,v3,v4,v5,v6,v7,v8⟩,hk2,h⟩ := bind_some h
 refine Tri.f 2 [.r ⟨[],.sl 1103 0,[(1103,.arr 32 0 0 (.rats v1))]⟩,.r ⟨[2160,2161,2162],.tuple [.sl 1104 0,.i v2],[(1104,.arr 32 0 0 (.rats v3)),(1105,.arr 26 0 0 (.ratss v4)),(1106,.arr 3 0 0 (.ints v5)),(2160,.box [.undf,.undf,.undf,.sl 1105 0,.sl 1106 0,.i v6,.i v7,.bool v8])]⟩] [.keep [0,2,3,20] [2,1100,1101,1102,1104,1105,1106,2160]] rfl ⟨(fun vf => (((((((W35 (vf 2160 0) (vf 2160 1) (vf 2160 2) a0 a1 a2 a3 a4 a5 a6 a7 v1 (v2,v3,v4,v5,v6,v7,v8) hk2).swap 1000 1104).swap 1001 1105).swap 1002 1106).swap 2180 2160).swap 2181 2161).swap 2182 2162)),fun _ => (W19 a0 a1 a2 true v1 hk1).swap 1000 1103,trivial⟩ ?_
 rcases bif_some h with ⟨hd3,h⟩ | ⟨hd3,h⟩
 ·refine Tri.f 2 [.g true] [.ownc 2 1 1107 32,.ownc 2 2 1108 32,.ownc 2 3 1109 32,.swap 1107 1000,.swap 1108 1001,.swap 1109 1002,.swap 1105 1003,.swap 1106 1004,.keep [2] [2,1000,1001,1002,1003,1004,2160]] rfl ⟨hd3,trivial⟩ ?_
  cases h
  exact Tri.ret rfl ⟨.inl rfl,rfl,rfl⟩
 ·obtain ⟨hg4,h⟩ := grd_some h
  obtain ⟨v9,hk5,h⟩ := bind_some h
  refine Tri.f 2 [.g false,.v (.i v9)] [.keep [0,2,3,29] [2,1100,1101,1102,1104,1105,1106,2160]] rfl ⟨fun _ => W27 ((v3.getD ((IntKind.i64.wrap ((v3.length : Int) - 1)).toNat) ⟨0,0⟩).num) ((v3.getD ((IntKind.i64.wrap ((v3.length : Int) - 1)).toNat) ⟨0,0⟩).den) v9 hk5,hg4,hd3,trivial⟩ ?_
  rcases bif_some h with ⟨hd6,h⟩ | ⟨hd6,h⟩
  ·obtain ⟨⟨v10,v11,v12,v13,v14,v15⟩,hk7,h⟩ := bind_some h
   refine Tri.f 2 [.g true,.r ⟨[2160,1105,1106],.sl 1110 0,[(1110,.arr 32 0 0 (.rats v10)),(1111,.arr 26 0 0 (.ratss v11)),(1112,.arr 3 0 0 (.ints v12)),(2160,.box [.undf,.undf,.undf,.sl 1111 0,.sl 1112 0,.i v13,.i v14,.bool v15])]⟩] [.ownc 2 1 1113 32,.ownc 2 3 1114 32,.swap 1113 1000,.swap 1110 1001,.swap 1114 1002,.swap 1111 1003,.swap 1112 1004,.keep [2] [2,1000,1001,1002,1003,1004,2160]] rfl ⟨(fun vf => (((((((W37 (vf 2160 0) (vf 2160 1) (vf 2160 2) a0 a1 a2 v4 v5 v6 v7 v8 v3 (1 : Int) (v10,v11,v12,v13,v14,v15) hk7).swap 1000 1110).swap 1001 1111).swap 1002 1112).swap 2220 2160).swap 2221 1105).swap 2222 1106)),hd6,trivial⟩ ?_
   cases h
   exact Tri.ret rfl ⟨.inl rfl,rfl,rfl⟩
  ·obtain ⟨⟨v16,v17,v18,v19,v20⟩,hk8,h⟩ := bind_some h
   refine Tri.f 3 [.g false,.r ⟨[2160,1105,1106],.tuple [],[(1115,.arr 26 0 0 (.ratss v16)),(1116,.arr 3 0 0 (.ints v17)),(2160,.box [.undf,.undf,.undf,.sl 1115 0,.sl 1116 0,.i v18,.i v19,.bool v20])]⟩] [.keep [0,2,39] [2,1100,1101,1102,1115,1116,2160]] rfl ⟨(fun vf => ((((((W38 (vf 2160 0) (vf 2160 1) (vf 2160 2) a0 a1 a2 v4 v5 v6 v7 v8 (v16,v17,v18,v19,v20) hk8).swap 1000 1115).swap 1001 1116).swap 2240 2160).swap 2241 1105).swap 2242 1106)),hd6,trivial⟩ ?_
   rcases bif_some h with ⟨hd9,h⟩ | ⟨hd9,h⟩
   ·refine Tri.f 2 [.g true] [.ownc 2 1 1117 32,.ownc 2 2 1118 32,.ownc 2 3 1119 32,.swap 1117 1000,.swap 1118 1001,.swap 1119 1002,.swap 1115 1003,.swap 1116 1004,.keep [2] [2,1000,1001,1002,1003,1004,2160]] rfl ⟨hd9,trivial⟩ ?_
    cases h
    exact Tri.ret rfl ⟨.inl rfl,rfl,rfl⟩
   ·obtain ⟨v21,hk10,h⟩ := bind_some h
    obtain ⟨⟨v22,v23,v24,v25,v26,v27,v28⟩,hk11,h⟩ := bind_some h
    refine Tri.f 3 [.g false,.r ⟨[],.sl 1120 0,[(1120,.arr 32 0 0 (.rats v21))]⟩,.r ⟨[2160,1115,1116],.tuple [.sl 1121 0,.i v22],[(1121,.arr 32 0 0 (.rats v23)),(1122,.arr 26 0 0 (.ratss v24)),(1123,.arr 3 0 0 (.ints v25)),(2160,.box [.undf,.undf,.undf,.sl 1122 0,.sl 1123 0,.i v26,.i v27,.bool v28])]⟩] [.keep [0,2,3,5,54] [2,1100,1101,1102,1121,1122,1123,2160]] rfl ⟨(fun vf => (((((((W35 (vf 2160 0) (vf 2160 1) (vf 2160 2) a0 a1 a2 v16 v17 v18 v19 v20 v21 (v22,v23,v24,v25,v26,v27,v28) hk11).swap 1000 1121).swap 1001 1122).swap 1002 1123).swap 2180 2160).swap 2181 1115).swap 2182 1116)),fun _ => (W19 a0 a1 a2 false v21 hk10).swap 1000 1120,hd9,trivial⟩ ?_
    rcases bif_some h with ⟨hd12,h⟩ | ⟨hd12,h⟩
    ·refine Tri.f 2 [.g true] [.ownc 2 1 1124 32,.ownc 2 2 1125 32,.ownc 2 3 1126 32,.swap 1124 1000,.swap 1125 1001,.swap 1126 1002,.swap 1122 1003,.swap 1123 1004,.keep [2] [2,1000,1001,1002,1003,1004,2160]] rfl ⟨hd12,trivial⟩ ?_
     cases h
     exact Tri.ret rfl ⟨.inl rfl,rfl,rfl⟩
    ·obtain ⟨v29,hk13,h⟩ := bind_some h
     obtain ⟨hg14,h⟩ := grd_some h
     refine Tri.f 2 [.g false,.r ⟨[],.sl 1127 0,[(1127,.arr 32 0 0 (.rats v29))]⟩] [.keep [0,2,3,5,6] [2,1100,1101,1102,1121,1122,1123,1127,2160],.trunc 6,.keep [0,2,3,5,6] [2,1100,1101,1102,1121,1122,1123,1127,2160]] rfl ⟨hg14,fun _ => (W39 v24 v25 v26 v29 hk13).swap 1000 1127,hd12,trivial⟩ ?_
     refine Tri.f 1 [] [.keep [0,2,3,5,6,68] [2,1100,1101,1102,1121,1122,1123,1127,2160]] rfl trivial ?_
     rcases bif_some h with ⟨hd15,h⟩ | ⟨hd15,h⟩
     ·refine Tri.f 1 [.g true] [.keep [0,2,5,6] [2,1100,1101,1102,1122,1123,1127,2160],.rever 1127,.keep [0,2,5,6] [2,1100,1101,1102,1122,1123,1127,2160]] rfl ⟨hd15,trivial⟩ ?_
      obtain ⟨⟨v30,v31,v32,v33,v34,v35⟩,hk16,h⟩ := bind_some h
      refine Tri.f 1 [.r ⟨[2160,1122,1123],.sl 1128 0,[(1128,.arr 32 0 0 (.rats v30)),(1129,.arr 26 0 0 (.ratss v31)),(1130,.arr 3 0 0 (.ints v32)),(2160,.box [.undf,.undf,.undf,.sl 1129 0,.sl 1130 0,.i v33,.i v34,.bool v35])]⟩] [.ownc 2 2 1131 32,.swap 1127 1000,.swap 1131 1001,.swap 1128 1002,.swap 1129 1003,.swap 1130 1004,.keep [2] [2,1000,1001,1002,1003,1004,2160]] rfl ⟨(fun vf => (((((((W41 (vf 2160 0) (vf 2160 1) (vf 2160 2) a0 a1 a2 v24 v25 v26 v27 v28 v22 (v30,v31,v32,v33,v34,v35) hk16).swap 1000 1128).swap 1001 1129).swap 1002 1130).swap 2260 2160).swap 2261 1122).swap 2262 1123)),trivial⟩ ?_
      cases h
      exact Tri.ret rfl ⟨.inl rfl,rfl,rfl⟩
     ·refine Tri.f 1 [.g false] [.keep [0,2,3,6] [2,1100,1101,1102,1121,1122,1123,1127,2160],.rever 1127,.keep [0,2,3,6] [2,1100,1101,1102,1121,1122,1123,1127,2160]] rfl ⟨hd15,trivial⟩ ?_
      obtain ⟨⟨v36,v37,v38,v39,v40,v41⟩,hk17,h⟩ := bind_some h
      obtain ⟨hg18,h⟩ := grd_some h
      obtain ⟨⟨v42,v43⟩,hk19,h⟩ := bind_some h
      refine Tri.f 1 [.r ⟨[2160,1122,1123],.sl 1132 0,[(1132,.arr 32 0 0 (.rats v36)),(1133,.arr 26 0 0 (.ratss v37)),(1134,.arr 3 0 0 (.ints v38)),(2160,.box [.undf,.undf,.undf,.sl 1133 0,.sl 1134 0,.i v39,.i v40,.bool v41])]⟩,.v (.agg [.i v42,.i v43])] [.ownc 2 3 1135 32,.swap 1127 1000,.swap 1132 1001,.swap 1135 1002,.swap 1133 1003,.swap 1134 1004,.keep [2] [2,1000,1001,1002,1003,1004,2160]] rfl ⟨fun _ => W40 ((v23.getD ((IntKind.i64.wrap ((v23.length : Int) - 1)).toNat) ⟨0,0⟩).num) ((v23.getD ((IntKind.i64.wrap ((v23.length : Int) - 1)).toNat) ⟨0,0⟩).den) (v42,v43) hk19,hg18,(fun vf => (((((((W37 (vf 2160 0) (vf 2160 1) (vf 2160 2) a0 a1 a2 v24 v25 v26 v27 v28 v23 (0 : Int) (v36,v37,v38,v39,v40,v41) hk17).swap 1000 1132).swap 1001 1133).swap 1002 1134).swap 2220 2160).swap 2221 1122).swap 2222 1123)),trivial⟩ ?_
      cases h
      exact Tri.ret rfl ⟨.inl rfl,rfl,rfl⟩
noncomputable def E218 : Env := ⟨Try.prog,tys,(Try.f55.body).getD .skip,24,tysOk,mixedOk⟩
abbrev K130 (r : Bool) (σ' : ASt) : Prop := isRes E218.T Try.f55 (.bool r) [] σ'
noncomputable def l_spec_l5NotNegative_0 (a0 : List Q) (v1 : Int) : Option (Int ⊕ (Unit ⊕ Bool)) :=
bif decide (v1 < (a0.length : Int)) then
(grd (0 ≤ v1 ∧ v1 < (a0.length : Int)) <|
(m_spec_IsValidRat ((a0.getD v1.toNat ⟨0,0⟩).num) ((a0.getD v1.toNat ⟨0,0⟩).den)).bind fun v2 =>
bif !v2 then
(some (.inr (.inr false)))
else
(grd (0 ≤ v1 ∧ v1 < (a0.length : Int)) <|
bif decide (((a0.getD v1.toNat ⟨0,0⟩).num) < 0) then
(some (.inr (.inr false)))
else
(some (.inl (IntKind.i64.wrap (v1 + 1))))))
else
(some (.inr (.inl ())))
noncomputable def m_spec_l5NotNegative (a0 : List Q) : Option Bool :=
(iter (l_spec_l5NotNegative_0 a0) (0 : Int)).bind fun
| (.inl _) => (
some true)
| (.inr r) => some r
theorem W43 (a0 : List Q) (r : Bool) (h : m_spec_l5NotNegative a0 = some r) : AM.Spec Try.prog 55 [.list (.rats a0)] [] (.bool r) [] := by
 refine spec_of (E := E218) Try.func55 rfl rfl rfl rfl ?_
 refine Tri.f 2 [] [.keep [0,3] []] rfl trivial ?_
 obtain ⟨x1,hk7,h⟩ := bind_some h
 refine Tri.loop (K1 := [.code [(1,0),(1,0),(0,0)] 0]) (K2 := [.blk 0,.code [] 2]) (fun v1 => ⟨[(0,.list (.rats a0)),(3,.i v1)],[]⟩) (fun x e σ' => match x with | (.inl _) => e = .exit 0 ∧ σ' = ⟨[],[]⟩ | (.inr r) => e = .ret ∧ K130 r σ') hk7 rfl rfl ?_ ?_
 ·intro v1 x hs
  clear h
  have h := hs
  clear hs
  refine Tri.f 1 [] [.keep [0,3,7] []] rfl trivial ?_
  rcases bif_some h with ⟨hd1,h⟩ | ⟨hd1,h⟩
  ·obtain ⟨hg2,h⟩ := grd_some h
   obtain ⟨v2,hk3,h⟩ := bind_some h
   rcases bif_some h with ⟨hd4,h⟩ | ⟨hd4,h⟩
   ·refine Tri.f 2 [.g true,.v (.bool v2),.g true] [.keep [0,3,23] []] rfl ⟨hd4,fun _ => W9 ((a0.getD v1.toNat ⟨0,0⟩).num) ((a0.getD v1.toNat ⟨0,0⟩).den) v2 hk3,hg2,hd1,trivial⟩ ?_
    refine Tri.f 2 [.g true] [.keep [2] []] rfl ⟨rfl,trivial⟩ ?_
    cases h
    exact Tri.ret rfl ⟨nofun,rfl,rfl,rfl⟩
   ·obtain ⟨hg5,h⟩ := grd_some h
    refine Tri.f 2 [.g true,.v (.bool v2),.g false] [.keep [0,3,23] []] rfl ⟨hg5,hd4,fun _ => W9 ((a0.getD v1.toNat ⟨0,0⟩).num) ((a0.getD v1.toNat ⟨0,0⟩).den) v2 hk3,hg2,hd1,trivial⟩ ?_
    rcases bif_some h with ⟨hd6,h⟩ | ⟨hd6,h⟩
    ·refine Tri.f 2 [.g true] [.keep [2] []] rfl ⟨hd6,trivial⟩ ?_
     cases h
     exact Tri.ret rfl ⟨nofun,rfl,rfl,rfl⟩
    ·refine Tri.f 2 [.g false] [.keep [0,3] []] rfl ⟨hd6,trivial⟩ ?_
     cases h
     exact Tri.nil ⟨rfl,rfl⟩
  ·refine Tri.f 1 [.g false] [.keep [] []] rfl ⟨hd1,trivial⟩ ?_
   cases h
   exact Tri.out 0 rfl ⟨nofun,rfl,rfl⟩
 ·intro e σ' hne hq
  rcases x1 with _ | r
  ·obtain ⟨rfl,rfl⟩ := hq
   refine TriX.exit (K' := [.code [] 2]) rfl ?_
   refine Tri.f 1 [] [.keep [2] []] rfl trivial ?_
   cases h
   exact Tri.ret rfl ⟨.inl rfl,rfl,rfl⟩
  ·obtain ⟨rfl,hq⟩ := hq
   cases h
   exact TriX.ret ⟨.inl rfl,hq⟩
noncomputable def E219 : Env := ⟨Try.prog,tys,(Try.f76.body).getD .skip,29,tysOk,mixedOk⟩
abbrev K131 (r : Bool × (List Q)) (σ' : ASt) : Prop := isRes E219.T Try.f76 (.tuple [.sl 1000 0,.bool r.1]) [(1000,.arr 32 0 0 (.rats r.2))] σ'
noncomputable def l_spec_IntsToRats_0 (a0 : List Int) : (Int × (List Q)) → Option ((Int × (List Q)) ⊕ ((List Q) ⊕ ((Bool × (List Q)))))
 | (v1,v2) => (
bif decide (v1 < (a0.length : Int)) then
(grd (0 ≤ v1 ∧ v1 < (a0.length : Int)) <|
(m_spec_l1In (a0.getD v1.toNat 0) (-1000000000 : Int) (1000000000 : Int)).bind fun v3 =>
bif !v3 then
(some (.inr (.inr (false,[]))))
else
(grd (0 ≤ v1 ∧ v1 < (a0.length : Int)) <|
(m_spec_l3Int (a0.getD v1.toNat 0)).bind fun (v4,v5) =>
grd (v2.length + ([⟨v4,v5⟩] : List Q).length ≤ room) <|
some (.inl (IntKind.i64.wrap (v1 + 1),v2 ++ [⟨v4,v5⟩]))))
else
(some (.inr (.inl v2))))
noncomputable def m_spec_IntsToRats (a0 : List Int) : Option (Bool × (List Q)) :=
(iter (l_spec_IntsToRats_0 a0) ((0 : Int),[])).bind fun
| (.inl v6) => (
some (true,v6))
| (.inr r) => some r
theorem W44 (a0 : List Int) (r : Bool × (List Q)) (h : m_spec_IntsToRats a0 = some r) : AM.Spec Try.prog 76 [.list (.ints a0)] [] (.tuple [.sl 1000 0,.bool r.1]) [(1000,.arr 32 0 0 (.rats r.2))] := by
 refine spec_of (E := E219) Try.func76 rfl rfl rfl rfl ?_
 refine Tri.f 3 [] [.keep [0,4,5] [6]] rfl trivial ?_
 obtain ⟨x1,hk8,h⟩ := bind_some h
 refine Tri.loop (K1 := [.code [(2,0),(1,0),(0,0)] 0]) (K2 := [.blk 0,.code [] 3]) (fun (v1,v2) => ⟨[(0,.list (.ints a0)),(4,.sl 6 0),(5,.i v1)],[(6,.arr 32 0 0 (.rats v2))]⟩) (fun x e σ' => match x with | (.inl v6) => e = .exit 0 ∧ σ' = ⟨[(4,.sl 6 0)],[(6,.arr 32 0 0 (.rats v6))]⟩ | (.inr r) => e = .ret ∧ K131 r σ') hk8 rfl rfl ?_ ?_
 ·intro s x hs
  clear h
  have h := hs
  clear hs
  obtain ⟨v1,v2⟩ := s
  refine Tri.f 1 [] [.keep [0,4,5,10] [6]] rfl trivial ?_
  rcases bif_some h with ⟨hd1,h⟩ | ⟨hd1,h⟩
  ·obtain ⟨hg2,h⟩ := grd_some h
   obtain ⟨v3,hk3,h⟩ := bind_some h
   refine Tri.f 2 [.g true,.v (.bool v3)] [.keep [0,4,5,18] [6]] rfl ⟨fun _ => W7 (a0.getD v1.toNat 0) (-1000000000 : Int) (1000000000 : Int) v3 hk3,hg2,hd1,trivial⟩ ?_
   rcases bif_some h with ⟨hd4,h⟩ | ⟨hd4,h⟩
   ·refine Tri.f 2 [.g true] [.swap 19 1000,.keep [2,3] [1000]] rfl ⟨hd4,trivial⟩ ?_
    cases h
    exact Tri.ret rfl ⟨nofun,rfl,rfl,rfl⟩
   ·obtain ⟨hg5,h⟩ := grd_some h
    obtain ⟨⟨v4,v5⟩,hk6,h⟩ := bind_some h
    obtain ⟨hg7,h⟩ := grd_some h
    refine Tri.f 3 [.g false,.v (.agg [.i v4,.i v5])] [.rever 6,.keep [0,4,5] [6]] rfl ⟨hg7,fun _ => W12 (a0.getD v1.toNat 0) (v4,v5) hk6,hg5,hd4,trivial⟩ ?_
    cases h
    exact Tri.nil ⟨rfl,rfl⟩
  ·refine Tri.f 1 [.g false] [.keep [4] [6]] rfl ⟨hd1,trivial⟩ ?_
   cases h
   exact Tri.out 0 rfl ⟨nofun,rfl,rfl⟩
 ·intro e σ' hne hq
  rcases x1 with v6 | r
  ·obtain ⟨rfl,rfl⟩ := hq
   refine TriX.exit (K' := [.code [] 3]) rfl ?_
   refine Tri.f 1 [] [.swap 6 1000,.keep [2,3] [1000]] rfl trivial ?_
   cases h
   exact Tri.ret rfl ⟨.inl rfl,rfl,rfl⟩
  ·obtain ⟨rfl,hq⟩ := hq
   cases h
   exact TriX.ret ⟨.inl rfl,hq⟩
noncomputable def E220 : Env := ⟨Try.prog,tys,(Try.f53.body).getD .skip,52,tysOk,mixedOk⟩
abbrev K132 (r : Int × Int × Bool) (σ' : ASt) : Prop := isRes E220.T Try.f53 (.tuple [.agg [.i r.1,.i r.2.1],.bool r.2.2]) [] σ'
noncomputable def l_spec_DotRat_0 (a0 a1 : List Q) : (Int × Int × Int) → Option ((Int × Int × Int) ⊕ ((Int × Int) ⊕ ((Int × Int × Bool))))
 | (v3,v4,v5) => (
bif decide (v3 < (a0.length : Int)) then
(grd (0 ≤ v3 ∧ v3 < (a0.length : Int)) <|
grd (0 ≤ v3 ∧ v3 < (a1.length : Int)) <|
(m_spec_MulRat ((a0.getD v3.toNat ⟨0,0⟩).num) ((a0.getD v3.toNat ⟨0,0⟩).den) ((a1.getD v3.toNat ⟨0,0⟩).num) ((a1.getD v3.toNat ⟨0,0⟩).den)).bind fun (v6,v7,v8) =>
(m_spec_AddRat v4 v5 v6 v7).bind fun (v9,v10,v11) =>
bif !v8 then
(some (.inr (.inr (0,0,false))))
else
(bif !v11 then
(some (.inr (.inr (0,0,false))))
else
(some (.inl (IntKind.i64.wrap (v3 + 1),v9,v10)))))
else
(some (.inr (.inl (v4,v5)))))
noncomputable def m_spec_DotRat (a0 a1 : List Q) : Option (Int × Int × Bool) :=
bif (a0.length : Int) != (a1.length : Int) then
(some (0,0,false))
else
((m_spec_l3Int (0 : Int)).bind fun (v1,v2) =>
(iter (l_spec_DotRat_0 a0 a1) ((0 : Int),v1,v2)).bind fun
| (.inl (v12,v13)) => (
some (v12,v13,true))
| (.inr r) => some r)
theorem W45 (a0 a1 : List Q) (r : Int × Int × Bool) (h : m_spec_DotRat a0 a1 = some r) : AM.Spec Try.prog 53 [.list (.rats a0),.list (.rats a1)] [] (.tuple [.agg [.i r.1,.i r.2.1],.bool r.2.2]) [] := by
 refine spec_of (E := E220) Try.func53 rfl rfl rfl rfl ?_
 refine Tri.f 2 [] [.keep [0,1,4,16] [4]] rfl trivial ?_
 rcases bif_some h with ⟨hd1,h⟩ | ⟨hd1,h⟩
 ·refine Tri.f 2 [.g true] [.keep [4,5] [4]] rfl ⟨hd1,trivial⟩ ?_
  cases h
  exact Tri.ret rfl ⟨.inl rfl,rfl,rfl⟩
 ·obtain ⟨⟨v1,v2⟩,hk2,h⟩ := bind_some h
  refine Tri.f 3 [.g false,.v (.agg [.i v1,.i v2])] [.keep [0,1,4,6,7] [4,6]] rfl ⟨fun _ => W12 (0 : Int) (v1,v2) hk2,hd1,trivial⟩ ?_
  obtain ⟨x1,hk10,h⟩ := bind_some h
  refine Tri.loop (K1 := [.code [(3,0),(1,0),(0,0)] 0]) (K2 := [.blk 0,.code [] 4]) (fun (v3,v4,v5) => ⟨[(0,.list (.rats a0)),(1,.list (.rats a1)),(4,.ptr 4 0),(6,.ptr 6 0),(7,.i v3)],[(4,.box [.i 0,.i 0]),(6,.box [.i v4,.i v5])]⟩) (fun x e σ' => match x with | (.inl (v12,v13)) => e = .exit 0 ∧ σ' = ⟨[(4,.ptr 4 0),(6,.ptr 6 0)],[(4,.box [.i 0,.i 0]),(6,.box [.i v12,.i v13])]⟩ | (.inr r) => e = .ret ∧ K132 r σ') hk10 rfl rfl ?_ ?_
  ·intro s x hs
   clear h
   have h := hs
   clear hs
   obtain ⟨v3,v4,v5⟩ := s
   refine Tri.f 1 [] [.keep [0,1,4,6,7,22] [4,6]] rfl trivial ?_
   rcases bif_some h with ⟨hd3,h⟩ | ⟨hd3,h⟩
   ·obtain ⟨hg4,h⟩ := grd_some h
    obtain ⟨hg5,h⟩ := grd_some h
    obtain ⟨⟨v6,v7,v8⟩,hk6,h⟩ := bind_some h
    refine Tri.f 2 [.g true,.v (.tuple [.agg [.i v6,.i v7],.bool v8])] [.keep [0,1,4,6,7,8,9] [4,6,8]] rfl ⟨fun _ => W22 ((a0.getD v3.toNat ⟨0,0⟩).num) ((a0.getD v3.toNat ⟨0,0⟩).den) ((a1.getD v3.toNat ⟨0,0⟩).num) ((a1.getD v3.toNat ⟨0,0⟩).den) (v6,v7,v8) hk6,hg5,hg4,hd3,trivial⟩ ?_
    obtain ⟨⟨v9,v10,v11⟩,hk7,h⟩ := bind_some h
    rcases bif_some h with ⟨hd8,h⟩ | ⟨hd8,h⟩
    ·refine Tri.f 2 [.v (.tuple [.agg [.i v9,.i v10],.bool v11]),.g true] [.keep [0,1,4,6,7,10,48] [4,6,10]] rfl ⟨hd8,fun _ => W23 v4 v5 v6 v7 (v9,v10,v11) hk7,trivial⟩ ?_
     refine Tri.f 2 [.g true] [.keep [4,5] [4]] rfl ⟨rfl,trivial⟩ ?_
     cases h
     exact Tri.ret rfl ⟨nofun,rfl,rfl,rfl⟩
    ·refine Tri.f 2 [.v (.tuple [.agg [.i v9,.i v10],.bool v11]),.g false] [.keep [0,1,4,6,7,10,48] [4,6,10]] rfl ⟨hd8,fun _ => W23 v4 v5 v6 v7 (v9,v10,v11) hk7,trivial⟩ ?_
     rcases bif_some h with ⟨hd9,h⟩ | ⟨hd9,h⟩
     ·refine Tri.f 2 [.g true] [.keep [4,5] [4]] rfl ⟨hd9,trivial⟩ ?_
      cases h
      exact Tri.ret rfl ⟨nofun,rfl,rfl,rfl⟩
     ·refine Tri.f 3 [.g false] [.keep [0,1,4,6,7] [4,6]] rfl ⟨hd9,trivial⟩ ?_
      cases h
      exact Tri.nil ⟨rfl,rfl⟩
   ·refine Tri.f 1 [.g false] [.keep [4,6] [4,6]] rfl ⟨hd3,trivial⟩ ?_
    cases h
    exact Tri.out 0 rfl ⟨nofun,rfl,rfl⟩
  ·intro e σ' hne hq
   rcases x1 with ⟨v12,v13⟩ | r
   ·obtain ⟨rfl,rfl⟩ := hq
    refine TriX.exit (K' := [.code [] 4]) rfl ?_
    refine Tri.f 1 [] [.keep [4,5] [4]] rfl trivial ?_
    cases h
    exact Tri.ret rfl ⟨.inl rfl,rfl,rfl⟩
   ·obtain ⟨rfl,hq⟩ := hq
    cases h
    exact TriX.ret ⟨.inl rfl,hq⟩
noncomputable def E221 : Env := ⟨Try.prog,tys,(Try.f50.body).getD .skip,29,tysOk,mixedOk⟩
abbrev K133 (r : Int × Int × Bool) (σ' : ASt) : Prop := isRes E221.T Try.f50 (.tuple [.agg [.i r.1,.i r.2.1],.bool r.2.2]) [] σ'
noncomputable def m_spec_l5Dot (a0 : List Int) (a1 : List Q) : Option (Int × Int × Bool) :=
(m_spec_IntsToRats a0).bind fun (v1,v2) =>
(m_spec_DotRat v2 a1).bind fun (v3,v4,v5) =>
bif !v1 then
(some (0,0,false))
else
(bif !v5 then
(some (0,0,false))
else
(some (v3,v4,true)))
theorem W46 (a0 : List Int) (a1 : List Q) (r : Int × Int × Bool) (h : m_spec_l5Dot a0 a1 = some r) : AM.Spec Try.prog 50 [.list (.ints a0),.list (.rats a1)] [] (.tuple [.agg [.i r.1,.i r.2.1],.bool r.2.2]) [] := by
 refine spec_of (E := E221) Try.func50 rfl rfl rfl rfl ?_
 refine Tri.f 1 [] [.keep [0,1,4] [4]] rfl trivial ?_
 obtain ⟨⟨v1,v2⟩,hk1,h⟩ := bind_some h
 obtain ⟨⟨v3,v4,v5⟩,hk2,h⟩ := bind_some h
 refine Tri.f 2 [.r ⟨[],.tuple [.sl 1100 0,.bool v1],[(1100,.arr 32 0 0 (.rats v2))]⟩,.v (.tuple [.agg [.i v3,.i v4],.bool v5])] [.keep [4,7,8,9] [4,8]] rfl ⟨fun _ => W45 v2 a1 (v3,v4,v5) hk2,fun _ => (W44 a0 (v1,v2) hk1).swap 1000 1100,trivial⟩ ?_
 rcases bif_some h with ⟨hd3,h⟩ | ⟨hd3,h⟩
 ·refine Tri.f 1 [.g true] [.keep [4,8,26] [4,8]] rfl ⟨hd3,trivial⟩ ?_
  refine Tri.f 2 [.g true] [.keep [4,5] [4]] rfl ⟨rfl,trivial⟩ ?_
  cases h
  exact Tri.ret rfl ⟨.inl rfl,rfl,rfl⟩
 ·refine Tri.f 1 [.g false] [.keep [4,8,26] [4,8]] rfl ⟨hd3,trivial⟩ ?_
  rcases bif_some h with ⟨hd4,h⟩ | ⟨hd4,h⟩
  ·refine Tri.f 2 [.g true] [.keep [4,5] [4]] rfl ⟨hd4,trivial⟩ ?_
   cases h
   exact Tri.ret rfl ⟨.inl rfl,rfl,rfl⟩
  ·refine Tri.f 2 [.g false] [.keep [4,5] [4]] rfl ⟨hd4,trivial⟩ ?_
   cases h
   exact Tri.ret rfl ⟨.inl rfl,rfl,rfl⟩
noncomputable def E222 : Env := ⟨Try.prog,tys,(Try.f56.body).getD .skip,38,tysOk,mixedOk⟩
abbrev K134 (r : Bool) (σ' : ASt) : Prop := isRes E222.T Try.f56 (.bool r) [] σ'
noncomputable def l_spec_l5Gives_0 (a0 : List (List Int)) (a3 : List Q) (a4 : List Int) (v1 : Int) : Option (Int ⊕ (Unit ⊕ Bool)) :=
bif decide (v1 < (a0.length : Int)) then
(grd (0 ≤ v1 ∧ v1 < (a0.length : Int)) <|
(m_spec_l5Dot (a0.getD v1.toNat []) a3).bind fun (v2,v3,v4) =>
bif !v4 then
(some (.inr (.inr false)))
else
(grd (0 ≤ v1 ∧ v1 < (a4.length : Int)) <|
(m_spec_l3Int (a4.getD v1.toNat 0)).bind fun (v5,v6) =>
bif !(v2 == v5 && v3 == v6) then
(some (.inr (.inr false)))
else
(some (.inl (IntKind.i64.wrap (v1 + 1))))))
else
(some (.inr (.inl ())))
noncomputable def m_spec_l5Gives (a0 : List (List Int)) (_a1 : List Int) (_a2 a3 : List Q) (a4 : List Int) : Option Bool :=
(iter (l_spec_l5Gives_0 a0 a3 a4) (0 : Int)).bind fun
| (.inl _) => (
some true)
| (.inr r) => some r
theorem W47 (a0 : List (List Int)) (a1 : List Int) (a2 a3 : List Q) (a4 : List Int) (r : Bool) (h : m_spec_l5Gives a0 a1 a2 a3 a4 = some r) : AM.Spec Try.prog 56 [.agg [.list (.intss a0),.list (.ints a1),.list (.rats a2)],.list (.rats a3),.list (.ints a4)] [] (.bool r) [] := by
 refine spec_of (E := E222) Try.func56 rfl rfl rfl rfl ?_
 refine Tri.f 2 [] [.keep [1,2,3,7] [3]] rfl trivial ?_
 obtain ⟨x1,hk8,h⟩ := bind_some h
 refine Tri.loop (K1 := [.code [(1,0),(1,0),(0,0)] 0]) (K2 := [.blk 0,.code [] 2]) (fun v1 => ⟨[(1,.list (.rats a3)),(2,.list (.ints a4)),(3,.ptr 3 0),(7,.i v1)],[(3,.box [.list (.intss a0),.list (.ints a1),.list (.rats a2)])]⟩) (fun x e σ' => match x with | (.inl _) => e = .exit 0 ∧ σ' = ⟨[],[]⟩ | (.inr r) => e = .ret ∧ K134 r σ') hk8 rfl rfl ?_ ?_
 ·intro v1 x hs
  clear h
  have h := hs
  clear hs
  refine Tri.f 1 [] [.keep [1,2,3,7,14] [3]] rfl trivial ?_
  rcases bif_some h with ⟨hd1,h⟩ | ⟨hd1,h⟩
  ·obtain ⟨hg2,h⟩ := grd_some h
   obtain ⟨⟨v2,v3,v4⟩,hk3,h⟩ := bind_some h
   refine Tri.f 2 [.g true,.v (.tuple [.agg [.i v2,.i v3],.bool v4])] [.keep [1,2,3,7,8,9] [3,8]] rfl ⟨fun _ => W46 (a0.getD v1.toNat []) a3 (v2,v3,v4) hk3,hg2,hd1,trivial⟩ ?_
   rcases bif_some h with ⟨hd4,h⟩ | ⟨hd4,h⟩
   ·refine Tri.f 1 [.g true] [.keep [1,2,3,7,37] [3]] rfl ⟨hd4,trivial⟩ ?_
    refine Tri.f 2 [.g true] [.keep [6] []] rfl ⟨rfl,trivial⟩ ?_
    cases h
    exact Tri.ret rfl ⟨nofun,rfl,rfl,rfl⟩
   ·obtain ⟨hg5,h⟩ := grd_some h
    obtain ⟨⟨v5,v6⟩,hk6,h⟩ := bind_some h
    refine Tri.f 1 [.g false,.v (.agg [.i v5,.i v6])] [.keep [1,2,3,7,37] [3]] rfl ⟨fun _ => W12 (a4.getD v1.toNat 0) (v5,v6) hk6,hg5,hd4,trivial⟩ ?_
    rcases bif_some h with ⟨hd7,h⟩ | ⟨hd7,h⟩
    ·refine Tri.f 2 [.g true] [.keep [6] []] rfl ⟨hd7,trivial⟩ ?_
     cases h
     exact Tri.ret rfl ⟨nofun,rfl,rfl,rfl⟩
    ·refine Tri.f 2 [.g false] [.keep [1,2,3,7] [3]] rfl ⟨hd7,trivial⟩ ?_
     cases h
     exact Tri.nil ⟨rfl,rfl⟩
  ·refine Tri.f 1 [.g false] [.keep [] []] rfl ⟨hd1,trivial⟩ ?_
   cases h
   exact Tri.out 0 rfl ⟨nofun,rfl,rfl⟩
 ·intro e σ' hne hq
  rcases x1 with _ | r
  ·obtain ⟨rfl,rfl⟩ := hq
   refine TriX.exit (K' := [.code [] 2]) rfl ?_
   refine Tri.f 1 [] [.keep [6] []] rfl trivial ?_
   cases h
   exact Tri.ret rfl ⟨.inl rfl,rfl,rfl⟩
  ·obtain ⟨rfl,hq⟩ := hq
   cases h
   exact TriX.ret ⟨.inl rfl,hq⟩
noncomputable def E223 : Env := ⟨Try.prog,tys,(Try.f54.body).getD .skip,26,tysOk,mixedOk⟩
abbrev K135 (r : Bool) (σ' : ASt) : Prop := isRes E223.T Try.f54 (.bool r) [] σ'
noncomputable def m_spec_IsFeasible (a0 : List (List Int)) (a1 : List Int) (a2 a3 : List Q) : Option Bool :=
(m_spec_IsValidLP a0 a1 a2).bind fun v1 =>
bif v1 then
(bif (a3.length : Int) == (a2.length : Int) then
((m_spec_l5NotNegative a3).bind fun v2 =>
bif v2 then
((m_spec_l5Gives a0 a1 a2 a3 a1).bind fun v3 =>
some v3)
else
(some false))
else
(some false))
else
(some false)
theorem W48 (a0 : List (List Int)) (a1 : List Int) (a2 a3 : List Q) (r : Bool) (h : m_spec_IsFeasible a0 a1 a2 a3 = some r) : AM.Spec Try.prog 54 [.agg [.list (.intss a0),.list (.ints a1),.list (.rats a2)],.list (.rats a3)] [] (.bool r) [] := by
 refine spec_of (E := E223) Try.func54 rfl rfl rfl rfl ?_
 refine Tri.f 1 [] [.keep [1,2] [2]] rfl trivial ?_
 obtain ⟨v1,hk1,h⟩ := bind_some h
 rcases bif_some h with ⟨hd2,h⟩ | ⟨hd2,h⟩
 ·rcases bif_some h with ⟨hd3,h⟩ | ⟨hd3,h⟩
  ·obtain ⟨v2,hk4,h⟩ := bind_some h
   rcases bif_some h with ⟨hd5,h⟩ | ⟨hd5,h⟩
   ·obtain ⟨v3,hk6,h⟩ := bind_some h
    refine Tri.f 1 [.v (.bool v1),.g true,.g true,.v (.bool v2),.g true,.v (.bool v3)] [.keep [4] []] rfl ⟨fun _ => W47 a0 a1 a2 a3 a1 v3 hk6,hd5,fun _ => W43 a3 v2 hk4,hd3,hd2,fun _ => W17 a0 a1 a2 v1 hk1,trivial⟩ ?_
    cases h
    exact Tri.ret rfl ⟨.inl rfl,rfl,rfl⟩
   ·refine Tri.f 1 [.v (.bool v1),.g true,.g true,.v (.bool v2),.g false] [.keep [4] []] rfl ⟨hd5,fun _ => W43 a3 v2 hk4,hd3,hd2,fun _ => W17 a0 a1 a2 v1 hk1,trivial⟩ ?_
    cases h
    exact Tri.ret rfl ⟨.inl rfl,rfl,rfl⟩
  ·refine Tri.f 1 [.v (.bool v1),.g true,.g false,.g false] [.keep [4] []] rfl ⟨rfl,hd3,hd2,fun _ => W17 a0 a1 a2 v1 hk1,trivial⟩ ?_
   cases h
   exact Tri.ret rfl ⟨.inl rfl,rfl,rfl⟩
 ·refine Tri.f 1 [.v (.bool v1),.g false,.g false,.g false] [.keep [4] []] rfl ⟨rfl,rfl,hd2,fun _ => W17 a0 a1 a2 v1 hk1,trivial⟩ ?_
  cases h
  exact Tri.ret rfl ⟨.inl rfl,rfl,rfl⟩
noncomputable def E224 : Env := ⟨Try.prog,tys,(Try.f10.body).getD .skip,40,tysOk,mixedOk⟩
abbrev K136 (r : List Int) (σ' : ASt) : Prop := isRes E224.T Try.f10 (.sl 1000 0) [(1000,.arr 3 0 0 (.ints r))] σ'
noncomputable def l_spec_ColumnOf_0 (a0 : List (List Int)) (a3 : Int) : (Int × (List Int)) → Option ((Int × (List Int)) ⊕ ((List Int)))
 | (v3,v4) => (
bif decide (v3 < (a0.length : Int)) then
(grd (0 ≤ v3 ∧ v3 < (a0.length : Int)) <|
grd (0 ≤ a3 ∧ a3 < ((a0.getD v3.toNat []).length : Int)) <|
grd (v4.length + ([(a0.getD v3.toNat []).getD a3.toNat 0] : List Int).length ≤ room) <|
some (.inl (IntKind.i64.wrap (v3 + 1),v4 ++ [(a0.getD v3.toNat []).getD a3.toNat 0])))
else
(some (.inr v4)))
noncomputable def m_spec_ColumnOf (a0 : List (List Int)) (a1 : List Int) (a2 : List Q) (a3 : Int) : Option (List Int) :=
(m_spec_IsValidLP a0 a1 a2).bind fun v1 =>
bif !v1 then
(some [])
else
((m_spec_l1In a3 (0 : Int) (IntKind.i64.wrap ((a2.length : Int) - 1))).bind fun v2 =>
bif !v2 then
(some [])
else
((iter (l_spec_ColumnOf_0 a0 a3) ((0 : Int),[])).bind fun
| v5 => (
some v5)))
theorem W49 (a0 : List (List Int)) (a1 : List Int) (a2 : List Q) (a3 : Int) (r : List Int) (h : m_spec_ColumnOf a0 a1 a2 a3 = some r) : AM.Spec Try.prog 10 [.agg [.list (.intss a0),.list (.ints a1),.list (.rats a2)],.i a3] [] (.sl 1000 0) [(1000,.arr 3 0 0 (.ints r))] := by
 refine spec_of (E := E224) Try.func10 rfl rfl rfl rfl ?_
 refine Tri.f 2 [] [.keep [1,2,5] [2,7]] rfl trivial ?_
 obtain ⟨v1,hk1,h⟩ := bind_some h
 rcases bif_some h with ⟨hd2,h⟩ | ⟨hd2,h⟩
 ·refine Tri.f 1 [.v (.bool v1),.g true] [.keep [1,2,5,19] [2,7]] rfl ⟨hd2,fun _ => W17 a0 a1 a2 v1 hk1,trivial⟩ ?_
  refine Tri.f 2 [.g true] [.swap 7 1000,.keep [4] [1000]] rfl ⟨rfl,trivial⟩ ?_
  cases h
  exact Tri.ret rfl ⟨.inl rfl,rfl,rfl⟩
 ·obtain ⟨v2,hk3,h⟩ := bind_some h
  refine Tri.f 1 [.v (.bool v1),.g false,.v (.bool v2)] [.keep [1,2,5,19] [2,7]] rfl ⟨fun _ => W7 a3 (0 : Int) (IntKind.i64.wrap ((a2.length : Int) - 1)) v2 hk3,hd2,fun _ => W17 a0 a1 a2 v1 hk1,trivial⟩ ?_
  rcases bif_some h with ⟨hd4,h⟩ | ⟨hd4,h⟩
  ·refine Tri.f 2 [.g true] [.swap 7 1000,.keep [4] [1000]] rfl ⟨hd4,trivial⟩ ?_
   cases h
   exact Tri.ret rfl ⟨.inl rfl,rfl,rfl⟩
  ·refine Tri.f 2 [.g false] [.keep [1,2,5,6] [2,7]] rfl ⟨hd4,trivial⟩ ?_
   obtain ⟨v5,hk9,h⟩ := bind_some h
   refine Tri.loop (K1 := [.code [(3,0),(1,0),(0,0)] 0]) (K2 := [.blk 0,.code [] 4]) (fun (v3,v4) => ⟨[(1,.i a3),(2,.ptr 2 0),(5,.sl 7 0),(6,.i v3)],[(2,.box [.list (.intss a0),.list (.ints a1),.list (.rats a2)]),(7,.arr 3 0 0 (.ints v4))]⟩) (fun x e σ' => match x with | v5 => e = .exit 0 ∧ σ' = ⟨[(5,.sl 7 0)],[(7,.arr 3 0 0 (.ints v5))]⟩) hk9 rfl rfl ?_ ?_
   ·intro s x hs
    clear h
    have h := hs
    clear hs
    obtain ⟨v3,v4⟩ := s
    refine Tri.f 1 [] [.keep [1,2,5,6,25] [2,7]] rfl trivial ?_
    rcases bif_some h with ⟨hd5,h⟩ | ⟨hd5,h⟩
    ·obtain ⟨hg6,h⟩ := grd_some h
     obtain ⟨hg7,h⟩ := grd_some h
     obtain ⟨hg8,h⟩ := grd_some h
     refine Tri.f 3 [.g true] [.rever 7,.keep [1,2,5,6] [2,7]] rfl ⟨hg8,hg7,hg6,hd5,trivial⟩ ?_
     cases h
     exact Tri.nil ⟨rfl,rfl⟩
    ·refine Tri.f 1 [.g false] [.keep [5] [7]] rfl ⟨hd5,trivial⟩ ?_
     cases h
     exact Tri.out 0 rfl ⟨nofun,rfl,rfl⟩
   ·intro e σ' hne hq
    obtain ⟨rfl,rfl⟩ := hq
    refine TriX.exit (K' := [.code [] 4]) rfl ?_
    refine Tri.f 1 [] [.swap 7 1000,.keep [4] [1000]] rfl trivial ?_
    cases h
    exact Tri.ret rfl ⟨.inl rfl,rfl,rfl⟩
noncomputable def E225 : Env := ⟨Try.prog,tys,(Try.f51.body).getD .skip,36,tysOk,mixedOk⟩
abbrev K137 (r : Bool) (σ' : ASt) : Prop := isRes E225.T Try.f51 (.bool r) [] σ'
noncomputable def l_spec_l5Dual_0 (a0 : List (List Int)) (a1 : List Int) (a2 a3 a4 : List Q) (v1 : Int) : Option (Int ⊕ (Unit ⊕ Bool)) :=
bif decide (v1 < (a2.length : Int)) then
((m_spec_ColumnOf a0 a1 a2 v1).bind fun v2 =>
(m_spec_l5Dot v2 a3).bind fun (v3,v4,v5) =>
bif !v5 then
(some (.inr (.inr false)))
else
(grd (0 ≤ v1 ∧ v1 < (a4.length : Int)) <|
(m_spec_CompareRat ((a4.getD v1.toNat ⟨0,0⟩).num) ((a4.getD v1.toNat ⟨0,0⟩).den) v3 v4).bind fun v6 =>
bif decide (v6 < 0) then
(some (.inr (.inr false)))
else
(some (.inl (IntKind.i64.wrap (v1 + 1))))))
else
(some (.inr (.inl ())))
noncomputable def m_spec_l5Dual (a0 : List (List Int)) (a1 : List Int) (a2 a3 a4 : List Q) : Option Bool :=
(iter (l_spec_l5Dual_0 a0 a1 a2 a3 a4) (0 : Int)).bind fun
| (.inl _) => (
some true)
| (.inr r) => some r
theorem W50 (a0 : List (List Int)) (a1 : List Int) (a2 a3 a4 : List Q) (r : Bool) (h : m_spec_l5Dual a0 a1 a2 a3 a4 = some r) : AM.Spec Try.prog 51 [.agg [.list (.intss a0),.list (.ints a1),.list (.rats a2)],.list (.rats a3),.list (.rats a4)] [] (.bool r) [] := by
 refine spec_of (E := E225) Try.func51 rfl rfl rfl rfl ?_
 refine Tri.f 2 [] [.keep [1,2,3,7] [3]] rfl trivial ?_
 obtain ⟨x1,hk8,h⟩ := bind_some h
 refine Tri.loop (K1 := [.code [(1,0),(1,0),(0,0)] 0]) (K2 := [.blk 0,.code [] 2]) (fun v1 => ⟨[(1,.list (.rats a3)),(2,.list (.rats a4)),(3,.ptr 3 0),(7,.i v1)],[(3,.box [.list (.intss a0),.list (.ints a1),.list (.rats a2)])]⟩) (fun x e σ' => match x with | (.inl _) => e = .exit 0 ∧ σ' = ⟨[],[]⟩ | (.inr r) => e = .ret ∧ K137 r σ') hk8 rfl rfl ?_ ?_
 ·intro v1 x hs
  clear h
  have h := hs
  clear hs
  refine Tri.f 1 [] [.keep [1,2,3,7,14] [3]] rfl trivial ?_
  rcases bif_some h with ⟨hd1,h⟩ | ⟨hd1,h⟩
  ·obtain ⟨v2,hk2,h⟩ := bind_some h
   obtain ⟨⟨v3,v4,v5⟩,hk3,h⟩ := bind_some h
   refine Tri.f 2 [.g true,.r ⟨[],.sl 1100 0,[(1100,.arr 3 0 0 (.ints v2))]⟩,.v (.tuple [.agg [.i v3,.i v4],.bool v5])] [.keep [1,2,3,7,8,9] [3,8]] rfl ⟨fun _ => W46 v2 a3 (v3,v4,v5) hk3,fun _ => (W49 a0 a1 a2 v1 v2 hk2).swap 1000 1100,hd1,trivial⟩ ?_
   rcases bif_some h with ⟨hd4,h⟩ | ⟨hd4,h⟩
   ·refine Tri.f 1 [.g true] [.keep [1,2,3,7,35] [3]] rfl ⟨hd4,trivial⟩ ?_
    refine Tri.f 2 [.g true] [.keep [6] []] rfl ⟨rfl,trivial⟩ ?_
    cases h
    exact Tri.ret rfl ⟨nofun,rfl,rfl,rfl⟩
   ·obtain ⟨hg5,h⟩ := grd_some h
    obtain ⟨v6,hk6,h⟩ := bind_some h
    refine Tri.f 1 [.g false,.v (.i v6)] [.keep [1,2,3,7,35] [3]] rfl ⟨fun _ => W26 ((a4.getD v1.toNat ⟨0,0⟩).num) ((a4.getD v1.toNat ⟨0,0⟩).den) v3 v4 v6 hk6,hg5,hd4,trivial⟩ ?_
    rcases bif_some h with ⟨hd7,h⟩ | ⟨hd7,h⟩
    ·refine Tri.f 2 [.g true] [.keep [6] []] rfl ⟨hd7,trivial⟩ ?_
     cases h
     exact Tri.ret rfl ⟨nofun,rfl,rfl,rfl⟩
    ·refine Tri.f 2 [.g false] [.keep [1,2,3,7] [3]] rfl ⟨hd7,trivial⟩ ?_
     cases h
     exact Tri.nil ⟨rfl,rfl⟩
  ·refine Tri.f 1 [.g false] [.keep [] []] rfl ⟨hd1,trivial⟩ ?_
   cases h
   exact Tri.out 0 rfl ⟨nofun,rfl,rfl⟩
 ·intro e σ' hne hq
  rcases x1 with _ | r
  ·obtain ⟨rfl,rfl⟩ := hq
   refine TriX.exit (K' := [.code [] 2]) rfl ?_
   refine Tri.f 1 [] [.keep [6] []] rfl trivial ?_
   cases h
   exact Tri.ret rfl ⟨.inl rfl,rfl,rfl⟩
  ·obtain ⟨rfl,hq⟩ := hq
   cases h
   exact TriX.ret ⟨.inl rfl,hq⟩
noncomputable def E226 : Env := ⟨Try.prog,tys,(Try.f49.body).getD .skip,63,tysOk,mixedOk⟩
abbrev K138 (r : Bool) (σ' : ASt) : Prop := isRes E226.T Try.f49 (.bool r) [] σ'
noncomputable def m_spec_l5Optimal (a0 : List (List Int)) (a1 : List Int) (a2 : List Q) (_a3 : Int) (a4 a5 _a6 : List Q) (a7 a8 _a9 : Int) : Option Bool :=
(m_spec_IsFeasible a0 a1 a2 a4).bind fun v1 =>
bif !v1 then
(some false)
else
(bif (a5.length : Int) != (a1.length : Int) then
(some false)
else
((m_spec_l5Dual a0 a1 a2 a5 a2).bind fun v2 =>
bif !v2 then
(some false)
else
((m_spec_DotRat a2 a4).bind fun (v3,v4,v5) =>
(m_spec_l5Dot a1 a5).bind fun (v6,v7,v8) =>
bif v5 then
(bif v8 then
(bif v3 == v6 && v4 == v7 then
(some (v3 == a7 && v4 == a8))
else
(some false))
else
(some false))
else
(some false))))
theorem W51 (a0 : List (List Int)) (a1 : List Int) (a2 : List Q) (a3 : Int) (a4 a5 a6 : List Q) (a7 a8 a9 : Int) (r : Bool) (h : m_spec_l5Optimal a0 a1 a2 a3 a4 a5 a6 a7 a8 a9 = some r) : AM.Spec Try.prog 49 [.agg [.list (.intss a0),.list (.ints a1),.list (.rats a2)],.agg [.i a3,.list (.rats a4),.list (.rats a5),.list (.rats a6),.i a7,.i a8,.i a9]] [] (.bool r) [] := by
 refine spec_of (E := E226) Try.func49 rfl rfl rfl rfl ?_
 refine Tri.f 1 [] [.keep [2,3] [2,3]] rfl trivial ?_
 obtain ⟨v1,hk1,h⟩ := bind_some h
 rcases bif_some h with ⟨hd2,h⟩ | ⟨hd2,h⟩
 ·refine Tri.f 1 [.v (.bool v1),.g true,.g true] [.keep [2,3,31] [2,3]] rfl ⟨rfl,hd2,fun _ => W48 a0 a1 a2 a4 v1 hk1,trivial⟩ ?_
  refine Tri.f 2 [.g true] [.keep [4] []] rfl ⟨rfl,trivial⟩ ?_
  cases h
  exact Tri.ret rfl ⟨.inl rfl,rfl,rfl⟩
 ·rcases bif_some h with ⟨hd3,h⟩ | ⟨hd3,h⟩
  ·refine Tri.f 1 [.v (.bool v1),.g false,.g true] [.keep [2,3,31] [2,3]] rfl ⟨hd3,hd2,fun _ => W48 a0 a1 a2 a4 v1 hk1,trivial⟩ ?_
   refine Tri.f 2 [.g true] [.keep [4] []] rfl ⟨rfl,trivial⟩ ?_
   cases h
   exact Tri.ret rfl ⟨.inl rfl,rfl,rfl⟩
  ·obtain ⟨v2,hk4,h⟩ := bind_some h
   refine Tri.f 1 [.v (.bool v1),.g false,.g false,.v (.bool v2)] [.keep [2,3,31] [2,3]] rfl ⟨fun _ => W50 a0 a1 a2 a5 a2 v2 hk4,hd3,hd2,fun _ => W48 a0 a1 a2 a4 v1 hk1,trivial⟩ ?_
   rcases bif_some h with ⟨hd5,h⟩ | ⟨hd5,h⟩
   ·refine Tri.f 2 [.g true] [.keep [4] []] rfl ⟨hd5,trivial⟩ ?_
    cases h
    exact Tri.ret rfl ⟨.inl rfl,rfl,rfl⟩
   ·obtain ⟨⟨v3,v4,v5⟩,hk6,h⟩ := bind_some h
    refine Tri.f 2 [.g false,.v (.tuple [.agg [.i v3,.i v4],.bool v5])] [.keep [2,3,5,6] [2,3,5]] rfl ⟨fun _ => W45 a2 a4 (v3,v4,v5) hk6,hd5,trivial⟩ ?_
    obtain ⟨⟨v6,v7,v8⟩,hk7,h⟩ := bind_some h
    rcases bif_some h with ⟨hd8,h⟩ | ⟨hd8,h⟩
    ·rcases bif_some h with ⟨hd9,h⟩ | ⟨hd9,h⟩
     ·rcases bif_some h with ⟨hd10,h⟩ | ⟨hd10,h⟩
      ·refine Tri.f 2 [.v (.tuple [.agg [.i v6,.i v7],.bool v8]),.g true,.g true,.g true] [.keep [4] []] rfl ⟨hd10,hd9,hd8,fun _ => W46 a1 a5 (v6,v7,v8) hk7,trivial⟩ ?_
       cases h
       exact Tri.ret rfl ⟨.inl rfl,rfl,rfl⟩
      ·refine Tri.f 2 [.v (.tuple [.agg [.i v6,.i v7],.bool v8]),.g true,.g true,.g false] [.keep [4] []] rfl ⟨hd10,hd9,hd8,fun _ => W46 a1 a5 (v6,v7,v8) hk7,trivial⟩ ?_
       cases h
       exact Tri.ret rfl ⟨.inl rfl,rfl,rfl⟩
     ·refine Tri.f 2 [.v (.tuple [.agg [.i v6,.i v7],.bool v8]),.g true,.g false,.g false] [.keep [4] []] rfl ⟨rfl,hd9,hd8,fun _ => W46 a1 a5 (v6,v7,v8) hk7,trivial⟩ ?_
      cases h
      exact Tri.ret rfl ⟨.inl rfl,rfl,rfl⟩
    ·refine Tri.f 2 [.v (.tuple [.agg [.i v6,.i v7],.bool v8]),.g false,.g false,.g false] [.keep [4] []] rfl ⟨rfl,rfl,hd8,fun _ => W46 a1 a5 (v6,v7,v8) hk7,trivial⟩ ?_
     cases h
     exact Tri.ret rfl ⟨.inl rfl,rfl,rfl⟩
noncomputable def E227 : Env := ⟨Try.prog,tys,(Try.f52.body).getD .skip,16,tysOk,mixedOk⟩
abbrev K139 (r : List Q) (σ' : ASt) : Prop := isRes E227.T Try.f52 (.sl 1000 0) [(1000,.arr 32 0 0 (.rats r))] σ'
noncomputable def l_spec_l5Zeros_0 (a0 : Int) : (Int × (List Q)) → Option ((Int × (List Q)) ⊕ ((List Q)))
 | (v1,v2) => (
bif decide (v1 < a0) then
((m_spec_l3Int (0 : Int)).bind fun (v3,v4) =>
grd (v2.length + ([⟨v3,v4⟩] : List Q).length ≤ room) <|
some (.inl (IntKind.i64.wrap (v1 + 1),v2 ++ [⟨v3,v4⟩])))
else
(some (.inr v2)))
noncomputable def m_spec_l5Zeros (a0 : Int) : Option (List Q) :=
(iter (l_spec_l5Zeros_0 a0) ((0 : Int),[])).bind fun
| v5 => (
some v5)
theorem W52 (a0 : Int) (r : List Q) (h : m_spec_l5Zeros a0 = some r) : AM.Spec Try.prog 52 [.i a0] [] (.sl 1000 0) [(1000,.arr 32 0 0 (.rats r))] := by
 refine spec_of (E := E227) Try.func52 rfl rfl rfl rfl ?_
 refine Tri.f 3 [] [.keep [0,3,4] [5]] rfl trivial ?_
 obtain ⟨v5,hk4,h⟩ := bind_some h
 refine Tri.loop (K1 := [.code [(2,0),(1,0),(0,0)] 0]) (K2 := [.blk 0,.code [] 3]) (fun (v1,v2) => ⟨[(0,.i a0),(3,.sl 5 0),(4,.i v1)],[(5,.arr 32 0 0 (.rats v2))]⟩) (fun x e σ' => match x with | v5 => e = .exit 0 ∧ σ' = ⟨[(3,.sl 5 0)],[(5,.arr 32 0 0 (.rats v5))]⟩) hk4 rfl rfl ?_ ?_
 ·intro s x hs
  clear h
  have h := hs
  clear hs
  obtain ⟨v1,v2⟩ := s
  refine Tri.f 1 [] [.keep [0,3,4,8] [5]] rfl trivial ?_
  rcases bif_some h with ⟨hd1,h⟩ | ⟨hd1,h⟩
  ·obtain ⟨⟨v3,v4⟩,hk2,h⟩ := bind_some h
   obtain ⟨hg3,h⟩ := grd_some h
   refine Tri.f 3 [.g true,.v (.agg [.i v3,.i v4])] [.rever 5,.keep [0,3,4] [5]] rfl ⟨hg3,fun _ => W12 (0 : Int) (v3,v4) hk2,hd1,trivial⟩ ?_
   cases h
   exact Tri.nil ⟨rfl,rfl⟩
  ·refine Tri.f 1 [.g false] [.keep [3] [5]] rfl ⟨hd1,trivial⟩ ?_
   cases h
   exact Tri.out 0 rfl ⟨nofun,rfl,rfl⟩
 ·intro e σ' hne hq
  obtain ⟨rfl,rfl⟩ := hq
  refine TriX.exit (K' := [.code [] 3]) rfl ?_
  refine Tri.f 1 [] [.swap 5 1000,.keep [2] [1000]] rfl trivial ?_
  cases h
  exact Tri.ret rfl ⟨.inl rfl,rfl,rfl⟩
noncomputable def E228 : Env := ⟨Try.prog,tys,(Try.f21.body).getD .skip,100,tysOk,mixedOk⟩
abbrev K140 (r : Bool) (σ' : ASt) : Prop := isRes E228.T Try.f21 (.bool r) [] σ'
noncomputable def m_spec_CheckLP (a0 : List (List Int)) (a1 : List Int) (a2 : List Q) (a3 : Int) (a4 a5 a6 : List Q) (a7 a8 a9 : Int) : Option Bool :=
(m_spec_IsValidLP a0 a1 a2).bind fun v1 =>
bif !v1 then
(some false)
else
(bif a3 == 1 then
((m_spec_l5Optimal a0 a1 a2 a3 a4 a5 a6 a7 a8 a9).bind fun v2 =>
some v2)
else
(bif a3 == 2 then
((m_spec_l5Dot a1 a5).bind fun (v3,_,v5) =>
bif (a5.length : Int) == (a1.length : Int) then
((m_spec_l5Zeros (a2.length : Int)).bind fun v6 =>
(m_spec_l5Dual a0 a1 a2 a5 v6).bind fun v7 =>
bif v7 then
(bif v5 then
(some (decide (v3 > 0)))
else
(some false))
else
(some false))
else
(some false))
else
(bif a3 == 3 then
((m_spec_DotRat a2 a6).bind fun (v8,_,v10) =>
(m_spec_IsFeasible a0 a1 a2 a4).bind fun v11 =>
bif v11 then
(bif (a6.length : Int) == (a2.length : Int) then
((m_spec_l5NotNegative a6).bind fun v12 =>
bif v12 then
(grd ((0 : Int) ≤ (a1.length : Int) ∧ (a1.length : Int) = (a1.length : Int) ∧ (a1.length : Int) ≤ (room : Int)) <|
(m_spec_l5Gives a0 a1 a2 a6 (List.replicate (a1.length : Int).toNat (0 : Int))).bind fun v13 =>
bif v13 then
(bif v10 then
(some (decide (v8 < 0)))
else
(some false))
else
(some false))
else
(some false))
else
(some false))
else
(some false))
else
(some false))))
theorem W53 (a0 : List (List Int)) (a1 : List Int) (a2 : List Q) (a3 : Int) (a4 a5 a6 : List Q) (a7 a8 a9 : Int) (r : Bool) (h : m_spec_CheckLP a0 a1 a2 a3 a4 a5 a6 a7 a8 a9 = some r) : AM.Spec Try.prog 21 [.agg [.list (.intss a0),.list (.ints a1),.list (.rats a2)],.agg [.i a3,.list (.rats a4),.list (.rats a5),.list (.rats a6),.i a7,.i a8,.i a9]] [] (.bool r) [] := by
 refine spec_of (E := E228) Try.func21 rfl rfl rfl rfl ?_
 refine Tri.f 1 [] [.keep [2,3] [2,3]] rfl trivial ?_
 obtain ⟨v1,hk1,h⟩ := bind_some h
 refine Tri.f 1 [.v (.bool v1)] [.keep [2,3,11] [2,3]] rfl ⟨fun _ => W17 a0 a1 a2 v1 hk1,trivial⟩ ?_
 rcases bif_some h with ⟨hd2,h⟩ | ⟨hd2,h⟩
 ·refine Tri.f 2 [.g true] [.keep [4] []] rfl ⟨hd2,trivial⟩ ?_
  cases h
  exact Tri.ret rfl ⟨.inl rfl,rfl,rfl⟩
 ·refine Tri.f 3 [.g false] [.keep [2,3,13,14] [2,3]] rfl ⟨hd2,trivial⟩ ?_
  rcases bif_some h with ⟨hd3,h⟩ | ⟨hd3,h⟩
  ·obtain ⟨v2,hk4,h⟩ := bind_some h
   refine Tri.f 2 [.g true,.v (.bool v2)] [.keep [4] []] rfl ⟨fun _ => W51 a0 a1 a2 a3 a4 a5 a6 a7 a8 a9 v2 hk4,hd3,trivial⟩ ?_
   cases h
   exact Tri.ret rfl ⟨.inl rfl,rfl,rfl⟩
  ·refine Tri.f 2 [.g false] [.keep [2,3,13,19] [2,3]] rfl ⟨hd3,trivial⟩ ?_
   rcases bif_some h with ⟨hd5,h⟩ | ⟨hd5,h⟩
   ·obtain ⟨⟨v3,v4,v5⟩,hk6,h⟩ := bind_some h
    refine Tri.f 2 [.g true,.v (.tuple [.agg [.i v3,.i v4],.bool v5])] [.keep [2,3,5,6] [2,3,5]] rfl ⟨fun _ => W46 a1 a5 (v3,v4,v5) hk6,hd5,trivial⟩ ?_
    rcases bif_some h with ⟨hd7,h⟩ | ⟨hd7,h⟩
    ·obtain ⟨v6,hk8,h⟩ := bind_some h
     obtain ⟨v7,hk9,h⟩ := bind_some h
     rcases bif_some h with ⟨hd10,h⟩ | ⟨hd10,h⟩
     ·rcases bif_some h with ⟨hd11,h⟩ | ⟨hd11,h⟩
      ·refine Tri.f 1 [.g true,.r ⟨[],.sl 1100 0,[(1100,.arr 32 0 0 (.rats v6))]⟩,.v (.bool v7),.g true,.g true] [.keep [4] []] rfl ⟨hd11,hd10,fun _ => W50 a0 a1 a2 a5 v6 v7 hk9,fun _ => (W52 (a2.length : Int) v6 hk8).swap 1000 1100,hd7,trivial⟩ ?_
       cases h
       exact Tri.ret rfl ⟨.inl rfl,rfl,rfl⟩
      ·refine Tri.f 1 [.g true,.r ⟨[],.sl 1100 0,[(1100,.arr 32 0 0 (.rats v6))]⟩,.v (.bool v7),.g true,.g false] [.keep [4] []] rfl ⟨hd11,hd10,fun _ => W50 a0 a1 a2 a5 v6 v7 hk9,fun _ => (W52 (a2.length : Int) v6 hk8).swap 1000 1100,hd7,trivial⟩ ?_
       cases h
       exact Tri.ret rfl ⟨.inl rfl,rfl,rfl⟩
     ·refine Tri.f 1 [.g true,.r ⟨[],.sl 1100 0,[(1100,.arr 32 0 0 (.rats v6))]⟩,.v (.bool v7),.g false,.g false] [.keep [4] []] rfl ⟨rfl,hd10,fun _ => W50 a0 a1 a2 a5 v6 v7 hk9,fun _ => (W52 (a2.length : Int) v6 hk8).swap 1000 1100,hd7,trivial⟩ ?_
      cases h
      exact Tri.ret rfl ⟨.inl rfl,rfl,rfl⟩
    ·refine Tri.f 1 [.g false,.g false,.g false] [.keep [4] []] rfl ⟨rfl,rfl,hd7,trivial⟩ ?_
     cases h
     exact Tri.ret rfl ⟨.inl rfl,rfl,rfl⟩
   ·refine Tri.f 2 [.g false] [.keep [2,3,54] [2,3]] rfl ⟨hd5,trivial⟩ ?_
    rcases bif_some h with ⟨hd12,h⟩ | ⟨hd12,h⟩
    ·obtain ⟨⟨v8,v9,v10⟩,hk13,h⟩ := bind_some h
     refine Tri.f 2 [.g true,.v (.tuple [.agg [.i v8,.i v9],.bool v10])] [.keep [2,3,7,8] [2,3,7]] rfl ⟨fun _ => W45 a2 a6 (v8,v9,v10) hk13,hd12,trivial⟩ ?_
     obtain ⟨v11,hk14,h⟩ := bind_some h
     rcases bif_some h with ⟨hd15,h⟩ | ⟨hd15,h⟩
     ·rcases bif_some h with ⟨hd16,h⟩ | ⟨hd16,h⟩
      ·obtain ⟨v12,hk17,h⟩ := bind_some h
       rcases bif_some h with ⟨hd18,h⟩ | ⟨hd18,h⟩
       ·obtain ⟨hg19,h⟩ := grd_some h
        obtain ⟨v13,hk20,h⟩ := bind_some h
        rcases bif_some h with ⟨hd21,h⟩ | ⟨hd21,h⟩
        ·rcases bif_some h with ⟨hd22,h⟩ | ⟨hd22,h⟩
         ·refine Tri.f 1 [.v (.bool v11),.g true,.g true,.v (.bool v12),.g true,.v (.bool v13),.g true,.g true] [.keep [4] []] rfl ⟨hd22,hd21,fun _ => W47 a0 a1 a2 a6 (List.replicate (a1.length : Int).toNat (0 : Int)) v13 hk20,hg19,hd18,fun _ => W43 a6 v12 hk17,hd16,hd15,fun _ => W48 a0 a1 a2 a4 v11 hk14,trivial⟩ ?_
          cases h
          exact Tri.ret rfl ⟨.inl rfl,rfl,rfl⟩
         ·refine Tri.f 1 [.v (.bool v11),.g true,.g true,.v (.bool v12),.g true,.v (.bool v13),.g true,.g false] [.keep [4] []] rfl ⟨hd22,hd21,fun _ => W47 a0 a1 a2 a6 (List.replicate (a1.length : Int).toNat (0 : Int)) v13 hk20,hg19,hd18,fun _ => W43 a6 v12 hk17,hd16,hd15,fun _ => W48 a0 a1 a2 a4 v11 hk14,trivial⟩ ?_
          cases h
          exact Tri.ret rfl ⟨.inl rfl,rfl,rfl⟩
        ·refine Tri.f 1 [.v (.bool v11),.g true,.g true,.v (.bool v12),.g true,.v (.bool v13),.g false,.g false] [.keep [4] []] rfl ⟨rfl,hd21,fun _ => W47 a0 a1 a2 a6 (List.replicate (a1.length : Int).toNat (0 : Int)) v13 hk20,hg19,hd18,fun _ => W43 a6 v12 hk17,hd16,hd15,fun _ => W48 a0 a1 a2 a4 v11 hk14,trivial⟩ ?_
         cases h
         exact Tri.ret rfl ⟨.inl rfl,rfl,rfl⟩
       ·refine Tri.f 1 [.v (.bool v11),.g true,.g true,.v (.bool v12),.g false,.g false,.g false] [.keep [4] []] rfl ⟨rfl,rfl,hd18,fun _ => W43 a6 v12 hk17,hd16,hd15,fun _ => W48 a0 a1 a2 a4 v11 hk14,trivial⟩ ?_
        cases h
        exact Tri.ret rfl ⟨.inl rfl,rfl,rfl⟩
      ·refine Tri.f 1 [.v (.bool v11),.g true,.g false,.g false,.g false,.g false] [.keep [4] []] rfl ⟨rfl,rfl,rfl,hd16,hd15,fun _ => W48 a0 a1 a2 a4 v11 hk14,trivial⟩ ?_
       cases h
       exact Tri.ret rfl ⟨.inl rfl,rfl,rfl⟩
     ·refine Tri.f 1 [.v (.bool v11),.g false,.g false,.g false,.g false,.g false] [.keep [4] []] rfl ⟨rfl,rfl,rfl,rfl,hd15,fun _ => W48 a0 a1 a2 a4 v11 hk14,trivial⟩ ?_
      cases h
      exact Tri.ret rfl ⟨.inl rfl,rfl,rfl⟩
    ·refine Tri.f 2 [.g false] [.keep [4] []] rfl ⟨hd12,trivial⟩ ?_
     cases h
     exact Tri.ret rfl ⟨.inl rfl,rfl,rfl⟩
noncomputable def E229 : Env := ⟨Try.prog,tys,(Try.f6.body).getD .skip,37,tysOk,mixedOk⟩
abbrev K141 (r : Int × Int × Int × Int × (List Q) × (List Q) × (List Q)) (σ' : ASt) : Prop := isRes E229.T Try.f6 (.agg [.i r.1,.sl 1000 0,.sl 1001 0,.sl 1002 0,.i r.2.1,.i r.2.2.1,.i r.2.2.2.1]) [(1000,.arr 32 0 0 (.rats r.2.2.2.2.1)),(1001,.arr 32 0 0 (.rats r.2.2.2.2.2.1)),(1002,.arr 32 0 0 (.rats r.2.2.2.2.2.2))] σ'
noncomputable def m_spec_SolveLP (a0 : List (List Int)) (a1 : List Int) (a2 : List Q) : Option (Int × Int × Int × Int × (List Q) × (List Q) × (List Q)) :=
(m_spec_IsValidLP a0 a1 a2).bind fun v1 =>
bif !v1 then
(some (0,0,0,0,[],[],[]))
else
((m_spec_StartTableau a0 a1 a2).bind fun (v2,v3,v4) =>
(m_spec_l7Solve_io3 a0 a1 a2 v3 v4 v2 0 false).bind fun (v5,v6,v7,_,v9,v10,v11,_,_,_,v15,v16) =>
bif v16 then
(some ((4 : Int),0,0,0,[],[],[]))
else
((m_spec_CheckLP a0 a1 a2 v5 v9 v10 v11 v6 v7 v15).bind fun v17 =>
bif !v17 then
(some ((4 : Int),0,0,0,[],[],[]))
else
((m_spec_l4Copy v9).bind fun v18 =>
some (v5,v6,v7,v15,v18,v10,v11))))
theorem W54 (a0 : List (List Int)) (a1 : List Int) (a2 : List Q) (r : Int × Int × Int × Int × (List Q) × (List Q) × (List Q)) (h : m_spec_SolveLP a0 a1 a2 = some r) : AM.Spec Try.prog 6 [.agg [.list (.intss a0),.list (.ints a1),.list (.rats a2)]] [] (.agg [.i r.1,.sl 1000 0,.sl 1001 0,.sl 1002 0,.i r.2.1,.i r.2.2.1,.i r.2.2.2.1]) [(1000,.arr 32 0 0 (.rats r.2.2.2.2.1)),(1001,.arr 32 0 0 (.rats r.2.2.2.2.2.1)),(1002,.arr 32 0 0 (.rats r.2.2.2.2.2.2))] := by
 refine spec_of (E := E229) Try.func6 rfl rfl rfl rfl ?_
 refine Tri.f 1 [] [.keep [1,2] [1,2],.ownc 2 1 1100 32,.ownc 2 2 1101 32,.ownc 2 3 1102 32,.keep [1,2] [1,2,1100,1101,1102]] rfl trivial ?_
 obtain ⟨v1,hk1,h⟩ := bind_some h
 refine Tri.f 1 [.v (.bool v1)] [.keep [1,2,7] [1,2,1100,1101,1102]] rfl ⟨fun _ => W17 a0 a1 a2 v1 hk1,trivial⟩ ?_
 rcases bif_some h with ⟨hd2,h⟩ | ⟨hd2,h⟩
 ·refine Tri.f 2 [.g true] [.ownc 2 1 1103 32,.ownc 2 2 1104 32,.ownc 2 3 1105 32,.swap 1103 1000,.swap 1104 1001,.swap 1105 1002,.keep [2] [2,1000,1001,1002]] rfl ⟨hd2,trivial⟩ ?_
  cases h
  exact Tri.ret rfl ⟨.inl rfl,rfl,rfl⟩
 ·obtain ⟨⟨v2,v3,v4⟩,hk3,h⟩ := bind_some h
  refine Tri.f 2 [.g false,.r ⟨[],.agg [.sl 1106 0,.sl 1107 0,.i v2],[(1106,.arr 26 0 0 (.ratss v3)),(1107,.arr 3 0 0 (.ints v4))]⟩] [.keep [1,2,3] [1,2,13,1100,1101,1102,1106,1107]] rfl ⟨fun _ => ((W18 a0 a1 a2 (v2,v3,v4) hk3).swap 1000 1106).swap 1001 1107,hd2,trivial⟩ ?_
  obtain ⟨⟨v5,v6,v7,v8,v9,v10,v11,v12,v13,v14,v15,v16⟩,hk4,h⟩ := bind_some h
  refine Tri.f 2 [.r ⟨[13,1106,1107],.agg [.i v5,.sl 1108 0,.sl 1109 0,.sl 1110 0,.i v6,.i v7,.i v8],[(1108,.arr 32 0 0 (.rats v9)),(1109,.arr 32 0 0 (.rats v10)),(1110,.arr 32 0 0 (.rats v11)),(1111,.arr 26 0 0 (.ratss v12)),(1112,.arr 3 0 0 (.ints v13)),(13,.box [.undf,.undf,.undf,.sl 1111 0,.sl 1112 0,.i v14,.i v15,.bool v16])]⟩] [.keep [1,2,3,4] [1,2,4,13,1100,1101,1102,1108,1109,1110,1111,1112]] rfl ⟨(fun vf => (((((((((W42 (vf 13 0) (vf 13 1) (vf 13 2) a0 a1 a2 v3 v4 v2 0 false (v5,v6,v7,v8,v9,v10,v11,v12,v13,v14,v15,v16) hk4).swap 1000 1108).swap 1001 1109).swap 1002 1110).swap 1003 1111).swap 1004 1112).swap 2160 13).swap 2161 1106).swap 2162 1107)),trivial⟩ ?_
  rcases bif_some h with ⟨hd5,h⟩ | ⟨hd5,h⟩
  ·refine Tri.f 1 [.g true] [.keep [2,4,30] [2,4,1100,1101,1102,1108,1109,1110]] rfl ⟨hd5,trivial⟩ ?_
   refine Tri.f 2 [.g true] [.ownc 2 1 1113 32,.ownc 2 2 1114 32,.ownc 2 3 1115 32,.swap 1113 1000,.swap 1114 1001,.swap 1115 1002,.keep [2] [2,1000,1001,1002]] rfl ⟨rfl,trivial⟩ ?_
   cases h
   exact Tri.ret rfl ⟨.inl rfl,rfl,rfl⟩
  ·obtain ⟨v17,hk6,h⟩ := bind_some h
   refine Tri.f 1 [.g false,.v (.bool v17)] [.keep [2,4,30] [2,4,1100,1101,1102,1108,1109,1110]] rfl ⟨fun _ => W53 a0 a1 a2 v5 v9 v10 v11 v6 v7 v15 v17 hk6,hd5,trivial⟩ ?_
   rcases bif_some h with ⟨hd7,h⟩ | ⟨hd7,h⟩
   ·refine Tri.f 2 [.g true] [.ownc 2 1 1116 32,.ownc 2 2 1117 32,.ownc 2 3 1118 32,.swap 1116 1000,.swap 1117 1001,.swap 1118 1002,.keep [2] [2,1000,1001,1002]] rfl ⟨hd7,trivial⟩ ?_
    cases h
    exact Tri.ret rfl ⟨.inl rfl,rfl,rfl⟩
   ·obtain ⟨v18,hk8,h⟩ := bind_some h
    refine Tri.f 3 [.g false,.r ⟨[],.sl 1119 0,[(1119,.arr 32 0 0 (.rats v18))]⟩] [.swap 1119 1000,.swap 1109 1001,.swap 1110 1002,.keep [2] [2,1000,1001,1002]] rfl ⟨fun _ => (W21 v9 v18 hk8).swap 1000 1119,hd7,trivial⟩ ?_
    cases h
    exact Tri.ret rfl ⟨.inl rfl,rfl,rfl⟩
noncomputable def E230 : Env := ⟨Try.prog,tys,(Try.f36.body).getD .skip,25,tysOk,mixedOk⟩
abbrev K142 (u0 : Value) (a0 : List UInt8) (r : Int × Int × Int × Int) (σ' : ASt) : Prop := isRes E230.T Try.f36 (.agg [.i r.1,.i r.2.1]) [(2300,.box [.lst u0 (.bytes a0),.i r.2.2.1,.i r.2.2.2])] σ'
noncomputable def m_spec_l3Draw_io1 (a0 : List UInt8) (a1 a2 : Int) : Option (Int × Int × Int × Int) :=
(m_spec_l1PickInt_io1 a0 a1 a2 [(0 : Int),(1 : Int),(2 : Int),(-1 : Int),(3 : Int),(-7 : Int),(12 : Int),(999999999 : Int),(-1000000000 : Int)]).bind fun (v1,v2,v3) =>
(m_spec_l1PickInt_io1 a0 v2 v3 [(1 : Int),(1 : Int),(2 : Int),(3 : Int),(7 : Int),(1000000000 : Int),(999999937 : Int)]).bind fun (v4,v5,v6) =>
(m_spec_RatOf v1 v4).bind fun (v7,v8,_) =>
(m_spec_l1Once_io1 a0 v5 v6 (12 : Int)).bind fun (v10,v11,v12) =>
bif v10 then
((m_spec_l1PickInt_io1 a0 v11 v12 [(0 : Int),(2 : Int),(1000000001 : Int)]).bind fun (v13,v14,v15) =>
(m_spec_l1PickInt_io1 a0 v14 v15 [(0 : Int),(2 : Int),(-1 : Int),(1 : Int)]).bind fun (v16,v17,v18) =>
some (v13,v16,v17,v18))
else
(some (v7,v8,v11,v12))
theorem W55 (u0 : Value) (a0 : List UInt8) (a1 a2 : Int) (r : Int × Int × Int × Int) (h : m_spec_l3Draw_io1 a0 a1 a2 = some r) : AM.Spec Try.prog 36 [.ptr 2300 0] [(2300,.box [.lst u0 (.bytes a0),.i a1,.i a2])] (.agg [.i r.1,.i r.2.1]) [(2300,.box [.lst u0 (.bytes a0),.i r.2.2.1,.i r.2.2.2])] := by
 refine spec_of (E := E230) Try.func36 rfl rfl rfl rfl ?_
 refine Tri.f 1 [] [.keep [0,2] [2,2300]] rfl trivial ?_
 obtain ⟨⟨v1,v2,v3⟩,hk1,h⟩ := bind_some h
 obtain ⟨⟨v4,v5,v6⟩,hk2,h⟩ := bind_some h
 obtain ⟨⟨v7,v8,v9⟩,hk3,h⟩ := bind_some h
 obtain ⟨⟨v10,v11,v12⟩,hk4,h⟩ := bind_some h
 refine Tri.f 2 [.r ⟨[2300],.i v1,[(2300,.box [.undf,.i v2,.i v3])]⟩,.r ⟨[2300],.i v4,[(2300,.box [.undf,.i v5,.i v6])]⟩,.v (.tuple [.agg [.i v7,.i v8],.bool v9]),.r ⟨[2300],.bool v10,[(2300,.box [.undf,.i v11,.i v12])]⟩] [.keep [0,2,3,16] [2,3,2300]] rfl ⟨(fun vf => ((W4 (vf 2300 0) a0 v5 v6 (12 : Int) (v10,v11,v12) hk4).swap 2100 2300)),fun _ => W10 v1 v4 (v7,v8,v9) hk3,(fun vf => ((W5 (vf 2300 0) a0 v2 v3 [(1 : Int),(1 : Int),(2 : Int),(3 : Int),(7 : Int),(1000000000 : Int),(999999937 : Int)] (v4,v5,v6) hk2).swap 2140 2300)),(fun vf => ((W5 (vf 2300 0) a0 a1 a2 [(0 : Int),(1 : Int),(2 : Int),(-1 : Int),(3 : Int),(-7 : Int),(12 : Int),(999999999 : Int),(-1000000000 : Int)] (v1,v2,v3) hk1).swap 2140 2300)),trivial⟩ ?_
 rcases bif_some h with ⟨hd5,h⟩ | ⟨hd5,h⟩
 ·obtain ⟨⟨v13,v14,v15⟩,hk6,h⟩ := bind_some h
  obtain ⟨⟨v16,v17,v18⟩,hk7,h⟩ := bind_some h
  refine Tri.f 2 [.g true,.r ⟨[2300],.i v13,[(2300,.box [.undf,.i v14,.i v15])]⟩,.r ⟨[2300],.i v16,[(2300,.box [.undf,.i v17,.i v18])]⟩] [.keep [2] [2,2300]] rfl ⟨(fun vf => ((W5 (vf 2300 0) a0 v14 v15 [(0 : Int),(2 : Int),(-1 : Int),(1 : Int)] (v16,v17,v18) hk7).swap 2140 2300)),(fun vf => ((W5 (vf 2300 0) a0 v11 v12 [(0 : Int),(2 : Int),(1000000001 : Int)] (v13,v14,v15) hk6).swap 2140 2300)),hd5,trivial⟩ ?_
  cases h
  exact Tri.ret rfl ⟨.inl rfl,rfl,rfl⟩
 ·refine Tri.f 2 [.g false] [.keep [2] [2,2300]] rfl ⟨hd5,trivial⟩ ?_
  cases h
  exact Tri.ret rfl ⟨.inl rfl,rfl,rfl⟩
noncomputable def E231 : Env := ⟨Try.prog,tys,(Try.f17.body).getD .skip,19,tysOk,mixedOk⟩
abbrev K143 (u0 : Value) (a0 : List UInt8) (r : (List Q) × Int × Int) (σ' : ASt) : Prop := isRes E231.T Try.f17 (.sl 1000 0) [(1000,.arr 32 0 0 (.rats r.1)),(2280,.box [.lst u0 (.bytes a0),.i r.2.1,.i r.2.2])] σ'
noncomputable def l_spec_l4Draw_io1_0 (a0 : List UInt8) (a3 : Int) : (Int × (List Q) × Int × Int) → Option ((Int × (List Q) × Int × Int) ⊕ (((List Q) × Int × Int)))
 | (v1,v2,v3,v4) => (
bif decide (v1 < a3) then
((m_spec_l3Draw_io1 a0 v3 v4).bind fun (v5,v6,v7,v8) =>
grd (v2.length + ([⟨v5,v6⟩] : List Q).length ≤ room) <|
some (.inl (IntKind.i64.wrap (v1 + 1),v2 ++ [⟨v5,v6⟩],v7,v8)))
else
(some (.inr (v2,v3,v4))))
noncomputable def m_spec_l4Draw_io1 (a0 : List UInt8) (a1 a2 a3 : Int) : Option ((List Q) × Int × Int) :=
(iter (l_spec_l4Draw_io1_0 a0 a3) ((0 : Int),[],a1,a2)).bind fun
| (v9,v10,v11) => (
some (v9,v10,v11))
theorem W56 (u0 : Value) (a0 : List UInt8) (a1 a2 a3 : Int) (r : (List Q) × Int × Int) (h : m_spec_l4Draw_io1 a0 a1 a2 a3 = some r) : AM.Spec Try.prog 17 [.ptr 2280 0,.i a3] [(2280,.box [.lst u0 (.bytes a0),.i a1,.i a2])] (.sl 1000 0) [(1000,.arr 32 0 0 (.rats r.1)),(2280,.box [.lst u0 (.bytes a0),.i r.2.1,.i r.2.2])] := by
 refine spec_of (E := E231) Try.func17 rfl rfl rfl rfl ?_
 refine Tri.f 3 [] [.keep [0,1,5,6] [7,2280]] rfl trivial ?_
 obtain ⟨x1,hk4,h⟩ := bind_some h
 refine Tri.loop (K1 := [.code [(2,0),(1,0),(0,0)] 0]) (K2 := [.blk 0,.code [] 3]) (fun (v1,v2,v3,v4) => ⟨[(0,.ptr 2280 0),(1,.i a3),(5,.sl 7 0),(6,.i v1)],[(7,.arr 32 0 0 (.rats v2)),(2280,.box [.lst u0 (.bytes a0),.i v3,.i v4])]⟩) (fun x e σ' => match x with | (v9,v10,v11) => e = .exit 0 ∧ σ' = ⟨[(5,.sl 7 0)],[(7,.arr 32 0 0 (.rats v9)),(2280,.box [.lst u0 (.bytes a0),.i v10,.i v11])]⟩) hk4 rfl rfl ?_ ?_
 ·intro s x hs
  clear h
  have h := hs
  clear hs
  obtain ⟨v1,v2,v3,v4⟩ := s
  refine Tri.f 1 [] [.keep [0,1,5,6,10] [7,2280]] rfl trivial ?_
  rcases bif_some h with ⟨hd1,h⟩ | ⟨hd1,h⟩
  ·obtain ⟨⟨v5,v6,v7,v8⟩,hk2,h⟩ := bind_some h
   obtain ⟨hg3,h⟩ := grd_some h
   refine Tri.f 3 [.g true,.r ⟨[2280],.agg [.i v5,.i v6],[(2280,.box [.undf,.i v7,.i v8])]⟩] [.rever 7,.keep [0,1,5,6] [7,2280]] rfl ⟨hg3,(fun vf => ((W55 (vf 2280 0) a0 v3 v4 (v5,v6,v7,v8) hk2).swap 2300 2280)),hd1,trivial⟩ ?_
   cases h
   exact Tri.nil ⟨rfl,rfl⟩
  ·refine Tri.f 1 [.g false] [.keep [5] [7,2280]] rfl ⟨hd1,trivial⟩ ?_
   cases h
   exact Tri.out 0 rfl ⟨nofun,rfl,rfl⟩
 ·intro e σ' hne hq
  obtain ⟨v9,v10,v11⟩ := x1
  obtain ⟨rfl,rfl⟩ := hq
  refine TriX.exit (K' := [.code [] 3]) rfl ?_
  refine Tri.f 1 [] [.swap 7 1000,.keep [4] [1000,2280]] rfl trivial ?_
  cases h
  exact Tri.ret rfl ⟨.inl rfl,rfl,rfl⟩
end Go.Proofs.Ytbkpiknmlomjnaa
