/- models and walks -/
import Derived.Test.YtjnbmknniadbpaaGreatProg
import Derived.Test.YtjnbmknniadbpaaGreatAmB
namespace Go.Proofs.YtjnbmknniadbpaaGreat
open Go.AM
set_option maxRecDepth 100000
set_option maxHeartbeats 4000000
noncomputable def tys : TEnv := [(3,.int .i64),
 (4,.bool),
 (5,.int .u8),
 (22,.slice 5 (.bytes [])),
 (24,.slice 25 (.intss [])),
 (25,.slice 3 (.ints [])),
 (26,.slice 31 (.rats [])),
 (28,.struct [(0,24),(1,25),(2,26)] [.nil (.intss []),.nil (.ints []),.nil (.rats [])] false),
 (31,.struct [(0,3),(1,3)] [.i 0,.i 0] true),
 (33,.struct [(0,3),(1,26),(2,26),(3,26),(4,31),(6,3)] [.i 0,.nil (.rats []),.nil (.rats []),.nil (.rats []),.i 0,.i 0,.i 0] false),
 (37,.slice 26 (.ratss [])),
 (39,.struct [(0,37),(1,25),(2,3)] [.nil (.ratss []),.nil (.ints []),.i 0] false),
 (48,.struct [(0,3),(1,25)] [.i 0,.nil (.ints [])] false),
 (51,.struct [(0,3),(1,26),(2,26)] [.i 0,.nil (.rats []),.nil (.rats [])] false),
 (94,.struct [(0,28),(3,39),(6,3),(7,4)] [.nil (.intss []),.nil (.ints []),.nil (.rats []),.nil (.ratss []),.nil (.ints []),.i 0,.i 0,.bool false] false),
 (146,.struct [(0,22),(1,3),(2,3)] [.nil (.bytes []),.i 0,.i 0] false),
 (149,.struct [(0,39),(3,3),(4,4)] [.nil (.ratss []),.nil (.ints []),.i 0,.i 0,.bool false] false)]
theorem tysOk : TOk Tryz.prog tys := tok_of (by kernel_rfl)
theorem mixedOk : Tryz.prog.follows .mixedOrders = true := by kernel_rfl
noncomputable def E285 : Env := ⟨Tryz.prog,tys,(Tryz.f9.body).getD .skip,6,tysOk,mixedOk⟩
abbrev K142 (r : Bool) (σ' : ASt) : Prop := isRes E285.T Tryz.f9 (.bool r) [] σ'
noncomputable def m_laws_big (a0 : List UInt8) : Option Bool :=
some (decide ((a0.length : Int) > 1048576))
theorem W0 (a0 : List UInt8) (r : Bool) (h : m_laws_big a0 = some r) : AM.Spec Tryz.prog 9 [.list (.bytes a0)] [] (.bool r) [] := by
 refine spec_of (E := E285) Tryz.func9 rfl rfl rfl rfl ?_
 refine Tri.f 2 [] [.keep [2] []] rfl trivial ?_
 cases h
 exact Tri.ret rfl ⟨.inl rfl,rfl,rfl⟩
noncomputable def E286 : Env := ⟨Tryz.prog,tys,(Tryz.f63.body).getD .skip,32,tysOk,mixedOk⟩
abbrev K143 (r : (List UInt8) × Int × Int × (List Int) × Int) (σ' : ASt) : Prop := isRes E286.T Tryz.f63 (.ptr 1000 0) [(1000,.box [.list (.bytes r.1),.i r.2.1,.i r.2.2.1]),(1001,.arr 3 0 0 (.ints r.2.2.2.1)),(2000,.box [.i r.2.2.2.2,.sl 1001 0])] σ'
noncomputable def l_spec_l1New_io2_0 (a2 : List UInt8) : (Int × Int) → Option ((Int × Int) ⊕ Int)
 | (v1,v2) => (
bif decide (v2 < (a2.length : Int)) then
(bif decide (v2 < 4000) then
(grd (0 ≤ v2 ∧ v2 < (a2.length : Int)) <|
some (.inl (bitsOf .and .i64 (IntKind.i64.wrap ((IntKind.i64.wrap ((IntKind.i64.wrap (v1 * 131)) + (IntKind.i64.wrap (((a2.getD v2.toNat 0).toNat : Int))))) + 7)) (1073741823 : Int),IntKind.i64.wrap (v2 + 1))))
else
(some (.inr v1)))
else
(some (.inr v1)))
noncomputable def m_spec_l1New_io2 (a0 : Int) (a1 : List Int) (a2 : List UInt8) : Option ((List UInt8) × Int × Int × (List Int) × Int) :=
(iter (l_spec_l1New_io2_0 a2) (IntKind.i64.wrap ((26583 : Int) + (a2.length : Int)),(0 : Int))).bind fun
| v3 => (
some (a2,0,v3,a1,a0))
theorem W1 (a0 : Int) (a1 : List Int) (a2 : List UInt8) (r : (List UInt8) × Int × Int × (List Int) × Int) (h : m_spec_l1New_io2 a0 a1 a2 = some r) : AM.Spec Tryz.prog 63 [.list (.bytes a2)] [(2000,.box [.i a0,.sl 2001 0]),(2001,.arr 3 0 0 (.ints a1))] (.ptr 1000 0) [(1000,.box [.list (.bytes r.1),.i r.2.1,.i r.2.2.1]),(1001,.arr 3 0 0 (.ints r.2.2.2.1)),(2000,.box [.i r.2.2.2.2,.sl 1001 0])] := by
 refine spec_of (E := E286) Tryz.func63 rfl rfl rfl rfl ?_
 refine Tri.f 3 [] [.swap 2001 1100,.keep [0,3,4] [1100,2000]] rfl trivial ?_
 obtain ⟨v3,hk4,h⟩ := bind_some h
 refine Tri.loop (K1 := [.code [(2,0),(1,0),(0,0)] 0]) (K2 := [.blk 0,.code [] 3]) (fun (v1,v2) => ⟨[(0,.list (.bytes a2)),(3,.i v1),(4,.i v2)],[(1100,.arr 3 0 0 (.ints a1)),(2000,.box [.i a0,.sl 1100 0])]⟩) (fun x e σ' => match x with | v3 => e = .exit 0 ∧ σ' = ⟨[(0,.list (.bytes a2)),(3,.i v3)],[(1100,.arr 3 0 0 (.ints a1)),(2000,.box [.i a0,.sl 1100 0])]⟩) hk4 rfl rfl ?_ ?_
 ·intro s x hs
  clear h
  have h := hs
  clear hs
  obtain ⟨v1,v2⟩ := s
  rcases bif_some h with ⟨hd1,h⟩ | ⟨hd1,h⟩
  ·refine Tri.f 1 [.g true] [.keep [0,3,4,15] [1100,2000]] rfl ⟨hd1,trivial⟩ ?_
   rcases bif_some h with ⟨hd2,h⟩ | ⟨hd2,h⟩
   ·obtain ⟨hg3,h⟩ := grd_some h
    refine Tri.f 3 [.g true] [.keep [0,3,4] [1100,2000]] rfl ⟨hg3,hd2,trivial⟩ ?_
    cases h
    exact Tri.nil ⟨rfl,rfl⟩
   ·refine Tri.f 1 [.g false] [.keep [0,3] [1100,2000]] rfl ⟨hd2,trivial⟩ ?_
    cases h
    exact Tri.out 0 rfl ⟨nofun,rfl,rfl⟩
  ·refine Tri.f 1 [.g false] [.keep [0,3,4,15] [1100,2000]] rfl ⟨hd1,trivial⟩ ?_
   refine Tri.f 1 [.g false] [.keep [0,3] [1100,2000]] rfl ⟨rfl,trivial⟩ ?_
   cases h
   exact Tri.out 0 rfl ⟨nofun,rfl,rfl⟩
 ·intro e σ' hne hq
  obtain ⟨rfl,rfl⟩ := hq
  refine TriX.exit (K' := [.code [] 3]) rfl ?_
  refine Tri.f 1 [] [.swap 31 1000,.swap 1100 1001,.keep [2] [1000,1001,2000]] rfl trivial ?_
  cases h
  exact Tri.ret rfl ⟨.inl rfl,rfl,rfl⟩
noncomputable def E287 : Env := ⟨Tryz.prog,tys,(Tryz.f161.body).getD .skip,58,tysOk,mixedOk⟩
abbrev K144 (u0 : Value) (a0 : List UInt8) (r : Int × Int × Int) (σ' : ASt) : Prop := isRes E287.T Tryz.f161 (.i r.1) [(2060,.box [.lst u0 (.bytes a0),.i r.2.1,.i r.2.2])] σ'
noncomputable def m_spec_l1Byte_io1 (a0 : List UInt8) (a1 a2 : Int) : Option (Int × Int × Int) :=
grd ((0 : Int) ≤ (33 : Int)) <|
grd ((0 : Int) ≤ (45 : Int)) <|
((some (bitsOf .and .i64 (bitsOf .xor .i64 ((IntKind.i64.wrap ((IntKind.i64.wrap (a2 * 6364136223846793005)) + 1442695040888963407)).fdiv (2 ^ (min (33 : Int).toNat 64))) ((IntKind.i64.wrap ((IntKind.i64.wrap (a2 * 6364136223846793005)) + 1442695040888963407)).fdiv (2 ^ (min (45 : Int).toNat 64)))) (255 : Int) : Int)).bind fun v1 =>
bif decide (a1 < (a0.length : Int)) then
(grd (0 ≤ a1 ∧ a1 < (a0.length : Int)) <|
some (bitsOf .and .i64 (IntKind.i64.wrap (v1 + (IntKind.i64.wrap (((a0.getD a1.toNat 0).toNat : Int))))) (255 : Int),IntKind.i64.wrap (a1 + 1),IntKind.i64.wrap ((IntKind.i64.wrap (a2 * 6364136223846793005)) + 1442695040888963407)))
else
(some (v1,a1,IntKind.i64.wrap ((IntKind.i64.wrap (a2 * 6364136223846793005)) + 1442695040888963407))))
theorem W2 (u0 : Value) (a0 : List UInt8) (a1 a2 : Int) (r : Int × Int × Int) (h : m_spec_l1Byte_io1 a0 a1 a2 = some r) : AM.Spec Tryz.prog 161 [.ptr 2060 0] [(2060,.box [.lst u0 (.bytes a0),.i a1,.i a2])] (.i r.1) [(2060,.box [.lst u0 (.bytes a0),.i r.2.1,.i r.2.2])] := by
 refine spec_of (E := E287) Tryz.func161 rfl rfl rfl rfl ?_
 obtain ⟨hg1,h⟩ := grd_some h
 obtain ⟨hg2,h⟩ := grd_some h
 refine Tri.u 3 [] [.keep [0,3] [2060]] [.code [(3,0),(0,0)] 0,.code [(3,0)] 1,.code [] 4] ⟨[(0,.ptr 2060 0),(3,.i (bitsOf .and .i64 (bitsOf .xor .i64 ((IntKind.i64.wrap ((IntKind.i64.wrap (a2 * 6364136223846793005)) + 1442695040888963407)).fdiv (2 ^ (min (33 : Int).toNat 64))) ((IntKind.i64.wrap ((IntKind.i64.wrap (a2 * 6364136223846793005)) + 1442695040888963407)).fdiv (2 ^ (min (45 : Int).toNat 64)))) (255 : Int)))],[(2060,.box [.lst u0 (.bytes a0),.i a1,.i (IntKind.i64.wrap ((IntKind.i64.wrap (a2 * 6364136223846793005)) + 1442695040888963407))])]⟩ rfl ⟨hg2,hg1,trivial⟩ rfl ?_
 obtain ⟨v1,hk3,h⟩ := bind_some h
 have hk3 := Option.some.inj hk3
 rw [hk3]
 refine Tri.f 1 [] [.keep [0,3,34] [2060]] rfl trivial ?_
 rcases bif_some h with ⟨hd4,h⟩ | ⟨hd4,h⟩
 ·obtain ⟨hg5,h⟩ := grd_some h
  refine Tri.f 3 [.g true] [.keep [3] [2060]] rfl ⟨hg5,hd4,trivial⟩ ?_
  refine Tri.f 1 [] [.keep [2] [2060]] rfl trivial ?_
  cases h
  exact Tri.ret rfl ⟨.inl rfl,rfl,rfl⟩
 ·refine Tri.f 2 [.g false] [.keep [2] [2060]] rfl ⟨hd4,trivial⟩ ?_
  cases h
  exact Tri.ret rfl ⟨.inl rfl,rfl,rfl⟩
noncomputable def E288 : Env := ⟨Tryz.prog,tys,(Tryz.f78.body).getD .skip,37,tysOk,mixedOk⟩
abbrev K145 (u0 : Value) (a0 : List UInt8) (r : Int × Int × Int) (σ' : ASt) : Prop := isRes E288.T Tryz.f78 (.i r.1) [(2040,.box [.lst u0 (.bytes a0),.i r.2.1,.i r.2.2])] σ'
noncomputable def m_spec_l1Below_io1 (a0 : List UInt8) (a1 a2 a3 : Int) : Option (Int × Int × Int) :=
bif decide (a3 ≤ 0) then
(some ((0 : Int),a1,a2))
else
(bif decide (a3 ≤ 256) then
((m_spec_l1Byte_io1 a0 a1 a2).bind fun (v1,v2,v3) =>
grd (a3 ≠ 0) <|
some (v1.tmod a3,v2,v3))
else
((m_spec_l1Byte_io1 a0 a1 a2).bind fun (v4,v5,v6) =>
(m_spec_l1Byte_io1 a0 v5 v6).bind fun (v7,v8,v9) =>
(m_spec_l1Byte_io1 a0 v8 v9).bind fun (v10,v11,v12) =>
(m_spec_l1Byte_io1 a0 v11 v12).bind fun (v13,v14,v15) =>
grd (a3 ≠ 0) <|
some ((IntKind.i64.wrap ((IntKind.i64.wrap ((IntKind.i64.wrap ((IntKind.i64.wrap (v4 * 16777216)) + (IntKind.i64.wrap (v7 * 65536)))) + (IntKind.i64.wrap (v10 * 256)))) + v13)).tmod a3,v14,v15)))
theorem W3 (u0 : Value) (a0 : List UInt8) (a1 a2 a3 : Int) (r : Int × Int × Int) (h : m_spec_l1Below_io1 a0 a1 a2 a3 = some r) : AM.Spec Tryz.prog 78 [.ptr 2040 0,.i a3] [(2040,.box [.lst u0 (.bytes a0),.i a1,.i a2])] (.i r.1) [(2040,.box [.lst u0 (.bytes a0),.i r.2.1,.i r.2.2])] := by
 refine spec_of (E := E288) Tryz.func78 rfl rfl rfl rfl ?_
 refine Tri.f 2 [] [.keep [0,1,10] [2040]] rfl trivial ?_
 rcases bif_some h with ⟨hd1,h⟩ | ⟨hd1,h⟩
 ·refine Tri.f 2 [.g true] [.keep [4] [2040]] rfl ⟨hd1,trivial⟩ ?_
  cases h
  exact Tri.ret rfl ⟨.inl rfl,rfl,rfl⟩
 ·refine Tri.f 2 [.g false] [.keep [0,1,12] [2040]] rfl ⟨hd1,trivial⟩ ?_
  rcases bif_some h with ⟨hd2,h⟩ | ⟨hd2,h⟩
  ·obtain ⟨⟨v1,v2,v3⟩,hk3,h⟩ := bind_some h
   obtain ⟨hg4,h⟩ := grd_some h
   refine Tri.f 2 [.g true,.r ⟨[2040],.i v1,[(2040,.box [.undf,.i v2,.i v3])]⟩] [.keep [4] [2040]] rfl ⟨hg4,(fun vf => ((W2 (vf 2040 0) a0 a1 a2 (v1,v2,v3) hk3).swap 2060 2040)),hd2,trivial⟩ ?_
   cases h
   exact Tri.ret rfl ⟨.inl rfl,rfl,rfl⟩
  ·obtain ⟨⟨v4,v5,v6⟩,hk5,h⟩ := bind_some h
   refine Tri.f 2 [.g false,.r ⟨[2040],.i v4,[(2040,.box [.undf,.i v5,.i v6])]⟩] [.keep [0,1,5] [2040]] rfl ⟨(fun vf => ((W2 (vf 2040 0) a0 a1 a2 (v4,v5,v6) hk5).swap 2060 2040)),hd2,trivial⟩ ?_
   obtain ⟨⟨v7,v8,v9⟩,hk6,h⟩ := bind_some h
   obtain ⟨⟨v10,v11,v12⟩,hk7,h⟩ := bind_some h
   refine Tri.f 2 [.r ⟨[2040],.i v7,[(2040,.box [.undf,.i v8,.i v9])]⟩,.r ⟨[2040],.i v10,[(2040,.box [.undf,.i v11,.i v12])]⟩] [.keep [0,1,5,6,7] [2040]] rfl ⟨(fun vf => ((W2 (vf 2040 0) a0 v8 v9 (v10,v11,v12) hk7).swap 2060 2040)),(fun vf => ((W2 (vf 2040 0) a0 v5 v6 (v7,v8,v9) hk6).swap 2060 2040)),trivial⟩ ?_
   obtain ⟨⟨v13,v14,v15⟩,hk8,h⟩ := bind_some h
   obtain ⟨hg9,h⟩ := grd_some h
   refine Tri.f 2 [.r ⟨[2040],.i v13,[(2040,.box [.undf,.i v14,.i v15])]⟩] [.keep [4] [2040]] rfl ⟨hg9,(fun vf => ((W2 (vf 2040 0) a0 v11 v12 (v13,v14,v15) hk8).swap 2060 2040)),trivial⟩ ?_
   cases h
   exact Tri.ret rfl ⟨.inl rfl,rfl,rfl⟩
noncomputable def E289 : Env := ⟨Tryz.prog,tys,(Tryz.f84.body).getD .skip,15,tysOk,mixedOk⟩
abbrev K146 (r : Bool) (σ' : ASt) : Prop := isRes E289.T Tryz.f84 (.bool r) [] σ'
noncomputable def m_spec_l1In (a0 a1 a2 : Int) : Option Bool :=
bif decide (a0 ≥ a1) then
(some (decide (a0 ≤ a2)))
else
(some false)
theorem W4 (a0 a1 a2 : Int) (r : Bool) (h : m_spec_l1In a0 a1 a2 = some r) : AM.Spec Tryz.prog 84 [.i a0,.i a1,.i a2] [] (.bool r) [] := by
 refine spec_of (E := E289) Tryz.func84 rfl rfl rfl rfl ?_
 refine Tri.f 1 [] [.keep [0,1,2] []] rfl trivial ?_
 rcases bif_some h with ⟨hd1,h⟩ | ⟨hd1,h⟩
 ·refine Tri.f 1 [.g true] [.keep [6] []] rfl ⟨hd1,trivial⟩ ?_
  cases h
  exact Tri.ret rfl ⟨.inl rfl,rfl,rfl⟩
 ·refine Tri.f 1 [.g false] [.keep [6] []] rfl ⟨hd1,trivial⟩ ?_
  cases h
  exact Tri.ret rfl ⟨.inl rfl,rfl,rfl⟩
noncomputable def E290 : Env := ⟨Tryz.prog,tys,(Tryz.f128.body).getD .skip,16,tysOk,mixedOk⟩
abbrev K147 (r : Int) (σ' : ASt) : Prop := isRes E290.T Tryz.f128 (.i r) [] σ'
noncomputable def l_spec_CountCoalitions_0 (a0 : Int) : (Int × Int) → Option ((Int × Int) ⊕ Int)
 | (v2,v3) => (
bif decide (v3 < a0) then
(some (.inl (IntKind.i64.wrap (v2 * 2),IntKind.i64.wrap (v3 + 1))))
else
(some (.inr v2)))
noncomputable def m_spec_CountCoalitions (a0 : Int) : Option Int :=
(m_spec_l1In a0 (0 : Int) (5 : Int)).bind fun v1 =>
bif !v1 then
(some (0 : Int))
else
((iter (l_spec_CountCoalitions_0 a0) ((1 : Int),(0 : Int))).bind fun
| v4 => (
some v4))
theorem W5 (a0 r : Int) (h : m_spec_CountCoalitions a0 = some r) : AM.Spec Tryz.prog 128 [.i a0] [] (.i r) [] := by
 refine spec_of (E := E290) Tryz.func128 rfl rfl rfl rfl ?_
 refine Tri.f 1 [] [.keep [0] []] rfl trivial ?_
 obtain ⟨v1,hk1,h⟩ := bind_some h
 refine Tri.f 1 [.v (.bool v1)] [.keep [0,7] []] rfl ⟨fun _ => W4 a0 (0 : Int) (5 : Int) v1 hk1,trivial⟩ ?_
 rcases bif_some h with ⟨hd2,h⟩ | ⟨hd2,h⟩
 ·refine Tri.f 2 [.g true] [.keep [2] []] rfl ⟨hd2,trivial⟩ ?_
  cases h
  exact Tri.ret rfl ⟨.inl rfl,rfl,rfl⟩
 ·refine Tri.f 3 [.g false] [.keep [0,3,4] []] rfl ⟨hd2,trivial⟩ ?_
  obtain ⟨v4,hk4,h⟩ := bind_some h
  refine Tri.loop (K1 := [.code [(3,0),(1,0),(0,0)] 0]) (K2 := [.blk 0,.code [] 4]) (fun (v2,v3) => ⟨[(0,.i a0),(3,.i v2),(4,.i v3)],[]⟩) (fun x e σ' => match x with | v4 => e = .exit 0 ∧ σ' = ⟨[(3,.i v4)],[]⟩) hk4 rfl rfl ?_ ?_
  ·intro s x hs
   clear h
   have h := hs
   clear hs
   obtain ⟨v2,v3⟩ := s
   refine Tri.f 1 [] [.keep [0,3,4,10] []] rfl trivial ?_
   rcases bif_some h with ⟨hd3,h⟩ | ⟨hd3,h⟩
   ·refine Tri.f 3 [.g true] [.keep [0,3,4] []] rfl ⟨hd3,trivial⟩ ?_
    cases h
    exact Tri.nil ⟨rfl,rfl⟩
   ·refine Tri.f 1 [.g false] [.keep [3] []] rfl ⟨hd3,trivial⟩ ?_
    cases h
    exact Tri.out 0 rfl ⟨nofun,rfl,rfl⟩
  ·intro e σ' hne hq
   obtain ⟨rfl,rfl⟩ := hq
   refine TriX.exit (K' := [.code [] 4]) rfl ?_
   refine Tri.f 1 [] [.keep [2] []] rfl trivial ?_
   cases h
   exact Tri.ret rfl ⟨.inl rfl,rfl,rfl⟩
noncomputable def E291 : Env := ⟨Tryz.prog,tys,(Tryz.f178.body).getD .skip,5,tysOk,mixedOk⟩
abbrev K148 (r : Int) (σ' : ASt) : Prop := isRes E291.T Tryz.f178 (.i r) [] σ'
noncomputable def m_spec_l2Bit (a0 : Int) : Option Int :=
(m_spec_CountCoalitions a0).bind fun v1 =>
some v1
theorem W6 (a0 r : Int) (h : m_spec_l2Bit a0 = some r) : AM.Spec Tryz.prog 178 [.i a0] [] (.i r) [] := by
 refine spec_of (E := E291) Tryz.func178 rfl rfl rfl rfl ?_
 refine Tri.f 1 [] [.keep [0] []] rfl trivial ?_
 obtain ⟨v1,hk1,h⟩ := bind_some h
 refine Tri.f 1 [.v (.i v1)] [.keep [2] []] rfl ⟨fun _ => W5 a0 v1 hk1,trivial⟩ ?_
 cases h
 exact Tri.ret rfl ⟨.inl rfl,rfl,rfl⟩
noncomputable def E292 : Env := ⟨Tryz.prog,tys,(Tryz.f121.body).getD .skip,19,tysOk,mixedOk⟩
abbrev K149 (r : Bool) (σ' : ASt) : Prop := isRes E292.T Tryz.f121 (.bool r) [] σ'
noncomputable def m_spec_HasPlayer (a0 a1 : Int) : Option Bool :=
(m_spec_l1In a1 (0 : Int) (4 : Int)).bind fun v1 =>
bif v1 then
(bif decide (a0 ≥ 0) then
((m_spec_l2Bit a1).bind fun v2 =>
grd (v2 ≠ 0) <|
grd ((2 : Int) ≠ 0) <|
some (((IntKind.i64.wrap (a0.tdiv v2)).tmod (2 : Int)) == 1))
else
(some false))
else
(some false)
theorem W7 (a0 a1 : Int) (r : Bool) (h : m_spec_HasPlayer a0 a1 = some r) : AM.Spec Tryz.prog 121 [.i a0,.i a1] [] (.bool r) [] := by
 refine spec_of (E := E292) Tryz.func121 rfl rfl rfl rfl ?_
 refine Tri.f 1 [] [.keep [0,1] []] rfl trivial ?_
 obtain ⟨v1,hk1,h⟩ := bind_some h
 rcases bif_some h with ⟨hd2,h⟩ | ⟨hd2,h⟩
 ·rcases bif_some h with ⟨hd3,h⟩ | ⟨hd3,h⟩
  ·obtain ⟨v2,hk4,h⟩ := bind_some h
   obtain ⟨hg5,h⟩ := grd_some h
   obtain ⟨hg6,h⟩ := grd_some h
   refine Tri.f 1 [.v (.bool v1),.g true,.g true,.v (.i v2)] [.keep [4] []] rfl ⟨hg6,hg5,fun _ => W6 a1 v2 hk4,hd3,hd2,fun _ => W4 a1 (0 : Int) (4 : Int) v1 hk1,trivial⟩ ?_
   cases h
   exact Tri.ret rfl ⟨.inl rfl,rfl,rfl⟩
  ·refine Tri.f 1 [.v (.bool v1),.g true,.g false] [.keep [4] []] rfl ⟨hd3,hd2,fun _ => W4 a1 (0 : Int) (4 : Int) v1 hk1,trivial⟩ ?_
   cases h
   exact Tri.ret rfl ⟨.inl rfl,rfl,rfl⟩
 ·refine Tri.f 1 [.v (.bool v1),.g false,.g false] [.keep [4] []] rfl ⟨rfl,hd2,fun _ => W4 a1 (0 : Int) (4 : Int) v1 hk1,trivial⟩ ?_
  cases h
  exact Tri.ret rfl ⟨.inl rfl,rfl,rfl⟩
noncomputable def E293 : Env := ⟨Tryz.prog,tys,(Tryz.f179.body).getD .skip,15,tysOk,mixedOk⟩
abbrev K150 (r : Int) (σ' : ASt) : Prop := isRes E293.T Tryz.f179 (.i r) [] σ'
noncomputable def l_spec_SizeOf_0 (a0 : Int) : (Int × Int) → Option ((Int × Int) ⊕ Int)
 | (v1,v2) => (
bif decide (v2 < 5) then
((m_spec_HasPlayer a0 v2).bind fun v3 =>
bif v3 then
(some (.inl (IntKind.i64.wrap (v1 + 1),IntKind.i64.wrap (v2 + 1))))
else
(some (.inl (v1,IntKind.i64.wrap (v2 + 1)))))
else
(some (.inr v1)))
noncomputable def m_spec_SizeOf (a0 : Int) : Option Int :=
(iter (l_spec_SizeOf_0 a0) ((0 : Int),(0 : Int))).bind fun
| v4 => (
some v4)
theorem W8 (a0 r : Int) (h : m_spec_SizeOf a0 = some r) : AM.Spec Tryz.prog 179 [.i a0] [] (.i r) [] := by
 refine spec_of (E := E293) Tryz.func179 rfl rfl rfl rfl ?_
 refine Tri.f 3 [] [.keep [0,3,4] []] rfl trivial ?_
 obtain ⟨v4,hk4,h⟩ := bind_some h
 refine Tri.loop (K1 := [.code [(2,0),(1,0),(0,0)] 0]) (K2 := [.blk 0,.code [] 3]) (fun (v1,v2) => ⟨[(0,.i a0),(3,.i v1),(4,.i v2)],[]⟩) (fun x e σ' => match x with | v4 => e = .exit 0 ∧ σ' = ⟨[(3,.i v4)],[]⟩) hk4 rfl rfl ?_ ?_
 ·intro s x hs
  clear h
  have h := hs
  clear hs
  obtain ⟨v1,v2⟩ := s
  refine Tri.f 1 [] [.keep [0,3,4,6] []] rfl trivial ?_
  rcases bif_some h with ⟨hd1,h⟩ | ⟨hd1,h⟩
  ·obtain ⟨v3,hk2,h⟩ := bind_some h
   refine Tri.f 2 [.g true,.v (.bool v3)] [.keep [0,3,4,11] []] rfl ⟨fun _ => W7 a0 v2 v3 hk2,hd1,trivial⟩ ?_
   rcases bif_some h with ⟨hd3,h⟩ | ⟨hd3,h⟩
   ·refine Tri.f 3 [.g true] [.keep [0,3,4] []] rfl ⟨hd3,trivial⟩ ?_
    cases h
    exact Tri.nil ⟨rfl,rfl⟩
   ·refine Tri.f 2 [.g false] [.keep [0,3,4] []] rfl ⟨hd3,trivial⟩ ?_
    cases h
    exact Tri.nil ⟨rfl,rfl⟩
  ·refine Tri.f 1 [.g false] [.keep [3] []] rfl ⟨hd1,trivial⟩ ?_
   cases h
   exact Tri.out 0 rfl ⟨nofun,rfl,rfl⟩
 ·intro e σ' hne hq
  obtain ⟨rfl,rfl⟩ := hq
  refine TriX.exit (K' := [.code [] 3]) rfl ?_
  refine Tri.f 1 [] [.keep [2] []] rfl trivial ?_
  cases h
  exact Tri.ret rfl ⟨.inl rfl,rfl,rfl⟩
noncomputable def E294 : Env := ⟨Tryz.prog,tys,(Tryz.f76.body).getD .skip,12,tysOk,mixedOk⟩
abbrev K151 (u0 : Value) (a0 : List UInt8) (r : Int × Int × Int) (σ' : ASt) : Prop := isRes E294.T Tryz.f76 (.i r.1) [(2080,.box [.lst u0 (.bytes a0),.i r.2.1,.i r.2.2])] σ'
noncomputable def m_spec_l1PickInt_io1 (a0 : List UInt8) (a1 a2 : Int) (a3 : List Int) : Option (Int × Int × Int) :=
(m_spec_l1Below_io1 a0 a1 a2 (a3.length : Int)).bind fun (v1,v2,v3) =>
grd (0 ≤ v1 ∧ v1 < (a3.length : Int)) <|
some (a3.getD v1.toNat 0,v2,v3)
theorem W9 (u0 : Value) (a0 : List UInt8) (a1 a2 : Int) (a3 : List Int) (r : Int × Int × Int) (h : m_spec_l1PickInt_io1 a0 a1 a2 a3 = some r) : AM.Spec Tryz.prog 76 [.ptr 2080 0,.list (.ints a3)] [(2080,.box [.lst u0 (.bytes a0),.i a1,.i a2])] (.i r.1) [(2080,.box [.lst u0 (.bytes a0),.i r.2.1,.i r.2.2])] := by
 refine spec_of (E := E294) Tryz.func76 rfl rfl rfl rfl ?_
 refine Tri.f 1 [] [.keep [0,1] [2080]] rfl trivial ?_
 obtain ⟨⟨v1,v2,v3⟩,hk1,h⟩ := bind_some h
 obtain ⟨hg2,h⟩ := grd_some h
 refine Tri.f 1 [.r ⟨[2080],.i v1,[(2080,.box [.undf,.i v2,.i v3])]⟩] [.keep [4] [2080]] rfl ⟨hg2,(fun vf => ((W3 (vf 2080 0) a0 a1 a2 (a3.length : Int) (v1,v2,v3) hk1).swap 2040 2080)),trivial⟩ ?_
 cases h
 exact Tri.ret rfl ⟨.inl rfl,rfl,rfl⟩
noncomputable def E295 : Env := ⟨Tryz.prog,tys,(Tryz.f180.body).getD .skip,10,tysOk,mixedOk⟩
abbrev K152 (r : Int) (σ' : ASt) : Prop := isRes E295.T Tryz.f180 (.i r) [] σ'
noncomputable def m_spec_l1Max (a0 a1 : Int) : Option Int :=
bif decide (a0 > a1) then
(some a0)
else
(some a1)
theorem W10 (a0 a1 r : Int) (h : m_spec_l1Max a0 a1 = some r) : AM.Spec Tryz.prog 180 [.i a0,.i a1] [] (.i r) [] := by
 refine spec_of (E := E295) Tryz.func180 rfl rfl rfl rfl ?_
 refine Tri.f 2 [] [.keep [0,1,7] []] rfl trivial ?_
 rcases bif_some h with ⟨hd1,h⟩ | ⟨hd1,h⟩
 ·refine Tri.f 2 [.g true] [.keep [4] []] rfl ⟨hd1,trivial⟩ ?_
  cases h
  exact Tri.ret rfl ⟨.inl rfl,rfl,rfl⟩
 ·refine Tri.f 2 [.g false] [.keep [4] []] rfl ⟨hd1,trivial⟩ ?_
  cases h
  exact Tri.ret rfl ⟨.inl rfl,rfl,rfl⟩
noncomputable def E296 : Env := ⟨Tryz.prog,tys,(Tryz.f120.body).getD .skip,4,tysOk,mixedOk⟩
abbrev K153 (r : Int) (σ' : ASt) : Prop := isRes E296.T Tryz.f120 (.i r) [] σ'
noncomputable def m_spec_l1Bit (a0 : Bool) : Option Int :=
bif a0 then
(some (1 : Int))
else
(some (0 : Int))
theorem W11 (a0 : Bool) (r : Int) (h : m_spec_l1Bit a0 = some r) : AM.Spec Tryz.prog 120 [.bool a0] [] (.i r) [] := by
 refine spec_of (E := E296) Tryz.func120 rfl rfl rfl rfl ?_
 refine Tri.f 2 [] [.keep [3] []] rfl trivial ?_
 rcases bif_some h with ⟨hd1,h⟩ | ⟨hd1,h⟩
 ·refine Tri.f 2 [.g true] [.keep [2] []] rfl ⟨hd1,trivial⟩ ?_
  cases h
  exact Tri.ret rfl ⟨.inl rfl,rfl,rfl⟩
 ·refine Tri.f 2 [.g false] [.keep [2] []] rfl ⟨hd1,trivial⟩ ?_
  cases h
  exact Tri.ret rfl ⟨.inl rfl,rfl,rfl⟩
noncomputable def E297 : Env := ⟨Tryz.prog,tys,(Tryz.f125.body).getD .skip,81,tysOk,mixedOk⟩
abbrev K154 (u0 : Value) (a0 : List UInt8) (r : Int × (List Int) × Int × Int) (σ' : ASt) : Prop := isRes E297.T Tryz.f125 (.agg [.i r.1,.sl 1000 0]) [(1000,.arr 3 0 0 (.ints r.2.1)),(2020,.box [.lst u0 (.bytes a0),.i r.2.2.1,.i r.2.2.2])] σ'
noncomputable def l_spec_l8Draw_io1_0 (a0 : List UInt8) (v1 v5 : Int) : (Int × (List Int) × Int × Int) → Option ((Int × (List Int) × Int × Int) ⊕ (((List Int) × Int × Int)))
 | (v8,v9,v10,v11) => (
bif decide (v8 < (v9.length : Int)) then
(bif v5 == 0 then
((m_spec_SizeOf v8).bind fun v12 =>
(m_spec_SizeOf v8).bind fun v13 =>
(m_spec_l1Below_io1 a0 v10 v11 (2 : Int)).bind fun (v14,v15,v16) =>
grd (0 ≤ v8 ∧ v8 < (v9.length : Int)) <|
some (.inl (IntKind.i64.wrap (v8 + 1),v9.set v8.toNat (IntKind.i64.wrap ((IntKind.i64.wrap (v12 * v13)) + v14)),v15,v16)))
else
(bif v5 == 1 then
((m_spec_l1PickInt_io1 a0 v10 v11 [(0 : Int),(1 : Int),(2 : Int),(3 : Int),(5 : Int),(8 : Int),(-2 : Int),(4 : Int)]).bind fun (v17,v18,v19) =>
grd (0 ≤ v8 ∧ v8 < (v9.length : Int)) <|
some (.inl (IntKind.i64.wrap (v8 + 1),v9.set v8.toNat v17,v18,v19)))
else
(bif v5 == 2 then
((m_spec_SizeOf v8).bind fun v20 =>
(m_spec_l1Below_io1 a0 v10 v11 (2 : Int)).bind fun (v21,v22,v23) =>
(m_spec_l1Max (0 : Int) (IntKind.i64.wrap ((IntKind.i64.wrap ((IntKind.i64.wrap ((3 : Int) * v20)) - 2)) - v21))).bind fun v24 =>
grd (0 ≤ v8 ∧ v8 < (v9.length : Int)) <|
some (.inl (IntKind.i64.wrap (v8 + 1),v9.set v8.toNat v24,v22,v23)))
else
((m_spec_SizeOf v8).bind fun v25 =>
(m_spec_l1Bit (decide ((IntKind.i64.wrap (v25 * 2)) > (IntKind.i64.wrap ((1 : Int) + v1))))).bind fun v26 =>
(m_spec_l1Below_io1 a0 v10 v11 (2 : Int)).bind fun (v27,v28,v29) =>
grd (0 ≤ v8 ∧ v8 < (v9.length : Int)) <|
some (.inl (IntKind.i64.wrap (v8 + 1),v9.set v8.toNat (IntKind.i64.wrap (v26 * (IntKind.i64.wrap ((3 : Int) + (IntKind.i64.wrap (v27 * 3)))))),v28,v29))))))
else
(some (.inr (v9,v10,v11))))
noncomputable def m_spec_l8Draw_io1 (a0 : List UInt8) (a1 a2 a3 : Int) : Option (Int × (List Int) × Int × Int) :=
(m_spec_l1Below_io1 a0 a1 a2 a3).bind fun (v1,v2,v3) =>
(m_spec_CountCoalitions (IntKind.i64.wrap ((1 : Int) + v1))).bind fun v4 =>
grd (0 ≤ v4 ∧ v4 = v4 ∧ v4 ≤ (room : Int)) <|
(m_spec_l1Below_io1 a0 v2 v3 (4 : Int)).bind fun (v5,v6,v7) =>
(iter (l_spec_l8Draw_io1_0 a0 v1 v5) ((1 : Int),List.replicate v4.toNat (0 : Int),v6,v7)).bind fun
| (v30,v31,v32) => (
some (IntKind.i64.wrap ((1 : Int) + v1),v30,v31,v32))
theorem W12 (u0 : Value) (a0 : List UInt8) (a1 a2 a3 : Int) (r : Int × (List Int) × Int × Int) (h : m_spec_l8Draw_io1 a0 a1 a2 a3 = some r) : AM.Spec Tryz.prog 125 [.ptr 2020 0,.i a3] [(2020,.box [.lst u0 (.bytes a0),.i a1,.i a2])] (.agg [.i r.1,.sl 1000 0]) [(1000,.arr 3 0 0 (.ints r.2.1)),(2020,.box [.lst u0 (.bytes a0),.i r.2.2.1,.i r.2.2.2])] := by
 refine spec_of (E := E297) Tryz.func125 rfl rfl rfl rfl ?_
 refine Tri.f 1 [] [.keep [0,1,4] [4,2020],.ownc 4 1 1100 3,.keep [0,1,4] [4,1100,2020]] rfl trivial ?_
 obtain ⟨⟨v1,v2,v3⟩,hk1,h⟩ := bind_some h
 obtain ⟨v4,hk2,h⟩ := bind_some h
 obtain ⟨hg3,h⟩ := grd_some h
 refine Tri.f 2 [.r ⟨[2020],.i v1,[(2020,.box [.undf,.i v2,.i v3])]⟩,.v (.i v4)] [.keep [0,4,5,6] [4,6,16,1100,2020]] rfl ⟨hg3,fun _ => W5 (IntKind.i64.wrap ((1 : Int) + v1)) v4 hk2,(fun vf => ((W3 (vf 2020 0) a0 a1 a2 a3 (v1,v2,v3) hk1).swap 2040 2020)),trivial⟩ ?_
 obtain ⟨⟨v5,v6,v7⟩,hk4,h⟩ := bind_some h
 refine Tri.f 2 [.r ⟨[2020],.i v5,[(2020,.box [.undf,.i v6,.i v7])]⟩] [.keep [0,4,5,6,7,8] [4,6,16,1100,2020]] rfl ⟨(fun vf => ((W3 (vf 2020 0) a0 v2 v3 (4 : Int) (v5,v6,v7) hk4).swap 2040 2020)),trivial⟩ ?_
 obtain ⟨x1,hk23,h⟩ := bind_some h
 refine Tri.loop (K1 := [.code [(4,0),(1,0),(0,0)] 0]) (K2 := [.blk 0,.code [] 5]) (fun (v8,v9,v10,v11) => ⟨[(0,.ptr 2020 0),(4,.ptr 4 0),(5,.i (IntKind.i64.wrap ((1 : Int) + v1))),(6,.ptr 6 0),(7,.i v5),(8,.i v8)],[(4,.box [.i 0,.sl 1100 0]),(6,.box [.i (IntKind.i64.wrap ((1 : Int) + v1)),.sl 16 0]),(16,.arr 3 0 0 (.ints v9)),(1100,.arr 3 0 0 (.ints [])),(2020,.box [.lst u0 (.bytes a0),.i v10,.i v11])]⟩) (fun x e σ' => match x with | (v30,v31,v32) => e = .exit 0 ∧ σ' = ⟨[(4,.ptr 4 0),(6,.ptr 6 0)],[(4,.box [.i 0,.sl 1100 0]),(6,.box [.i (IntKind.i64.wrap ((1 : Int) + v1)),.sl 16 0]),(16,.arr 3 0 0 (.ints v30)),(1100,.arr 3 0 0 (.ints [])),(2020,.box [.lst u0 (.bytes a0),.i v31,.i v32])]⟩) hk23 rfl rfl ?_ ?_
 ·intro s x hs
  clear h
  have h := hs
  clear hs
  obtain ⟨v8,v9,v10,v11⟩ := s
  refine Tri.f 1 [] [.keep [0,4,5,6,7,8,24] [4,6,16,1100,2020]] rfl trivial ?_
  rcases bif_some h with ⟨hd5,h⟩ | ⟨hd5,h⟩
  ·refine Tri.f 3 [.g true] [.keep [0,4,5,6,7,8,27,43] [4,6,16,1100,2020]] rfl ⟨hd5,trivial⟩ ?_
   rcases bif_some h with ⟨hd6,h⟩ | ⟨hd6,h⟩
   ·obtain ⟨v12,hk7,h⟩ := bind_some h
    obtain ⟨v13,hk8,h⟩ := bind_some h
    obtain ⟨⟨v14,v15,v16⟩,hk9,h⟩ := bind_some h
    obtain ⟨hg10,h⟩ := grd_some h
    refine Tri.f 3 [.g true,.v (.i v12),.v (.i v13),.r ⟨[2020],.i v14,[(2020,.box [.undf,.i v15,.i v16])]⟩] [.keep [0,4,5,6,7,8] [4,6,16,1100,2020]] rfl ⟨hg10,(fun vf => ((W3 (vf 2020 0) a0 v10 v11 (2 : Int) (v14,v15,v16) hk9).swap 2040 2020)),fun _ => W8 v8 v13 hk8,fun _ => W8 v8 v12 hk7,hd6,trivial⟩ ?_
    cases h
    exact Tri.nil ⟨rfl,rfl⟩
   ·refine Tri.f 2 [.g false] [.keep [0,4,5,6,7,8,27,57] [4,6,16,1100,2020]] rfl ⟨hd6,trivial⟩ ?_
    rcases bif_some h with ⟨hd11,h⟩ | ⟨hd11,h⟩
    ·obtain ⟨⟨v17,v18,v19⟩,hk12,h⟩ := bind_some h
     obtain ⟨hg13,h⟩ := grd_some h
     refine Tri.f 3 [.g true,.r ⟨[2020],.i v17,[(2020,.box [.undf,.i v18,.i v19])]⟩] [.keep [0,4,5,6,7,8] [4,6,16,1100,2020]] rfl ⟨hg13,(fun vf => ((W9 (vf 2020 0) a0 v10 v11 [(0 : Int),(1 : Int),(2 : Int),(3 : Int),(5 : Int),(8 : Int),(-2 : Int),(4 : Int)] (v17,v18,v19) hk12).swap 2080 2020)),hd11,trivial⟩ ?_
     cases h
     exact Tri.nil ⟨rfl,rfl⟩
    ·refine Tri.f 2 [.g false] [.keep [0,4,5,6,7,8,66] [4,6,16,1100,2020]] rfl ⟨hd11,trivial⟩ ?_
     rcases bif_some h with ⟨hd14,h⟩ | ⟨hd14,h⟩
     ·obtain ⟨v20,hk15,h⟩ := bind_some h
      obtain ⟨⟨v21,v22,v23⟩,hk16,h⟩ := bind_some h
      obtain ⟨v24,hk17,h⟩ := bind_some h
      obtain ⟨hg18,h⟩ := grd_some h
      refine Tri.f 3 [.g true,.v (.i v20),.r ⟨[2020],.i v21,[(2020,.box [.undf,.i v22,.i v23])]⟩,.v (.i v24)] [.keep [0,4,5,6,7,8] [4,6,16,1100,2020]] rfl ⟨hg18,fun _ => W10 (0 : Int) (IntKind.i64.wrap ((IntKind.i64.wrap ((IntKind.i64.wrap ((3 : Int) * v20)) - 2)) - v21)) v24 hk17,(fun vf => ((W3 (vf 2020 0) a0 v10 v11 (2 : Int) (v21,v22,v23) hk16).swap 2040 2020)),fun _ => W8 v8 v20 hk15,hd14,trivial⟩ ?_
      cases h
      exact Tri.nil ⟨rfl,rfl⟩
     ·obtain ⟨v25,hk19,h⟩ := bind_some h
      obtain ⟨v26,hk20,h⟩ := bind_some h
      obtain ⟨⟨v27,v28,v29⟩,hk21,h⟩ := bind_some h
      obtain ⟨hg22,h⟩ := grd_some h
      refine Tri.f 3 [.g false,.v (.i v25),.v (.i v26),.r ⟨[2020],.i v27,[(2020,.box [.undf,.i v28,.i v29])]⟩] [.keep [0,4,5,6,7,8] [4,6,16,1100,2020]] rfl ⟨hg22,(fun vf => ((W3 (vf 2020 0) a0 v10 v11 (2 : Int) (v27,v28,v29) hk21).swap 2040 2020)),fun _ => W11 (decide ((IntKind.i64.wrap (v25 * 2)) > (IntKind.i64.wrap ((1 : Int) + v1)))) v26 hk20,fun _ => W8 v8 v25 hk19,hd14,trivial⟩ ?_
      cases h
      exact Tri.nil ⟨rfl,rfl⟩
  ·refine Tri.f 1 [.g false] [.keep [4,6] [4,6,16,1100,2020]] rfl ⟨hd5,trivial⟩ ?_
   cases h
   exact Tri.out 0 rfl ⟨nofun,rfl,rfl⟩
 ·intro e σ' hne hq
  obtain ⟨v30,v31,v32⟩ := x1
  obtain ⟨rfl,rfl⟩ := hq
  refine TriX.exit (K' := [.code [] 5]) rfl ?_
  refine Tri.f 1 [] [.swap 16 1000,.keep [4] [4,1000,2020]] rfl trivial ?_
  cases h
  exact Tri.ret rfl ⟨.inl rfl,rfl,rfl⟩
noncomputable def E298 : Env := ⟨Tryz.prog,tys,(Tryz.f126.body).getD .skip,9,tysOk,mixedOk⟩
abbrev K155 (u0 : Value) (a0 : List UInt8) (r : Bool × Int × Int) (σ' : ASt) : Prop := isRes E298.T Tryz.f126 (.bool r.1) [(2100,.box [.lst u0 (.bytes a0),.i r.2.1,.i r.2.2])] σ'
noncomputable def m_spec_l1Once_io1 (a0 : List UInt8) (a1 a2 a3 : Int) : Option (Bool × Int × Int) :=
(m_spec_l1Below_io1 a0 a1 a2 a3).bind fun (v1,v2,v3) =>
some (v1 == 0,v2,v3)
theorem W13 (u0 : Value) (a0 : List UInt8) (a1 a2 a3 : Int) (r : Bool × Int × Int) (h : m_spec_l1Once_io1 a0 a1 a2 a3 = some r) : AM.Spec Tryz.prog 126 [.ptr 2100 0,.i a3] [(2100,.box [.lst u0 (.bytes a0),.i a1,.i a2])] (.bool r.1) [(2100,.box [.lst u0 (.bytes a0),.i r.2.1,.i r.2.2])] := by
 refine spec_of (E := E298) Tryz.func126 rfl rfl rfl rfl ?_
 refine Tri.f 1 [] [.keep [0,1] [2100]] rfl trivial ?_
 obtain ⟨⟨v1,v2,v3⟩,hk1,h⟩ := bind_some h
 refine Tri.f 1 [.r ⟨[2100],.i v1,[(2100,.box [.undf,.i v2,.i v3])]⟩] [.keep [4] [2100]] rfl ⟨(fun vf => ((W3 (vf 2100 0) a0 a1 a2 a3 (v1,v2,v3) hk1).swap 2040 2100)),trivial⟩ ?_
 cases h
 exact Tri.ret rfl ⟨.inl rfl,rfl,rfl⟩
noncomputable def E299 : Env := ⟨Tryz.prog,tys,(Tryz.f102.body).getD .skip,39,tysOk,mixedOk⟩
abbrev K156 (u0 : Value) (a0 : List UInt8) (r : Int × (List Int) × Int × Int) (σ' : ASt) : Prop := isRes E299.T Tryz.f102 (.agg [.i r.1,.sl 1000 0]) [(1000,.arr 3 0 0 (.ints r.2.1)),(2120,.box [.lst u0 (.bytes a0),.i r.2.2.1,.i r.2.2.2])] σ'
noncomputable def m_spec_l8Bent_io1 (a0 : List UInt8) (a1 a2 : Int) : Option (Int × (List Int) × Int × Int) :=
(m_spec_l8Draw_io1 a0 a1 a2 (4 : Int)).bind fun (v1,v2,v3,v4) =>
(m_spec_l1Below_io1 a0 v3 v4 (12 : Int)).bind fun (v5,v6,v7) =>
bif v5 == 0 then
(grd ((0 : Int) ≤ (0 : Int) ∧ (0 : Int) < (v2.length : Int)) <|
some (v1,v2.set ((0 : Int).toNat) (1 : Int),v6,v7))
else
(bif v5 == 1 then
((m_spec_l1PickInt_io1 a0 v6 v7 [(0 : Int),(6 : Int),(2 : Int),(-1 : Int)]).bind fun (v8,v9,v10) =>
some (v8,v2,v9,v10))
else
(bif v5 == 2 then
(grd (v2.length + ([(1 : Int)] : List Int).length ≤ room) <|
some (v1,v2 ++ [(1 : Int)],v6,v7))
else
(bif v5 == 3 then
((m_spec_l1PickInt_io1 a0 v6 v7 [(500 : Int),(501 : Int),(-501 : Int)]).bind fun (v11,v12,v13) =>
grd (0 ≤ IntKind.i64.wrap ((v2.length : Int) - 1) ∧ IntKind.i64.wrap ((v2.length : Int) - 1) < (v2.length : Int)) <|
some (v1,v2.set ((IntKind.i64.wrap ((v2.length : Int) - 1)).toNat) v11,v12,v13))
else
(some (v1,v2,v6,v7)))))
theorem W14 (u0 : Value) (a0 : List UInt8) (a1 a2 : Int) (r : Int × (List Int) × Int × Int) (h : m_spec_l8Bent_io1 a0 a1 a2 = some r) : AM.Spec Tryz.prog 102 [.ptr 2120 0] [(2120,.box [.lst u0 (.bytes a0),.i a1,.i a2])] (.agg [.i r.1,.sl 1000 0]) [(1000,.arr 3 0 0 (.ints r.2.1)),(2120,.box [.lst u0 (.bytes a0),.i r.2.2.1,.i r.2.2.2])] := by
 refine spec_of (E := E299) Tryz.func102 rfl rfl rfl rfl ?_
 refine Tri.f 1 [] [.keep [0,2] [2,2120],.ownc 2 1 1100 3,.keep [0,2] [2,1100,2120]] rfl trivial ?_
 obtain ⟨⟨v1,v2,v3,v4⟩,hk1,h⟩ := bind_some h
 obtain ⟨⟨v5,v6,v7⟩,hk2,h⟩ := bind_some h
 refine Tri.f 3 [.r ⟨[2120],.agg [.i v1,.sl 1101 0],[(1101,.arr 3 0 0 (.ints v2)),(2120,.box [.undf,.i v3,.i v4])]⟩,.r ⟨[2120],.i v5,[(2120,.box [.undf,.i v6,.i v7])]⟩] [.keep [0,2,3,7,8] [2,3,1100,1101,2120]] rfl ⟨(fun vf => ((W3 (vf 2120 0) a0 v3 v4 (12 : Int) (v5,v6,v7) hk2).swap 2040 2120)),(fun vf => (((W12 (vf 2120 0) a0 a1 a2 (4 : Int) (v1,v2,v3,v4) hk1).swap 1000 1101).swap 2020 2120)),trivial⟩ ?_
 rcases bif_some h with ⟨hd3,h⟩ | ⟨hd3,h⟩
 ·obtain ⟨hg4,h⟩ := grd_some h
  refine Tri.f 3 [.g true] [.swap 1101 1000,.keep [2] [2,1000,2120]] rfl ⟨hg4,hd3,trivial⟩ ?_
  cases h
  exact Tri.ret rfl ⟨.inl rfl,rfl,rfl⟩
 ·refine Tri.f 2 [.g false] [.keep [0,2,3,7,13] [2,3,1100,1101,2120]] rfl ⟨hd3,trivial⟩ ?_
  rcases bif_some h with ⟨hd5,h⟩ | ⟨hd5,h⟩
  ·obtain ⟨⟨v8,v9,v10⟩,hk6,h⟩ := bind_some h
   refine Tri.f 3 [.g true,.r ⟨[2120],.i v8,[(2120,.box [.undf,.i v9,.i v10])]⟩] [.swap 1101 1000,.keep [2] [2,1000,2120]] rfl ⟨(fun vf => ((W9 (vf 2120 0) a0 v6 v7 [(0 : Int),(6 : Int),(2 : Int),(-1 : Int)] (v8,v9,v10) hk6).swap 2080 2120)),hd5,trivial⟩ ?_
   cases h
   exact Tri.ret rfl ⟨.inl rfl,rfl,rfl⟩
  ·refine Tri.f 2 [.g false] [.keep [0,2,3,7,19] [2,3,1100,1101,2120]] rfl ⟨hd5,trivial⟩ ?_
   rcases bif_some h with ⟨hd7,h⟩ | ⟨hd7,h⟩
   ·obtain ⟨hg8,h⟩ := grd_some h
    refine Tri.f 3 [.g true] [.rever 1101,.swap 1101 1000,.keep [2] [2,1000,2120]] rfl ⟨hg8,hd7,trivial⟩ ?_
    cases h
    exact Tri.ret rfl ⟨.inl rfl,rfl,rfl⟩
   ·refine Tri.f 2 [.g false] [.keep [0,2,3,26] [2,3,1100,1101,2120]] rfl ⟨hd7,trivial⟩ ?_
    rcases bif_some h with ⟨hd9,h⟩ | ⟨hd9,h⟩
    ·obtain ⟨⟨v11,v12,v13⟩,hk10,h⟩ := bind_some h
     obtain ⟨hg11,h⟩ := grd_some h
     refine Tri.f 3 [.g true,.r ⟨[2120],.i v11,[(2120,.box [.undf,.i v12,.i v13])]⟩] [.swap 1101 1000,.keep [2] [2,1000,2120]] rfl ⟨hg11,(fun vf => ((W9 (vf 2120 0) a0 v6 v7 [(500 : Int),(501 : Int),(-501 : Int)] (v11,v12,v13) hk10).swap 2080 2120)),hd9,trivial⟩ ?_
     cases h
     exact Tri.ret rfl ⟨.inl rfl,rfl,rfl⟩
    ·refine Tri.f 2 [.g false] [.swap 1101 1000,.keep [2] [2,1000,2120]] rfl ⟨hd9,trivial⟩ ?_
     cases h
     exact Tri.ret rfl ⟨.inl rfl,rfl,rfl⟩
noncomputable def E300 : Env := ⟨Tryz.prog,tys,(Tryz.f119.body).getD .skip,37,tysOk,mixedOk⟩
abbrev K157 (r : Bool) (σ' : ASt) : Prop := isRes E300.T Tryz.f119 (.bool r) [] σ'
noncomputable def l_spec_IsValidGame_0 (a1 : List Int) (v1 : Int) : Option (Int ⊕ (Unit ⊕ Bool)) :=
bif decide (v1 < (a1.length : Int)) then
(grd (0 ≤ v1 ∧ v1 < (a1.length : Int)) <|
(m_spec_l1In (a1.getD v1.toNat 0) (-500 : Int) (500 : Int)).bind fun v2 =>
bif !v2 then
(some (.inr (.inr false)))
else
(some (.inl (IntKind.i64.wrap (v1 + 1)))))
else
(some (.inr (.inl ())))
noncomputable def m_spec_IsValidGame (a0 : Int) (a1 : List Int) : Option Bool :=
(iter (l_spec_IsValidGame_0 a1) (0 : Int)).bind fun
| (.inl _) => (
(m_spec_l1In a0 (1 : Int) (5 : Int)).bind fun v3 =>
bif v3 then
((m_spec_CountCoalitions a0).bind fun v4 =>
bif (a1.length : Int) == v4 then
(grd ((0 : Int) ≤ (0 : Int) ∧ (0 : Int) < (a1.length : Int)) <|
some ((a1.getD ((0 : Int).toNat) 0) == 0))
else
(some false))
else
(some false))
| (.inr r) => some r
theorem W15 (a0 : Int) (a1 : List Int) (r : Bool) (h : m_spec_IsValidGame a0 a1 = some r) : AM.Spec Tryz.prog 119 [.agg [.i a0,.list (.ints a1)]] [] (.bool r) [] := by
 refine spec_of (E := E300) Tryz.func119 rfl rfl rfl rfl ?_
 refine Tri.f 2 [] [.keep [1,3] [1]] rfl trivial ?_
 obtain ⟨x1,hk5,h⟩ := bind_some h
 refine Tri.loop (K1 := [.code [(1,0),(1,0),(0,0)] 0]) (K2 := [.blk 0,.code [] 2]) (fun v1 => ⟨[(1,.ptr 1 0),(3,.i v1)],[(1,.box [.i a0,.list (.ints a1)])]⟩) (fun x e σ' => match x with | (.inl _) => e = .exit 0 ∧ σ' = ⟨[(1,.ptr 1 0)],[(1,.box [.i a0,.list (.ints a1)])]⟩ | (.inr r) => e = .ret ∧ K157 r σ') hk5 rfl rfl ?_ ?_
 ·intro v1 x hs
  clear h
  have h := hs
  clear hs
  refine Tri.f 1 [] [.keep [1,3,8] [1]] rfl trivial ?_
  rcases bif_some h with ⟨hd1,h⟩ | ⟨hd1,h⟩
  ·obtain ⟨hg2,h⟩ := grd_some h
   obtain ⟨v2,hk3,h⟩ := bind_some h
   refine Tri.f 2 [.g true,.v (.bool v2)] [.keep [1,3,17] [1]] rfl ⟨fun _ => W4 (a1.getD v1.toNat 0) (-500 : Int) (500 : Int) v2 hk3,hg2,hd1,trivial⟩ ?_
   rcases bif_some h with ⟨hd4,h⟩ | ⟨hd4,h⟩
   ·refine Tri.f 2 [.g true] [.keep [2] []] rfl ⟨hd4,trivial⟩ ?_
    cases h
    exact Tri.ret rfl ⟨nofun,rfl,rfl,rfl⟩
   ·refine Tri.f 2 [.g false] [.keep [1,3] [1]] rfl ⟨hd4,trivial⟩ ?_
    cases h
    exact Tri.nil ⟨rfl,rfl⟩
  ·refine Tri.f 1 [.g false] [.keep [1] [1]] rfl ⟨hd1,trivial⟩ ?_
   cases h
   exact Tri.out 0 rfl ⟨nofun,rfl,rfl⟩
 ·intro e σ' hne hq
  rcases x1 with _ | r
  ·obtain ⟨rfl,rfl⟩ := hq
   refine TriX.exit (K' := [.code [] 2]) rfl ?_
   obtain ⟨v3,hk6,h⟩ := bind_some h
   rcases bif_some h with ⟨hd7,h⟩ | ⟨hd7,h⟩
   ·obtain ⟨v4,hk8,h⟩ := bind_some h
    rcases bif_some h with ⟨hd9,h⟩ | ⟨hd9,h⟩
    ·obtain ⟨hg10,h⟩ := grd_some h
     refine Tri.f 1 [.v (.bool v3),.g true,.v (.i v4),.g true] [.keep [2] []] rfl ⟨hg10,hd9,fun _ => W5 a0 v4 hk8,hd7,fun _ => W4 a0 (1 : Int) (5 : Int) v3 hk6,trivial⟩ ?_
     cases h
     exact Tri.ret rfl ⟨.inl rfl,rfl,rfl⟩
    ·refine Tri.f 1 [.v (.bool v3),.g true,.v (.i v4),.g false] [.keep [2] []] rfl ⟨hd9,fun _ => W5 a0 v4 hk8,hd7,fun _ => W4 a0 (1 : Int) (5 : Int) v3 hk6,trivial⟩ ?_
     cases h
     exact Tri.ret rfl ⟨.inl rfl,rfl,rfl⟩
   ·refine Tri.f 1 [.v (.bool v3),.g false,.g false] [.keep [2] []] rfl ⟨rfl,hd7,fun _ => W4 a0 (1 : Int) (5 : Int) v3 hk6,trivial⟩ ?_
    cases h
    exact Tri.ret rfl ⟨.inl rfl,rfl,rfl⟩
  ·obtain ⟨rfl,hq⟩ := hq
   cases h
   exact TriX.ret ⟨.inl rfl,hq⟩
noncomputable def E301 : Env := ⟨Tryz.prog,tys,(Tryz.f110.body).getD .skip,14,tysOk,mixedOk⟩
abbrev K158 (r : Int) (σ' : ASt) : Prop := isRes E301.T Tryz.f110 (.i r) [] σ'
noncomputable def m_spec_GrandValue (a0 : Int) (a1 : List Int) : Option Int :=
(m_spec_IsValidGame a0 a1).bind fun v1 =>
bif !v1 then
(some (0 : Int))
else
(grd (0 ≤ IntKind.i64.wrap ((a1.length : Int) - 1) ∧ IntKind.i64.wrap ((a1.length : Int) - 1) < (a1.length : Int)) <|
some (a1.getD ((IntKind.i64.wrap ((a1.length : Int) - 1)).toNat) 0))
theorem W16 (a0 : Int) (a1 : List Int) (r : Int) (h : m_spec_GrandValue a0 a1 = some r) : AM.Spec Tryz.prog 110 [.agg [.i a0,.list (.ints a1)]] [] (.i r) [] := by
 refine spec_of (E := E301) Tryz.func110 rfl rfl rfl rfl ?_
 refine Tri.f 1 [] [.keep [1] [1]] rfl trivial ?_
 obtain ⟨v1,hk1,h⟩ := bind_some h
 refine Tri.f 1 [.v (.bool v1)] [.keep [1,5] [1]] rfl ⟨fun _ => W15 a0 a1 v1 hk1,trivial⟩ ?_
 rcases bif_some h with ⟨hd2,h⟩ | ⟨hd2,h⟩
 ·refine Tri.f 2 [.g true] [.keep [2] []] rfl ⟨hd2,trivial⟩ ?_
  cases h
  exact Tri.ret rfl ⟨.inl rfl,rfl,rfl⟩
 ·obtain ⟨hg3,h⟩ := grd_some h
  refine Tri.f 2 [.g false] [.keep [2] []] rfl ⟨hg3,hd2,trivial⟩ ?_
  cases h
  exact Tri.ret rfl ⟨.inl rfl,rfl,rfl⟩
noncomputable def E302 : Env := ⟨Tryz.prog,tys,(Tryz.f109.body).getD .skip,5,tysOk,mixedOk⟩
abbrev K159 (r : Int × Int) (σ' : ASt) : Prop := isRes E302.T Tryz.f109 (.agg [.i r.1,.i r.2]) [] σ'
noncomputable def m_spec_l3Int (a0 : Int) : Option (Int × Int) :=
some (a0,(1 : Int))
theorem W17 (a0 : Int) (r : Int × Int) (h : m_spec_l3Int a0 = some r) : AM.Spec Tryz.prog 109 [.i a0] [] (.agg [.i r.1,.i r.2]) [] := by
 refine spec_of (E := E302) Tryz.func109 rfl rfl rfl rfl ?_
 refine Tri.f 2 [] [.keep [2] [2]] rfl trivial ?_
 cases h
 exact Tri.ret rfl ⟨.inl rfl,rfl,rfl⟩
noncomputable def E303 : Env := ⟨Tryz.prog,tys,(Tryz.f182.body).getD .skip,40,tysOk,mixedOk⟩
abbrev K160 (u0 : Value) (a0 : List UInt8) (r : (List Q) × Int × Int) (σ' : ASt) : Prop := isRes E303.T Tryz.f182 (.sl 1000 0) [(1000,.arr 31 0 0 (.rats r.1)),(2140,.box [.lst u0 (.bytes a0),.i r.2.1,.i r.2.2])] σ'
noncomputable def l_spec_l11Payoff_io1_0 (a0 : List UInt8) (a3 : Int) : (Int × Int × (List Q) × Int × Int) → Option ((Int × Int × (List Q) × Int × Int) ⊕ (((List Q) × Int × Int)))
 | (v2,v3,v4,v5,v6) => (
bif decide (v3 < a3) then
(bif decide (v3 < 5) then
((m_spec_l1PickInt_io1 a0 v5 v6 [(0 : Int),(1 : Int),(2 : Int),(3 : Int),(-1 : Int),(5 : Int)]).bind fun (v7,v8,v9) =>
bif v3 == (IntKind.i64.wrap (a3 - 1)) then
((m_spec_l3Int v2).bind fun (v10,v11) =>
grd (v4.length + ([⟨v10,v11⟩] : List Q).length ≤ room) <|
some (.inl (IntKind.i64.wrap (v2 - v2),IntKind.i64.wrap (v3 + 1),v4 ++ [⟨v10,v11⟩],v8,v9)))
else
((m_spec_l3Int v7).bind fun (v12,v13) =>
grd (v4.length + ([⟨v12,v13⟩] : List Q).length ≤ room) <|
some (.inl (IntKind.i64.wrap (v2 - v7),IntKind.i64.wrap (v3 + 1),v4 ++ [⟨v12,v13⟩],v8,v9))))
else
(some (.inr (v4,v5,v6))))
else
(some (.inr (v4,v5,v6))))
noncomputable def m_spec_l11Payoff_io1 (a0 : List UInt8) (a1 a2 a3 : Int) (a4 : List Int) : Option ((List Q) × Int × Int) :=
(m_spec_GrandValue a3 a4).bind fun v1 =>
(iter (l_spec_l11Payoff_io1_0 a0 a3) (v1,(0 : Int),[],a1,a2)).bind fun
| (v14,v15,v16) => (
some (v14,v15,v16))
theorem W18 (u0 : Value) (a0 : List UInt8) (a1 a2 a3 : Int) (a4 : List Int) (r : (List Q) × Int × Int) (h : m_spec_l11Payoff_io1 a0 a1 a2 a3 a4 = some r) : AM.Spec Tryz.prog 182 [.ptr 2140 0,.agg [.i a3,.list (.ints a4)]] [(2140,.box [.lst u0 (.bytes a0),.i a1,.i a2])] (.sl 1000 0) [(1000,.arr 31 0 0 (.rats r.1)),(2140,.box [.lst u0 (.bytes a0),.i r.2.1,.i r.2.2])] := by
 refine spec_of (E := E303) Tryz.func182 rfl rfl rfl rfl ?_
 refine Tri.f 2 [] [.keep [0,3,5] [3,9,2140]] rfl trivial ?_
 obtain ⟨v1,hk1,h⟩ := bind_some h
 refine Tri.f 2 [.v (.i v1)] [.keep [0,3,5,6,7] [3,9,2140]] rfl ⟨fun _ => W16 a3 a4 v1 hk1,trivial⟩ ?_
 obtain ⟨x1,hk10,h⟩ := bind_some h
 refine Tri.loop (K1 := [.code [(3,0),(1,0),(0,0)] 0]) (K2 := [.blk 0,.code [] 4]) (fun (v2,v3,v4,v5,v6) => ⟨[(0,.ptr 2140 0),(3,.ptr 3 0),(5,.sl 9 0),(6,.i v2),(7,.i v3)],[(3,.box [.i a3,.list (.ints a4)]),(9,.arr 31 0 0 (.rats v4)),(2140,.box [.lst u0 (.bytes a0),.i v5,.i v6])]⟩) (fun x e σ' => match x with | (v14,v15,v16) => e = .exit 0 ∧ σ' = ⟨[(5,.sl 9 0)],[(9,.arr 31 0 0 (.rats v14)),(2140,.box [.lst u0 (.bytes a0),.i v15,.i v16])]⟩) hk10 rfl rfl ?_ ?_
 ·intro s x hs
  clear h
  have h := hs
  clear hs
  obtain ⟨v2,v3,v4,v5,v6⟩ := s
  rcases bif_some h with ⟨hd2,h⟩ | ⟨hd2,h⟩
  ·refine Tri.f 1 [.g true] [.keep [0,3,5,6,7,19] [3,9,2140]] rfl ⟨hd2,trivial⟩ ?_
   rcases bif_some h with ⟨hd3,h⟩ | ⟨hd3,h⟩
   ·obtain ⟨⟨v7,v8,v9⟩,hk4,h⟩ := bind_some h
    refine Tri.f 3 [.g true,.r ⟨[2140],.i v7,[(2140,.box [.undf,.i v8,.i v9])]⟩] [.keep [0,3,5,6,7,8,29] [3,9,2140]] rfl ⟨(fun vf => ((W9 (vf 2140 0) a0 v5 v6 [(0 : Int),(1 : Int),(2 : Int),(3 : Int),(-1 : Int),(5 : Int)] (v7,v8,v9) hk4).swap 2080 2140)),hd3,trivial⟩ ?_
    rcases bif_some h with ⟨hd5,h⟩ | ⟨hd5,h⟩
    ·refine Tri.f 3 [.g true] [.keep [0,3,5,6,7,8] [3,9,2140]] rfl ⟨hd5,trivial⟩ ?_
     obtain ⟨⟨v10,v11⟩,hk6,h⟩ := bind_some h
     obtain ⟨hg7,h⟩ := grd_some h
     refine Tri.f 2 [.v (.agg [.i v10,.i v11])] [.rever 9,.keep [0,3,5,6,7] [3,9,2140]] rfl ⟨hg7,fun _ => W17 v2 (v10,v11) hk6,trivial⟩ ?_
     cases h
     exact Tri.nil ⟨rfl,rfl⟩
    ·refine Tri.f 2 [.g false] [.keep [0,3,5,6,7,8] [3,9,2140]] rfl ⟨hd5,trivial⟩ ?_
     obtain ⟨⟨v12,v13⟩,hk8,h⟩ := bind_some h
     obtain ⟨hg9,h⟩ := grd_some h
     refine Tri.f 2 [.v (.agg [.i v12,.i v13])] [.rever 9,.keep [0,3,5,6,7] [3,9,2140]] rfl ⟨hg9,fun _ => W17 v7 (v12,v13) hk8,trivial⟩ ?_
     cases h
     exact Tri.nil ⟨rfl,rfl⟩
   ·refine Tri.f 1 [.g false] [.keep [5] [9,2140]] rfl ⟨hd3,trivial⟩ ?_
    cases h
    exact Tri.out 0 rfl ⟨nofun,rfl,rfl⟩
  ·refine Tri.f 1 [.g false] [.keep [0,3,5,6,7,19] [3,9,2140]] rfl ⟨hd2,trivial⟩ ?_
   refine Tri.f 1 [.g false] [.keep [5] [9,2140]] rfl ⟨rfl,trivial⟩ ?_
   cases h
   exact Tri.out 0 rfl ⟨nofun,rfl,rfl⟩
 ·intro e σ' hne hq
  obtain ⟨v14,v15,v16⟩ := x1
  obtain ⟨rfl,rfl⟩ := hq
  refine TriX.exit (K' := [.code [] 4]) rfl ?_
  refine Tri.f 1 [] [.swap 9 1000,.keep [4] [1000,2140]] rfl trivial ?_
  cases h
  exact Tri.ret rfl ⟨.inl rfl,rfl,rfl⟩
noncomputable def E304 : Env := ⟨Tryz.prog,tys,(Tryz.f195.body).getD .skip,22,tysOk,mixedOk⟩
abbrev K161 (r : Int) (σ' : ASt) : Prop := isRes E304.T Tryz.f195 (.i r) [] σ'
noncomputable def l_spec_l3Gcd_0 : (Int × Int) → Option ((Int × Int) ⊕ Int)
 | (v1,v2) => (
bif decide (v2 > 0) then
(grd (v2 ≠ 0) <|
some (.inl (v2,v1.tmod v2)))
else
(some (.inr v1)))
noncomputable def l_spec_l3Gcd_1 : (Int × Int) → Option ((Int × Int) ⊕ Int)
 | (v4,v5) => (
bif decide (v5 > 0) then
(grd (v5 ≠ 0) <|
some (.inl (v5,v4.tmod v5)))
else
(some (.inr v4)))
noncomputable def l_spec_l3Gcd_2 : (Int × Int) → Option ((Int × Int) ⊕ Int)
 | (v7,v8) => (
bif decide (v8 > 0) then
(grd (v8 ≠ 0) <|
some (.inl (v8,v7.tmod v8)))
else
(some (.inr v7)))
noncomputable def l_spec_l3Gcd_3 : (Int × Int) → Option ((Int × Int) ⊕ Int)
 | (v10,v11) => (
bif decide (v11 > 0) then
(grd (v11 ≠ 0) <|
some (.inl (v11,v10.tmod v11)))
else
(some (.inr v10)))
noncomputable def m_spec_l3Gcd (a0 a1 : Int) : Option Int :=
bif decide (a0 < 0) then
(bif decide (a1 < 0) then
((iter (l_spec_l3Gcd_0) (IntKind.i64.wrap (0 - a0),IntKind.i64.wrap (0 - a1))).bind fun
| v3 => (
some v3))
else
((iter (l_spec_l3Gcd_1) (IntKind.i64.wrap (0 - a0),a1)).bind fun
| v6 => (
some v6)))
else
(bif decide (a1 < 0) then
((iter (l_spec_l3Gcd_2) (a0,IntKind.i64.wrap (0 - a1))).bind fun
| v9 => (
some v9))
else
((iter (l_spec_l3Gcd_3) (a0,a1)).bind fun
| v12 => (
some v12)))
theorem W19 (a0 a1 r : Int) (h : m_spec_l3Gcd a0 a1 = some r) : AM.Spec Tryz.prog 195 [.i a0,.i a1] [] (.i r) [] := by
 refine spec_of (E := E304) Tryz.func195 rfl rfl rfl rfl ?_
 refine Tri.f 2 [] [.keep [0,1,7] []] rfl trivial ?_
 rcases bif_some h with ⟨hd1,h⟩ | ⟨hd1,h⟩
 ·refine Tri.f 3 [.g true] [.keep [0,1,11] []] rfl ⟨hd1,trivial⟩ ?_
  rcases bif_some h with ⟨hd2,h⟩ | ⟨hd2,h⟩
  ·refine Tri.f 2 [.g true] [.keep [0,1] []] rfl ⟨hd2,trivial⟩ ?_
   obtain ⟨v3,hk5,h⟩ := bind_some h
   refine Tri.loop (K1 := [.code [(3,0),(0,0),(0,0)] 0]) (K2 := [.blk 0,.code [] 4]) (fun (v1,v2) => ⟨[(0,.i v1),(1,.i v2)],[]⟩) (fun x e σ' => match x with | v3 => e = .exit 0 ∧ σ' = ⟨[(0,.i v3)],[]⟩) hk5 rfl rfl ?_ ?_
   ·intro s x hs
    clear h
    have h := hs
    clear hs
    obtain ⟨v1,v2⟩ := s
    refine Tri.f 1 [] [.keep [0,1,15] []] rfl trivial ?_
    rcases bif_some h with ⟨hd3,h⟩ | ⟨hd3,h⟩
    ·obtain ⟨hg4,h⟩ := grd_some h
     refine Tri.f 3 [.g true] [.keep [0,5] []] rfl ⟨hg4,hd3,trivial⟩ ?_
     refine Tri.f 1 [] [.keep [0,1] []] rfl trivial ?_
     cases h
     exact Tri.nil ⟨rfl,rfl⟩
    ·refine Tri.f 1 [.g false] [.keep [0] []] rfl ⟨hd3,trivial⟩ ?_
     cases h
     exact Tri.out 0 rfl ⟨nofun,rfl,rfl⟩
   ·intro e σ' hne hq
    obtain ⟨rfl,rfl⟩ := hq
    refine TriX.exit (K' := [.code [] 4]) rfl ?_
    refine Tri.f 1 [] [.keep [4] []] rfl trivial ?_
    cases h
    exact Tri.ret rfl ⟨.inl rfl,rfl,rfl⟩
  ·refine Tri.f 1 [.g false] [.keep [0,1] []] rfl ⟨hd2,trivial⟩ ?_
   obtain ⟨v6,hk8,h⟩ := bind_some h
   refine Tri.loop (K1 := [.code [(3,0),(0,0),(0,0)] 0]) (K2 := [.blk 0,.code [] 4]) (fun (v4,v5) => ⟨[(0,.i v4),(1,.i v5)],[]⟩) (fun x e σ' => match x with | v6 => e = .exit 0 ∧ σ' = ⟨[(0,.i v6)],[]⟩) hk8 rfl rfl ?_ ?_
   ·intro s x hs
    clear h
    have h := hs
    clear hs
    obtain ⟨v4,v5⟩ := s
    refine Tri.f 1 [] [.keep [0,1,15] []] rfl trivial ?_
    rcases bif_some h with ⟨hd6,h⟩ | ⟨hd6,h⟩
    ·obtain ⟨hg7,h⟩ := grd_some h
     refine Tri.f 3 [.g true] [.keep [0,5] []] rfl ⟨hg7,hd6,trivial⟩ ?_
     refine Tri.f 1 [] [.keep [0,1] []] rfl trivial ?_
     cases h
     exact Tri.nil ⟨rfl,rfl⟩
    ·refine Tri.f 1 [.g false] [.keep [0] []] rfl ⟨hd6,trivial⟩ ?_
     cases h
     exact Tri.out 0 rfl ⟨nofun,rfl,rfl⟩
   ·intro e σ' hne hq
    obtain ⟨rfl,rfl⟩ := hq
    refine TriX.exit (K' := [.code [] 4]) rfl ?_
    refine Tri.f 1 [] [.keep [4] []] rfl trivial ?_
    cases h
    exact Tri.ret rfl ⟨.inl rfl,rfl,rfl⟩
 ·refine Tri.f 2 [.g false] [.keep [0,1,11] []] rfl ⟨hd1,trivial⟩ ?_
  rcases bif_some h with ⟨hd9,h⟩ | ⟨hd9,h⟩
  ·refine Tri.f 2 [.g true] [.keep [0,1] []] rfl ⟨hd9,trivial⟩ ?_
   obtain ⟨v9,hk12,h⟩ := bind_some h
   refine Tri.loop (K1 := [.code [(3,0),(0,0),(0,0)] 0]) (K2 := [.blk 0,.code [] 4]) (fun (v7,v8) => ⟨[(0,.i v7),(1,.i v8)],[]⟩) (fun x e σ' => match x with | v9 => e = .exit 0 ∧ σ' = ⟨[(0,.i v9)],[]⟩) hk12 rfl rfl ?_ ?_
   ·intro s x hs
    clear h
    have h := hs
    clear hs
    obtain ⟨v7,v8⟩ := s
    refine Tri.f 1 [] [.keep [0,1,15] []] rfl trivial ?_
    rcases bif_some h with ⟨hd10,h⟩ | ⟨hd10,h⟩
    ·obtain ⟨hg11,h⟩ := grd_some h
     refine Tri.f 3 [.g true] [.keep [0,5] []] rfl ⟨hg11,hd10,trivial⟩ ?_
     refine Tri.f 1 [] [.keep [0,1] []] rfl trivial ?_
     cases h
     exact Tri.nil ⟨rfl,rfl⟩
    ·refine Tri.f 1 [.g false] [.keep [0] []] rfl ⟨hd10,trivial⟩ ?_
     cases h
     exact Tri.out 0 rfl ⟨nofun,rfl,rfl⟩
   ·intro e σ' hne hq
    obtain ⟨rfl,rfl⟩ := hq
    refine TriX.exit (K' := [.code [] 4]) rfl ?_
    refine Tri.f 1 [] [.keep [4] []] rfl trivial ?_
    cases h
    exact Tri.ret rfl ⟨.inl rfl,rfl,rfl⟩
  ·refine Tri.f 1 [.g false] [.keep [0,1] []] rfl ⟨hd9,trivial⟩ ?_
   obtain ⟨v12,hk15,h⟩ := bind_some h
   refine Tri.loop (K1 := [.code [(3,0),(0,0),(0,0)] 0]) (K2 := [.blk 0,.code [] 4]) (fun (v10,v11) => ⟨[(0,.i v10),(1,.i v11)],[]⟩) (fun x e σ' => match x with | v12 => e = .exit 0 ∧ σ' = ⟨[(0,.i v12)],[]⟩) hk15 rfl rfl ?_ ?_
   ·intro s x hs
    clear h
    have h := hs
    clear hs
    obtain ⟨v10,v11⟩ := s
    refine Tri.f 1 [] [.keep [0,1,15] []] rfl trivial ?_
    rcases bif_some h with ⟨hd13,h⟩ | ⟨hd13,h⟩
    ·obtain ⟨hg14,h⟩ := grd_some h
     refine Tri.f 3 [.g true] [.keep [0,5] []] rfl ⟨hg14,hd13,trivial⟩ ?_
     refine Tri.f 1 [] [.keep [0,1] []] rfl trivial ?_
     cases h
     exact Tri.nil ⟨rfl,rfl⟩
    ·refine Tri.f 1 [.g false] [.keep [0] []] rfl ⟨hd13,trivial⟩ ?_
     cases h
     exact Tri.out 0 rfl ⟨nofun,rfl,rfl⟩
   ·intro e σ' hne hq
    obtain ⟨rfl,rfl⟩ := hq
    refine TriX.exit (K' := [.code [] 4]) rfl ?_
    refine Tri.f 1 [] [.keep [4] []] rfl trivial ?_
    cases h
    exact Tri.ret rfl ⟨.inl rfl,rfl,rfl⟩
noncomputable def E305 : Env := ⟨Tryz.prog,tys,(Tryz.f166.body).getD .skip,19,tysOk,mixedOk⟩
abbrev K162 (r : Bool) (σ' : ASt) : Prop := isRes E305.T Tryz.f166 (.bool r) [] σ'
noncomputable def m_spec_IsValidRat (a0 a1 : Int) : Option Bool :=
(m_spec_l1In a1 (1 : Int) (1000000000 : Int)).bind fun v1 =>
bif v1 then
((m_spec_l1In a0 (-1000000000 : Int) (1000000000 : Int)).bind fun v2 =>
bif v2 then
((m_spec_l3Gcd a0 a1).bind fun v3 =>
some (v3 == 1))
else
(some false))
else
(some false)
theorem W20 (a0 a1 : Int) (r : Bool) (h : m_spec_IsValidRat a0 a1 = some r) : AM.Spec Tryz.prog 166 [.agg [.i a0,.i a1]] [] (.bool r) [] := by
 refine spec_of (E := E305) Tryz.func166 rfl rfl rfl rfl ?_
 refine Tri.f 1 [] [.keep [1] [1]] rfl trivial ?_
 obtain ⟨v1,hk1,h⟩ := bind_some h
 rcases bif_some h with ⟨hd2,h⟩ | ⟨hd2,h⟩
 ·obtain ⟨v2,hk3,h⟩ := bind_some h
  rcases bif_some h with ⟨hd4,h⟩ | ⟨hd4,h⟩
  ·obtain ⟨v3,hk5,h⟩ := bind_some h
   refine Tri.f 1 [.v (.bool v1),.g true,.v (.bool v2),.g true,.v (.i v3)] [.keep [2] []] rfl ⟨fun _ => W19 a0 a1 v3 hk5,hd4,fun _ => W4 a0 (-1000000000 : Int) (1000000000 : Int) v2 hk3,hd2,fun _ => W4 a1 (1 : Int) (1000000000 : Int) v1 hk1,trivial⟩ ?_
   cases h
   exact Tri.ret rfl ⟨.inl rfl,rfl,rfl⟩
  ·refine Tri.f 1 [.v (.bool v1),.g true,.v (.bool v2),.g false] [.keep [2] []] rfl ⟨hd4,fun _ => W4 a0 (-1000000000 : Int) (1000000000 : Int) v2 hk3,hd2,fun _ => W4 a1 (1 : Int) (1000000000 : Int) v1 hk1,trivial⟩ ?_
   cases h
   exact Tri.ret rfl ⟨.inl rfl,rfl,rfl⟩
 ·refine Tri.f 1 [.v (.bool v1),.g false,.g false] [.keep [2] []] rfl ⟨rfl,hd2,fun _ => W4 a1 (1 : Int) (1000000000 : Int) v1 hk1,trivial⟩ ?_
  cases h
  exact Tri.ret rfl ⟨.inl rfl,rfl,rfl⟩
noncomputable def E306 : Env := ⟨Tryz.prog,tys,(Tryz.f167.body).getD .skip,42,tysOk,mixedOk⟩
abbrev K163 (r : Int × Int × Bool) (σ' : ASt) : Prop := isRes E306.T Tryz.f167 (.tuple [.agg [.i r.1,.i r.2.1],.bool r.2.2]) [] σ'
noncomputable def m_spec_RatOf (a0 a1 : Int) : Option (Int × Int × Bool) :=
bif a1 == 0 then
(some (0,0,false))
else
((m_spec_l1In a0 (-1000000000000000000 : Int) (1000000000000000000 : Int)).bind fun v1 =>
bif !v1 then
(some (0,0,false))
else
((m_spec_l1In a1 (-1000000000000000000 : Int) (1000000000000000000 : Int)).bind fun v2 =>
bif !v2 then
(some (0,0,false))
else
(bif decide (a1 < 0) then
((m_spec_l3Gcd (IntKind.i64.wrap (0 - a0)) (IntKind.i64.wrap (0 - a1))).bind fun v3 =>
grd (v3 ≠ 0) <|
grd (v3 ≠ 0) <|
(m_spec_IsValidRat (IntKind.i64.wrap ((IntKind.i64.wrap (0 - a0)).tdiv v3)) (IntKind.i64.wrap ((IntKind.i64.wrap (0 - a1)).tdiv v3))).bind fun v4 =>
bif !v4 then
(some (0,0,false))
else
(some (IntKind.i64.wrap ((IntKind.i64.wrap (0 - a0)).tdiv v3),IntKind.i64.wrap ((IntKind.i64.wrap (0 - a1)).tdiv v3),true)))
else
((m_spec_l3Gcd a0 a1).bind fun v5 =>
grd (v5 ≠ 0) <|
grd (v5 ≠ 0) <|
(m_spec_IsValidRat (IntKind.i64.wrap (a0.tdiv v5)) (IntKind.i64.wrap (a1.tdiv v5))).bind fun v6 =>
bif !v6 then
(some (0,0,false))
else
(some (IntKind.i64.wrap (a0.tdiv v5),IntKind.i64.wrap (a1.tdiv v5),true))))))
theorem W21 (a0 a1 : Int) (r : Int × Int × Bool) (h : m_spec_RatOf a0 a1 = some r) : AM.Spec Tryz.prog 167 [.i a0,.i a1] [] (.tuple [.agg [.i r.1,.i r.2.1],.bool r.2.2]) [] := by
 refine spec_of (E := E306) Tryz.func167 rfl rfl rfl rfl ?_
 refine Tri.f 1 [] [.keep [0,1,4] [4]] rfl trivial ?_
 rcases bif_some h with ⟨hd1,h⟩ | ⟨hd1,h⟩
 ·refine Tri.f 1 [.g true,.g true] [.keep [0,1,4,19] [4]] rfl ⟨rfl,hd1,trivial⟩ ?_
  refine Tri.f 2 [.g true] [.keep [4,5] [4]] rfl ⟨rfl,trivial⟩ ?_
  cases h
  exact Tri.ret rfl ⟨.inl rfl,rfl,rfl⟩
 ·obtain ⟨v1,hk2,h⟩ := bind_some h
  rcases bif_some h with ⟨hd3,h⟩ | ⟨hd3,h⟩
  ·refine Tri.f 1 [.g false,.v (.bool v1),.g true] [.keep [0,1,4,19] [4]] rfl ⟨hd3,fun _ => W4 a0 (-1000000000000000000 : Int) (1000000000000000000 : Int) v1 hk2,hd1,trivial⟩ ?_
   refine Tri.f 2 [.g true] [.keep [4,5] [4]] rfl ⟨rfl,trivial⟩ ?_
   cases h
   exact Tri.ret rfl ⟨.inl rfl,rfl,rfl⟩
  ·obtain ⟨v2,hk4,h⟩ := bind_some h
   refine Tri.f 1 [.g false,.v (.bool v1),.g false,.v (.bool v2)] [.keep [0,1,4,19] [4]] rfl ⟨fun _ => W4 a1 (-1000000000000000000 : Int) (1000000000000000000 : Int) v2 hk4,hd3,fun _ => W4 a0 (-1000000000000000000 : Int) (1000000000000000000 : Int) v1 hk2,hd1,trivial⟩ ?_
   rcases bif_some h with ⟨hd5,h⟩ | ⟨hd5,h⟩
   ·refine Tri.f 2 [.g true] [.keep [4,5] [4]] rfl ⟨hd5,trivial⟩ ?_
    cases h
    exact Tri.ret rfl ⟨.inl rfl,rfl,rfl⟩
   ·refine Tri.f 2 [.g false] [.keep [0,1,4,22] [4]] rfl ⟨hd5,trivial⟩ ?_
    rcases bif_some h with ⟨hd6,h⟩ | ⟨hd6,h⟩
    ·refine Tri.f 3 [.g true] [.keep [0,1,4] [4]] rfl ⟨hd6,trivial⟩ ?_
     obtain ⟨v3,hk7,h⟩ := bind_some h
     obtain ⟨hg8,h⟩ := grd_some h
     obtain ⟨hg9,h⟩ := grd_some h
     refine Tri.f 2 [.v (.i v3)] [.keep [4,7] [4,7]] rfl ⟨hg9,hg8,fun _ => W19 (IntKind.i64.wrap (0 - a0)) (IntKind.i64.wrap (0 - a1)) v3 hk7,trivial⟩ ?_
     obtain ⟨v4,hk10,h⟩ := bind_some h
     refine Tri.f 1 [.v (.bool v4)] [.keep [4,7,39] [4,7]] rfl ⟨fun _ => W20 (IntKind.i64.wrap ((IntKind.i64.wrap (0 - a0)).tdiv v3)) (IntKind.i64.wrap ((IntKind.i64.wrap (0 - a1)).tdiv v3)) v4 hk10,trivial⟩ ?_
     rcases bif_some h with ⟨hd11,h⟩ | ⟨hd11,h⟩
     ·refine Tri.f 2 [.g true] [.keep [4,5] [4]] rfl ⟨hd11,trivial⟩ ?_
      cases h
      exact Tri.ret rfl ⟨.inl rfl,rfl,rfl⟩
     ·refine Tri.f 2 [.g false] [.keep [4,5] [4]] rfl ⟨hd11,trivial⟩ ?_
      cases h
      exact Tri.ret rfl ⟨.inl rfl,rfl,rfl⟩
    ·obtain ⟨v5,hk12,h⟩ := bind_some h
     obtain ⟨hg13,h⟩ := grd_some h
     obtain ⟨hg14,h⟩ := grd_some h
     refine Tri.f 3 [.g false,.v (.i v5)] [.keep [4,7] [4,7]] rfl ⟨hg14,hg13,fun _ => W19 a0 a1 v5 hk12,hd6,trivial⟩ ?_
     obtain ⟨v6,hk15,h⟩ := bind_some h
     refine Tri.f 1 [.v (.bool v6)] [.keep [4,7,39] [4,7]] rfl ⟨fun _ => W20 (IntKind.i64.wrap (a0.tdiv v5)) (IntKind.i64.wrap (a1.tdiv v5)) v6 hk15,trivial⟩ ?_
     rcases bif_some h with ⟨hd16,h⟩ | ⟨hd16,h⟩
     ·refine Tri.f 2 [.g true] [.keep [4,5] [4]] rfl ⟨hd16,trivial⟩ ?_
      cases h
      exact Tri.ret rfl ⟨.inl rfl,rfl,rfl⟩
     ·refine Tri.f 2 [.g false] [.keep [4,5] [4]] rfl ⟨hd16,trivial⟩ ?_
      cases h
      exact Tri.ret rfl ⟨.inl rfl,rfl,rfl⟩
noncomputable def E307 : Env := ⟨Tryz.prog,tys,(Tryz.f122.body).getD .skip,25,tysOk,mixedOk⟩
abbrev K164 (u0 : Value) (a0 : List UInt8) (r : Int × Int × Int × Int) (σ' : ASt) : Prop := isRes E307.T Tryz.f122 (.agg [.i r.1,.i r.2.1]) [(2160,.box [.lst u0 (.bytes a0),.i r.2.2.1,.i r.2.2.2])] σ'
noncomputable def m_spec_l3Draw_io1 (a0 : List UInt8) (a1 a2 : Int) : Option (Int × Int × Int × Int) :=
(m_spec_l1PickInt_io1 a0 a1 a2 [(0 : Int),(1 : Int),(2 : Int),(-1 : Int),(3 : Int),(-7 : Int),(12 : Int),(999999999 : Int),(-1000000000 : Int)]).bind fun (v1,v2,v3) =>
(m_spec_l1PickInt_io1 a0 v2 v3 [(1 : Int),(1 : Int),(2 : Int),(3 : Int),(7 : Int),(1000000000 : Int),(999999937 : Int)]).bind fun (v4,v5,v6) =>
(m_spec_RatOf v1 v4).bind fun (v7,v8,_) =>
(m_spec_l1Once_io1 a0 v5 v6 (12 : Int)).bind fun (v10,v11,v12) =>
bif v10 then
((m_spec_l1PickInt_io1 a0 v11 v12 [(0 : Int),(2 : Int),(1000000001 : Int)]).bind fun (v13,v14,v15) =>
(m_spec_l1PickInt_io1 a0 v14 v15 [(0 : Int),(2 : Int),(-1 : Int),(1 : Int)]).bind fun (v16,v17,v18) =>
some (v13,v16,v17,v18))
else
(some (v7,v8,v11,v12))
theorem W22 (u0 : Value) (a0 : List UInt8) (a1 a2 : Int) (r : Int × Int × Int × Int) (h : m_spec_l3Draw_io1 a0 a1 a2 = some r) : AM.Spec Tryz.prog 122 [.ptr 2160 0] [(2160,.box [.lst u0 (.bytes a0),.i a1,.i a2])] (.agg [.i r.1,.i r.2.1]) [(2160,.box [.lst u0 (.bytes a0),.i r.2.2.1,.i r.2.2.2])] := by
 refine spec_of (E := E307) Tryz.func122 rfl rfl rfl rfl ?_
 refine Tri.f 1 [] [.keep [0,2] [2,2160]] rfl trivial ?_
 obtain ⟨⟨v1,v2,v3⟩,hk1,h⟩ := bind_some h
 obtain ⟨⟨v4,v5,v6⟩,hk2,h⟩ := bind_some h
 obtain ⟨⟨v7,v8,v9⟩,hk3,h⟩ := bind_some h
 obtain ⟨⟨v10,v11,v12⟩,hk4,h⟩ := bind_some h
 refine Tri.f 2 [.r ⟨[2160],.i v1,[(2160,.box [.undf,.i v2,.i v3])]⟩,.r ⟨[2160],.i v4,[(2160,.box [.undf,.i v5,.i v6])]⟩,.v (.tuple [.agg [.i v7,.i v8],.bool v9]),.r ⟨[2160],.bool v10,[(2160,.box [.undf,.i v11,.i v12])]⟩] [.keep [0,2,3,16] [2,3,2160]] rfl ⟨(fun vf => ((W13 (vf 2160 0) a0 v5 v6 (12 : Int) (v10,v11,v12) hk4).swap 2100 2160)),fun _ => W21 v1 v4 (v7,v8,v9) hk3,(fun vf => ((W9 (vf 2160 0) a0 v2 v3 [(1 : Int),(1 : Int),(2 : Int),(3 : Int),(7 : Int),(1000000000 : Int),(999999937 : Int)] (v4,v5,v6) hk2).swap 2080 2160)),(fun vf => ((W9 (vf 2160 0) a0 a1 a2 [(0 : Int),(1 : Int),(2 : Int),(-1 : Int),(3 : Int),(-7 : Int),(12 : Int),(999999999 : Int),(-1000000000 : Int)] (v1,v2,v3) hk1).swap 2080 2160)),trivial⟩ ?_
 rcases bif_some h with ⟨hd5,h⟩ | ⟨hd5,h⟩
 ·obtain ⟨⟨v13,v14,v15⟩,hk6,h⟩ := bind_some h
  obtain ⟨⟨v16,v17,v18⟩,hk7,h⟩ := bind_some h
  refine Tri.f 2 [.g true,.r ⟨[2160],.i v13,[(2160,.box [.undf,.i v14,.i v15])]⟩,.r ⟨[2160],.i v16,[(2160,.box [.undf,.i v17,.i v18])]⟩] [.keep [2] [2,2160]] rfl ⟨(fun vf => ((W9 (vf 2160 0) a0 v14 v15 [(0 : Int),(2 : Int),(-1 : Int),(1 : Int)] (v16,v17,v18) hk7).swap 2080 2160)),(fun vf => ((W9 (vf 2160 0) a0 v11 v12 [(0 : Int),(2 : Int),(1000000001 : Int)] (v13,v14,v15) hk6).swap 2080 2160)),hd5,trivial⟩ ?_
  cases h
  exact Tri.ret rfl ⟨.inl rfl,rfl,rfl⟩
 ·refine Tri.f 2 [.g false] [.keep [2] [2,2160]] rfl ⟨hd5,trivial⟩ ?_
  cases h
  exact Tri.ret rfl ⟨.inl rfl,rfl,rfl⟩
noncomputable def E308 : Env := ⟨Tryz.prog,tys,(Tryz.f198.body).getD .skip,14,tysOk,mixedOk⟩
abbrev K165 (r : Int) (σ' : ASt) : Prop := isRes E308.T Tryz.f198 (.i r) [] σ'
noncomputable def l_spec_l14Factorial_0 (a0 : Int) : (Int × Int) → Option ((Int × Int) ⊕ Int)
 | (v1,v2) => (
bif decide (v2 ≤ a0) then
(some (.inl (IntKind.i64.wrap (v1 * v2),IntKind.i64.wrap (v2 + 1))))
else
(some (.inr v1)))
noncomputable def m_spec_l14Factorial (a0 : Int) : Option Int :=
(iter (l_spec_l14Factorial_0 a0) ((1 : Int),(2 : Int))).bind fun
| v3 => (
some v3)
theorem W23 (a0 r : Int) (h : m_spec_l14Factorial a0 = some r) : AM.Spec Tryz.prog 198 [.i a0] [] (.i r) [] := by
 refine spec_of (E := E308) Tryz.func198 rfl rfl rfl rfl ?_
 refine Tri.f 3 [] [.keep [0,3,4] []] rfl trivial ?_
 obtain ⟨v3,hk2,h⟩ := bind_some h
 refine Tri.loop (K1 := [.code [(2,0),(1,0),(0,0)] 0]) (K2 := [.blk 0,.code [] 3]) (fun (v1,v2) => ⟨[(0,.i a0),(3,.i v1),(4,.i v2)],[]⟩) (fun x e σ' => match x with | v3 => e = .exit 0 ∧ σ' = ⟨[(3,.i v3)],[]⟩) hk2 rfl rfl ?_ ?_
 ·intro s x hs
  clear h
  have h := hs
  clear hs
  obtain ⟨v1,v2⟩ := s
  refine Tri.f 1 [] [.keep [0,3,4,7] []] rfl trivial ?_
  rcases bif_some h with ⟨hd1,h⟩ | ⟨hd1,h⟩
  ·refine Tri.f 3 [.g true] [.keep [0,3,4] []] rfl ⟨hd1,trivial⟩ ?_
   cases h
   exact Tri.nil ⟨rfl,rfl⟩
  ·refine Tri.f 1 [.g false] [.keep [3] []] rfl ⟨hd1,trivial⟩ ?_
   cases h
   exact Tri.out 0 rfl ⟨nofun,rfl,rfl⟩
 ·intro e σ' hne hq
  obtain ⟨rfl,rfl⟩ := hq
  refine TriX.exit (K' := [.code [] 3]) rfl ?_
  refine Tri.f 1 [] [.keep [2] []] rfl trivial ?_
  cases h
  exact Tri.ret rfl ⟨.inl rfl,rfl,rfl⟩
noncomputable def E309 : Env := ⟨Tryz.prog,tys,(Tryz.f183.body).getD .skip,73,tysOk,mixedOk⟩
abbrev K166 (r : Bool × (List Q)) (σ' : ASt) : Prop := isRes E309.T Tryz.f183 (.tuple [.sl 1000 0,.bool r.1]) [(1000,.arr 31 0 0 (.rats r.2))] σ'
noncomputable def l_spec_ShapleyValue_1 (a0 : Int) (a1 : List Int) (v2 : Int) : (Int × Int) → Option ((Int × Int) ⊕ Int)
 | (v4,v5) => (
bif decide (v5 < (a1.length : Int)) then
((m_spec_HasPlayer v5 v2).bind fun v6 =>
bif v6 then
(some (.inl (v4,IntKind.i64.wrap (v5 + 1))))
else
((m_spec_SizeOf v5).bind fun v7 =>
(m_spec_l14Factorial v7).bind fun v8 =>
(m_spec_l14Factorial (IntKind.i64.wrap ((IntKind.i64.wrap (a0 - v7)) - 1))).bind fun v9 =>
(m_spec_l2Bit v2).bind fun v10 =>
grd (0 ≤ IntKind.i64.wrap (v5 + v10) ∧ IntKind.i64.wrap (v5 + v10) < (a1.length : Int)) <|
grd (0 ≤ v5 ∧ v5 < (a1.length : Int)) <|
some (.inl (IntKind.i64.wrap (v4 + (IntKind.i64.wrap ((IntKind.i64.wrap (v8 * v9)) * (IntKind.i64.wrap ((a1.getD ((IntKind.i64.wrap (v5 + v10)).toNat) 0) - (a1.getD v5.toNat 0)))))),IntKind.i64.wrap (v5 + 1)))))
else
(some (.inr v4)))
noncomputable def l_spec_ShapleyValue_0 (a0 : Int) (a1 : List Int) : (Int × (List Q)) → Option ((Int × (List Q)) ⊕ ((List Q)))
 | (v2,v3) => (
bif decide (v2 < a0) then
((iter (l_spec_ShapleyValue_1 a0 a1 v2) ((0 : Int),(0 : Int))).bind fun
| v11 => (
(m_spec_l14Factorial a0).bind fun v12 =>
(m_spec_RatOf v11 v12).bind fun (v13,v14,_) =>
grd (v3.length + ([⟨v13,v14⟩] : List Q).length ≤ room) <|
some (.inl (IntKind.i64.wrap (v2 + 1),v3 ++ [⟨v13,v14⟩]))))
else
(some (.inr v3)))
noncomputable def m_spec_ShapleyValue (a0 : Int) (a1 : List Int) : Option (Bool × (List Q)) :=
(m_spec_IsValidGame a0 a1).bind fun v1 =>
bif !v1 then
(some (false,[]))
else
((iter (l_spec_ShapleyValue_0 a0 a1) ((0 : Int),[])).bind fun
| v16 => (
some (true,v16)))
theorem W24 (a0 : Int) (a1 : List Int) (r : Bool × (List Q)) (h : m_spec_ShapleyValue a0 a1 = some r) : AM.Spec Tryz.prog 183 [.agg [.i a0,.list (.ints a1)]] [] (.tuple [.sl 1000 0,.bool r.1]) [(1000,.arr 31 0 0 (.rats r.2))] := by
 refine spec_of (E := E309) Tryz.func183 rfl rfl rfl rfl ?_
 refine Tri.f 2 [] [.keep [1,4] [1,12]] rfl trivial ?_
 obtain ⟨v1,hk1,h⟩ := bind_some h
 refine Tri.f 1 [.v (.bool v1)] [.keep [1,4,15] [1,12]] rfl ⟨fun _ => W15 a0 a1 v1 hk1,trivial⟩ ?_
 rcases bif_some h with ⟨hd2,h⟩ | ⟨hd2,h⟩
 ·refine Tri.f 2 [.g true] [.swap 12 1000,.keep [2,3] [1000]] rfl ⟨hd2,trivial⟩ ?_
  cases h
  exact Tri.ret rfl ⟨.inl rfl,rfl,rfl⟩
 ·refine Tri.f 3 [.g false] [.keep [1,4,5,6] [1,12]] rfl ⟨hd2,trivial⟩ ?_
  obtain ⟨v16,hk17,h⟩ := bind_some h
  refine Tri.loop (K1 := [.code [(4,0),(1,0),(0,0)] 0]) (K2 := [.blk 0,.code [] 5]) (fun (v2,v3) => ⟨[(1,.ptr 1 0),(4,.sl 12 0),(5,.i a0),(6,.i v2)],[(1,.box [.i a0,.list (.ints a1)]),(12,.arr 31 0 0 (.rats v3))]⟩) (fun x e σ' => match x with | v16 => e = .exit 0 ∧ σ' = ⟨[(4,.sl 12 0)],[(12,.arr 31 0 0 (.rats v16))]⟩) hk17 rfl rfl ?_ ?_
  ·intro s x hs
   clear h
   have h := hs
   clear hs
   obtain ⟨v2,v3⟩ := s
   refine Tri.f 1 [] [.keep [1,4,5,6,21] [1,12]] rfl trivial ?_
   rcases bif_some h with ⟨hd3,h⟩ | ⟨hd3,h⟩
   ·refine Tri.f 3 [.g true] [.keep [1,4,5,6,7,8] [1,12]] rfl ⟨hd3,trivial⟩ ?_
    obtain ⟨v11,hk13,h⟩ := bind_some h
    refine Tri.loop (K1 := [.code [(4,0),(1,0),(0,0),(1,0),(0,0),(1,0),(1,0),(0,0)] 0]) (K2 := [.blk 2,.code [(4,0),(1,0),(0,0),(1,0),(0,0)] 2,.blk 1,.code [(4,0),(1,0),(0,0)] 2]) (fun (v4,v5) => ⟨[(1,.ptr 1 0),(4,.sl 12 0),(5,.i a0),(6,.i v2),(7,.i v4),(8,.i v5)],[(1,.box [.i a0,.list (.ints a1)]),(12,.arr 31 0 0 (.rats v3))]⟩) (fun x e σ' => match x with | v11 => e = .exit 2 ∧ σ' = ⟨[(1,.ptr 1 0),(4,.sl 12 0),(5,.i a0),(6,.i v2),(7,.i v11)],[(1,.box [.i a0,.list (.ints a1)]),(12,.arr 31 0 0 (.rats v3))]⟩) hk13 rfl rfl ?_ ?_
    ·intro s x hs
     clear h
     have h := hs
     clear hs
     obtain ⟨v4,v5⟩ := s
     refine Tri.f 1 [] [.keep [1,4,5,6,7,8,28] [1,12]] rfl trivial ?_
     rcases bif_some h with ⟨hd4,h⟩ | ⟨hd4,h⟩
     ·obtain ⟨v6,hk5,h⟩ := bind_some h
      refine Tri.f 2 [.g true,.v (.bool v6)] [.keep [1,4,5,6,7,8,33] [1,12]] rfl ⟨fun _ => W7 v5 v2 v6 hk5,hd4,trivial⟩ ?_
      rcases bif_some h with ⟨hd6,h⟩ | ⟨hd6,h⟩
      ·refine Tri.f 2 [.g true] [.keep [1,4,5,6,7,8] [1,12]] rfl ⟨hd6,trivial⟩ ?_
       cases h
       exact Tri.nil ⟨rfl,rfl⟩
      ·obtain ⟨v7,hk7,h⟩ := bind_some h
       refine Tri.f 2 [.g false,.v (.i v7)] [.keep [1,4,5,6,7,8,9] [1,12]] rfl ⟨fun _ => W8 v5 v7 hk7,hd6,trivial⟩ ?_
       obtain ⟨v8,hk8,h⟩ := bind_some h
       obtain ⟨v9,hk9,h⟩ := bind_some h
       obtain ⟨v10,hk10,h⟩ := bind_some h
       obtain ⟨hg11,h⟩ := grd_some h
       obtain ⟨hg12,h⟩ := grd_some h
       refine Tri.f 2 [.v (.i v8),.v (.i v9),.v (.i v10)] [.keep [1,4,5,6,7,8] [1,12]] rfl ⟨hg12,hg11,fun _ => W6 v2 v10 hk10,fun _ => W23 (IntKind.i64.wrap ((IntKind.i64.wrap (a0 - v7)) - 1)) v9 hk9,fun _ => W23 v7 v8 hk8,trivial⟩ ?_
       cases h
       exact Tri.nil ⟨rfl,rfl⟩
     ·refine Tri.f 1 [.g false] [.keep [1,4,5,6,7] [1,12]] rfl ⟨hd4,trivial⟩ ?_
      cases h
      exact Tri.out 2 rfl ⟨nofun,rfl,rfl⟩
    ·intro e σ' hne hq
     obtain ⟨rfl,rfl⟩ := hq
     refine TriX.exit (K' := [.code [(4,0),(1,0),(0,0),(1,0),(0,0)] 2,.blk 1,.code [(4,0),(1,0),(0,0)] 2]) rfl ?_
     obtain ⟨v12,hk14,h⟩ := bind_some h
     obtain ⟨⟨v13,v14,v15⟩,hk15,h⟩ := bind_some h
     obtain ⟨hg16,h⟩ := grd_some h
     refine Tri.f 3 [.v (.i v12),.v (.tuple [.agg [.i v13,.i v14],.bool v15])] [.rever 12,.keep [1,4,5,6] [1,12]] rfl ⟨hg16,fun _ => W21 v11 v12 (v13,v14,v15) hk15,fun _ => W23 a0 v12 hk14,trivial⟩ ?_
     cases h
     exact Tri.nil ⟨rfl,rfl⟩
   ·refine Tri.f 1 [.g false] [.keep [4] [12]] rfl ⟨hd3,trivial⟩ ?_
    cases h
    exact Tri.out 0 rfl ⟨nofun,rfl,rfl⟩
  ·intro e σ' hne hq
   obtain ⟨rfl,rfl⟩ := hq
   refine TriX.exit (K' := [.code [] 5]) rfl ?_
   refine Tri.f 1 [] [.swap 12 1000,.keep [2,3] [1000]] rfl trivial ?_
   cases h
   exact Tri.ret rfl ⟨.inl rfl,rfl,rfl⟩
noncomputable def E310 : Env := ⟨Tryz.prog,tys,(Tryz.f130.body).getD .skip,38,tysOk,mixedOk⟩
abbrev K167 (r : Int × (List Int) × (List Q)) (σ' : ASt) : Prop := isRes E310.T Tryz.f130 (.tuple [.agg [.i r.1,.sl 1000 0],.sl 1001 0]) [(1000,.arr 3 0 0 (.ints r.2.1)),(1001,.arr 31 0 0 (.rats r.2.2))] σ'
noncomputable def m_spec_l11Args (a0 : List UInt8) : Option (Int × (List Int) × (List Q)) :=
(m_spec_l1New_io2 0 [] a0).bind fun (v1,v2,v3,_,_) =>
(m_spec_l8Draw_io1 v1 v2 v3 (4 : Int)).bind fun (v6,v7,v8,v9) =>
(m_spec_l1Once_io1 v1 v8 v9 (16 : Int)).bind fun (v10,v11,v12) =>
bif v10 then
((m_spec_l8Bent_io1 v1 v11 v12).bind fun (v13,v14,v15,v16) =>
(m_spec_l11Payoff_io1 v1 v15 v16 v13 v14).bind fun (v17,v18,v19) =>
bif decide ((v17.length : Int) > 0) then
((m_spec_l1Once_io1 v1 v18 v19 (10 : Int)).bind fun (v20,v21,v22) =>
bif v20 then
((m_spec_l3Draw_io1 v1 v21 v22).bind fun (v23,v24,v25,v26) =>
grd ((0 : Int) ≤ (0 : Int) ∧ (0 : Int) < (v17.length : Int)) <|
(m_spec_l1Once_io1 v1 v25 v26 (3 : Int)).bind fun (v27,_,_) =>
bif v27 then
((m_spec_ShapleyValue v13 v14).bind fun (_,v31) =>
some (v13,v14,v31))
else
(some (v13,v14,v17.set ((0 : Int).toNat) ⟨v23,v24⟩)))
else
((m_spec_l1Once_io1 v1 v21 v22 (3 : Int)).bind fun (v32,_,_) =>
bif v32 then
((m_spec_ShapleyValue v13 v14).bind fun (_,v36) =>
some (v13,v14,v36))
else
(some (v13,v14,v17))))
else
((m_spec_l1Once_io1 v1 v18 v19 (3 : Int)).bind fun (v37,_,_) =>
bif v37 then
((m_spec_ShapleyValue v13 v14).bind fun (_,v41) =>
some (v13,v14,v41))
else
(some (v13,v14,v17))))
else
((m_spec_l11Payoff_io1 v1 v11 v12 v6 v7).bind fun (v42,v43,v44) =>
bif decide ((v42.length : Int) > 0) then
((m_spec_l1Once_io1 v1 v43 v44 (10 : Int)).bind fun (v45,v46,v47) =>
bif v45 then
((m_spec_l3Draw_io1 v1 v46 v47).bind fun (v48,v49,v50,v51) =>
grd ((0 : Int) ≤ (0 : Int) ∧ (0 : Int) < (v42.length : Int)) <|
(m_spec_l1Once_io1 v1 v50 v51 (3 : Int)).bind fun (v52,_,_) =>
bif v52 then
((m_spec_ShapleyValue v6 v7).bind fun (_,v56) =>
some (v6,v7,v56))
else
(some (v6,v7,v42.set ((0 : Int).toNat) ⟨v48,v49⟩)))
else
((m_spec_l1Once_io1 v1 v46 v47 (3 : Int)).bind fun (v57,_,_) =>
bif v57 then
((m_spec_ShapleyValue v6 v7).bind fun (_,v61) =>
some (v6,v7,v61))
else
(some (v6,v7,v42))))
else
((m_spec_l1Once_io1 v1 v43 v44 (3 : Int)).bind fun (v62,_,_) =>
bif v62 then
((m_spec_ShapleyValue v6 v7).bind fun (_,v66) =>
some (v6,v7,v66))
else
(some (v6,v7,v42))))
theorem W25 (a0 : List UInt8) (r : Int × (List Int) × (List Q)) (h : m_spec_l11Args a0 = some r) : AM.Spec Tryz.prog 130 [.list (.bytes a0)] [] (.tuple [.agg [.i r.1,.sl 1000 0],.sl 1001 0]) [(1000,.arr 3 0 0 (.ints r.2.1)),(1001,.arr 31 0 0 (.rats r.2.2))] := by
 refine spec_of (E := E310) Tryz.func130 rfl rfl rfl rfl ?_
 refine Tri.f 1 [] [.keep [0,2] [2],.ownc 2 1 1100 3,.keep [0,2] [2,1100]] rfl trivial ?_
 obtain ⟨⟨v1,v2,v3,v4,v5⟩,hk1,h⟩ := bind_some h
 obtain ⟨⟨v6,v7,v8,v9⟩,hk2,h⟩ := bind_some h
 refine Tri.f 2 [.r ⟨[2,1100],.ptr 1101 0,[(1101,.box [.list (.bytes v1),.i v2,.i v3]),(1102,.arr 3 0 0 (.ints v4)),(2,.box [.i v5,.sl 1102 0])]⟩,.r ⟨[1101],.agg [.i v6,.sl 1103 0],[(1103,.arr 3 0 0 (.ints v7)),(1101,.box [.undf,.i v8,.i v9])]⟩] [.keep [2,4,5] [2,5,1101,1102,1103]] rfl ⟨(fun vf => (((W12 (vf 1101 0) v1 v2 v3 (4 : Int) (v6,v7,v8,v9) hk2).swap 1000 1103).swap 2020 1101)),fun _ => ((((W1 0 [] a0 (v1,v2,v3,v4,v5) hk1).swap 1000 1101).swap 1001 1102).swap 2000 2).swap 2001 1100,trivial⟩ ?_
 obtain ⟨⟨v10,v11,v12⟩,hk3,h⟩ := bind_some h
 refine Tri.f 1 [.r ⟨[1101],.bool v10,[(1101,.box [.undf,.i v11,.i v12])]⟩] [.keep [2,4,5,12] [2,5,1101,1102,1103]] rfl ⟨(fun vf => ((W13 (vf 1101 0) v1 v8 v9 (16 : Int) (v10,v11,v12) hk3).swap 2100 1101)),trivial⟩ ?_
 rcases bif_some h with ⟨hd4,h⟩ | ⟨hd4,h⟩
 ·obtain ⟨⟨v13,v14,v15,v16⟩,hk5,h⟩ := bind_some h
  refine Tri.f 2 [.g true,.r ⟨[1101],.agg [.i v13,.sl 1104 0],[(1104,.arr 3 0 0 (.ints v14)),(1101,.box [.undf,.i v15,.i v16])]⟩] [.keep [2,4,5] [2,5,1101,1102,1104]] rfl ⟨(fun vf => (((W14 (vf 1101 0) v1 v11 v12 (v13,v14,v15,v16) hk5).swap 1000 1104).swap 2120 1101)),hd4,trivial⟩ ?_
  obtain ⟨⟨v17,v18,v19⟩,hk6,h⟩ := bind_some h
  rcases bif_some h with ⟨hd7,h⟩ | ⟨hd7,h⟩
  ·obtain ⟨⟨v20,v21,v22⟩,hk8,h⟩ := bind_some h
   refine Tri.f 2 [.r ⟨[1101],.sl 1105 0,[(1105,.arr 31 0 0 (.rats v17)),(1101,.box [.undf,.i v18,.i v19])]⟩,.g true,.r ⟨[1101],.bool v20,[(1101,.box [.undf,.i v21,.i v22])]⟩] [.keep [2,4,5,6,24] [2,5,1101,1102,1104,1105]] rfl ⟨(fun vf => ((W13 (vf 1101 0) v1 v18 v19 (10 : Int) (v20,v21,v22) hk8).swap 2100 1101)),hd7,(fun vf => (((W18 (vf 1101 0) v1 v15 v16 v13 v14 (v17,v18,v19) hk6).swap 1000 1105).swap 2140 1101)),trivial⟩ ?_
   rcases bif_some h with ⟨hd9,h⟩ | ⟨hd9,h⟩
   ·obtain ⟨⟨v23,v24,v25,v26⟩,hk10,h⟩ := bind_some h
    obtain ⟨hg11,h⟩ := grd_some h
    refine Tri.f 2 [.g true,.r ⟨[1101],.agg [.i v23,.i v24],[(1101,.box [.undf,.i v25,.i v26])]⟩] [.keep [2,4,5,6] [2,5,1101,1102,1104,1105]] rfl ⟨hg11,(fun vf => ((W22 (vf 1101 0) v1 v21 v22 (v23,v24,v25,v26) hk10).swap 2160 1101)),hd9,trivial⟩ ?_
    obtain ⟨⟨v27,v28,v29⟩,hk12,h⟩ := bind_some h
    refine Tri.f 1 [.r ⟨[1101],.bool v27,[(1101,.box [.undf,.i v28,.i v29])]⟩] [.keep [2,5,6,30] [2,5,1102,1104,1105]] rfl ⟨(fun vf => ((W13 (vf 1101 0) v1 v25 v26 (3 : Int) (v27,v28,v29) hk12).swap 2100 1101)),trivial⟩ ?_
    rcases bif_some h with ⟨hd13,h⟩ | ⟨hd13,h⟩
    ·obtain ⟨⟨v30,v31⟩,hk14,h⟩ := bind_some h
     refine Tri.f 3 [.g true,.r ⟨[],.tuple [.sl 1106 0,.bool v30],[(1106,.arr 31 0 0 (.rats v31))]⟩] [.swap 1104 1000,.swap 1106 1001,.keep [2,3] [2,1000,1001]] rfl ⟨fun _ => (W24 v13 v14 (v30,v31) hk14).swap 1000 1106,hd13,trivial⟩ ?_
     cases h
     exact Tri.ret rfl ⟨.inl rfl,rfl,rfl⟩
    ·refine Tri.f 2 [.g false] [.swap 1104 1000,.swap 1105 1001,.keep [2,3] [2,1000,1001]] rfl ⟨hd13,trivial⟩ ?_
     cases h
     exact Tri.ret rfl ⟨.inl rfl,rfl,rfl⟩
   ·obtain ⟨⟨v32,v33,v34⟩,hk15,h⟩ := bind_some h
    refine Tri.f 2 [.g false,.r ⟨[1101],.bool v32,[(1101,.box [.undf,.i v33,.i v34])]⟩] [.keep [2,5,6,30] [2,5,1102,1104,1105]] rfl ⟨(fun vf => ((W13 (vf 1101 0) v1 v21 v22 (3 : Int) (v32,v33,v34) hk15).swap 2100 1101)),hd9,trivial⟩ ?_
    rcases bif_some h with ⟨hd16,h⟩ | ⟨hd16,h⟩
    ·obtain ⟨⟨v35,v36⟩,hk17,h⟩ := bind_some h
     refine Tri.f 3 [.g true,.r ⟨[],.tuple [.sl 1107 0,.bool v35],[(1107,.arr 31 0 0 (.rats v36))]⟩] [.swap 1104 1000,.swap 1107 1001,.keep [2,3] [2,1000,1001]] rfl ⟨fun _ => (W24 v13 v14 (v35,v36) hk17).swap 1000 1107,hd16,trivial⟩ ?_
     cases h
     exact Tri.ret rfl ⟨.inl rfl,rfl,rfl⟩
    ·refine Tri.f 2 [.g false] [.swap 1104 1000,.swap 1105 1001,.keep [2,3] [2,1000,1001]] rfl ⟨hd16,trivial⟩ ?_
     cases h
     exact Tri.ret rfl ⟨.inl rfl,rfl,rfl⟩
  ·refine Tri.f 2 [.r ⟨[1101],.sl 1105 0,[(1105,.arr 31 0 0 (.rats v17)),(1101,.box [.undf,.i v18,.i v19])]⟩,.g false] [.keep [2,4,5,6,24] [2,5,1101,1102,1104,1105]] rfl ⟨hd7,(fun vf => (((W18 (vf 1101 0) v1 v15 v16 v13 v14 (v17,v18,v19) hk6).swap 1000 1105).swap 2140 1101)),trivial⟩ ?_
   obtain ⟨⟨v37,v38,v39⟩,hk18,h⟩ := bind_some h
   refine Tri.f 2 [.g false,.r ⟨[1101],.bool v37,[(1101,.box [.undf,.i v38,.i v39])]⟩] [.keep [2,5,6,30] [2,5,1102,1104,1105]] rfl ⟨(fun vf => ((W13 (vf 1101 0) v1 v18 v19 (3 : Int) (v37,v38,v39) hk18).swap 2100 1101)),rfl,trivial⟩ ?_
   rcases bif_some h with ⟨hd19,h⟩ | ⟨hd19,h⟩
   ·obtain ⟨⟨v40,v41⟩,hk20,h⟩ := bind_some h
    refine Tri.f 3 [.g true,.r ⟨[],.tuple [.sl 1108 0,.bool v40],[(1108,.arr 31 0 0 (.rats v41))]⟩] [.swap 1104 1000,.swap 1108 1001,.keep [2,3] [2,1000,1001]] rfl ⟨fun _ => (W24 v13 v14 (v40,v41) hk20).swap 1000 1108,hd19,trivial⟩ ?_
    cases h
    exact Tri.ret rfl ⟨.inl rfl,rfl,rfl⟩
   ·refine Tri.f 2 [.g false] [.swap 1104 1000,.swap 1105 1001,.keep [2,3] [2,1000,1001]] rfl ⟨hd19,trivial⟩ ?_
    cases h
    exact Tri.ret rfl ⟨.inl rfl,rfl,rfl⟩
 ·obtain ⟨⟨v42,v43,v44⟩,hk21,h⟩ := bind_some h
  refine Tri.f 2 [.g false,.r ⟨[1101],.sl 1109 0,[(1109,.arr 31 0 0 (.rats v42)),(1101,.box [.undf,.i v43,.i v44])]⟩] [.keep [2,4,5,6] [2,5,1101,1102,1103,1109]] rfl ⟨(fun vf => (((W18 (vf 1101 0) v1 v11 v12 v6 v7 (v42,v43,v44) hk21).swap 1000 1109).swap 2140 1101)),hd4,trivial⟩ ?_
  rcases bif_some h with ⟨hd22,h⟩ | ⟨hd22,h⟩
  ·obtain ⟨⟨v45,v46,v47⟩,hk23,h⟩ := bind_some h
   refine Tri.f 1 [.g true,.r ⟨[1101],.bool v45,[(1101,.box [.undf,.i v46,.i v47])]⟩] [.keep [2,4,5,6,24] [2,5,1101,1102,1103,1109]] rfl ⟨(fun vf => ((W13 (vf 1101 0) v1 v43 v44 (10 : Int) (v45,v46,v47) hk23).swap 2100 1101)),hd22,trivial⟩ ?_
   rcases bif_some h with ⟨hd24,h⟩ | ⟨hd24,h⟩
   ·obtain ⟨⟨v48,v49,v50,v51⟩,hk25,h⟩ := bind_some h
    obtain ⟨hg26,h⟩ := grd_some h
    refine Tri.f 2 [.g true,.r ⟨[1101],.agg [.i v48,.i v49],[(1101,.box [.undf,.i v50,.i v51])]⟩] [.keep [2,4,5,6] [2,5,1101,1102,1103,1109]] rfl ⟨hg26,(fun vf => ((W22 (vf 1101 0) v1 v46 v47 (v48,v49,v50,v51) hk25).swap 2160 1101)),hd24,trivial⟩ ?_
    obtain ⟨⟨v52,v53,v54⟩,hk27,h⟩ := bind_some h
    refine Tri.f 1 [.r ⟨[1101],.bool v52,[(1101,.box [.undf,.i v53,.i v54])]⟩] [.keep [2,5,6,30] [2,5,1102,1103,1109]] rfl ⟨(fun vf => ((W13 (vf 1101 0) v1 v50 v51 (3 : Int) (v52,v53,v54) hk27).swap 2100 1101)),trivial⟩ ?_
    rcases bif_some h with ⟨hd28,h⟩ | ⟨hd28,h⟩
    ·obtain ⟨⟨v55,v56⟩,hk29,h⟩ := bind_some h
     refine Tri.f 3 [.g true,.r ⟨[],.tuple [.sl 1110 0,.bool v55],[(1110,.arr 31 0 0 (.rats v56))]⟩] [.swap 1103 1000,.swap 1110 1001,.keep [2,3] [2,1000,1001]] rfl ⟨fun _ => (W24 v6 v7 (v55,v56) hk29).swap 1000 1110,hd28,trivial⟩ ?_
     cases h
     exact Tri.ret rfl ⟨.inl rfl,rfl,rfl⟩
    ·refine Tri.f 2 [.g false] [.swap 1103 1000,.swap 1109 1001,.keep [2,3] [2,1000,1001]] rfl ⟨hd28,trivial⟩ ?_
     cases h
     exact Tri.ret rfl ⟨.inl rfl,rfl,rfl⟩
   ·obtain ⟨⟨v57,v58,v59⟩,hk30,h⟩ := bind_some h
    refine Tri.f 2 [.g false,.r ⟨[1101],.bool v57,[(1101,.box [.undf,.i v58,.i v59])]⟩] [.keep [2,5,6,30] [2,5,1102,1103,1109]] rfl ⟨(fun vf => ((W13 (vf 1101 0) v1 v46 v47 (3 : Int) (v57,v58,v59) hk30).swap 2100 1101)),hd24,trivial⟩ ?_
    rcases bif_some h with ⟨hd31,h⟩ | ⟨hd31,h⟩
    ·obtain ⟨⟨v60,v61⟩,hk32,h⟩ := bind_some h
     refine Tri.f 3 [.g true,.r ⟨[],.tuple [.sl 1111 0,.bool v60],[(1111,.arr 31 0 0 (.rats v61))]⟩] [.swap 1103 1000,.swap 1111 1001,.keep [2,3] [2,1000,1001]] rfl ⟨fun _ => (W24 v6 v7 (v60,v61) hk32).swap 1000 1111,hd31,trivial⟩ ?_
     cases h
     exact Tri.ret rfl ⟨.inl rfl,rfl,rfl⟩
    ·refine Tri.f 2 [.g false] [.swap 1103 1000,.swap 1109 1001,.keep [2,3] [2,1000,1001]] rfl ⟨hd31,trivial⟩ ?_
     cases h
     exact Tri.ret rfl ⟨.inl rfl,rfl,rfl⟩
  ·refine Tri.f 1 [.g false] [.keep [2,4,5,6,24] [2,5,1101,1102,1103,1109]] rfl ⟨hd22,trivial⟩ ?_
   obtain ⟨⟨v62,v63,v64⟩,hk33,h⟩ := bind_some h
   refine Tri.f 2 [.g false,.r ⟨[1101],.bool v62,[(1101,.box [.undf,.i v63,.i v64])]⟩] [.keep [2,5,6,30] [2,5,1102,1103,1109]] rfl ⟨(fun vf => ((W13 (vf 1101 0) v1 v43 v44 (3 : Int) (v62,v63,v64) hk33).swap 2100 1101)),rfl,trivial⟩ ?_
   rcases bif_some h with ⟨hd34,h⟩ | ⟨hd34,h⟩
   ·obtain ⟨⟨v65,v66⟩,hk35,h⟩ := bind_some h
    refine Tri.f 3 [.g true,.r ⟨[],.tuple [.sl 1112 0,.bool v65],[(1112,.arr 31 0 0 (.rats v66))]⟩] [.swap 1103 1000,.swap 1112 1001,.keep [2,3] [2,1000,1001]] rfl ⟨fun _ => (W24 v6 v7 (v65,v66) hk35).swap 1000 1112,hd34,trivial⟩ ?_
    cases h
    exact Tri.ret rfl ⟨.inl rfl,rfl,rfl⟩
   ·refine Tri.f 2 [.g false] [.swap 1103 1000,.swap 1109 1001,.keep [2,3] [2,1000,1001]] rfl ⟨hd34,trivial⟩ ?_
    cases h
    exact Tri.ret rfl ⟨.inl rfl,rfl,rfl⟩
noncomputable def E311 : Env := ⟨Tryz.prog,tys,(Tryz.f60.body).getD .skip,8,tysOk,mixedOk⟩
abbrev K168 (r : Int × (List Int) × (List Q)) (σ' : ASt) : Prop := isRes E311.T Tryz.f60 (.tuple [.agg [.i r.1,.sl 1000 0],.sl 1001 0]) [(1000,.arr 3 0 0 (.ints r.2.1)),(1001,.arr 31 0 0 (.rats r.2.2))] σ'
noncomputable def m_spec_DrawInCore (a0 : List UInt8) : Option (Int × (List Int) × (List Q)) :=
(m_spec_l11Args a0).bind fun (v1,v2,v3) =>
some (v1,v2,v3)
theorem W26 (a0 : List UInt8) (r : Int × (List Int) × (List Q)) (h : m_spec_DrawInCore a0 = some r) : AM.Spec Tryz.prog 60 [.list (.bytes a0)] [] (.tuple [.agg [.i r.1,.sl 1000 0],.sl 1001 0]) [(1000,.arr 3 0 0 (.ints r.2.1)),(1001,.arr 31 0 0 (.rats r.2.2))] := by
 refine spec_of (E := E311) Tryz.func60 rfl rfl rfl rfl ?_
 refine Tri.f 1 [] [.keep [0,2] [2],.ownc 2 1 1100 3,.keep [0,2] [2,1100]] rfl trivial ?_
 obtain ⟨⟨v1,v2,v3⟩,hk1,h⟩ := bind_some h
 refine Tri.f 1 [.r ⟨[],.tuple [.agg [.i v1,.sl 1101 0],.sl 1102 0],[(1101,.arr 3 0 0 (.ints v2)),(1102,.arr 31 0 0 (.rats v3))]⟩] [.swap 1101 1000,.swap 1102 1001,.keep [2,3] [2,1000,1001]] rfl ⟨fun _ => ((W25 a0 (v1,v2,v3) hk1).swap 1000 1101).swap 1001 1102,trivial⟩ ?_
 cases h
 exact Tri.ret rfl ⟨.inl rfl,rfl,rfl⟩
noncomputable def E312 : Env := ⟨Tryz.prog,tys,(Tryz.f72.body).getD .skip,15,tysOk,mixedOk⟩
abbrev K169 (r : Bool) (σ' : ASt) : Prop := isRes E312.T Tryz.f72 (.bool r) [] σ'
noncomputable def m_impl_within (a0 a1 a2 : Int) : Option Bool :=
bif decide (a0 ≥ a1) then
(some (decide (a0 ≤ a2)))
else
(some false)
theorem W27 (a0 a1 a2 : Int) (r : Bool) (h : m_impl_within a0 a1 a2 = some r) : AM.Spec Tryz.prog 72 [.i a0,.i a1,.i a2] [] (.bool r) [] := by
 refine spec_of (E := E312) Tryz.func72 rfl rfl rfl rfl ?_
 refine Tri.f 1 [] [.keep [0,1,2] []] rfl trivial ?_
 rcases bif_some h with ⟨hd1,h⟩ | ⟨hd1,h⟩
 ·refine Tri.f 1 [.g true] [.keep [6] []] rfl ⟨hd1,trivial⟩ ?_
  cases h
  exact Tri.ret rfl ⟨.inl rfl,rfl,rfl⟩
 ·refine Tri.f 1 [.g false] [.keep [6] []] rfl ⟨hd1,trivial⟩ ?_
  cases h
  exact Tri.ret rfl ⟨.inl rfl,rfl,rfl⟩
noncomputable def E313 : Env := ⟨Tryz.prog,tys,(Tryz.f174.body).getD .skip,6,tysOk,mixedOk⟩
abbrev K170 (r : Bool) (σ' : ASt) : Prop := isRes E313.T Tryz.f174 (.bool r) [] σ'
noncomputable def m_impl_IsValidGame_1 (a0 : Int) : Option Bool :=
(m_impl_within a0 (-500 : Int) (500 : Int)).bind fun v1 =>
some (!v1)
theorem W28 (a0 : Int) (r : Bool) (h : m_impl_IsValidGame_1 a0 = some r) : AM.Spec Tryz.prog 174 [.i a0] [] (.bool r) [] := by
 refine spec_of (E := E313) Tryz.func174 rfl rfl rfl rfl ?_
 refine Tri.f 1 [] [.keep [0] []] rfl trivial ?_
 obtain ⟨v1,hk1,h⟩ := bind_some h
 refine Tri.f 1 [.v (.bool v1)] [.keep [2] []] rfl ⟨fun _ => W27 a0 (-500 : Int) (500 : Int) v1 hk1,trivial⟩ ?_
 cases h
 exact Tri.ret rfl ⟨.inl rfl,rfl,rfl⟩
noncomputable def E314 : Env := ⟨Tryz.prog,tys,(Tryz.f157.body).getD .skip,19,tysOk,mixedOk⟩
abbrev K171 (r : Int) (σ' : ASt) : Prop := isRes E314.T Tryz.f157 (.i r) [] σ'
noncomputable def l_slices_IndexFunc_int_int_impl_IsValidGame_1_0 (a0 : List Int) (v1 : Int) : Option (Int ⊕ (Unit ⊕ Int)) :=
bif decide (v1 < (a0.length : Int)) then
(grd (0 ≤ v1 ∧ v1 < (a0.length : Int)) <|
(m_impl_IsValidGame_1 (a0.getD v1.toNat 0)).bind fun v2 =>
bif v2 then
(some (.inr (.inr v1)))
else
(some (.inl (IntKind.i64.wrap (v1 + 1)))))
else
(some (.inr (.inl ())))
noncomputable def m_slices_IndexFunc_int_int_impl_IsValidGame_1 (a0 : List Int) : Option Int :=
(iter (l_slices_IndexFunc_int_int_impl_IsValidGame_1_0 a0) (0 : Int)).bind fun
| (.inl _) => (
some (-1 : Int))
| (.inr r) => some r
theorem W29 (a0 : List Int) (r : Int) (h : m_slices_IndexFunc_int_int_impl_IsValidGame_1 a0 = some r) : AM.Spec Tryz.prog 157 [.list (.ints a0),.func 174 [] []] [] (.i r) [] := by
 refine spec_of (E := E314) Tryz.func157 rfl rfl rfl rfl ?_
 refine Tri.f 2 [] [.keep [0,1,7,8] []] rfl trivial ?_
 obtain ⟨x1,hk5,h⟩ := bind_some h
 refine Tri.loop (K1 := [.code [(1,0),(1,0),(0,0)] 0]) (K2 := [.blk 0,.code [] 2]) (fun v1 => ⟨[(0,.list (.ints a0)),(1,.func 174 [] []),(7,.i (a0.length : Int)),(8,.i v1)],[]⟩) (fun x e σ' => match x with | (.inl _) => e = .exit 0 ∧ σ' = ⟨[],[]⟩ | (.inr r) => e = .ret ∧ K171 r σ') hk5 rfl rfl ?_ ?_
 ·intro v1 x hs
  clear h
  have h := hs
  clear hs
  refine Tri.f 1 [] [.keep [0,1,7,8,9] []] rfl trivial ?_
  rcases bif_some h with ⟨hd1,h⟩ | ⟨hd1,h⟩
  ·refine Tri.f 2 [.g true] [.keep [0,1,5,7,8] []] rfl ⟨hd1,trivial⟩ ?_
   obtain ⟨hg2,h⟩ := grd_some h
   obtain ⟨v2,hk3,h⟩ := bind_some h
   refine Tri.f 1 [.v (.bool v2)] [.keep [0,1,5,7,8,16] []] rfl ⟨fun _ => W28 (a0.getD v1.toNat 0) v2 hk3,hg2,trivial⟩ ?_
   rcases bif_some h with ⟨hd4,h⟩ | ⟨hd4,h⟩
   ·refine Tri.f 2 [.g true] [.keep [4] []] rfl ⟨hd4,trivial⟩ ?_
    cases h
    exact Tri.ret rfl ⟨nofun,rfl,rfl,rfl⟩
   ·refine Tri.f 2 [.g false] [.keep [0,1,7,8] []] rfl ⟨hd4,trivial⟩ ?_
    cases h
    exact Tri.nil ⟨rfl,rfl⟩
  ·refine Tri.f 1 [.g false] [.keep [] []] rfl ⟨hd1,trivial⟩ ?_
   cases h
   exact Tri.out 0 rfl ⟨nofun,rfl,rfl⟩
 ·intro e σ' hne hq
  rcases x1 with _ | r
  ·obtain ⟨rfl,rfl⟩ := hq
   refine TriX.exit (K' := [.code [] 2]) rfl ?_
   refine Tri.f 1 [] [.keep [4] []] rfl trivial ?_
   cases h
   exact Tri.ret rfl ⟨.inl rfl,rfl,rfl⟩
  ·obtain ⟨rfl,hq⟩ := hq
   cases h
   exact TriX.ret ⟨.inl rfl,hq⟩
noncomputable def E315 : Env := ⟨Tryz.prog,tys,(Tryz.f73.body).getD .skip,9,tysOk,mixedOk⟩
abbrev K172 (r : Bool) (σ' : ASt) : Prop := isRes E315.T Tryz.f73 (.bool r) [] σ'
noncomputable def m_slices_ContainsFunc_int_int_impl_IsValidGame_1 (a0 : List Int) : Option Bool :=
(m_slices_IndexFunc_int_int_impl_IsValidGame_1 a0).bind fun v1 =>
some (decide (v1 ≥ 0))
theorem W30 (a0 : List Int) (r : Bool) (h : m_slices_ContainsFunc_int_int_impl_IsValidGame_1 a0 = some r) : AM.Spec Tryz.prog 73 [.list (.ints a0),.func 174 [] []] [] (.bool r) [] := by
 refine spec_of (E := E315) Tryz.func73 rfl rfl rfl rfl ?_
 refine Tri.f 1 [] [.keep [0,1] []] rfl trivial ?_
 obtain ⟨v1,hk1,h⟩ := bind_some h
 refine Tri.f 1 [.v (.i v1)] [.keep [4] []] rfl ⟨fun _ => W29 a0 v1 hk1,trivial⟩ ?_
 cases h
 exact Tri.ret rfl ⟨.inl rfl,rfl,rfl⟩
noncomputable def E316 : Env := ⟨Tryz.prog,tys,(Tryz.f113.body).getD .skip,27,tysOk,mixedOk⟩
abbrev K173 (r : Bool) (σ' : ASt) : Prop := isRes E316.T Tryz.f113 (.bool r) [] σ'
noncomputable def m_impl_IsValidGame (a0 : Int) (a1 : List Int) : Option Bool :=
(m_impl_within a0 (1 : Int) (5 : Int)).bind fun v1 =>
bif !v1 then
(some false)
else
(grd (0 ≤ a0) <|
bif (a1.length : Int) != (IntKind.i64.wrap ((1 : Int) * 2 ^ (min a0.toNat 64))) then
(some false)
else
(grd ((0 : Int) ≤ (0 : Int) ∧ (0 : Int) < (a1.length : Int)) <|
bif (a1.getD ((0 : Int).toNat) 0) != 0 then
(some false)
else
((m_slices_ContainsFunc_int_int_impl_IsValidGame_1 a1).bind fun v2 =>
some (!v2))))
theorem W31 (a0 : Int) (a1 : List Int) (r : Bool) (h : m_impl_IsValidGame a0 a1 = some r) : AM.Spec Tryz.prog 113 [.agg [.i a0,.list (.ints a1)]] [] (.bool r) [] := by
 refine spec_of (E := E316) Tryz.func113 rfl rfl rfl rfl ?_
 refine Tri.f 1 [] [.keep [1] [1]] rfl trivial ?_
 obtain ⟨v1,hk1,h⟩ := bind_some h
 rcases bif_some h with ⟨hd2,h⟩ | ⟨hd2,h⟩
 ·refine Tri.f 1 [.v (.bool v1),.g true,.g true] [.keep [1,22] [1]] rfl ⟨rfl,hd2,fun _ => W27 a0 (1 : Int) (5 : Int) v1 hk1,trivial⟩ ?_
  refine Tri.f 2 [.g true] [.keep [2] []] rfl ⟨rfl,trivial⟩ ?_
  cases h
  exact Tri.ret rfl ⟨.inl rfl,rfl,rfl⟩
 ·obtain ⟨hg3,h⟩ := grd_some h
  rcases bif_some h with ⟨hd4,h⟩ | ⟨hd4,h⟩
  ·refine Tri.f 1 [.v (.bool v1),.g false,.g true] [.keep [1,22] [1]] rfl ⟨hd4,hg3,hd2,fun _ => W27 a0 (1 : Int) (5 : Int) v1 hk1,trivial⟩ ?_
   refine Tri.f 2 [.g true] [.keep [2] []] rfl ⟨rfl,trivial⟩ ?_
   cases h
   exact Tri.ret rfl ⟨.inl rfl,rfl,rfl⟩
  ·obtain ⟨hg5,h⟩ := grd_some h
   refine Tri.f 1 [.v (.bool v1),.g false,.g false] [.keep [1,22] [1]] rfl ⟨hg5,hd4,hg3,hd2,fun _ => W27 a0 (1 : Int) (5 : Int) v1 hk1,trivial⟩ ?_
   rcases bif_some h with ⟨hd6,h⟩ | ⟨hd6,h⟩
   ·refine Tri.f 2 [.g true] [.keep [2] []] rfl ⟨hd6,trivial⟩ ?_
    cases h
    exact Tri.ret rfl ⟨.inl rfl,rfl,rfl⟩
   ·obtain ⟨v2,hk7,h⟩ := bind_some h
    refine Tri.f 2 [.g false,.v (.bool v2)] [.keep [2] []] rfl ⟨fun _ => W30 a1 v2 hk7,hd6,trivial⟩ ?_
    cases h
    exact Tri.ret rfl ⟨.inl rfl,rfl,rfl⟩
noncomputable def E317 : Env := ⟨Tryz.prog,tys,(Tryz.f116.body).getD .skip,19,tysOk,mixedOk⟩
abbrev K174 (r : List Int) (σ' : ASt) : Prop := isRes E317.T Tryz.f116 (.sl 1000 0) [(1000,.arr 3 0 0 (.ints r))] σ'
noncomputable def l_impl_coalitions_0 (a1 : Int) : (Int × (List Int)) → Option ((Int × (List Int)) ⊕ ((List Int)))
 | (v1,v2) => (
bif decide (v1 ≤ a1) then
(grd (v2.length + ([v1] : List Int).length ≤ room) <|
some (.inl (IntKind.i64.wrap (v1 + 1),v2 ++ [v1])))
else
(some (.inr v2)))
noncomputable def m_impl_coalitions (a0 a1 : Int) : Option (List Int) :=
(iter (l_impl_coalitions_0 a1) (a0,[])).bind fun
| v3 => (
some v3)
theorem W32 (a0 a1 : Int) (r : List Int) (h : m_impl_coalitions a0 a1 = some r) : AM.Spec Tryz.prog 116 [.i a0,.i a1] [] (.sl 1000 0) [(1000,.arr 3 0 0 (.ints r))] := by
 refine spec_of (E := E317) Tryz.func116 rfl rfl rfl rfl ?_
 refine Tri.f 3 [] [.keep [1,5,6] [7]] rfl trivial ?_
 obtain ⟨v3,hk3,h⟩ := bind_some h
 refine Tri.loop (K1 := [.code [(2,0),(1,0),(0,0)] 0]) (K2 := [.blk 0,.code [] 3]) (fun (v1,v2) => ⟨[(1,.i a1),(5,.sl 7 0),(6,.i v1)],[(7,.arr 3 0 0 (.ints v2))]⟩) (fun x e σ' => match x with | v3 => e = .exit 0 ∧ σ' = ⟨[(5,.sl 7 0)],[(7,.arr 3 0 0 (.ints v3))]⟩) hk3 rfl rfl ?_ ?_
 ·intro s x hs
  clear h
  have h := hs
  clear hs
  obtain ⟨v1,v2⟩ := s
  refine Tri.f 1 [] [.keep [1,5,6,11] [7]] rfl trivial ?_
  rcases bif_some h with ⟨hd1,h⟩ | ⟨hd1,h⟩
  ·obtain ⟨hg2,h⟩ := grd_some h
   refine Tri.f 3 [.g true] [.rever 7,.keep [1,5,6] [7]] rfl ⟨hg2,hd1,trivial⟩ ?_
   cases h
   exact Tri.nil ⟨rfl,rfl⟩
  ·refine Tri.f 1 [.g false] [.keep [5] [7]] rfl ⟨hd1,trivial⟩ ?_
   cases h
   exact Tri.out 0 rfl ⟨nofun,rfl,rfl⟩
 ·intro e σ' hne hq
  obtain ⟨rfl,rfl⟩ := hq
  refine TriX.exit (K' := [.code [] 3]) rfl ?_
  refine Tri.f 1 [] [.swap 7 1000,.keep [4] [1000]] rfl trivial ?_
  cases h
  exact Tri.ret rfl ⟨.inl rfl,rfl,rfl⟩
noncomputable def E318 : Env := ⟨Tryz.prog,tys,(Tryz.f177.body).getD .skip,18,tysOk,mixedOk⟩
abbrev K175 (r : Bool) (σ' : ASt) : Prop := isRes E318.T Tryz.f177 (.bool r) [] σ'
noncomputable def m_impl_HasPlayer (a0 a1 : Int) : Option Bool :=
bif decide (a0 ≥ 0) then
((m_impl_within a1 (0 : Int) (4 : Int)).bind fun v1 =>
bif v1 then
(grd (0 ≤ a1) <|
some ((bitsOf .and .i64 (a0.fdiv (2 ^ (min a1.toNat 64))) (1 : Int)) == 1))
else
(some false))
else
(some false)
theorem W33 (a0 a1 : Int) (r : Bool) (h : m_impl_HasPlayer a0 a1 = some r) : AM.Spec Tryz.prog 177 [.i a0,.i a1] [] (.bool r) [] := by
 refine spec_of (E := E318) Tryz.func177 rfl rfl rfl rfl ?_
 refine Tri.f 1 [] [.keep [0,1] []] rfl trivial ?_
 rcases bif_some h with ⟨hd1,h⟩ | ⟨hd1,h⟩
 ·obtain ⟨v1,hk2,h⟩ := bind_some h
  rcases bif_some h with ⟨hd3,h⟩ | ⟨hd3,h⟩
  ·obtain ⟨hg4,h⟩ := grd_some h
   refine Tri.f 1 [.g true,.v (.bool v1),.g true] [.keep [4] []] rfl ⟨hg4,hd3,fun _ => W27 a1 (0 : Int) (4 : Int) v1 hk2,hd1,trivial⟩ ?_
   cases h
   exact Tri.ret rfl ⟨.inl rfl,rfl,rfl⟩
  ·refine Tri.f 1 [.g true,.v (.bool v1),.g false] [.keep [4] []] rfl ⟨hd3,fun _ => W27 a1 (0 : Int) (4 : Int) v1 hk2,hd1,trivial⟩ ?_
   cases h
   exact Tri.ret rfl ⟨.inl rfl,rfl,rfl⟩
 ·refine Tri.f 1 [.g false,.g false] [.keep [4] []] rfl ⟨rfl,hd1,trivial⟩ ?_
  cases h
  exact Tri.ret rfl ⟨.inl rfl,rfl,rfl⟩
noncomputable def E319 : Env := ⟨Tryz.prog,tys,(Tryz.f115.body).getD .skip,37,tysOk,mixedOk⟩
abbrev K176 (r : List (List Int)) (σ' : ASt) : Prop := isRes E319.T Tryz.f115 (.sl 1000 0) [(1000,.arr 25 0 0 (.intss r))] σ'
noncomputable def l_impl_members_1 (a1 : List Int) (v1 : Int) : (Int × (List Int)) → Option ((Int × (List Int)) ⊕ ((List Int)))
 | (v3,v4) => (
bif decide (v3 < (a1.length : Int)) then
(grd (0 ≤ v3 ∧ v3 < (a1.length : Int)) <|
(m_impl_HasPlayer (a1.getD v3.toNat 0) v1).bind fun v5 =>
bif v5 then
(grd (v4.length + ([(1 : Int)] : List Int).length ≤ room) <|
some (.inl (IntKind.i64.wrap (v3 + 1),v4 ++ [(1 : Int)])))
else
(grd (v4.length + ([(0 : Int)] : List Int).length ≤ room) <|
some (.inl (IntKind.i64.wrap (v3 + 1),v4 ++ [(0 : Int)]))))
else
(some (.inr v4)))
noncomputable def l_impl_members_0 (a0 : Int) (a1 : List Int) : (Int × (List (List Int))) → Option ((Int × (List (List Int))) ⊕ ((List (List Int))))
 | (v1,v2) => (
bif decide (v1 < a0) then
((iter (l_impl_members_1 a1 v1) ((0 : Int),[])).bind fun
| v6 => (
grd (v2.length + ([v6] : List (List Int)).length ≤ room) <|
some (.inl (IntKind.i64.wrap (v1 + 1),v2 ++ [v6]))))
else
(some (.inr v2)))
noncomputable def m_impl_members (a0 : Int) (a1 : List Int) : Option (List (List Int)) :=
(iter (l_impl_members_0 a0 a1) ((0 : Int),[])).bind fun
| v7 => (
some v7)
theorem W34 (a0 : Int) (a1 : List Int) (r : List (List Int)) (h : m_impl_members a0 a1 = some r) : AM.Spec Tryz.prog 115 [.i a0,.list (.ints a1)] [] (.sl 1000 0) [(1000,.arr 25 0 0 (.intss r))] := by
 refine spec_of (E := E319) Tryz.func115 rfl rfl rfl rfl ?_
 refine Tri.f 3 [] [.keep [1,5,12,13] [11]] rfl trivial ?_
 obtain ⟨v7,hk10,h⟩ := bind_some h
 refine Tri.loop (K1 := [.code [(2,0),(1,0),(0,0)] 0]) (K2 := [.blk 0,.code [] 3]) (fun (v1,v2) => ⟨[(1,.list (.ints a1)),(5,.sl 11 0),(12,.i a0),(13,.i v1)],[(11,.arr 25 0 0 (.intss v2))]⟩) (fun x e σ' => match x with | v7 => e = .exit 0 ∧ σ' = ⟨[(5,.sl 11 0)],[(11,.arr 25 0 0 (.intss v7))]⟩) hk10 rfl rfl ?_ ?_
 ·intro s x hs
  clear h
  have h := hs
  clear hs
  obtain ⟨v1,v2⟩ := s
  refine Tri.f 1 [] [.keep [1,5,12,13,14] [11]] rfl trivial ?_
  rcases bif_some h with ⟨hd1,h⟩ | ⟨hd1,h⟩
  ·refine Tri.f 3 [.g true] [.keep [1,5,6,7,12,13] [11,16]] rfl ⟨hd1,trivial⟩ ?_
   refine Tri.f 1 [] [.keep [1,5,6,7,12,13,17,18,19] [11,16]] rfl trivial ?_
   obtain ⟨v6,hk8,h⟩ := bind_some h
   refine Tri.loop (K1 := [.code [(2,0),(1,0),(0,0),(2,0),(0,0),(2,0),(1,0),(0,0)] 0]) (K2 := [.blk 2,.code [(2,0),(1,0),(0,0),(2,0),(0,0)] 3,.blk 1,.code [(2,0),(1,0),(0,0)] 3]) (fun (v3,v4) => ⟨[(1,.list (.ints a1)),(5,.sl 11 0),(6,.i v1),(7,.sl 16 0),(12,.i a0),(13,.i v1),(17,.list (.ints a1)),(18,.i (a1.length : Int)),(19,.i v3)],[(11,.arr 25 0 0 (.intss v2)),(16,.arr 3 0 0 (.ints v4))]⟩) (fun x e σ' => match x with | v6 => e = .exit 2 ∧ σ' = ⟨[(1,.list (.ints a1)),(5,.sl 11 0),(7,.sl 16 0),(12,.i a0),(13,.i v1)],[(11,.arr 25 0 0 (.intss v2)),(16,.arr 3 0 0 (.ints v6))]⟩) hk8 rfl rfl ?_ ?_
   ·intro s x hs
    clear h
    have h := hs
    clear hs
    obtain ⟨v3,v4⟩ := s
    refine Tri.f 1 [] [.keep [1,5,6,7,12,13,17,18,19,20] [11,16]] rfl trivial ?_
    rcases bif_some h with ⟨hd2,h⟩ | ⟨hd2,h⟩
    ·obtain ⟨hg3,h⟩ := grd_some h
     refine Tri.f 3 [.g true] [.keep [1,5,6,7,9,10,12,13,17,18,19] [11,16]] rfl ⟨hg3,hd2,trivial⟩ ?_
     obtain ⟨v5,hk4,h⟩ := bind_some h
     refine Tri.f 1 [.v (.bool v5)] [.keep [1,5,6,7,10,12,13,17,18,19,25] [11,16]] rfl ⟨fun _ => W33 (a1.getD v3.toNat 0) v1 v5 hk4,trivial⟩ ?_
     rcases bif_some h with ⟨hd5,h⟩ | ⟨hd5,h⟩
     ·obtain ⟨hg6,h⟩ := grd_some h
      refine Tri.f 3 [.g true] [.keep [1,5,6,7,12,13,17,18,19] [11,16]] rfl ⟨hg6,hd5,trivial⟩ ?_
      refine Tri.f 1 [] [.rever 16,.keep [1,5,6,7,12,13,17,18,19] [11,16]] rfl trivial ?_
      cases h
      exact Tri.nil ⟨rfl,rfl⟩
     ·obtain ⟨hg7,h⟩ := grd_some h
      refine Tri.f 3 [.g false] [.rever 16,.keep [1,5,6,7,12,13,17,18,19] [11,16]] rfl ⟨hg7,hd5,trivial⟩ ?_
      cases h
      exact Tri.nil ⟨rfl,rfl⟩
    ·refine Tri.f 1 [.g false] [.keep [1,5,7,12,13] [11,16]] rfl ⟨hd2,trivial⟩ ?_
     cases h
     exact Tri.out 2 rfl ⟨nofun,rfl,rfl⟩
   ·intro e σ' hne hq
    obtain ⟨rfl,rfl⟩ := hq
    refine TriX.exit (K' := [.code [(2,0),(1,0),(0,0),(2,0),(0,0)] 3,.blk 1,.code [(2,0),(1,0),(0,0)] 3]) rfl ?_
    obtain ⟨hg9,h⟩ := grd_some h
    refine Tri.f 2 [] [.rever 11,.keep [1,5,12,13] [11]] rfl ⟨hg9,trivial⟩ ?_
    cases h
    exact Tri.nil ⟨rfl,rfl⟩
  ·refine Tri.f 1 [.g false] [.keep [5] [11]] rfl ⟨hd1,trivial⟩ ?_
   cases h
   exact Tri.out 0 rfl ⟨nofun,rfl,rfl⟩
 ·intro e σ' hne hq
  obtain ⟨rfl,rfl⟩ := hq
  refine TriX.exit (K' := [.code [] 3]) rfl ?_
  refine Tri.f 1 [] [.swap 11 1000,.keep [4] [1000]] rfl trivial ?_
  cases h
  exact Tri.ret rfl ⟨.inl rfl,rfl,rfl⟩
noncomputable def E320 : Env := ⟨Tryz.prog,tys,(Tryz.f117.body).getD .skip,20,tysOk,mixedOk⟩
abbrev K177 (r : List Int) (σ' : ASt) : Prop := isRes E320.T Tryz.f117 (.sl 1000 0) [(1000,.arr 3 0 0 (.ints r))] σ'
noncomputable def l_impl_times_0 (a0 a1 : Int) : (Int × (List Int)) → Option ((Int × (List Int)) ⊕ ((List Int)))
 | (v1,v2) => (
bif decide (v1 < ((List.replicate a0.toNat (0 : Int)).length : Int)) then
(grd (0 ≤ v1 ∧ v1 < (v2.length : Int)) <|
some (.inl (IntKind.i64.wrap (v1 + 1),v2.set v1.toNat a1)))
else
(some (.inr v2)))
noncomputable def m_impl_times (a0 a1 : Int) : Option (List Int) :=
grd (0 ≤ a0 ∧ a0 = a0 ∧ a0 ≤ (room : Int)) <|
(iter (l_impl_times_0 a0 a1) ((0 : Int),List.replicate a0.toNat (0 : Int))).bind fun
| v3 => (
some v3)
theorem W35 (a0 a1 : Int) (r : List Int) (h : m_impl_times a0 a1 = some r) : AM.Spec Tryz.prog 117 [.i a0,.i a1] [] (.sl 1000 0) [(1000,.arr 3 0 0 (.ints r))] := by
 refine spec_of (E := E320) Tryz.func117 rfl rfl rfl rfl ?_
 obtain ⟨hg1,h⟩ := grd_some h
 refine Tri.f 3 [] [.keep [1,5,10,11] [8]] rfl ⟨hg1,trivial⟩ ?_
 obtain ⟨v3,hk4,h⟩ := bind_some h
 refine Tri.loop (K1 := [.code [(2,0),(1,0),(0,0)] 0]) (K2 := [.blk 0,.code [] 3]) (fun (v1,v2) => ⟨[(1,.i a1),(5,.sl 8 0),(10,.i ((List.replicate a0.toNat (0 : Int)).length : Int)),(11,.i v1)],[(8,.arr 3 0 0 (.ints v2))]⟩) (fun x e σ' => match x with | v3 => e = .exit 0 ∧ σ' = ⟨[(5,.sl 8 0)],[(8,.arr 3 0 0 (.ints v3))]⟩) hk4 rfl rfl ?_ ?_
 ·intro s x hs
  clear h
  have h := hs
  clear hs
  obtain ⟨v1,v2⟩ := s
  refine Tri.f 1 [] [.keep [1,5,10,11,12] [8]] rfl trivial ?_
  rcases bif_some h with ⟨hd2,h⟩ | ⟨hd2,h⟩
  ·obtain ⟨hg3,h⟩ := grd_some h
   refine Tri.f 3 [.g true] [.keep [1,5,10,11] [8]] rfl ⟨hg3,hd2,trivial⟩ ?_
   refine Tri.f 1 [] [.keep [1,5,10,11] [8]] rfl trivial ?_
   cases h
   exact Tri.nil ⟨rfl,rfl⟩
  ·refine Tri.f 1 [.g false] [.keep [5] [8]] rfl ⟨hd2,trivial⟩ ?_
   cases h
   exact Tri.out 0 rfl ⟨nofun,rfl,rfl⟩
 ·intro e σ' hne hq
  obtain ⟨rfl,rfl⟩ := hq
  refine TriX.exit (K' := [.code [] 3]) rfl ?_
  refine Tri.f 1 [] [.swap 8 1000,.keep [4] [1000]] rfl trivial ?_
  cases h
  exact Tri.ret rfl ⟨.inl rfl,rfl,rfl⟩
noncomputable def E321 : Env := ⟨Tryz.prog,tys,(Tryz.f103.body).getD .skip,5,tysOk,mixedOk⟩
abbrev K178 (r : Int × Int) (σ' : ASt) : Prop := isRes E321.T Tryz.f103 (.agg [.i r.1,.i r.2]) [] σ'
noncomputable def m_impl_whole (a0 : Int) : Option (Int × Int) :=
some (a0,(1 : Int))
theorem W36 (a0 : Int) (r : Int × Int) (h : m_impl_whole a0 = some r) : AM.Spec Tryz.prog 103 [.i a0] [] (.agg [.i r.1,.i r.2]) [] := by
 refine spec_of (E := E321) Tryz.func103 rfl rfl rfl rfl ?_
 refine Tri.f 2 [] [.keep [2] [2]] rfl trivial ?_
 cases h
 exact Tri.ret rfl ⟨.inl rfl,rfl,rfl⟩
noncomputable def E322 : Env := ⟨Tryz.prog,tys,(Tryz.f118.body).getD .skip,27,tysOk,mixedOk⟩
abbrev K179 (r : List Q) (σ' : ASt) : Prop := isRes E322.T Tryz.f118 (.sl 1000 0) [(1000,.arr 31 0 0 (.rats r))] σ'
noncomputable def l_impl_minusValues_0 (a1 : List Int) (a3 : Int) : (Int × (List Q)) → Option ((Int × (List Q)) ⊕ ((List Q)))
 | (v1,v2) => (
bif decide (v1 ≤ a3) then
(grd (0 ≤ v1 ∧ v1 < (a1.length : Int)) <|
(m_impl_whole (IntKind.i64.wrap (0 - (a1.getD v1.toNat 0)))).bind fun (v3,v4) =>
grd (v2.length + ([⟨v3,v4⟩] : List Q).length ≤ room) <|
some (.inl (IntKind.i64.wrap (v1 + 1),v2 ++ [⟨v3,v4⟩])))
else
(some (.inr v2)))
noncomputable def m_impl_minusValues (_a0 : Int) (a1 : List Int) (a2 a3 : Int) : Option (List Q) :=
(iter (l_impl_minusValues_0 a1 a3) (a2,[])).bind fun
| v5 => (
some v5)
theorem W37 (a0 : Int) (a1 : List Int) (a2 a3 : Int) (r : List Q) (h : m_impl_minusValues a0 a1 a2 a3 = some r) : AM.Spec Tryz.prog 118 [.agg [.i a0,.list (.ints a1)],.i a2,.i a3] [] (.sl 1000 0) [(1000,.arr 31 0 0 (.rats r))] := by
 refine spec_of (E := E322) Tryz.func118 rfl rfl rfl rfl ?_
 refine Tri.f 3 [] [.keep [2,3,7,8] [3,9]] rfl trivial ?_
 obtain ⟨v5,hk5,h⟩ := bind_some h
 refine Tri.loop (K1 := [.code [(2,0),(1,0),(0,0)] 0]) (K2 := [.blk 0,.code [] 3]) (fun (v1,v2) => ⟨[(2,.i a3),(3,.ptr 3 0),(7,.sl 9 0),(8,.i v1)],[(3,.box [.i a0,.list (.ints a1)]),(9,.arr 31 0 0 (.rats v2))]⟩) (fun x e σ' => match x with | v5 => e = .exit 0 ∧ σ' = ⟨[(7,.sl 9 0)],[(9,.arr 31 0 0 (.rats v5))]⟩) hk5 rfl rfl ?_ ?_
 ·intro s x hs
  clear h
  have h := hs
  clear hs
  obtain ⟨v1,v2⟩ := s
  refine Tri.f 1 [] [.keep [2,3,7,8,13] [3,9]] rfl trivial ?_
  rcases bif_some h with ⟨hd1,h⟩ | ⟨hd1,h⟩
  ·obtain ⟨hg2,h⟩ := grd_some h
   obtain ⟨⟨v3,v4⟩,hk3,h⟩ := bind_some h
   obtain ⟨hg4,h⟩ := grd_some h
   refine Tri.f 3 [.g true,.v (.agg [.i v3,.i v4])] [.rever 9,.keep [2,3,7,8] [3,9]] rfl ⟨hg4,fun _ => W36 (IntKind.i64.wrap (0 - (a1.getD v1.toNat 0))) (v3,v4) hk3,hg2,hd1,trivial⟩ ?_
   cases h
   exact Tri.nil ⟨rfl,rfl⟩
  ·refine Tri.f 1 [.g false] [.keep [7] [9]] rfl ⟨hd1,trivial⟩ ?_
   cases h
   exact Tri.out 0 rfl ⟨nofun,rfl,rfl⟩
 ·intro e σ' hne hq
  obtain ⟨rfl,rfl⟩ := hq
  refine TriX.exit (K' := [.code [] 3]) rfl ?_
  refine Tri.f 1 [] [.swap 9 1000,.keep [6] [1000]] rfl trivial ?_
  cases h
  exact Tri.ret rfl ⟨.inl rfl,rfl,rfl⟩
noncomputable def E323 : Env := ⟨Tryz.prog,tys,(Tryz.f30.body).getD .skip,25,tysOk,mixedOk⟩
abbrev K180 (r : Bool × (List (List Int)) × (List Int) × (List Q)) (σ' : ASt) : Prop := isRes E323.T Tryz.f30 (.tuple [.agg [.sl 1000 0,.sl 1001 0,.sl 1002 0],.bool r.1]) [(1000,.arr 25 0 0 (.intss r.2.1)),(1001,.arr 3 0 0 (.ints r.2.2.1)),(1002,.arr 31 0 0 (.rats r.2.2.2))] σ'
noncomputable def m_impl_BalancedLP (a0 : Int) (a1 : List Int) : Option (Bool × (List (List Int)) × (List Int) × (List Q)) :=
(m_impl_IsValidGame a0 a1).bind fun v1 =>
bif !v1 then
(some (false,[],[],[]))
else
((m_impl_coalitions (1 : Int) (IntKind.i64.wrap ((a1.length : Int) - 1))).bind fun v2 =>
(m_impl_members a0 v2).bind fun v3 =>
(m_impl_times a0 (1 : Int)).bind fun v4 =>
(m_impl_minusValues a0 a1 (1 : Int) (IntKind.i64.wrap ((a1.length : Int) - 1))).bind fun v5 =>
some (true,v3,v4,v5))
theorem W38 (a0 : Int) (a1 : List Int) (r : Bool × (List (List Int)) × (List Int) × (List Q)) (h : m_impl_BalancedLP a0 a1 = some r) : AM.Spec Tryz.prog 30 [.agg [.i a0,.list (.ints a1)]] [] (.tuple [.agg [.sl 1000 0,.sl 1001 0,.sl 1002 0],.bool r.1]) [(1000,.arr 25 0 0 (.intss r.2.1)),(1001,.arr 3 0 0 (.ints r.2.2.1)),(1002,.arr 31 0 0 (.rats r.2.2.2))] := by
 refine spec_of (E := E323) Tryz.func30 rfl rfl rfl rfl ?_
 refine Tri.f 1 [] [.keep [1,2] [1,2],.ownc 2 0 1100 25,.ownc 2 1 1101 3,.ownc 2 2 1102 31,.keep [1,2] [1,2,1100,1101,1102]] rfl trivial ?_
 obtain ⟨v1,hk1,h⟩ := bind_some h
 refine Tri.f 1 [.v (.bool v1)] [.keep [1,2,7] [1,2,1100,1101,1102]] rfl ⟨fun _ => W31 a0 a1 v1 hk1,trivial⟩ ?_
 rcases bif_some h with ⟨hd2,h⟩ | ⟨hd2,h⟩
 ·refine Tri.f 2 [.g true] [.ownc 2 0 1103 25,.ownc 2 1 1104 3,.ownc 2 2 1105 31,.swap 1103 1000,.swap 1104 1001,.swap 1105 1002,.keep [2,3] [2,1000,1001,1002]] rfl ⟨hd2,trivial⟩ ?_
  cases h
  exact Tri.ret rfl ⟨.inl rfl,rfl,rfl⟩
 ·refine Tri.f 2 [.g false] [.keep [1,2,4] [1,2,1100,1101,1102]] rfl ⟨hd2,trivial⟩ ?_
  obtain ⟨v2,hk3,h⟩ := bind_some h
  obtain ⟨v3,hk4,h⟩ := bind_some h
  obtain ⟨v4,hk5,h⟩ := bind_some h
  obtain ⟨v5,hk6,h⟩ := bind_some h
  refine Tri.f 1 [.r ⟨[],.sl 1106 0,[(1106,.arr 3 0 0 (.ints v2))]⟩,.r ⟨[],.sl 1107 0,[(1107,.arr 25 0 0 (.intss v3))]⟩,.r ⟨[],.sl 1108 0,[(1108,.arr 3 0 0 (.ints v4))]⟩,.r ⟨[],.sl 1109 0,[(1109,.arr 31 0 0 (.rats v5))]⟩] [.swap 1107 1000,.swap 1108 1001,.swap 1109 1002,.keep [2,3] [2,1000,1001,1002]] rfl ⟨fun _ => (W37 a0 a1 (1 : Int) (IntKind.i64.wrap ((a1.length : Int) - 1)) v5 hk6).swap 1000 1109,fun _ => (W35 a0 (1 : Int) v4 hk5).swap 1000 1108,fun _ => (W34 a0 v2 v3 hk4).swap 1000 1107,fun _ => (W32 (1 : Int) (IntKind.i64.wrap ((a1.length : Int) - 1)) v2 hk3).swap 1000 1106,trivial⟩ ?_
  cases h
  exact Tri.ret rfl ⟨.inl rfl,rfl,rfl⟩
noncomputable def E324 : Env := ⟨Tryz.prog,tys,(Tryz.f186.body).getD .skip,15,tysOk,mixedOk⟩
abbrev K181 (r : Int) (σ' : ASt) : Prop := isRes E324.T Tryz.f186 (.i r) [] σ'
noncomputable def l_impl_common_0 : (Int × Int) → Option ((Int × Int) ⊕ Int)
 | (v1,v2) => (
bif v2 != 0 then
(grd (v2 ≠ 0) <|
some (.inl (v2,v1.tmod v2)))
else
(some (.inr v1)))
noncomputable def m_impl_common (a0 a1 : Int) : Option Int :=
(iter (l_impl_common_0) (a0,a1)).bind fun
| v3 => (
some (if IntKind.i64.wrap (0 - v3) > v3 then IntKind.i64.wrap (0 - v3) else v3))
theorem W39 (a0 a1 r : Int) (h : m_impl_common a0 a1 = some r) : AM.Spec Tryz.prog 186 [.i a0,.i a1] [] (.i r) [] := by
 refine spec_of (E := E324) Tryz.func186 rfl rfl rfl rfl ?_
 refine Tri.f 1 [] [.keep [0,1] []] rfl trivial ?_
 obtain ⟨v3,hk3,h⟩ := bind_some h
 refine Tri.loop (K1 := [.code [(1,0),(0,0),(0,0)] 0]) (K2 := [.blk 0,.code [] 2]) (fun (v1,v2) => ⟨[(0,.i v1),(1,.i v2)],[]⟩) (fun x e σ' => match x with | v3 => e = .exit 0 ∧ σ' = ⟨[(0,.i v3)],[]⟩) hk3 rfl rfl ?_ ?_
 ·intro s x hs
  clear h
  have h := hs
  clear hs
  obtain ⟨v1,v2⟩ := s
  refine Tri.f 1 [] [.keep [0,1,6] []] rfl trivial ?_
  rcases bif_some h with ⟨hd1,h⟩ | ⟨hd1,h⟩
  ·obtain ⟨hg2,h⟩ := grd_some h
   refine Tri.f 2 [.g true] [.keep [0,1] []] rfl ⟨hg2,hd1,trivial⟩ ?_
   cases h
   exact Tri.nil ⟨rfl,rfl⟩
  ·refine Tri.f 1 [.g false] [.keep [0] []] rfl ⟨hd1,trivial⟩ ?_
   cases h
   exact Tri.out 0 rfl ⟨nofun,rfl,rfl⟩
 ·intro e σ' hne hq
  obtain ⟨rfl,rfl⟩ := hq
  refine TriX.exit (K' := [.code [] 2]) rfl ?_
  refine Tri.f 1 [] [.keep [4] []] rfl trivial ?_
  cases h
  exact Tri.ret rfl ⟨.inl rfl,rfl,rfl⟩
noncomputable def E325 : Env := ⟨Tryz.prog,tys,(Tryz.f132.body).getD .skip,19,tysOk,mixedOk⟩
abbrev K182 (r : Bool) (σ' : ASt) : Prop := isRes E325.T Tryz.f132 (.bool r) [] σ'
noncomputable def m_impl_IsValidRat (a0 a1 : Int) : Option Bool :=
(m_impl_within a1 (1 : Int) (1000000000 : Int)).bind fun v1 =>
bif v1 then
((m_impl_within a0 (-1000000000 : Int) (1000000000 : Int)).bind fun v2 =>
bif v2 then
((m_impl_common a0 a1).bind fun v3 =>
some (v3 == 1))
else
(some false))
else
(some false)
theorem W40 (a0 a1 : Int) (r : Bool) (h : m_impl_IsValidRat a0 a1 = some r) : AM.Spec Tryz.prog 132 [.agg [.i a0,.i a1]] [] (.bool r) [] := by
 refine spec_of (E := E325) Tryz.func132 rfl rfl rfl rfl ?_
 refine Tri.f 1 [] [.keep [1] [1]] rfl trivial ?_
 obtain ⟨v1,hk1,h⟩ := bind_some h
 rcases bif_some h with ⟨hd2,h⟩ | ⟨hd2,h⟩
 ·obtain ⟨v2,hk3,h⟩ := bind_some h
  rcases bif_some h with ⟨hd4,h⟩ | ⟨hd4,h⟩
  ·obtain ⟨v3,hk5,h⟩ := bind_some h
   refine Tri.f 1 [.v (.bool v1),.g true,.v (.bool v2),.g true,.v (.i v3)] [.keep [2] []] rfl ⟨fun _ => W39 a0 a1 v3 hk5,hd4,fun _ => W27 a0 (-1000000000 : Int) (1000000000 : Int) v2 hk3,hd2,fun _ => W27 a1 (1 : Int) (1000000000 : Int) v1 hk1,trivial⟩ ?_
   cases h
   exact Tri.ret rfl ⟨.inl rfl,rfl,rfl⟩
  ·refine Tri.f 1 [.v (.bool v1),.g true,.v (.bool v2),.g false] [.keep [2] []] rfl ⟨hd4,fun _ => W27 a0 (-1000000000 : Int) (1000000000 : Int) v2 hk3,hd2,fun _ => W27 a1 (1 : Int) (1000000000 : Int) v1 hk1,trivial⟩ ?_
   cases h
   exact Tri.ret rfl ⟨.inl rfl,rfl,rfl⟩
 ·refine Tri.f 1 [.v (.bool v1),.g false,.g false] [.keep [2] []] rfl ⟨rfl,hd2,fun _ => W27 a1 (1 : Int) (1000000000 : Int) v1 hk1,trivial⟩ ?_
  cases h
  exact Tri.ret rfl ⟨.inl rfl,rfl,rfl⟩
noncomputable def E326 : Env := ⟨Tryz.prog,tys,(Tryz.f156.body).getD .skip,6,tysOk,mixedOk⟩
abbrev K183 (r : Bool) (σ' : ASt) : Prop := isRes E326.T Tryz.f156 (.bool r) [] σ'
noncomputable def m_impl_AllValid_1 (a0 a1 : Int) : Option Bool :=
(m_impl_IsValidRat a0 a1).bind fun v1 =>
some (!v1)
theorem W41 (a0 a1 : Int) (r : Bool) (h : m_impl_AllValid_1 a0 a1 = some r) : AM.Spec Tryz.prog 156 [.agg [.i a0,.i a1]] [] (.bool r) [] := by
 refine spec_of (E := E326) Tryz.func156 rfl rfl rfl rfl ?_
 refine Tri.f 1 [] [.keep [1] [1]] rfl trivial ?_
 obtain ⟨v1,hk1,h⟩ := bind_some h
 refine Tri.f 1 [.v (.bool v1)] [.keep [2] []] rfl ⟨fun _ => W40 a0 a1 v1 hk1,trivial⟩ ?_
 cases h
 exact Tri.ret rfl ⟨.inl rfl,rfl,rfl⟩
noncomputable def E327 : Env := ⟨Tryz.prog,tys,(Tryz.f191.body).getD .skip,19,tysOk,mixedOk⟩
abbrev K184 (r : Int) (σ' : ASt) : Prop := isRes E327.T Tryz.f191 (.i r) [] σ'
noncomputable def l_slices_IndexFunc_impl_Rat_impl_Rat_impl_AllValid_1_0 (a0 : List Q) (v1 : Int) : Option (Int ⊕ (Unit ⊕ Int)) :=
bif decide (v1 < (a0.length : Int)) then
(grd (0 ≤ v1 ∧ v1 < (a0.length : Int)) <|
(m_impl_AllValid_1 ((a0.getD v1.toNat ⟨0,0⟩).num) ((a0.getD v1.toNat ⟨0,0⟩).den)).bind fun v2 =>
bif v2 then
(some (.inr (.inr v1)))
else
(some (.inl (IntKind.i64.wrap (v1 + 1)))))
else
(some (.inr (.inl ())))
noncomputable def m_slices_IndexFunc_impl_Rat_impl_Rat_impl_AllValid_1 (a0 : List Q) : Option Int :=
(iter (l_slices_IndexFunc_impl_Rat_impl_Rat_impl_AllValid_1_0 a0) (0 : Int)).bind fun
| (.inl _) => (
some (-1 : Int))
| (.inr r) => some r
theorem W42 (a0 : List Q) (r : Int) (h : m_slices_IndexFunc_impl_Rat_impl_Rat_impl_AllValid_1 a0 = some r) : AM.Spec Tryz.prog 191 [.list (.rats a0),.func 156 [] []] [] (.i r) [] := by
 refine spec_of (E := E327) Tryz.func191 rfl rfl rfl rfl ?_
 refine Tri.f 2 [] [.keep [0,1,7,8] []] rfl trivial ?_
 obtain ⟨x1,hk5,h⟩ := bind_some h
 refine Tri.loop (K1 := [.code [(1,0),(1,0),(0,0)] 0]) (K2 := [.blk 0,.code [] 2]) (fun v1 => ⟨[(0,.list (.rats a0)),(1,.func 156 [] []),(7,.i (a0.length : Int)),(8,.i v1)],[]⟩) (fun x e σ' => match x with | (.inl _) => e = .exit 0 ∧ σ' = ⟨[],[]⟩ | (.inr r) => e = .ret ∧ K184 r σ') hk5 rfl rfl ?_ ?_
 ·intro v1 x hs
  clear h
  have h := hs
  clear hs
  refine Tri.f 1 [] [.keep [0,1,7,8,9] []] rfl trivial ?_
  rcases bif_some h with ⟨hd1,h⟩ | ⟨hd1,h⟩
  ·refine Tri.f 2 [.g true] [.keep [0,1,5,7,8] []] rfl ⟨hd1,trivial⟩ ?_
   obtain ⟨hg2,h⟩ := grd_some h
   obtain ⟨v2,hk3,h⟩ := bind_some h
   refine Tri.f 1 [.v (.bool v2)] [.keep [0,1,5,7,8,16] []] rfl ⟨fun _ => W41 ((a0.getD v1.toNat ⟨0,0⟩).num) ((a0.getD v1.toNat ⟨0,0⟩).den) v2 hk3,hg2,trivial⟩ ?_
   rcases bif_some h with ⟨hd4,h⟩ | ⟨hd4,h⟩
   ·refine Tri.f 2 [.g true] [.keep [4] []] rfl ⟨hd4,trivial⟩ ?_
    cases h
    exact Tri.ret rfl ⟨nofun,rfl,rfl,rfl⟩
   ·refine Tri.f 2 [.g false] [.keep [0,1,7,8] []] rfl ⟨hd4,trivial⟩ ?_
    cases h
    exact Tri.nil ⟨rfl,rfl⟩
  ·refine Tri.f 1 [.g false] [.keep [] []] rfl ⟨hd1,trivial⟩ ?_
   cases h
   exact Tri.out 0 rfl ⟨nofun,rfl,rfl⟩
 ·intro e σ' hne hq
  rcases x1 with _ | r
  ·obtain ⟨rfl,rfl⟩ := hq
   refine TriX.exit (K' := [.code [] 2]) rfl ?_
   refine Tri.f 1 [] [.keep [4] []] rfl trivial ?_
   cases h
   exact Tri.ret rfl ⟨.inl rfl,rfl,rfl⟩
  ·obtain ⟨rfl,hq⟩ := hq
   cases h
   exact TriX.ret ⟨.inl rfl,hq⟩
noncomputable def E328 : Env := ⟨Tryz.prog,tys,(Tryz.f155.body).getD .skip,9,tysOk,mixedOk⟩
abbrev K185 (r : Bool) (σ' : ASt) : Prop := isRes E328.T Tryz.f155 (.bool r) [] σ'
noncomputable def m_slices_ContainsFunc_impl_Rat_impl_Rat_impl_AllValid_1 (a0 : List Q) : Option Bool :=
(m_slices_IndexFunc_impl_Rat_impl_Rat_impl_AllValid_1 a0).bind fun v1 =>
some (decide (v1 ≥ 0))
theorem W43 (a0 : List Q) (r : Bool) (h : m_slices_ContainsFunc_impl_Rat_impl_Rat_impl_AllValid_1 a0 = some r) : AM.Spec Tryz.prog 155 [.list (.rats a0),.func 156 [] []] [] (.bool r) [] := by
 refine spec_of (E := E328) Tryz.func155 rfl rfl rfl rfl ?_
 refine Tri.f 1 [] [.keep [0,1] []] rfl trivial ?_
 obtain ⟨v1,hk1,h⟩ := bind_some h
 refine Tri.f 1 [.v (.i v1)] [.keep [4] []] rfl ⟨fun _ => W42 a0 v1 hk1,trivial⟩ ?_
 cases h
 exact Tri.ret rfl ⟨.inl rfl,rfl,rfl⟩
noncomputable def E329 : Env := ⟨Tryz.prog,tys,(Tryz.f70.body).getD .skip,6,tysOk,mixedOk⟩
abbrev K186 (r : Bool) (σ' : ASt) : Prop := isRes E329.T Tryz.f70 (.bool r) [] σ'
noncomputable def m_impl_AllValid (a0 : List Q) : Option Bool :=
(m_slices_ContainsFunc_impl_Rat_impl_Rat_impl_AllValid_1 a0).bind fun v1 =>
some (!v1)
theorem W44 (a0 : List Q) (r : Bool) (h : m_impl_AllValid a0 = some r) : AM.Spec Tryz.prog 70 [.list (.rats a0)] [] (.bool r) [] := by
 refine spec_of (E := E329) Tryz.func70 rfl rfl rfl rfl ?_
 refine Tri.f 1 [] [.keep [0] []] rfl trivial ?_
 obtain ⟨v1,hk1,h⟩ := bind_some h
 refine Tri.f 1 [.v (.bool v1)] [.keep [2] []] rfl ⟨fun _ => W43 a0 v1 hk1,trivial⟩ ?_
 cases h
 exact Tri.ret rfl ⟨.inl rfl,rfl,rfl⟩
noncomputable def E330 : Env := ⟨Tryz.prog,tys,(Tryz.f71.body).getD .skip,6,tysOk,mixedOk⟩
abbrev K187 (r : Bool) (σ' : ASt) : Prop := isRes E330.T Tryz.f71 (.bool r) [] σ'
noncomputable def m_impl_IsValidLP_1 (a0 : Int) : Option Bool :=
(m_impl_within a0 (-5000 : Int) (5000 : Int)).bind fun v1 =>
some (!v1)
theorem W45 (a0 : Int) (r : Bool) (h : m_impl_IsValidLP_1 a0 = some r) : AM.Spec Tryz.prog 71 [.i a0] [] (.bool r) [] := by
 refine spec_of (E := E330) Tryz.func71 rfl rfl rfl rfl ?_
 refine Tri.f 1 [] [.keep [0] []] rfl trivial ?_
 obtain ⟨v1,hk1,h⟩ := bind_some h
 refine Tri.f 1 [.v (.bool v1)] [.keep [2] []] rfl ⟨fun _ => W27 a0 (-5000 : Int) (5000 : Int) v1 hk1,trivial⟩ ?_
 cases h
 exact Tri.ret rfl ⟨.inl rfl,rfl,rfl⟩
abbrev K188 (r : Int) (σ' : ASt) : Prop := isRes E314.T Tryz.f157 (.i r) [] σ'
noncomputable def l_slices_IndexFunc_int_int_impl_IsValidLP_1_0 (a0 : List Int) (v1 : Int) : Option (Int ⊕ (Unit ⊕ Int)) :=
bif decide (v1 < (a0.length : Int)) then
(grd (0 ≤ v1 ∧ v1 < (a0.length : Int)) <|
(m_impl_IsValidLP_1 (a0.getD v1.toNat 0)).bind fun v2 =>
bif v2 then
(some (.inr (.inr v1)))
else
(some (.inl (IntKind.i64.wrap (v1 + 1)))))
else
(some (.inr (.inl ())))
noncomputable def m_slices_IndexFunc_int_int_impl_IsValidLP_1 (a0 : List Int) : Option Int :=
(iter (l_slices_IndexFunc_int_int_impl_IsValidLP_1_0 a0) (0 : Int)).bind fun
| (.inl _) => (
some (-1 : Int))
| (.inr r) => some r
theorem W46 (a0 : List Int) (r : Int) (h : m_slices_IndexFunc_int_int_impl_IsValidLP_1 a0 = some r) : AM.Spec Tryz.prog 157 [.list (.ints a0),.func 71 [] []] [] (.i r) [] := by
 refine spec_of (E := E314) Tryz.func157 rfl rfl rfl rfl ?_
 refine Tri.f 2 [] [.keep [0,1,7,8] []] rfl trivial ?_
 obtain ⟨x1,hk5,h⟩ := bind_some h
 refine Tri.loop (K1 := [.code [(1,0),(1,0),(0,0)] 0]) (K2 := [.blk 0,.code [] 2]) (fun v1 => ⟨[(0,.list (.ints a0)),(1,.func 71 [] []),(7,.i (a0.length : Int)),(8,.i v1)],[]⟩) (fun x e σ' => match x with | (.inl _) => e = .exit 0 ∧ σ' = ⟨[],[]⟩ | (.inr r) => e = .ret ∧ K188 r σ') hk5 rfl rfl ?_ ?_
 ·intro v1 x hs
  clear h
  have h := hs
  clear hs
  refine Tri.f 1 [] [.keep [0,1,7,8,9] []] rfl trivial ?_
  rcases bif_some h with ⟨hd1,h⟩ | ⟨hd1,h⟩
  ·refine Tri.f 2 [.g true] [.keep [0,1,5,7,8] []] rfl ⟨hd1,trivial⟩ ?_
   obtain ⟨hg2,h⟩ := grd_some h
   obtain ⟨v2,hk3,h⟩ := bind_some h
   refine Tri.f 1 [.v (.bool v2)] [.keep [0,1,5,7,8,16] []] rfl ⟨fun _ => W45 (a0.getD v1.toNat 0) v2 hk3,hg2,trivial⟩ ?_
   rcases bif_some h with ⟨hd4,h⟩ | ⟨hd4,h⟩
   ·refine Tri.f 2 [.g true] [.keep [4] []] rfl ⟨hd4,trivial⟩ ?_
    cases h
    exact Tri.ret rfl ⟨nofun,rfl,rfl,rfl⟩
   ·refine Tri.f 2 [.g false] [.keep [0,1,7,8] []] rfl ⟨hd4,trivial⟩ ?_
    cases h
    exact Tri.nil ⟨rfl,rfl⟩
  ·refine Tri.f 1 [.g false] [.keep [] []] rfl ⟨hd1,trivial⟩ ?_
   cases h
   exact Tri.out 0 rfl ⟨nofun,rfl,rfl⟩
 ·intro e σ' hne hq
  rcases x1 with _ | r
  ·obtain ⟨rfl,rfl⟩ := hq
   refine TriX.exit (K' := [.code [] 2]) rfl ?_
   refine Tri.f 1 [] [.keep [4] []] rfl trivial ?_
   cases h
   exact Tri.ret rfl ⟨.inl rfl,rfl,rfl⟩
  ·obtain ⟨rfl,hq⟩ := hq
   cases h
   exact TriX.ret ⟨.inl rfl,hq⟩
abbrev K189 (r : Bool) (σ' : ASt) : Prop := isRes E315.T Tryz.f73 (.bool r) [] σ'
noncomputable def m_slices_ContainsFunc_int_int_impl_IsValidLP_1 (a0 : List Int) : Option Bool :=
(m_slices_IndexFunc_int_int_impl_IsValidLP_1 a0).bind fun v1 =>
some (decide (v1 ≥ 0))
theorem W47 (a0 : List Int) (r : Bool) (h : m_slices_ContainsFunc_int_int_impl_IsValidLP_1 a0 = some r) : AM.Spec Tryz.prog 73 [.list (.ints a0),.func 71 [] []] [] (.bool r) [] := by
 refine spec_of (E := E315) Tryz.func73 rfl rfl rfl rfl ?_
 refine Tri.f 1 [] [.keep [0,1] []] rfl trivial ?_
 obtain ⟨v1,hk1,h⟩ := bind_some h
 refine Tri.f 1 [.v (.i v1)] [.keep [4] []] rfl ⟨fun _ => W46 a0 v1 hk1,trivial⟩ ?_
 cases h
 exact Tri.ret rfl ⟨.inl rfl,rfl,rfl⟩
noncomputable def E331 : Env := ⟨Tryz.prog,tys,(Tryz.f14.body).getD .skip,55,tysOk,mixedOk⟩
abbrev K190 (r : Bool) (σ' : ASt) : Prop := isRes E331.T Tryz.f14 (.bool r) [] σ'
noncomputable def l_impl_IsValidLP_0 (a0 : List (List Int)) (a2 : List Q) (v2 : Int) : Option (Int ⊕ (Unit ⊕ Bool)) :=
bif decide (v2 < (a0.length : Int)) then
(grd (0 ≤ v2 ∧ v2 < (a0.length : Int)) <|
bif ((a0.getD v2.toNat []).length : Int) != (a2.length : Int) then
(some (.inr (.inr false)))
else
((m_slices_ContainsFunc_int_int_impl_IsValidLP_1 (a0.getD v2.toNat [])).bind fun v3 =>
bif v3 then
(some (.inr (.inr false)))
else
(some (.inl (IntKind.i64.wrap (v2 + 1))))))
else
(some (.inr (.inl ())))
noncomputable def m_impl_IsValidLP (a0 : List (List Int)) (a1 : List Int) (a2 : List Q) : Option Bool :=
bif decide ((a2.length : Int) > 70) then
(some false)
else
(bif decide ((a0.length : Int) > 8) then
(some false)
else
(bif (a1.length : Int) != (a0.length : Int) then
(some false)
else
((m_impl_AllValid a2).bind fun v1 =>
bif !v1 then
(some false)
else
((iter (l_impl_IsValidLP_0 a0 a2) (0 : Int)).bind fun
| (.inl _) => (
(m_slices_ContainsFunc_int_int_impl_IsValidLP_1 a1).bind fun v4 =>
some (!v4))
| (.inr r) => some r))))
theorem W48 (a0 : List (List Int)) (a1 : List Int) (a2 : List Q) (r : Bool) (h : m_impl_IsValidLP a0 a1 a2 = some r) : AM.Spec Tryz.prog 14 [.agg [.list (.intss a0),.list (.ints a1),.list (.rats a2)]] [] (.bool r) [] := by
 refine spec_of (E := E331) Tryz.func14 rfl rfl rfl rfl ?_
 refine Tri.f 1 [] [.keep [1] [1]] rfl trivial ?_
 rcases bif_some h with ⟨hd1,h⟩ | ⟨hd1,h⟩
 ·refine Tri.f 1 [.g true,.g true,.g true] [.keep [1,30] [1]] rfl ⟨rfl,rfl,hd1,trivial⟩ ?_
  refine Tri.f 2 [.g true] [.keep [2] []] rfl ⟨rfl,trivial⟩ ?_
  cases h
  exact Tri.ret rfl ⟨.inl rfl,rfl,rfl⟩
 ·rcases bif_some h with ⟨hd2,h⟩ | ⟨hd2,h⟩
  ·refine Tri.f 1 [.g false,.g true,.g true] [.keep [1,30] [1]] rfl ⟨rfl,hd2,hd1,trivial⟩ ?_
   refine Tri.f 2 [.g true] [.keep [2] []] rfl ⟨rfl,trivial⟩ ?_
   cases h
   exact Tri.ret rfl ⟨.inl rfl,rfl,rfl⟩
  ·rcases bif_some h with ⟨hd3,h⟩ | ⟨hd3,h⟩
   ·refine Tri.f 1 [.g false,.g false,.g true] [.keep [1,30] [1]] rfl ⟨hd3,hd2,hd1,trivial⟩ ?_
    refine Tri.f 2 [.g true] [.keep [2] []] rfl ⟨rfl,trivial⟩ ?_
    cases h
    exact Tri.ret rfl ⟨.inl rfl,rfl,rfl⟩
   ·obtain ⟨v1,hk4,h⟩ := bind_some h
    refine Tri.f 1 [.g false,.g false,.g false,.v (.bool v1)] [.keep [1,30] [1]] rfl ⟨fun _ => W44 a2 v1 hk4,hd3,hd2,hd1,trivial⟩ ?_
    rcases bif_some h with ⟨hd5,h⟩ | ⟨hd5,h⟩
    ·refine Tri.f 2 [.g true] [.keep [2] []] rfl ⟨hd5,trivial⟩ ?_
     cases h
     exact Tri.ret rfl ⟨.inl rfl,rfl,rfl⟩
    ·refine Tri.f 3 [.g false] [.keep [1,3,32,33,34] [1]] rfl ⟨hd5,trivial⟩ ?_
     obtain ⟨x1,hk11,h⟩ := bind_some h
     refine Tri.loop (K1 := [.code [(3,0),(1,0),(0,0)] 0]) (K2 := [.blk 0,.code [] 4]) (fun v2 => ⟨[(1,.ptr 1 0),(3,.func 71 [] []),(32,.list (.intss a0)),(33,.i (a0.length : Int)),(34,.i v2)],[(1,.box [.list (.intss a0),.list (.ints a1),.list (.rats a2)])]⟩) (fun x e σ' => match x with | (.inl _) => e = .exit 0 ∧ σ' = ⟨[(1,.ptr 1 0),(3,.func 71 [] [])],[(1,.box [.list (.intss a0),.list (.ints a1),.list (.rats a2)])]⟩ | (.inr r) => e = .ret ∧ K190 r σ') hk11 rfl rfl ?_ ?_
     ·intro v2 x hs
      clear h
      have h := hs
      clear hs
      refine Tri.f 1 [] [.keep [1,3,32,33,34,35] [1]] rfl trivial ?_
      rcases bif_some h with ⟨hd6,h⟩ | ⟨hd6,h⟩
      ·obtain ⟨hg7,h⟩ := grd_some h
       refine Tri.f 2 [.g true] [.keep [1,3,5,32,33,34] [1]] rfl ⟨hg7,hd6,trivial⟩ ?_
       rcases bif_some h with ⟨hd8,h⟩ | ⟨hd8,h⟩
       ·refine Tri.f 1 [.g true] [.keep [1,3,32,33,34,48] [1]] rfl ⟨hd8,trivial⟩ ?_
        refine Tri.f 2 [.g true] [.keep [2] []] rfl ⟨rfl,trivial⟩ ?_
        cases h
        exact Tri.ret rfl ⟨nofun,rfl,rfl,rfl⟩
       ·obtain ⟨v3,hk9,h⟩ := bind_some h
        refine Tri.f 1 [.g false,.v (.bool v3)] [.keep [1,3,32,33,34,48] [1]] rfl ⟨fun _ => W47 (a0.getD v2.toNat []) v3 hk9,hd8,trivial⟩ ?_
        rcases bif_some h with ⟨hd10,h⟩ | ⟨hd10,h⟩
        ·refine Tri.f 2 [.g true] [.keep [2] []] rfl ⟨hd10,trivial⟩ ?_
         cases h
         exact Tri.ret rfl ⟨nofun,rfl,rfl,rfl⟩
        ·refine Tri.f 2 [.g false] [.keep [1,3,32,33,34] [1]] rfl ⟨hd10,trivial⟩ ?_
         cases h
         exact Tri.nil ⟨rfl,rfl⟩
      ·refine Tri.f 1 [.g false] [.keep [1,3] [1]] rfl ⟨hd6,trivial⟩ ?_
       cases h
       exact Tri.out 0 rfl ⟨nofun,rfl,rfl⟩
     ·intro e σ' hne hq
      rcases x1 with _ | r
      ·obtain ⟨rfl,rfl⟩ := hq
       refine TriX.exit (K' := [.code [] 4]) rfl ?_
       obtain ⟨v4,hk12,h⟩ := bind_some h
       refine Tri.f 1 [.v (.bool v4)] [.keep [2] []] rfl ⟨fun _ => W47 a1 v4 hk12,trivial⟩ ?_
       cases h
       exact Tri.ret rfl ⟨.inl rfl,rfl,rfl⟩
      ·obtain ⟨rfl,hq⟩ := hq
       cases h
       exact TriX.ret ⟨.inl rfl,hq⟩
noncomputable def E332 : Env := ⟨Tryz.prog,tys,(Tryz.f142.body).getD .skip,91,tysOk,mixedOk⟩
abbrev K191 (r : Int × (List (List Q)) × (List Int)) (σ' : ASt) : Prop := isRes E332.T Tryz.f142 (.agg [.sl 1000 0,.sl 1001 0,.i r.1]) [(1000,.arr 26 0 0 (.ratss r.2.1)),(1001,.arr 3 0 0 (.ints r.2.2))] σ'
noncomputable def l_impl_StartTableau_1 (a0 : List (List Int)) (v2 : Int) : (Int × (List Q)) → Option ((Int × (List Q)) ⊕ ((List Q)))
 | (v5,v6) => (
bif decide (v5 < ((a0.getD v2.toNat []).length : Int)) then
(grd (0 ≤ v5 ∧ v5 < ((a0.getD v2.toNat []).length : Int)) <|
(m_impl_whole (IntKind.i64.wrap ((-1 : Int) * ((a0.getD v2.toNat []).getD v5.toNat 0)))).bind fun (v7,v8) =>
grd (v6.length + ([⟨v7,v8⟩] : List Q).length ≤ room) <|
some (.inl (IntKind.i64.wrap (v5 + 1),v6 ++ [⟨v7,v8⟩])))
else
(some (.inr v6)))
noncomputable def l_impl_StartTableau_2 (a0 : List (List Int)) (v2 : Int) : (Int × (List Q)) → Option ((Int × (List Q)) ⊕ ((List Q)))
 | (v10,v11) => (
bif decide (v10 < (a0.length : Int)) then
(bif v10 == v2 then
((m_impl_whole (1 : Int)).bind fun (v12,v13) =>
grd (v11.length + ([⟨v12,v13⟩] : List Q).length ≤ room) <|
some (.inl (IntKind.i64.wrap (v10 + 1),v11 ++ [⟨v12,v13⟩])))
else
((m_impl_whole (0 : Int)).bind fun (v14,v15) =>
grd (v11.length + ([⟨v14,v15⟩] : List Q).length ≤ room) <|
some (.inl (IntKind.i64.wrap (v10 + 1),v11 ++ [⟨v14,v15⟩]))))
else
(some (.inr v11)))
noncomputable def l_impl_StartTableau_3 (a0 : List (List Int)) (v2 : Int) : (Int × (List Q)) → Option ((Int × (List Q)) ⊕ ((List Q)))
 | (v19,v20) => (
bif decide (v19 < ((a0.getD v2.toNat []).length : Int)) then
(grd (0 ≤ v19 ∧ v19 < ((a0.getD v2.toNat []).length : Int)) <|
(m_impl_whole (IntKind.i64.wrap ((1 : Int) * ((a0.getD v2.toNat []).getD v19.toNat 0)))).bind fun (v21,v22) =>
grd (v20.length + ([⟨v21,v22⟩] : List Q).length ≤ room) <|
some (.inl (IntKind.i64.wrap (v19 + 1),v20 ++ [⟨v21,v22⟩])))
else
(some (.inr v20)))
noncomputable def l_impl_StartTableau_4 (a0 : List (List Int)) (v2 : Int) : (Int × (List Q)) → Option ((Int × (List Q)) ⊕ ((List Q)))
 | (v24,v25) => (
bif decide (v24 < (a0.length : Int)) then
(bif v24 == v2 then
((m_impl_whole (1 : Int)).bind fun (v26,v27) =>
grd (v25.length + ([⟨v26,v27⟩] : List Q).length ≤ room) <|
some (.inl (IntKind.i64.wrap (v24 + 1),v25 ++ [⟨v26,v27⟩])))
else
((m_impl_whole (0 : Int)).bind fun (v28,v29) =>
grd (v25.length + ([⟨v28,v29⟩] : List Q).length ≤ room) <|
some (.inl (IntKind.i64.wrap (v24 + 1),v25 ++ [⟨v28,v29⟩]))))
else
(some (.inr v25)))
noncomputable def l_impl_StartTableau_0 (a0 : List (List Int)) (a1 : List Int) (a2 : List Q) : (Int × (List (List Q)) × (List Int)) → Option ((Int × (List (List Q)) × (List Int)) ⊕ (((List (List Q)) × (List Int))))
 | (v2,v3,v4) => (
bif decide (v2 < (a0.length : Int)) then
(grd (0 ≤ v2 ∧ v2 < (a0.length : Int)) <|
grd (0 ≤ v2 ∧ v2 < (a1.length : Int)) <|
bif decide ((a1.getD v2.toNat 0) < 0) then
((iter (l_impl_StartTableau_1 a0 v2) ((0 : Int),[])).bind fun
| v9 => (
(iter (l_impl_StartTableau_2 a0 v2) ((0 : Int),v9)).bind fun
| v16 => (
grd (0 ≤ v2 ∧ v2 < (a1.length : Int)) <|
(m_impl_whole (IntKind.i64.wrap ((-1 : Int) * (a1.getD v2.toNat 0)))).bind fun (v17,v18) =>
grd (v16.length + ([⟨v17,v18⟩] : List Q).length ≤ room) <|
grd (v3.length + ([v16 ++ [⟨v17,v18⟩]] : List (List Q)).length ≤ room) <|
grd (v4.length + ([IntKind.i64.wrap ((a2.length : Int) + v2)] : List Int).length ≤ room) <|
some (.inl (IntKind.i64.wrap (v2 + 1),v3 ++ [v16 ++ [⟨v17,v18⟩]],v4 ++ [IntKind.i64.wrap ((a2.length : Int) + v2)])))))
else
((iter (l_impl_StartTableau_3 a0 v2) ((0 : Int),[])).bind fun
| v23 => (
(iter (l_impl_StartTableau_4 a0 v2) ((0 : Int),v23)).bind fun
| v30 => (
grd (0 ≤ v2 ∧ v2 < (a1.length : Int)) <|
(m_impl_whole (IntKind.i64.wrap ((1 : Int) * (a1.getD v2.toNat 0)))).bind fun (v31,v32) =>
grd (v30.length + ([⟨v31,v32⟩] : List Q).length ≤ room) <|
grd (v3.length + ([v30 ++ [⟨v31,v32⟩]] : List (List Q)).length ≤ room) <|
grd (v4.length + ([IntKind.i64.wrap ((a2.length : Int) + v2)] : List Int).length ≤ room) <|
some (.inl (IntKind.i64.wrap (v2 + 1),v3 ++ [v30 ++ [⟨v31,v32⟩]],v4 ++ [IntKind.i64.wrap ((a2.length : Int) + v2)]))))))
else
(some (.inr (v3,v4))))
noncomputable def m_impl_StartTableau (a0 : List (List Int)) (a1 : List Int) (a2 : List Q) : Option (Int × (List (List Q)) × (List Int)) :=
(m_impl_IsValidLP a0 a1 a2).bind fun v1 =>
bif !v1 then
(some (0,[],[]))
else
((iter (l_impl_StartTableau_0 a0 a1 a2) ((0 : Int),[],[])).bind fun
| (v33,v34) => (
some ((a2.length : Int),v33,v34)))
theorem W49 (a0 : List (List Int)) (a1 : List Int) (a2 : List Q) (r : Int × (List (List Q)) × (List Int)) (h : m_impl_StartTableau a0 a1 a2 = some r) : AM.Spec Tryz.prog 142 [.agg [.list (.intss a0),.list (.ints a1),.list (.rats a2)]] [] (.agg [.sl 1000 0,.sl 1001 0,.i r.1]) [(1000,.arr 26 0 0 (.ratss r.2.1)),(1001,.arr 3 0 0 (.ints r.2.2))] := by
 refine spec_of (E := E332) Tryz.func142 rfl rfl rfl rfl ?_
 refine Tri.f 1 [] [.keep [1,2] [1,2],.ownc 2 0 1100 26,.ownc 2 1 1101 3,.keep [1,2] [1,2,1100,1101]] rfl trivial ?_
 obtain ⟨v1,hk1,h⟩ := bind_some h
 refine Tri.f 1 [.v (.bool v1)] [.keep [1,2,14] [1,2,1100,1101]] rfl ⟨fun _ => W48 a0 a1 a2 v1 hk1,trivial⟩ ?_
 rcases bif_some h with ⟨hd2,h⟩ | ⟨hd2,h⟩
 ·refine Tri.f 2 [.g true] [.ownc 2 0 1102 26,.ownc 2 1 1103 3,.swap 1102 1000,.swap 1103 1001,.keep [2] [2,1000,1001]] rfl ⟨hd2,trivial⟩ ?_
  cases h
  exact Tri.ret rfl ⟨.inl rfl,rfl,rfl⟩
 ·refine Tri.f 3 [.g false] [.ownc 3 0 1104 26,.ownc 3 1 1105 3,.keep [1,2,3,21,22,23] [1,2,3,1100,1101,1104,1105]] rfl ⟨hd2,trivial⟩ ?_
  obtain ⟨x5,hk41,h⟩ := bind_some h
  refine Tri.loop (K1 := [.code [(3,0),(1,0),(0,0)] 0]) (K2 := [.blk 0,.code [] 4]) (fun (v2,v3,v4) => ⟨[(1,.ptr 1 0),(2,.ptr 2 0),(3,.ptr 3 0),(21,.list (.intss a0)),(22,.i (a0.length : Int)),(23,.i v2)],[(1,.box [.list (.intss a0),.list (.ints a1),.list (.rats a2)]),(2,.box [.sl 1100 0,.sl 1101 0,.i 0]),(3,.box [.sl 1104 0,.sl 1105 0,.i (a2.length : Int)]),(1100,.arr 26 0 0 (.ratss [])),(1101,.arr 3 0 0 (.ints [])),(1104,.arr 26 0 0 (.ratss v3)),(1105,.arr 3 0 0 (.ints v4))]⟩) (fun x e σ' => match x with | (v33,v34) => e = .exit 0 ∧ σ' = ⟨[(2,.ptr 2 0),(3,.ptr 3 0)],[(2,.box [.sl 1100 0,.sl 1101 0,.i 0]),(3,.box [.sl 1104 0,.sl 1105 0,.i (a2.length : Int)]),(1100,.arr 26 0 0 (.ratss [])),(1101,.arr 3 0 0 (.ints [])),(1104,.arr 26 0 0 (.ratss v33)),(1105,.arr 3 0 0 (.ints v34))]⟩) hk41 rfl rfl ?_ ?_
  ·intro s x hs
   clear h
   have h := hs
   clear hs
   obtain ⟨v2,v3,v4⟩ := s
   refine Tri.f 1 [] [.keep [1,2,3,21,22,23,24] [1,2,3,1100,1101,1104,1105]] rfl trivial ?_
   rcases bif_some h with ⟨hd3,h⟩ | ⟨hd3,h⟩
   ·obtain ⟨hg4,h⟩ := grd_some h
    refine Tri.f 3 [.g true] [.keep [1,2,3,4,5,6,21,22,23] [1,2,3,1100,1101,1104,1105]] rfl ⟨hg4,hd3,trivial⟩ ?_
    obtain ⟨hg5,h⟩ := grd_some h
    refine Tri.f 1 [] [.keep [1,2,3,4,5,6,21,22,23,33] [1,2,3,1100,1101,1104,1105]] rfl ⟨hg5,trivial⟩ ?_
    rcases bif_some h with ⟨hd6,h⟩ | ⟨hd6,h⟩
    ·refine Tri.f 3 [.g true] [.keep [1,2,3,4,5,6,7,21,22,23] [1,2,3,34,1100,1101,1104,1105]] rfl ⟨hd6,trivial⟩ ?_
     refine Tri.f 1 [] [.keep [1,2,3,4,6,7,21,22,23,35,36,37] [1,2,3,34,1100,1101,1104,1105]] rfl trivial ?_
     obtain ⟨v9,hk11,h⟩ := bind_some h
     refine Tri.loop (K1 := [.code [(3,0),(1,0),(0,0),(2,0),(0,0),(4,0),(1,0),(0,0)] 0]) (K2 := [.blk 2,.code [(3,0),(1,0),(0,0),(2,0),(0,0)] 5,.blk 1,.code [(3,0),(1,0),(0,0)] 3]) (fun (v5,v6) => ⟨[(1,.ptr 1 0),(2,.ptr 2 0),(3,.ptr 3 0),(4,.i v2),(6,.i (-1 : Int)),(7,.sl 34 0),(21,.list (.intss a0)),(22,.i (a0.length : Int)),(23,.i v2),(35,.list (.ints (a0.getD v2.toNat []))),(36,.i ((a0.getD v2.toNat []).length : Int)),(37,.i v5)],[(1,.box [.list (.intss a0),.list (.ints a1),.list (.rats a2)]),(2,.box [.sl 1100 0,.sl 1101 0,.i 0]),(3,.box [.sl 1104 0,.sl 1105 0,.i (a2.length : Int)]),(34,.arr 31 0 0 (.rats v6)),(1100,.arr 26 0 0 (.ratss [])),(1101,.arr 3 0 0 (.ints [])),(1104,.arr 26 0 0 (.ratss v3)),(1105,.arr 3 0 0 (.ints v4))]⟩) (fun x e σ' => match x with | v9 => e = .exit 2 ∧ σ' = ⟨[(1,.ptr 1 0),(2,.ptr 2 0),(3,.ptr 3 0),(4,.i v2),(6,.i (-1 : Int)),(7,.sl 34 0),(21,.list (.intss a0)),(22,.i (a0.length : Int)),(23,.i v2)],[(1,.box [.list (.intss a0),.list (.ints a1),.list (.rats a2)]),(2,.box [.sl 1100 0,.sl 1101 0,.i 0]),(3,.box [.sl 1104 0,.sl 1105 0,.i (a2.length : Int)]),(34,.arr 31 0 0 (.rats v9)),(1100,.arr 26 0 0 (.ratss [])),(1101,.arr 3 0 0 (.ints [])),(1104,.arr 26 0 0 (.ratss v3)),(1105,.arr 3 0 0 (.ints v4))]⟩) hk11 rfl rfl ?_ ?_
     ·intro s x hs
      clear h
      have h := hs
      clear hs
      obtain ⟨v5,v6⟩ := s
      refine Tri.f 1 [] [.keep [1,2,3,4,6,7,21,22,23,35,36,37,38] [1,2,3,34,1100,1101,1104,1105]] rfl trivial ?_
      rcases bif_some h with ⟨hd7,h⟩ | ⟨hd7,h⟩
      ·obtain ⟨hg8,h⟩ := grd_some h
       refine Tri.f 2 [.g true] [.keep [1,2,3,4,6,7,9,21,22,23,35,36,37] [1,2,3,34,1100,1101,1104,1105]] rfl ⟨hg8,hd7,trivial⟩ ?_
       obtain ⟨⟨v7,v8⟩,hk9,h⟩ := bind_some h
       obtain ⟨hg10,h⟩ := grd_some h
       refine Tri.f 2 [.v (.agg [.i v7,.i v8])] [.rever 34,.keep [1,2,3,4,6,7,21,22,23,35,36,37] [1,2,3,34,1100,1101,1104,1105]] rfl ⟨hg10,fun _ => W36 (IntKind.i64.wrap ((-1 : Int) * ((a0.getD v2.toNat []).getD v5.toNat 0))) (v7,v8) hk9,trivial⟩ ?_
       cases h
       exact Tri.nil ⟨rfl,rfl⟩
      ·refine Tri.f 1 [.g false] [.keep [1,2,3,4,6,7,21,22,23] [1,2,3,34,1100,1101,1104,1105]] rfl ⟨hd7,trivial⟩ ?_
       cases h
       exact Tri.out 2 rfl ⟨nofun,rfl,rfl⟩
     ·intro e σ' hne hq
      obtain ⟨rfl,rfl⟩ := hq
      refine TriX.exit (K' := [.code [(3,0),(1,0),(0,0),(2,0),(0,0)] 5,.blk 1,.code [(3,0),(1,0),(0,0)] 3]) rfl ?_
      refine Tri.f 1 [] [.keep [1,2,3,4,6,7,21,22,23,51,52] [1,2,3,34,1100,1101,1104,1105]] rfl trivial ?_
      obtain ⟨v16,hk18,h⟩ := bind_some h
      refine Tri.loop (K1 := [.code [(3,0),(1,0),(0,0),(2,0),(0,0),(5,0),(1,0),(0,0)] 0]) (K2 := [.blk 4,.code [(3,0),(1,0),(0,0),(2,0),(0,0)] 6,.blk 1,.code [(3,0),(1,0),(0,0)] 3]) (fun (v10,v11) => ⟨[(1,.ptr 1 0),(2,.ptr 2 0),(3,.ptr 3 0),(4,.i v2),(6,.i (-1 : Int)),(7,.sl 34 0),(21,.list (.intss a0)),(22,.i (a0.length : Int)),(23,.i v2),(51,.i (a0.length : Int)),(52,.i v10)],[(1,.box [.list (.intss a0),.list (.ints a1),.list (.rats a2)]),(2,.box [.sl 1100 0,.sl 1101 0,.i 0]),(3,.box [.sl 1104 0,.sl 1105 0,.i (a2.length : Int)]),(34,.arr 31 0 0 (.rats v11)),(1100,.arr 26 0 0 (.ratss [])),(1101,.arr 3 0 0 (.ints [])),(1104,.arr 26 0 0 (.ratss v3)),(1105,.arr 3 0 0 (.ints v4))]⟩) (fun x e σ' => match x with | v16 => e = .exit 4 ∧ σ' = ⟨[(1,.ptr 1 0),(2,.ptr 2 0),(3,.ptr 3 0),(4,.i v2),(6,.i (-1 : Int)),(7,.sl 34 0),(21,.list (.intss a0)),(22,.i (a0.length : Int)),(23,.i v2)],[(1,.box [.list (.intss a0),.list (.ints a1),.list (.rats a2)]),(2,.box [.sl 1100 0,.sl 1101 0,.i 0]),(3,.box [.sl 1104 0,.sl 1105 0,.i (a2.length : Int)]),(34,.arr 31 0 0 (.rats v16)),(1100,.arr 26 0 0 (.ratss [])),(1101,.arr 3 0 0 (.ints [])),(1104,.arr 26 0 0 (.ratss v3)),(1105,.arr 3 0 0 (.ints v4))]⟩) hk18 rfl rfl ?_ ?_
      ·intro s x hs
       clear h
       have h := hs
       clear hs
       obtain ⟨v10,v11⟩ := s
       refine Tri.f 1 [] [.keep [1,2,3,4,6,7,21,22,23,51,52,53] [1,2,3,34,1100,1101,1104,1105]] rfl trivial ?_
       rcases bif_some h with ⟨hd12,h⟩ | ⟨hd12,h⟩
       ·refine Tri.f 3 [.g true] [.keep [1,2,3,4,6,7,10,11,21,22,23,51,52] [1,2,3,34,1100,1101,1104,1105]] rfl ⟨hd12,trivial⟩ ?_
        refine Tri.f 1 [] [.keep [1,2,3,4,6,7,11,21,22,23,51,52,57] [1,2,3,34,1100,1101,1104,1105]] rfl trivial ?_
        rcases bif_some h with ⟨hd13,h⟩ | ⟨hd13,h⟩
        ·refine Tri.f 2 [.g true] [.keep [1,2,3,4,6,7,11,21,22,23,51,52] [1,2,3,34,1100,1101,1104,1105]] rfl ⟨hd13,trivial⟩ ?_
         obtain ⟨⟨v12,v13⟩,hk14,h⟩ := bind_some h
         obtain ⟨hg15,h⟩ := grd_some h
         refine Tri.f 2 [.v (.agg [.i v12,.i v13])] [.rever 34,.keep [1,2,3,4,6,7,21,22,23,51,52] [1,2,3,34,1100,1101,1104,1105]] rfl ⟨hg15,fun _ => W36 (1 : Int) (v12,v13) hk14,trivial⟩ ?_
         cases h
         exact Tri.nil ⟨rfl,rfl⟩
        ·obtain ⟨⟨v14,v15⟩,hk16,h⟩ := bind_some h
         obtain ⟨hg17,h⟩ := grd_some h
         refine Tri.f 3 [.g false,.v (.agg [.i v14,.i v15])] [.rever 34,.keep [1,2,3,4,6,7,21,22,23,51,52] [1,2,3,34,1100,1101,1104,1105]] rfl ⟨hg17,fun _ => W36 (0 : Int) (v14,v15) hk16,hd13,trivial⟩ ?_
         cases h
         exact Tri.nil ⟨rfl,rfl⟩
       ·refine Tri.f 1 [.g false] [.keep [1,2,3,4,6,7,21,22,23] [1,2,3,34,1100,1101,1104,1105]] rfl ⟨hd12,trivial⟩ ?_
        cases h
        exact Tri.out 4 rfl ⟨nofun,rfl,rfl⟩
      ·intro e σ' hne hq
       obtain ⟨rfl,rfl⟩ := hq
       refine TriX.exit (K' := [.code [(3,0),(1,0),(0,0),(2,0),(0,0)] 6,.blk 1,.code [(3,0),(1,0),(0,0)] 3]) rfl ?_
       obtain ⟨hg19,h⟩ := grd_some h
       obtain ⟨⟨v17,v18⟩,hk20,h⟩ := bind_some h
       obtain ⟨hg21,h⟩ := grd_some h
       obtain ⟨hg22,h⟩ := grd_some h
       obtain ⟨hg23,h⟩ := grd_some h
       refine Tri.f 3 [.v (.agg [.i v17,.i v18])] [.rever 1104,.rever 1105,.keep [1,2,3,21,22,23] [1,2,3,1100,1101,1104,1105]] rfl ⟨hg23,hg22,hg21,fun _ => W36 (IntKind.i64.wrap ((-1 : Int) * (a1.getD v2.toNat 0))) (v17,v18) hk20,hg19,trivial⟩ ?_
       cases h
       exact Tri.nil ⟨rfl,rfl⟩
    ·refine Tri.f 3 [.g false] [.keep [1,2,3,4,6,7,21,22,23,35,36,37] [1,2,3,34,1100,1101,1104,1105]] rfl ⟨hd6,trivial⟩ ?_
     obtain ⟨v23,hk28,h⟩ := bind_some h
     refine Tri.loop (K1 := [.code [(3,0),(1,0),(0,0),(2,0),(0,0),(4,0),(1,0),(0,0)] 0]) (K2 := [.blk 2,.code [(3,0),(1,0),(0,0),(2,0),(0,0)] 5,.blk 1,.code [(3,0),(1,0),(0,0)] 3]) (fun (v19,v20) => ⟨[(1,.ptr 1 0),(2,.ptr 2 0),(3,.ptr 3 0),(4,.i v2),(6,.i (1 : Int)),(7,.sl 34 0),(21,.list (.intss a0)),(22,.i (a0.length : Int)),(23,.i v2),(35,.list (.ints (a0.getD v2.toNat []))),(36,.i ((a0.getD v2.toNat []).length : Int)),(37,.i v19)],[(1,.box [.list (.intss a0),.list (.ints a1),.list (.rats a2)]),(2,.box [.sl 1100 0,.sl 1101 0,.i 0]),(3,.box [.sl 1104 0,.sl 1105 0,.i (a2.length : Int)]),(34,.arr 31 0 0 (.rats v20)),(1100,.arr 26 0 0 (.ratss [])),(1101,.arr 3 0 0 (.ints [])),(1104,.arr 26 0 0 (.ratss v3)),(1105,.arr 3 0 0 (.ints v4))]⟩) (fun x e σ' => match x with | v23 => e = .exit 2 ∧ σ' = ⟨[(1,.ptr 1 0),(2,.ptr 2 0),(3,.ptr 3 0),(4,.i v2),(6,.i (1 : Int)),(7,.sl 34 0),(21,.list (.intss a0)),(22,.i (a0.length : Int)),(23,.i v2)],[(1,.box [.list (.intss a0),.list (.ints a1),.list (.rats a2)]),(2,.box [.sl 1100 0,.sl 1101 0,.i 0]),(3,.box [.sl 1104 0,.sl 1105 0,.i (a2.length : Int)]),(34,.arr 31 0 0 (.rats v23)),(1100,.arr 26 0 0 (.ratss [])),(1101,.arr 3 0 0 (.ints [])),(1104,.arr 26 0 0 (.ratss v3)),(1105,.arr 3 0 0 (.ints v4))]⟩) hk28 rfl rfl ?_ ?_
     ·intro s x hs
      clear h
      have h := hs
      clear hs
      obtain ⟨v19,v20⟩ := s
      refine Tri.f 1 [] [.keep [1,2,3,4,6,7,21,22,23,35,36,37,38] [1,2,3,34,1100,1101,1104,1105]] rfl trivial ?_
      rcases bif_some h with ⟨hd24,h⟩ | ⟨hd24,h⟩
      ·obtain ⟨hg25,h⟩ := grd_some h
       refine Tri.f 2 [.g true] [.keep [1,2,3,4,6,7,9,21,22,23,35,36,37] [1,2,3,34,1100,1101,1104,1105]] rfl ⟨hg25,hd24,trivial⟩ ?_
       obtain ⟨⟨v21,v22⟩,hk26,h⟩ := bind_some h
       obtain ⟨hg27,h⟩ := grd_some h
       refine Tri.f 2 [.v (.agg [.i v21,.i v22])] [.rever 34,.keep [1,2,3,4,6,7,21,22,23,35,36,37] [1,2,3,34,1100,1101,1104,1105]] rfl ⟨hg27,fun _ => W36 (IntKind.i64.wrap ((1 : Int) * ((a0.getD v2.toNat []).getD v19.toNat 0))) (v21,v22) hk26,trivial⟩ ?_
       cases h
       exact Tri.nil ⟨rfl,rfl⟩
      ·refine Tri.f 1 [.g false] [.keep [1,2,3,4,6,7,21,22,23] [1,2,3,34,1100,1101,1104,1105]] rfl ⟨hd24,trivial⟩ ?_
       cases h
       exact Tri.out 2 rfl ⟨nofun,rfl,rfl⟩
     ·intro e σ' hne hq
      obtain ⟨rfl,rfl⟩ := hq
      refine TriX.exit (K' := [.code [(3,0),(1,0),(0,0),(2,0),(0,0)] 5,.blk 1,.code [(3,0),(1,0),(0,0)] 3]) rfl ?_
      refine Tri.f 1 [] [.keep [1,2,3,4,6,7,21,22,23,51,52] [1,2,3,34,1100,1101,1104,1105]] rfl trivial ?_
      obtain ⟨v30,hk35,h⟩ := bind_some h
      refine Tri.loop (K1 := [.code [(3,0),(1,0),(0,0),(2,0),(0,0),(5,0),(1,0),(0,0)] 0]) (K2 := [.blk 4,.code [(3,0),(1,0),(0,0),(2,0),(0,0)] 6,.blk 1,.code [(3,0),(1,0),(0,0)] 3]) (fun (v24,v25) => ⟨[(1,.ptr 1 0),(2,.ptr 2 0),(3,.ptr 3 0),(4,.i v2),(6,.i (1 : Int)),(7,.sl 34 0),(21,.list (.intss a0)),(22,.i (a0.length : Int)),(23,.i v2),(51,.i (a0.length : Int)),(52,.i v24)],[(1,.box [.list (.intss a0),.list (.ints a1),.list (.rats a2)]),(2,.box [.sl 1100 0,.sl 1101 0,.i 0]),(3,.box [.sl 1104 0,.sl 1105 0,.i (a2.length : Int)]),(34,.arr 31 0 0 (.rats v25)),(1100,.arr 26 0 0 (.ratss [])),(1101,.arr 3 0 0 (.ints [])),(1104,.arr 26 0 0 (.ratss v3)),(1105,.arr 3 0 0 (.ints v4))]⟩) (fun x e σ' => match x with | v30 => e = .exit 4 ∧ σ' = ⟨[(1,.ptr 1 0),(2,.ptr 2 0),(3,.ptr 3 0),(4,.i v2),(6,.i (1 : Int)),(7,.sl 34 0),(21,.list (.intss a0)),(22,.i (a0.length : Int)),(23,.i v2)],[(1,.box [.list (.intss a0),.list (.ints a1),.list (.rats a2)]),(2,.box [.sl 1100 0,.sl 1101 0,.i 0]),(3,.box [.sl 1104 0,.sl 1105 0,.i (a2.length : Int)]),(34,.arr 31 0 0 (.rats v30)),(1100,.arr 26 0 0 (.ratss [])),(1101,.arr 3 0 0 (.ints [])),(1104,.arr 26 0 0 (.ratss v3)),(1105,.arr 3 0 0 (.ints v4))]⟩) hk35 rfl rfl ?_ ?_
      ·intro s x hs
       clear h
       have h := hs
       clear hs
       obtain ⟨v24,v25⟩ := s
       refine Tri.f 1 [] [.keep [1,2,3,4,6,7,21,22,23,51,52,53] [1,2,3,34,1100,1101,1104,1105]] rfl trivial ?_
       rcases bif_some h with ⟨hd29,h⟩ | ⟨hd29,h⟩
       ·refine Tri.f 3 [.g true] [.keep [1,2,3,4,6,7,10,11,21,22,23,51,52] [1,2,3,34,1100,1101,1104,1105]] rfl ⟨hd29,trivial⟩ ?_
        refine Tri.f 1 [] [.keep [1,2,3,4,6,7,11,21,22,23,51,52,57] [1,2,3,34,1100,1101,1104,1105]] rfl trivial ?_
        rcases bif_some h with ⟨hd30,h⟩ | ⟨hd30,h⟩
        ·refine Tri.f 2 [.g true] [.keep [1,2,3,4,6,7,11,21,22,23,51,52] [1,2,3,34,1100,1101,1104,1105]] rfl ⟨hd30,trivial⟩ ?_
         obtain ⟨⟨v26,v27⟩,hk31,h⟩ := bind_some h
         obtain ⟨hg32,h⟩ := grd_some h
         refine Tri.f 2 [.v (.agg [.i v26,.i v27])] [.rever 34,.keep [1,2,3,4,6,7,21,22,23,51,52] [1,2,3,34,1100,1101,1104,1105]] rfl ⟨hg32,fun _ => W36 (1 : Int) (v26,v27) hk31,trivial⟩ ?_
         cases h
         exact Tri.nil ⟨rfl,rfl⟩
        ·obtain ⟨⟨v28,v29⟩,hk33,h⟩ := bind_some h
         obtain ⟨hg34,h⟩ := grd_some h
         refine Tri.f 3 [.g false,.v (.agg [.i v28,.i v29])] [.rever 34,.keep [1,2,3,4,6,7,21,22,23,51,52] [1,2,3,34,1100,1101,1104,1105]] rfl ⟨hg34,fun _ => W36 (0 : Int) (v28,v29) hk33,hd30,trivial⟩ ?_
         cases h
         exact Tri.nil ⟨rfl,rfl⟩
       ·refine Tri.f 1 [.g false] [.keep [1,2,3,4,6,7,21,22,23] [1,2,3,34,1100,1101,1104,1105]] rfl ⟨hd29,trivial⟩ ?_
        cases h
        exact Tri.out 4 rfl ⟨nofun,rfl,rfl⟩
      ·intro e σ' hne hq
       obtain ⟨rfl,rfl⟩ := hq
       refine TriX.exit (K' := [.code [(3,0),(1,0),(0,0),(2,0),(0,0)] 6,.blk 1,.code [(3,0),(1,0),(0,0)] 3]) rfl ?_
       obtain ⟨hg36,h⟩ := grd_some h
       obtain ⟨⟨v31,v32⟩,hk37,h⟩ := bind_some h
       obtain ⟨hg38,h⟩ := grd_some h
       obtain ⟨hg39,h⟩ := grd_some h
       obtain ⟨hg40,h⟩ := grd_some h
       refine Tri.f 3 [.v (.agg [.i v31,.i v32])] [.rever 1104,.rever 1105,.keep [1,2,3,21,22,23] [1,2,3,1100,1101,1104,1105]] rfl ⟨hg40,hg39,hg38,fun _ => W36 (IntKind.i64.wrap ((1 : Int) * (a1.getD v2.toNat 0))) (v31,v32) hk37,hg36,trivial⟩ ?_
       cases h
       exact Tri.nil ⟨rfl,rfl⟩
   ·refine Tri.f 1 [.g false] [.keep [2,3] [2,3,1100,1101,1104,1105]] rfl ⟨hd3,trivial⟩ ?_
    cases h
    exact Tri.out 0 rfl ⟨nofun,rfl,rfl⟩
  ·intro e σ' hne hq
   obtain ⟨v33,v34⟩ := x5
   obtain ⟨rfl,rfl⟩ := hq
   refine TriX.exit (K' := [.code [] 4]) rfl ?_
   refine Tri.f 1 [] [.swap 1104 1000,.swap 1105 1001,.keep [2] [2,1000,1001]] rfl trivial ?_
   cases h
   exact Tri.ret rfl ⟨.inl rfl,rfl,rfl⟩
noncomputable def E333 : Env := ⟨Tryz.prog,tys,(Tryz.f169.body).getD .skip,24,tysOk,mixedOk⟩
abbrev K192 (r : Bool × (List Q)) (σ' : ASt) : Prop := isRes E333.T Tryz.f169 (.tuple [.sl 1000 0,.bool r.1]) [(1000,.arr 31 0 0 (.rats r.2))] σ'
noncomputable def l_impl_IntsToRats_0 (a0 : List Int) : (Int × (List Q)) → Option ((Int × (List Q)) ⊕ ((List Q) ⊕ ((Bool × (List Q)))))
 | (v1,v2) => (
bif decide (v1 < (a0.length : Int)) then
(grd (0 ≤ v1 ∧ v1 < (a0.length : Int)) <|
(m_impl_within (a0.getD v1.toNat 0) (-1000000000 : Int) (1000000000 : Int)).bind fun v3 =>
bif !v3 then
(some (.inr (.inr (false,[]))))
else
((m_impl_whole (a0.getD v1.toNat 0)).bind fun (v4,v5) =>
grd (v2.length + ([⟨v4,v5⟩] : List Q).length ≤ room) <|
some (.inl (IntKind.i64.wrap (v1 + 1),v2 ++ [⟨v4,v5⟩]))))
else
(some (.inr (.inl v2))))
noncomputable def m_impl_IntsToRats (a0 : List Int) : Option (Bool × (List Q)) :=
(iter (l_impl_IntsToRats_0 a0) ((0 : Int),[])).bind fun
| (.inl v6) => (
some (true,v6))
| (.inr r) => some r
theorem W50 (a0 : List Int) (r : Bool × (List Q)) (h : m_impl_IntsToRats a0 = some r) : AM.Spec Tryz.prog 169 [.list (.ints a0)] [] (.tuple [.sl 1000 0,.bool r.1]) [(1000,.arr 31 0 0 (.rats r.2))] := by
 refine spec_of (E := E333) Tryz.func169 rfl rfl rfl rfl ?_
 refine Tri.f 3 [] [.keep [4,8,9,10] [7]] rfl trivial ?_
 obtain ⟨x1,hk7,h⟩ := bind_some h
 refine Tri.loop (K1 := [.code [(2,0),(1,0),(0,0)] 0]) (K2 := [.blk 0,.code [] 3]) (fun (v1,v2) => ⟨[(4,.sl 7 0),(8,.list (.ints a0)),(9,.i (a0.length : Int)),(10,.i v1)],[(7,.arr 31 0 0 (.rats v2))]⟩) (fun x e σ' => match x with | (.inl v6) => e = .exit 0 ∧ σ' = ⟨[(4,.sl 7 0)],[(7,.arr 31 0 0 (.rats v6))]⟩ | (.inr r) => e = .ret ∧ K192 r σ') hk7 rfl rfl ?_ ?_
 ·intro s x hs
  clear h
  have h := hs
  clear hs
  obtain ⟨v1,v2⟩ := s
  refine Tri.f 1 [] [.keep [4,8,9,10,11] [7]] rfl trivial ?_
  rcases bif_some h with ⟨hd1,h⟩ | ⟨hd1,h⟩
  ·obtain ⟨hg2,h⟩ := grd_some h
   refine Tri.f 2 [.g true] [.keep [4,6,8,9,10] [7]] rfl ⟨hg2,hd1,trivial⟩ ?_
   obtain ⟨v3,hk3,h⟩ := bind_some h
   refine Tri.f 1 [.v (.bool v3)] [.keep [4,6,8,9,10,16] [7]] rfl ⟨fun _ => W27 (a0.getD v1.toNat 0) (-1000000000 : Int) (1000000000 : Int) v3 hk3,trivial⟩ ?_
   rcases bif_some h with ⟨hd4,h⟩ | ⟨hd4,h⟩
   ·refine Tri.f 2 [.g true] [.own 2 [] 1100 31,.swap 1100 1000,.keep [2,3] [1000]] rfl ⟨hd4,trivial⟩ ?_
    cases h
    exact Tri.ret rfl ⟨nofun,rfl,rfl,rfl⟩
   ·obtain ⟨⟨v4,v5⟩,hk5,h⟩ := bind_some h
    obtain ⟨hg6,h⟩ := grd_some h
    refine Tri.f 3 [.g false,.v (.agg [.i v4,.i v5])] [.rever 7,.keep [4,8,9,10] [7]] rfl ⟨hg6,fun _ => W36 (a0.getD v1.toNat 0) (v4,v5) hk5,hd4,trivial⟩ ?_
    cases h
    exact Tri.nil ⟨rfl,rfl⟩
  ·refine Tri.f 1 [.g false] [.keep [4] [7]] rfl ⟨hd1,trivial⟩ ?_
   cases h
   exact Tri.out 0 rfl ⟨nofun,rfl,rfl⟩
 ·intro e σ' hne hq
  rcases x1 with v6 | r
  ·obtain ⟨rfl,rfl⟩ := hq
   refine TriX.exit (K' := [.code [] 3]) rfl ?_
   refine Tri.f 1 [] [.swap 7 1000,.keep [2,3] [1000]] rfl trivial ?_
   cases h
   exact Tri.ret rfl ⟨.inl rfl,rfl,rfl⟩
  ·obtain ⟨rfl,hq⟩ := hq
   cases h
   exact TriX.ret ⟨.inl rfl,hq⟩
noncomputable def E334 : Env := ⟨Tryz.prog,tys,(Tryz.f89.body).getD .skip,11,tysOk,mixedOk⟩
abbrev K193 (r : List Q) (σ' : ASt) : Prop := isRes E334.T Tryz.f89 (.sl 1000 0) [(1000,.arr 31 0 0 (.rats r))] σ'
noncomputable def m_impl_rats (a0 : List Int) : Option (List Q) :=
(m_impl_IntsToRats a0).bind fun (_,v2) =>
some v2
theorem W51 (a0 : List Int) (r : List Q) (h : m_impl_rats a0 = some r) : AM.Spec Tryz.prog 89 [.list (.ints a0)] [] (.sl 1000 0) [(1000,.arr 31 0 0 (.rats r))] := by
 refine spec_of (E := E334) Tryz.func89 rfl rfl rfl rfl ?_
 refine Tri.f 1 [] [.keep [0] []] rfl trivial ?_
 obtain ⟨⟨v1,v2⟩,hk1,h⟩ := bind_some h
 refine Tri.f 2 [.r ⟨[],.tuple [.sl 1100 0,.bool v1],[(1100,.arr 31 0 0 (.rats v2))]⟩] [.swap 1100 1000,.keep [2] [1000]] rfl ⟨fun _ => (W50 a0 (v1,v2) hk1).swap 1000 1100,trivial⟩ ?_
 cases h
 exact Tri.ret rfl ⟨.inl rfl,rfl,rfl⟩
noncomputable def E335 : Env := ⟨Tryz.prog,tys,(Tryz.f144.body).getD .skip,21,tysOk,mixedOk⟩
abbrev K194 (r : List Q) (σ' : ASt) : Prop := isRes E335.T Tryz.f144 (.sl 1000 0) [(1000,.arr 31 0 0 (.rats r))] σ'
noncomputable def l_impl_costsOf_0 (a1 a2 : Int) : (Int × (List Q)) → Option ((Int × (List Q)) ⊕ ((List Q)))
 | (v1,v2) => (
bif decide (v1 < a2) then
((m_impl_whole a1).bind fun (v3,v4) =>
grd (v2.length + ([⟨v3,v4⟩] : List Q).length ≤ room) <|
some (.inl (IntKind.i64.wrap (v1 + 1),v2 ++ [⟨v3,v4⟩])))
else
(some (.inr v2)))
noncomputable def m_impl_costsOf (a0 : List Q) (a1 a2 : Int) : Option (List Q) :=
grd (([] : List Q).length + a0.length ≤ room) <|
(iter (l_impl_costsOf_0 a1 a2) ((0 : Int),[] ++ a0)).bind fun
| v5 => (
some v5)
theorem W52 (a0 : List Q) (a1 a2 : Int) (r : List Q) (h : m_impl_costsOf a0 a1 a2 = some r) : AM.Spec Tryz.prog 144 [.list (.rats a0),.i a1,.i a2] [] (.sl 1000 0) [(1000,.arr 31 0 0 (.rats r))] := by
 refine spec_of (E := E335) Tryz.func144 rfl rfl rfl rfl ?_
 obtain ⟨hg1,h⟩ := grd_some h
 refine Tri.f 3 [] [.rever 8,.keep [1,7,11,12] [8]] rfl ⟨hg1,trivial⟩ ?_
 obtain ⟨v5,hk5,h⟩ := bind_some h
 refine Tri.loop (K1 := [.code [(2,0),(1,0),(0,0)] 0]) (K2 := [.blk 0,.code [] 3]) (fun (v1,v2) => ⟨[(1,.i a1),(7,.sl 8 0),(11,.i a2),(12,.i v1)],[(8,.arr 31 0 0 (.rats v2))]⟩) (fun x e σ' => match x with | v5 => e = .exit 0 ∧ σ' = ⟨[(7,.sl 8 0)],[(8,.arr 31 0 0 (.rats v5))]⟩) hk5 rfl rfl ?_ ?_
 ·intro s x hs
  clear h
  have h := hs
  clear hs
  obtain ⟨v1,v2⟩ := s
  refine Tri.f 1 [] [.keep [1,7,11,12,13] [8]] rfl trivial ?_
  rcases bif_some h with ⟨hd2,h⟩ | ⟨hd2,h⟩
  ·obtain ⟨⟨v3,v4⟩,hk3,h⟩ := bind_some h
   obtain ⟨hg4,h⟩ := grd_some h
   refine Tri.f 3 [.g true,.v (.agg [.i v3,.i v4])] [.rever 8,.keep [1,7,11,12] [8]] rfl ⟨hg4,fun _ => W36 a1 (v3,v4) hk3,hd2,trivial⟩ ?_
   cases h
   exact Tri.nil ⟨rfl,rfl⟩
  ·refine Tri.f 1 [.g false] [.keep [7] [8]] rfl ⟨hd2,trivial⟩ ?_
   cases h
   exact Tri.out 0 rfl ⟨nofun,rfl,rfl⟩
 ·intro e σ' hne hq
  obtain ⟨rfl,rfl⟩ := hq
  refine TriX.exit (K' := [.code [] 3]) rfl ?_
  refine Tri.f 1 [] [.swap 8 1000,.keep [6] [1000]] rfl trivial ?_
  cases h
  exact Tri.ret rfl ⟨.inl rfl,rfl,rfl⟩
noncomputable def E336 : Env := ⟨Tryz.prog,tys,(Tryz.f162.body).getD .skip,13,tysOk,mixedOk⟩
abbrev K195 (r : Bool) (σ' : ASt) : Prop := isRes E336.T Tryz.f162 (.bool r) [] σ'
noncomputable def m_impl_formed_1 (a0 : Int) (_a1 : List (List Q)) (_a2 : List Int) (a3 a4 : Int) : Option Bool :=
(m_impl_within a0 (0 : Int) (IntKind.i64.wrap ((IntKind.i64.wrap (a3 + a4)) - 1))).bind fun v1 =>
some (!v1)
theorem W53 (a0 : Int) (a1 : List (List Q)) (a2 : List Int) (a3 a4 : Int) (r : Bool) (h : m_impl_formed_1 a0 a1 a2 a3 a4 = some r) : AM.Spec Tryz.prog 162 [.i a0,.pbox [.list (.ratss a1),.list (.ints a2),.i a3] 0,.pbox [.i a4] 0] [] (.bool r) [] := by
 refine spec_of (E := E336) Tryz.func162 rfl rfl rfl rfl ?_
 refine Tri.f 1 [] [.keep [0,1,2] []] rfl trivial ?_
 obtain ⟨v1,hk1,h⟩ := bind_some h
 refine Tri.f 1 [.v (.bool v1)] [.keep [4] []] rfl ⟨fun _ => W27 a0 (0 : Int) (IntKind.i64.wrap ((IntKind.i64.wrap (a3 + a4)) - 1)) v1 hk1,trivial⟩ ?_
 cases h
 exact Tri.ret rfl ⟨.inl rfl,rfl,rfl⟩
abbrev K196 (r : Int) (σ' : ASt) : Prop := isRes E314.T Tryz.f157 (.i r) [] σ'
noncomputable def l_slices_IndexFunc_int_int_impl_formed_1_0 (a0 : List Int) (a1 : List (List Q)) (a2 : List Int) (a3 a4 v1 : Int) : Option (Int ⊕ (Unit ⊕ Int)) :=
bif decide (v1 < (a0.length : Int)) then
(grd (0 ≤ v1 ∧ v1 < (a0.length : Int)) <|
(m_impl_formed_1 (a0.getD v1.toNat 0) a1 a2 a3 a4).bind fun v2 =>
bif v2 then
(some (.inr (.inr v1)))
else
(some (.inl (IntKind.i64.wrap (v1 + 1)))))
else
(some (.inr (.inl ())))
noncomputable def m_slices_IndexFunc_int_int_impl_formed_1 (a0 : List Int) (a1 : List (List Q)) (a2 : List Int) (a3 a4 : Int) : Option Int :=
(iter (l_slices_IndexFunc_int_int_impl_formed_1_0 a0 a1 a2 a3 a4) (0 : Int)).bind fun
| (.inl _) => (
some (-1 : Int))
| (.inr r) => some r
theorem W54 (a0 : List Int) (a1 : List (List Q)) (a2 : List Int) (a3 a4 r : Int) (h : m_slices_IndexFunc_int_int_impl_formed_1 a0 a1 a2 a3 a4 = some r) : AM.Spec Tryz.prog 157 [.list (.ints a0),.func 162 [] [.pbox [.list (.ratss a1),.list (.ints a2),.i a3] 0,.pbox [.i a4] 0]] [] (.i r) [] := by
 refine spec_of (E := E314) Tryz.func157 rfl rfl rfl rfl ?_
 refine Tri.f 2 [] [.keep [0,1,7,8] []] rfl trivial ?_
 obtain ⟨x1,hk5,h⟩ := bind_some h
 refine Tri.loop (K1 := [.code [(1,0),(1,0),(0,0)] 0]) (K2 := [.blk 0,.code [] 2]) (fun v1 => ⟨[(0,.list (.ints a0)),(1,.func 162 [] [.pbox [.list (.ratss a1),.list (.ints a2),.i a3] 0,.pbox [.i a4] 0]),(7,.i (a0.length : Int)),(8,.i v1)],[]⟩) (fun x e σ' => match x with | (.inl _) => e = .exit 0 ∧ σ' = ⟨[],[]⟩ | (.inr r) => e = .ret ∧ K196 r σ') hk5 rfl rfl ?_ ?_
 ·intro v1 x hs
  clear h
  have h := hs
  clear hs
  refine Tri.f 1 [] [.keep [0,1,7,8,9] []] rfl trivial ?_
  rcases bif_some h with ⟨hd1,h⟩ | ⟨hd1,h⟩
  ·refine Tri.f 2 [.g true] [.keep [0,1,5,7,8] []] rfl ⟨hd1,trivial⟩ ?_
   obtain ⟨hg2,h⟩ := grd_some h
   obtain ⟨v2,hk3,h⟩ := bind_some h
   refine Tri.f 1 [.v (.bool v2)] [.keep [0,1,5,7,8,16] []] rfl ⟨fun _ => W53 (a0.getD v1.toNat 0) a1 a2 a3 a4 v2 hk3,hg2,trivial⟩ ?_
   rcases bif_some h with ⟨hd4,h⟩ | ⟨hd4,h⟩
   ·refine Tri.f 2 [.g true] [.keep [4] []] rfl ⟨hd4,trivial⟩ ?_
    cases h
    exact Tri.ret rfl ⟨nofun,rfl,rfl,rfl⟩
   ·refine Tri.f 2 [.g false] [.keep [0,1,7,8] []] rfl ⟨hd4,trivial⟩ ?_
    cases h
    exact Tri.nil ⟨rfl,rfl⟩
  ·refine Tri.f 1 [.g false] [.keep [] []] rfl ⟨hd1,trivial⟩ ?_
   cases h
   exact Tri.out 0 rfl ⟨nofun,rfl,rfl⟩
 ·intro e σ' hne hq
  rcases x1 with _ | r
  ·obtain ⟨rfl,rfl⟩ := hq
   refine TriX.exit (K' := [.code [] 2]) rfl ?_
   refine Tri.f 1 [] [.keep [4] []] rfl trivial ?_
   cases h
   exact Tri.ret rfl ⟨.inl rfl,rfl,rfl⟩
  ·obtain ⟨rfl,hq⟩ := hq
   cases h
   exact TriX.ret ⟨.inl rfl,hq⟩
abbrev K197 (r : Bool) (σ' : ASt) : Prop := isRes E315.T Tryz.f73 (.bool r) [] σ'
noncomputable def m_slices_ContainsFunc_int_int_impl_formed_1 (a0 : List Int) (a1 : List (List Q)) (a2 : List Int) (a3 a4 : Int) : Option Bool :=
(m_slices_IndexFunc_int_int_impl_formed_1 a0 a1 a2 a3 a4).bind fun v1 =>
some (decide (v1 ≥ 0))
theorem W55 (a0 : List Int) (a1 : List (List Q)) (a2 : List Int) (a3 a4 : Int) (r : Bool) (h : m_slices_ContainsFunc_int_int_impl_formed_1 a0 a1 a2 a3 a4 = some r) : AM.Spec Tryz.prog 73 [.list (.ints a0),.func 162 [] [.pbox [.list (.ratss a1),.list (.ints a2),.i a3] 0,.pbox [.i a4] 0]] [] (.bool r) [] := by
 refine spec_of (E := E315) Tryz.func73 rfl rfl rfl rfl ?_
 refine Tri.f 1 [] [.keep [0,1] []] rfl trivial ?_
 obtain ⟨v1,hk1,h⟩ := bind_some h
 refine Tri.f 1 [.v (.i v1)] [.keep [4] []] rfl ⟨fun _ => W54 a0 a1 a2 a3 a4 v1 hk1,trivial⟩ ?_
 cases h
 exact Tri.ret rfl ⟨.inl rfl,rfl,rfl⟩
noncomputable def E337 : Env := ⟨Tryz.prog,tys,(Tryz.f164.body).getD .skip,13,tysOk,mixedOk⟩
abbrev K198 (r : Bool) (σ' : ASt) : Prop := isRes E337.T Tryz.f164 (.bool r) [] σ'
noncomputable def m_impl_formed_2 (a0 : List Q) (_a1 : List (List Q)) (_a2 : List Int) (a3 a4 : Int) : Option Bool :=
some ((a0.length : Int) != (IntKind.i64.wrap ((IntKind.i64.wrap (a3 + a4)) + 1)))
theorem W56 (a0 : List Q) (a1 : List (List Q)) (a2 : List Int) (a3 a4 : Int) (r : Bool) (h : m_impl_formed_2 a0 a1 a2 a3 a4 = some r) : AM.Spec Tryz.prog 164 [.list (.rats a0),.pbox [.list (.ratss a1),.list (.ints a2),.i a3] 0,.pbox [.i a4] 0] [] (.bool r) [] := by
 refine spec_of (E := E337) Tryz.func164 rfl rfl rfl rfl ?_
 refine Tri.f 2 [] [.keep [4] []] rfl trivial ?_
 cases h
 exact Tri.ret rfl ⟨.inl rfl,rfl,rfl⟩
noncomputable def E338 : Env := ⟨Tryz.prog,tys,(Tryz.f194.body).getD .skip,19,tysOk,mixedOk⟩
abbrev K199 (r : Int) (σ' : ASt) : Prop := isRes E338.T Tryz.f194 (.i r) [] σ'
noncomputable def l_slices_IndexFunc_impl_Rat_impl_Rat_impl_formed_2_0 (a0 a1 : List (List Q)) (a2 : List Int) (a3 a4 v1 : Int) : Option (Int ⊕ (Unit ⊕ Int)) :=
bif decide (v1 < (a0.length : Int)) then
(grd (0 ≤ v1 ∧ v1 < (a0.length : Int)) <|
(m_impl_formed_2 (a0.getD v1.toNat []) a1 a2 a3 a4).bind fun v2 =>
bif v2 then
(some (.inr (.inr v1)))
else
(some (.inl (IntKind.i64.wrap (v1 + 1)))))
else
(some (.inr (.inl ())))
noncomputable def m_slices_IndexFunc_impl_Rat_impl_Rat_impl_formed_2 (a0 a1 : List (List Q)) (a2 : List Int) (a3 a4 : Int) : Option Int :=
(iter (l_slices_IndexFunc_impl_Rat_impl_Rat_impl_formed_2_0 a0 a1 a2 a3 a4) (0 : Int)).bind fun
| (.inl _) => (
some (-1 : Int))
| (.inr r) => some r
theorem W57 (a0 a1 : List (List Q)) (a2 : List Int) (a3 a4 r : Int) (h : m_slices_IndexFunc_impl_Rat_impl_Rat_impl_formed_2 a0 a1 a2 a3 a4 = some r) : AM.Spec Tryz.prog 194 [.list (.ratss a0),.func 164 [] [.pbox [.list (.ratss a1),.list (.ints a2),.i a3] 0,.pbox [.i a4] 0]] [] (.i r) [] := by
 refine spec_of (E := E338) Tryz.func194 rfl rfl rfl rfl ?_
 refine Tri.f 2 [] [.keep [0,1,7,8] []] rfl trivial ?_
 obtain ⟨x1,hk5,h⟩ := bind_some h
 refine Tri.loop (K1 := [.code [(1,0),(1,0),(0,0)] 0]) (K2 := [.blk 0,.code [] 2]) (fun v1 => ⟨[(0,.list (.ratss a0)),(1,.func 164 [] [.pbox [.list (.ratss a1),.list (.ints a2),.i a3] 0,.pbox [.i a4] 0]),(7,.i (a0.length : Int)),(8,.i v1)],[]⟩) (fun x e σ' => match x with | (.inl _) => e = .exit 0 ∧ σ' = ⟨[],[]⟩ | (.inr r) => e = .ret ∧ K199 r σ') hk5 rfl rfl ?_ ?_
 ·intro v1 x hs
  clear h
  have h := hs
  clear hs
  refine Tri.f 1 [] [.keep [0,1,7,8,9] []] rfl trivial ?_
  rcases bif_some h with ⟨hd1,h⟩ | ⟨hd1,h⟩
  ·refine Tri.f 2 [.g true] [.keep [0,1,5,7,8] []] rfl ⟨hd1,trivial⟩ ?_
   obtain ⟨hg2,h⟩ := grd_some h
   obtain ⟨v2,hk3,h⟩ := bind_some h
   refine Tri.f 1 [.v (.bool v2)] [.keep [0,1,5,7,8,16] []] rfl ⟨fun _ => W56 (a0.getD v1.toNat []) a1 a2 a3 a4 v2 hk3,hg2,trivial⟩ ?_
   rcases bif_some h with ⟨hd4,h⟩ | ⟨hd4,h⟩
   ·refine Tri.f 2 [.g true] [.keep [4] []] rfl ⟨hd4,trivial⟩ ?_
    cases h
    exact Tri.ret rfl ⟨nofun,rfl,rfl,rfl⟩
   ·refine Tri.f 2 [.g false] [.keep [0,1,7,8] []] rfl ⟨hd4,trivial⟩ ?_
    cases h
    exact Tri.nil ⟨rfl,rfl⟩
  ·refine Tri.f 1 [.g false] [.keep [] []] rfl ⟨hd1,trivial⟩ ?_
   cases h
   exact Tri.out 0 rfl ⟨nofun,rfl,rfl⟩
 ·intro e σ' hne hq
  rcases x1 with _ | r
  ·obtain ⟨rfl,rfl⟩ := hq
   refine TriX.exit (K' := [.code [] 2]) rfl ?_
   refine Tri.f 1 [] [.keep [4] []] rfl trivial ?_
   cases h
   exact Tri.ret rfl ⟨.inl rfl,rfl,rfl⟩
  ·obtain ⟨rfl,hq⟩ := hq
   cases h
   exact TriX.ret ⟨.inl rfl,hq⟩
noncomputable def E339 : Env := ⟨Tryz.prog,tys,(Tryz.f163.body).getD .skip,9,tysOk,mixedOk⟩
abbrev K200 (r : Bool) (σ' : ASt) : Prop := isRes E339.T Tryz.f163 (.bool r) [] σ'
noncomputable def m_slices_ContainsFunc_impl_Rat_impl_Rat_impl_formed_2 (a0 a1 : List (List Q)) (a2 : List Int) (a3 a4 : Int) : Option Bool :=
(m_slices_IndexFunc_impl_Rat_impl_Rat_impl_formed_2 a0 a1 a2 a3 a4).bind fun v1 =>
some (decide (v1 ≥ 0))
theorem W58 (a0 a1 : List (List Q)) (a2 : List Int) (a3 a4 : Int) (r : Bool) (h : m_slices_ContainsFunc_impl_Rat_impl_Rat_impl_formed_2 a0 a1 a2 a3 a4 = some r) : AM.Spec Tryz.prog 163 [.list (.ratss a0),.func 164 [] [.pbox [.list (.ratss a1),.list (.ints a2),.i a3] 0,.pbox [.i a4] 0]] [] (.bool r) [] := by
 refine spec_of (E := E339) Tryz.func163 rfl rfl rfl rfl ?_
 refine Tri.f 1 [] [.keep [0,1] []] rfl trivial ?_
 obtain ⟨v1,hk1,h⟩ := bind_some h
 refine Tri.f 1 [.v (.i v1)] [.keep [4] []] rfl ⟨fun _ => W57 a0 a1 a2 a3 a4 v1 hk1,trivial⟩ ?_
 cases h
 exact Tri.ret rfl ⟨.inl rfl,rfl,rfl⟩
noncomputable def E340 : Env := ⟨Tryz.prog,tys,(Tryz.f81.body).getD .skip,27,tysOk,mixedOk⟩
abbrev K201 (r : Bool) (σ' : ASt) : Prop := isRes E340.T Tryz.f81 (.bool r) [] σ'
noncomputable def m_impl_formed (a0 : List (List Q)) (a1 : List Int) (a2 : Int) : Option Bool :=
(m_impl_within a2 (0 : Int) (1000 : Int)).bind fun v1 =>
bif !v1 then
(some false)
else
(bif (a1.length : Int) != (a0.length : Int) then
(some false)
else
((m_slices_ContainsFunc_int_int_impl_formed_1 a1 a0 a1 a2 (a0.length : Int)).bind fun v2 =>
bif v2 then
(some false)
else
((m_slices_ContainsFunc_impl_Rat_impl_Rat_impl_formed_2 a0 a0 a1 a2 (a0.length : Int)).bind fun v3 =>
some (!v3))))
theorem W59 (a0 : List (List Q)) (a1 : List Int) (a2 : Int) (r : Bool) (h : m_impl_formed a0 a1 a2 = some r) : AM.Spec Tryz.prog 81 [.agg [.list (.ratss a0),.list (.ints a1),.i a2]] [] (.bool r) [] := by
 refine spec_of (E := E340) Tryz.func81 rfl rfl rfl rfl ?_
 refine Tri.f 2 [] [.keep [1,3] [1,3]] rfl trivial ?_
 obtain ⟨v1,hk1,h⟩ := bind_some h
 rcases bif_some h with ⟨hd2,h⟩ | ⟨hd2,h⟩
 ·refine Tri.f 1 [.v (.bool v1),.g true] [.keep [1,3,17] [1,3]] rfl ⟨hd2,fun _ => W27 a2 (0 : Int) (1000 : Int) v1 hk1,trivial⟩ ?_
  refine Tri.f 2 [.g true] [.keep [2] []] rfl ⟨rfl,trivial⟩ ?_
  cases h
  exact Tri.ret rfl ⟨.inl rfl,rfl,rfl⟩
 ·refine Tri.f 1 [.v (.bool v1),.g false] [.keep [1,3,17] [1,3]] rfl ⟨hd2,fun _ => W27 a2 (0 : Int) (1000 : Int) v1 hk1,trivial⟩ ?_
  rcases bif_some h with ⟨hd3,h⟩ | ⟨hd3,h⟩
  ·refine Tri.f 2 [.g true] [.keep [2] []] rfl ⟨hd3,trivial⟩ ?_
   cases h
   exact Tri.ret rfl ⟨.inl rfl,rfl,rfl⟩
  ·obtain ⟨v2,hk4,h⟩ := bind_some h
   refine Tri.f 2 [.g false,.v (.bool v2)] [.keep [1,3,21] [1,3]] rfl ⟨fun _ => W55 a1 a0 a1 a2 (a0.length : Int) v2 hk4,hd3,trivial⟩ ?_
   rcases bif_some h with ⟨hd5,h⟩ | ⟨hd5,h⟩
   ·refine Tri.f 2 [.g true] [.keep [2] []] rfl ⟨hd5,trivial⟩ ?_
    cases h
    exact Tri.ret rfl ⟨.inl rfl,rfl,rfl⟩
   ·obtain ⟨v3,hk6,h⟩ := bind_some h
    refine Tri.f 2 [.g false,.v (.bool v3)] [.keep [2] []] rfl ⟨fun _ => W58 a0 a0 a1 a2 (a0.length : Int) v3 hk6,hd5,trivial⟩ ?_
    cases h
    exact Tri.ret rfl ⟨.inl rfl,rfl,rfl⟩
noncomputable def E341 : Env := ⟨Tryz.prog,tys,(Tryz.f200.body).getD .skip,8,tysOk,mixedOk⟩
abbrev K202 (r : List Q) (σ' : ASt) : Prop := isRes E341.T Tryz.f200 (.sl 1000 0) [(1000,.arr 31 0 0 (.rats r))] σ'
noncomputable def m_slices_Clone_impl_Rat_impl_Rat (a0 : List Q) : Option (List Q) :=
grd (([] : List Q).length + a0.length ≤ room) <|
some ([] ++ a0)
theorem W60 (a0 r : List Q) (h : m_slices_Clone_impl_Rat_impl_Rat a0 = some r) : AM.Spec Tryz.prog 200 [.list (.rats a0)] [] (.sl 1000 0) [(1000,.arr 31 0 0 (.rats r))] := by
 refine spec_of (E := E341) Tryz.func200 rfl rfl rfl rfl ?_
 refine Tri.f 2 [] [.keep [0,4] []] rfl trivial ?_
 refine Tri.any (p := (.rats a0)) (Kt := [.code [(1,0),(1,0)] 0,.code [] 2]) (Kf := [.code [(1,0),(1,1)] 0,.code [] 2]) rfl (fun hnil => ?_) ?_
 ·have hnil := List.eq_nil_of_length_eq_zero hnil
  subst hnil
  have h := (grd_some h).2
  have h : (some []) = some _ := h
  refine Tri.f 1 [] [.own 2 [] 1100 31,.swap 1100 1000,.keep [2] [1000]] rfl trivial ?_
  cases h
  exact Tri.ret rfl ⟨.inl rfl,rfl,rfl⟩
 ·obtain ⟨hg1,h⟩ := grd_some h
  refine Tri.f 1 [] [.rever 5,.swap 5 1000,.keep [2] [1000]] rfl ⟨hg1,trivial⟩ ?_
  cases h
  exact Tri.ret rfl ⟨.inl rfl,rfl,rfl⟩
noncomputable def E342 : Env := ⟨Tryz.prog,tys,(Tryz.f105.body).getD .skip,9,tysOk,mixedOk⟩
abbrev K203 (r : Int × Int) (σ' : ASt) : Prop := isRes E342.T Tryz.f105 (.agg [.i r.1,.i r.2]) [] σ'
noncomputable def m_impl_minus (a0 a1 : Int) : Option (Int × Int) :=
some (IntKind.i64.wrap (0 - a0),a1)
theorem W61 (a0 a1 : Int) (r : Int × Int) (h : m_impl_minus a0 a1 = some r) : AM.Spec Tryz.prog 105 [.agg [.i a0,.i a1]] [] (.agg [.i r.1,.i r.2]) [] := by
 refine spec_of (E := E342) Tryz.func105 rfl rfl rfl rfl ?_
 refine Tri.f 2 [] [.keep [2] [2]] rfl trivial ?_
 cases h
 exact Tri.ret rfl ⟨.inl rfl,rfl,rfl⟩
noncomputable def E343 : Env := ⟨Tryz.prog,tys,(Tryz.f165.body).getD .skip,40,tysOk,mixedOk⟩
abbrev K204 (r : Int × Int × Bool) (σ' : ASt) : Prop := isRes E343.T Tryz.f165 (.tuple [.agg [.i r.1,.i r.2.1],.bool r.2.2]) [] σ'
noncomputable def m_impl_RatOf (a0 a1 : Int) : Option (Int × Int × Bool) :=
bif a1 == 0 then
(some (0,0,false))
else
((m_impl_within a0 (-1000000000000000000 : Int) (1000000000000000000 : Int)).bind fun v1 =>
bif !v1 then
(some (0,0,false))
else
((m_impl_within a1 (-1000000000000000000 : Int) (1000000000000000000 : Int)).bind fun v2 =>
bif !v2 then
(some (0,0,false))
else
((m_impl_common a0 a1).bind fun v3 =>
bif decide (a1 < 0) then
(grd ((IntKind.i64.wrap (0 - v3)) ≠ 0) <|
grd ((IntKind.i64.wrap (0 - v3)) ≠ 0) <|
(m_impl_IsValidRat (IntKind.i64.wrap (a0.tdiv (IntKind.i64.wrap (0 - v3)))) (IntKind.i64.wrap (a1.tdiv (IntKind.i64.wrap (0 - v3))))).bind fun v4 =>
bif !v4 then
(some (0,0,false))
else
(some (IntKind.i64.wrap (a0.tdiv (IntKind.i64.wrap (0 - v3))),IntKind.i64.wrap (a1.tdiv (IntKind.i64.wrap (0 - v3))),true)))
else
(grd (v3 ≠ 0) <|
grd (v3 ≠ 0) <|
(m_impl_IsValidRat (IntKind.i64.wrap (a0.tdiv v3)) (IntKind.i64.wrap (a1.tdiv v3))).bind fun v5 =>
bif !v5 then
(some (0,0,false))
else
(some (IntKind.i64.wrap (a0.tdiv v3),IntKind.i64.wrap (a1.tdiv v3),true))))))
theorem W62 (a0 a1 : Int) (r : Int × Int × Bool) (h : m_impl_RatOf a0 a1 = some r) : AM.Spec Tryz.prog 165 [.i a0,.i a1] [] (.tuple [.agg [.i r.1,.i r.2.1],.bool r.2.2]) [] := by
 refine spec_of (E := E343) Tryz.func165 rfl rfl rfl rfl ?_
 refine Tri.f 1 [] [.keep [0,1,4] [4]] rfl trivial ?_
 rcases bif_some h with ⟨hd1,h⟩ | ⟨hd1,h⟩
 ·refine Tri.f 1 [.g true,.g true] [.keep [0,1,4,19] [4]] rfl ⟨rfl,hd1,trivial⟩ ?_
  refine Tri.f 2 [.g true] [.keep [4,5] [4]] rfl ⟨rfl,trivial⟩ ?_
  cases h
  exact Tri.ret rfl ⟨.inl rfl,rfl,rfl⟩
 ·obtain ⟨v1,hk2,h⟩ := bind_some h
  rcases bif_some h with ⟨hd3,h⟩ | ⟨hd3,h⟩
  ·refine Tri.f 1 [.g false,.v (.bool v1),.g true] [.keep [0,1,4,19] [4]] rfl ⟨hd3,fun _ => W27 a0 (-1000000000000000000 : Int) (1000000000000000000 : Int) v1 hk2,hd1,trivial⟩ ?_
   refine Tri.f 2 [.g true] [.keep [4,5] [4]] rfl ⟨rfl,trivial⟩ ?_
   cases h
   exact Tri.ret rfl ⟨.inl rfl,rfl,rfl⟩
  ·obtain ⟨v2,hk4,h⟩ := bind_some h
   refine Tri.f 1 [.g false,.v (.bool v1),.g false,.v (.bool v2)] [.keep [0,1,4,19] [4]] rfl ⟨fun _ => W27 a1 (-1000000000000000000 : Int) (1000000000000000000 : Int) v2 hk4,hd3,fun _ => W27 a0 (-1000000000000000000 : Int) (1000000000000000000 : Int) v1 hk2,hd1,trivial⟩ ?_
   rcases bif_some h with ⟨hd5,h⟩ | ⟨hd5,h⟩
   ·refine Tri.f 2 [.g true] [.keep [4,5] [4]] rfl ⟨hd5,trivial⟩ ?_
    cases h
    exact Tri.ret rfl ⟨.inl rfl,rfl,rfl⟩
   ·obtain ⟨v3,hk6,h⟩ := bind_some h
    refine Tri.f 3 [.g false,.v (.i v3)] [.keep [0,1,4,6,25] [4]] rfl ⟨fun _ => W39 a0 a1 v3 hk6,hd5,trivial⟩ ?_
    rcases bif_some h with ⟨hd7,h⟩ | ⟨hd7,h⟩
    ·obtain ⟨hg8,h⟩ := grd_some h
     obtain ⟨hg9,h⟩ := grd_some h
     refine Tri.f 3 [.g true] [.keep [4,7] [4,7]] rfl ⟨hg9,hg8,hd7,trivial⟩ ?_
     obtain ⟨v4,hk10,h⟩ := bind_some h
     refine Tri.f 1 [.v (.bool v4)] [.keep [4,7,37] [4,7]] rfl ⟨fun _ => W40 (IntKind.i64.wrap (a0.tdiv (IntKind.i64.wrap (0 - v3)))) (IntKind.i64.wrap (a1.tdiv (IntKind.i64.wrap (0 - v3)))) v4 hk10,trivial⟩ ?_
     rcases bif_some h with ⟨hd11,h⟩ | ⟨hd11,h⟩
     ·refine Tri.f 2 [.g true] [.keep [4,5] [4]] rfl ⟨hd11,trivial⟩ ?_
      cases h
      exact Tri.ret rfl ⟨.inl rfl,rfl,rfl⟩
     ·refine Tri.f 2 [.g false] [.keep [4,5] [4]] rfl ⟨hd11,trivial⟩ ?_
      cases h
      exact Tri.ret rfl ⟨.inl rfl,rfl,rfl⟩
    ·obtain ⟨hg12,h⟩ := grd_some h
     obtain ⟨hg13,h⟩ := grd_some h
     refine Tri.f 2 [.g false] [.keep [4,7] [4,7]] rfl ⟨hg13,hg12,hd7,trivial⟩ ?_
     obtain ⟨v5,hk14,h⟩ := bind_some h
     refine Tri.f 1 [.v (.bool v5)] [.keep [4,7,37] [4,7]] rfl ⟨fun _ => W40 (IntKind.i64.wrap (a0.tdiv v3)) (IntKind.i64.wrap (a1.tdiv v3)) v5 hk14,trivial⟩ ?_
     rcases bif_some h with ⟨hd15,h⟩ | ⟨hd15,h⟩
     ·refine Tri.f 2 [.g true] [.keep [4,5] [4]] rfl ⟨hd15,trivial⟩ ?_
      cases h
      exact Tri.ret rfl ⟨.inl rfl,rfl,rfl⟩
     ·refine Tri.f 2 [.g false] [.keep [4,5] [4]] rfl ⟨hd15,trivial⟩ ?_
      cases h
      exact Tri.ret rfl ⟨.inl rfl,rfl,rfl⟩
noncomputable def E344 : Env := ⟨Tryz.prog,tys,(Tryz.f168.body).getD .skip,28,tysOk,mixedOk⟩
abbrev K205 (r : Int × Int × Bool) (σ' : ASt) : Prop := isRes E344.T Tryz.f168 (.tuple [.agg [.i r.1,.i r.2.1],.bool r.2.2]) [] σ'
noncomputable def m_impl_MulRat (a0 a1 a2 a3 : Int) : Option (Int × Int × Bool) :=
(m_impl_IsValidRat a0 a1).bind fun v1 =>
bif !v1 then
(some (0,0,false))
else
((m_impl_IsValidRat a2 a3).bind fun v2 =>
bif !v2 then
(some (0,0,false))
else
((m_impl_RatOf (IntKind.i64.wrap (a0 * a2)) (IntKind.i64.wrap (a1 * a3))).bind fun (v3,v4,v5) =>
some (v3,v4,v5)))
theorem W63 (a0 a1 a2 a3 : Int) (r : Int × Int × Bool) (h : m_impl_MulRat a0 a1 a2 a3 = some r) : AM.Spec Tryz.prog 168 [.agg [.i a0,.i a1],.agg [.i a2,.i a3]] [] (.tuple [.agg [.i r.1,.i r.2.1],.bool r.2.2]) [] := by
 refine spec_of (E := E344) Tryz.func168 rfl rfl rfl rfl ?_
 refine Tri.f 1 [] [.keep [2,3,4] [2,3,4]] rfl trivial ?_
 obtain ⟨v1,hk1,h⟩ := bind_some h
 rcases bif_some h with ⟨hd2,h⟩ | ⟨hd2,h⟩
 ·refine Tri.f 1 [.v (.bool v1),.g true] [.keep [2,3,4,13] [2,3,4]] rfl ⟨hd2,fun _ => W40 a0 a1 v1 hk1,trivial⟩ ?_
  refine Tri.f 2 [.g true] [.keep [4,5] [4]] rfl ⟨rfl,trivial⟩ ?_
  cases h
  exact Tri.ret rfl ⟨.inl rfl,rfl,rfl⟩
 ·obtain ⟨v2,hk3,h⟩ := bind_some h
  refine Tri.f 1 [.v (.bool v1),.g false,.v (.bool v2)] [.keep [2,3,4,13] [2,3,4]] rfl ⟨fun _ => W40 a2 a3 v2 hk3,hd2,fun _ => W40 a0 a1 v1 hk1,trivial⟩ ?_
  rcases bif_some h with ⟨hd4,h⟩ | ⟨hd4,h⟩
  ·refine Tri.f 2 [.g true] [.keep [4,5] [4]] rfl ⟨hd4,trivial⟩ ?_
   cases h
   exact Tri.ret rfl ⟨.inl rfl,rfl,rfl⟩
  ·obtain ⟨⟨v3,v4,v5⟩,hk5,h⟩ := bind_some h
   refine Tri.f 2 [.g false,.v (.tuple [.agg [.i v3,.i v4],.bool v5])] [.keep [4,5] [4]] rfl ⟨fun _ => W62 (IntKind.i64.wrap (a0 * a2)) (IntKind.i64.wrap (a1 * a3)) (v3,v4,v5) hk5,hd4,trivial⟩ ?_
   cases h
   exact Tri.ret rfl ⟨.inl rfl,rfl,rfl⟩
noncomputable def E345 : Env := ⟨Tryz.prog,tys,(Tryz.f107.body).getD .skip,34,tysOk,mixedOk⟩
abbrev K206 (r : Int × Int × Bool) (σ' : ASt) : Prop := isRes E345.T Tryz.f107 (.tuple [.agg [.i r.1,.i r.2.1],.bool r.2.2]) [] σ'
noncomputable def m_impl_AddRat (a0 a1 a2 a3 : Int) : Option (Int × Int × Bool) :=
(m_impl_IsValidRat a0 a1).bind fun v1 =>
bif !v1 then
(some (0,0,false))
else
((m_impl_IsValidRat a2 a3).bind fun v2 =>
bif !v2 then
(some (0,0,false))
else
((m_impl_RatOf (IntKind.i64.wrap ((IntKind.i64.wrap (a0 * a3)) + (IntKind.i64.wrap (a2 * a1)))) (IntKind.i64.wrap (a1 * a3))).bind fun (v3,v4,v5) =>
some (v3,v4,v5)))
theorem W64 (a0 a1 a2 a3 : Int) (r : Int × Int × Bool) (h : m_impl_AddRat a0 a1 a2 a3 = some r) : AM.Spec Tryz.prog 107 [.agg [.i a0,.i a1],.agg [.i a2,.i a3]] [] (.tuple [.agg [.i r.1,.i r.2.1],.bool r.2.2]) [] := by
 refine spec_of (E := E345) Tryz.func107 rfl rfl rfl rfl ?_
 refine Tri.f 1 [] [.keep [2,3,4] [2,3,4]] rfl trivial ?_
 obtain ⟨v1,hk1,h⟩ := bind_some h
 rcases bif_some h with ⟨hd2,h⟩ | ⟨hd2,h⟩
 ·refine Tri.f 1 [.v (.bool v1),.g true] [.keep [2,3,4,13] [2,3,4]] rfl ⟨hd2,fun _ => W40 a0 a1 v1 hk1,trivial⟩ ?_
  refine Tri.f 2 [.g true] [.keep [4,5] [4]] rfl ⟨rfl,trivial⟩ ?_
  cases h
  exact Tri.ret rfl ⟨.inl rfl,rfl,rfl⟩
 ·obtain ⟨v2,hk3,h⟩ := bind_some h
  refine Tri.f 1 [.v (.bool v1),.g false,.v (.bool v2)] [.keep [2,3,4,13] [2,3,4]] rfl ⟨fun _ => W40 a2 a3 v2 hk3,hd2,fun _ => W40 a0 a1 v1 hk1,trivial⟩ ?_
  rcases bif_some h with ⟨hd4,h⟩ | ⟨hd4,h⟩
  ·refine Tri.f 2 [.g true] [.keep [4,5] [4]] rfl ⟨hd4,trivial⟩ ?_
   cases h
   exact Tri.ret rfl ⟨.inl rfl,rfl,rfl⟩
  ·obtain ⟨⟨v3,v4,v5⟩,hk5,h⟩ := bind_some h
   refine Tri.f 2 [.g false,.v (.tuple [.agg [.i v3,.i v4],.bool v5])] [.keep [4,5] [4]] rfl ⟨fun _ => W62 (IntKind.i64.wrap ((IntKind.i64.wrap (a0 * a3)) + (IntKind.i64.wrap (a2 * a1)))) (IntKind.i64.wrap (a1 * a3)) (v3,v4,v5) hk5,hd4,trivial⟩ ?_
   cases h
   exact Tri.ret rfl ⟨.inl rfl,rfl,rfl⟩
noncomputable def E346 : Env := ⟨Tryz.prog,tys,(Tryz.f201.body).getD .skip,55,tysOk,mixedOk⟩
abbrev K207 (r : Bool × (List Q)) (σ' : ASt) : Prop := isRes E346.T Tryz.f201 (.tuple [.sl 1000 0,.bool r.1]) [(1000,.arr 31 0 0 (.rats r.2))] σ'
noncomputable def l_impl_AddScaled_0 (a0 : List Q) (a1 a2 : Int) (a3 : List Q) : (Int × (List Q)) → Option ((Int × (List Q)) ⊕ ((List Q) ⊕ ((Bool × (List Q)))))
 | (v1,v2) => (
bif decide (v1 < (a0.length : Int)) then
(grd (0 ≤ v1 ∧ v1 < (a3.length : Int)) <|
(m_impl_MulRat a1 a2 ((a3.getD v1.toNat ⟨0,0⟩).num) ((a3.getD v1.toNat ⟨0,0⟩).den)).bind fun (v3,v4,v5) =>
grd (0 ≤ v1 ∧ v1 < (a0.length : Int)) <|
(m_impl_AddRat ((a0.getD v1.toNat ⟨0,0⟩).num) ((a0.getD v1.toNat ⟨0,0⟩).den) v3 v4).bind fun (v6,v7,v8) =>
bif !v5 then
(some (.inr (.inr (false,[]))))
else
(bif !v8 then
(some (.inr (.inr (false,[]))))
else
(grd (v2.length + ([⟨v6,v7⟩] : List Q).length ≤ room) <|
some (.inl (IntKind.i64.wrap (v1 + 1),v2 ++ [⟨v6,v7⟩])))))
else
(some (.inr (.inl v2))))
noncomputable def m_impl_AddScaled (a0 : List Q) (a1 a2 : Int) (a3 : List Q) : Option (Bool × (List Q)) :=
bif (a0.length : Int) != (a3.length : Int) then
(some (false,[]))
else
((iter (l_impl_AddScaled_0 a0 a1 a2 a3) ((0 : Int),[])).bind fun
| (.inl v9) => (
some (true,v9))
| (.inr r) => some r)
theorem W65 (a0 : List Q) (a1 a2 : Int) (a3 : List Q) (r : Bool × (List Q)) (h : m_impl_AddScaled a0 a1 a2 a3 = some r) : AM.Spec Tryz.prog 201 [.list (.rats a0),.agg [.i a1,.i a2],.list (.rats a3)] [] (.tuple [.sl 1000 0,.bool r.1]) [(1000,.arr 31 0 0 (.rats r.2))] := by
 refine spec_of (E := E346) Tryz.func201 rfl rfl rfl rfl ?_
 refine Tri.f 2 [] [.keep [0,2,4,18] [4]] rfl trivial ?_
 rcases bif_some h with ⟨hd1,h⟩ | ⟨hd1,h⟩
 ·refine Tri.f 2 [.g true] [.own 6 [] 1100 31,.swap 1100 1000,.keep [6,7] [1000]] rfl ⟨hd1,trivial⟩ ?_
  cases h
  exact Tri.ret rfl ⟨.inl rfl,rfl,rfl⟩
 ·refine Tri.f 3 [.g false] [.keep [0,2,4,8,21,22] [4,19]] rfl ⟨hd1,trivial⟩ ?_
  obtain ⟨x1,hk10,h⟩ := bind_some h
  refine Tri.loop (K1 := [.code [(3,0),(1,0),(0,0)] 0]) (K2 := [.blk 0,.code [] 4]) (fun (v1,v2) => ⟨[(0,.list (.rats a0)),(2,.list (.rats a3)),(4,.ptr 4 0),(8,.sl 19 0),(21,.i (a0.length : Int)),(22,.i v1)],[(4,.box [.i a1,.i a2]),(19,.arr 31 0 0 (.rats v2))]⟩) (fun x e σ' => match x with | (.inl v9) => e = .exit 0 ∧ σ' = ⟨[(8,.sl 19 0)],[(19,.arr 31 0 0 (.rats v9))]⟩ | (.inr r) => e = .ret ∧ K207 r σ') hk10 rfl rfl ?_ ?_
  ·intro s x hs
   clear h
   have h := hs
   clear hs
   obtain ⟨v1,v2⟩ := s
   refine Tri.f 1 [] [.keep [0,2,4,8,21,22,23] [4,19]] rfl trivial ?_
   rcases bif_some h with ⟨hd2,h⟩ | ⟨hd2,h⟩
   ·refine Tri.f 2 [.g true] [.keep [0,2,4,8,9,21,22] [4,19]] rfl ⟨hd2,trivial⟩ ?_
    obtain ⟨hg3,h⟩ := grd_some h
    obtain ⟨⟨v3,v4,v5⟩,hk4,h⟩ := bind_some h
    obtain ⟨hg5,h⟩ := grd_some h
    obtain ⟨⟨v6,v7,v8⟩,hk6,h⟩ := bind_some h
    refine Tri.f 2 [.v (.tuple [.agg [.i v3,.i v4],.bool v5]),.v (.tuple [.agg [.i v6,.i v7],.bool v8])] [.keep [0,2,4,8,11,12,13,21,22] [4,12,19]] rfl ⟨fun _ => W64 ((a0.getD v1.toNat ⟨0,0⟩).num) ((a0.getD v1.toNat ⟨0,0⟩).den) v3 v4 (v6,v7,v8) hk6,hg5,fun _ => W63 a1 a2 ((a3.getD v1.toNat ⟨0,0⟩).num) ((a3.getD v1.toNat ⟨0,0⟩).den) (v3,v4,v5) hk4,hg3,trivial⟩ ?_
    rcases bif_some h with ⟨hd7,h⟩ | ⟨hd7,h⟩
    ·refine Tri.f 1 [.g true] [.keep [0,2,4,8,12,21,22,48] [4,12,19]] rfl ⟨hd7,trivial⟩ ?_
     refine Tri.f 2 [.g true] [.own 6 [] 1101 31,.swap 1101 1000,.keep [6,7] [1000]] rfl ⟨rfl,trivial⟩ ?_
     cases h
     exact Tri.ret rfl ⟨nofun,rfl,rfl,rfl⟩
    ·refine Tri.f 1 [.g false] [.keep [0,2,4,8,12,21,22,48] [4,12,19]] rfl ⟨hd7,trivial⟩ ?_
     rcases bif_some h with ⟨hd8,h⟩ | ⟨hd8,h⟩
     ·refine Tri.f 2 [.g true] [.own 6 [] 1102 31,.swap 1102 1000,.keep [6,7] [1000]] rfl ⟨hd8,trivial⟩ ?_
      cases h
      exact Tri.ret rfl ⟨nofun,rfl,rfl,rfl⟩
     ·obtain ⟨hg9,h⟩ := grd_some h
      refine Tri.f 3 [.g false] [.rever 19,.keep [0,2,4,8,21,22] [4,19]] rfl ⟨hg9,hd8,trivial⟩ ?_
      cases h
      exact Tri.nil ⟨rfl,rfl⟩
   ·refine Tri.f 1 [.g false] [.keep [8] [19]] rfl ⟨hd2,trivial⟩ ?_
    cases h
    exact Tri.out 0 rfl ⟨nofun,rfl,rfl⟩
  ·intro e σ' hne hq
   rcases x1 with v9 | r
   ·obtain ⟨rfl,rfl⟩ := hq
    refine TriX.exit (K' := [.code [] 4]) rfl ?_
    refine Tri.f 1 [] [.swap 19 1000,.keep [6,7] [1000]] rfl trivial ?_
    cases h
    exact Tri.ret rfl ⟨.inl rfl,rfl,rfl⟩
   ·obtain ⟨rfl,hq⟩ := hq
    cases h
    exact TriX.ret ⟨.inl rfl,hq⟩
noncomputable def E347 : Env := ⟨Tryz.prog,tys,(Tryz.f187.body).getD .skip,63,tysOk,mixedOk⟩
abbrev K208 (r : Bool × (List Q)) (σ' : ASt) : Prop := isRes E347.T Tryz.f187 (.tuple [.sl 1000 0,.bool r.1]) [(1000,.arr 31 0 0 (.rats r.2))] σ'
noncomputable def l_impl_CostRow_0 (a0 : List (List Q)) (a1 : List Int) (a3 : List Q) : (Int × (List Q)) → Option ((Int × (List Q)) ⊕ ((List Q) ⊕ ((Bool × (List Q)))))
 | (v6,v7) => (
bif decide (v6 < (a0.length : Int)) then
(grd (0 ≤ v6 ∧ v6 < (a0.length : Int)) <|
grd (0 ≤ v6 ∧ v6 < (a1.length : Int)) <|
grd (0 ≤ a1.getD v6.toNat 0 ∧ a1.getD v6.toNat 0 < (a3.length : Int)) <|
(m_impl_minus ((a3.getD ((a1.getD v6.toNat 0).toNat) ⟨0,0⟩).num) ((a3.getD ((a1.getD v6.toNat 0).toNat) ⟨0,0⟩).den)).bind fun (v8,v9) =>
(m_impl_AddScaled v7 v8 v9 (a0.getD v6.toNat [])).bind fun (v10,v11) =>
bif !v10 then
(some (.inr (.inr (false,[]))))
else
(some (.inl (IntKind.i64.wrap (v6 + 1),v11))))
else
(some (.inr (.inl v7))))
noncomputable def m_impl_CostRow (a0 : List (List Q)) (a1 : List Int) (a2 : Int) (a3 : List Q) : Option (Bool × (List Q)) :=
(m_impl_formed a0 a1 a2).bind fun v1 =>
bif !v1 then
(some (false,[]))
else
(bif (a3.length : Int) != (IntKind.i64.wrap (a2 + (a0.length : Int))) then
(some (false,[]))
else
((m_impl_AllValid a3).bind fun v2 =>
bif !v2 then
(some (false,[]))
else
((m_slices_Clone_impl_Rat_impl_Rat a3).bind fun v3 =>
(m_impl_whole (0 : Int)).bind fun (v4,v5) =>
grd (v3.length + ([⟨v4,v5⟩] : List Q).length ≤ room) <|
(iter (l_impl_CostRow_0 a0 a1 a3) ((0 : Int),v3 ++ [⟨v4,v5⟩])).bind fun
| (.inl v12) => (
some (true,v12))
| (.inr r) => some r)))
theorem W66 (a0 : List (List Q)) (a1 : List Int) (a2 : Int) (a3 : List Q) (r : Bool × (List Q)) (h : m_impl_CostRow a0 a1 a2 a3 = some r) : AM.Spec Tryz.prog 187 [.agg [.list (.ratss a0),.list (.ints a1),.i a2],.list (.rats a3)] [] (.tuple [.sl 1000 0,.bool r.1]) [(1000,.arr 31 0 0 (.rats r.2))] := by
 refine spec_of (E := E347) Tryz.func187 rfl rfl rfl rfl ?_
 refine Tri.f 1 [] [.keep [1,2] [2]] rfl trivial ?_
 obtain ⟨v1,hk1,h⟩ := bind_some h
 rcases bif_some h with ⟨hd2,h⟩ | ⟨hd2,h⟩
 ·refine Tri.f 1 [.v (.bool v1),.g true,.g true] [.keep [1,2,29] [2]] rfl ⟨rfl,hd2,fun _ => W59 a0 a1 a2 v1 hk1,trivial⟩ ?_
  refine Tri.f 2 [.g true] [.own 4 [] 1100 31,.swap 1100 1000,.keep [4,5] [1000]] rfl ⟨rfl,trivial⟩ ?_
  cases h
  exact Tri.ret rfl ⟨.inl rfl,rfl,rfl⟩
 ·rcases bif_some h with ⟨hd3,h⟩ | ⟨hd3,h⟩
  ·refine Tri.f 1 [.v (.bool v1),.g false,.g true] [.keep [1,2,29] [2]] rfl ⟨hd3,hd2,fun _ => W59 a0 a1 a2 v1 hk1,trivial⟩ ?_
   refine Tri.f 2 [.g true] [.own 4 [] 1101 31,.swap 1101 1000,.keep [4,5] [1000]] rfl ⟨rfl,trivial⟩ ?_
   cases h
   exact Tri.ret rfl ⟨.inl rfl,rfl,rfl⟩
  ·obtain ⟨v2,hk4,h⟩ := bind_some h
   refine Tri.f 1 [.v (.bool v1),.g false,.g false,.v (.bool v2)] [.keep [1,2,29] [2]] rfl ⟨fun _ => W44 a3 v2 hk4,hd3,hd2,fun _ => W59 a0 a1 a2 v1 hk1,trivial⟩ ?_
   rcases bif_some h with ⟨hd5,h⟩ | ⟨hd5,h⟩
   ·refine Tri.f 2 [.g true] [.own 4 [] 1102 31,.swap 1102 1000,.keep [4,5] [1000]] rfl ⟨hd5,trivial⟩ ?_
    cases h
    exact Tri.ret rfl ⟨.inl rfl,rfl,rfl⟩
   ·obtain ⟨v3,hk6,h⟩ := bind_some h
    obtain ⟨⟨v4,v5⟩,hk7,h⟩ := bind_some h
    obtain ⟨hg8,h⟩ := grd_some h
    refine Tri.f 3 [.g false,.r ⟨[],.sl 1103 0,[(1103,.arr 31 0 0 (.rats v3))]⟩,.v (.agg [.i v4,.i v5])] [.rever 1103,.keep [1,2,6,36,37,38] [2,1103]] rfl ⟨hg8,fun _ => W36 (0 : Int) (v4,v5) hk7,fun _ => (W60 a3 v3 hk6).swap 1000 1103,hd5,trivial⟩ ?_
    obtain ⟨x1,hk16,h⟩ := bind_some h
    refine Tri.loop (K1 := [.code [(3,0),(1,0),(0,0)] 0]) (K2 := [.blk 0,.code [] 4]) (fun (v6,v7) => ⟨[(1,.list (.rats a3)),(2,.ptr 2 0),(6,.sl 1103 0),(36,.list (.ratss a0)),(37,.i (a0.length : Int)),(38,.i v6)],[(2,.box [.list (.ratss a0),.list (.ints a1),.i a2]),(1103,.arr 31 0 0 (.rats v7))]⟩) (fun x e σ' => match x with | (.inl v12) => e = .exit 0 ∧ σ' = ⟨[(6,.sl 1103 0)],[(1103,.arr 31 0 0 (.rats v12))]⟩ | (.inr r) => e = .ret ∧ K208 r σ') hk16 rfl rfl ?_ ?_
    ·intro s x hs
     clear h
     have h := hs
     clear hs
     obtain ⟨v6,v7⟩ := s
     refine Tri.f 1 [] [.keep [1,2,6,36,37,38,39] [2,1103]] rfl trivial ?_
     rcases bif_some h with ⟨hd9,h⟩ | ⟨hd9,h⟩
     ·obtain ⟨hg10,h⟩ := grd_some h
      refine Tri.f 2 [.g true] [.keep [1,2,6,7,8,36,37,38] [2,1103]] rfl ⟨hg10,hd9,trivial⟩ ?_
      obtain ⟨hg11,h⟩ := grd_some h
      obtain ⟨hg12,h⟩ := grd_some h
      obtain ⟨⟨v8,v9⟩,hk13,h⟩ := bind_some h
      obtain ⟨⟨v10,v11⟩,hk14,h⟩ := bind_some h
      refine Tri.f 2 [.v (.agg [.i v8,.i v9]),.r ⟨[],.tuple [.sl 1104 0,.bool v10],[(1104,.arr 31 0 0 (.rats v11))]⟩] [.keep [1,2,9,36,37,38,59] [2,1104]] rfl ⟨fun _ => (W65 v7 v8 v9 (a0.getD v6.toNat []) (v10,v11) hk14).swap 1000 1104,fun _ => W61 ((a3.getD ((a1.getD v6.toNat 0).toNat) ⟨0,0⟩).num) ((a3.getD ((a1.getD v6.toNat 0).toNat) ⟨0,0⟩).den) (v8,v9) hk13,hg12,hg11,trivial⟩ ?_
      rcases bif_some h with ⟨hd15,h⟩ | ⟨hd15,h⟩
      ·refine Tri.f 2 [.g true] [.own 4 [] 1105 31,.swap 1105 1000,.keep [4,5] [1000]] rfl ⟨hd15,trivial⟩ ?_
       cases h
       exact Tri.ret rfl ⟨nofun,rfl,rfl,rfl⟩
      ·refine Tri.f 3 [.g false] [.swap 1104 1103,.keep [1,2,6,36,37,38] [2,1103]] rfl ⟨hd15,trivial⟩ ?_
       cases h
       exact Tri.nil ⟨rfl,rfl⟩
     ·refine Tri.f 1 [.g false] [.keep [6] [1103]] rfl ⟨hd9,trivial⟩ ?_
      cases h
      exact Tri.out 0 rfl ⟨nofun,rfl,rfl⟩
    ·intro e σ' hne hq
     rcases x1 with v12 | r
     ·obtain ⟨rfl,rfl⟩ := hq
      refine TriX.exit (K' := [.code [] 4]) rfl ?_
      refine Tri.f 1 [] [.swap 1103 1000,.keep [4,5] [1000]] rfl trivial ?_
      cases h
      exact Tri.ret rfl ⟨.inl rfl,rfl,rfl⟩
     ·obtain ⟨rfl,hq⟩ := hq
      cases h
      exact TriX.ret ⟨.inl rfl,hq⟩
noncomputable def E348 : Env := ⟨Tryz.prog,tys,(Tryz.f49.body).getD .skip,33,tysOk,mixedOk⟩
abbrev K209 (r : Int) (σ' : ASt) : Prop := isRes E348.T Tryz.f49 (.i r) [] σ'
noncomputable def m_impl_CompareRat (a0 a1 a2 a3 : Int) : Option Int :=
(m_impl_IsValidRat a0 a1).bind fun v1 =>
bif !v1 then
(some (0 : Int))
else
((m_impl_IsValidRat a2 a3).bind fun v2 =>
bif !v2 then
(some (0 : Int))
else
(bif decide ((IntKind.i64.wrap (a0 * a3)) < (IntKind.i64.wrap (a2 * a1))) then
(some (-1 : Int))
else
(bif decide ((IntKind.i64.wrap (a0 * a3)) > (IntKind.i64.wrap (a2 * a1))) then
(some (1 : Int))
else
(some (0 : Int)))))
theorem W67 (a0 a1 a2 a3 r : Int) (h : m_impl_CompareRat a0 a1 a2 a3 = some r) : AM.Spec Tryz.prog 49 [.agg [.i a0,.i a1],.agg [.i a2,.i a3]] [] (.i r) [] := by
 refine spec_of (E := E348) Tryz.func49 rfl rfl rfl rfl ?_
 refine Tri.f 1 [] [.keep [2,3] [2,3]] rfl trivial ?_
 obtain ⟨v1,hk1,h⟩ := bind_some h
 rcases bif_some h with ⟨hd2,h⟩ | ⟨hd2,h⟩
 ·refine Tri.f 1 [.v (.bool v1),.g true] [.keep [2,3,14] [2,3]] rfl ⟨hd2,fun _ => W40 a0 a1 v1 hk1,trivial⟩ ?_
  refine Tri.f 2 [.g true] [.keep [4] []] rfl ⟨rfl,trivial⟩ ?_
  cases h
  exact Tri.ret rfl ⟨.inl rfl,rfl,rfl⟩
 ·obtain ⟨v2,hk3,h⟩ := bind_some h
  refine Tri.f 1 [.v (.bool v1),.g false,.v (.bool v2)] [.keep [2,3,14] [2,3]] rfl ⟨fun _ => W40 a2 a3 v2 hk3,hd2,fun _ => W40 a0 a1 v1 hk1,trivial⟩ ?_
  rcases bif_some h with ⟨hd4,h⟩ | ⟨hd4,h⟩
  ·refine Tri.f 2 [.g true] [.keep [4] []] rfl ⟨hd4,trivial⟩ ?_
   cases h
   exact Tri.ret rfl ⟨.inl rfl,rfl,rfl⟩
  ·refine Tri.f 3 [.g false] [.keep [5,6,25] []] rfl ⟨hd4,trivial⟩ ?_
   rcases bif_some h with ⟨hd5,h⟩ | ⟨hd5,h⟩
   ·refine Tri.f 2 [.g true] [.keep [4] []] rfl ⟨hd5,trivial⟩ ?_
    cases h
    exact Tri.ret rfl ⟨.inl rfl,rfl,rfl⟩
   ·refine Tri.f 2 [.g false] [.keep [29] []] rfl ⟨hd5,trivial⟩ ?_
    rcases bif_some h with ⟨hd6,h⟩ | ⟨hd6,h⟩
    ·refine Tri.f 2 [.g true] [.keep [4] []] rfl ⟨hd6,trivial⟩ ?_
     cases h
     exact Tri.ret rfl ⟨.inl rfl,rfl,rfl⟩
    ·refine Tri.f 2 [.g false] [.keep [4] []] rfl ⟨hd6,trivial⟩ ?_
     cases h
     exact Tri.ret rfl ⟨.inl rfl,rfl,rfl⟩
noncomputable def E349 : Env := ⟨Tryz.prog,tys,(Tryz.f79.body).getD .skip,6,tysOk,mixedOk⟩
abbrev K210 (r : Int) (σ' : ASt) : Prop := isRes E349.T Tryz.f79 (.i r) [] σ'
noncomputable def m_impl_sign (a0 a1 : Int) : Option Int :=
(m_impl_whole (0 : Int)).bind fun (v1,v2) =>
(m_impl_CompareRat a0 a1 v1 v2).bind fun v3 =>
some v3
theorem W68 (a0 a1 r : Int) (h : m_impl_sign a0 a1 = some r) : AM.Spec Tryz.prog 79 [.agg [.i a0,.i a1]] [] (.i r) [] := by
 refine spec_of (E := E349) Tryz.func79 rfl rfl rfl rfl ?_
 refine Tri.f 1 [] [.keep [1] [1]] rfl trivial ?_
 obtain ⟨⟨v1,v2⟩,hk1,h⟩ := bind_some h
 obtain ⟨v3,hk2,h⟩ := bind_some h
 refine Tri.f 1 [.v (.agg [.i v1,.i v2]),.v (.i v3)] [.keep [2] []] rfl ⟨fun _ => W67 a0 a1 v1 v2 v3 hk2,fun _ => W36 (0 : Int) (v1,v2) hk1,trivial⟩ ?_
 cases h
 exact Tri.ret rfl ⟨.inl rfl,rfl,rfl⟩
noncomputable def E350 : Env := ⟨Tryz.prog,tys,(Tryz.f17.body).getD .skip,24,tysOk,mixedOk⟩
abbrev K211 (r : Int) (σ' : ASt) : Prop := isRes E350.T Tryz.f17 (.i r) [] σ'
noncomputable def l_impl_EnteringColumn_0 (a3 : List Q) (a4 v1 : Int) : Option (Int ⊕ (Unit ⊕ Int)) :=
bif decide (v1 < a4) then
(grd (0 ≤ v1 ∧ v1 < (a3.length : Int)) <|
(m_impl_sign ((a3.getD v1.toNat ⟨0,0⟩).num) ((a3.getD v1.toNat ⟨0,0⟩).den)).bind fun v2 =>
bif decide (v2 < 0) then
(some (.inr (.inr v1)))
else
(some (.inl (IntKind.i64.wrap (v1 + 1)))))
else
(some (.inr (.inl ())))
noncomputable def m_impl_EnteringColumn (_a0 : List (List Q)) (_a1 : List Int) (_a2 : Int) (a3 : List Q) (a4 : Int) : Option Int :=
bif decide (a4 > (a3.length : Int)) then
(some (-1 : Int))
else
((iter (l_impl_EnteringColumn_0 a3 a4) (0 : Int)).bind fun
| (.inl _) => (
some (-1 : Int))
| (.inr r) => some r)
theorem W69 (a0 : List (List Q)) (a1 : List Int) (a2 : Int) (a3 : List Q) (a4 r : Int) (h : m_impl_EnteringColumn a0 a1 a2 a3 a4 = some r) : AM.Spec Tryz.prog 17 [.agg [.list (.ratss a0),.list (.ints a1),.i a2],.list (.rats a3),.i a4] [] (.i r) [] := by
 refine spec_of (E := E350) Tryz.func17 rfl rfl rfl rfl ?_
 refine Tri.f 2 [] [.keep [1,2,11] []] rfl trivial ?_
 rcases bif_some h with ⟨hd1,h⟩ | ⟨hd1,h⟩
 ·refine Tri.f 2 [.g true] [.keep [6] []] rfl ⟨hd1,trivial⟩ ?_
  cases h
  exact Tri.ret rfl ⟨.inl rfl,rfl,rfl⟩
 ·refine Tri.f 2 [.g false] [.keep [1,2,7] []] rfl ⟨hd1,trivial⟩ ?_
  obtain ⟨x1,hk6,h⟩ := bind_some h
  refine Tri.loop (K1 := [.code [(2,0),(1,0),(0,0)] 0]) (K2 := [.blk 0,.code [] 3]) (fun v1 => ⟨[(1,.list (.rats a3)),(2,.i a4),(7,.i v1)],[]⟩) (fun x e σ' => match x with | (.inl _) => e = .exit 0 ∧ σ' = ⟨[],[]⟩ | (.inr r) => e = .ret ∧ K211 r σ') hk6 rfl rfl ?_ ?_
  ·intro v1 x hs
   clear h
   have h := hs
   clear hs
   refine Tri.f 1 [] [.keep [1,2,7,14] []] rfl trivial ?_
   rcases bif_some h with ⟨hd2,h⟩ | ⟨hd2,h⟩
   ·obtain ⟨hg3,h⟩ := grd_some h
    obtain ⟨v2,hk4,h⟩ := bind_some h
    refine Tri.f 2 [.g true,.v (.i v2)] [.keep [1,2,7,22] []] rfl ⟨fun _ => W68 ((a3.getD v1.toNat ⟨0,0⟩).num) ((a3.getD v1.toNat ⟨0,0⟩).den) v2 hk4,hg3,hd2,trivial⟩ ?_
    rcases bif_some h with ⟨hd5,h⟩ | ⟨hd5,h⟩
    ·refine Tri.f 2 [.g true] [.keep [6] []] rfl ⟨hd5,trivial⟩ ?_
     cases h
     exact Tri.ret rfl ⟨nofun,rfl,rfl,rfl⟩
    ·refine Tri.f 2 [.g false] [.keep [1,2,7] []] rfl ⟨hd5,trivial⟩ ?_
     cases h
     exact Tri.nil ⟨rfl,rfl⟩
   ·refine Tri.f 1 [.g false] [.keep [] []] rfl ⟨hd2,trivial⟩ ?_
    cases h
    exact Tri.out 0 rfl ⟨nofun,rfl,rfl⟩
  ·intro e σ' hne hq
   rcases x1 with _ | r
   ·obtain ⟨rfl,rfl⟩ := hq
    refine TriX.exit (K' := [.code [] 3]) rfl ?_
    refine Tri.f 1 [] [.keep [6] []] rfl trivial ?_
    cases h
    exact Tri.ret rfl ⟨.inl rfl,rfl,rfl⟩
   ·obtain ⟨rfl,hq⟩ := hq
    cases h
    exact TriX.ret ⟨.inl rfl,hq⟩
noncomputable def E351 : Env := ⟨Tryz.prog,tys,(Tryz.f82.body).getD .skip,28,tysOk,mixedOk⟩
abbrev K212 (r : Int × Int × Bool) (σ' : ASt) : Prop := isRes E351.T Tryz.f82 (.tuple [.agg [.i r.1,.i r.2.1],.bool r.2.2]) [] σ'
noncomputable def m_impl_DivRat (a0 a1 a2 a3 : Int) : Option (Int × Int × Bool) :=
(m_impl_IsValidRat a0 a1).bind fun v1 =>
bif !v1 then
(some (0,0,false))
else
((m_impl_IsValidRat a2 a3).bind fun v2 =>
bif !v2 then
(some (0,0,false))
else
((m_impl_RatOf (IntKind.i64.wrap (a0 * a3)) (IntKind.i64.wrap (a1 * a2))).bind fun (v3,v4,v5) =>
some (v3,v4,v5)))
theorem W70 (a0 a1 a2 a3 : Int) (r : Int × Int × Bool) (h : m_impl_DivRat a0 a1 a2 a3 = some r) : AM.Spec Tryz.prog 82 [.agg [.i a0,.i a1],.agg [.i a2,.i a3]] [] (.tuple [.agg [.i r.1,.i r.2.1],.bool r.2.2]) [] := by
 refine spec_of (E := E351) Tryz.func82 rfl rfl rfl rfl ?_
 refine Tri.f 1 [] [.keep [2,3,4] [2,3,4]] rfl trivial ?_
 obtain ⟨v1,hk1,h⟩ := bind_some h
 rcases bif_some h with ⟨hd2,h⟩ | ⟨hd2,h⟩
 ·refine Tri.f 1 [.v (.bool v1),.g true] [.keep [2,3,4,13] [2,3,4]] rfl ⟨hd2,fun _ => W40 a0 a1 v1 hk1,trivial⟩ ?_
  refine Tri.f 2 [.g true] [.keep [4,5] [4]] rfl ⟨rfl,trivial⟩ ?_
  cases h
  exact Tri.ret rfl ⟨.inl rfl,rfl,rfl⟩
 ·obtain ⟨v2,hk3,h⟩ := bind_some h
  refine Tri.f 1 [.v (.bool v1),.g false,.v (.bool v2)] [.keep [2,3,4,13] [2,3,4]] rfl ⟨fun _ => W40 a2 a3 v2 hk3,hd2,fun _ => W40 a0 a1 v1 hk1,trivial⟩ ?_
  rcases bif_some h with ⟨hd4,h⟩ | ⟨hd4,h⟩
  ·refine Tri.f 2 [.g true] [.keep [4,5] [4]] rfl ⟨hd4,trivial⟩ ?_
   cases h
   exact Tri.ret rfl ⟨.inl rfl,rfl,rfl⟩
  ·obtain ⟨⟨v3,v4,v5⟩,hk5,h⟩ := bind_some h
   refine Tri.f 2 [.g false,.v (.tuple [.agg [.i v3,.i v4],.bool v5])] [.keep [4,5] [4]] rfl ⟨fun _ => W62 (IntKind.i64.wrap (a0 * a3)) (IntKind.i64.wrap (a1 * a2)) (v3,v4,v5) hk5,hd4,trivial⟩ ?_
   cases h
   exact Tri.ret rfl ⟨.inl rfl,rfl,rfl⟩
noncomputable def E352 : Env := ⟨Tryz.prog,tys,(Tryz.f19.body).getD .skip,87,tysOk,mixedOk⟩
abbrev K213 (r : Int) (σ' : ASt) : Prop := isRes E352.T Tryz.f19 (.i r) [] σ'
noncomputable def l_impl_LeavingRow_0 (a0 : List (List Q)) (a1 : List Int) (a3 : Int) : (Int × Int × Int × Int) → Option ((Int × Int × Int × Int) ⊕ Int)
 | (v3,v4,v5,v6) => (
bif decide (v4 < (a0.length : Int)) then
(grd (0 ≤ v4 ∧ v4 < (a0.length : Int)) <|
grd (0 ≤ a3 ∧ a3 < ((a0.getD v4.toNat []).length : Int)) <|
(m_impl_sign (((a0.getD v4.toNat []).getD a3.toNat ⟨0,0⟩).num) (((a0.getD v4.toNat []).getD a3.toNat ⟨0,0⟩).den)).bind fun v7 =>
bif decide (v7 ≤ 0) then
(some (.inl (v3,IntKind.i64.wrap (v4 + 1),v5,v6)))
else
(grd (0 ≤ IntKind.i64.wrap (((a0.getD v4.toNat []).length : Int) - 1) ∧ IntKind.i64.wrap (((a0.getD v4.toNat []).length : Int) - 1) < ((a0.getD v4.toNat []).length : Int)) <|
grd (0 ≤ a3 ∧ a3 < ((a0.getD v4.toNat []).length : Int)) <|
(m_impl_DivRat (((a0.getD v4.toNat []).getD ((IntKind.i64.wrap (((a0.getD v4.toNat []).length : Int) - 1)).toNat) ⟨0,0⟩).num) (((a0.getD v4.toNat []).getD ((IntKind.i64.wrap (((a0.getD v4.toNat []).length : Int) - 1)).toNat) ⟨0,0⟩).den) (((a0.getD v4.toNat []).getD a3.toNat ⟨0,0⟩).num) (((a0.getD v4.toNat []).getD a3.toNat ⟨0,0⟩).den)).bind fun (v8,v9,v10) =>
bif !v10 then
(some (.inl (v3,IntKind.i64.wrap (v4 + 1),v5,v6)))
else
((m_impl_CompareRat v8 v9 v5 v6).bind fun v11 =>
bif decide (v3 < 0) then
(some (.inl (v4,IntKind.i64.wrap (v4 + 1),v8,v9)))
else
(bif decide (v11 < 0) then
(some (.inl (v4,IntKind.i64.wrap (v4 + 1),v8,v9)))
else
(bif v11 == 0 then
(grd (0 ≤ v4 ∧ v4 < (a1.length : Int)) <|
grd (0 ≤ v3 ∧ v3 < (a1.length : Int)) <|
bif decide ((a1.getD v4.toNat 0) < (a1.getD v3.toNat 0)) then
(some (.inl (v4,IntKind.i64.wrap (v4 + 1),v8,v9)))
else
(some (.inl (v3,IntKind.i64.wrap (v4 + 1),v5,v6))))
else
(some (.inl (v3,IntKind.i64.wrap (v4 + 1),v5,v6))))))))
else
(some (.inr v3)))
noncomputable def m_impl_LeavingRow (a0 : List (List Q)) (a1 : List Int) (a2 a3 : Int) : Option Int :=
(m_impl_formed a0 a1 a2).bind fun v1 =>
bif !v1 then
(some (-1 : Int))
else
((m_impl_within a3 (0 : Int) (IntKind.i64.wrap ((IntKind.i64.wrap (a2 + (a0.length : Int))) - 1))).bind fun v2 =>
bif !v2 then
(some (-1 : Int))
else
((iter (l_impl_LeavingRow_0 a0 a1 a3) ((-1 : Int),(0 : Int),0,0)).bind fun
| v12 => (
some v12)))
theorem W71 (a0 : List (List Q)) (a1 : List Int) (a2 a3 r : Int) (h : m_impl_LeavingRow a0 a1 a2 a3 = some r) : AM.Spec Tryz.prog 19 [.agg [.list (.ratss a0),.list (.ints a1),.i a2],.i a3] [] (.i r) [] := by
 refine spec_of (E := E352) Tryz.func19 rfl rfl rfl rfl ?_
 refine Tri.f 1 [] [.keep [1,2] [2]] rfl trivial ?_
 obtain ⟨v1,hk1,h⟩ := bind_some h
 rcases bif_some h with ⟨hd2,h⟩ | ⟨hd2,h⟩
 ·refine Tri.f 1 [.v (.bool v1),.g true] [.keep [1,2,26] [2]] rfl ⟨hd2,fun _ => W59 a0 a1 a2 v1 hk1,trivial⟩ ?_
  refine Tri.f 2 [.g true] [.keep [4] []] rfl ⟨rfl,trivial⟩ ?_
  cases h
  exact Tri.ret rfl ⟨.inl rfl,rfl,rfl⟩
 ·obtain ⟨v2,hk3,h⟩ := bind_some h
  refine Tri.f 1 [.v (.bool v1),.g false,.v (.bool v2)] [.keep [1,2,26] [2]] rfl ⟨fun _ => W27 a3 (0 : Int) (IntKind.i64.wrap ((IntKind.i64.wrap (a2 + (a0.length : Int))) - 1)) v2 hk3,hd2,fun _ => W59 a0 a1 a2 v1 hk1,trivial⟩ ?_
  rcases bif_some h with ⟨hd4,h⟩ | ⟨hd4,h⟩
  ·refine Tri.f 2 [.g true] [.keep [4] []] rfl ⟨hd4,trivial⟩ ?_
   cases h
   exact Tri.ret rfl ⟨.inl rfl,rfl,rfl⟩
  ·refine Tri.f 3 [.g false] [.keep [1,2,5,6] [2,6]] rfl ⟨hd4,trivial⟩ ?_
   refine Tri.f 1 [] [.keep [1,2,5,6,28,29,30] [2,6]] rfl trivial ?_
   obtain ⟨v12,hk21,h⟩ := bind_some h
   refine Tri.loop (K1 := [.code [(4,0),(1,0),(0,0)] 0]) (K2 := [.blk 0,.code [] 5]) (fun (v3,v4,v5,v6) => ⟨[(1,.i a3),(2,.ptr 2 0),(5,.i v3),(6,.ptr 6 0),(28,.list (.ratss a0)),(29,.i (a0.length : Int)),(30,.i v4)],[(2,.box [.list (.ratss a0),.list (.ints a1),.i a2]),(6,.box [.i v5,.i v6])]⟩) (fun x e σ' => match x with | v12 => e = .exit 0 ∧ σ' = ⟨[(5,.i v12)],[]⟩) hk21 rfl rfl ?_ ?_
   ·intro s x hs
    clear h
    have h := hs
    clear hs
    obtain ⟨v3,v4,v5,v6⟩ := s
    refine Tri.f 1 [] [.keep [1,2,5,6,28,29,30,31] [2,6]] rfl trivial ?_
    rcases bif_some h with ⟨hd5,h⟩ | ⟨hd5,h⟩
    ·obtain ⟨hg6,h⟩ := grd_some h
     refine Tri.f 2 [.g true] [.keep [1,2,5,6,7,8,28,29,30] [2,6]] rfl ⟨hg6,hd5,trivial⟩ ?_
     obtain ⟨hg7,h⟩ := grd_some h
     obtain ⟨v7,hk8,h⟩ := bind_some h
     refine Tri.f 1 [.v (.i v7)] [.keep [1,2,5,6,7,8,28,29,30,40] [2,6]] rfl ⟨fun _ => W68 (((a0.getD v4.toNat []).getD a3.toNat ⟨0,0⟩).num) (((a0.getD v4.toNat []).getD a3.toNat ⟨0,0⟩).den) v7 hk8,hg7,trivial⟩ ?_
     rcases bif_some h with ⟨hd9,h⟩ | ⟨hd9,h⟩
     ·refine Tri.f 2 [.g true] [.keep [1,2,5,6,28,29,30] [2,6]] rfl ⟨hd9,trivial⟩ ?_
      cases h
      exact Tri.nil ⟨rfl,rfl⟩
     ·obtain ⟨hg10,h⟩ := grd_some h
      obtain ⟨hg11,h⟩ := grd_some h
      obtain ⟨⟨v8,v9,v10⟩,hk12,h⟩ := bind_some h
      refine Tri.f 3 [.g false,.v (.tuple [.agg [.i v8,.i v9],.bool v10])] [.keep [1,2,5,6,7,9,28,29,30,56] [2,6,9]] rfl ⟨fun _ => W70 (((a0.getD v4.toNat []).getD ((IntKind.i64.wrap (((a0.getD v4.toNat []).length : Int) - 1)).toNat) ⟨0,0⟩).num) (((a0.getD v4.toNat []).getD ((IntKind.i64.wrap (((a0.getD v4.toNat []).length : Int) - 1)).toNat) ⟨0,0⟩).den) (((a0.getD v4.toNat []).getD a3.toNat ⟨0,0⟩).num) (((a0.getD v4.toNat []).getD a3.toNat ⟨0,0⟩).den) (v8,v9,v10) hk12,hg11,hg10,hd9,trivial⟩ ?_
      rcases bif_some h with ⟨hd13,h⟩ | ⟨hd13,h⟩
      ·refine Tri.f 2 [.g true] [.keep [1,2,5,6,28,29,30] [2,6]] rfl ⟨hd13,trivial⟩ ?_
       cases h
       exact Tri.nil ⟨rfl,rfl⟩
      ·obtain ⟨v11,hk14,h⟩ := bind_some h
       refine Tri.f 2 [.g false,.v (.i v11)] [.keep [1,2,5,6,7,9,11,28,29,30] [2,6,9]] rfl ⟨fun _ => W67 v8 v9 v5 v6 v11 hk14,hd13,trivial⟩ ?_
       rcases bif_some h with ⟨hd15,h⟩ | ⟨hd15,h⟩
       ·refine Tri.f 1 [.g true,.g true] [.keep [1,2,5,6,7,9,28,29,30,82] [2,6,9]] rfl ⟨rfl,hd15,trivial⟩ ?_
        refine Tri.f 3 [.g true] [.keep [1,2,5,6,28,29,30] [2,6]] rfl ⟨rfl,trivial⟩ ?_
        cases h
        exact Tri.nil ⟨rfl,rfl⟩
       ·rcases bif_some h with ⟨hd16,h⟩ | ⟨hd16,h⟩
        ·refine Tri.f 1 [.g false,.g true] [.keep [1,2,5,6,7,9,28,29,30,82] [2,6,9]] rfl ⟨hd16,hd15,trivial⟩ ?_
         refine Tri.f 3 [.g true] [.keep [1,2,5,6,28,29,30] [2,6]] rfl ⟨rfl,trivial⟩ ?_
         cases h
         exact Tri.nil ⟨rfl,rfl⟩
        ·rcases bif_some h with ⟨hd17,h⟩ | ⟨hd17,h⟩
         ·obtain ⟨hg18,h⟩ := grd_some h
          obtain ⟨hg19,h⟩ := grd_some h
          refine Tri.f 1 [.g false,.g false,.g true] [.keep [1,2,5,6,7,9,28,29,30,82] [2,6,9]] rfl ⟨hg19,hg18,hd17,hd16,hd15,trivial⟩ ?_
          rcases bif_some h with ⟨hd20,h⟩ | ⟨hd20,h⟩
          ·refine Tri.f 3 [.g true] [.keep [1,2,5,6,28,29,30] [2,6]] rfl ⟨hd20,trivial⟩ ?_
           cases h
           exact Tri.nil ⟨rfl,rfl⟩
          ·refine Tri.f 2 [.g false] [.keep [1,2,5,6,28,29,30] [2,6]] rfl ⟨hd20,trivial⟩ ?_
           cases h
           exact Tri.nil ⟨rfl,rfl⟩
         ·refine Tri.f 1 [.g false,.g false,.g false] [.keep [1,2,5,6,7,9,28,29,30,82] [2,6,9]] rfl ⟨hd17,hd16,hd15,trivial⟩ ?_
          refine Tri.f 2 [.g false] [.keep [1,2,5,6,28,29,30] [2,6]] rfl ⟨rfl,trivial⟩ ?_
          cases h
          exact Tri.nil ⟨rfl,rfl⟩
    ·refine Tri.f 1 [.g false] [.keep [5] []] rfl ⟨hd5,trivial⟩ ?_
     cases h
     exact Tri.out 0 rfl ⟨nofun,rfl,rfl⟩
   ·intro e σ' hne hq
    obtain ⟨rfl,rfl⟩ := hq
    refine TriX.exit (K' := [.code [] 5]) rfl ?_
    refine Tri.f 1 [] [.keep [4] []] rfl trivial ?_
    cases h
    exact Tri.ret rfl ⟨.inl rfl,rfl,rfl⟩
noncomputable def E353 : Env := ⟨Tryz.prog,tys,(Tryz.f205.body).getD .skip,8,tysOk,mixedOk⟩
abbrev K214 (r : List Int) (σ' : ASt) : Prop := isRes E353.T Tryz.f205 (.sl 1000 0) [(1000,.arr 3 0 0 (.ints r))] σ'
noncomputable def m_slices_Clone_int_int (a0 : List Int) : Option (List Int) :=
grd (([] : List Int).length + a0.length ≤ room) <|
some ([] ++ a0)
theorem W72 (a0 r : List Int) (h : m_slices_Clone_int_int a0 = some r) : AM.Spec Tryz.prog 205 [.list (.ints a0)] [] (.sl 1000 0) [(1000,.arr 3 0 0 (.ints r))] := by
 refine spec_of (E := E353) Tryz.func205 rfl rfl rfl rfl ?_
 refine Tri.f 2 [] [.keep [0,4] []] rfl trivial ?_
 refine Tri.any (p := (.ints a0)) (Kt := [.code [(1,0),(1,0)] 0,.code [] 2]) (Kf := [.code [(1,0),(1,1)] 0,.code [] 2]) rfl (fun hnil => ?_) ?_
 ·have hnil := List.eq_nil_of_length_eq_zero hnil
  subst hnil
  have h := (grd_some h).2
  have h : (some []) = some _ := h
  refine Tri.f 1 [] [.own 2 [] 1100 3,.swap 1100 1000,.keep [2] [1000]] rfl trivial ?_
  cases h
  exact Tri.ret rfl ⟨.inl rfl,rfl,rfl⟩
 ·obtain ⟨hg1,h⟩ := grd_some h
  refine Tri.f 1 [] [.rever 5,.swap 5 1000,.keep [2] [1000]] rfl ⟨hg1,trivial⟩ ?_
  cases h
  exact Tri.ret rfl ⟨.inl rfl,rfl,rfl⟩
noncomputable def E354 : Env := ⟨Tryz.prog,tys,(Tryz.f202.body).getD .skip,28,tysOk,mixedOk⟩
abbrev K215 (r : Int × (List (List Q)) × (List Int)) (σ' : ASt) : Prop := isRes E354.T Tryz.f202 (.agg [.sl 1000 0,.sl 1001 0,.i r.1]) [(1000,.arr 26 0 0 (.ratss r.2.1)),(1001,.arr 3 0 0 (.ints r.2.2))] σ'
noncomputable def l_impl_cloneTableau_0 (a0 : List (List Q)) : (Int × (List (List Q))) → Option ((Int × (List (List Q))) ⊕ ((List (List Q))))
 | (v2,v3) => (
bif decide (v2 < (a0.length : Int)) then
(grd (0 ≤ v2 ∧ v2 < (a0.length : Int)) <|
(m_slices_Clone_impl_Rat_impl_Rat (a0.getD v2.toNat [])).bind fun v4 =>
grd (v3.length + ([v4] : List (List Q)).length ≤ room) <|
some (.inl (IntKind.i64.wrap (v2 + 1),v3 ++ [v4])))
else
(some (.inr v3)))
noncomputable def m_impl_cloneTableau (a0 : List (List Q)) (a1 : List Int) (a2 : Int) : Option (Int × (List (List Q)) × (List Int)) :=
(m_slices_Clone_int_int a1).bind fun v1 =>
(iter (l_impl_cloneTableau_0 a0) ((0 : Int),[])).bind fun
| v5 => (
some (a2,v5,v1))
theorem W73 (a0 : List (List Q)) (a1 : List Int) (a2 : Int) (r : Int × (List (List Q)) × (List Int)) (h : m_impl_cloneTableau a0 a1 a2 = some r) : AM.Spec Tryz.prog 202 [.agg [.list (.ratss a0),.list (.ints a1),.i a2]] [] (.agg [.sl 1000 0,.sl 1001 0,.i r.1]) [(1000,.arr 26 0 0 (.ratss r.2.1)),(1001,.arr 3 0 0 (.ints r.2.2))] := by
 refine spec_of (E := E354) Tryz.func202 rfl rfl rfl rfl ?_
 refine Tri.f 1 [] [.keep [1,2] [1,2],.ownc 2 0 1100 26,.ownc 2 1 1101 3,.keep [1,2] [1,2,1100,1101]] rfl trivial ?_
 obtain ⟨v1,hk1,h⟩ := bind_some h
 refine Tri.f 2 [.r ⟨[],.sl 1102 0,[(1102,.arr 3 0 0 (.ints v1))]⟩] [.ownc 3 0 1103 26,.keep [2,3,13,14,15] [2,3,1100,1101,1102,1103]] rfl ⟨fun _ => (W72 a1 v1 hk1).swap 1000 1102,trivial⟩ ?_
 obtain ⟨v5,hk6,h⟩ := bind_some h
 refine Tri.loop (K1 := [.code [(2,0),(1,0),(0,0)] 0]) (K2 := [.blk 0,.code [] 3]) (fun (v2,v3) => ⟨[(2,.ptr 2 0),(3,.ptr 3 0),(13,.list (.ratss a0)),(14,.i (a0.length : Int)),(15,.i v2)],[(2,.box [.sl 1100 0,.sl 1101 0,.i 0]),(3,.box [.sl 1103 0,.sl 1102 0,.i a2]),(1100,.arr 26 0 0 (.ratss [])),(1101,.arr 3 0 0 (.ints [])),(1102,.arr 3 0 0 (.ints v1)),(1103,.arr 26 0 0 (.ratss v3))]⟩) (fun x e σ' => match x with | v5 => e = .exit 0 ∧ σ' = ⟨[(2,.ptr 2 0),(3,.ptr 3 0)],[(2,.box [.sl 1100 0,.sl 1101 0,.i 0]),(3,.box [.sl 1103 0,.sl 1102 0,.i a2]),(1100,.arr 26 0 0 (.ratss [])),(1101,.arr 3 0 0 (.ints [])),(1102,.arr 3 0 0 (.ints v1)),(1103,.arr 26 0 0 (.ratss v5))]⟩) hk6 rfl rfl ?_ ?_
 ·intro s x hs
  clear h
  have h := hs
  clear hs
  obtain ⟨v2,v3⟩ := s
  refine Tri.f 1 [] [.keep [2,3,13,14,15,16] [2,3,1100,1101,1102,1103]] rfl trivial ?_
  rcases bif_some h with ⟨hd2,h⟩ | ⟨hd2,h⟩
  ·obtain ⟨hg3,h⟩ := grd_some h
   refine Tri.f 2 [.g true] [.keep [2,3,5,13,14,15] [2,3,1100,1101,1102,1103]] rfl ⟨hg3,hd2,trivial⟩ ?_
   obtain ⟨v4,hk4,h⟩ := bind_some h
   obtain ⟨hg5,h⟩ := grd_some h
   refine Tri.f 2 [.r ⟨[],.sl 1104 0,[(1104,.arr 31 0 0 (.rats v4))]⟩] [.rever 1103,.keep [2,3,13,14,15] [2,3,1100,1101,1102,1103]] rfl ⟨hg5,fun _ => (W60 (a0.getD v2.toNat []) v4 hk4).swap 1000 1104,trivial⟩ ?_
   cases h
   exact Tri.nil ⟨rfl,rfl⟩
  ·refine Tri.f 1 [.g false] [.keep [2,3] [2,3,1100,1101,1102,1103]] rfl ⟨hd2,trivial⟩ ?_
   cases h
   exact Tri.out 0 rfl ⟨nofun,rfl,rfl⟩
 ·intro e σ' hne hq
  obtain ⟨rfl,rfl⟩ := hq
  refine TriX.exit (K' := [.code [] 3]) rfl ?_
  refine Tri.f 1 [] [.swap 1103 1000,.swap 1102 1001,.keep [2] [2,1000,1001]] rfl trivial ?_
  cases h
  exact Tri.ret rfl ⟨.inl rfl,rfl,rfl⟩
noncomputable def E355 : Env := ⟨Tryz.prog,tys,(Tryz.f188.body).getD .skip,134,tysOk,mixedOk⟩
abbrev K216 (r : Int × Bool × (List (List Q)) × (List Int)) (σ' : ASt) : Prop := isRes E355.T Tryz.f188 (.tuple [.agg [.sl 1000 0,.sl 1001 0,.i r.1],.bool r.2.1]) [(1000,.arr 26 0 0 (.ratss r.2.2.1)),(1001,.arr 3 0 0 (.ints r.2.2.2))] σ'
noncomputable def l_impl_PivotTableau_0 (a0 : List (List Q)) (a1 : List Int) (a2 a3 a4 : Int) : (Int × (List (List Q))) → Option ((Int × (List (List Q))) ⊕ ((List (List Q)) ⊕ ((Int × Bool × (List (List Q)) × (List Int)))))
 | (v16,v17) => (
bif decide (v16 < ((a0.getD a3.toNat []).length : Int)) then
(grd (0 ≤ v16 ∧ v16 < ((a0.getD a3.toNat []).length : Int)) <|
(m_impl_DivRat (((a0.getD a3.toNat []).getD v16.toNat ⟨0,0⟩).num) (((a0.getD a3.toNat []).getD v16.toNat ⟨0,0⟩).den) (((a0.getD a3.toNat []).getD a4.toNat ⟨0,0⟩).num) (((a0.getD a3.toNat []).getD a4.toNat ⟨0,0⟩).den)).bind fun (v18,v19,v20) =>
bif !v20 then
((m_impl_cloneTableau a0 a1 a2).bind fun (v21,v22,v23) =>
some (.inr (.inr (v21,false,v22,v23))))
else
(grd (0 ≤ a3 ∧ a3 < (v17.length : Int)) <|
grd (0 ≤ v16 ∧ v16 < ((v17.getD a3.toNat []).length : Int)) <|
some (.inl (IntKind.i64.wrap (v16 + 1),v17.set a3.toNat ((v17.getD a3.toNat []).set v16.toNat ⟨v18,v19⟩)))))
else
(some (.inr (.inl v17))))
noncomputable def l_impl_PivotTableau_1 (a0 : List (List Q)) (a1 : List Int) (a2 a3 a4 : Int) : (Int × (List (List Q))) → Option ((Int × (List (List Q))) ⊕ ((List (List Q)) ⊕ ((Int × Bool × (List (List Q)) × (List Int)))))
 | (v25,v26) => (
bif decide (v25 < (a0.length : Int)) then
(grd (0 ≤ v25 ∧ v25 < (a0.length : Int)) <|
bif v25 == a3 then
(some (.inl (IntKind.i64.wrap (v25 + 1),v26)))
else
(grd (0 ≤ a4 ∧ a4 < ((a0.getD v25.toNat []).length : Int)) <|
(m_impl_whole (0 : Int)).bind fun (v27,v28) =>
bif (((a0.getD v25.toNat []).getD a4.toNat ⟨0,0⟩).num) == v27 && (((a0.getD v25.toNat []).getD a4.toNat ⟨0,0⟩).den) == v28 then
(some (.inl (IntKind.i64.wrap (v25 + 1),v26)))
else
(grd (0 ≤ a4 ∧ a4 < ((a0.getD v25.toNat []).length : Int)) <|
(m_impl_minus (((a0.getD v25.toNat []).getD a4.toNat ⟨0,0⟩).num) (((a0.getD v25.toNat []).getD a4.toNat ⟨0,0⟩).den)).bind fun (v29,v30) =>
grd (0 ≤ a3 ∧ a3 < (v26.length : Int)) <|
(m_impl_AddScaled (a0.getD v25.toNat []) v29 v30 (v26.getD a3.toNat [])).bind fun (v31,v32) =>
bif !v31 then
((m_impl_cloneTableau a0 a1 a2).bind fun (v33,v34,v35) =>
some (.inr (.inr (v33,false,v34,v35))))
else
(grd (0 ≤ v25 ∧ v25 < (v26.length : Int)) <|
some (.inl (IntKind.i64.wrap (v25 + 1),v26.set v25.toNat v32))))))
else
(some (.inr (.inl v26))))
noncomputable def m_impl_PivotTableau (a0 : List (List Q)) (a1 : List Int) (a2 a3 a4 : Int) : Option (Int × Bool × (List (List Q)) × (List Int)) :=
(m_impl_formed a0 a1 a2).bind fun v1 =>
bif !v1 then
((m_impl_cloneTableau a0 a1 a2).bind fun (v2,v3,v4) =>
some (v2,false,v3,v4))
else
((m_impl_within a3 (0 : Int) (IntKind.i64.wrap ((a0.length : Int) - 1))).bind fun v5 =>
bif !v5 then
((m_impl_cloneTableau a0 a1 a2).bind fun (v6,v7,v8) =>
some (v6,false,v7,v8))
else
((m_impl_within a4 (0 : Int) (IntKind.i64.wrap ((IntKind.i64.wrap (a2 + (a0.length : Int))) - 1))).bind fun v9 =>
bif !v9 then
((m_impl_cloneTableau a0 a1 a2).bind fun (v10,v11,v12) =>
some (v10,false,v11,v12))
else
((m_impl_cloneTableau a0 a1 a2).bind fun (v13,v14,v15) =>
grd (0 ≤ a3 ∧ a3 < (a0.length : Int)) <|
grd (0 ≤ a4 ∧ a4 < ((a0.getD a3.toNat []).length : Int)) <|
grd (0 ≤ a3 ∧ a3 < (a0.length : Int)) <|
(iter (l_impl_PivotTableau_0 a0 a1 a2 a3 a4) ((0 : Int),v14)).bind fun
| (.inl v24) => (
(iter (l_impl_PivotTableau_1 a0 a1 a2 a3 a4) ((0 : Int),v24)).bind fun
| (.inl v36) => (
grd (0 ≤ a3 ∧ a3 < (v15.length : Int)) <|
some (v13,true,v36,v15.set a3.toNat a4))
| (.inr r) => some r)
| (.inr r) => some r)))
theorem W74 (a0 : List (List Q)) (a1 : List Int) (a2 a3 a4 : Int) (r : Int × Bool × (List (List Q)) × (List Int)) (h : m_impl_PivotTableau a0 a1 a2 a3 a4 = some r) : AM.Spec Tryz.prog 188 [.agg [.list (.ratss a0),.list (.ints a1),.i a2],.i a3,.i a4] [] (.tuple [.agg [.sl 1000 0,.sl 1001 0,.i r.1],.bool r.2.1]) [(1000,.arr 26 0 0 (.ratss r.2.2.1)),(1001,.arr 3 0 0 (.ints r.2.2.2))] := by
 refine spec_of (E := E355) Tryz.func188 rfl rfl rfl rfl ?_
 refine Tri.f 1 [] [.keep [1,2,3,6] [3,6],.ownc 6 0 1100 26,.ownc 6 1 1101 3,.keep [1,2,3,6] [3,6,1100,1101]] rfl trivial ?_
 obtain ⟨v1,hk1,h⟩ := bind_some h
 rcases bif_some h with ⟨hd2,h⟩ | ⟨hd2,h⟩
 ·refine Tri.f 1 [.v (.bool v1),.g true,.g true] [.keep [1,2,3,6,41] [3,6,1100,1101]] rfl ⟨rfl,hd2,fun _ => W59 a0 a1 a2 v1 hk1,trivial⟩ ?_
  obtain ⟨⟨v2,v3,v4⟩,hk3,h⟩ := bind_some h
  refine Tri.f 2 [.g true,.r ⟨[],.agg [.sl 1102 0,.sl 1103 0,.i v2],[(1102,.arr 26 0 0 (.ratss v3)),(1103,.arr 3 0 0 (.ints v4))]⟩] [.swap 1102 1000,.swap 1103 1001,.keep [6,7] [6,1000,1001]] rfl ⟨fun _ => ((W73 a0 a1 a2 (v2,v3,v4) hk3).swap 1000 1102).swap 1001 1103,rfl,trivial⟩ ?_
  cases h
  exact Tri.ret rfl ⟨.inl rfl,rfl,rfl⟩
 ·obtain ⟨v5,hk4,h⟩ := bind_some h
  rcases bif_some h with ⟨hd5,h⟩ | ⟨hd5,h⟩
  ·refine Tri.f 1 [.v (.bool v1),.g false,.v (.bool v5),.g true] [.keep [1,2,3,6,41] [3,6,1100,1101]] rfl ⟨hd5,fun _ => W27 a3 (0 : Int) (IntKind.i64.wrap ((a0.length : Int) - 1)) v5 hk4,hd2,fun _ => W59 a0 a1 a2 v1 hk1,trivial⟩ ?_
   obtain ⟨⟨v6,v7,v8⟩,hk6,h⟩ := bind_some h
   refine Tri.f 2 [.g true,.r ⟨[],.agg [.sl 1104 0,.sl 1105 0,.i v6],[(1104,.arr 26 0 0 (.ratss v7)),(1105,.arr 3 0 0 (.ints v8))]⟩] [.swap 1104 1000,.swap 1105 1001,.keep [6,7] [6,1000,1001]] rfl ⟨fun _ => ((W73 a0 a1 a2 (v6,v7,v8) hk6).swap 1000 1104).swap 1001 1105,rfl,trivial⟩ ?_
   cases h
   exact Tri.ret rfl ⟨.inl rfl,rfl,rfl⟩
  ·obtain ⟨v9,hk7,h⟩ := bind_some h
   refine Tri.f 1 [.v (.bool v1),.g false,.v (.bool v5),.g false,.v (.bool v9)] [.keep [1,2,3,6,41] [3,6,1100,1101]] rfl ⟨fun _ => W27 a4 (0 : Int) (IntKind.i64.wrap ((IntKind.i64.wrap (a2 + (a0.length : Int))) - 1)) v9 hk7,hd5,fun _ => W27 a3 (0 : Int) (IntKind.i64.wrap ((a0.length : Int) - 1)) v5 hk4,hd2,fun _ => W59 a0 a1 a2 v1 hk1,trivial⟩ ?_
   rcases bif_some h with ⟨hd8,h⟩ | ⟨hd8,h⟩
   ·obtain ⟨⟨v10,v11,v12⟩,hk9,h⟩ := bind_some h
    refine Tri.f 2 [.g true,.r ⟨[],.agg [.sl 1106 0,.sl 1107 0,.i v10],[(1106,.arr 26 0 0 (.ratss v11)),(1107,.arr 3 0 0 (.ints v12))]⟩] [.swap 1106 1000,.swap 1107 1001,.keep [6,7] [6,1000,1001]] rfl ⟨fun _ => ((W73 a0 a1 a2 (v10,v11,v12) hk9).swap 1000 1106).swap 1001 1107,hd8,trivial⟩ ?_
    cases h
    exact Tri.ret rfl ⟨.inl rfl,rfl,rfl⟩
   ·obtain ⟨⟨v13,v14,v15⟩,hk10,h⟩ := bind_some h
    obtain ⟨hg11,h⟩ := grd_some h
    obtain ⟨hg12,h⟩ := grd_some h
    refine Tri.f 3 [.g false,.r ⟨[],.agg [.sl 1108 0,.sl 1109 0,.i v13],[(1108,.arr 26 0 0 (.ratss v14)),(1109,.arr 3 0 0 (.ints v15))]⟩] [.keep [1,2,3,6,8,9] [3,6,8,9,1100,1101,1108,1109]] rfl ⟨hg12,hg11,fun _ => ((W73 a0 a1 a2 (v13,v14,v15) hk10).swap 1000 1108).swap 1001 1109,hd8,trivial⟩ ?_
    obtain ⟨hg13,h⟩ := grd_some h
    refine Tri.f 1 [] [.keep [1,2,3,6,8,9,58,59,60] [3,6,8,9,1100,1101,1108,1109]] rfl ⟨hg13,trivial⟩ ?_
    obtain ⟨x1,hk21,h⟩ := bind_some h
    refine Tri.loop (K1 := [.code [(4,0),(1,0),(0,0)] 0]) (K2 := [.blk 0,.code [] 5]) (fun (v16,v17) => ⟨[(1,.i a3),(2,.i a4),(3,.ptr 3 0),(6,.ptr 6 0),(8,.ptr 8 0),(9,.ptr 9 0),(58,.list (.rats (a0.getD a3.toNat []))),(59,.i ((a0.getD a3.toNat []).length : Int)),(60,.i v16)],[(3,.box [.list (.ratss a0),.list (.ints a1),.i a2]),(6,.box [.sl 1100 0,.sl 1101 0,.i 0]),(8,.box [.sl 1108 0,.sl 1109 0,.i v13]),(9,.box [.i (((a0.getD a3.toNat []).getD a4.toNat ⟨0,0⟩).num),.i (((a0.getD a3.toNat []).getD a4.toNat ⟨0,0⟩).den)]),(1100,.arr 26 0 0 (.ratss [])),(1101,.arr 3 0 0 (.ints [])),(1108,.arr 26 0 0 (.ratss v17)),(1109,.arr 3 0 0 (.ints v15))]⟩) (fun x e σ' => match x with | (.inl v24) => e = .exit 0 ∧ σ' = ⟨[(1,.i a3),(2,.i a4),(3,.ptr 3 0),(6,.ptr 6 0),(8,.ptr 8 0)],[(3,.box [.list (.ratss a0),.list (.ints a1),.i a2]),(6,.box [.sl 1100 0,.sl 1101 0,.i 0]),(8,.box [.sl 1108 0,.sl 1109 0,.i v13]),(1100,.arr 26 0 0 (.ratss [])),(1101,.arr 3 0 0 (.ints [])),(1108,.arr 26 0 0 (.ratss v24)),(1109,.arr 3 0 0 (.ints v15))]⟩ | (.inr r) => e = .ret ∧ K216 r σ') hk21 rfl rfl ?_ ?_
    ·intro s x hs
     clear h
     have h := hs
     clear hs
     obtain ⟨v16,v17⟩ := s
     refine Tri.f 1 [] [.keep [1,2,3,6,8,9,58,59,60,61] [3,6,8,9,1100,1101,1108,1109]] rfl trivial ?_
     rcases bif_some h with ⟨hd14,h⟩ | ⟨hd14,h⟩
     ·obtain ⟨hg15,h⟩ := grd_some h
      refine Tri.f 2 [.g true] [.keep [1,2,3,6,8,9,10,11,58,59,60] [3,6,8,9,11,1100,1101,1108,1109]] rfl ⟨hg15,hd14,trivial⟩ ?_
      obtain ⟨⟨v18,v19,v20⟩,hk16,h⟩ := bind_some h
      refine Tri.f 2 [.v (.tuple [.agg [.i v18,.i v19],.bool v20])] [.keep [1,2,3,6,8,9,10,12,58,59,60,72] [3,6,8,9,12,1100,1101,1108,1109]] rfl ⟨fun _ => W70 (((a0.getD a3.toNat []).getD v16.toNat ⟨0,0⟩).num) (((a0.getD a3.toNat []).getD v16.toNat ⟨0,0⟩).den) (((a0.getD a3.toNat []).getD a4.toNat ⟨0,0⟩).num) (((a0.getD a3.toNat []).getD a4.toNat ⟨0,0⟩).den) (v18,v19,v20) hk16,trivial⟩ ?_
      rcases bif_some h with ⟨hd17,h⟩ | ⟨hd17,h⟩
      ·obtain ⟨⟨v21,v22,v23⟩,hk18,h⟩ := bind_some h
       refine Tri.f 2 [.g true,.r ⟨[],.agg [.sl 1110 0,.sl 1111 0,.i v21],[(1110,.arr 26 0 0 (.ratss v22)),(1111,.arr 3 0 0 (.ints v23))]⟩] [.swap 1110 1000,.swap 1111 1001,.keep [6,7] [6,1000,1001]] rfl ⟨fun _ => ((W73 a0 a1 a2 (v21,v22,v23) hk18).swap 1000 1110).swap 1001 1111,hd17,trivial⟩ ?_
       cases h
       exact Tri.ret rfl ⟨nofun,rfl,rfl,rfl⟩
      ·obtain ⟨hg19,h⟩ := grd_some h
       obtain ⟨hg20,h⟩ := grd_some h
       refine Tri.f 3 [.g false] [.keep [1,2,3,6,8,9,58,59,60] [3,6,8,9,1100,1101,1108,1109]] rfl ⟨hg20,hg19,hd17,trivial⟩ ?_
       cases h
       exact Tri.nil ⟨rfl,rfl⟩
     ·refine Tri.f 1 [.g false] [.keep [1,2,3,6,8] [3,6,8,1100,1101,1108,1109]] rfl ⟨hd14,trivial⟩ ?_
      cases h
      exact Tri.out 0 rfl ⟨nofun,rfl,rfl⟩
    ·intro e σ' hne hq
     rcases x1 with v24 | r
     ·obtain ⟨rfl,rfl⟩ := hq
      refine TriX.exit (K' := [.code [] 5]) rfl ?_
      refine Tri.f 1 [] [.keep [1,2,3,6,8,85,86,87] [3,6,8,1100,1101,1108,1109]] rfl trivial ?_
      obtain ⟨x2,hk35,h⟩ := bind_some h
      refine Tri.loop (K1 := [.code [(5,0),(1,0),(0,0)] 0]) (K2 := [.blk 2,.code [] 6]) (fun (v25,v26) => ⟨[(1,.i a3),(2,.i a4),(3,.ptr 3 0),(6,.ptr 6 0),(8,.ptr 8 0),(85,.list (.ratss a0)),(86,.i (a0.length : Int)),(87,.i v25)],[(3,.box [.list (.ratss a0),.list (.ints a1),.i a2]),(6,.box [.sl 1100 0,.sl 1101 0,.i 0]),(8,.box [.sl 1108 0,.sl 1109 0,.i v13]),(1100,.arr 26 0 0 (.ratss [])),(1101,.arr 3 0 0 (.ints [])),(1108,.arr 26 0 0 (.ratss v26)),(1109,.arr 3 0 0 (.ints v15))]⟩) (fun x e σ' => match x with | (.inl v36) => e = .exit 2 ∧ σ' = ⟨[(1,.i a3),(2,.i a4),(6,.ptr 6 0),(8,.ptr 8 0)],[(6,.box [.sl 1100 0,.sl 1101 0,.i 0]),(8,.box [.sl 1108 0,.sl 1109 0,.i v13]),(1100,.arr 26 0 0 (.ratss [])),(1101,.arr 3 0 0 (.ints [])),(1108,.arr 26 0 0 (.ratss v36)),(1109,.arr 3 0 0 (.ints v15))]⟩ | (.inr r) => e = .ret ∧ K216 r σ') hk35 rfl rfl ?_ ?_
      ·intro s x hs
       clear h
       have h := hs
       clear hs
       obtain ⟨v25,v26⟩ := s
       refine Tri.f 1 [] [.keep [1,2,3,6,8,85,86,87,88] [3,6,8,1100,1101,1108,1109]] rfl trivial ?_
       rcases bif_some h with ⟨hd22,h⟩ | ⟨hd22,h⟩
       ·obtain ⟨hg23,h⟩ := grd_some h
        refine Tri.f 2 [.g true] [.keep [1,2,3,6,8,14,15,85,86,87] [3,6,8,1100,1101,1108,1109]] rfl ⟨hg23,hd22,trivial⟩ ?_
        rcases bif_some h with ⟨hd24,h⟩ | ⟨hd24,h⟩
        ·refine Tri.f 1 [.g true] [.keep [1,2,3,6,8,14,15,85,86,87,102] [3,6,8,1100,1101,1108,1109]] rfl ⟨hd24,trivial⟩ ?_
         refine Tri.f 2 [.g true] [.keep [1,2,3,6,8,85,86,87] [3,6,8,1100,1101,1108,1109]] rfl ⟨rfl,trivial⟩ ?_
         cases h
         exact Tri.nil ⟨rfl,rfl⟩
        ·obtain ⟨hg25,h⟩ := grd_some h
         obtain ⟨⟨v27,v28⟩,hk26,h⟩ := bind_some h
         refine Tri.f 1 [.g false,.v (.agg [.i v27,.i v28])] [.keep [1,2,3,6,8,14,15,85,86,87,102] [3,6,8,1100,1101,1108,1109]] rfl ⟨fun _ => W36 (0 : Int) (v27,v28) hk26,hg25,hd24,trivial⟩ ?_
         rcases bif_some h with ⟨hd27,h⟩ | ⟨hd27,h⟩
         ·refine Tri.f 2 [.g true] [.keep [1,2,3,6,8,85,86,87] [3,6,8,1100,1101,1108,1109]] rfl ⟨hd27,trivial⟩ ?_
          cases h
          exact Tri.nil ⟨rfl,rfl⟩
         ·obtain ⟨hg28,h⟩ := grd_some h
          obtain ⟨⟨v29,v30⟩,hk29,h⟩ := bind_some h
          obtain ⟨hg30,h⟩ := grd_some h
          obtain ⟨⟨v31,v32⟩,hk31,h⟩ := bind_some h
          refine Tri.f 3 [.g false,.v (.agg [.i v29,.i v30]),.r ⟨[],.tuple [.sl 1112 0,.bool v31],[(1112,.arr 31 0 0 (.rats v32))]⟩] [.keep [1,2,3,6,8,14,16,85,86,87,119] [3,6,8,1100,1101,1108,1109,1112]] rfl ⟨fun _ => (W65 (a0.getD v25.toNat []) v29 v30 (v26.getD a3.toNat []) (v31,v32) hk31).swap 1000 1112,hg30,fun _ => W61 (((a0.getD v25.toNat []).getD a4.toNat ⟨0,0⟩).num) (((a0.getD v25.toNat []).getD a4.toNat ⟨0,0⟩).den) (v29,v30) hk29,hg28,hd27,trivial⟩ ?_
          rcases bif_some h with ⟨hd32,h⟩ | ⟨hd32,h⟩
          ·obtain ⟨⟨v33,v34,v35⟩,hk33,h⟩ := bind_some h
           refine Tri.f 2 [.g true,.r ⟨[],.agg [.sl 1113 0,.sl 1114 0,.i v33],[(1113,.arr 26 0 0 (.ratss v34)),(1114,.arr 3 0 0 (.ints v35))]⟩] [.swap 1113 1000,.swap 1114 1001,.keep [6,7] [6,1000,1001]] rfl ⟨fun _ => ((W73 a0 a1 a2 (v33,v34,v35) hk33).swap 1000 1113).swap 1001 1114,hd32,trivial⟩ ?_
           cases h
           exact Tri.ret rfl ⟨nofun,rfl,rfl,rfl⟩
          ·obtain ⟨hg34,h⟩ := grd_some h
           refine Tri.f 3 [.g false] [.rever 1108,.keep [1,2,3,6,8,85,86,87] [3,6,8,1100,1101,1108,1109]] rfl ⟨hg34,hd32,trivial⟩ ?_
           cases h
           exact Tri.nil ⟨rfl,rfl⟩
       ·refine Tri.f 1 [.g false] [.keep [1,2,6,8] [6,8,1100,1101,1108,1109]] rfl ⟨hd22,trivial⟩ ?_
        cases h
        exact Tri.out 2 rfl ⟨nofun,rfl,rfl⟩
      ·intro e σ' hne hq
       rcases x2 with v36 | r
       ·obtain ⟨rfl,rfl⟩ := hq
        refine TriX.exit (K' := [.code [] 6]) rfl ?_
        obtain ⟨hg36,h⟩ := grd_some h
        refine Tri.f 2 [] [.swap 1108 1000,.swap 1109 1001,.keep [6,7] [6,1000,1001]] rfl ⟨hg36,trivial⟩ ?_
        cases h
        exact Tri.ret rfl ⟨.inl rfl,rfl,rfl⟩
       ·obtain ⟨rfl,hq⟩ := hq
        cases h
        exact TriX.ret ⟨.inl rfl,hq⟩
     ·obtain ⟨rfl,hq⟩ := hq
      cases h
      exact TriX.ret ⟨.inl rfl,hq⟩
noncomputable def E356 : Env := ⟨Tryz.prog,tys,(Tryz.f145.body).getD .skip,42,tysOk,mixedOk⟩
abbrev K217 (r : (List (List Q)) × (List Int) × Int × Int × Bool) (σ' : ASt) : Prop := isRes E356.T Tryz.f145 (.tuple []) [(1000,.arr 26 0 0 (.ratss r.1)),(1001,.arr 3 0 0 (.ints r.2.1)),(2200,.box [.sl 1000 0,.sl 1001 0,.i r.2.2.1,.i r.2.2.2.1,.bool r.2.2.2.2])] σ'
noncomputable def m_impl_solver_pivot_io3 (a0 : List (List Q)) (a1 : List Int) (a2 a3 : Int) (a4 : Bool) (a5 a6 : Int) : Option ((List (List Q)) × (List Int) × Int × Int × Bool) :=
bif a3 == 1000 then
(some (a0,a1,a2,a3,true))
else
((m_impl_PivotTableau a0 a1 a2 a5 a6).bind fun (v1,v2,v3,v4) =>
bif !v2 then
(some (a0,a1,a2,a3,true))
else
(some (v3,v4,v1,IntKind.i64.wrap (a3 + 1),a4)))
theorem W75 (a0 : List (List Q)) (a1 : List Int) (a2 a3 : Int) (a4 : Bool) (a5 a6 : Int) (r : (List (List Q)) × (List Int) × Int × Int × Bool) (h : m_impl_solver_pivot_io3 a0 a1 a2 a3 a4 a5 a6 = some r) : AM.Spec Tryz.prog 145 [.ptr 2200 0,.i a5,.i a6] [(2200,.box [.sl 2201 0,.sl 2202 0,.i a2,.i a3,.bool a4]),(2201,.arr 26 0 0 (.ratss a0)),(2202,.arr 3 0 0 (.ints a1))] (.tuple []) [(1000,.arr 26 0 0 (.ratss r.1)),(1001,.arr 3 0 0 (.ints r.2.1)),(2200,.box [.sl 1000 0,.sl 1001 0,.i r.2.2.1,.i r.2.2.2.1,.bool r.2.2.2.2])] := by
 refine spec_of (E := E356) Tryz.func145 rfl rfl rfl rfl ?_
 refine Tri.f 1 [] [.keep [0,1,2,12] [2200,2201,2202]] rfl trivial ?_
 rcases bif_some h with ⟨hd1,h⟩ | ⟨hd1,h⟩
 ·refine Tri.f 2 [.g true] [.swap 2201 1100,.swap 2202 1101,.swap 1100 1000,.swap 1101 1001,.keep [] [1000,1001,2200]] rfl ⟨hd1,trivial⟩ ?_
  cases h
  exact Tri.ret rfl ⟨.inl rfl,rfl,rfl⟩
 ·obtain ⟨⟨v1,v2,v3,v4⟩,hk2,h⟩ := bind_some h
  refine Tri.f 3 [.g false,.r ⟨[],.tuple [.agg [.sl 1102 0,.sl 1103 0,.i v1],.bool v2],[(1102,.arr 26 0 0 (.ratss v3)),(1103,.arr 3 0 0 (.ints v4))]⟩] [.keep [0,6,27] [6,1102,1103,2200,2201,2202]] rfl ⟨fun _ => ((W74 a0 a1 a2 a5 a6 (v1,v2,v3,v4) hk2).swap 1000 1102).swap 1001 1103,hd1,trivial⟩ ?_
  rcases bif_some h with ⟨hd3,h⟩ | ⟨hd3,h⟩
  ·refine Tri.f 2 [.g true] [.swap 2201 1104,.swap 2202 1105,.swap 1104 1000,.swap 1105 1001,.keep [] [1000,1001,2200]] rfl ⟨hd3,trivial⟩ ?_
   cases h
   exact Tri.ret rfl ⟨.inl rfl,rfl,rfl⟩
  ·refine Tri.f 3 [.g false] [.swap 1102 1000,.swap 1103 1001,.keep [] [1000,1001,2200]] rfl ⟨hd3,trivial⟩ ?_
   cases h
   exact Tri.nil ⟨.inr rfl,rfl,rfl⟩
noncomputable def E357 : Env := ⟨Tryz.prog,tys,(Tryz.f143.body).getD .skip,57,tysOk,mixedOk⟩
abbrev K218 (r : Int × (List Q) × (List (List Q)) × (List Int) × Int × Int × Bool) (σ' : ASt) : Prop := isRes E357.T Tryz.f143 (.tuple [.sl 1000 0,.i r.1]) [(1000,.arr 31 0 0 (.rats r.2.1)),(1001,.arr 26 0 0 (.ratss r.2.2.1)),(1002,.arr 3 0 0 (.ints r.2.2.2.1)),(2180,.box [.sl 1001 0,.sl 1002 0,.i r.2.2.2.2.1,.i r.2.2.2.2.2.1,.bool r.2.2.2.2.2.2])] σ'
noncomputable def l_impl_solver_run_io3_0 (a5 : List Q) : ((List (List Q)) × (List Int) × Int × Int × Bool) → Option (((List (List Q)) × (List Int) × Int × Int × Bool) ⊕ (((List (List Q)) × (List Int) × Int × Int × Bool) ⊕ ((Int × (List Q) × (List (List Q)) × (List Int) × Int × Int × Bool))))
 | (v1,v2,v3,v4,v5) => (
bif !v5 then
((m_impl_CostRow v1 v2 v3 a5).bind fun (v6,v7) =>
bif !v6 then
(some (.inr (.inl (v1,v2,v3,v4,true))))
else
((m_impl_EnteringColumn v1 v2 v3 v7 v3).bind fun v8 =>
bif decide (v8 < 0) then
(some (.inr (.inr ((-1 : Int),v7,v1,v2,v3,v4,v5))))
else
((m_impl_LeavingRow v1 v2 v3 v8).bind fun v9 =>
bif decide (v9 < 0) then
(some (.inr (.inr (v8,v7,v1,v2,v3,v4,v5))))
else
((m_impl_solver_pivot_io3 v1 v2 v3 v4 v5 v9 v8).bind fun (v10,v11,v12,v13,v14) =>
some (.inl (v10,v11,v12,v13,v14))))))
else
(some (.inr (.inl (v1,v2,v3,v4,v5)))))
noncomputable def m_impl_solver_run_io3 (a0 : List (List Q)) (a1 : List Int) (a2 a3 : Int) (a4 : Bool) (a5 : List Q) : Option (Int × (List Q) × (List (List Q)) × (List Int) × Int × Int × Bool) :=
(iter (l_impl_solver_run_io3_0 a5) (a0,a1,a2,a3,a4)).bind fun
| (.inl (v15,v16,v17,v18,v19)) => (
some ((-1 : Int),[],v15,v16,v17,v18,v19))
| (.inr r) => some r
theorem W76 (a0 : List (List Q)) (a1 : List Int) (a2 a3 : Int) (a4 : Bool) (a5 : List Q) (r : Int × (List Q) × (List (List Q)) × (List Int) × Int × Int × Bool) (h : m_impl_solver_run_io3 a0 a1 a2 a3 a4 a5 = some r) : AM.Spec Tryz.prog 143 [.ptr 2180 0,.list (.rats a5)] [(2180,.box [.sl 2181 0,.sl 2182 0,.i a2,.i a3,.bool a4]),(2181,.arr 26 0 0 (.ratss a0)),(2182,.arr 3 0 0 (.ints a1))] (.tuple [.sl 1000 0,.i r.1]) [(1000,.arr 31 0 0 (.rats r.2.1)),(1001,.arr 26 0 0 (.ratss r.2.2.1)),(1002,.arr 3 0 0 (.ints r.2.2.2.1)),(2180,.box [.sl 1001 0,.sl 1002 0,.i r.2.2.2.2.1,.i r.2.2.2.2.2.1,.bool r.2.2.2.2.2.2])] := by
 refine spec_of (E := E357) Tryz.func143 rfl rfl rfl rfl ?_
 refine Tri.f 1 [] [.swap 2181 1100,.swap 2182 1101,.keep [0,1] [1100,1101,2180]] rfl trivial ?_
 obtain ⟨x1,hk9,h⟩ := bind_some h
 refine Tri.loop (K1 := [.code [(1,0),(0,0),(0,0)] 0]) (K2 := [.blk 0,.code [] 2]) (fun (v1,v2,v3,v4,v5) => ⟨[(0,.ptr 2180 0),(1,.list (.rats a5))],[(1100,.arr 26 0 0 (.ratss v1)),(1101,.arr 3 0 0 (.ints v2)),(2180,.box [.sl 1100 0,.sl 1101 0,.i v3,.i v4,.bool v5])]⟩) (fun x e σ' => match x with | (.inl (v15,v16,v17,v18,v19)) => e = .exit 0 ∧ σ' = ⟨[],[(1100,.arr 26 0 0 (.ratss v15)),(1101,.arr 3 0 0 (.ints v16)),(2180,.box [.sl 1100 0,.sl 1101 0,.i v17,.i v18,.bool v19])]⟩ | (.inr r) => e = .ret ∧ K218 r σ') hk9 rfl rfl ?_ ?_
 ·intro s x hs
  clear h
  have h := hs
  clear hs
  obtain ⟨v1,v2,v3,v4,v5⟩ := s
  refine Tri.f 1 [] [.keep [0,1,14] [1100,1101,2180]] rfl trivial ?_
  rcases bif_some h with ⟨hd1,h⟩ | ⟨hd1,h⟩
  ·obtain ⟨⟨v6,v7⟩,hk2,h⟩ := bind_some h
   refine Tri.f 3 [.g true,.r ⟨[],.tuple [.sl 1102 0,.bool v6],[(1102,.arr 31 0 0 (.rats v7))]⟩] [.keep [0,1,6,25] [1100,1101,1102,2180]] rfl ⟨fun _ => (W66 v1 v2 v3 a5 (v6,v7) hk2).swap 1000 1102,hd1,trivial⟩ ?_
   rcases bif_some h with ⟨hd3,h⟩ | ⟨hd3,h⟩
   ·refine Tri.f 2 [.g true] [.keep [] [1100,1101,2180]] rfl ⟨hd3,trivial⟩ ?_
    cases h
    exact Tri.out 0 rfl ⟨nofun,rfl,rfl⟩
   ·obtain ⟨v8,hk4,h⟩ := bind_some h
    refine Tri.f 3 [.g false,.v (.i v8)] [.keep [0,1,6,8,41] [1100,1101,1102,2180]] rfl ⟨fun _ => W69 v1 v2 v3 v7 v3 v8 hk4,hd3,trivial⟩ ?_
    rcases bif_some h with ⟨hd5,h⟩ | ⟨hd5,h⟩
    ·refine Tri.f 2 [.g true] [.swap 1102 1000,.swap 1100 1001,.swap 1101 1002,.keep [4,5] [1000,1001,1002,2180]] rfl ⟨hd5,trivial⟩ ?_
     cases h
     exact Tri.ret rfl ⟨nofun,rfl,rfl,rfl⟩
    ·obtain ⟨v9,hk6,h⟩ := bind_some h
     refine Tri.f 3 [.g false,.v (.i v9)] [.keep [0,1,6,8,9,50] [1100,1101,1102,2180]] rfl ⟨fun _ => W71 v1 v2 v3 v8 v9 hk6,hd5,trivial⟩ ?_
     rcases bif_some h with ⟨hd7,h⟩ | ⟨hd7,h⟩
     ·refine Tri.f 2 [.g true] [.swap 1102 1000,.swap 1100 1001,.swap 1101 1002,.keep [4,5] [1000,1001,1002,2180]] rfl ⟨hd7,trivial⟩ ?_
      cases h
      exact Tri.ret rfl ⟨nofun,rfl,rfl,rfl⟩
     ·obtain ⟨⟨v10,v11,v12,v13,v14⟩,hk8,h⟩ := bind_some h
      refine Tri.f 2 [.g false,.r ⟨[2180,1100,1101],.tuple [],[(1103,.arr 26 0 0 (.ratss v10)),(1104,.arr 3 0 0 (.ints v11)),(2180,.box [.sl 1103 0,.sl 1104 0,.i v12,.i v13,.bool v14])]⟩] [.swap 1103 1100,.swap 1104 1101,.keep [0,1] [1100,1101,2180]] rfl ⟨fun _ => (((((W75 v1 v2 v3 v4 v5 v9 v8 (v10,v11,v12,v13,v14) hk8).swap 1000 1103).swap 1001 1104).swap 2200 2180).swap 2201 1100).swap 2202 1101,hd7,trivial⟩ ?_
      cases h
      exact Tri.nil ⟨rfl,rfl⟩
  ·refine Tri.f 1 [.g false] [.keep [] [1100,1101,2180]] rfl ⟨hd1,trivial⟩ ?_
   cases h
   exact Tri.out 0 rfl ⟨nofun,rfl,rfl⟩
 ·intro e σ' hne hq
  rcases x1 with ⟨v15,v16,v17,v18,v19⟩ | r
  ·obtain ⟨rfl,rfl⟩ := hq
   refine TriX.exit (K' := [.code [] 2]) rfl ?_
   refine Tri.f 1 [] [.own 4 [] 1105 31,.swap 1105 1000,.swap 1100 1001,.swap 1101 1002,.keep [4,5] [1000,1001,1002,2180]] rfl trivial ?_
   cases h
   exact Tri.ret rfl ⟨.inl rfl,rfl,rfl⟩
  ·obtain ⟨rfl,hq⟩ := hq
   cases h
   exact TriX.ret ⟨.inl rfl,hq⟩
noncomputable def E358 : Env := ⟨Tryz.prog,tys,(Tryz.f91.body).getD .skip,34,tysOk,mixedOk⟩
abbrev K219 (r : Int × Int × Bool) (σ' : ASt) : Prop := isRes E358.T Tryz.f91 (.tuple [.agg [.i r.1,.i r.2.1],.bool r.2.2]) [] σ'
noncomputable def m_impl_SubRat (a0 a1 a2 a3 : Int) : Option (Int × Int × Bool) :=
(m_impl_IsValidRat a0 a1).bind fun v1 =>
bif !v1 then
(some (0,0,false))
else
((m_impl_IsValidRat a2 a3).bind fun v2 =>
bif !v2 then
(some (0,0,false))
else
((m_impl_RatOf (IntKind.i64.wrap ((IntKind.i64.wrap (a0 * a3)) - (IntKind.i64.wrap (a2 * a1)))) (IntKind.i64.wrap (a1 * a3))).bind fun (v3,v4,v5) =>
some (v3,v4,v5)))
theorem W77 (a0 a1 a2 a3 : Int) (r : Int × Int × Bool) (h : m_impl_SubRat a0 a1 a2 a3 = some r) : AM.Spec Tryz.prog 91 [.agg [.i a0,.i a1],.agg [.i a2,.i a3]] [] (.tuple [.agg [.i r.1,.i r.2.1],.bool r.2.2]) [] := by
 refine spec_of (E := E358) Tryz.func91 rfl rfl rfl rfl ?_
 refine Tri.f 1 [] [.keep [2,3,4] [2,3,4]] rfl trivial ?_
 obtain ⟨v1,hk1,h⟩ := bind_some h
 rcases bif_some h with ⟨hd2,h⟩ | ⟨hd2,h⟩
 ·refine Tri.f 1 [.v (.bool v1),.g true] [.keep [2,3,4,13] [2,3,4]] rfl ⟨hd2,fun _ => W40 a0 a1 v1 hk1,trivial⟩ ?_
  refine Tri.f 2 [.g true] [.keep [4,5] [4]] rfl ⟨rfl,trivial⟩ ?_
  cases h
  exact Tri.ret rfl ⟨.inl rfl,rfl,rfl⟩
 ·obtain ⟨v2,hk3,h⟩ := bind_some h
  refine Tri.f 1 [.v (.bool v1),.g false,.v (.bool v2)] [.keep [2,3,4,13] [2,3,4]] rfl ⟨fun _ => W40 a2 a3 v2 hk3,hd2,fun _ => W40 a0 a1 v1 hk1,trivial⟩ ?_
  rcases bif_some h with ⟨hd4,h⟩ | ⟨hd4,h⟩
  ·refine Tri.f 2 [.g true] [.keep [4,5] [4]] rfl ⟨hd4,trivial⟩ ?_
   cases h
   exact Tri.ret rfl ⟨.inl rfl,rfl,rfl⟩
  ·obtain ⟨⟨v3,v4,v5⟩,hk5,h⟩ := bind_some h
   refine Tri.f 2 [.g false,.v (.tuple [.agg [.i v3,.i v4],.bool v5])] [.keep [4,5] [4]] rfl ⟨fun _ => W62 (IntKind.i64.wrap ((IntKind.i64.wrap (a0 * a3)) - (IntKind.i64.wrap (a2 * a1)))) (IntKind.i64.wrap (a1 * a3)) (v3,v4,v5) hk5,hd4,trivial⟩ ?_
   cases h
   exact Tri.ret rfl ⟨.inl rfl,rfl,rfl⟩
noncomputable def E359 : Env := ⟨Tryz.prog,tys,(Tryz.f146.body).getD .skip,46,tysOk,mixedOk⟩
abbrev K220 (r : List Q) (σ' : ASt) : Prop := isRes E359.T Tryz.f146 (.sl 1000 0) [(1000,.arr 31 0 0 (.rats r))] σ'
noncomputable def l_impl_SolutionOf_0 (a0 : List (List Q)) (a2 : Int) : (Int × (List Q)) → Option ((Int × (List Q)) ⊕ ((List Q)))
 | (v2,v3) => (
bif decide (v2 < (IntKind.i64.wrap (a2 + (a0.length : Int)))) then
((m_impl_whole (0 : Int)).bind fun (v4,v5) =>
grd (v3.length + ([⟨v4,v5⟩] : List Q).length ≤ room) <|
some (.inl (IntKind.i64.wrap (v2 + 1),v3 ++ [⟨v4,v5⟩])))
else
(some (.inr v3)))
noncomputable def l_impl_SolutionOf_1 (a0 : List (List Q)) (a1 : List Int) : (Int × (List Q)) → Option ((Int × (List Q)) ⊕ ((List Q)))
 | (v7,v8) => (
bif decide (v7 < (a0.length : Int)) then
(grd (0 ≤ v7 ∧ v7 < (a0.length : Int)) <|
grd (0 ≤ v7 ∧ v7 < (a1.length : Int)) <|
grd (0 ≤ IntKind.i64.wrap (((a0.getD v7.toNat []).length : Int) - 1) ∧ IntKind.i64.wrap (((a0.getD v7.toNat []).length : Int) - 1) < ((a0.getD v7.toNat []).length : Int)) <|
grd (0 ≤ a1.getD v7.toNat 0 ∧ a1.getD v7.toNat 0 < (v8.length : Int)) <|
some (.inl (IntKind.i64.wrap (v7 + 1),v8.set ((a1.getD v7.toNat 0).toNat) ⟨((a0.getD v7.toNat []).getD ((IntKind.i64.wrap (((a0.getD v7.toNat []).length : Int) - 1)).toNat) ⟨0,0⟩).num,((a0.getD v7.toNat []).getD ((IntKind.i64.wrap (((a0.getD v7.toNat []).length : Int) - 1)).toNat) ⟨0,0⟩).den⟩)))
else
(some (.inr v8)))
noncomputable def m_impl_SolutionOf (a0 : List (List Q)) (a1 : List Int) (a2 : Int) : Option (List Q) :=
(m_impl_formed a0 a1 a2).bind fun v1 =>
bif !v1 then
(some [])
else
((iter (l_impl_SolutionOf_0 a0 a2) ((0 : Int),[])).bind fun
| v6 => (
(iter (l_impl_SolutionOf_1 a0 a1) ((0 : Int),v6)).bind fun
| v9 => (
some v9)))
theorem W78 (a0 : List (List Q)) (a1 : List Int) (a2 : Int) (r : List Q) (h : m_impl_SolutionOf a0 a1 a2 = some r) : AM.Spec Tryz.prog 146 [.agg [.list (.ratss a0),.list (.ints a1),.i a2]] [] (.sl 1000 0) [(1000,.arr 31 0 0 (.rats r))] := by
 refine spec_of (E := E359) Tryz.func146 rfl rfl rfl rfl ?_
 refine Tri.f 1 [] [.keep [1] [1]] rfl trivial ?_
 obtain ⟨v1,hk1,h⟩ := bind_some h
 refine Tri.f 1 [.v (.bool v1)] [.keep [1,8] [1]] rfl ⟨fun _ => W59 a0 a1 a2 v1 hk1,trivial⟩ ?_
 rcases bif_some h with ⟨hd2,h⟩ | ⟨hd2,h⟩
 ·refine Tri.f 2 [.g true] [.own 2 [] 1100 31,.swap 1100 1000,.keep [2] [1000]] rfl ⟨hd2,trivial⟩ ?_
  cases h
  exact Tri.ret rfl ⟨.inl rfl,rfl,rfl⟩
 ·refine Tri.f 3 [.g false] [.keep [1,3,15,16] [1,9]] rfl ⟨hd2,trivial⟩ ?_
  obtain ⟨v6,hk6,h⟩ := bind_some h
  refine Tri.loop (K1 := [.code [(3,0),(1,0),(0,0)] 0]) (K2 := [.blk 0,.code [] 4]) (fun (v2,v3) => ⟨[(1,.ptr 1 0),(3,.sl 9 0),(15,.i (IntKind.i64.wrap (a2 + (a0.length : Int)))),(16,.i v2)],[(1,.box [.list (.ratss a0),.list (.ints a1),.i a2]),(9,.arr 31 0 0 (.rats v3))]⟩) (fun x e σ' => match x with | v6 => e = .exit 0 ∧ σ' = ⟨[(1,.ptr 1 0),(3,.sl 9 0)],[(1,.box [.list (.ratss a0),.list (.ints a1),.i a2]),(9,.arr 31 0 0 (.rats v6))]⟩) hk6 rfl rfl ?_ ?_
  ·intro s x hs
   clear h
   have h := hs
   clear hs
   obtain ⟨v2,v3⟩ := s
   refine Tri.f 1 [] [.keep [1,3,15,16,17] [1,9]] rfl trivial ?_
   rcases bif_some h with ⟨hd3,h⟩ | ⟨hd3,h⟩
   ·obtain ⟨⟨v4,v5⟩,hk4,h⟩ := bind_some h
    obtain ⟨hg5,h⟩ := grd_some h
    refine Tri.f 3 [.g true,.v (.agg [.i v4,.i v5])] [.rever 9,.keep [1,3,15,16] [1,9]] rfl ⟨hg5,fun _ => W36 (0 : Int) (v4,v5) hk4,hd3,trivial⟩ ?_
    cases h
    exact Tri.nil ⟨rfl,rfl⟩
   ·refine Tri.f 1 [.g false] [.keep [1,3] [1,9]] rfl ⟨hd3,trivial⟩ ?_
    cases h
    exact Tri.out 0 rfl ⟨nofun,rfl,rfl⟩
  ·intro e σ' hne hq
   obtain ⟨rfl,rfl⟩ := hq
   refine TriX.exit (K' := [.code [] 4]) rfl ?_
   refine Tri.f 1 [] [.keep [1,3,24,25,26] [1,9]] rfl trivial ?_
   obtain ⟨v9,hk12,h⟩ := bind_some h
   refine Tri.loop (K1 := [.code [(4,0),(1,0),(0,0)] 0]) (K2 := [.blk 2,.code [] 5]) (fun (v7,v8) => ⟨[(1,.ptr 1 0),(3,.sl 9 0),(24,.list (.ratss a0)),(25,.i (a0.length : Int)),(26,.i v7)],[(1,.box [.list (.ratss a0),.list (.ints a1),.i a2]),(9,.arr 31 0 0 (.rats v8))]⟩) (fun x e σ' => match x with | v9 => e = .exit 2 ∧ σ' = ⟨[(3,.sl 9 0)],[(9,.arr 31 0 0 (.rats v9))]⟩) hk12 rfl rfl ?_ ?_
   ·intro s x hs
    clear h
    have h := hs
    clear hs
    obtain ⟨v7,v8⟩ := s
    refine Tri.f 1 [] [.keep [1,3,24,25,26,27] [1,9]] rfl trivial ?_
    rcases bif_some h with ⟨hd7,h⟩ | ⟨hd7,h⟩
    ·obtain ⟨hg8,h⟩ := grd_some h
     obtain ⟨hg9,h⟩ := grd_some h
     obtain ⟨hg10,h⟩ := grd_some h
     obtain ⟨hg11,h⟩ := grd_some h
     refine Tri.f 3 [.g true] [.keep [1,3,24,25,26] [1,9]] rfl ⟨hg11,hg10,hg9,hg8,hd7,trivial⟩ ?_
     refine Tri.f 1 [] [.keep [1,3,24,25,26] [1,9]] rfl trivial ?_
     cases h
     exact Tri.nil ⟨rfl,rfl⟩
    ·refine Tri.f 1 [.g false] [.keep [3] [9]] rfl ⟨hd7,trivial⟩ ?_
     cases h
     exact Tri.out 2 rfl ⟨nofun,rfl,rfl⟩
   ·intro e σ' hne hq
    obtain ⟨rfl,rfl⟩ := hq
    refine TriX.exit (K' := [.code [] 5]) rfl ?_
    refine Tri.f 1 [] [.swap 9 1000,.keep [2] [1000]] rfl trivial ?_
    cases h
    exact Tri.ret rfl ⟨.inl rfl,rfl,rfl⟩
end Go.Proofs.YtjnbmknniadbpaaGreat
