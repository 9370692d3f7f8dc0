/- models and walks -/
import Derived.Test.YtjnbmknniadbpaaGreatGLeastCorep
namespace Go.Proofs.YtjnbmknniadbpaaGreat
open Go.AM
set_option maxRecDepth 100000
set_option maxHeartbeats 4000000
noncomputable def E442 : Env := ⟨Tryz.prog,tys,(Tryz.f13.body).getD .skip,37,tysOk,mixedOk⟩
abbrev K287 (r : Int × Int × Int × Int × (List Q) × (List Q) × (List Q)) (σ' : ASt) : Prop := isRes E442.T Tryz.f13 (.agg [.i r.1,.sl 1000 0,.sl 1001 0,.sl 1002 0,.i r.2.1,.i r.2.2.1,.i r.2.2.2.1]) [(1000,.arr 31 0 0 (.rats r.2.2.2.2.1)),(1001,.arr 31 0 0 (.rats r.2.2.2.2.2.1)),(1002,.arr 31 0 0 (.rats r.2.2.2.2.2.2))] σ'
noncomputable def m_spec_SolveLP (a0 : List (List Int)) (a1 : List Int) (a2 : List Q) : Option (Int × Int × Int × Int × (List Q) × (List Q) × (List Q)) :=
(m_spec_IsValidLP a0 a1 a2).bind fun v1 =>
bif !v1 then
(some (0,0,0,0,[],[],[]))
else
((m_spec_StartTableau a0 a1 a2).bind fun (v2,v3,v4) =>
(m_spec_l7Solve_io3 a0 a1 a2 v3 v4 v2 0 false).bind fun (v5,v6,v7,_,v9,v10,v11,_,_,_,v15,v16) =>
bif v16 then
(some ((4 : Int),0,0,0,[],[],[]))
else
((m_spec_CheckLP a0 a1 a2 v5 v9 v10 v11 v6 v7 v15).bind fun v17 =>
bif !v17 then
(some ((4 : Int),0,0,0,[],[],[]))
else
((m_spec_l4Copy v9).bind fun v18 =>
some (v5,v6,v7,v15,v18,v10,v11))))
theorem W127 (a0 : List (List Int)) (a1 : List Int) (a2 : List Q) (r : Int × Int × Int × Int × (List Q) × (List Q) × (List Q)) (h : m_spec_SolveLP a0 a1 a2 = some r) : AM.Spec Tryz.prog 13 [.agg [.list (.intss a0),.list (.ints a1),.list (.rats a2)]] [] (.agg [.i r.1,.sl 1000 0,.sl 1001 0,.sl 1002 0,.i r.2.1,.i r.2.2.1,.i r.2.2.2.1]) [(1000,.arr 31 0 0 (.rats r.2.2.2.2.1)),(1001,.arr 31 0 0 (.rats r.2.2.2.2.2.1)),(1002,.arr 31 0 0 (.rats r.2.2.2.2.2.2))] := by
 refine spec_of (E := E442) Tryz.func13 rfl rfl rfl rfl ?_
 refine Tri.f 1 [] [.keep [1,2] [1,2],.ownc 2 1 1100 31,.ownc 2 2 1101 31,.ownc 2 3 1102 31,.keep [1,2] [1,2,1100,1101,1102]] rfl trivial ?_
 obtain ⟨v1,hk1,h⟩ := bind_some h
 refine Tri.f 1 [.v (.bool v1)] [.keep [1,2,7] [1,2,1100,1101,1102]] rfl ⟨fun _ => W89 a0 a1 a2 v1 hk1,trivial⟩ ?_
 rcases bif_some h with ⟨hd2,h⟩ | ⟨hd2,h⟩
 ·refine Tri.f 2 [.g true] [.ownc 2 1 1103 31,.ownc 2 2 1104 31,.ownc 2 3 1105 31,.swap 1103 1000,.swap 1104 1001,.swap 1105 1002,.keep [2] [2,1000,1001,1002]] rfl ⟨hd2,trivial⟩ ?_
  cases h
  exact Tri.ret rfl ⟨.inl rfl,rfl,rfl⟩
 ·obtain ⟨⟨v2,v3,v4⟩,hk3,h⟩ := bind_some h
  refine Tri.f 2 [.g false,.r ⟨[],.agg [.sl 1106 0,.sl 1107 0,.i v2],[(1106,.arr 26 0 0 (.ratss v3)),(1107,.arr 3 0 0 (.ints v4))]⟩] [.keep [1,2,3] [1,2,13,1100,1101,1102,1106,1107]] rfl ⟨fun _ => ((W90 a0 a1 a2 (v2,v3,v4) hk3).swap 1000 1106).swap 1001 1107,hd2,trivial⟩ ?_
  obtain ⟨⟨v5,v6,v7,v8,v9,v10,v11,v12,v13,v14,v15,v16⟩,hk4,h⟩ := bind_some h
  refine Tri.f 2 [.r ⟨[13,1106,1107],.agg [.i v5,.sl 1108 0,.sl 1109 0,.sl 1110 0,.i v6,.i v7,.i v8],[(1108,.arr 31 0 0 (.rats v9)),(1109,.arr 31 0 0 (.rats v10)),(1110,.arr 31 0 0 (.rats v11)),(1111,.arr 26 0 0 (.ratss v12)),(1112,.arr 3 0 0 (.ints v13)),(13,.box [.undf,.undf,.undf,.sl 1111 0,.sl 1112 0,.i v14,.i v15,.bool v16])]⟩] [.keep [1,2,3,4] [1,2,4,13,1100,1101,1102,1108,1109,1110,1111,1112]] rfl ⟨(fun vf => (((((((((W115 (vf 13 0) (vf 13 1) (vf 13 2) a0 a1 a2 v3 v4 v2 0 false (v5,v6,v7,v8,v9,v10,v11,v12,v13,v14,v15,v16) hk4).swap 1000 1108).swap 1001 1109).swap 1002 1110).swap 1003 1111).swap 1004 1112).swap 2160 13).swap 2161 1106).swap 2162 1107)),trivial⟩ ?_
  rcases bif_some h with ⟨hd5,h⟩ | ⟨hd5,h⟩
  ·refine Tri.f 1 [.g true] [.keep [2,4,30] [2,4,1100,1101,1102,1108,1109,1110]] rfl ⟨hd5,trivial⟩ ?_
   refine Tri.f 2 [.g true] [.ownc 2 1 1113 31,.ownc 2 2 1114 31,.ownc 2 3 1115 31,.swap 1113 1000,.swap 1114 1001,.swap 1115 1002,.keep [2] [2,1000,1001,1002]] rfl ⟨rfl,trivial⟩ ?_
   cases h
   exact Tri.ret rfl ⟨.inl rfl,rfl,rfl⟩
  ·obtain ⟨v17,hk6,h⟩ := bind_some h
   refine Tri.f 1 [.g false,.v (.bool v17)] [.keep [2,4,30] [2,4,1100,1101,1102,1108,1109,1110]] rfl ⟨fun _ => W126 a0 a1 a2 v5 v9 v10 v11 v6 v7 v15 v17 hk6,hd5,trivial⟩ ?_
   rcases bif_some h with ⟨hd7,h⟩ | ⟨hd7,h⟩
   ·refine Tri.f 2 [.g true] [.ownc 2 1 1116 31,.ownc 2 2 1117 31,.ownc 2 3 1118 31,.swap 1116 1000,.swap 1117 1001,.swap 1118 1002,.keep [2] [2,1000,1001,1002]] rfl ⟨hd7,trivial⟩ ?_
    cases h
    exact Tri.ret rfl ⟨.inl rfl,rfl,rfl⟩
   ·obtain ⟨v18,hk8,h⟩ := bind_some h
    refine Tri.f 3 [.g false,.r ⟨[],.sl 1119 0,[(1119,.arr 31 0 0 (.rats v18))]⟩] [.swap 1119 1000,.swap 1109 1001,.swap 1110 1002,.keep [2] [2,1000,1001,1002]] rfl ⟨fun _ => (W93 v9 v18 hk8).swap 1000 1119,hd7,trivial⟩ ?_
    cases h
    exact Tri.ret rfl ⟨.inl rfl,rfl,rfl⟩
noncomputable def E443 : Env := ⟨Tryz.prog,tys,(Tryz.f41.body).getD .skip,46,tysOk,mixedOk⟩
abbrev K288 (r : Bool × Int × Int × (List Q) × (List Q)) (σ' : ASt) : Prop := isRes E443.T Tryz.f41 (.agg [.bool r.1,.i r.2.1,.i r.2.2.1,.sl 1000 0,.sl 1001 0]) [(1000,.arr 31 0 0 (.rats r.2.2.2.1)),(1001,.arr 31 0 0 (.rats r.2.2.2.2))] σ'
noncomputable def l_spec_FindLeastCore_0 (a0 : Int) (v10 : List Q) : (Int × (List Q)) → Option ((Int × (List Q)) ⊕ ((List Q)))
 | (v14,v15) => (
bif decide (v14 < a0) then
(grd (0 ≤ v14 ∧ v14 < (v10.length : Int)) <|
(m_spec_l7Negated ((v10.getD v14.toNat ⟨0,0⟩).num) ((v10.getD v14.toNat ⟨0,0⟩).den)).bind fun (v16,v17) =>
grd (v15.length + ([⟨v16,v17⟩] : List Q).length ≤ room) <|
some (.inl (IntKind.i64.wrap (v14 + 1),v15 ++ [⟨v16,v17⟩])))
else
(some (.inr v15)))
noncomputable def m_spec_FindLeastCore (a0 : Int) (a1 : List Int) : Option (Bool × Int × Int × (List Q) × (List Q)) :=
(m_spec_LeastLP a0 a1).bind fun (v1,v2,v3,v4) =>
bif !v1 then
(some (false,0,0,[],[]))
else
((m_spec_SolveLP v2 v3 v4).bind fun (v5,v6,v7,_,v9,v10,_) =>
bif v5 != 1 then
(some (false,0,0,[],[]))
else
((m_spec_l7Negated v6 v7).bind fun (v12,v13) =>
(iter (l_spec_FindLeastCore_0 a0 v10) ((0 : Int),[])).bind fun
| v18 => (
some (true,v12,v13,v18,v9))))
theorem W128 (a0 : Int) (a1 : List Int) (r : Bool × Int × Int × (List Q) × (List Q)) (h : m_spec_FindLeastCore a0 a1 = some r) : AM.Spec Tryz.prog 41 [.agg [.i a0,.list (.ints a1)]] [] (.agg [.bool r.1,.i r.2.1,.i r.2.2.1,.sl 1000 0,.sl 1001 0]) [(1000,.arr 31 0 0 (.rats r.2.2.2.1)),(1001,.arr 31 0 0 (.rats r.2.2.2.2))] := by
 refine spec_of (E := E443) Tryz.func41 rfl rfl rfl rfl ?_
 refine Tri.f 1 [] [.keep [1,2] [1,2],.ownc 2 3 1100 31,.ownc 2 4 1101 31,.keep [1,2] [1,2,1100,1101]] rfl trivial ?_
 obtain ⟨⟨v1,v2,v3,v4⟩,hk1,h⟩ := bind_some h
 refine Tri.f 2 [.r ⟨[],.tuple [.agg [.sl 1102 0,.sl 1103 0,.sl 1104 0],.bool v1],[(1102,.arr 25 0 0 (.intss v2)),(1103,.arr 3 0 0 (.ints v3)),(1104,.arr 31 0 0 (.rats v4))]⟩] [.keep [1,2,3,14] [1,2,3,1100,1101,1102,1103,1104]] rfl ⟨fun _ => (((W84 a0 a1 (v1,v2,v3,v4) hk1).swap 1000 1102).swap 1001 1103).swap 1002 1104,trivial⟩ ?_
 rcases bif_some h with ⟨hd2,h⟩ | ⟨hd2,h⟩
 ·refine Tri.f 2 [.g true] [.ownc 2 3 1105 31,.ownc 2 4 1106 31,.swap 1105 1000,.swap 1106 1001,.keep [2] [2,1000,1001]] rfl ⟨hd2,trivial⟩ ?_
  cases h
  exact Tri.ret rfl ⟨.inl rfl,rfl,rfl⟩
 ·obtain ⟨⟨v5,v6,v7,v8,v9,v10,v11⟩,hk3,h⟩ := bind_some h
  refine Tri.f 3 [.g false,.r ⟨[],.agg [.i v5,.sl 1107 0,.sl 1108 0,.sl 1109 0,.i v6,.i v7,.i v8],[(1107,.arr 31 0 0 (.rats v9)),(1108,.arr 31 0 0 (.rats v10)),(1109,.arr 31 0 0 (.rats v11))]⟩] [.keep [1,2,5,20] [1,2,5,1100,1101,1107,1108,1109]] rfl ⟨fun _ => (((W127 v2 v3 v4 (v5,v6,v7,v8,v9,v10,v11) hk3).swap 1000 1107).swap 1001 1108).swap 1002 1109,hd2,trivial⟩ ?_
  rcases bif_some h with ⟨hd4,h⟩ | ⟨hd4,h⟩
  ·refine Tri.f 2 [.g true] [.ownc 2 3 1110 31,.ownc 2 4 1111 31,.swap 1110 1000,.swap 1111 1001,.keep [2] [2,1000,1001]] rfl ⟨hd4,trivial⟩ ?_
   cases h
   exact Tri.ret rfl ⟨.inl rfl,rfl,rfl⟩
  ·obtain ⟨⟨v12,v13⟩,hk5,h⟩ := bind_some h
   refine Tri.f 3 [.g false,.v (.agg [.i v12,.i v13])] [.ownc 6 3 1112 31,.keep [1,2,5,6,7] [1,2,5,6,1100,1101,1107,1108,1109,1112]] rfl ⟨fun _ => W113 v6 v7 (v12,v13) hk5,hd4,trivial⟩ ?_
   obtain ⟨v18,hk10,h⟩ := bind_some h
   refine Tri.loop (K1 := [.code [(6,0),(1,0),(0,0)] 0]) (K2 := [.blk 0,.code [] 7]) (fun (v14,v15) => ⟨[(1,.ptr 1 0),(2,.ptr 2 0),(5,.ptr 5 0),(6,.ptr 6 0),(7,.i v14)],[(1,.box [.i a0,.list (.ints a1)]),(2,.box [.bool false,.i 0,.i 0,.sl 1100 0,.sl 1101 0]),(5,.box [.i v5,.sl 1107 0,.sl 1108 0,.sl 1109 0,.i v6,.i v7,.i v8]),(6,.box [.bool true,.i v12,.i v13,.sl 1112 0,.sl 1107 0]),(1100,.arr 31 0 0 (.rats [])),(1101,.arr 31 0 0 (.rats [])),(1107,.arr 31 0 0 (.rats v9)),(1108,.arr 31 0 0 (.rats v10)),(1109,.arr 31 0 0 (.rats v11)),(1112,.arr 31 0 0 (.rats v15))]⟩) (fun x e σ' => match x with | v18 => e = .exit 0 ∧ σ' = ⟨[(2,.ptr 2 0),(6,.ptr 6 0)],[(2,.box [.bool false,.i 0,.i 0,.sl 1100 0,.sl 1101 0]),(6,.box [.bool true,.i v12,.i v13,.sl 1112 0,.sl 1107 0]),(1100,.arr 31 0 0 (.rats [])),(1101,.arr 31 0 0 (.rats [])),(1107,.arr 31 0 0 (.rats v9)),(1112,.arr 31 0 0 (.rats v18))]⟩) hk10 rfl rfl ?_ ?_
   ·intro s x hs
    clear h
    have h := hs
    clear hs
    obtain ⟨v14,v15⟩ := s
    refine Tri.f 1 [] [.keep [1,2,5,6,7,31] [1,2,5,6,1100,1101,1107,1108,1109,1112]] rfl trivial ?_
    rcases bif_some h with ⟨hd6,h⟩ | ⟨hd6,h⟩
    ·obtain ⟨hg7,h⟩ := grd_some h
     obtain ⟨⟨v16,v17⟩,hk8,h⟩ := bind_some h
     obtain ⟨hg9,h⟩ := grd_some h
     refine Tri.f 3 [.g true,.v (.agg [.i v16,.i v17])] [.rever 1112,.keep [1,2,5,6,7] [1,2,5,6,1100,1101,1107,1108,1109,1112]] rfl ⟨hg9,fun _ => W113 ((v10.getD v14.toNat ⟨0,0⟩).num) ((v10.getD v14.toNat ⟨0,0⟩).den) (v16,v17) hk8,hg7,hd6,trivial⟩ ?_
     cases h
     exact Tri.nil ⟨rfl,rfl⟩
    ·refine Tri.f 1 [.g false] [.keep [2,6] [2,6,1100,1101,1107,1112]] rfl ⟨hd6,trivial⟩ ?_
     cases h
     exact Tri.out 0 rfl ⟨nofun,rfl,rfl⟩
   ·intro e σ' hne hq
    obtain ⟨rfl,rfl⟩ := hq
    refine TriX.exit (K' := [.code [] 7]) rfl ?_
    refine Tri.f 1 [] [.swap 1112 1000,.swap 1107 1001,.keep [2] [2,1000,1001]] rfl trivial ?_
    cases h
    exact Tri.ret rfl ⟨.inl rfl,rfl,rfl⟩
noncomputable def E444 : Env := ⟨Tryz.prog,tys,(Tryz.f65.body).getD .skip,26,tysOk,mixedOk⟩
abbrev K289 (r : Bool) (σ' : ASt) : Prop := isRes E444.T Tryz.f65 (.bool r) [] σ'
noncomputable def l_slices_Equal_impl_Rat_impl_Rat_0 (a0 a1 : List Q) (v1 : Int) : Option (Int ⊕ (Unit ⊕ Bool)) :=
bif decide (v1 < (a0.length : Int)) then
(grd (0 ≤ v1 ∧ v1 < (a0.length : Int)) <|
grd (0 ≤ v1 ∧ v1 < (a1.length : Int)) <|
bif !(((a0.getD v1.toNat ⟨0,0⟩).num) == ((a1.getD v1.toNat ⟨0,0⟩).num) && ((a0.getD v1.toNat ⟨0,0⟩).den) == ((a1.getD v1.toNat ⟨0,0⟩).den)) then
(some (.inr (.inr false)))
else
(some (.inl (IntKind.i64.wrap (v1 + 1)))))
else
(some (.inr (.inl ())))
noncomputable def m_slices_Equal_impl_Rat_impl_Rat (a0 a1 : List Q) : Option Bool :=
bif (a0.length : Int) != (a1.length : Int) then
(some false)
else
((iter (l_slices_Equal_impl_Rat_impl_Rat_0 a0 a1) (0 : Int)).bind fun
| (.inl _) => (
some true)
| (.inr r) => some r)
theorem W129 (a0 a1 : List Q) (r : Bool) (h : m_slices_Equal_impl_Rat_impl_Rat a0 a1 = some r) : AM.Spec Tryz.prog 65 [.list (.rats a0),.list (.rats a1)] [] (.bool r) [] := by
 refine spec_of (E := E444) Tryz.func65 rfl rfl rfl rfl ?_
 refine Tri.f 2 [] [.keep [0,1,10] []] rfl trivial ?_
 rcases bif_some h with ⟨hd1,h⟩ | ⟨hd1,h⟩
 ·refine Tri.f 2 [.g true] [.keep [4] []] rfl ⟨hd1,trivial⟩ ?_
  cases h
  exact Tri.ret rfl ⟨.inl rfl,rfl,rfl⟩
 ·refine Tri.f 2 [.g false] [.keep [0,1,12,13] []] rfl ⟨hd1,trivial⟩ ?_
  obtain ⟨x1,hk6,h⟩ := bind_some h
  refine Tri.loop (K1 := [.code [(2,0),(1,0),(0,0)] 0]) (K2 := [.blk 0,.code [] 3]) (fun v1 => ⟨[(0,.list (.rats a0)),(1,.list (.rats a1)),(12,.i (a0.length : Int)),(13,.i v1)],[]⟩) (fun x e σ' => match x with | (.inl _) => e = .exit 0 ∧ σ' = ⟨[],[]⟩ | (.inr r) => e = .ret ∧ K289 r σ') hk6 rfl rfl ?_ ?_
  ·intro v1 x hs
   clear h
   have h := hs
   clear hs
   refine Tri.f 1 [] [.keep [0,1,12,13,14] []] rfl trivial ?_
   rcases bif_some h with ⟨hd2,h⟩ | ⟨hd2,h⟩
   ·obtain ⟨hg3,h⟩ := grd_some h
    obtain ⟨hg4,h⟩ := grd_some h
    refine Tri.f 3 [.g true] [.keep [0,1,12,13,24] []] rfl ⟨hg4,hg3,hd2,trivial⟩ ?_
    rcases bif_some h with ⟨hd5,h⟩ | ⟨hd5,h⟩
    ·refine Tri.f 2 [.g true] [.keep [4] []] rfl ⟨hd5,trivial⟩ ?_
     cases h
     exact Tri.ret rfl ⟨nofun,rfl,rfl,rfl⟩
    ·refine Tri.f 2 [.g false] [.keep [0,1,12,13] []] rfl ⟨hd5,trivial⟩ ?_
     cases h
     exact Tri.nil ⟨rfl,rfl⟩
   ·refine Tri.f 1 [.g false] [.keep [] []] rfl ⟨hd2,trivial⟩ ?_
    cases h
    exact Tri.out 0 rfl ⟨nofun,rfl,rfl⟩
  ·intro e σ' hne hq
   rcases x1 with _ | r
   ·obtain ⟨rfl,rfl⟩ := hq
    refine TriX.exit (K' := [.code [] 3]) rfl ?_
    refine Tri.f 1 [] [.keep [4] []] rfl trivial ?_
    cases h
    exact Tri.ret rfl ⟨.inl rfl,rfl,rfl⟩
   ·obtain ⟨rfl,hq⟩ := hq
    cases h
    exact TriX.ret ⟨.inl rfl,hq⟩
noncomputable def E445 : Env := ⟨Tryz.prog,tys,(Tryz.f40.body).getD .skip,31,tysOk,mixedOk⟩
abbrev K290 (r : Bool) (σ' : ASt) : Prop := isRes E445.T Tryz.f40 (.bool r) [] σ'
noncomputable def m_impl_EqualLeast (a0 : Bool) (a1 a2 : Int) (a3 a4 : List Q) (a5 : Bool) (a6 a7 : Int) (a8 a9 : List Q) : Option Bool :=
bif a0 == a5 then
(bif a1 == a6 && a2 == a7 then
((m_slices_Equal_impl_Rat_impl_Rat a3 a8).bind fun v1 =>
bif v1 then
((m_slices_Equal_impl_Rat_impl_Rat a4 a9).bind fun v2 =>
some v2)
else
(some false))
else
(some false))
else
(some false)
theorem W130 (a0 : Bool) (a1 a2 : Int) (a3 a4 : List Q) (a5 : Bool) (a6 a7 : Int) (a8 a9 : List Q) (r : Bool) (h : m_impl_EqualLeast a0 a1 a2 a3 a4 a5 a6 a7 a8 a9 = some r) : AM.Spec Tryz.prog 40 [.agg [.bool a0,.i a1,.i a2,.list (.rats a3),.list (.rats a4)],.agg [.bool a5,.i a6,.i a7,.list (.rats a8),.list (.rats a9)]] [] (.bool r) [] := by
 refine spec_of (E := E445) Tryz.func40 rfl rfl rfl rfl ?_
 refine Tri.f 1 [] [.keep [2,3] [2,3]] rfl trivial ?_
 rcases bif_some h with ⟨hd1,h⟩ | ⟨hd1,h⟩
 ·rcases bif_some h with ⟨hd2,h⟩ | ⟨hd2,h⟩
  ·obtain ⟨v1,hk3,h⟩ := bind_some h
   rcases bif_some h with ⟨hd4,h⟩ | ⟨hd4,h⟩
   ·obtain ⟨v2,hk5,h⟩ := bind_some h
    refine Tri.f 1 [.g true,.g true,.v (.bool v1),.g true,.v (.bool v2)] [.keep [4] []] rfl ⟨fun _ => W129 a4 a9 v2 hk5,hd4,fun _ => W129 a3 a8 v1 hk3,hd2,hd1,trivial⟩ ?_
    cases h
    exact Tri.ret rfl ⟨.inl rfl,rfl,rfl⟩
   ·refine Tri.f 1 [.g true,.g true,.v (.bool v1),.g false] [.keep [4] []] rfl ⟨hd4,fun _ => W129 a3 a8 v1 hk3,hd2,hd1,trivial⟩ ?_
    cases h
    exact Tri.ret rfl ⟨.inl rfl,rfl,rfl⟩
  ·refine Tri.f 1 [.g true,.g false,.g false] [.keep [4] []] rfl ⟨rfl,hd2,hd1,trivial⟩ ?_
   cases h
   exact Tri.ret rfl ⟨.inl rfl,rfl,rfl⟩
 ·refine Tri.f 1 [.g false,.g false,.g false] [.keep [4] []] rfl ⟨rfl,rfl,hd1,trivial⟩ ?_
  cases h
  exact Tri.ret rfl ⟨.inl rfl,rfl,rfl⟩
noncomputable def E446 : Env := ⟨Tryz.prog,tys,(Tryz.f206.body).getD .skip,21,tysOk,mixedOk⟩
abbrev K291 (r : List Int) (σ' : ASt) : Prop := isRes E446.T Tryz.f206 (.sl 1000 0) [(1000,.arr 3 0 0 (.ints r))] σ'
noncomputable def l_impl_MembersOf_0 (a0 : Int) : (Int × (List Int)) → Option ((Int × (List Int)) ⊕ ((List Int)))
 | (v2,v3) => (
bif decide (v2 < 5) then
((m_impl_HasPlayer a0 v2).bind fun v4 =>
bif v4 then
(grd (v3.length + ([v2] : List Int).length ≤ room) <|
some (.inl (IntKind.i64.wrap (v2 + 1),v3 ++ [v2])))
else
(some (.inl (IntKind.i64.wrap (v2 + 1),v3))))
else
(some (.inr v3)))
noncomputable def m_impl_MembersOf (a0 : Int) : Option (List Int) :=
(m_impl_within a0 (0 : Int) (31 : Int)).bind fun v1 =>
bif !v1 then
(some [])
else
((iter (l_impl_MembersOf_0 a0) ((0 : Int),[])).bind fun
| v5 => (
some v5))
theorem W131 (a0 : Int) (r : List Int) (h : m_impl_MembersOf a0 = some r) : AM.Spec Tryz.prog 206 [.i a0] [] (.sl 1000 0) [(1000,.arr 3 0 0 (.ints r))] := by
 refine spec_of (E := E446) Tryz.func206 rfl rfl rfl rfl ?_
 refine Tri.f 1 [] [.keep [0] []] rfl trivial ?_
 obtain ⟨v1,hk1,h⟩ := bind_some h
 refine Tri.f 1 [.v (.bool v1)] [.keep [0,7] []] rfl ⟨fun _ => W15 a0 (0 : Int) (31 : Int) v1 hk1,trivial⟩ ?_
 rcases bif_some h with ⟨hd2,h⟩ | ⟨hd2,h⟩
 ·refine Tri.f 2 [.g true] [.own 2 [] 1100 3,.swap 1100 1000,.keep [2] [1000]] rfl ⟨hd2,trivial⟩ ?_
  cases h
  exact Tri.ret rfl ⟨.inl rfl,rfl,rfl⟩
 ·refine Tri.f 3 [.g false] [.keep [0,3,9] [8]] rfl ⟨hd2,trivial⟩ ?_
  obtain ⟨v5,hk7,h⟩ := bind_some h
  refine Tri.loop (K1 := [.code [(3,0),(1,0),(0,0)] 0]) (K2 := [.blk 0,.code [] 4]) (fun (v2,v3) => ⟨[(0,.i a0),(3,.sl 8 0),(9,.i v2)],[(8,.arr 3 0 0 (.ints v3))]⟩) (fun x e σ' => match x with | v5 => e = .exit 0 ∧ σ' = ⟨[(3,.sl 8 0)],[(8,.arr 3 0 0 (.ints v5))]⟩) hk7 rfl rfl ?_ ?_
  ·intro s x hs
   clear h
   have h := hs
   clear hs
   obtain ⟨v2,v3⟩ := s
   refine Tri.f 1 [] [.keep [0,3,9,10] [8]] rfl trivial ?_
   rcases bif_some h with ⟨hd3,h⟩ | ⟨hd3,h⟩
   ·refine Tri.f 2 [.g true] [.keep [0,3,4,9] [8]] rfl ⟨hd3,trivial⟩ ?_
    obtain ⟨v4,hk4,h⟩ := bind_some h
    refine Tri.f 1 [.v (.bool v4)] [.keep [0,3,4,9,14] [8]] rfl ⟨fun _ => W21 a0 v2 v4 hk4,trivial⟩ ?_
    rcases bif_some h with ⟨hd5,h⟩ | ⟨hd5,h⟩
    ·obtain ⟨hg6,h⟩ := grd_some h
     refine Tri.f 3 [.g true] [.rever 8,.keep [0,3,9] [8]] rfl ⟨hg6,hd5,trivial⟩ ?_
     cases h
     exact Tri.nil ⟨rfl,rfl⟩
    ·refine Tri.f 2 [.g false] [.keep [0,3,9] [8]] rfl ⟨hd5,trivial⟩ ?_
     cases h
     exact Tri.nil ⟨rfl,rfl⟩
   ·refine Tri.f 1 [.g false] [.keep [3] [8]] rfl ⟨hd3,trivial⟩ ?_
    cases h
    exact Tri.out 0 rfl ⟨nofun,rfl,rfl⟩
  ·intro e σ' hne hq
   obtain ⟨rfl,rfl⟩ := hq
   refine TriX.exit (K' := [.code [] 4]) rfl ?_
   refine Tri.f 1 [] [.swap 8 1000,.keep [2] [1000]] rfl trivial ?_
   cases h
   exact Tri.ret rfl ⟨.inl rfl,rfl,rfl⟩
noncomputable def E447 : Env := ⟨Tryz.prog,tys,(Tryz.f203.body).getD .skip,43,tysOk,mixedOk⟩
abbrev K292 (r : Int × Int × Bool) (σ' : ASt) : Prop := isRes E447.T Tryz.f203 (.tuple [.agg [.i r.1,.i r.2.1],.bool r.2.2]) [] σ'
noncomputable def l_impl_ShareOf_0 (a0 : List Q) (v4 : List Int) : (Int × Int × Int) → Option ((Int × Int × Int) ⊕ ((Int × Int) ⊕ ((Int × Int × Bool))))
 | (v5,v6,v7) => (
bif decide (v5 < (v4.length : Int)) then
(grd (0 ≤ v5 ∧ v5 < (v4.length : Int)) <|
bif decide ((v4.getD v5.toNat 0) ≥ (a0.length : Int)) then
(some (.inr (.inr (0,0,false))))
else
(grd (0 ≤ v4.getD v5.toNat 0 ∧ v4.getD v5.toNat 0 < (a0.length : Int)) <|
(m_impl_AddRat v6 v7 ((a0.getD ((v4.getD v5.toNat 0).toNat) ⟨0,0⟩).num) ((a0.getD ((v4.getD v5.toNat 0).toNat) ⟨0,0⟩).den)).bind fun (v8,v9,v10) =>
bif !v10 then
(some (.inr (.inr (0,0,false))))
else
(some (.inl (IntKind.i64.wrap (v5 + 1),v8,v9)))))
else
(some (.inr (.inl (v6,v7)))))
noncomputable def m_impl_ShareOf (a0 : List Q) (a1 : Int) : Option (Int × Int × Bool) :=
(m_impl_within a1 (0 : Int) (31 : Int)).bind fun v1 =>
bif !v1 then
(some (0,0,false))
else
((m_impl_whole (0 : Int)).bind fun (v2,v3) =>
(m_impl_MembersOf a1).bind fun v4 =>
(iter (l_impl_ShareOf_0 a0 v4) ((0 : Int),v2,v3)).bind fun
| (.inl (v11,v12)) => (
some (v11,v12,true))
| (.inr r) => some r)
theorem W132 (a0 : List Q) (a1 : Int) (r : Int × Int × Bool) (h : m_impl_ShareOf a0 a1 = some r) : AM.Spec Tryz.prog 203 [.list (.rats a0),.i a1] [] (.tuple [.agg [.i r.1,.i r.2.1],.bool r.2.2]) [] := by
 refine spec_of (E := E447) Tryz.func203 rfl rfl rfl rfl ?_
 refine Tri.f 1 [] [.keep [0,1,4] [4]] rfl trivial ?_
 obtain ⟨v1,hk1,h⟩ := bind_some h
 refine Tri.f 1 [.v (.bool v1)] [.keep [0,1,4,13] [4]] rfl ⟨fun _ => W15 a1 (0 : Int) (31 : Int) v1 hk1,trivial⟩ ?_
 rcases bif_some h with ⟨hd2,h⟩ | ⟨hd2,h⟩
 ·refine Tri.f 2 [.g true] [.keep [4,5] [4]] rfl ⟨hd2,trivial⟩ ?_
  cases h
  exact Tri.ret rfl ⟨.inl rfl,rfl,rfl⟩
 ·obtain ⟨⟨v2,v3⟩,hk3,h⟩ := bind_some h
  refine Tri.f 2 [.g false,.v (.agg [.i v2,.i v3])] [.keep [0,1,4,6] [4,6]] rfl ⟨fun _ => W24 (0 : Int) (v2,v3) hk3,hd2,trivial⟩ ?_
  obtain ⟨v4,hk4,h⟩ := bind_some h
  refine Tri.f 1 [.r ⟨[],.sl 1100 0,[(1100,.arr 3 0 0 (.ints v4))]⟩] [.keep [0,4,6,17,18,19] [4,6,1100]] rfl ⟨fun _ => (W131 a1 v4 hk4).swap 1000 1100,trivial⟩ ?_
  obtain ⟨x1,hk11,h⟩ := bind_some h
  refine Tri.loop (K1 := [.code [(3,0),(1,0),(0,0)] 0]) (K2 := [.blk 0,.code [] 4]) (fun (v5,v6,v7) => ⟨[(0,.list (.rats a0)),(4,.ptr 4 0),(6,.ptr 6 0),(17,.sl 1100 0),(18,.i (v4.length : Int)),(19,.i v5)],[(4,.box [.i 0,.i 0]),(6,.box [.i v6,.i v7]),(1100,.arr 3 0 0 (.ints v4))]⟩) (fun x e σ' => match x with | (.inl (v11,v12)) => e = .exit 0 ∧ σ' = ⟨[(4,.ptr 4 0),(6,.ptr 6 0)],[(4,.box [.i 0,.i 0]),(6,.box [.i v11,.i v12])]⟩ | (.inr r) => e = .ret ∧ K292 r σ') hk11 rfl rfl ?_ ?_
  ·intro s x hs
   clear h
   have h := hs
   clear hs
   obtain ⟨v5,v6,v7⟩ := s
   refine Tri.f 1 [] [.keep [0,4,6,17,18,19,20] [4,6,1100]] rfl trivial ?_
   rcases bif_some h with ⟨hd5,h⟩ | ⟨hd5,h⟩
   ·obtain ⟨hg6,h⟩ := grd_some h
    refine Tri.f 3 [.g true] [.keep [0,4,6,8,17,18,19,26] [4,6,1100]] rfl ⟨hg6,hd5,trivial⟩ ?_
    rcases bif_some h with ⟨hd7,h⟩ | ⟨hd7,h⟩
    ·refine Tri.f 2 [.g true] [.keep [4,5] [4]] rfl ⟨hd7,trivial⟩ ?_
     cases h
     exact Tri.ret rfl ⟨nofun,rfl,rfl,rfl⟩
    ·obtain ⟨hg8,h⟩ := grd_some h
     obtain ⟨⟨v8,v9,v10⟩,hk9,h⟩ := bind_some h
     refine Tri.f 3 [.g false,.v (.tuple [.agg [.i v8,.i v9],.bool v10])] [.keep [0,4,6,9,17,18,19,38] [4,6,9,1100]] rfl ⟨fun _ => W53 v6 v7 ((a0.getD ((v4.getD v5.toNat 0).toNat) ⟨0,0⟩).num) ((a0.getD ((v4.getD v5.toNat 0).toNat) ⟨0,0⟩).den) (v8,v9,v10) hk9,hg8,hd7,trivial⟩ ?_
     rcases bif_some h with ⟨hd10,h⟩ | ⟨hd10,h⟩
     ·refine Tri.f 2 [.g true] [.keep [4,5] [4]] rfl ⟨hd10,trivial⟩ ?_
      cases h
      exact Tri.ret rfl ⟨nofun,rfl,rfl,rfl⟩
     ·refine Tri.f 3 [.g false] [.keep [0,4,6,17,18,19] [4,6,1100]] rfl ⟨hd10,trivial⟩ ?_
      cases h
      exact Tri.nil ⟨rfl,rfl⟩
   ·refine Tri.f 1 [.g false] [.keep [4,6] [4,6]] rfl ⟨hd5,trivial⟩ ?_
    cases h
    exact Tri.out 0 rfl ⟨nofun,rfl,rfl⟩
  ·intro e σ' hne hq
   rcases x1 with ⟨v11,v12⟩ | r
   ·obtain ⟨rfl,rfl⟩ := hq
    refine TriX.exit (K' := [.code [] 4]) rfl ?_
    refine Tri.f 1 [] [.keep [4,5] [4]] rfl trivial ?_
    cases h
    exact Tri.ret rfl ⟨.inl rfl,rfl,rfl⟩
   ·obtain ⟨rfl,hq⟩ := hq
    cases h
    exact TriX.ret ⟨.inl rfl,hq⟩
noncomputable def E448 : Env := ⟨Tryz.prog,tys,(Tryz.f196.body).getD .skip,39,tysOk,mixedOk⟩
abbrev K293 (r : Bool) (σ' : ASt) : Prop := isRes E448.T Tryz.f196 (.bool r) [] σ'
noncomputable def m_impl_IsPayoff (a0 : Int) (a1 : List Int) (a2 : List Q) : Option Bool :=
(m_impl_IsValidGame a0 a1).bind fun v1 =>
bif !v1 then
(some false)
else
(bif (a2.length : Int) != a0 then
(some false)
else
((m_impl_AllValid a2).bind fun v2 =>
bif !v2 then
(some false)
else
((m_impl_ShareOf a2 (IntKind.i64.wrap ((a1.length : Int) - 1))).bind fun (v3,v4,v5) =>
bif v5 then
((m_impl_GrandValue a0 a1).bind fun v6 =>
(m_impl_whole v6).bind fun (v7,v8) =>
some (v3 == v7 && v4 == v8))
else
(some false))))
theorem W133 (a0 : Int) (a1 : List Int) (a2 : List Q) (r : Bool) (h : m_impl_IsPayoff a0 a1 a2 = some r) : AM.Spec Tryz.prog 196 [.agg [.i a0,.list (.ints a1)],.list (.rats a2)] [] (.bool r) [] := by
 refine spec_of (E := E448) Tryz.func196 rfl rfl rfl rfl ?_
 refine Tri.f 1 [] [.keep [1,2] [2]] rfl trivial ?_
 obtain ⟨v1,hk1,h⟩ := bind_some h
 rcases bif_some h with ⟨hd2,h⟩ | ⟨hd2,h⟩
 ·refine Tri.f 1 [.v (.bool v1),.g true,.g true] [.keep [1,2,21] [2]] rfl ⟨rfl,hd2,fun _ => W19 a0 a1 v1 hk1,trivial⟩ ?_
  refine Tri.f 2 [.g true] [.keep [4] []] rfl ⟨rfl,trivial⟩ ?_
  cases h
  exact Tri.ret rfl ⟨.inl rfl,rfl,rfl⟩
 ·rcases bif_some h with ⟨hd3,h⟩ | ⟨hd3,h⟩
  ·refine Tri.f 1 [.v (.bool v1),.g false,.g true] [.keep [1,2,21] [2]] rfl ⟨hd3,hd2,fun _ => W19 a0 a1 v1 hk1,trivial⟩ ?_
   refine Tri.f 2 [.g true] [.keep [4] []] rfl ⟨rfl,trivial⟩ ?_
   cases h
   exact Tri.ret rfl ⟨.inl rfl,rfl,rfl⟩
  ·obtain ⟨v2,hk4,h⟩ := bind_some h
   refine Tri.f 1 [.v (.bool v1),.g false,.g false,.v (.bool v2)] [.keep [1,2,21] [2]] rfl ⟨fun _ => W33 a2 v2 hk4,hd3,hd2,fun _ => W19 a0 a1 v1 hk1,trivial⟩ ?_
   rcases bif_some h with ⟨hd5,h⟩ | ⟨hd5,h⟩
   ·refine Tri.f 2 [.g true] [.keep [4] []] rfl ⟨hd5,trivial⟩ ?_
    cases h
    exact Tri.ret rfl ⟨.inl rfl,rfl,rfl⟩
   ·obtain ⟨⟨v3,v4,v5⟩,hk6,h⟩ := bind_some h
    refine Tri.f 2 [.g false,.v (.tuple [.agg [.i v3,.i v4],.bool v5])] [.keep [2,5,6] [2,5]] rfl ⟨fun _ => W132 a2 (IntKind.i64.wrap ((a1.length : Int) - 1)) (v3,v4,v5) hk6,hd5,trivial⟩ ?_
    rcases bif_some h with ⟨hd7,h⟩ | ⟨hd7,h⟩
    ·obtain ⟨v6,hk8,h⟩ := bind_some h
     obtain ⟨⟨v7,v8⟩,hk9,h⟩ := bind_some h
     refine Tri.f 1 [.g true,.v (.i v6),.v (.agg [.i v7,.i v8])] [.keep [4] []] rfl ⟨fun _ => W24 v6 (v7,v8) hk9,fun _ => W26 a0 a1 v6 hk8,hd7,trivial⟩ ?_
     cases h
     exact Tri.ret rfl ⟨.inl rfl,rfl,rfl⟩
    ·refine Tri.f 1 [.g false] [.keep [4] []] rfl ⟨hd7,trivial⟩ ?_
     cases h
     exact Tri.ret rfl ⟨.inl rfl,rfl,rfl⟩
noncomputable def E449 : Env := ⟨Tryz.prog,tys,(Tryz.f197.body).getD .skip,42,tysOk,mixedOk⟩
abbrev K294 (r : Int × Int × Bool) (σ' : ASt) : Prop := isRes E449.T Tryz.f197 (.tuple [.agg [.i r.1,.i r.2.1],.bool r.2.2]) [] σ'
noncomputable def m_impl_ExcessOf (a0 : Int) (a1 : List Int) (a2 : List Q) (a3 : Int) : Option (Int × Int × Bool) :=
(m_impl_IsValidGame a0 a1).bind fun v1 =>
bif !v1 then
(some (0,0,false))
else
((m_impl_within a3 (0 : Int) (IntKind.i64.wrap ((a1.length : Int) - 1))).bind fun v2 =>
bif !v2 then
(some (0,0,false))
else
((m_impl_ShareOf a2 a3).bind fun (v3,v4,v5) =>
bif !v5 then
(some (0,0,false))
else
(grd (0 ≤ a3 ∧ a3 < (a1.length : Int)) <|
(m_impl_whole (a1.getD a3.toNat 0)).bind fun (v6,v7) =>
(m_impl_SubRat v6 v7 v3 v4).bind fun (v8,v9,v10) =>
some (v8,v9,v10))))
theorem W134 (a0 : Int) (a1 : List Int) (a2 : List Q) (a3 : Int) (r : Int × Int × Bool) (h : m_impl_ExcessOf a0 a1 a2 a3 = some r) : AM.Spec Tryz.prog 197 [.agg [.i a0,.list (.ints a1)],.list (.rats a2),.i a3] [] (.tuple [.agg [.i r.1,.i r.2.1],.bool r.2.2]) [] := by
 refine spec_of (E := E449) Tryz.func197 rfl rfl rfl rfl ?_
 refine Tri.f 1 [] [.keep [1,2,3,6] [3,6]] rfl trivial ?_
 obtain ⟨v1,hk1,h⟩ := bind_some h
 rcases bif_some h with ⟨hd2,h⟩ | ⟨hd2,h⟩
 ·refine Tri.f 1 [.v (.bool v1),.g true] [.keep [1,2,3,6,21] [3,6]] rfl ⟨hd2,fun _ => W19 a0 a1 v1 hk1,trivial⟩ ?_
  refine Tri.f 2 [.g true] [.keep [6,7] [6]] rfl ⟨rfl,trivial⟩ ?_
  cases h
  exact Tri.ret rfl ⟨.inl rfl,rfl,rfl⟩
 ·obtain ⟨v2,hk3,h⟩ := bind_some h
  refine Tri.f 1 [.v (.bool v1),.g false,.v (.bool v2)] [.keep [1,2,3,6,21] [3,6]] rfl ⟨fun _ => W15 a3 (0 : Int) (IntKind.i64.wrap ((a1.length : Int) - 1)) v2 hk3,hd2,fun _ => W19 a0 a1 v1 hk1,trivial⟩ ?_
  rcases bif_some h with ⟨hd4,h⟩ | ⟨hd4,h⟩
  ·refine Tri.f 2 [.g true] [.keep [6,7] [6]] rfl ⟨hd4,trivial⟩ ?_
   cases h
   exact Tri.ret rfl ⟨.inl rfl,rfl,rfl⟩
  ·obtain ⟨⟨v3,v4,v5⟩,hk5,h⟩ := bind_some h
   refine Tri.f 3 [.g false,.v (.tuple [.agg [.i v3,.i v4],.bool v5])] [.keep [2,3,6,8,30] [3,6,8]] rfl ⟨fun _ => W132 a2 a3 (v3,v4,v5) hk5,hd4,trivial⟩ ?_
   rcases bif_some h with ⟨hd6,h⟩ | ⟨hd6,h⟩
   ·refine Tri.f 2 [.g true] [.keep [6,7] [6]] rfl ⟨hd6,trivial⟩ ?_
    cases h
    exact Tri.ret rfl ⟨.inl rfl,rfl,rfl⟩
   ·obtain ⟨hg7,h⟩ := grd_some h
    obtain ⟨⟨v6,v7⟩,hk8,h⟩ := bind_some h
    obtain ⟨⟨v8,v9,v10⟩,hk9,h⟩ := bind_some h
    refine Tri.f 2 [.g false,.v (.agg [.i v6,.i v7]),.v (.tuple [.agg [.i v8,.i v9],.bool v10])] [.keep [6,7] [6]] rfl ⟨fun _ => W66 v6 v7 v3 v4 (v8,v9,v10) hk9,fun _ => W24 (a1.getD a3.toNat 0) (v6,v7) hk8,hg7,hd6,trivial⟩ ?_
    cases h
    exact Tri.ret rfl ⟨.inl rfl,rfl,rfl⟩
noncomputable def E450 : Env := ⟨Tryz.prog,tys,(Tryz.f175.body).getD .skip,39,tysOk,mixedOk⟩
abbrev K295 (r : Bool × (List Q)) (σ' : ASt) : Prop := isRes E450.T Tryz.f175 (.tuple [.sl 1000 0,.bool r.1]) [(1000,.arr 31 0 0 (.rats r.2))] σ'
noncomputable def l_impl_excesses_0 (a0 : Int) (a1 : List Int) (a2 : List Q) (a4 : Int) : (Int × (List Q)) → Option ((Int × (List Q)) ⊕ ((List Q) ⊕ ((Bool × (List Q)))))
 | (v2,v3) => (
bif decide (v2 ≤ a4) then
((m_impl_ExcessOf a0 a1 a2 v2).bind fun (v4,v5,v6) =>
bif !v6 then
(some (.inr (.inr (false,[]))))
else
(grd (v3.length + ([⟨v4,v5⟩] : List Q).length ≤ room) <|
some (.inl (IntKind.i64.wrap (v2 + 1),v3 ++ [⟨v4,v5⟩]))))
else
(some (.inr (.inl v3))))
noncomputable def m_impl_excesses (a0 : Int) (a1 : List Int) (a2 : List Q) (a3 a4 : Int) : Option (Bool × (List Q)) :=
(m_impl_IsPayoff a0 a1 a2).bind fun v1 =>
bif !v1 then
(some (false,[]))
else
((iter (l_impl_excesses_0 a0 a1 a2 a4) (a3,[])).bind fun
| (.inl v7) => (
some (true,v7))
| (.inr r) => some r)
theorem W135 (a0 : Int) (a1 : List Int) (a2 : List Q) (a3 a4 : Int) (r : Bool × (List Q)) (h : m_impl_excesses a0 a1 a2 a3 a4 = some r) : AM.Spec Tryz.prog 175 [.agg [.i a0,.list (.ints a1)],.list (.rats a2),.i a3,.i a4] [] (.tuple [.sl 1000 0,.bool r.1]) [(1000,.arr 31 0 0 (.rats r.2))] := by
 refine spec_of (E := E450) Tryz.func175 rfl rfl rfl rfl ?_
 refine Tri.f 1 [] [.keep [1,2,3,4] [4]] rfl trivial ?_
 obtain ⟨v1,hk1,h⟩ := bind_some h
 refine Tri.f 1 [.v (.bool v1)] [.keep [1,2,3,4,17] [4]] rfl ⟨fun _ => W133 a0 a1 a2 v1 hk1,trivial⟩ ?_
 rcases bif_some h with ⟨hd2,h⟩ | ⟨hd2,h⟩
 ·refine Tri.f 2 [.g true] [.own 8 [] 1100 31,.swap 1100 1000,.keep [8,9] [1000]] rfl ⟨hd2,trivial⟩ ?_
  cases h
  exact Tri.ret rfl ⟨.inl rfl,rfl,rfl⟩
 ·refine Tri.f 3 [.g false] [.keep [1,3,4,10,11] [4,18]] rfl ⟨hd2,trivial⟩ ?_
  obtain ⟨x1,hk7,h⟩ := bind_some h
  refine Tri.loop (K1 := [.code [(3,0),(1,0),(0,0)] 0]) (K2 := [.blk 0,.code [] 4]) (fun (v2,v3) => ⟨[(1,.list (.rats a2)),(3,.i a4),(4,.ptr 4 0),(10,.sl 18 0),(11,.i v2)],[(4,.box [.i a0,.list (.ints a1)]),(18,.arr 31 0 0 (.rats v3))]⟩) (fun x e σ' => match x with | (.inl v7) => e = .exit 0 ∧ σ' = ⟨[(10,.sl 18 0)],[(18,.arr 31 0 0 (.rats v7))]⟩ | (.inr r) => e = .ret ∧ K295 r σ') hk7 rfl rfl ?_ ?_
  ·intro s x hs
   clear h
   have h := hs
   clear hs
   obtain ⟨v2,v3⟩ := s
   refine Tri.f 1 [] [.keep [1,3,4,10,11,22] [4,18]] rfl trivial ?_
   rcases bif_some h with ⟨hd3,h⟩ | ⟨hd3,h⟩
   ·obtain ⟨⟨v4,v5,v6⟩,hk4,h⟩ := bind_some h
    refine Tri.f 3 [.g true,.v (.tuple [.agg [.i v4,.i v5],.bool v6])] [.keep [1,3,4,10,11,12,33] [4,12,18]] rfl ⟨fun _ => W134 a0 a1 a2 v2 (v4,v5,v6) hk4,hd3,trivial⟩ ?_
    rcases bif_some h with ⟨hd5,h⟩ | ⟨hd5,h⟩
    ·refine Tri.f 2 [.g true] [.own 8 [] 1101 31,.swap 1101 1000,.keep [8,9] [1000]] rfl ⟨hd5,trivial⟩ ?_
     cases h
     exact Tri.ret rfl ⟨nofun,rfl,rfl,rfl⟩
    ·obtain ⟨hg6,h⟩ := grd_some h
     refine Tri.f 3 [.g false] [.rever 18,.keep [1,3,4,10,11] [4,18]] rfl ⟨hg6,hd5,trivial⟩ ?_
     cases h
     exact Tri.nil ⟨rfl,rfl⟩
   ·refine Tri.f 1 [.g false] [.keep [10] [18]] rfl ⟨hd3,trivial⟩ ?_
    cases h
    exact Tri.out 0 rfl ⟨nofun,rfl,rfl⟩
  ·intro e σ' hne hq
   rcases x1 with v7 | r
   ·obtain ⟨rfl,rfl⟩ := hq
    refine TriX.exit (K' := [.code [] 4]) rfl ?_
    refine Tri.f 1 [] [.swap 18 1000,.keep [8,9] [1000]] rfl trivial ?_
    cases h
    exact Tri.ret rfl ⟨.inl rfl,rfl,rfl⟩
   ·obtain ⟨rfl,hq⟩ := hq
    cases h
    exact TriX.ret ⟨.inl rfl,hq⟩
noncomputable def E451 : Env := ⟨Tryz.prog,tys,(Tryz.f181.body).getD .skip,33,tysOk,mixedOk⟩
abbrev K296 (r : Int × Int) (σ' : ASt) : Prop := isRes E451.T Tryz.f181 (.agg [.i r.1,.i r.2]) [] σ'
noncomputable def l_slices_MaxFunc_impl_Rat_impl_Rat_impl_CompareRat_0 (a0 : List Q) : (Int × Int × Int) → Option ((Int × Int × Int) ⊕ ((Int × Int)))
 | (v1,v2,v3) => (
bif decide (v1 < (a0.length : Int)) then
(grd (0 ≤ v1 ∧ v1 < (a0.length : Int)) <|
(m_impl_CompareRat ((a0.getD v1.toNat ⟨0,0⟩).num) ((a0.getD v1.toNat ⟨0,0⟩).den) v2 v3).bind fun v4 =>
bif decide (v4 > 0) then
(grd (0 ≤ v1 ∧ v1 < (a0.length : Int)) <|
some (.inl (IntKind.i64.wrap (v1 + 1),(a0.getD v1.toNat ⟨0,0⟩).num,(a0.getD v1.toNat ⟨0,0⟩).den)))
else
(some (.inl (IntKind.i64.wrap (v1 + 1),v2,v3))))
else
(some (.inr (v2,v3))))
noncomputable def m_slices_MaxFunc_impl_Rat_impl_Rat_impl_CompareRat (a0 : List Q) : Option (Int × Int) :=
bif decide ((a0.length : Int) < 1) then
(none)
else
(grd ((0 : Int) ≤ (0 : Int) ∧ (0 : Int) < (a0.length : Int)) <|
(iter (l_slices_MaxFunc_impl_Rat_impl_Rat_impl_CompareRat_0 a0) ((1 : Int),(a0.getD ((0 : Int).toNat) ⟨0,0⟩).num,(a0.getD ((0 : Int).toNat) ⟨0,0⟩).den)).bind fun
| (v5,v6) => (
some (v5,v6)))
theorem W136 (a0 : List Q) (r : Int × Int) (h : m_slices_MaxFunc_impl_Rat_impl_Rat_impl_CompareRat a0 = some r) : AM.Spec Tryz.prog 181 [.list (.rats a0),.func 49 [] []] [] (.agg [.i r.1,.i r.2]) [] := by
 refine spec_of (E := E451) Tryz.func181 rfl rfl rfl rfl ?_
 refine Tri.f 2 [] [.keep [0,1,4,9] [4]] rfl trivial ?_
 rcases bif_some h with ⟨hd1,h⟩ | ⟨hd1,h⟩
 ·cases h
 ·obtain ⟨hg2,h⟩ := grd_some h
  refine Tri.f 3 [.g false] [.keep [0,1,4,5,6] [4,5]] rfl ⟨hg2,hd1,trivial⟩ ?_
  obtain ⟨x1,hk8,h⟩ := bind_some h
  refine Tri.loop (K1 := [.code [(3,0),(1,0),(0,0)] 0]) (K2 := [.blk 0,.code [] 4]) (fun (v1,v2,v3) => ⟨[(0,.list (.rats a0)),(1,.func 49 [] []),(4,.ptr 4 0),(5,.ptr 5 0),(6,.i v1)],[(4,.box [.i 0,.i 0]),(5,.box [.i v2,.i v3])]⟩) (fun x e σ' => match x with | (v5,v6) => e = .exit 0 ∧ σ' = ⟨[(4,.ptr 4 0),(5,.ptr 5 0)],[(4,.box [.i 0,.i 0]),(5,.box [.i v5,.i v6])]⟩) hk8 rfl rfl ?_ ?_
  ·intro s x hs
   clear h
   have h := hs
   clear hs
   obtain ⟨v1,v2,v3⟩ := s
   refine Tri.f 1 [] [.keep [0,1,4,5,6,17] [4,5]] rfl trivial ?_
   rcases bif_some h with ⟨hd3,h⟩ | ⟨hd3,h⟩
   ·obtain ⟨hg4,h⟩ := grd_some h
    obtain ⟨v4,hk5,h⟩ := bind_some h
    refine Tri.f 2 [.g true,.v (.i v4)] [.keep [0,1,4,5,6,27] [4,5]] rfl ⟨fun _ => W56 ((a0.getD v1.toNat ⟨0,0⟩).num) ((a0.getD v1.toNat ⟨0,0⟩).den) v2 v3 v4 hk5,hg4,hd3,trivial⟩ ?_
    rcases bif_some h with ⟨hd6,h⟩ | ⟨hd6,h⟩
    ·obtain ⟨hg7,h⟩ := grd_some h
     refine Tri.f 3 [.g true] [.keep [0,1,4,5,6] [4,5]] rfl ⟨hg7,hd6,trivial⟩ ?_
     cases h
     exact Tri.nil ⟨rfl,rfl⟩
    ·refine Tri.f 2 [.g false] [.keep [0,1,4,5,6] [4,5]] rfl ⟨hd6,trivial⟩ ?_
     cases h
     exact Tri.nil ⟨rfl,rfl⟩
   ·refine Tri.f 1 [.g false] [.keep [4,5] [4,5]] rfl ⟨hd3,trivial⟩ ?_
    cases h
    exact Tri.out 0 rfl ⟨nofun,rfl,rfl⟩
  ·intro e σ' hne hq
   obtain ⟨v5,v6⟩ := x1
   obtain ⟨rfl,rfl⟩ := hq
   refine TriX.exit (K' := [.code [] 4]) rfl ?_
   refine Tri.f 1 [] [.keep [4] [4]] rfl trivial ?_
   cases h
   exact Tri.ret rfl ⟨.inl rfl,rfl,rfl⟩
noncomputable def E452 : Env := ⟨Tryz.prog,tys,(Tryz.f129.body).getD .skip,52,tysOk,mixedOk⟩
abbrev K297 (r : Int × Int × Bool × (List Int)) (σ' : ASt) : Prop := isRes E452.T Tryz.f129 (.tuple [.agg [.i r.1,.i r.2.1],.sl 1000 0,.bool r.2.2.1]) [(1000,.arr 3 0 0 (.ints r.2.2.2))] σ'
noncomputable def l_impl_WorstExcess_0 (v2 : List Q) (v3 v4 : Int) : (Int × (List Int)) → Option ((Int × (List Int)) ⊕ ((List Int)))
 | (v5,v6) => (
bif decide (v5 < (v2.length : Int)) then
(grd (0 ≤ v5 ∧ v5 < (v2.length : Int)) <|
bif ((v2.getD v5.toNat ⟨0,0⟩).num) == v3 && ((v2.getD v5.toNat ⟨0,0⟩).den) == v4 then
(grd (v6.length + ([IntKind.i64.wrap (v5 + 1)] : List Int).length ≤ room) <|
some (.inl (IntKind.i64.wrap (v5 + 1),v6 ++ [IntKind.i64.wrap (v5 + 1)])))
else
(some (.inl (IntKind.i64.wrap (v5 + 1),v6))))
else
(some (.inr v6)))
noncomputable def m_impl_WorstExcess (a0 : Int) (a1 : List Int) (a2 : List Q) : Option (Int × Int × Bool × (List Int)) :=
(m_impl_excesses a0 a1 a2 (1 : Int) (IntKind.i64.wrap ((a1.length : Int) - 2))).bind fun (v1,v2) =>
bif !v1 then
(some (0,0,false,[]))
else
(bif (v2.length : Int) == 0 then
(some (0,0,false,[]))
else
((m_slices_MaxFunc_impl_Rat_impl_Rat_impl_CompareRat v2).bind fun (v3,v4) =>
(iter (l_impl_WorstExcess_0 v2 v3 v4) ((0 : Int),[])).bind fun
| v7 => (
some (v3,v4,true,v7))))
theorem W137 (a0 : Int) (a1 : List Int) (a2 : List Q) (r : Int × Int × Bool × (List Int)) (h : m_impl_WorstExcess a0 a1 a2 = some r) : AM.Spec Tryz.prog 129 [.agg [.i a0,.list (.ints a1)],.list (.rats a2)] [] (.tuple [.agg [.i r.1,.i r.2.1],.sl 1000 0,.bool r.2.2.1]) [(1000,.arr 3 0 0 (.ints r.2.2.2))] := by
 refine spec_of (E := E452) Tryz.func129 rfl rfl rfl rfl ?_
 refine Tri.f 1 [] [.keep [1,2,4] [2,4]] rfl trivial ?_
 obtain ⟨⟨v1,v2⟩,hk1,h⟩ := bind_some h
 rcases bif_some h with ⟨hd2,h⟩ | ⟨hd2,h⟩
 ·refine Tri.f 2 [.r ⟨[],.tuple [.sl 1100 0,.bool v1],[(1100,.arr 31 0 0 (.rats v2))]⟩,.g true] [.keep [4,7,29] [4,1100]] rfl ⟨hd2,fun _ => (W135 a0 a1 a2 (1 : Int) (IntKind.i64.wrap ((a1.length : Int) - 2)) (v1,v2) hk1).swap 1000 1100,trivial⟩ ?_
  refine Tri.f 2 [.g true] [.own 5 [] 1101 3,.swap 1101 1000,.keep [4,5,6] [4,1000]] rfl ⟨rfl,trivial⟩ ?_
  cases h
  exact Tri.ret rfl ⟨.inl rfl,rfl,rfl⟩
 ·refine Tri.f 2 [.r ⟨[],.tuple [.sl 1100 0,.bool v1],[(1100,.arr 31 0 0 (.rats v2))]⟩,.g false] [.keep [4,7,29] [4,1100]] rfl ⟨hd2,fun _ => (W135 a0 a1 a2 (1 : Int) (IntKind.i64.wrap ((a1.length : Int) - 2)) (v1,v2) hk1).swap 1000 1100,trivial⟩ ?_
  rcases bif_some h with ⟨hd3,h⟩ | ⟨hd3,h⟩
  ·refine Tri.f 2 [.g true] [.own 5 [] 1102 3,.swap 1102 1000,.keep [4,5,6] [4,1000]] rfl ⟨hd3,trivial⟩ ?_
   cases h
   exact Tri.ret rfl ⟨.inl rfl,rfl,rfl⟩
  ·obtain ⟨⟨v3,v4⟩,hk4,h⟩ := bind_some h
   refine Tri.f 3 [.g false,.v (.agg [.i v3,.i v4])] [.keep [4,7,9,10] [4,9,33,1100]] rfl ⟨fun _ => W136 v2 (v3,v4) hk4,hd3,trivial⟩ ?_
   refine Tri.f 1 [] [.keep [4,9,10,34,35,36] [4,9,33,1100]] rfl trivial ?_
   obtain ⟨v7,hk9,h⟩ := bind_some h
   refine Tri.loop (K1 := [.code [(5,0),(1,0),(0,0)] 0]) (K2 := [.blk 0,.code [] 6]) (fun (v5,v6) => ⟨[(4,.ptr 4 0),(9,.ptr 9 0),(10,.sl 33 0),(34,.sl 1100 0),(35,.i (v2.length : Int)),(36,.i v5)],[(4,.box [.i 0,.i 0]),(9,.box [.i v3,.i v4]),(33,.arr 3 0 0 (.ints v6)),(1100,.arr 31 0 0 (.rats v2))]⟩) (fun x e σ' => match x with | v7 => e = .exit 0 ∧ σ' = ⟨[(4,.ptr 4 0),(9,.ptr 9 0),(10,.sl 33 0)],[(4,.box [.i 0,.i 0]),(9,.box [.i v3,.i v4]),(33,.arr 3 0 0 (.ints v7))]⟩) hk9 rfl rfl ?_ ?_
   ·intro s x hs
    clear h
    have h := hs
    clear hs
    obtain ⟨v5,v6⟩ := s
    refine Tri.f 1 [] [.keep [4,9,10,34,35,36,37] [4,9,33,1100]] rfl trivial ?_
    rcases bif_some h with ⟨hd5,h⟩ | ⟨hd5,h⟩
    ·obtain ⟨hg6,h⟩ := grd_some h
     refine Tri.f 3 [.g true] [.keep [4,9,10,11,34,35,36,43] [4,9,33,1100]] rfl ⟨hg6,hd5,trivial⟩ ?_
     rcases bif_some h with ⟨hd7,h⟩ | ⟨hd7,h⟩
     ·obtain ⟨hg8,h⟩ := grd_some h
      refine Tri.f 3 [.g true] [.rever 33,.keep [4,9,10,34,35,36] [4,9,33,1100]] rfl ⟨hg8,hd7,trivial⟩ ?_
      cases h
      exact Tri.nil ⟨rfl,rfl⟩
     ·refine Tri.f 2 [.g false] [.keep [4,9,10,34,35,36] [4,9,33,1100]] rfl ⟨hd7,trivial⟩ ?_
      cases h
      exact Tri.nil ⟨rfl,rfl⟩
    ·refine Tri.f 1 [.g false] [.keep [4,9,10] [4,9,33]] rfl ⟨hd5,trivial⟩ ?_
     cases h
     exact Tri.out 0 rfl ⟨nofun,rfl,rfl⟩
   ·intro e σ' hne hq
    obtain ⟨rfl,rfl⟩ := hq
    refine TriX.exit (K' := [.code [] 6]) rfl ?_
    refine Tri.f 1 [] [.swap 33 1000,.keep [4,5,6] [4,1000]] rfl trivial ?_
    cases h
    exact Tri.ret rfl ⟨.inl rfl,rfl,rfl⟩
noncomputable def E453 : Env := ⟨Tryz.prog,tys,(Tryz.f42.body).getD .skip,65,tysOk,mixedOk⟩
abbrev K298 (r : Bool) (σ' : ASt) : Prop := isRes E453.T Tryz.f42 (.bool r) [] σ'
noncomputable def m_impl_CheckLeastCore (a0 : Int) (a1 : List Int) (a2 : Bool) (a3 a4 : Int) (a5 a6 : List Q) : Option Bool :=
(m_impl_LeastLP a0 a1).bind fun (v1,v2,v3,v4) =>
(m_impl_WorstExcess a0 a1 a5).bind fun (v5,v6,v7,_) =>
bif !v1 then
(some false)
else
(bif !a2 then
(some false)
else
(bif !v7 then
(some false)
else
(bif !(v5 == a3 && v6 == a4) then
(some false)
else
((m_impl_IsFeasible v2 v3 v4 a6).bind fun v9 =>
bif !v9 then
(some false)
else
((m_impl_DotRat v4 a6).bind fun (v10,v11,v12) =>
bif v12 then
((m_impl_minus a3 a4).bind fun (v13,v14) =>
some (v10 == v13 && v11 == v14))
else
(some false))))))
theorem W138 (a0 : Int) (a1 : List Int) (a2 : Bool) (a3 a4 : Int) (a5 a6 : List Q) (r : Bool) (h : m_impl_CheckLeastCore a0 a1 a2 a3 a4 a5 a6 = some r) : AM.Spec Tryz.prog 42 [.agg [.i a0,.list (.ints a1)],.agg [.bool a2,.i a3,.i a4,.list (.rats a5),.list (.rats a6)]] [] (.bool r) [] := by
 refine spec_of (E := E453) Tryz.func42 rfl rfl rfl rfl ?_
 refine Tri.f 1 [] [.keep [2,3] [2,3]] rfl trivial ?_
 obtain ⟨⟨v1,v2,v3,v4⟩,hk1,h⟩ := bind_some h
 obtain ⟨⟨v5,v6,v7,v8⟩,hk2,h⟩ := bind_some h
 refine Tri.f 2 [.r ⟨[],.tuple [.agg [.sl 1100 0,.sl 1101 0,.sl 1102 0],.bool v1],[(1100,.arr 25 0 0 (.intss v2)),(1101,.arr 3 0 0 (.ints v3)),(1102,.arr 31 0 0 (.rats v4))]⟩,.r ⟨[],.tuple [.agg [.i v5,.i v6],.sl 1103 0,.bool v7],[(1103,.arr 3 0 0 (.ints v8))]⟩] [.keep [3,5,6,7,9] [3,5,7,1100,1101,1102]] rfl ⟨fun _ => (W137 a0 a1 a5 (v5,v6,v7,v8) hk2).swap 1000 1103,fun _ => (((W27 a0 a1 (v1,v2,v3,v4) hk1).swap 1000 1100).swap 1001 1101).swap 1002 1102,trivial⟩ ?_
 rcases bif_some h with ⟨hd3,h⟩ | ⟨hd3,h⟩
 ·refine Tri.f 1 [.g true,.g true,.g true,.g true] [.keep [3,5,48] [3,5,1100,1101,1102]] rfl ⟨rfl,rfl,rfl,hd3,trivial⟩ ?_
  refine Tri.f 2 [.g true] [.keep [4] []] rfl ⟨rfl,trivial⟩ ?_
  cases h
  exact Tri.ret rfl ⟨.inl rfl,rfl,rfl⟩
 ·rcases bif_some h with ⟨hd4,h⟩ | ⟨hd4,h⟩
  ·refine Tri.f 1 [.g false,.g true,.g true,.g true] [.keep [3,5,48] [3,5,1100,1101,1102]] rfl ⟨rfl,rfl,hd4,hd3,trivial⟩ ?_
   refine Tri.f 2 [.g true] [.keep [4] []] rfl ⟨rfl,trivial⟩ ?_
   cases h
   exact Tri.ret rfl ⟨.inl rfl,rfl,rfl⟩
  ·rcases bif_some h with ⟨hd5,h⟩ | ⟨hd5,h⟩
   ·refine Tri.f 1 [.g false,.g false,.g true,.g true] [.keep [3,5,48] [3,5,1100,1101,1102]] rfl ⟨rfl,hd5,hd4,hd3,trivial⟩ ?_
    refine Tri.f 2 [.g true] [.keep [4] []] rfl ⟨rfl,trivial⟩ ?_
    cases h
    exact Tri.ret rfl ⟨.inl rfl,rfl,rfl⟩
   ·rcases bif_some h with ⟨hd6,h⟩ | ⟨hd6,h⟩
    ·refine Tri.f 1 [.g false,.g false,.g false,.g true] [.keep [3,5,48] [3,5,1100,1101,1102]] rfl ⟨hd6,hd5,hd4,hd3,trivial⟩ ?_
     refine Tri.f 2 [.g true] [.keep [4] []] rfl ⟨rfl,trivial⟩ ?_
     cases h
     exact Tri.ret rfl ⟨.inl rfl,rfl,rfl⟩
    ·obtain ⟨v9,hk7,h⟩ := bind_some h
     refine Tri.f 1 [.g false,.g false,.g false,.g false,.v (.bool v9)] [.keep [3,5,48] [3,5,1100,1101,1102]] rfl ⟨fun _ => W75 v2 v3 v4 a6 v9 hk7,hd6,hd5,hd4,hd3,trivial⟩ ?_
     rcases bif_some h with ⟨hd8,h⟩ | ⟨hd8,h⟩
     ·refine Tri.f 2 [.g true] [.keep [4] []] rfl ⟨hd8,trivial⟩ ?_
      cases h
      exact Tri.ret rfl ⟨.inl rfl,rfl,rfl⟩
     ·obtain ⟨⟨v10,v11,v12⟩,hk9,h⟩ := bind_some h
      refine Tri.f 2 [.g false,.v (.tuple [.agg [.i v10,.i v11],.bool v12])] [.keep [3,10,11] [3,10]] rfl ⟨fun _ => W73 v4 a6 (v10,v11,v12) hk9,hd8,trivial⟩ ?_
      rcases bif_some h with ⟨hd10,h⟩ | ⟨hd10,h⟩
      ·obtain ⟨⟨v13,v14⟩,hk11,h⟩ := bind_some h
       refine Tri.f 1 [.g true,.v (.agg [.i v13,.i v14])] [.keep [4] []] rfl ⟨fun _ => W50 a3 a4 (v13,v14) hk11,hd10,trivial⟩ ?_
       cases h
       exact Tri.ret rfl ⟨.inl rfl,rfl,rfl⟩
      ·refine Tri.f 1 [.g false] [.keep [4] []] rfl ⟨hd10,trivial⟩ ?_
       cases h
       exact Tri.ret rfl ⟨.inl rfl,rfl,rfl⟩
abbrev K299 (r : (List UInt8) × Int × Int × (List Int) × (List Q) × (List Q) × Int × Bool × Int × Int) (σ' : ASt) : Prop := isRes E322.T Tryz.f63 (.ptr 1000 0) [(1000,.box [.list (.bytes r.1),.i r.2.1,.i r.2.2.1]),(1001,.arr 3 0 0 (.ints r.2.2.2.1)),(1002,.arr 31 0 0 (.rats r.2.2.2.2.1)),(1003,.arr 31 0 0 (.rats r.2.2.2.2.2.1)),(2000,.box [.i r.2.2.2.2.2.2.1,.sl 1001 0]),(2002,.box [.bool r.2.2.2.2.2.2.2.1,.i r.2.2.2.2.2.2.2.2.1,.i r.2.2.2.2.2.2.2.2.2,.sl 1002 0,.sl 1003 0])] σ'
noncomputable def l_spec_l1New_io5_0 (a7 : List UInt8) : (Int × Int) → Option ((Int × Int) ⊕ Int)
 | (v1,v2) => (
bif decide (v2 < (a7.length : Int)) then
(bif decide (v2 < 4000) then
(grd (0 ≤ v2 ∧ v2 < (a7.length : Int)) <|
some (.inl (bitsOf .and .i64 (IntKind.i64.wrap ((IntKind.i64.wrap ((IntKind.i64.wrap (v1 * 131)) + (IntKind.i64.wrap (((a7.getD v2.toNat 0).toNat : Int))))) + 7)) (1073741823 : Int),IntKind.i64.wrap (v2 + 1))))
else
(some (.inr v1)))
else
(some (.inr v1)))
noncomputable def m_spec_l1New_io5 (a0 : Int) (a1 : List Int) (a2 : Bool) (a3 a4 : Int) (a5 a6 : List Q) (a7 : List UInt8) : Option ((List UInt8) × Int × Int × (List Int) × (List Q) × (List Q) × Int × Bool × Int × Int) :=
(iter (l_spec_l1New_io5_0 a7) (IntKind.i64.wrap ((26583 : Int) + (a7.length : Int)),(0 : Int))).bind fun
| v3 => (
some (a7,0,v3,a1,a5,a6,a0,a2,a3,a4))
theorem W139 (a0 : Int) (a1 : List Int) (a2 : Bool) (a3 a4 : Int) (a5 a6 : List Q) (a7 : List UInt8) (r : (List UInt8) × Int × Int × (List Int) × (List Q) × (List Q) × Int × Bool × Int × Int) (h : m_spec_l1New_io5 a0 a1 a2 a3 a4 a5 a6 a7 = some r) : AM.Spec Tryz.prog 63 [.list (.bytes a7)] [(2000,.box [.i a0,.sl 2001 0]),(2001,.arr 3 0 0 (.ints a1)),(2002,.box [.bool a2,.i a3,.i a4,.sl 2003 0,.sl 2004 0]),(2003,.arr 31 0 0 (.rats a5)),(2004,.arr 31 0 0 (.rats a6))] (.ptr 1000 0) [(1000,.box [.list (.bytes r.1),.i r.2.1,.i r.2.2.1]),(1001,.arr 3 0 0 (.ints r.2.2.2.1)),(1002,.arr 31 0 0 (.rats r.2.2.2.2.1)),(1003,.arr 31 0 0 (.rats r.2.2.2.2.2.1)),(2000,.box [.i r.2.2.2.2.2.2.1,.sl 1001 0]),(2002,.box [.bool r.2.2.2.2.2.2.2.1,.i r.2.2.2.2.2.2.2.2.1,.i r.2.2.2.2.2.2.2.2.2,.sl 1002 0,.sl 1003 0])] := by
 refine spec_of (E := E322) Tryz.func63 rfl rfl rfl rfl ?_
 refine Tri.f 3 [] [.swap 2001 1100,.swap 2003 1101,.swap 2004 1102,.keep [0,3,4] [1100,1101,1102,2000,2002]] rfl trivial ?_
 obtain ⟨v3,hk4,h⟩ := bind_some h
 refine Tri.loop (K1 := [.code [(2,0),(1,0),(0,0)] 0]) (K2 := [.blk 0,.code [] 3]) (fun (v1,v2) => ⟨[(0,.list (.bytes a7)),(3,.i v1),(4,.i v2)],[(1100,.arr 3 0 0 (.ints a1)),(1101,.arr 31 0 0 (.rats a5)),(1102,.arr 31 0 0 (.rats a6)),(2000,.box [.i a0,.sl 1100 0]),(2002,.box [.bool a2,.i a3,.i a4,.sl 1101 0,.sl 1102 0])]⟩) (fun x e σ' => match x with | v3 => e = .exit 0 ∧ σ' = ⟨[(0,.list (.bytes a7)),(3,.i v3)],[(1100,.arr 3 0 0 (.ints a1)),(1101,.arr 31 0 0 (.rats a5)),(1102,.arr 31 0 0 (.rats a6)),(2000,.box [.i a0,.sl 1100 0]),(2002,.box [.bool a2,.i a3,.i a4,.sl 1101 0,.sl 1102 0])]⟩) hk4 rfl rfl ?_ ?_
 ·intro s x hs
  clear h
  have h := hs
  clear hs
  obtain ⟨v1,v2⟩ := s
  rcases bif_some h with ⟨hd1,h⟩ | ⟨hd1,h⟩
  ·refine Tri.f 1 [.g true] [.keep [0,3,4,15] [1100,1101,1102,2000,2002]] rfl ⟨hd1,trivial⟩ ?_
   rcases bif_some h with ⟨hd2,h⟩ | ⟨hd2,h⟩
   ·obtain ⟨hg3,h⟩ := grd_some h
    refine Tri.f 3 [.g true] [.keep [0,3,4] [1100,1101,1102,2000,2002]] rfl ⟨hg3,hd2,trivial⟩ ?_
    cases h
    exact Tri.nil ⟨rfl,rfl⟩
   ·refine Tri.f 1 [.g false] [.keep [0,3] [1100,1101,1102,2000,2002]] rfl ⟨hd2,trivial⟩ ?_
    cases h
    exact Tri.out 0 rfl ⟨nofun,rfl,rfl⟩
  ·refine Tri.f 1 [.g false] [.keep [0,3,4,15] [1100,1101,1102,2000,2002]] rfl ⟨hd1,trivial⟩ ?_
   refine Tri.f 1 [.g false] [.keep [0,3] [1100,1101,1102,2000,2002]] rfl ⟨rfl,trivial⟩ ?_
   cases h
   exact Tri.out 0 rfl ⟨nofun,rfl,rfl⟩
 ·intro e σ' hne hq
  obtain ⟨rfl,rfl⟩ := hq
  refine TriX.exit (K' := [.code [] 3]) rfl ?_
  refine Tri.f 1 [] [.swap 31 1000,.swap 1100 1001,.swap 1101 1002,.swap 1102 1003,.keep [2] [1000,1001,1002,1003,2000,2002]] rfl trivial ?_
  cases h
  exact Tri.ret rfl ⟨.inl rfl,rfl,rfl⟩
noncomputable def E454 : Env := ⟨Tryz.prog,tys,(Tryz.f126.body).getD .skip,9,tysOk,mixedOk⟩
abbrev K300 (u0 : Value) (a0 : List UInt8) (r : Bool × Int × Int) (σ' : ASt) : Prop := isRes E454.T Tryz.f126 (.bool r.1) [(2300,.box [.lst u0 (.bytes a0),.i r.2.1,.i r.2.2])] σ'
noncomputable def m_spec_l1Once_io1 (a0 : List UInt8) (a1 a2 a3 : Int) : Option (Bool × Int × Int) :=
(m_spec_l1Below_io1 a0 a1 a2 a3).bind fun (v1,v2,v3) =>
some (v1 == 0,v2,v3)
theorem W140 (u0 : Value) (a0 : List UInt8) (a1 a2 a3 : Int) (r : Bool × Int × Int) (h : m_spec_l1Once_io1 a0 a1 a2 a3 = some r) : AM.Spec Tryz.prog 126 [.ptr 2300 0,.i a3] [(2300,.box [.lst u0 (.bytes a0),.i a1,.i a2])] (.bool r.1) [(2300,.box [.lst u0 (.bytes a0),.i r.2.1,.i r.2.2])] := by
 refine spec_of (E := E454) Tryz.func126 rfl rfl rfl rfl ?_
 refine Tri.f 1 [] [.keep [0,1] [2300]] rfl trivial ?_
 obtain ⟨⟨v1,v2,v3⟩,hk1,h⟩ := bind_some h
 refine Tri.f 1 [.r ⟨[2300],.i v1,[(2300,.box [.undf,.i v2,.i v3])]⟩] [.keep [4] [2300]] rfl ⟨(fun vf => ((W3 (vf 2300 0) a0 a1 a2 a3 (v1,v2,v3) hk1).swap 2060 2300)),trivial⟩ ?_
 cases h
 exact Tri.ret rfl ⟨.inl rfl,rfl,rfl⟩
noncomputable def E455 : Env := ⟨Tryz.prog,tys,(Tryz.f122.body).getD .skip,25,tysOk,mixedOk⟩
abbrev K301 (u0 : Value) (a0 : List UInt8) (r : Int × Int × Int × Int) (σ' : ASt) : Prop := isRes E455.T Tryz.f122 (.agg [.i r.1,.i r.2.1]) [(2280,.box [.lst u0 (.bytes a0),.i r.2.2.1,.i r.2.2.2])] σ'
noncomputable def m_spec_l3Draw_io1 (a0 : List UInt8) (a1 a2 : Int) : Option (Int × Int × Int × Int) :=
(m_spec_l1PickInt_io1 a0 a1 a2 [(0 : Int),(1 : Int),(2 : Int),(-1 : Int),(3 : Int),(-7 : Int),(12 : Int),(999999999 : Int),(-1000000000 : Int)]).bind fun (v1,v2,v3) =>
(m_spec_l1PickInt_io1 a0 v2 v3 [(1 : Int),(1 : Int),(2 : Int),(3 : Int),(7 : Int),(1000000000 : Int),(999999937 : Int)]).bind fun (v4,v5,v6) =>
(m_spec_RatOf v1 v4).bind fun (v7,v8,_) =>
(m_spec_l1Once_io1 a0 v5 v6 (12 : Int)).bind fun (v10,v11,v12) =>
bif v10 then
((m_spec_l1PickInt_io1 a0 v11 v12 [(0 : Int),(2 : Int),(1000000001 : Int)]).bind fun (v13,v14,v15) =>
(m_spec_l1PickInt_io1 a0 v14 v15 [(0 : Int),(2 : Int),(-1 : Int),(1 : Int)]).bind fun (v16,v17,v18) =>
some (v13,v16,v17,v18))
else
(some (v7,v8,v11,v12))
theorem W141 (u0 : Value) (a0 : List UInt8) (a1 a2 : Int) (r : Int × Int × Int × Int) (h : m_spec_l3Draw_io1 a0 a1 a2 = some r) : AM.Spec Tryz.prog 122 [.ptr 2280 0] [(2280,.box [.lst u0 (.bytes a0),.i a1,.i a2])] (.agg [.i r.1,.i r.2.1]) [(2280,.box [.lst u0 (.bytes a0),.i r.2.2.1,.i r.2.2.2])] := by
 refine spec_of (E := E455) Tryz.func122 rfl rfl rfl rfl ?_
 refine Tri.f 1 [] [.keep [0,2] [2,2280]] rfl trivial ?_
 obtain ⟨⟨v1,v2,v3⟩,hk1,h⟩ := bind_some h
 obtain ⟨⟨v4,v5,v6⟩,hk2,h⟩ := bind_some h
 obtain ⟨⟨v7,v8,v9⟩,hk3,h⟩ := bind_some h
 obtain ⟨⟨v10,v11,v12⟩,hk4,h⟩ := bind_some h
 refine Tri.f 2 [.r ⟨[2280],.i v1,[(2280,.box [.undf,.i v2,.i v3])]⟩,.r ⟨[2280],.i v4,[(2280,.box [.undf,.i v5,.i v6])]⟩,.v (.tuple [.agg [.i v7,.i v8],.bool v9]),.r ⟨[2280],.bool v10,[(2280,.box [.undf,.i v11,.i v12])]⟩] [.keep [0,2,3,16] [2,3,2280]] rfl ⟨(fun vf => ((W140 (vf 2280 0) a0 v5 v6 (12 : Int) (v10,v11,v12) hk4).swap 2300 2280)),fun _ => W94 v1 v4 (v7,v8,v9) hk3,(fun vf => ((W9 (vf 2280 0) a0 v2 v3 [(1 : Int),(1 : Int),(2 : Int),(3 : Int),(7 : Int),(1000000000 : Int),(999999937 : Int)] (v4,v5,v6) hk2).swap 2100 2280)),(fun vf => ((W9 (vf 2280 0) a0 a1 a2 [(0 : Int),(1 : Int),(2 : Int),(-1 : Int),(3 : Int),(-7 : Int),(12 : Int),(999999999 : Int),(-1000000000 : Int)] (v1,v2,v3) hk1).swap 2100 2280)),trivial⟩ ?_
 rcases bif_some h with ⟨hd5,h⟩ | ⟨hd5,h⟩
 ·obtain ⟨⟨v13,v14,v15⟩,hk6,h⟩ := bind_some h
  obtain ⟨⟨v16,v17,v18⟩,hk7,h⟩ := bind_some h
  refine Tri.f 2 [.g true,.r ⟨[2280],.i v13,[(2280,.box [.undf,.i v14,.i v15])]⟩,.r ⟨[2280],.i v16,[(2280,.box [.undf,.i v17,.i v18])]⟩] [.keep [2] [2,2280]] rfl ⟨(fun vf => ((W9 (vf 2280 0) a0 v14 v15 [(0 : Int),(2 : Int),(-1 : Int),(1 : Int)] (v16,v17,v18) hk7).swap 2100 2280)),(fun vf => ((W9 (vf 2280 0) a0 v11 v12 [(0 : Int),(2 : Int),(1000000001 : Int)] (v13,v14,v15) hk6).swap 2100 2280)),hd5,trivial⟩ ?_
  cases h
  exact Tri.ret rfl ⟨.inl rfl,rfl,rfl⟩
 ·refine Tri.f 2 [.g false] [.keep [2] [2,2280]] rfl ⟨hd5,trivial⟩ ?_
  cases h
  exact Tri.ret rfl ⟨.inl rfl,rfl,rfl⟩
noncomputable def E456 : Env := ⟨Tryz.prog,tys,(Tryz.f45.body).getD .skip,51,tysOk,mixedOk⟩
abbrev K302 (r : Int × Bool × Int × Int × (List Int) × (List Q) × (List Q)) (σ' : ASt) : Prop := isRes E456.T Tryz.f45 (.tuple [.agg [.i r.1,.sl 1000 0],.agg [.bool r.2.1,.i r.2.2.1,.i r.2.2.2.1,.sl 1001 0,.sl 1002 0]]) [(1000,.arr 3 0 0 (.ints r.2.2.2.2.1)),(1001,.arr 31 0 0 (.rats r.2.2.2.2.2.1)),(1002,.arr 31 0 0 (.rats r.2.2.2.2.2.2))] σ'
noncomputable def m_spec_DrawCheckLeastCore (a0 : List UInt8) : Option (Int × Bool × Int × Int × (List Int) × (List Q) × (List Q)) :=
(m_spec_l1New_io5 0 [] false 0 0 [] [] a0).bind fun (v1,v2,v3,_,_,_,_,_,_,_) =>
(m_spec_l8Bent_io1 v1 v2 v3).bind fun (v11,v12,v13,v14) =>
(m_spec_FindLeastCore v11 v12).bind fun (v15,v16,v17,v18,v19) =>
(m_spec_l1Below_io1 v1 v13 v14 (8 : Int)).bind fun (v20,v21,v22) =>
bif v20 == 0 then
((m_spec_l3Draw_io1 v1 v21 v22).bind fun (v23,v24,_,_) =>
some (v11,v15,v23,v24,v12,v18,v19))
else
(bif v20 == 1 then
(bif decide ((v18.length : Int) > 0) then
(grd ((0 : Int) ≤ (0 : Int) ∧ (0 : Int) < (v18.length : Int)) <|
(m_spec_l3Int (1 : Int)).bind fun (v27,v28) =>
(m_spec_AddRat ((v18.getD ((0 : Int).toNat) ⟨0,0⟩).num) ((v18.getD ((0 : Int).toNat) ⟨0,0⟩).den) v27 v28).bind fun (v29,v30,_) =>
grd ((0 : Int) ≤ (0 : Int) ∧ (0 : Int) < (v18.length : Int)) <|
some (v11,v15,v16,v17,v12,v18.set ((0 : Int).toNat) ⟨v29,v30⟩,v19))
else
(some (v11,v15,v16,v17,v12,v18,v19)))
else
(bif v20 == 2 then
(bif decide ((v19.length : Int) > 0) then
((m_spec_l3Draw_io1 v1 v21 v22).bind fun (v32,v33,_,_) =>
grd ((0 : Int) ≤ (0 : Int) ∧ (0 : Int) < (v19.length : Int)) <|
some (v11,v15,v16,v17,v12,v18,v19.set ((0 : Int).toNat) ⟨v32,v33⟩))
else
(some (v11,v15,v16,v17,v12,v18,v19)))
else
(some (v11,v15,v16,v17,v12,v18,v19))))
theorem W142 (a0 : List UInt8) (r : Int × Bool × Int × Int × (List Int) × (List Q) × (List Q)) (h : m_spec_DrawCheckLeastCore a0 = some r) : AM.Spec Tryz.prog 45 [.list (.bytes a0)] [] (.tuple [.agg [.i r.1,.sl 1000 0],.agg [.bool r.2.1,.i r.2.2.1,.i r.2.2.2.1,.sl 1001 0,.sl 1002 0]]) [(1000,.arr 3 0 0 (.ints r.2.2.2.2.1)),(1001,.arr 31 0 0 (.rats r.2.2.2.2.2.1)),(1002,.arr 31 0 0 (.rats r.2.2.2.2.2.2))] := by
 refine spec_of (E := E456) Tryz.func45 rfl rfl rfl rfl ?_
 refine Tri.f 1 [] [.keep [0,2,3] [2,3],.ownc 2 1 1100 3,.ownc 3 3 1101 31,.ownc 3 4 1102 31,.keep [0,2,3] [2,3,1100,1101,1102]] rfl trivial ?_
 obtain ⟨⟨v1,v2,v3,v4,v5,v6,v7,v8,v9,v10⟩,hk1,h⟩ := bind_some h
 obtain ⟨⟨v11,v12,v13,v14⟩,hk2,h⟩ := bind_some h
 refine Tri.f 2 [.r ⟨[2,1100,3,1101,1102],.ptr 1103 0,[(1103,.box [.list (.bytes v1),.i v2,.i v3]),(1104,.arr 3 0 0 (.ints v4)),(1105,.arr 31 0 0 (.rats v5)),(1106,.arr 31 0 0 (.rats v6)),(2,.box [.i v7,.sl 1104 0]),(3,.box [.bool v8,.i v9,.i v10,.sl 1105 0,.sl 1106 0])]⟩,.r ⟨[1103],.agg [.i v11,.sl 1107 0],[(1107,.arr 3 0 0 (.ints v12)),(1103,.box [.undf,.i v13,.i v14])]⟩] [.keep [2,3,4,5] [2,3,5,1103,1104,1105,1106,1107]] rfl ⟨(fun vf => (((W13 (vf 1103 0) v1 v2 v3 (v11,v12,v13,v14) hk2).swap 1000 1107).swap 2020 1103)),fun _ => (((((((((W139 0 [] false 0 0 [] [] a0 (v1,v2,v3,v4,v5,v6,v7,v8,v9,v10) hk1).swap 1000 1103).swap 1001 1104).swap 1002 1105).swap 1003 1106).swap 2000 2).swap 2001 1100).swap 2002 3).swap 2003 1101).swap 2004 1102,trivial⟩ ?_
 obtain ⟨⟨v15,v16,v17,v18,v19⟩,hk3,h⟩ := bind_some h
 obtain ⟨⟨v20,v21,v22⟩,hk4,h⟩ := bind_some h
 refine Tri.f 3 [.r ⟨[],.agg [.bool v15,.i v16,.i v17,.sl 1108 0,.sl 1109 0],[(1108,.arr 31 0 0 (.rats v18)),(1109,.arr 31 0 0 (.rats v19))]⟩,.r ⟨[1103],.i v20,[(1103,.box [.undf,.i v21,.i v22])]⟩] [.keep [2,3,4,5,6,14,15] [2,3,5,6,1103,1104,1105,1106,1107,1108,1109]] rfl ⟨(fun vf => ((W3 (vf 1103 0) v1 v13 v14 (8 : Int) (v20,v21,v22) hk4).swap 2060 1103)),fun _ => ((W128 v11 v12 (v15,v16,v17,v18,v19) hk3).swap 1000 1108).swap 1001 1109,trivial⟩ ?_
 rcases bif_some h with ⟨hd5,h⟩ | ⟨hd5,h⟩
 ·obtain ⟨⟨v23,v24,v25,v26⟩,hk6,h⟩ := bind_some h
  refine Tri.f 3 [.g true,.r ⟨[1103],.agg [.i v23,.i v24],[(1103,.box [.undf,.i v25,.i v26])]⟩] [.swap 1107 1000,.swap 1108 1001,.swap 1109 1002,.keep [2,3] [2,3,1000,1001,1002]] rfl ⟨(fun vf => ((W141 (vf 1103 0) v1 v21 v22 (v23,v24,v25,v26) hk6).swap 2280 1103)),hd5,trivial⟩ ?_
  cases h
  exact Tri.ret rfl ⟨.inl rfl,rfl,rfl⟩
 ·refine Tri.f 2 [.g false] [.keep [2,3,4,5,6,14,20] [2,3,5,6,1103,1104,1105,1106,1107,1108,1109]] rfl ⟨hd5,trivial⟩ ?_
  rcases bif_some h with ⟨hd7,h⟩ | ⟨hd7,h⟩
  ·refine Tri.f 2 [.g true] [.keep [2,3,5,6,25] [2,3,5,6,1104,1105,1106,1107,1108,1109]] rfl ⟨hd7,trivial⟩ ?_
   rcases bif_some h with ⟨hd8,h⟩ | ⟨hd8,h⟩
   ·obtain ⟨hg9,h⟩ := grd_some h
    obtain ⟨⟨v27,v28⟩,hk10,h⟩ := bind_some h
    obtain ⟨⟨v29,v30,v31⟩,hk11,h⟩ := bind_some h
    obtain ⟨hg12,h⟩ := grd_some h
    refine Tri.f 3 [.g true,.v (.agg [.i v27,.i v28]),.v (.tuple [.agg [.i v29,.i v30],.bool v31])] [.swap 1107 1000,.swap 1108 1001,.swap 1109 1002,.keep [2,3] [2,3,1000,1001,1002]] rfl ⟨hg12,fun _ => W96 ((v18.getD ((0 : Int).toNat) ⟨0,0⟩).num) ((v18.getD ((0 : Int).toNat) ⟨0,0⟩).den) v27 v28 (v29,v30,v31) hk11,fun _ => W82 (1 : Int) (v27,v28) hk10,hg9,hd8,trivial⟩ ?_
    cases h
    exact Tri.ret rfl ⟨.inl rfl,rfl,rfl⟩
   ·refine Tri.f 2 [.g false] [.swap 1107 1000,.swap 1108 1001,.swap 1109 1002,.keep [2,3] [2,3,1000,1001,1002]] rfl ⟨hd8,trivial⟩ ?_
    cases h
    exact Tri.ret rfl ⟨.inl rfl,rfl,rfl⟩
  ·refine Tri.f 2 [.g false] [.keep [2,3,4,5,6,38] [2,3,5,6,1103,1104,1105,1106,1107,1108,1109]] rfl ⟨hd7,trivial⟩ ?_
   rcases bif_some h with ⟨hd13,h⟩ | ⟨hd13,h⟩
   ·refine Tri.f 2 [.g true] [.keep [2,3,4,5,6,43] [2,3,5,6,1103,1104,1105,1106,1107,1108,1109]] rfl ⟨hd13,trivial⟩ ?_
    rcases bif_some h with ⟨hd14,h⟩ | ⟨hd14,h⟩
    ·obtain ⟨⟨v32,v33,v34,v35⟩,hk15,h⟩ := bind_some h
     obtain ⟨hg16,h⟩ := grd_some h
     refine Tri.f 3 [.g true,.r ⟨[1103],.agg [.i v32,.i v33],[(1103,.box [.undf,.i v34,.i v35])]⟩] [.swap 1107 1000,.swap 1108 1001,.swap 1109 1002,.keep [2,3] [2,3,1000,1001,1002]] rfl ⟨hg16,(fun vf => ((W141 (vf 1103 0) v1 v21 v22 (v32,v33,v34,v35) hk15).swap 2280 1103)),hd14,trivial⟩ ?_
     cases h
     exact Tri.ret rfl ⟨.inl rfl,rfl,rfl⟩
    ·refine Tri.f 2 [.g false] [.swap 1107 1000,.swap 1108 1001,.swap 1109 1002,.keep [2,3] [2,3,1000,1001,1002]] rfl ⟨hd14,trivial⟩ ?_
     cases h
     exact Tri.ret rfl ⟨.inl rfl,rfl,rfl⟩
   ·refine Tri.f 2 [.g false] [.swap 1107 1000,.swap 1108 1001,.swap 1109 1002,.keep [2,3] [2,3,1000,1001,1002]] rfl ⟨hd13,trivial⟩ ?_
    cases h
    exact Tri.ret rfl ⟨.inl rfl,rfl,rfl⟩
noncomputable def E457 : Env := ⟨Tryz.prog,tys,(Tryz.f124.body).getD .skip,26,tysOk,mixedOk⟩
abbrev K303 (r : Bool) (σ' : ASt) : Prop := isRes E457.T Tryz.f124 (.bool r) [] σ'
noncomputable def l_laws_sameInts_0 (a0 a1 : List Int) (v1 : Int) : Option (Int ⊕ (Unit ⊕ Bool)) :=
bif decide (v1 < (a0.length : Int)) then
(grd (0 ≤ v1 ∧ v1 < (a0.length : Int)) <|
grd (0 ≤ v1 ∧ v1 < (a1.length : Int)) <|
bif (a0.getD v1.toNat 0) != (a1.getD v1.toNat 0) then
(some (.inr (.inr false)))
else
(some (.inl (IntKind.i64.wrap (v1 + 1)))))
else
(some (.inr (.inl ())))
noncomputable def m_laws_sameInts (a0 a1 : List Int) : Option Bool :=
bif (a0.length : Int) != (a1.length : Int) then
(some false)
else
((iter (l_laws_sameInts_0 a0 a1) (0 : Int)).bind fun
| (.inl _) => (
some true)
| (.inr r) => some r)
theorem W143 (a0 a1 : List Int) (r : Bool) (h : m_laws_sameInts a0 a1 = some r) : AM.Spec Tryz.prog 124 [.list (.ints a0),.list (.ints a1)] [] (.bool r) [] := by
 refine spec_of (E := E457) Tryz.func124 rfl rfl rfl rfl ?_
 refine Tri.f 2 [] [.keep [0,1,10] []] rfl trivial ?_
 rcases bif_some h with ⟨hd1,h⟩ | ⟨hd1,h⟩
 ·refine Tri.f 2 [.g true] [.keep [4] []] rfl ⟨hd1,trivial⟩ ?_
  cases h
  exact Tri.ret rfl ⟨.inl rfl,rfl,rfl⟩
 ·refine Tri.f 2 [.g false] [.keep [0,1,5] []] rfl ⟨hd1,trivial⟩ ?_
  obtain ⟨x1,hk6,h⟩ := bind_some h
  refine Tri.loop (K1 := [.code [(2,0),(1,0),(0,0)] 0]) (K2 := [.blk 0,.code [] 3]) (fun v1 => ⟨[(0,.list (.ints a0)),(1,.list (.ints a1)),(5,.i v1)],[]⟩) (fun x e σ' => match x with | (.inl _) => e = .exit 0 ∧ σ' = ⟨[],[]⟩ | (.inr r) => e = .ret ∧ K303 r σ') hk6 rfl rfl ?_ ?_
  ·intro v1 x hs
   clear h
   have h := hs
   clear hs
   refine Tri.f 1 [] [.keep [0,1,5,14] []] rfl trivial ?_
   rcases bif_some h with ⟨hd2,h⟩ | ⟨hd2,h⟩
   ·obtain ⟨hg3,h⟩ := grd_some h
    obtain ⟨hg4,h⟩ := grd_some h
    refine Tri.f 2 [.g true] [.keep [0,1,5,25] []] rfl ⟨hg4,hg3,hd2,trivial⟩ ?_
    rcases bif_some h with ⟨hd5,h⟩ | ⟨hd5,h⟩
    ·refine Tri.f 2 [.g true] [.keep [4] []] rfl ⟨hd5,trivial⟩ ?_
     cases h
     exact Tri.ret rfl ⟨nofun,rfl,rfl,rfl⟩
    ·refine Tri.f 2 [.g false] [.keep [0,1,5] []] rfl ⟨hd5,trivial⟩ ?_
     cases h
     exact Tri.nil ⟨rfl,rfl⟩
   ·refine Tri.f 1 [.g false] [.keep [] []] rfl ⟨hd2,trivial⟩ ?_
    cases h
    exact Tri.out 0 rfl ⟨nofun,rfl,rfl⟩
  ·intro e σ' hne hq
   rcases x1 with _ | r
   ·obtain ⟨rfl,rfl⟩ := hq
    refine TriX.exit (K' := [.code [] 3]) rfl ?_
    refine Tri.f 1 [] [.keep [4] []] rfl trivial ?_
    cases h
    exact Tri.ret rfl ⟨.inl rfl,rfl,rfl⟩
   ·obtain ⟨rfl,hq⟩ := hq
    cases h
    exact TriX.ret ⟨.inl rfl,hq⟩
noncomputable def E458 : Env := ⟨Tryz.prog,tys,(Tryz.f123.body).getD .skip,27,tysOk,mixedOk⟩
abbrev K304 (r : Bool) (σ' : ASt) : Prop := isRes E458.T Tryz.f123 (.bool r) [] σ'
noncomputable def l_laws_sameLists_0 (a0 a1 : List (List Int)) (v1 : Int) : Option (Int ⊕ (Unit ⊕ Bool)) :=
bif decide (v1 < (a0.length : Int)) then
(grd (0 ≤ v1 ∧ v1 < (a0.length : Int)) <|
grd (0 ≤ v1 ∧ v1 < (a1.length : Int)) <|
(m_laws_sameInts (a0.getD v1.toNat []) (a1.getD v1.toNat [])).bind fun v2 =>
bif !v2 then
(some (.inr (.inr false)))
else
(some (.inl (IntKind.i64.wrap (v1 + 1)))))
else
(some (.inr (.inl ())))
noncomputable def m_laws_sameLists (a0 a1 : List (List Int)) : Option Bool :=
bif (a0.length : Int) != (a1.length : Int) then
(some false)
else
((iter (l_laws_sameLists_0 a0 a1) (0 : Int)).bind fun
| (.inl _) => (
some true)
| (.inr r) => some r)
theorem W144 (a0 a1 : List (List Int)) (r : Bool) (h : m_laws_sameLists a0 a1 = some r) : AM.Spec Tryz.prog 123 [.list (.intss a0),.list (.intss a1)] [] (.bool r) [] := by
 refine spec_of (E := E458) Tryz.func123 rfl rfl rfl rfl ?_
 refine Tri.f 2 [] [.keep [0,1,10] []] rfl trivial ?_
 rcases bif_some h with ⟨hd1,h⟩ | ⟨hd1,h⟩
 ·refine Tri.f 2 [.g true] [.keep [4] []] rfl ⟨hd1,trivial⟩ ?_
  cases h
  exact Tri.ret rfl ⟨.inl rfl,rfl,rfl⟩
 ·refine Tri.f 2 [.g false] [.keep [0,1,5] []] rfl ⟨hd1,trivial⟩ ?_
  obtain ⟨x1,hk7,h⟩ := bind_some h
  refine Tri.loop (K1 := [.code [(2,0),(1,0),(0,0)] 0]) (K2 := [.blk 0,.code [] 3]) (fun v1 => ⟨[(0,.list (.intss a0)),(1,.list (.intss a1)),(5,.i v1)],[]⟩) (fun x e σ' => match x with | (.inl _) => e = .exit 0 ∧ σ' = ⟨[],[]⟩ | (.inr r) => e = .ret ∧ K304 r σ') hk7 rfl rfl ?_ ?_
  ·intro v1 x hs
   clear h
   have h := hs
   clear hs
   refine Tri.f 1 [] [.keep [0,1,5,14] []] rfl trivial ?_
   rcases bif_some h with ⟨hd2,h⟩ | ⟨hd2,h⟩
   ·obtain ⟨hg3,h⟩ := grd_some h
    obtain ⟨hg4,h⟩ := grd_some h
    obtain ⟨v2,hk5,h⟩ := bind_some h
    refine Tri.f 2 [.g true,.v (.bool v2)] [.keep [0,1,5,26] []] rfl ⟨fun _ => W143 (a0.getD v1.toNat []) (a1.getD v1.toNat []) v2 hk5,hg4,hg3,hd2,trivial⟩ ?_
    rcases bif_some h with ⟨hd6,h⟩ | ⟨hd6,h⟩
    ·refine Tri.f 2 [.g true] [.keep [4] []] rfl ⟨hd6,trivial⟩ ?_
     cases h
     exact Tri.ret rfl ⟨nofun,rfl,rfl,rfl⟩
    ·refine Tri.f 2 [.g false] [.keep [0,1,5] []] rfl ⟨hd6,trivial⟩ ?_
     cases h
     exact Tri.nil ⟨rfl,rfl⟩
   ·refine Tri.f 1 [.g false] [.keep [] []] rfl ⟨hd2,trivial⟩ ?_
    cases h
    exact Tri.out 0 rfl ⟨nofun,rfl,rfl⟩
  ·intro e σ' hne hq
   rcases x1 with _ | r
   ·obtain ⟨rfl,rfl⟩ := hq
    refine TriX.exit (K' := [.code [] 3]) rfl ?_
    refine Tri.f 1 [] [.keep [4] []] rfl trivial ?_
    cases h
    exact Tri.ret rfl ⟨.inl rfl,rfl,rfl⟩
   ·obtain ⟨rfl,hq⟩ := hq
    cases h
    exact TriX.ret ⟨.inl rfl,hq⟩
noncomputable def E459 : Env := ⟨Tryz.prog,tys,(Tryz.f26.body).getD .skip,26,tysOk,mixedOk⟩
abbrev K305 (r : Bool) (σ' : ASt) : Prop := isRes E459.T Tryz.f26 (.bool r) [] σ'
noncomputable def l_spec_EqualVector_0 (a0 a1 : List Q) (v1 : Int) : Option (Int ⊕ (Unit ⊕ Bool)) :=
bif decide (v1 < (a0.length : Int)) then
(grd (0 ≤ v1 ∧ v1 < (a0.length : Int)) <|
grd (0 ≤ v1 ∧ v1 < (a1.length : Int)) <|
bif !(((a0.getD v1.toNat ⟨0,0⟩).num) == ((a1.getD v1.toNat ⟨0,0⟩).num) && ((a0.getD v1.toNat ⟨0,0⟩).den) == ((a1.getD v1.toNat ⟨0,0⟩).den)) then
(some (.inr (.inr false)))
else
(some (.inl (IntKind.i64.wrap (v1 + 1)))))
else
(some (.inr (.inl ())))
noncomputable def m_spec_EqualVector (a0 a1 : List Q) : Option Bool :=
bif (a0.length : Int) != (a1.length : Int) then
(some false)
else
((iter (l_spec_EqualVector_0 a0 a1) (0 : Int)).bind fun
| (.inl _) => (
some true)
| (.inr r) => some r)
theorem W145 (a0 a1 : List Q) (r : Bool) (h : m_spec_EqualVector a0 a1 = some r) : AM.Spec Tryz.prog 26 [.list (.rats a0),.list (.rats a1)] [] (.bool r) [] := by
 refine spec_of (E := E459) Tryz.func26 rfl rfl rfl rfl ?_
 refine Tri.f 2 [] [.keep [0,1,10] []] rfl trivial ?_
 rcases bif_some h with ⟨hd1,h⟩ | ⟨hd1,h⟩
 ·refine Tri.f 2 [.g true] [.keep [4] []] rfl ⟨hd1,trivial⟩ ?_
  cases h
  exact Tri.ret rfl ⟨.inl rfl,rfl,rfl⟩
 ·refine Tri.f 2 [.g false] [.keep [0,1,5] []] rfl ⟨hd1,trivial⟩ ?_
  obtain ⟨x1,hk6,h⟩ := bind_some h
  refine Tri.loop (K1 := [.code [(2,0),(1,0),(0,0)] 0]) (K2 := [.blk 0,.code [] 3]) (fun v1 => ⟨[(0,.list (.rats a0)),(1,.list (.rats a1)),(5,.i v1)],[]⟩) (fun x e σ' => match x with | (.inl _) => e = .exit 0 ∧ σ' = ⟨[],[]⟩ | (.inr r) => e = .ret ∧ K305 r σ') hk6 rfl rfl ?_ ?_
  ·intro v1 x hs
   clear h
   have h := hs
   clear hs
   refine Tri.f 1 [] [.keep [0,1,5,14] []] rfl trivial ?_
   rcases bif_some h with ⟨hd2,h⟩ | ⟨hd2,h⟩
   ·obtain ⟨hg3,h⟩ := grd_some h
    obtain ⟨hg4,h⟩ := grd_some h
    refine Tri.f 2 [.g true] [.keep [0,1,5,25] []] rfl ⟨hg4,hg3,hd2,trivial⟩ ?_
    rcases bif_some h with ⟨hd5,h⟩ | ⟨hd5,h⟩
    ·refine Tri.f 2 [.g true] [.keep [4] []] rfl ⟨hd5,trivial⟩ ?_
     cases h
     exact Tri.ret rfl ⟨nofun,rfl,rfl,rfl⟩
    ·refine Tri.f 2 [.g false] [.keep [0,1,5] []] rfl ⟨hd5,trivial⟩ ?_
     cases h
     exact Tri.nil ⟨rfl,rfl⟩
   ·refine Tri.f 1 [.g false] [.keep [] []] rfl ⟨hd2,trivial⟩ ?_
    cases h
    exact Tri.out 0 rfl ⟨nofun,rfl,rfl⟩
  ·intro e σ' hne hq
   rcases x1 with _ | r
   ·obtain ⟨rfl,rfl⟩ := hq
    refine TriX.exit (K' := [.code [] 3]) rfl ?_
    refine Tri.f 1 [] [.keep [4] []] rfl trivial ?_
    cases h
    exact Tri.ret rfl ⟨.inl rfl,rfl,rfl⟩
   ·obtain ⟨rfl,hq⟩ := hq
    cases h
    exact TriX.ret ⟨.inl rfl,hq⟩
noncomputable def E460 : Env := ⟨Tryz.prog,tys,(Tryz.f33.body).getD .skip,24,tysOk,mixedOk⟩
abbrev K306 (r : Bool) (σ' : ASt) : Prop := isRes E460.T Tryz.f33 (.bool r) [] σ'
noncomputable def m_laws_sameLP (a0 : List (List Int)) (a1 : List Int) (a2 : List Q) (a3 : List (List Int)) (a4 : List Int) (a5 : List Q) : Option Bool :=
(m_laws_sameLists a0 a3).bind fun v1 =>
bif v1 then
((m_laws_sameInts a1 a4).bind fun v2 =>
bif v2 then
((m_spec_EqualVector a2 a5).bind fun v3 =>
some v3)
else
(some false))
else
(some false)
theorem W146 (a0 : List (List Int)) (a1 : List Int) (a2 : List Q) (a3 : List (List Int)) (a4 : List Int) (a5 : List Q) (r : Bool) (h : m_laws_sameLP a0 a1 a2 a3 a4 a5 = some r) : AM.Spec Tryz.prog 33 [.agg [.list (.intss a0),.list (.ints a1),.list (.rats a2)],.agg [.list (.intss a3),.list (.ints a4),.list (.rats a5)]] [] (.bool r) [] := by
 refine spec_of (E := E460) Tryz.func33 rfl rfl rfl rfl ?_
 refine Tri.f 1 [] [.keep [2,3] [2,3]] rfl trivial ?_
 obtain ⟨v1,hk1,h⟩ := bind_some h
 rcases bif_some h with ⟨hd2,h⟩ | ⟨hd2,h⟩
 ·obtain ⟨v2,hk3,h⟩ := bind_some h
  rcases bif_some h with ⟨hd4,h⟩ | ⟨hd4,h⟩
  ·obtain ⟨v3,hk5,h⟩ := bind_some h
   refine Tri.f 1 [.v (.bool v1),.g true,.v (.bool v2),.g true,.v (.bool v3)] [.keep [4] []] rfl ⟨fun _ => W145 a2 a5 v3 hk5,hd4,fun _ => W143 a1 a4 v2 hk3,hd2,fun _ => W144 a0 a3 v1 hk1,trivial⟩ ?_
   cases h
   exact Tri.ret rfl ⟨.inl rfl,rfl,rfl⟩
  ·refine Tri.f 1 [.v (.bool v1),.g true,.v (.bool v2),.g false] [.keep [4] []] rfl ⟨hd4,fun _ => W143 a1 a4 v2 hk3,hd2,fun _ => W144 a0 a3 v1 hk1,trivial⟩ ?_
   cases h
   exact Tri.ret rfl ⟨.inl rfl,rfl,rfl⟩
 ·refine Tri.f 1 [.v (.bool v1),.g false,.g false] [.keep [4] []] rfl ⟨rfl,hd2,fun _ => W144 a0 a3 v1 hk1,trivial⟩ ?_
  cases h
  exact Tri.ret rfl ⟨.inl rfl,rfl,rfl⟩
noncomputable def E461 : Env := ⟨Tryz.prog,tys,(Tryz.f207.body).getD .skip,5,tysOk,mixedOk⟩
abbrev K307 (r : Bool) (σ' : ASt) : Prop := isRes E461.T Tryz.f207 (.bool r) [] σ'
noncomputable def m_spec_l2Good (a0 : Int) : Option Bool :=
(m_spec_l1In a0 (0 : Int) (31 : Int)).bind fun v1 =>
some v1
theorem W147 (a0 : Int) (r : Bool) (h : m_spec_l2Good a0 = some r) : AM.Spec Tryz.prog 207 [.i a0] [] (.bool r) [] := by
 refine spec_of (E := E461) Tryz.func207 rfl rfl rfl rfl ?_
 refine Tri.f 1 [] [.keep [0] []] rfl trivial ?_
 obtain ⟨v1,hk1,h⟩ := bind_some h
 refine Tri.f 1 [.v (.bool v1)] [.keep [2] []] rfl ⟨fun _ => W4 a0 (0 : Int) (31 : Int) v1 hk1,trivial⟩ ?_
 cases h
 exact Tri.ret rfl ⟨.inl rfl,rfl,rfl⟩
noncomputable def E462 : Env := ⟨Tryz.prog,tys,(Tryz.f204.body).getD .skip,22,tysOk,mixedOk⟩
abbrev K308 (r : List Int) (σ' : ASt) : Prop := isRes E462.T Tryz.f204 (.sl 1000 0) [(1000,.arr 3 0 0 (.ints r))] σ'
noncomputable def l_spec_MembersOf_0 (a0 : Int) : (Int × (List Int)) → Option ((Int × (List Int)) ⊕ ((List Int)))
 | (v1,v2) => (
bif decide (v1 < 5) then
((m_spec_l2Good a0).bind fun v3 =>
bif v3 then
((m_spec_HasPlayer a0 v1).bind fun v4 =>
bif v4 then
(grd (v2.length + ([v1] : List Int).length ≤ room) <|
some (.inl (IntKind.i64.wrap (v1 + 1),v2 ++ [v1])))
else
(some (.inl (IntKind.i64.wrap (v1 + 1),v2))))
else
(some (.inr v2)))
else
(some (.inr v2)))
noncomputable def m_spec_MembersOf (a0 : Int) : Option (List Int) :=
(iter (l_spec_MembersOf_0 a0) ((0 : Int),[])).bind fun
| v5 => (
some v5)
theorem W148 (a0 : Int) (r : List Int) (h : m_spec_MembersOf a0 = some r) : AM.Spec Tryz.prog 204 [.i a0] [] (.sl 1000 0) [(1000,.arr 3 0 0 (.ints r))] := by
 refine spec_of (E := E462) Tryz.func204 rfl rfl rfl rfl ?_
 refine Tri.f 3 [] [.keep [0,3,4] [5]] rfl trivial ?_
 obtain ⟨v5,hk7,h⟩ := bind_some h
 refine Tri.loop (K1 := [.code [(2,0),(1,0),(0,0)] 0]) (K2 := [.blk 0,.code [] 3]) (fun (v1,v2) => ⟨[(0,.i a0),(3,.sl 5 0),(4,.i v1)],[(5,.arr 3 0 0 (.ints v2))]⟩) (fun x e σ' => match x with | v5 => e = .exit 0 ∧ σ' = ⟨[(3,.sl 5 0)],[(5,.arr 3 0 0 (.ints v5))]⟩) hk7 rfl rfl ?_ ?_
 ·intro s x hs
  clear h
  have h := hs
  clear hs
  obtain ⟨v1,v2⟩ := s
  rcases bif_some h with ⟨hd1,h⟩ | ⟨hd1,h⟩
  ·obtain ⟨v3,hk2,h⟩ := bind_some h
   refine Tri.f 1 [.g true,.v (.bool v3)] [.keep [0,3,4,11] [5]] rfl ⟨fun _ => W147 a0 v3 hk2,hd1,trivial⟩ ?_
   rcases bif_some h with ⟨hd3,h⟩ | ⟨hd3,h⟩
   ·obtain ⟨v4,hk4,h⟩ := bind_some h
    refine Tri.f 2 [.g true,.v (.bool v4)] [.keep [0,3,4,16] [5]] rfl ⟨fun _ => W7 a0 v1 v4 hk4,hd3,trivial⟩ ?_
    rcases bif_some h with ⟨hd5,h⟩ | ⟨hd5,h⟩
    ·obtain ⟨hg6,h⟩ := grd_some h
     refine Tri.f 3 [.g true] [.rever 5,.keep [0,3,4] [5]] rfl ⟨hg6,hd5,trivial⟩ ?_
     cases h
     exact Tri.nil ⟨rfl,rfl⟩
    ·refine Tri.f 2 [.g false] [.keep [0,3,4] [5]] rfl ⟨hd5,trivial⟩ ?_
     cases h
     exact Tri.nil ⟨rfl,rfl⟩
   ·refine Tri.f 1 [.g false] [.keep [3] [5]] rfl ⟨hd3,trivial⟩ ?_
    cases h
    exact Tri.out 0 rfl ⟨nofun,rfl,rfl⟩
  ·refine Tri.f 1 [.g false] [.keep [0,3,4,11] [5]] rfl ⟨hd1,trivial⟩ ?_
   refine Tri.f 1 [.g false] [.keep [3] [5]] rfl ⟨rfl,trivial⟩ ?_
   cases h
   exact Tri.out 0 rfl ⟨nofun,rfl,rfl⟩
 ·intro e σ' hne hq
  obtain ⟨rfl,rfl⟩ := hq
  refine TriX.exit (K' := [.code [] 3]) rfl ?_
  refine Tri.f 1 [] [.swap 5 1000,.keep [2] [1000]] rfl trivial ?_
  cases h
  exact Tri.ret rfl ⟨.inl rfl,rfl,rfl⟩
noncomputable def E463 : Env := ⟨Tryz.prog,tys,(Tryz.f199.body).getD .skip,52,tysOk,mixedOk⟩
abbrev K309 (r : Int × Int × Bool) (σ' : ASt) : Prop := isRes E463.T Tryz.f199 (.tuple [.agg [.i r.1,.i r.2.1],.bool r.2.2]) [] σ'
noncomputable def l_spec_ShareOf_0 (a0 : List Q) (v3 : List Int) : (Int × Int × Int) → Option ((Int × Int × Int) ⊕ ((Int × Int) ⊕ ((Int × Int × Bool))))
 | (v4,v5,v6) => (
bif decide (v4 < (v3.length : Int)) then
(grd (0 ≤ v4 ∧ v4 < (v3.length : Int)) <|
bif decide ((v3.getD v4.toNat 0) ≥ (a0.length : Int)) then
(some (.inr (.inr (0,0,false))))
else
(grd (0 ≤ v4 ∧ v4 < (v3.length : Int)) <|
grd (0 ≤ v3.getD v4.toNat 0 ∧ v3.getD v4.toNat 0 < (a0.length : Int)) <|
(m_spec_AddRat v5 v6 ((a0.getD ((v3.getD v4.toNat 0).toNat) ⟨0,0⟩).num) ((a0.getD ((v3.getD v4.toNat 0).toNat) ⟨0,0⟩).den)).bind fun (v7,v8,v9) =>
bif !v9 then
(some (.inr (.inr (0,0,false))))
else
(some (.inl (IntKind.i64.wrap (v4 + 1),v7,v8)))))
else
(some (.inr (.inl (v5,v6)))))
noncomputable def m_spec_ShareOf (a0 : List Q) (a1 : Int) : Option (Int × Int × Bool) :=
(m_spec_l3Int (0 : Int)).bind fun (v1,v2) =>
bif decide (a1 < 0) then
(some (0,0,false))
else
(bif decide (a1 > 31) then
(some (0,0,false))
else
((m_spec_MembersOf a1).bind fun v3 =>
(iter (l_spec_ShareOf_0 a0 v3) ((0 : Int),v1,v2)).bind fun
| (.inl (v10,v11)) => (
some (v10,v11,true))
| (.inr r) => some r))
theorem W149 (a0 : List Q) (a1 : Int) (r : Int × Int × Bool) (h : m_spec_ShareOf a0 a1 = some r) : AM.Spec Tryz.prog 199 [.list (.rats a0),.i a1] [] (.tuple [.agg [.i r.1,.i r.2.1],.bool r.2.2]) [] := by
 refine spec_of (E := E463) Tryz.func199 rfl rfl rfl rfl ?_
 refine Tri.f 1 [] [.keep [0,1,4] [4]] rfl trivial ?_
 obtain ⟨⟨v1,v2⟩,hk1,h⟩ := bind_some h
 rcases bif_some h with ⟨hd2,h⟩ | ⟨hd2,h⟩
 ·refine Tri.f 2 [.v (.agg [.i v1,.i v2]),.g true] [.keep [0,1,4,6,17] [4,6]] rfl ⟨hd2,fun _ => W82 (0 : Int) (v1,v2) hk1,trivial⟩ ?_
  refine Tri.f 2 [.g true] [.keep [4,5] [4]] rfl ⟨rfl,trivial⟩ ?_
  cases h
  exact Tri.ret rfl ⟨.inl rfl,rfl,rfl⟩
 ·refine Tri.f 2 [.v (.agg [.i v1,.i v2]),.g false] [.keep [0,1,4,6,17] [4,6]] rfl ⟨hd2,fun _ => W82 (0 : Int) (v1,v2) hk1,trivial⟩ ?_
  rcases bif_some h with ⟨hd3,h⟩ | ⟨hd3,h⟩
  ·refine Tri.f 2 [.g true] [.keep [4,5] [4]] rfl ⟨hd3,trivial⟩ ?_
   cases h
   exact Tri.ret rfl ⟨.inl rfl,rfl,rfl⟩
  ·obtain ⟨v3,hk4,h⟩ := bind_some h
   refine Tri.f 3 [.g false,.r ⟨[],.sl 1100 0,[(1100,.arr 3 0 0 (.ints v3))]⟩] [.keep [0,4,6,7,8] [4,6,1100]] rfl ⟨fun _ => (W148 a1 v3 hk4).swap 1000 1100,hd3,trivial⟩ ?_
   obtain ⟨x1,hk12,h⟩ := bind_some h
   refine Tri.loop (K1 := [.code [(4,0),(1,0),(0,0)] 0]) (K2 := [.blk 0,.code [] 5]) (fun (v4,v5,v6) => ⟨[(0,.list (.rats a0)),(4,.ptr 4 0),(6,.ptr 6 0),(7,.sl 1100 0),(8,.i v4)],[(4,.box [.i 0,.i 0]),(6,.box [.i v5,.i v6]),(1100,.arr 3 0 0 (.ints v3))]⟩) (fun x e σ' => match x with | (.inl (v10,v11)) => e = .exit 0 ∧ σ' = ⟨[(4,.ptr 4 0),(6,.ptr 6 0)],[(4,.box [.i 0,.i 0]),(6,.box [.i v10,.i v11])]⟩ | (.inr r) => e = .ret ∧ K309 r σ') hk12 rfl rfl ?_ ?_
   ·intro s x hs
    clear h
    have h := hs
    clear hs
    obtain ⟨v4,v5,v6⟩ := s
    refine Tri.f 1 [] [.keep [0,4,6,7,8,24] [4,6,1100]] rfl trivial ?_
    rcases bif_some h with ⟨hd5,h⟩ | ⟨hd5,h⟩
    ·obtain ⟨hg6,h⟩ := grd_some h
     refine Tri.f 2 [.g true] [.keep [0,4,6,7,8,33] [4,6,1100]] rfl ⟨hg6,hd5,trivial⟩ ?_
     rcases bif_some h with ⟨hd7,h⟩ | ⟨hd7,h⟩
     ·refine Tri.f 2 [.g true] [.keep [4,5] [4]] rfl ⟨hd7,trivial⟩ ?_
      cases h
      exact Tri.ret rfl ⟨nofun,rfl,rfl,rfl⟩
     ·obtain ⟨hg8,h⟩ := grd_some h
      obtain ⟨hg9,h⟩ := grd_some h
      obtain ⟨⟨v7,v8,v9⟩,hk10,h⟩ := bind_some h
      refine Tri.f 3 [.g false,.v (.tuple [.agg [.i v7,.i v8],.bool v9])] [.keep [0,4,6,7,8,9,48] [4,6,9,1100]] rfl ⟨fun _ => W96 v5 v6 ((a0.getD ((v3.getD v4.toNat 0).toNat) ⟨0,0⟩).num) ((a0.getD ((v3.getD v4.toNat 0).toNat) ⟨0,0⟩).den) (v7,v8,v9) hk10,hg9,hg8,hd7,trivial⟩ ?_
      rcases bif_some h with ⟨hd11,h⟩ | ⟨hd11,h⟩
      ·refine Tri.f 2 [.g true] [.keep [4,5] [4]] rfl ⟨hd11,trivial⟩ ?_
       cases h
       exact Tri.ret rfl ⟨nofun,rfl,rfl,rfl⟩
      ·refine Tri.f 3 [.g false] [.keep [0,4,6,7,8] [4,6,1100]] rfl ⟨hd11,trivial⟩ ?_
       cases h
       exact Tri.nil ⟨rfl,rfl⟩
    ·refine Tri.f 1 [.g false] [.keep [4,6] [4,6]] rfl ⟨hd5,trivial⟩ ?_
     cases h
     exact Tri.out 0 rfl ⟨nofun,rfl,rfl⟩
   ·intro e σ' hne hq
    rcases x1 with ⟨v10,v11⟩ | r
    ·obtain ⟨rfl,rfl⟩ := hq
     refine TriX.exit (K' := [.code [] 5]) rfl ?_
     refine Tri.f 1 [] [.keep [4,5] [4]] rfl trivial ?_
     cases h
     exact Tri.ret rfl ⟨.inl rfl,rfl,rfl⟩
    ·obtain ⟨rfl,hq⟩ := hq
     cases h
     exact TriX.ret ⟨.inl rfl,hq⟩
noncomputable def E464 : Env := ⟨Tryz.prog,tys,(Tryz.f184.body).getD .skip,39,tysOk,mixedOk⟩
abbrev K310 (r : Bool) (σ' : ASt) : Prop := isRes E464.T Tryz.f184 (.bool r) [] σ'
noncomputable def m_spec_IsPayoff (a0 : Int) (a1 : List Int) (a2 : List Q) : Option Bool :=
(m_spec_IsValidGame a0 a1).bind fun v1 =>
bif !v1 then
(some false)
else
(bif (a2.length : Int) != a0 then
(some false)
else
((m_spec_AllValid a2).bind fun v2 =>
bif !v2 then
(some false)
else
((m_spec_ShareOf a2 (IntKind.i64.wrap ((a1.length : Int) - 1))).bind fun (v3,v4,v5) =>
bif v5 then
((m_spec_GrandValue a0 a1).bind fun v6 =>
(m_spec_l3Int v6).bind fun (v7,v8) =>
some (v3 == v7 && v4 == v8))
else
(some false))))
theorem W150 (a0 : Int) (a1 : List Int) (a2 : List Q) (r : Bool) (h : m_spec_IsPayoff a0 a1 a2 = some r) : AM.Spec Tryz.prog 184 [.agg [.i a0,.list (.ints a1)],.list (.rats a2)] [] (.bool r) [] := by
 refine spec_of (E := E464) Tryz.func184 rfl rfl rfl rfl ?_
 refine Tri.f 1 [] [.keep [1,2] [2]] rfl trivial ?_
 obtain ⟨v1,hk1,h⟩ := bind_some h
 rcases bif_some h with ⟨hd2,h⟩ | ⟨hd2,h⟩
 ·refine Tri.f 1 [.v (.bool v1),.g true,.g true] [.keep [1,2,21] [2]] rfl ⟨rfl,hd2,fun _ => W81 a0 a1 v1 hk1,trivial⟩ ?_
  refine Tri.f 2 [.g true] [.keep [4] []] rfl ⟨rfl,trivial⟩ ?_
  cases h
  exact Tri.ret rfl ⟨.inl rfl,rfl,rfl⟩
 ·rcases bif_some h with ⟨hd3,h⟩ | ⟨hd3,h⟩
  ·refine Tri.f 1 [.v (.bool v1),.g false,.g true] [.keep [1,2,21] [2]] rfl ⟨hd3,hd2,fun _ => W81 a0 a1 v1 hk1,trivial⟩ ?_
   refine Tri.f 2 [.g true] [.keep [4] []] rfl ⟨rfl,trivial⟩ ?_
   cases h
   exact Tri.ret rfl ⟨.inl rfl,rfl,rfl⟩
  ·obtain ⟨v2,hk4,h⟩ := bind_some h
   refine Tri.f 1 [.v (.bool v1),.g false,.g false,.v (.bool v2)] [.keep [1,2,21] [2]] rfl ⟨fun _ => W88 a2 v2 hk4,hd3,hd2,fun _ => W81 a0 a1 v1 hk1,trivial⟩ ?_
   rcases bif_some h with ⟨hd5,h⟩ | ⟨hd5,h⟩
   ·refine Tri.f 2 [.g true] [.keep [4] []] rfl ⟨hd5,trivial⟩ ?_
    cases h
    exact Tri.ret rfl ⟨.inl rfl,rfl,rfl⟩
   ·obtain ⟨⟨v3,v4,v5⟩,hk6,h⟩ := bind_some h
    refine Tri.f 2 [.g false,.v (.tuple [.agg [.i v3,.i v4],.bool v5])] [.keep [2,5,6] [2,5]] rfl ⟨fun _ => W149 a2 (IntKind.i64.wrap ((a1.length : Int) - 1)) (v3,v4,v5) hk6,hd5,trivial⟩ ?_
    rcases bif_some h with ⟨hd7,h⟩ | ⟨hd7,h⟩
    ·obtain ⟨v6,hk8,h⟩ := bind_some h
     obtain ⟨⟨v7,v8⟩,hk9,h⟩ := bind_some h
     refine Tri.f 1 [.g true,.v (.i v6),.v (.agg [.i v7,.i v8])] [.keep [4] []] rfl ⟨fun _ => W82 v6 (v7,v8) hk9,fun _ => W83 a0 a1 v6 hk8,hd7,trivial⟩ ?_
     cases h
     exact Tri.ret rfl ⟨.inl rfl,rfl,rfl⟩
    ·refine Tri.f 1 [.g false] [.keep [4] []] rfl ⟨hd7,trivial⟩ ?_
     cases h
     exact Tri.ret rfl ⟨.inl rfl,rfl,rfl⟩
noncomputable def E465 : Env := ⟨Tryz.prog,tys,(Tryz.f185.body).getD .skip,50,tysOk,mixedOk⟩
abbrev K311 (r : Int × Int × Bool) (σ' : ASt) : Prop := isRes E465.T Tryz.f185 (.tuple [.agg [.i r.1,.i r.2.1],.bool r.2.2]) [] σ'
noncomputable def m_spec_ExcessOf (a0 : Int) (a1 : List Int) (a2 : List Q) (a3 : Int) : Option (Int × Int × Bool) :=
(m_spec_IsValidGame a0 a1).bind fun v1 =>
bif !v1 then
(some (0,0,false))
else
((m_spec_l1In a3 (0 : Int) (IntKind.i64.wrap ((a1.length : Int) - 1))).bind fun v2 =>
bif !v2 then
(some (0,0,false))
else
((m_spec_ShareOf a2 a3).bind fun (v3,v4,v5) =>
grd (0 ≤ a3 ∧ a3 < (a1.length : Int)) <|
(m_spec_l3Int (a1.getD a3.toNat 0)).bind fun (v6,v7) =>
(m_spec_SubRat v6 v7 v3 v4).bind fun (v8,v9,v10) =>
bif !v5 then
(some (0,0,false))
else
(bif !v10 then
(some (0,0,false))
else
(some (v8,v9,true)))))
theorem W151 (a0 : Int) (a1 : List Int) (a2 : List Q) (a3 : Int) (r : Int × Int × Bool) (h : m_spec_ExcessOf a0 a1 a2 a3 = some r) : AM.Spec Tryz.prog 185 [.agg [.i a0,.list (.ints a1)],.list (.rats a2),.i a3] [] (.tuple [.agg [.i r.1,.i r.2.1],.bool r.2.2]) [] := by
 refine spec_of (E := E465) Tryz.func185 rfl rfl rfl rfl ?_
 refine Tri.f 1 [] [.keep [1,2,3,6] [3,6]] rfl trivial ?_
 obtain ⟨v1,hk1,h⟩ := bind_some h
 rcases bif_some h with ⟨hd2,h⟩ | ⟨hd2,h⟩
 ·refine Tri.f 1 [.v (.bool v1),.g true] [.keep [1,2,3,6,23] [3,6]] rfl ⟨hd2,fun _ => W81 a0 a1 v1 hk1,trivial⟩ ?_
  refine Tri.f 2 [.g true] [.keep [6,7] [6]] rfl ⟨rfl,trivial⟩ ?_
  cases h
  exact Tri.ret rfl ⟨.inl rfl,rfl,rfl⟩
 ·obtain ⟨v2,hk3,h⟩ := bind_some h
  refine Tri.f 1 [.v (.bool v1),.g false,.v (.bool v2)] [.keep [1,2,3,6,23] [3,6]] rfl ⟨fun _ => W4 a3 (0 : Int) (IntKind.i64.wrap ((a1.length : Int) - 1)) v2 hk3,hd2,fun _ => W81 a0 a1 v1 hk1,trivial⟩ ?_
  rcases bif_some h with ⟨hd4,h⟩ | ⟨hd4,h⟩
  ·refine Tri.f 2 [.g true] [.keep [6,7] [6]] rfl ⟨hd4,trivial⟩ ?_
   cases h
   exact Tri.ret rfl ⟨.inl rfl,rfl,rfl⟩
  ·obtain ⟨⟨v3,v4,v5⟩,hk5,h⟩ := bind_some h
   refine Tri.f 2 [.g false,.v (.tuple [.agg [.i v3,.i v4],.bool v5])] [.keep [2,3,6,8,9] [3,6,8]] rfl ⟨fun _ => W149 a2 a3 (v3,v4,v5) hk5,hd4,trivial⟩ ?_
   obtain ⟨hg6,h⟩ := grd_some h
   obtain ⟨⟨v6,v7⟩,hk7,h⟩ := bind_some h
   obtain ⟨⟨v8,v9,v10⟩,hk8,h⟩ := bind_some h
   rcases bif_some h with ⟨hd9,h⟩ | ⟨hd9,h⟩
   ·refine Tri.f 2 [.v (.agg [.i v6,.i v7]),.v (.tuple [.agg [.i v8,.i v9],.bool v10]),.g true] [.keep [6,10,47] [6,10]] rfl ⟨hd9,fun _ => W109 v6 v7 v3 v4 (v8,v9,v10) hk8,fun _ => W82 (a1.getD a3.toNat 0) (v6,v7) hk7,hg6,trivial⟩ ?_
    refine Tri.f 2 [.g true] [.keep [6,7] [6]] rfl ⟨rfl,trivial⟩ ?_
    cases h
    exact Tri.ret rfl ⟨.inl rfl,rfl,rfl⟩
   ·refine Tri.f 2 [.v (.agg [.i v6,.i v7]),.v (.tuple [.agg [.i v8,.i v9],.bool v10]),.g false] [.keep [6,10,47] [6,10]] rfl ⟨hd9,fun _ => W109 v6 v7 v3 v4 (v8,v9,v10) hk8,fun _ => W82 (a1.getD a3.toNat 0) (v6,v7) hk7,hg6,trivial⟩ ?_
    rcases bif_some h with ⟨hd10,h⟩ | ⟨hd10,h⟩
    ·refine Tri.f 2 [.g true] [.keep [6,7] [6]] rfl ⟨hd10,trivial⟩ ?_
     cases h
     exact Tri.ret rfl ⟨.inl rfl,rfl,rfl⟩
    ·refine Tri.f 2 [.g false] [.keep [6,7] [6]] rfl ⟨hd10,trivial⟩ ?_
     cases h
     exact Tri.ret rfl ⟨.inl rfl,rfl,rfl⟩
noncomputable def E466 : Env := ⟨Tryz.prog,tys,(Tryz.f131.body).getD .skip,39,tysOk,mixedOk⟩
abbrev K312 (r : Bool × (List Q)) (σ' : ASt) : Prop := isRes E466.T Tryz.f131 (.tuple [.sl 1000 0,.bool r.1]) [(1000,.arr 31 0 0 (.rats r.2))] σ'
noncomputable def l_spec_l11All_0 (a0 : Int) (a1 : List Int) (a2 : List Q) : (Int × (List Q)) → Option ((Int × (List Q)) ⊕ ((List Q) ⊕ ((Bool × (List Q)))))
 | (v2,v3) => (
bif decide (v2 < (IntKind.i64.wrap ((a1.length : Int) - 1))) then
((m_spec_ExcessOf a0 a1 a2 v2).bind fun (v4,v5,v6) =>
bif !v6 then
(some (.inr (.inr (false,[]))))
else
(grd (v3.length + ([⟨v4,v5⟩] : List Q).length ≤ room) <|
some (.inl (IntKind.i64.wrap (v2 + 1),v3 ++ [⟨v4,v5⟩]))))
else
(some (.inr (.inl v3))))
noncomputable def m_spec_l11All (a0 : Int) (a1 : List Int) (a2 : List Q) : Option (Bool × (List Q)) :=
(m_spec_IsPayoff a0 a1 a2).bind fun v1 =>
bif !v1 then
(some (false,[]))
else
((iter (l_spec_l11All_0 a0 a1 a2) ((1 : Int),[])).bind fun
| (.inl v7) => (
some (true,v7))
| (.inr r) => some r)
theorem W152 (a0 : Int) (a1 : List Int) (a2 : List Q) (r : Bool × (List Q)) (h : m_spec_l11All a0 a1 a2 = some r) : AM.Spec Tryz.prog 131 [.agg [.i a0,.list (.ints a1)],.list (.rats a2)] [] (.tuple [.sl 1000 0,.bool r.1]) [(1000,.arr 31 0 0 (.rats r.2))] := by
 refine spec_of (E := E466) Tryz.func131 rfl rfl rfl rfl ?_
 refine Tri.f 2 [] [.keep [1,2,6] [2,10]] rfl trivial ?_
 obtain ⟨v1,hk1,h⟩ := bind_some h
 refine Tri.f 1 [.v (.bool v1)] [.keep [1,2,6,14] [2,10]] rfl ⟨fun _ => W150 a0 a1 a2 v1 hk1,trivial⟩ ?_
 rcases bif_some h with ⟨hd2,h⟩ | ⟨hd2,h⟩
 ·refine Tri.f 2 [.g true] [.swap 10 1000,.keep [4,5] [1000]] rfl ⟨hd2,trivial⟩ ?_
  cases h
  exact Tri.ret rfl ⟨.inl rfl,rfl,rfl⟩
 ·refine Tri.f 2 [.g false] [.keep [1,2,6,7] [2,10]] rfl ⟨hd2,trivial⟩ ?_
  obtain ⟨x1,hk7,h⟩ := bind_some h
  refine Tri.loop (K1 := [.code [(3,0),(1,0),(0,0)] 0]) (K2 := [.blk 0,.code [] 4]) (fun (v2,v3) => ⟨[(1,.list (.rats a2)),(2,.ptr 2 0),(6,.sl 10 0),(7,.i v2)],[(2,.box [.i a0,.list (.ints a1)]),(10,.arr 31 0 0 (.rats v3))]⟩) (fun x e σ' => match x with | (.inl v7) => e = .exit 0 ∧ σ' = ⟨[(6,.sl 10 0)],[(10,.arr 31 0 0 (.rats v7))]⟩ | (.inr r) => e = .ret ∧ K312 r σ') hk7 rfl rfl ?_ ?_
  ·intro s x hs
   clear h
   have h := hs
   clear hs
   obtain ⟨v2,v3⟩ := s
   refine Tri.f 1 [] [.keep [1,2,6,7,21] [2,10]] rfl trivial ?_
   rcases bif_some h with ⟨hd3,h⟩ | ⟨hd3,h⟩
   ·obtain ⟨⟨v4,v5,v6⟩,hk4,h⟩ := bind_some h
    refine Tri.f 3 [.g true,.v (.tuple [.agg [.i v4,.i v5],.bool v6])] [.keep [1,2,6,7,8,32] [2,8,10]] rfl ⟨fun _ => W151 a0 a1 a2 v2 (v4,v5,v6) hk4,hd3,trivial⟩ ?_
    rcases bif_some h with ⟨hd5,h⟩ | ⟨hd5,h⟩
    ·refine Tri.f 2 [.g true] [.swap 33 1000,.keep [4,5] [1000]] rfl ⟨hd5,trivial⟩ ?_
     cases h
     exact Tri.ret rfl ⟨nofun,rfl,rfl,rfl⟩
    ·obtain ⟨hg6,h⟩ := grd_some h
     refine Tri.f 3 [.g false] [.rever 10,.keep [1,2,6,7] [2,10]] rfl ⟨hg6,hd5,trivial⟩ ?_
     cases h
     exact Tri.nil ⟨rfl,rfl⟩
   ·refine Tri.f 1 [.g false] [.keep [6] [10]] rfl ⟨hd3,trivial⟩ ?_
    cases h
    exact Tri.out 0 rfl ⟨nofun,rfl,rfl⟩
  ·intro e σ' hne hq
   rcases x1 with v7 | r
   ·obtain ⟨rfl,rfl⟩ := hq
    refine TriX.exit (K' := [.code [] 4]) rfl ?_
    refine Tri.f 1 [] [.swap 10 1000,.keep [4,5] [1000]] rfl trivial ?_
    cases h
    exact Tri.ret rfl ⟨.inl rfl,rfl,rfl⟩
   ·obtain ⟨rfl,hq⟩ := hq
    cases h
    exact TriX.ret ⟨.inl rfl,hq⟩
noncomputable def E467 : Env := ⟨Tryz.prog,tys,(Tryz.f48.body).getD .skip,68,tysOk,mixedOk⟩
abbrev K313 (r : Int × Int × Bool × (List Int)) (σ' : ASt) : Prop := isRes E467.T Tryz.f48 (.tuple [.agg [.i r.1,.i r.2.1],.sl 1000 0,.bool r.2.2.1]) [(1000,.arr 3 0 0 (.ints r.2.2.2))] σ'
noncomputable def l_spec_WorstExcess_0 (v2 : List Q) : (Int × Int × Int) → Option ((Int × Int × Int) ⊕ ((Int × Int)))
 | (v3,v4,v5) => (
bif decide (v3 < (v2.length : Int)) then
(grd (0 ≤ v3 ∧ v3 < (v2.length : Int)) <|
(m_spec_CompareRat ((v2.getD v3.toNat ⟨0,0⟩).num) ((v2.getD v3.toNat ⟨0,0⟩).den) v4 v5).bind fun v6 =>
bif decide (v6 > 0) then
(grd (0 ≤ v3 ∧ v3 < (v2.length : Int)) <|
some (.inl (IntKind.i64.wrap (v3 + 1),(v2.getD v3.toNat ⟨0,0⟩).num,(v2.getD v3.toNat ⟨0,0⟩).den)))
else
(some (.inl (IntKind.i64.wrap (v3 + 1),v4,v5))))
else
(some (.inr (v4,v5))))
noncomputable def l_spec_WorstExcess_1 (v2 : List Q) (v7 v8 : Int) : (Int × (List Int)) → Option ((Int × (List Int)) ⊕ ((List Int)))
 | (v9,v10) => (
bif decide (v9 < (v2.length : Int)) then
(grd (0 ≤ v9 ∧ v9 < (v2.length : Int)) <|
bif ((v2.getD v9.toNat ⟨0,0⟩).num) == v7 && ((v2.getD v9.toNat ⟨0,0⟩).den) == v8 then
(grd (v10.length + ([IntKind.i64.wrap (v9 + 1)] : List Int).length ≤ room) <|
some (.inl (IntKind.i64.wrap (v9 + 1),v10 ++ [IntKind.i64.wrap (v9 + 1)])))
else
(some (.inl (IntKind.i64.wrap (v9 + 1),v10))))
else
(some (.inr v10)))
noncomputable def m_spec_WorstExcess (a0 : Int) (a1 : List Int) (a2 : List Q) : Option (Int × Int × Bool × (List Int)) :=
(m_spec_l11All a0 a1 a2).bind fun (v1,v2) =>
bif !v1 then
(some (0,0,false,[]))
else
(bif (v2.length : Int) == 0 then
(some (0,0,false,[]))
else
(grd ((0 : Int) ≤ (0 : Int) ∧ (0 : Int) < (v2.length : Int)) <|
(iter (l_spec_WorstExcess_0 v2) ((0 : Int),(v2.getD ((0 : Int).toNat) ⟨0,0⟩).num,(v2.getD ((0 : Int).toNat) ⟨0,0⟩).den)).bind fun
| (v7,v8) => (
(iter (l_spec_WorstExcess_1 v2 v7 v8) ((0 : Int),[])).bind fun
| v11 => (
some (v7,v8,true,v11)))))
theorem W153 (a0 : Int) (a1 : List Int) (a2 : List Q) (r : Int × Int × Bool × (List Int)) (h : m_spec_WorstExcess a0 a1 a2 = some r) : AM.Spec Tryz.prog 48 [.agg [.i a0,.list (.ints a1)],.list (.rats a2)] [] (.tuple [.agg [.i r.1,.i r.2.1],.sl 1000 0,.bool r.2.2.1]) [(1000,.arr 3 0 0 (.ints r.2.2.2))] := by
 refine spec_of (E := E467) Tryz.func48 rfl rfl rfl rfl ?_
 refine Tri.f 1 [] [.keep [1,2,4] [2,4]] rfl trivial ?_
 obtain ⟨⟨v1,v2⟩,hk1,h⟩ := bind_some h
 rcases bif_some h with ⟨hd2,h⟩ | ⟨hd2,h⟩
 ·refine Tri.f 2 [.r ⟨[],.tuple [.sl 1100 0,.bool v1],[(1100,.arr 31 0 0 (.rats v2))]⟩,.g true] [.keep [4,7,25] [4,1100]] rfl ⟨hd2,fun _ => (W152 a0 a1 a2 (v1,v2) hk1).swap 1000 1100,trivial⟩ ?_
  refine Tri.f 2 [.g true] [.swap 27 1000,.keep [4,5,6] [4,1000]] rfl ⟨rfl,trivial⟩ ?_
  cases h
  exact Tri.ret rfl ⟨.inl rfl,rfl,rfl⟩
 ·refine Tri.f 2 [.r ⟨[],.tuple [.sl 1100 0,.bool v1],[(1100,.arr 31 0 0 (.rats v2))]⟩,.g false] [.keep [4,7,25] [4,1100]] rfl ⟨hd2,fun _ => (W152 a0 a1 a2 (v1,v2) hk1).swap 1000 1100,trivial⟩ ?_
  rcases bif_some h with ⟨hd3,h⟩ | ⟨hd3,h⟩
  ·refine Tri.f 2 [.g true] [.swap 27 1000,.keep [4,5,6] [4,1000]] rfl ⟨hd3,trivial⟩ ?_
   cases h
   exact Tri.ret rfl ⟨.inl rfl,rfl,rfl⟩
  ·obtain ⟨hg4,h⟩ := grd_some h
   refine Tri.f 3 [.g false] [.keep [4,7,9,10] [4,9,1100]] rfl ⟨hg4,hd3,trivial⟩ ?_
   obtain ⟨x1,hk10,h⟩ := bind_some h
   refine Tri.loop (K1 := [.code [(4,0),(1,0),(0,0)] 0]) (K2 := [.blk 0,.code [] 5]) (fun (v3,v4,v5) => ⟨[(4,.ptr 4 0),(7,.sl 1100 0),(9,.ptr 9 0),(10,.i v3)],[(4,.box [.i 0,.i 0]),(9,.box [.i v4,.i v5]),(1100,.arr 31 0 0 (.rats v2))]⟩) (fun x e σ' => match x with | (v7,v8) => e = .exit 0 ∧ σ' = ⟨[(4,.ptr 4 0),(7,.sl 1100 0),(9,.ptr 9 0)],[(4,.box [.i 0,.i 0]),(9,.box [.i v7,.i v8]),(1100,.arr 31 0 0 (.rats v2))]⟩) hk10 rfl rfl ?_ ?_
   ·intro s x hs
    clear h
    have h := hs
    clear hs
    obtain ⟨v3,v4,v5⟩ := s
    refine Tri.f 1 [] [.keep [4,7,9,10,34] [4,9,1100]] rfl trivial ?_
    rcases bif_some h with ⟨hd5,h⟩ | ⟨hd5,h⟩
    ·obtain ⟨hg6,h⟩ := grd_some h
     obtain ⟨v6,hk7,h⟩ := bind_some h
     refine Tri.f 2 [.g true,.v (.i v6)] [.keep [4,7,9,10,43] [4,9,1100]] rfl ⟨fun _ => W99 ((v2.getD v3.toNat ⟨0,0⟩).num) ((v2.getD v3.toNat ⟨0,0⟩).den) v4 v5 v6 hk7,hg6,hd5,trivial⟩ ?_
     rcases bif_some h with ⟨hd8,h⟩ | ⟨hd8,h⟩
     ·obtain ⟨hg9,h⟩ := grd_some h
      refine Tri.f 3 [.g true] [.keep [4,7,9,10] [4,9,1100]] rfl ⟨hg9,hd8,trivial⟩ ?_
      cases h
      exact Tri.nil ⟨rfl,rfl⟩
     ·refine Tri.f 2 [.g false] [.keep [4,7,9,10] [4,9,1100]] rfl ⟨hd8,trivial⟩ ?_
      cases h
      exact Tri.nil ⟨rfl,rfl⟩
    ·refine Tri.f 1 [.g false] [.keep [4,7,9] [4,9,1100]] rfl ⟨hd5,trivial⟩ ?_
     cases h
     exact Tri.out 0 rfl ⟨nofun,rfl,rfl⟩
   ·intro e σ' hne hq
    obtain ⟨v7,v8⟩ := x1
    obtain ⟨rfl,rfl⟩ := hq
    refine TriX.exit (K' := [.code [] 5]) rfl ?_
    refine Tri.f 2 [] [.keep [4,7,9,11,12] [4,9,48,1100]] rfl trivial ?_
    obtain ⟨v11,hk15,h⟩ := bind_some h
    refine Tri.loop (K1 := [.code [(6,0),(1,0),(0,0)] 0]) (K2 := [.blk 2,.code [] 7]) (fun (v9,v10) => ⟨[(4,.ptr 4 0),(7,.sl 1100 0),(9,.ptr 9 0),(11,.sl 48 0),(12,.i v9)],[(4,.box [.i 0,.i 0]),(9,.box [.i v7,.i v8]),(48,.arr 3 0 0 (.ints v10)),(1100,.arr 31 0 0 (.rats v2))]⟩) (fun x e σ' => match x with | v11 => e = .exit 2 ∧ σ' = ⟨[(4,.ptr 4 0),(9,.ptr 9 0),(11,.sl 48 0)],[(4,.box [.i 0,.i 0]),(9,.box [.i v7,.i v8]),(48,.arr 3 0 0 (.ints v11))]⟩) hk15 rfl rfl ?_ ?_
    ·intro s x hs
     clear h
     have h := hs
     clear hs
     obtain ⟨v9,v10⟩ := s
     refine Tri.f 1 [] [.keep [4,7,9,11,12,52] [4,9,48,1100]] rfl trivial ?_
     rcases bif_some h with ⟨hd11,h⟩ | ⟨hd11,h⟩
     ·obtain ⟨hg12,h⟩ := grd_some h
      refine Tri.f 2 [.g true] [.keep [4,7,9,11,12,60] [4,9,48,1100]] rfl ⟨hg12,hd11,trivial⟩ ?_
      rcases bif_some h with ⟨hd13,h⟩ | ⟨hd13,h⟩
      ·obtain ⟨hg14,h⟩ := grd_some h
       refine Tri.f 3 [.g true] [.rever 48,.keep [4,7,9,11,12] [4,9,48,1100]] rfl ⟨hg14,hd13,trivial⟩ ?_
       cases h
       exact Tri.nil ⟨rfl,rfl⟩
      ·refine Tri.f 2 [.g false] [.keep [4,7,9,11,12] [4,9,48,1100]] rfl ⟨hd13,trivial⟩ ?_
       cases h
       exact Tri.nil ⟨rfl,rfl⟩
     ·refine Tri.f 1 [.g false] [.keep [4,9,11] [4,9,48]] rfl ⟨hd11,trivial⟩ ?_
      cases h
      exact Tri.out 2 rfl ⟨nofun,rfl,rfl⟩
    ·intro e σ' hne hq
     obtain ⟨rfl,rfl⟩ := hq
     refine TriX.exit (K' := [.code [] 7]) rfl ?_
     refine Tri.f 1 [] [.swap 48 1000,.keep [4,5,6] [4,1000]] rfl trivial ?_
     cases h
     exact Tri.ret rfl ⟨.inl rfl,rfl,rfl⟩
noncomputable def E468 : Env := ⟨Tryz.prog,tys,(Tryz.f46.body).getD .skip,63,tysOk,mixedOk⟩
abbrev K314 (r : Bool) (σ' : ASt) : Prop := isRes E468.T Tryz.f46 (.bool r) [] σ'
noncomputable def m_spec_CheckLeastCore (a0 : Int) (a1 : List Int) (a2 : Bool) (a3 a4 : Int) (a5 a6 : List Q) : Option Bool :=
(m_spec_LeastLP a0 a1).bind fun (v1,v2,v3,v4) =>
(m_spec_WorstExcess a0 a1 a5).bind fun (v5,v6,v7,_) =>
(m_spec_DotRat v4 a6).bind fun (v9,v10,v11) =>
bif v1 then
(bif a2 then
(bif v7 then
(bif v5 == a3 && v6 == a4 then
((m_spec_IsFeasible v2 v3 v4 a6).bind fun v12 =>
bif v12 then
(bif v11 then
((m_spec_l7Negated a3 a4).bind fun (v13,v14) =>
some (v9 == v13 && v10 == v14))
else
(some false))
else
(some false))
else
(some false))
else
(some false))
else
(some false))
else
(some false)
theorem W154 (a0 : Int) (a1 : List Int) (a2 : Bool) (a3 a4 : Int) (a5 a6 : List Q) (r : Bool) (h : m_spec_CheckLeastCore a0 a1 a2 a3 a4 a5 a6 = some r) : AM.Spec Tryz.prog 46 [.agg [.i a0,.list (.ints a1)],.agg [.bool a2,.i a3,.i a4,.list (.rats a5),.list (.rats a6)]] [] (.bool r) [] := by
 refine spec_of (E := E468) Tryz.func46 rfl rfl rfl rfl ?_
 refine Tri.f 1 [] [.keep [2,3] [2,3]] rfl trivial ?_
 obtain ⟨⟨v1,v2,v3,v4⟩,hk1,h⟩ := bind_some h
 obtain ⟨⟨v5,v6,v7,v8⟩,hk2,h⟩ := bind_some h
 refine Tri.f 2 [.r ⟨[],.tuple [.agg [.sl 1100 0,.sl 1101 0,.sl 1102 0],.bool v1],[(1100,.arr 25 0 0 (.intss v2)),(1101,.arr 3 0 0 (.ints v3)),(1102,.arr 31 0 0 (.rats v4))]⟩,.r ⟨[],.tuple [.agg [.i v5,.i v6],.sl 1103 0,.bool v7],[(1103,.arr 3 0 0 (.ints v8))]⟩] [.keep [3,5,6,7,9] [3,5,7,1100,1101,1102]] rfl ⟨fun _ => (W153 a0 a1 a5 (v5,v6,v7,v8) hk2).swap 1000 1103,fun _ => (((W84 a0 a1 (v1,v2,v3,v4) hk1).swap 1000 1100).swap 1001 1101).swap 1002 1102,trivial⟩ ?_
 obtain ⟨⟨v9,v10,v11⟩,hk3,h⟩ := bind_some h
 rcases bif_some h with ⟨hd4,h⟩ | ⟨hd4,h⟩
 ·rcases bif_some h with ⟨hd5,h⟩ | ⟨hd5,h⟩
  ·rcases bif_some h with ⟨hd6,h⟩ | ⟨hd6,h⟩
   ·rcases bif_some h with ⟨hd7,h⟩ | ⟨hd7,h⟩
    ·obtain ⟨v12,hk8,h⟩ := bind_some h
     rcases bif_some h with ⟨hd9,h⟩ | ⟨hd9,h⟩
     ·rcases bif_some h with ⟨hd10,h⟩ | ⟨hd10,h⟩
      ·obtain ⟨⟨v13,v14⟩,hk11,h⟩ := bind_some h
       refine Tri.f 2 [.v (.tuple [.agg [.i v9,.i v10],.bool v11]),.g true,.g true,.g true,.g true,.v (.bool v12),.g true,.g true,.v (.agg [.i v13,.i v14])] [.keep [4] []] rfl ⟨fun _ => W113 a3 a4 (v13,v14) hk11,hd10,hd9,fun _ => W121 v2 v3 v4 a6 v12 hk8,hd7,hd6,hd5,hd4,fun _ => W118 v4 a6 (v9,v10,v11) hk3,trivial⟩ ?_
       cases h
       exact Tri.ret rfl ⟨.inl rfl,rfl,rfl⟩
      ·refine Tri.f 2 [.v (.tuple [.agg [.i v9,.i v10],.bool v11]),.g true,.g true,.g true,.g true,.v (.bool v12),.g true,.g false] [.keep [4] []] rfl ⟨hd10,hd9,fun _ => W121 v2 v3 v4 a6 v12 hk8,hd7,hd6,hd5,hd4,fun _ => W118 v4 a6 (v9,v10,v11) hk3,trivial⟩ ?_
       cases h
       exact Tri.ret rfl ⟨.inl rfl,rfl,rfl⟩
     ·refine Tri.f 2 [.v (.tuple [.agg [.i v9,.i v10],.bool v11]),.g true,.g true,.g true,.g true,.v (.bool v12),.g false,.g false] [.keep [4] []] rfl ⟨rfl,hd9,fun _ => W121 v2 v3 v4 a6 v12 hk8,hd7,hd6,hd5,hd4,fun _ => W118 v4 a6 (v9,v10,v11) hk3,trivial⟩ ?_
      cases h
      exact Tri.ret rfl ⟨.inl rfl,rfl,rfl⟩
    ·refine Tri.f 2 [.v (.tuple [.agg [.i v9,.i v10],.bool v11]),.g true,.g true,.g true,.g false,.g false,.g false] [.keep [4] []] rfl ⟨rfl,rfl,hd7,hd6,hd5,hd4,fun _ => W118 v4 a6 (v9,v10,v11) hk3,trivial⟩ ?_
     cases h
     exact Tri.ret rfl ⟨.inl rfl,rfl,rfl⟩
   ·refine Tri.f 2 [.v (.tuple [.agg [.i v9,.i v10],.bool v11]),.g true,.g true,.g false,.g false,.g false,.g false] [.keep [4] []] rfl ⟨rfl,rfl,rfl,hd6,hd5,hd4,fun _ => W118 v4 a6 (v9,v10,v11) hk3,trivial⟩ ?_
    cases h
    exact Tri.ret rfl ⟨.inl rfl,rfl,rfl⟩
  ·refine Tri.f 2 [.v (.tuple [.agg [.i v9,.i v10],.bool v11]),.g true,.g false,.g false,.g false,.g false,.g false] [.keep [4] []] rfl ⟨rfl,rfl,rfl,rfl,hd5,hd4,fun _ => W118 v4 a6 (v9,v10,v11) hk3,trivial⟩ ?_
   cases h
   exact Tri.ret rfl ⟨.inl rfl,rfl,rfl⟩
 ·refine Tri.f 2 [.v (.tuple [.agg [.i v9,.i v10],.bool v11]),.g false,.g false,.g false,.g false,.g false,.g false] [.keep [4] []] rfl ⟨rfl,rfl,rfl,rfl,rfl,hd4,fun _ => W118 v4 a6 (v9,v10,v11) hk3,trivial⟩ ?_
  cases h
  exact Tri.ret rfl ⟨.inl rfl,rfl,rfl⟩
noncomputable def E469 : Env := ⟨Tryz.prog,tys,(Tryz.f182.body).getD .skip,40,tysOk,mixedOk⟩
abbrev K315 (u0 : Value) (a0 : List UInt8) (r : (List Q) × Int × Int) (σ' : ASt) : Prop := isRes E469.T Tryz.f182 (.sl 1000 0) [(1000,.arr 31 0 0 (.rats r.1)),(2320,.box [.lst u0 (.bytes a0),.i r.2.1,.i r.2.2])] σ'
noncomputable def l_spec_l11Payoff_io1_0 (a0 : List UInt8) (a3 : Int) : (Int × Int × (List Q) × Int × Int) → Option ((Int × Int × (List Q) × Int × Int) ⊕ (((List Q) × Int × Int)))
 | (v2,v3,v4,v5,v6) => (
bif decide (v3 < a3) then
(bif decide (v3 < 5) then
((m_spec_l1PickInt_io1 a0 v5 v6 [(0 : Int),(1 : Int),(2 : Int),(3 : Int),(-1 : Int),(5 : Int)]).bind fun (v7,v8,v9) =>
bif v3 == (IntKind.i64.wrap (a3 - 1)) then
((m_spec_l3Int v2).bind fun (v10,v11) =>
grd (v4.length + ([⟨v10,v11⟩] : List Q).length ≤ room) <|
some (.inl (IntKind.i64.wrap (v2 - v2),IntKind.i64.wrap (v3 + 1),v4 ++ [⟨v10,v11⟩],v8,v9)))
else
((m_spec_l3Int v7).bind fun (v12,v13) =>
grd (v4.length + ([⟨v12,v13⟩] : List Q).length ≤ room) <|
some (.inl (IntKind.i64.wrap (v2 - v7),IntKind.i64.wrap (v3 + 1),v4 ++ [⟨v12,v13⟩],v8,v9))))
else
(some (.inr (v4,v5,v6))))
else
(some (.inr (v4,v5,v6))))
noncomputable def m_spec_l11Payoff_io1 (a0 : List UInt8) (a1 a2 a3 : Int) (a4 : List Int) : Option ((List Q) × Int × Int) :=
(m_spec_GrandValue a3 a4).bind fun v1 =>
(iter (l_spec_l11Payoff_io1_0 a0 a3) (v1,(0 : Int),[],a1,a2)).bind fun
| (v14,v15,v16) => (
some (v14,v15,v16))
theorem W155 (u0 : Value) (a0 : List UInt8) (a1 a2 a3 : Int) (a4 : List Int) (r : (List Q) × Int × Int) (h : m_spec_l11Payoff_io1 a0 a1 a2 a3 a4 = some r) : AM.Spec Tryz.prog 182 [.ptr 2320 0,.agg [.i a3,.list (.ints a4)]] [(2320,.box [.lst u0 (.bytes a0),.i a1,.i a2])] (.sl 1000 0) [(1000,.arr 31 0 0 (.rats r.1)),(2320,.box [.lst u0 (.bytes a0),.i r.2.1,.i r.2.2])] := by
 refine spec_of (E := E469) Tryz.func182 rfl rfl rfl rfl ?_
 refine Tri.f 2 [] [.keep [0,3,5] [3,9,2320]] rfl trivial ?_
 obtain ⟨v1,hk1,h⟩ := bind_some h
 refine Tri.f 2 [.v (.i v1)] [.keep [0,3,5,6,7] [3,9,2320]] rfl ⟨fun _ => W83 a3 a4 v1 hk1,trivial⟩ ?_
 obtain ⟨x1,hk10,h⟩ := bind_some h
 refine Tri.loop (K1 := [.code [(3,0),(1,0),(0,0)] 0]) (K2 := [.blk 0,.code [] 4]) (fun (v2,v3,v4,v5,v6) => ⟨[(0,.ptr 2320 0),(3,.ptr 3 0),(5,.sl 9 0),(6,.i v2),(7,.i v3)],[(3,.box [.i a3,.list (.ints a4)]),(9,.arr 31 0 0 (.rats v4)),(2320,.box [.lst u0 (.bytes a0),.i v5,.i v6])]⟩) (fun x e σ' => match x with | (v14,v15,v16) => e = .exit 0 ∧ σ' = ⟨[(5,.sl 9 0)],[(9,.arr 31 0 0 (.rats v14)),(2320,.box [.lst u0 (.bytes a0),.i v15,.i v16])]⟩) hk10 rfl rfl ?_ ?_
 ·intro s x hs
  clear h
  have h := hs
  clear hs
  obtain ⟨v2,v3,v4,v5,v6⟩ := s
  rcases bif_some h with ⟨hd2,h⟩ | ⟨hd2,h⟩
  ·refine Tri.f 1 [.g true] [.keep [0,3,5,6,7,19] [3,9,2320]] rfl ⟨hd2,trivial⟩ ?_
   rcases bif_some h with ⟨hd3,h⟩ | ⟨hd3,h⟩
   ·obtain ⟨⟨v7,v8,v9⟩,hk4,h⟩ := bind_some h
    refine Tri.f 3 [.g true,.r ⟨[2320],.i v7,[(2320,.box [.undf,.i v8,.i v9])]⟩] [.keep [0,3,5,6,7,8,29] [3,9,2320]] rfl ⟨(fun vf => ((W9 (vf 2320 0) a0 v5 v6 [(0 : Int),(1 : Int),(2 : Int),(3 : Int),(-1 : Int),(5 : Int)] (v7,v8,v9) hk4).swap 2100 2320)),hd3,trivial⟩ ?_
    rcases bif_some h with ⟨hd5,h⟩ | ⟨hd5,h⟩
    ·refine Tri.f 3 [.g true] [.keep [0,3,5,6,7,8] [3,9,2320]] rfl ⟨hd5,trivial⟩ ?_
     obtain ⟨⟨v10,v11⟩,hk6,h⟩ := bind_some h
     obtain ⟨hg7,h⟩ := grd_some h
     refine Tri.f 2 [.v (.agg [.i v10,.i v11])] [.rever 9,.keep [0,3,5,6,7] [3,9,2320]] rfl ⟨hg7,fun _ => W82 v2 (v10,v11) hk6,trivial⟩ ?_
     cases h
     exact Tri.nil ⟨rfl,rfl⟩
    ·refine Tri.f 2 [.g false] [.keep [0,3,5,6,7,8] [3,9,2320]] rfl ⟨hd5,trivial⟩ ?_
     obtain ⟨⟨v12,v13⟩,hk8,h⟩ := bind_some h
     obtain ⟨hg9,h⟩ := grd_some h
     refine Tri.f 2 [.v (.agg [.i v12,.i v13])] [.rever 9,.keep [0,3,5,6,7] [3,9,2320]] rfl ⟨hg9,fun _ => W82 v7 (v12,v13) hk8,trivial⟩ ?_
     cases h
     exact Tri.nil ⟨rfl,rfl⟩
   ·refine Tri.f 1 [.g false] [.keep [5] [9,2320]] rfl ⟨hd3,trivial⟩ ?_
    cases h
    exact Tri.out 0 rfl ⟨nofun,rfl,rfl⟩
  ·refine Tri.f 1 [.g false] [.keep [0,3,5,6,7,19] [3,9,2320]] rfl ⟨hd2,trivial⟩ ?_
   refine Tri.f 1 [.g false] [.keep [5] [9,2320]] rfl ⟨rfl,trivial⟩ ?_
   cases h
   exact Tri.out 0 rfl ⟨nofun,rfl,rfl⟩
 ·intro e σ' hne hq
  obtain ⟨v14,v15,v16⟩ := x1
  obtain ⟨rfl,rfl⟩ := hq
  refine TriX.exit (K' := [.code [] 4]) rfl ?_
  refine Tri.f 1 [] [.swap 9 1000,.keep [4] [1000,2320]] rfl trivial ?_
  cases h
  exact Tri.ret rfl ⟨.inl rfl,rfl,rfl⟩
noncomputable def E470 : Env := ⟨Tryz.prog,tys,(Tryz.f198.body).getD .skip,14,tysOk,mixedOk⟩
abbrev K316 (r : Int) (σ' : ASt) : Prop := isRes E470.T Tryz.f198 (.i r) [] σ'
noncomputable def l_spec_l14Factorial_0 (a0 : Int) : (Int × Int) → Option ((Int × Int) ⊕ Int)
 | (v1,v2) => (
bif decide (v2 ≤ a0) then
(some (.inl (IntKind.i64.wrap (v1 * v2),IntKind.i64.wrap (v2 + 1))))
else
(some (.inr v1)))
noncomputable def m_spec_l14Factorial (a0 : Int) : Option Int :=
(iter (l_spec_l14Factorial_0 a0) ((1 : Int),(2 : Int))).bind fun
| v3 => (
some v3)
theorem W156 (a0 r : Int) (h : m_spec_l14Factorial a0 = some r) : AM.Spec Tryz.prog 198 [.i a0] [] (.i r) [] := by
 refine spec_of (E := E470) Tryz.func198 rfl rfl rfl rfl ?_
 refine Tri.f 3 [] [.keep [0,3,4] []] rfl trivial ?_
 obtain ⟨v3,hk2,h⟩ := bind_some h
 refine Tri.loop (K1 := [.code [(2,0),(1,0),(0,0)] 0]) (K2 := [.blk 0,.code [] 3]) (fun (v1,v2) => ⟨[(0,.i a0),(3,.i v1),(4,.i v2)],[]⟩) (fun x e σ' => match x with | v3 => e = .exit 0 ∧ σ' = ⟨[(3,.i v3)],[]⟩) hk2 rfl rfl ?_ ?_
 ·intro s x hs
  clear h
  have h := hs
  clear hs
  obtain ⟨v1,v2⟩ := s
  refine Tri.f 1 [] [.keep [0,3,4,7] []] rfl trivial ?_
  rcases bif_some h with ⟨hd1,h⟩ | ⟨hd1,h⟩
  ·refine Tri.f 3 [.g true] [.keep [0,3,4] []] rfl ⟨hd1,trivial⟩ ?_
   cases h
   exact Tri.nil ⟨rfl,rfl⟩
  ·refine Tri.f 1 [.g false] [.keep [3] []] rfl ⟨hd1,trivial⟩ ?_
   cases h
   exact Tri.out 0 rfl ⟨nofun,rfl,rfl⟩
 ·intro e σ' hne hq
  obtain ⟨rfl,rfl⟩ := hq
  refine TriX.exit (K' := [.code [] 3]) rfl ?_
  refine Tri.f 1 [] [.keep [2] []] rfl trivial ?_
  cases h
  exact Tri.ret rfl ⟨.inl rfl,rfl,rfl⟩
noncomputable def E471 : Env := ⟨Tryz.prog,tys,(Tryz.f183.body).getD .skip,73,tysOk,mixedOk⟩
abbrev K317 (r : Bool × (List Q)) (σ' : ASt) : Prop := isRes E471.T Tryz.f183 (.tuple [.sl 1000 0,.bool r.1]) [(1000,.arr 31 0 0 (.rats r.2))] σ'
noncomputable def l_spec_ShapleyValue_1 (a0 : Int) (a1 : List Int) (v2 : Int) : (Int × Int) → Option ((Int × Int) ⊕ Int)
 | (v4,v5) => (
bif decide (v5 < (a1.length : Int)) then
((m_spec_HasPlayer v5 v2).bind fun v6 =>
bif v6 then
(some (.inl (v4,IntKind.i64.wrap (v5 + 1))))
else
((m_spec_SizeOf v5).bind fun v7 =>
(m_spec_l14Factorial v7).bind fun v8 =>
(m_spec_l14Factorial (IntKind.i64.wrap ((IntKind.i64.wrap (a0 - v7)) - 1))).bind fun v9 =>
(m_spec_l2Bit v2).bind fun v10 =>
grd (0 ≤ IntKind.i64.wrap (v5 + v10) ∧ IntKind.i64.wrap (v5 + v10) < (a1.length : Int)) <|
grd (0 ≤ v5 ∧ v5 < (a1.length : Int)) <|
some (.inl (IntKind.i64.wrap (v4 + (IntKind.i64.wrap ((IntKind.i64.wrap (v8 * v9)) * (IntKind.i64.wrap ((a1.getD ((IntKind.i64.wrap (v5 + v10)).toNat) 0) - (a1.getD v5.toNat 0)))))),IntKind.i64.wrap (v5 + 1)))))
else
(some (.inr v4)))
noncomputable def l_spec_ShapleyValue_0 (a0 : Int) (a1 : List Int) : (Int × (List Q)) → Option ((Int × (List Q)) ⊕ ((List Q)))
 | (v2,v3) => (
bif decide (v2 < a0) then
((iter (l_spec_ShapleyValue_1 a0 a1 v2) ((0 : Int),(0 : Int))).bind fun
| v11 => (
(m_spec_l14Factorial a0).bind fun v12 =>
(m_spec_RatOf v11 v12).bind fun (v13,v14,_) =>
grd (v3.length + ([⟨v13,v14⟩] : List Q).length ≤ room) <|
some (.inl (IntKind.i64.wrap (v2 + 1),v3 ++ [⟨v13,v14⟩]))))
else
(some (.inr v3)))
noncomputable def m_spec_ShapleyValue (a0 : Int) (a1 : List Int) : Option (Bool × (List Q)) :=
(m_spec_IsValidGame a0 a1).bind fun v1 =>
bif !v1 then
(some (false,[]))
else
((iter (l_spec_ShapleyValue_0 a0 a1) ((0 : Int),[])).bind fun
| v16 => (
some (true,v16)))
theorem W157 (a0 : Int) (a1 : List Int) (r : Bool × (List Q)) (h : m_spec_ShapleyValue a0 a1 = some r) : AM.Spec Tryz.prog 183 [.agg [.i a0,.list (.ints a1)]] [] (.tuple [.sl 1000 0,.bool r.1]) [(1000,.arr 31 0 0 (.rats r.2))] := by
 refine spec_of (E := E471) Tryz.func183 rfl rfl rfl rfl ?_
 refine Tri.f 2 [] [.keep [1,4] [1,12]] rfl trivial ?_
 obtain ⟨v1,hk1,h⟩ := bind_some h
 refine Tri.f 1 [.v (.bool v1)] [.keep [1,4,15] [1,12]] rfl ⟨fun _ => W81 a0 a1 v1 hk1,trivial⟩ ?_
 rcases bif_some h with ⟨hd2,h⟩ | ⟨hd2,h⟩
 ·refine Tri.f 2 [.g true] [.swap 12 1000,.keep [2,3] [1000]] rfl ⟨hd2,trivial⟩ ?_
  cases h
  exact Tri.ret rfl ⟨.inl rfl,rfl,rfl⟩
 ·refine Tri.f 3 [.g false] [.keep [1,4,5,6] [1,12]] rfl ⟨hd2,trivial⟩ ?_
  obtain ⟨v16,hk17,h⟩ := bind_some h
  refine Tri.loop (K1 := [.code [(4,0),(1,0),(0,0)] 0]) (K2 := [.blk 0,.code [] 5]) (fun (v2,v3) => ⟨[(1,.ptr 1 0),(4,.sl 12 0),(5,.i a0),(6,.i v2)],[(1,.box [.i a0,.list (.ints a1)]),(12,.arr 31 0 0 (.rats v3))]⟩) (fun x e σ' => match x with | v16 => e = .exit 0 ∧ σ' = ⟨[(4,.sl 12 0)],[(12,.arr 31 0 0 (.rats v16))]⟩) hk17 rfl rfl ?_ ?_
  ·intro s x hs
   clear h
   have h := hs
   clear hs
   obtain ⟨v2,v3⟩ := s
   refine Tri.f 1 [] [.keep [1,4,5,6,21] [1,12]] rfl trivial ?_
   rcases bif_some h with ⟨hd3,h⟩ | ⟨hd3,h⟩
   ·refine Tri.f 3 [.g true] [.keep [1,4,5,6,7,8] [1,12]] rfl ⟨hd3,trivial⟩ ?_
    obtain ⟨v11,hk13,h⟩ := bind_some h
    refine Tri.loop (K1 := [.code [(4,0),(1,0),(0,0),(1,0),(0,0),(1,0),(1,0),(0,0)] 0]) (K2 := [.blk 2,.code [(4,0),(1,0),(0,0),(1,0),(0,0)] 2,.blk 1,.code [(4,0),(1,0),(0,0)] 2]) (fun (v4,v5) => ⟨[(1,.ptr 1 0),(4,.sl 12 0),(5,.i a0),(6,.i v2),(7,.i v4),(8,.i v5)],[(1,.box [.i a0,.list (.ints a1)]),(12,.arr 31 0 0 (.rats v3))]⟩) (fun x e σ' => match x with | v11 => e = .exit 2 ∧ σ' = ⟨[(1,.ptr 1 0),(4,.sl 12 0),(5,.i a0),(6,.i v2),(7,.i v11)],[(1,.box [.i a0,.list (.ints a1)]),(12,.arr 31 0 0 (.rats v3))]⟩) hk13 rfl rfl ?_ ?_
    ·intro s x hs
     clear h
     have h := hs
     clear hs
     obtain ⟨v4,v5⟩ := s
     refine Tri.f 1 [] [.keep [1,4,5,6,7,8,28] [1,12]] rfl trivial ?_
     rcases bif_some h with ⟨hd4,h⟩ | ⟨hd4,h⟩
     ·obtain ⟨v6,hk5,h⟩ := bind_some h
      refine Tri.f 2 [.g true,.v (.bool v6)] [.keep [1,4,5,6,7,8,33] [1,12]] rfl ⟨fun _ => W7 v5 v2 v6 hk5,hd4,trivial⟩ ?_
      rcases bif_some h with ⟨hd6,h⟩ | ⟨hd6,h⟩
      ·refine Tri.f 2 [.g true] [.keep [1,4,5,6,7,8] [1,12]] rfl ⟨hd6,trivial⟩ ?_
       cases h
       exact Tri.nil ⟨rfl,rfl⟩
      ·obtain ⟨v7,hk7,h⟩ := bind_some h
       refine Tri.f 2 [.g false,.v (.i v7)] [.keep [1,4,5,6,7,8,9] [1,12]] rfl ⟨fun _ => W8 v5 v7 hk7,hd6,trivial⟩ ?_
       obtain ⟨v8,hk8,h⟩ := bind_some h
       obtain ⟨v9,hk9,h⟩ := bind_some h
       obtain ⟨v10,hk10,h⟩ := bind_some h
       obtain ⟨hg11,h⟩ := grd_some h
       obtain ⟨hg12,h⟩ := grd_some h
       refine Tri.f 2 [.v (.i v8),.v (.i v9),.v (.i v10)] [.keep [1,4,5,6,7,8] [1,12]] rfl ⟨hg12,hg11,fun _ => W6 v2 v10 hk10,fun _ => W156 (IntKind.i64.wrap ((IntKind.i64.wrap (a0 - v7)) - 1)) v9 hk9,fun _ => W156 v7 v8 hk8,trivial⟩ ?_
       cases h
       exact Tri.nil ⟨rfl,rfl⟩
     ·refine Tri.f 1 [.g false] [.keep [1,4,5,6,7] [1,12]] rfl ⟨hd4,trivial⟩ ?_
      cases h
      exact Tri.out 2 rfl ⟨nofun,rfl,rfl⟩
    ·intro e σ' hne hq
     obtain ⟨rfl,rfl⟩ := hq
     refine TriX.exit (K' := [.code [(4,0),(1,0),(0,0),(1,0),(0,0)] 2,.blk 1,.code [(4,0),(1,0),(0,0)] 2]) rfl ?_
     obtain ⟨v12,hk14,h⟩ := bind_some h
     obtain ⟨⟨v13,v14,v15⟩,hk15,h⟩ := bind_some h
     obtain ⟨hg16,h⟩ := grd_some h
     refine Tri.f 3 [.v (.i v12),.v (.tuple [.agg [.i v13,.i v14],.bool v15])] [.rever 12,.keep [1,4,5,6] [1,12]] rfl ⟨hg16,fun _ => W94 v11 v12 (v13,v14,v15) hk15,fun _ => W156 a0 v12 hk14,trivial⟩ ?_
     cases h
     exact Tri.nil ⟨rfl,rfl⟩
   ·refine Tri.f 1 [.g false] [.keep [4] [12]] rfl ⟨hd3,trivial⟩ ?_
    cases h
    exact Tri.out 0 rfl ⟨nofun,rfl,rfl⟩
  ·intro e σ' hne hq
   obtain ⟨rfl,rfl⟩ := hq
   refine TriX.exit (K' := [.code [] 5]) rfl ?_
   refine Tri.f 1 [] [.swap 12 1000,.keep [2,3] [1000]] rfl trivial ?_
   cases h
   exact Tri.ret rfl ⟨.inl rfl,rfl,rfl⟩
noncomputable def E472 : Env := ⟨Tryz.prog,tys,(Tryz.f130.body).getD .skip,38,tysOk,mixedOk⟩
abbrev K318 (r : Int × (List Int) × (List Q)) (σ' : ASt) : Prop := isRes E472.T Tryz.f130 (.tuple [.agg [.i r.1,.sl 1000 0],.sl 1001 0]) [(1000,.arr 3 0 0 (.ints r.2.1)),(1001,.arr 31 0 0 (.rats r.2.2))] σ'
noncomputable def m_spec_l11Args (a0 : List UInt8) : Option (Int × (List Int) × (List Q)) :=
(m_spec_l1New_io2 0 [] a0).bind fun (v1,v2,v3,_,_) =>
(m_spec_l8Draw_io1 v1 v2 v3 (4 : Int)).bind fun (v6,v7,v8,v9) =>
(m_spec_l1Once_io1 v1 v8 v9 (16 : Int)).bind fun (v10,v11,v12) =>
bif v10 then
((m_spec_l8Bent_io1 v1 v11 v12).bind fun (v13,v14,v15,v16) =>
(m_spec_l11Payoff_io1 v1 v15 v16 v13 v14).bind fun (v17,v18,v19) =>
bif decide ((v17.length : Int) > 0) then
((m_spec_l1Once_io1 v1 v18 v19 (10 : Int)).bind fun (v20,v21,v22) =>
bif v20 then
((m_spec_l3Draw_io1 v1 v21 v22).bind fun (v23,v24,v25,v26) =>
grd ((0 : Int) ≤ (0 : Int) ∧ (0 : Int) < (v17.length : Int)) <|
(m_spec_l1Once_io1 v1 v25 v26 (3 : Int)).bind fun (v27,_,_) =>
bif v27 then
((m_spec_ShapleyValue v13 v14).bind fun (_,v31) =>
some (v13,v14,v31))
else
(some (v13,v14,v17.set ((0 : Int).toNat) ⟨v23,v24⟩)))
else
((m_spec_l1Once_io1 v1 v21 v22 (3 : Int)).bind fun (v32,_,_) =>
bif v32 then
((m_spec_ShapleyValue v13 v14).bind fun (_,v36) =>
some (v13,v14,v36))
else
(some (v13,v14,v17))))
else
((m_spec_l1Once_io1 v1 v18 v19 (3 : Int)).bind fun (v37,_,_) =>
bif v37 then
((m_spec_ShapleyValue v13 v14).bind fun (_,v41) =>
some (v13,v14,v41))
else
(some (v13,v14,v17))))
else
((m_spec_l11Payoff_io1 v1 v11 v12 v6 v7).bind fun (v42,v43,v44) =>
bif decide ((v42.length : Int) > 0) then
((m_spec_l1Once_io1 v1 v43 v44 (10 : Int)).bind fun (v45,v46,v47) =>
bif v45 then
((m_spec_l3Draw_io1 v1 v46 v47).bind fun (v48,v49,v50,v51) =>
grd ((0 : Int) ≤ (0 : Int) ∧ (0 : Int) < (v42.length : Int)) <|
(m_spec_l1Once_io1 v1 v50 v51 (3 : Int)).bind fun (v52,_,_) =>
bif v52 then
((m_spec_ShapleyValue v6 v7).bind fun (_,v56) =>
some (v6,v7,v56))
else
(some (v6,v7,v42.set ((0 : Int).toNat) ⟨v48,v49⟩)))
else
((m_spec_l1Once_io1 v1 v46 v47 (3 : Int)).bind fun (v57,_,_) =>
bif v57 then
((m_spec_ShapleyValue v6 v7).bind fun (_,v61) =>
some (v6,v7,v61))
else
(some (v6,v7,v42))))
else
((m_spec_l1Once_io1 v1 v43 v44 (3 : Int)).bind fun (v62,_,_) =>
bif v62 then
((m_spec_ShapleyValue v6 v7).bind fun (_,v66) =>
some (v6,v7,v66))
else
(some (v6,v7,v42))))
theorem W158 (a0 : List UInt8) (r : Int × (List Int) × (List Q)) (h : m_spec_l11Args a0 = some r) : AM.Spec Tryz.prog 130 [.list (.bytes a0)] [] (.tuple [.agg [.i r.1,.sl 1000 0],.sl 1001 0]) [(1000,.arr 3 0 0 (.ints r.2.1)),(1001,.arr 31 0 0 (.rats r.2.2))] := by
 refine spec_of (E := E472) Tryz.func130 rfl rfl rfl rfl ?_
 refine Tri.f 1 [] [.keep [0,2] [2],.ownc 2 1 1100 3,.keep [0,2] [2,1100]] rfl trivial ?_
 obtain ⟨⟨v1,v2,v3,v4,v5⟩,hk1,h⟩ := bind_some h
 obtain ⟨⟨v6,v7,v8,v9⟩,hk2,h⟩ := bind_some h
 refine Tri.f 2 [.r ⟨[2,1100],.ptr 1101 0,[(1101,.box [.list (.bytes v1),.i v2,.i v3]),(1102,.arr 3 0 0 (.ints v4)),(2,.box [.i v5,.sl 1102 0])]⟩,.r ⟨[1101],.agg [.i v6,.sl 1103 0],[(1103,.arr 3 0 0 (.ints v7)),(1101,.box [.undf,.i v8,.i v9])]⟩] [.keep [2,4,5] [2,5,1101,1102,1103]] rfl ⟨(fun vf => (((W12 (vf 1101 0) v1 v2 v3 (4 : Int) (v6,v7,v8,v9) hk2).swap 1000 1103).swap 2040 1101)),fun _ => ((((W1 0 [] a0 (v1,v2,v3,v4,v5) hk1).swap 1000 1101).swap 1001 1102).swap 2000 2).swap 2001 1100,trivial⟩ ?_
 obtain ⟨⟨v10,v11,v12⟩,hk3,h⟩ := bind_some h
 refine Tri.f 1 [.r ⟨[1101],.bool v10,[(1101,.box [.undf,.i v11,.i v12])]⟩] [.keep [2,4,5,12] [2,5,1101,1102,1103]] rfl ⟨(fun vf => ((W140 (vf 1101 0) v1 v8 v9 (16 : Int) (v10,v11,v12) hk3).swap 2300 1101)),trivial⟩ ?_
 rcases bif_some h with ⟨hd4,h⟩ | ⟨hd4,h⟩
 ·obtain ⟨⟨v13,v14,v15,v16⟩,hk5,h⟩ := bind_some h
  refine Tri.f 2 [.g true,.r ⟨[1101],.agg [.i v13,.sl 1104 0],[(1104,.arr 3 0 0 (.ints v14)),(1101,.box [.undf,.i v15,.i v16])]⟩] [.keep [2,4,5] [2,5,1101,1102,1104]] rfl ⟨(fun vf => (((W13 (vf 1101 0) v1 v11 v12 (v13,v14,v15,v16) hk5).swap 1000 1104).swap 2020 1101)),hd4,trivial⟩ ?_
  obtain ⟨⟨v17,v18,v19⟩,hk6,h⟩ := bind_some h
  rcases bif_some h with ⟨hd7,h⟩ | ⟨hd7,h⟩
  ·obtain ⟨⟨v20,v21,v22⟩,hk8,h⟩ := bind_some h
   refine Tri.f 2 [.r ⟨[1101],.sl 1105 0,[(1105,.arr 31 0 0 (.rats v17)),(1101,.box [.undf,.i v18,.i v19])]⟩,.g true,.r ⟨[1101],.bool v20,[(1101,.box [.undf,.i v21,.i v22])]⟩] [.keep [2,4,5,6,24] [2,5,1101,1102,1104,1105]] rfl ⟨(fun vf => ((W140 (vf 1101 0) v1 v18 v19 (10 : Int) (v20,v21,v22) hk8).swap 2300 1101)),hd7,(fun vf => (((W155 (vf 1101 0) v1 v15 v16 v13 v14 (v17,v18,v19) hk6).swap 1000 1105).swap 2320 1101)),trivial⟩ ?_
   rcases bif_some h with ⟨hd9,h⟩ | ⟨hd9,h⟩
   ·obtain ⟨⟨v23,v24,v25,v26⟩,hk10,h⟩ := bind_some h
    obtain ⟨hg11,h⟩ := grd_some h
    refine Tri.f 2 [.g true,.r ⟨[1101],.agg [.i v23,.i v24],[(1101,.box [.undf,.i v25,.i v26])]⟩] [.keep [2,4,5,6] [2,5,1101,1102,1104,1105]] rfl ⟨hg11,(fun vf => ((W141 (vf 1101 0) v1 v21 v22 (v23,v24,v25,v26) hk10).swap 2280 1101)),hd9,trivial⟩ ?_
    obtain ⟨⟨v27,v28,v29⟩,hk12,h⟩ := bind_some h
    refine Tri.f 1 [.r ⟨[1101],.bool v27,[(1101,.box [.undf,.i v28,.i v29])]⟩] [.keep [2,5,6,30] [2,5,1102,1104,1105]] rfl ⟨(fun vf => ((W140 (vf 1101 0) v1 v25 v26 (3 : Int) (v27,v28,v29) hk12).swap 2300 1101)),trivial⟩ ?_
    rcases bif_some h with ⟨hd13,h⟩ | ⟨hd13,h⟩
    ·obtain ⟨⟨v30,v31⟩,hk14,h⟩ := bind_some h
     refine Tri.f 3 [.g true,.r ⟨[],.tuple [.sl 1106 0,.bool v30],[(1106,.arr 31 0 0 (.rats v31))]⟩] [.swap 1104 1000,.swap 1106 1001,.keep [2,3] [2,1000,1001]] rfl ⟨fun _ => (W157 v13 v14 (v30,v31) hk14).swap 1000 1106,hd13,trivial⟩ ?_
     cases h
     exact Tri.ret rfl ⟨.inl rfl,rfl,rfl⟩
    ·refine Tri.f 2 [.g false] [.swap 1104 1000,.swap 1105 1001,.keep [2,3] [2,1000,1001]] rfl ⟨hd13,trivial⟩ ?_
     cases h
     exact Tri.ret rfl ⟨.inl rfl,rfl,rfl⟩
   ·obtain ⟨⟨v32,v33,v34⟩,hk15,h⟩ := bind_some h
    refine Tri.f 2 [.g false,.r ⟨[1101],.bool v32,[(1101,.box [.undf,.i v33,.i v34])]⟩] [.keep [2,5,6,30] [2,5,1102,1104,1105]] rfl ⟨(fun vf => ((W140 (vf 1101 0) v1 v21 v22 (3 : Int) (v32,v33,v34) hk15).swap 2300 1101)),hd9,trivial⟩ ?_
    rcases bif_some h with ⟨hd16,h⟩ | ⟨hd16,h⟩
    ·obtain ⟨⟨v35,v36⟩,hk17,h⟩ := bind_some h
     refine Tri.f 3 [.g true,.r ⟨[],.tuple [.sl 1107 0,.bool v35],[(1107,.arr 31 0 0 (.rats v36))]⟩] [.swap 1104 1000,.swap 1107 1001,.keep [2,3] [2,1000,1001]] rfl ⟨fun _ => (W157 v13 v14 (v35,v36) hk17).swap 1000 1107,hd16,trivial⟩ ?_
     cases h
     exact Tri.ret rfl ⟨.inl rfl,rfl,rfl⟩
    ·refine Tri.f 2 [.g false] [.swap 1104 1000,.swap 1105 1001,.keep [2,3] [2,1000,1001]] rfl ⟨hd16,trivial⟩ ?_
     cases h
     exact Tri.ret rfl ⟨.inl rfl,rfl,rfl⟩
  ·refine Tri.f 2 [.r ⟨[1101],.sl 1105 0,[(1105,.arr 31 0 0 (.rats v17)),(1101,.box [.undf,.i v18,.i v19])]⟩,.g false] [.keep [2,4,5,6,24] [2,5,1101,1102,1104,1105]] rfl ⟨hd7,(fun vf => (((W155 (vf 1101 0) v1 v15 v16 v13 v14 (v17,v18,v19) hk6).swap 1000 1105).swap 2320 1101)),trivial⟩ ?_
   obtain ⟨⟨v37,v38,v39⟩,hk18,h⟩ := bind_some h
   refine Tri.f 2 [.g false,.r ⟨[1101],.bool v37,[(1101,.box [.undf,.i v38,.i v39])]⟩] [.keep [2,5,6,30] [2,5,1102,1104,1105]] rfl ⟨(fun vf => ((W140 (vf 1101 0) v1 v18 v19 (3 : Int) (v37,v38,v39) hk18).swap 2300 1101)),rfl,trivial⟩ ?_
   rcases bif_some h with ⟨hd19,h⟩ | ⟨hd19,h⟩
   ·obtain ⟨⟨v40,v41⟩,hk20,h⟩ := bind_some h
    refine Tri.f 3 [.g true,.r ⟨[],.tuple [.sl 1108 0,.bool v40],[(1108,.arr 31 0 0 (.rats v41))]⟩] [.swap 1104 1000,.swap 1108 1001,.keep [2,3] [2,1000,1001]] rfl ⟨fun _ => (W157 v13 v14 (v40,v41) hk20).swap 1000 1108,hd19,trivial⟩ ?_
    cases h
    exact Tri.ret rfl ⟨.inl rfl,rfl,rfl⟩
   ·refine Tri.f 2 [.g false] [.swap 1104 1000,.swap 1105 1001,.keep [2,3] [2,1000,1001]] rfl ⟨hd19,trivial⟩ ?_
    cases h
    exact Tri.ret rfl ⟨.inl rfl,rfl,rfl⟩
 ·obtain ⟨⟨v42,v43,v44⟩,hk21,h⟩ := bind_some h
  refine Tri.f 2 [.g false,.r ⟨[1101],.sl 1109 0,[(1109,.arr 31 0 0 (.rats v42)),(1101,.box [.undf,.i v43,.i v44])]⟩] [.keep [2,4,5,6] [2,5,1101,1102,1103,1109]] rfl ⟨(fun vf => (((W155 (vf 1101 0) v1 v11 v12 v6 v7 (v42,v43,v44) hk21).swap 1000 1109).swap 2320 1101)),hd4,trivial⟩ ?_
  rcases bif_some h with ⟨hd22,h⟩ | ⟨hd22,h⟩
  ·obtain ⟨⟨v45,v46,v47⟩,hk23,h⟩ := bind_some h
   refine Tri.f 1 [.g true,.r ⟨[1101],.bool v45,[(1101,.box [.undf,.i v46,.i v47])]⟩] [.keep [2,4,5,6,24] [2,5,1101,1102,1103,1109]] rfl ⟨(fun vf => ((W140 (vf 1101 0) v1 v43 v44 (10 : Int) (v45,v46,v47) hk23).swap 2300 1101)),hd22,trivial⟩ ?_
   rcases bif_some h with ⟨hd24,h⟩ | ⟨hd24,h⟩
   ·obtain ⟨⟨v48,v49,v50,v51⟩,hk25,h⟩ := bind_some h
    obtain ⟨hg26,h⟩ := grd_some h
    refine Tri.f 2 [.g true,.r ⟨[1101],.agg [.i v48,.i v49],[(1101,.box [.undf,.i v50,.i v51])]⟩] [.keep [2,4,5,6] [2,5,1101,1102,1103,1109]] rfl ⟨hg26,(fun vf => ((W141 (vf 1101 0) v1 v46 v47 (v48,v49,v50,v51) hk25).swap 2280 1101)),hd24,trivial⟩ ?_
    obtain ⟨⟨v52,v53,v54⟩,hk27,h⟩ := bind_some h
    refine Tri.f 1 [.r ⟨[1101],.bool v52,[(1101,.box [.undf,.i v53,.i v54])]⟩] [.keep [2,5,6,30] [2,5,1102,1103,1109]] rfl ⟨(fun vf => ((W140 (vf 1101 0) v1 v50 v51 (3 : Int) (v52,v53,v54) hk27).swap 2300 1101)),trivial⟩ ?_
    rcases bif_some h with ⟨hd28,h⟩ | ⟨hd28,h⟩
    ·obtain ⟨⟨v55,v56⟩,hk29,h⟩ := bind_some h
     refine Tri.f 3 [.g true,.r ⟨[],.tuple [.sl 1110 0,.bool v55],[(1110,.arr 31 0 0 (.rats v56))]⟩] [.swap 1103 1000,.swap 1110 1001,.keep [2,3] [2,1000,1001]] rfl ⟨fun _ => (W157 v6 v7 (v55,v56) hk29).swap 1000 1110,hd28,trivial⟩ ?_
     cases h
     exact Tri.ret rfl ⟨.inl rfl,rfl,rfl⟩
    ·refine Tri.f 2 [.g false] [.swap 1103 1000,.swap 1109 1001,.keep [2,3] [2,1000,1001]] rfl ⟨hd28,trivial⟩ ?_
     cases h
     exact Tri.ret rfl ⟨.inl rfl,rfl,rfl⟩
   ·obtain ⟨⟨v57,v58,v59⟩,hk30,h⟩ := bind_some h
    refine Tri.f 2 [.g false,.r ⟨[1101],.bool v57,[(1101,.box [.undf,.i v58,.i v59])]⟩] [.keep [2,5,6,30] [2,5,1102,1103,1109]] rfl ⟨(fun vf => ((W140 (vf 1101 0) v1 v46 v47 (3 : Int) (v57,v58,v59) hk30).swap 2300 1101)),hd24,trivial⟩ ?_
    rcases bif_some h with ⟨hd31,h⟩ | ⟨hd31,h⟩
    ·obtain ⟨⟨v60,v61⟩,hk32,h⟩ := bind_some h
     refine Tri.f 3 [.g true,.r ⟨[],.tuple [.sl 1111 0,.bool v60],[(1111,.arr 31 0 0 (.rats v61))]⟩] [.swap 1103 1000,.swap 1111 1001,.keep [2,3] [2,1000,1001]] rfl ⟨fun _ => (W157 v6 v7 (v60,v61) hk32).swap 1000 1111,hd31,trivial⟩ ?_
     cases h
     exact Tri.ret rfl ⟨.inl rfl,rfl,rfl⟩
    ·refine Tri.f 2 [.g false] [.swap 1103 1000,.swap 1109 1001,.keep [2,3] [2,1000,1001]] rfl ⟨hd31,trivial⟩ ?_
     cases h
     exact Tri.ret rfl ⟨.inl rfl,rfl,rfl⟩
  ·refine Tri.f 1 [.g false] [.keep [2,4,5,6,24] [2,5,1101,1102,1103,1109]] rfl ⟨hd22,trivial⟩ ?_
   obtain ⟨⟨v62,v63,v64⟩,hk33,h⟩ := bind_some h
   refine Tri.f 2 [.g false,.r ⟨[1101],.bool v62,[(1101,.box [.undf,.i v63,.i v64])]⟩] [.keep [2,5,6,30] [2,5,1102,1103,1109]] rfl ⟨(fun vf => ((W140 (vf 1101 0) v1 v43 v44 (3 : Int) (v62,v63,v64) hk33).swap 2300 1101)),rfl,trivial⟩ ?_
   rcases bif_some h with ⟨hd34,h⟩ | ⟨hd34,h⟩
   ·obtain ⟨⟨v65,v66⟩,hk35,h⟩ := bind_some h
    refine Tri.f 3 [.g true,.r ⟨[],.tuple [.sl 1112 0,.bool v65],[(1112,.arr 31 0 0 (.rats v66))]⟩] [.swap 1103 1000,.swap 1112 1001,.keep [2,3] [2,1000,1001]] rfl ⟨fun _ => (W157 v6 v7 (v65,v66) hk35).swap 1000 1112,hd34,trivial⟩ ?_
    cases h
    exact Tri.ret rfl ⟨.inl rfl,rfl,rfl⟩
   ·refine Tri.f 2 [.g false] [.swap 1103 1000,.swap 1109 1001,.keep [2,3] [2,1000,1001]] rfl ⟨hd34,trivial⟩ ?_
    cases h
    exact Tri.ret rfl ⟨.inl rfl,rfl,rfl⟩
noncomputable def E473 : Env := ⟨Tryz.prog,tys,(Tryz.f47.body).getD .skip,8,tysOk,mixedOk⟩
abbrev K319 (r : Int × (List Int) × (List Q)) (σ' : ASt) : Prop := isRes E473.T Tryz.f47 (.tuple [.agg [.i r.1,.sl 1000 0],.sl 1001 0]) [(1000,.arr 3 0 0 (.ints r.2.1)),(1001,.arr 31 0 0 (.rats r.2.2))] σ'
noncomputable def m_spec_DrawWorstExcess (a0 : List UInt8) : Option (Int × (List Int) × (List Q)) :=
(m_spec_l11Args a0).bind fun (v1,v2,v3) =>
some (v1,v2,v3)
theorem W159 (a0 : List UInt8) (r : Int × (List Int) × (List Q)) (h : m_spec_DrawWorstExcess a0 = some r) : AM.Spec Tryz.prog 47 [.list (.bytes a0)] [] (.tuple [.agg [.i r.1,.sl 1000 0],.sl 1001 0]) [(1000,.arr 3 0 0 (.ints r.2.1)),(1001,.arr 31 0 0 (.rats r.2.2))] := by
 refine spec_of (E := E473) Tryz.func47 rfl rfl rfl rfl ?_
 refine Tri.f 1 [] [.keep [0,2] [2],.ownc 2 1 1100 3,.keep [0,2] [2,1100]] rfl trivial ?_
 obtain ⟨⟨v1,v2,v3⟩,hk1,h⟩ := bind_some h
 refine Tri.f 1 [.r ⟨[],.tuple [.agg [.i v1,.sl 1101 0],.sl 1102 0],[(1101,.arr 3 0 0 (.ints v2)),(1102,.arr 31 0 0 (.rats v3))]⟩] [.swap 1101 1000,.swap 1102 1001,.keep [2,3] [2,1000,1001]] rfl ⟨fun _ => ((W158 a0 (v1,v2,v3) hk1).swap 1000 1101).swap 1001 1102,trivial⟩ ?_
 cases h
 exact Tri.ret rfl ⟨.inl rfl,rfl,rfl⟩
noncomputable def E474 : Env := ⟨Tryz.prog,tys,(Tryz.f5.body).getD .skip,99,tysOk,mixedOk⟩
abbrev K320 (r : Bool) (σ' : ASt) : Prop := isRes E474.T Tryz.f5 (.bool r) [] σ'
noncomputable def m_laws_FnLeastCore (a0 : List UInt8) : Option Bool :=
(m_laws_big a0).bind fun v1 =>
bif v1 then
(some true)
else
((m_spec_DrawFindLeastCore a0).bind fun (v2,v3) =>
(m_impl_FindLeastCore v2 v3).bind fun (v4,v5,v6,v7,v8) =>
(m_spec_FindLeastCore v2 v3).bind fun (v9,v10,v11,v12,v13) =>
(m_impl_EqualLeast v4 v5 v6 v7 v8 v9 v10 v11 v12 v13).bind fun v14 =>
bif !v14 then
(some false)
else
(bif v4 then
((m_impl_CheckLeastCore v2 v3 v4 v5 v6 v7 v8).bind fun v15 =>
bif !v15 then
(some false)
else
((m_impl_LeastLP v2 v3).bind fun (v16,v17,v18,v19) =>
(m_spec_LeastLP v2 v3).bind fun (v20,v21,v22,v23) =>
(m_spec_DrawCheckLeastCore a0).bind fun (v24,v25,v26,v27,v28,v29,v30) =>
bif v16 != v20 then
(some false)
else
((m_laws_sameLP v17 v18 v19 v21 v22 v23).bind fun v31 =>
bif !v31 then
(some false)
else
((m_impl_CheckLeastCore v24 v28 v25 v26 v27 v29 v30).bind fun v32 =>
(m_spec_CheckLeastCore v24 v28 v25 v26 v27 v29 v30).bind fun v33 =>
bif v32 != v33 then
(some false)
else
((m_spec_DrawWorstExcess a0).bind fun (v34,v35,v36) =>
(m_spec_WorstExcess v34 v35 v36).bind fun (v37,v38,v39,_) =>
(m_spec_FindLeastCore v34 v35).bind fun (v41,v42,v43,_,_) =>
bif !v39 then
(some true)
else
(bif !v41 then
(some true)
else
((m_impl_CompareRat v42 v43 v37 v38).bind fun v46 =>
some (decide (v46 ≤ 0)))))))))
else
((m_impl_LeastLP v2 v3).bind fun (v47,v48,v49,v50) =>
(m_spec_LeastLP v2 v3).bind fun (v51,v52,v53,v54) =>
(m_spec_DrawCheckLeastCore a0).bind fun (v55,v56,v57,v58,v59,v60,v61) =>
bif v47 != v51 then
(some false)
else
((m_laws_sameLP v48 v49 v50 v52 v53 v54).bind fun v62 =>
bif !v62 then
(some false)
else
((m_impl_CheckLeastCore v55 v59 v56 v57 v58 v60 v61).bind fun v63 =>
(m_spec_CheckLeastCore v55 v59 v56 v57 v58 v60 v61).bind fun v64 =>
bif v63 != v64 then
(some false)
else
((m_spec_DrawWorstExcess a0).bind fun (v65,v66,v67) =>
(m_spec_WorstExcess v65 v66 v67).bind fun (v68,v69,v70,_) =>
(m_spec_FindLeastCore v65 v66).bind fun (v72,v73,v74,_,_) =>
bif !v70 then
(some true)
else
(bif !v72 then
(some true)
else
((m_impl_CompareRat v73 v74 v68 v69).bind fun v77 =>
some (decide (v77 ≤ 0))))))))))
theorem w_laws_FnLeastCore (a0 : List UInt8) (r : Bool) (h : m_laws_FnLeastCore a0 = some r) : AM.Spec Tryz.prog 5 [.list (.bytes a0)] [] (.bool r) [] := by
 refine spec_of (E := E474) Tryz.func5 rfl rfl rfl rfl ?_
 refine Tri.f 1 [] [.keep [0] []] rfl trivial ?_
 obtain ⟨v1,hk1,h⟩ := bind_some h
 refine Tri.f 1 [.v (.bool v1)] [.keep [0,18] []] rfl ⟨fun _ => W0 a0 v1 hk1,trivial⟩ ?_
 rcases bif_some h with ⟨hd2,h⟩ | ⟨hd2,h⟩
 ·refine Tri.f 2 [.g true] [.keep [2] []] rfl ⟨hd2,trivial⟩ ?_
  cases h
  exact Tri.ret rfl ⟨.inl rfl,rfl,rfl⟩
 ·obtain ⟨⟨v2,v3⟩,hk3,h⟩ := bind_some h
  refine Tri.f 2 [.g false,.r ⟨[],.agg [.i v2,.sl 1100 0],[(1100,.arr 3 0 0 (.ints v3))]⟩] [.keep [0,3] [3,1100]] rfl ⟨fun _ => (W14 a0 (v2,v3) hk3).swap 1000 1100,hd2,trivial⟩ ?_
  obtain ⟨⟨v4,v5,v6,v7,v8⟩,hk4,h⟩ := bind_some h
  obtain ⟨⟨v9,v10,v11,v12,v13⟩,hk5,h⟩ := bind_some h
  obtain ⟨v14,hk6,h⟩ := bind_some h
  rcases bif_some h with ⟨hd7,h⟩ | ⟨hd7,h⟩
  ·refine Tri.f 2 [.r ⟨[],.agg [.bool v4,.i v5,.i v6,.sl 1101 0,.sl 1102 0],[(1101,.arr 31 0 0 (.rats v7)),(1102,.arr 31 0 0 (.rats v8))]⟩,.r ⟨[],.agg [.bool v9,.i v10,.i v11,.sl 1103 0,.sl 1104 0],[(1103,.arr 31 0 0 (.rats v12)),(1104,.arr 31 0 0 (.rats v13))]⟩,.v (.bool v14),.g true] [.keep [0,3,37] [3,1100]] rfl ⟨hd7,fun _ => W130 v4 v5 v6 v7 v8 v9 v10 v11 v12 v13 v14 hk6,fun _ => ((W128 v2 v3 (v9,v10,v11,v12,v13) hk5).swap 1000 1103).swap 1001 1104,fun _ => ((W80 v2 v3 (v4,v5,v6,v7,v8) hk4).swap 1000 1101).swap 1001 1102,trivial⟩ ?_
   refine Tri.f 2 [.g true] [.keep [2] []] rfl ⟨rfl,trivial⟩ ?_
   cases h
   exact Tri.ret rfl ⟨.inl rfl,rfl,rfl⟩
  ·rcases bif_some h with ⟨hd8,h⟩ | ⟨hd8,h⟩
   ·obtain ⟨v15,hk9,h⟩ := bind_some h
    refine Tri.f 2 [.r ⟨[],.agg [.bool v4,.i v5,.i v6,.sl 1101 0,.sl 1102 0],[(1101,.arr 31 0 0 (.rats v7)),(1102,.arr 31 0 0 (.rats v8))]⟩,.r ⟨[],.agg [.bool v9,.i v10,.i v11,.sl 1103 0,.sl 1104 0],[(1103,.arr 31 0 0 (.rats v12)),(1104,.arr 31 0 0 (.rats v13))]⟩,.v (.bool v14),.g false,.g true,.v (.bool v15)] [.keep [0,3,37] [3,1100]] rfl ⟨fun _ => W138 v2 v3 v4 v5 v6 v7 v8 v15 hk9,hd8,hd7,fun _ => W130 v4 v5 v6 v7 v8 v9 v10 v11 v12 v13 v14 hk6,fun _ => ((W128 v2 v3 (v9,v10,v11,v12,v13) hk5).swap 1000 1103).swap 1001 1104,fun _ => ((W80 v2 v3 (v4,v5,v6,v7,v8) hk4).swap 1000 1101).swap 1001 1102,trivial⟩ ?_
    rcases bif_some h with ⟨hd10,h⟩ | ⟨hd10,h⟩
    ·refine Tri.f 2 [.g true] [.keep [2] []] rfl ⟨hd10,trivial⟩ ?_
     cases h
     exact Tri.ret rfl ⟨.inl rfl,rfl,rfl⟩
    ·obtain ⟨⟨v16,v17,v18,v19⟩,hk11,h⟩ := bind_some h
     refine Tri.f 2 [.g false,.r ⟨[],.tuple [.agg [.sl 1105 0,.sl 1106 0,.sl 1107 0],.bool v16],[(1105,.arr 25 0 0 (.intss v17)),(1106,.arr 3 0 0 (.ints v18)),(1107,.arr 31 0 0 (.rats v19))]⟩] [.keep [0,3,5,6] [3,5,1100,1105,1106,1107]] rfl ⟨fun _ => (((W27 v2 v3 (v16,v17,v18,v19) hk11).swap 1000 1105).swap 1001 1106).swap 1002 1107,hd10,trivial⟩ ?_
     obtain ⟨⟨v20,v21,v22,v23⟩,hk12,h⟩ := bind_some h
     obtain ⟨⟨v24,v25,v26,v27,v28,v29,v30⟩,hk13,h⟩ := bind_some h
     refine Tri.f 2 [.r ⟨[],.tuple [.agg [.sl 1108 0,.sl 1109 0,.sl 1110 0],.bool v20],[(1108,.arr 25 0 0 (.intss v21)),(1109,.arr 3 0 0 (.ints v22)),(1110,.arr 31 0 0 (.rats v23))]⟩,.r ⟨[],.tuple [.agg [.i v24,.sl 1111 0],.agg [.bool v25,.i v26,.i v27,.sl 1112 0,.sl 1113 0]],[(1111,.arr 3 0 0 (.ints v28)),(1112,.arr 31 0 0 (.rats v29)),(1113,.arr 31 0 0 (.rats v30))]⟩] [.keep [0,5,6,7,8,9,10] [5,7,9,10,1105,1106,1107,1108,1109,1110,1111,1112,1113]] rfl ⟨fun _ => (((W142 a0 (v24,v25,v26,v27,v28,v29,v30) hk13).swap 1000 1111).swap 1001 1112).swap 1002 1113,fun _ => (((W84 v2 v3 (v20,v21,v22,v23) hk12).swap 1000 1108).swap 1001 1109).swap 1002 1110,trivial⟩ ?_
     rcases bif_some h with ⟨hd14,h⟩ | ⟨hd14,h⟩
     ·refine Tri.f 1 [.g true,.g true] [.keep [0,70] []] rfl ⟨rfl,hd14,trivial⟩ ?_
      refine Tri.f 2 [.g true] [.keep [2] []] rfl ⟨rfl,trivial⟩ ?_
      cases h
      exact Tri.ret rfl ⟨.inl rfl,rfl,rfl⟩
     ·obtain ⟨v31,hk15,h⟩ := bind_some h
      rcases bif_some h with ⟨hd16,h⟩ | ⟨hd16,h⟩
      ·refine Tri.f 1 [.g false,.v (.bool v31),.g true] [.keep [0,70] []] rfl ⟨hd16,fun _ => W146 v17 v18 v19 v21 v22 v23 v31 hk15,hd14,trivial⟩ ?_
       refine Tri.f 2 [.g true] [.keep [2] []] rfl ⟨rfl,trivial⟩ ?_
       cases h
       exact Tri.ret rfl ⟨.inl rfl,rfl,rfl⟩
      ·obtain ⟨v32,hk17,h⟩ := bind_some h
       obtain ⟨v33,hk18,h⟩ := bind_some h
       refine Tri.f 1 [.g false,.v (.bool v31),.g false,.v (.bool v32),.v (.bool v33)] [.keep [0,70] []] rfl ⟨fun _ => W154 v24 v28 v25 v26 v27 v29 v30 v33 hk18,fun _ => W138 v24 v28 v25 v26 v27 v29 v30 v32 hk17,hd16,fun _ => W146 v17 v18 v19 v21 v22 v23 v31 hk15,hd14,trivial⟩ ?_
       rcases bif_some h with ⟨hd19,h⟩ | ⟨hd19,h⟩
       ·refine Tri.f 2 [.g true] [.keep [2] []] rfl ⟨hd19,trivial⟩ ?_
        cases h
        exact Tri.ret rfl ⟨.inl rfl,rfl,rfl⟩
       ·obtain ⟨⟨v34,v35,v36⟩,hk20,h⟩ := bind_some h
        refine Tri.f 2 [.g false,.r ⟨[],.tuple [.agg [.i v34,.sl 1114 0],.sl 1115 0],[(1114,.arr 3 0 0 (.ints v35)),(1115,.arr 31 0 0 (.rats v36))]⟩] [.keep [11,12] [11,1114,1115]] rfl ⟨fun _ => ((W159 a0 (v34,v35,v36) hk20).swap 1000 1114).swap 1001 1115,hd19,trivial⟩ ?_
        obtain ⟨⟨v37,v38,v39,v40⟩,hk21,h⟩ := bind_some h
        obtain ⟨⟨v41,v42,v43,v44,v45⟩,hk22,h⟩ := bind_some h
        refine Tri.f 2 [.r ⟨[],.tuple [.agg [.i v37,.i v38],.sl 1116 0,.bool v39],[(1116,.arr 3 0 0 (.ints v40))]⟩,.r ⟨[],.agg [.bool v41,.i v42,.i v43,.sl 1117 0,.sl 1118 0],[(1117,.arr 31 0 0 (.rats v44)),(1118,.arr 31 0 0 (.rats v45))]⟩] [.keep [13,15,16] [13,16,1117,1118]] rfl ⟨fun _ => ((W128 v34 v35 (v41,v42,v43,v44,v45) hk22).swap 1000 1117).swap 1001 1118,fun _ => (W153 v34 v35 v36 (v37,v38,v39,v40) hk21).swap 1000 1116,trivial⟩ ?_
        rcases bif_some h with ⟨hd23,h⟩ | ⟨hd23,h⟩
        ·refine Tri.f 1 [.g true,.g true] [.keep [2] []] rfl ⟨rfl,hd23,trivial⟩ ?_
         cases h
         exact Tri.ret rfl ⟨.inl rfl,rfl,rfl⟩
        ·rcases bif_some h with ⟨hd24,h⟩ | ⟨hd24,h⟩
         ·refine Tri.f 1 [.g false,.g true] [.keep [2] []] rfl ⟨hd24,hd23,trivial⟩ ?_
          cases h
          exact Tri.ret rfl ⟨.inl rfl,rfl,rfl⟩
         ·obtain ⟨v46,hk25,h⟩ := bind_some h
          refine Tri.f 1 [.g false,.g false,.v (.i v46)] [.keep [2] []] rfl ⟨fun _ => W56 v42 v43 v37 v38 v46 hk25,hd24,hd23,trivial⟩ ?_
          cases h
          exact Tri.ret rfl ⟨.inl rfl,rfl,rfl⟩
   ·refine Tri.f 2 [.r ⟨[],.agg [.bool v4,.i v5,.i v6,.sl 1101 0,.sl 1102 0],[(1101,.arr 31 0 0 (.rats v7)),(1102,.arr 31 0 0 (.rats v8))]⟩,.r ⟨[],.agg [.bool v9,.i v10,.i v11,.sl 1103 0,.sl 1104 0],[(1103,.arr 31 0 0 (.rats v12)),(1104,.arr 31 0 0 (.rats v13))]⟩,.v (.bool v14),.g false,.g false] [.keep [0,3,37] [3,1100]] rfl ⟨hd8,hd7,fun _ => W130 v4 v5 v6 v7 v8 v9 v10 v11 v12 v13 v14 hk6,fun _ => ((W128 v2 v3 (v9,v10,v11,v12,v13) hk5).swap 1000 1103).swap 1001 1104,fun _ => ((W80 v2 v3 (v4,v5,v6,v7,v8) hk4).swap 1000 1101).swap 1001 1102,trivial⟩ ?_
    obtain ⟨⟨v47,v48,v49,v50⟩,hk26,h⟩ := bind_some h
    refine Tri.f 2 [.g false,.r ⟨[],.tuple [.agg [.sl 1119 0,.sl 1120 0,.sl 1121 0],.bool v47],[(1119,.arr 25 0 0 (.intss v48)),(1120,.arr 3 0 0 (.ints v49)),(1121,.arr 31 0 0 (.rats v50))]⟩] [.keep [0,3,5,6] [3,5,1100,1119,1120,1121]] rfl ⟨fun _ => (((W27 v2 v3 (v47,v48,v49,v50) hk26).swap 1000 1119).swap 1001 1120).swap 1002 1121,rfl,trivial⟩ ?_
    obtain ⟨⟨v51,v52,v53,v54⟩,hk27,h⟩ := bind_some h
    obtain ⟨⟨v55,v56,v57,v58,v59,v60,v61⟩,hk28,h⟩ := bind_some h
    refine Tri.f 2 [.r ⟨[],.tuple [.agg [.sl 1122 0,.sl 1123 0,.sl 1124 0],.bool v51],[(1122,.arr 25 0 0 (.intss v52)),(1123,.arr 3 0 0 (.ints v53)),(1124,.arr 31 0 0 (.rats v54))]⟩,.r ⟨[],.tuple [.agg [.i v55,.sl 1125 0],.agg [.bool v56,.i v57,.i v58,.sl 1126 0,.sl 1127 0]],[(1125,.arr 3 0 0 (.ints v59)),(1126,.arr 31 0 0 (.rats v60)),(1127,.arr 31 0 0 (.rats v61))]⟩] [.keep [0,5,6,7,8,9,10] [5,7,9,10,1119,1120,1121,1122,1123,1124,1125,1126,1127]] rfl ⟨fun _ => (((W142 a0 (v55,v56,v57,v58,v59,v60,v61) hk28).swap 1000 1125).swap 1001 1126).swap 1002 1127,fun _ => (((W84 v2 v3 (v51,v52,v53,v54) hk27).swap 1000 1122).swap 1001 1123).swap 1002 1124,trivial⟩ ?_
    rcases bif_some h with ⟨hd29,h⟩ | ⟨hd29,h⟩
    ·refine Tri.f 1 [.g true,.g true] [.keep [0,70] []] rfl ⟨rfl,hd29,trivial⟩ ?_
     refine Tri.f 2 [.g true] [.keep [2] []] rfl ⟨rfl,trivial⟩ ?_
     cases h
     exact Tri.ret rfl ⟨.inl rfl,rfl,rfl⟩
    ·obtain ⟨v62,hk30,h⟩ := bind_some h
     rcases bif_some h with ⟨hd31,h⟩ | ⟨hd31,h⟩
     ·refine Tri.f 1 [.g false,.v (.bool v62),.g true] [.keep [0,70] []] rfl ⟨hd31,fun _ => W146 v48 v49 v50 v52 v53 v54 v62 hk30,hd29,trivial⟩ ?_
      refine Tri.f 2 [.g true] [.keep [2] []] rfl ⟨rfl,trivial⟩ ?_
      cases h
      exact Tri.ret rfl ⟨.inl rfl,rfl,rfl⟩
     ·obtain ⟨v63,hk32,h⟩ := bind_some h
      obtain ⟨v64,hk33,h⟩ := bind_some h
      refine Tri.f 1 [.g false,.v (.bool v62),.g false,.v (.bool v63),.v (.bool v64)] [.keep [0,70] []] rfl ⟨fun _ => W154 v55 v59 v56 v57 v58 v60 v61 v64 hk33,fun _ => W138 v55 v59 v56 v57 v58 v60 v61 v63 hk32,hd31,fun _ => W146 v48 v49 v50 v52 v53 v54 v62 hk30,hd29,trivial⟩ ?_
      rcases bif_some h with ⟨hd34,h⟩ | ⟨hd34,h⟩
      ·refine Tri.f 2 [.g true] [.keep [2] []] rfl ⟨hd34,trivial⟩ ?_
       cases h
       exact Tri.ret rfl ⟨.inl rfl,rfl,rfl⟩
      ·obtain ⟨⟨v65,v66,v67⟩,hk35,h⟩ := bind_some h
       refine Tri.f 2 [.g false,.r ⟨[],.tuple [.agg [.i v65,.sl 1128 0],.sl 1129 0],[(1128,.arr 3 0 0 (.ints v66)),(1129,.arr 31 0 0 (.rats v67))]⟩] [.keep [11,12] [11,1128,1129]] rfl ⟨fun _ => ((W159 a0 (v65,v66,v67) hk35).swap 1000 1128).swap 1001 1129,hd34,trivial⟩ ?_
       obtain ⟨⟨v68,v69,v70,v71⟩,hk36,h⟩ := bind_some h
       obtain ⟨⟨v72,v73,v74,v75,v76⟩,hk37,h⟩ := bind_some h
       refine Tri.f 2 [.r ⟨[],.tuple [.agg [.i v68,.i v69],.sl 1130 0,.bool v70],[(1130,.arr 3 0 0 (.ints v71))]⟩,.r ⟨[],.agg [.bool v72,.i v73,.i v74,.sl 1131 0,.sl 1132 0],[(1131,.arr 31 0 0 (.rats v75)),(1132,.arr 31 0 0 (.rats v76))]⟩] [.keep [13,15,16] [13,16,1131,1132]] rfl ⟨fun _ => ((W128 v65 v66 (v72,v73,v74,v75,v76) hk37).swap 1000 1131).swap 1001 1132,fun _ => (W153 v65 v66 v67 (v68,v69,v70,v71) hk36).swap 1000 1130,trivial⟩ ?_
       rcases bif_some h with ⟨hd38,h⟩ | ⟨hd38,h⟩
       ·refine Tri.f 1 [.g true,.g true] [.keep [2] []] rfl ⟨rfl,hd38,trivial⟩ ?_
        cases h
        exact Tri.ret rfl ⟨.inl rfl,rfl,rfl⟩
       ·rcases bif_some h with ⟨hd39,h⟩ | ⟨hd39,h⟩
        ·refine Tri.f 1 [.g false,.g true] [.keep [2] []] rfl ⟨hd39,hd38,trivial⟩ ?_
         cases h
         exact Tri.ret rfl ⟨.inl rfl,rfl,rfl⟩
        ·obtain ⟨v77,hk40,h⟩ := bind_some h
         refine Tri.f 1 [.g false,.g false,.v (.i v77)] [.keep [2] []] rfl ⟨fun _ => W56 v73 v74 v68 v69 v77 hk40,hd39,hd38,trivial⟩ ?_
         cases h
         exact Tri.ret rfl ⟨.inl rfl,rfl,rfl⟩
end Go.Proofs.YtjnbmknniadbpaaGreat
