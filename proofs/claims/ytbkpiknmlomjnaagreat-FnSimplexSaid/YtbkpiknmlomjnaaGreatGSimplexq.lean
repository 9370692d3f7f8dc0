/- models and walks -/
import Derived.Test.YtbkpiknmlomjnaaGreatGSimplexp
namespace Go.Proofs.YtbkpiknmlomjnaaGreat
open Go.AM
set_option maxRecDepth 100000
set_option maxHeartbeats 4000000
noncomputable def E348 : Env := ⟨Tryz.prog,tys,(Tryz.f3.body).getD .skip,81,tysOk,mixedOk⟩
abbrev K236 (r : Bool) (σ' : ASt) : Prop := isRes E348.T Tryz.f3 (.bool r) [] σ'
noncomputable def m_laws_FnSimplex (a0 : List UInt8) : Option Bool :=
(m_laws_big a0).bind fun v1 =>
bif v1 then
(some true)
else
((m_spec_DrawSolveLP a0).bind fun (v2,v3,v4) =>
(m_impl_SolveLP v2 v3 v4).bind fun (v5,v6,v7,v8,v9,v10,v11) =>
(m_spec_SolveLP v2 v3 v4).bind fun (v12,v13,v14,v15,v16,v17,v18) =>
(m_impl_EqualResult v5 v9 v10 v11 v6 v7 v8 v12 v16 v17 v18 v13 v14 v15).bind fun v19 =>
bif !v19 then
(some false)
else
((m_impl_IsValidLP v2 v3 v4).bind fun v20 =>
bif (v5 == 0) == v20 then
(some false)
else
(bif decide (v8 > 1000) then
(some false)
else
((m_spec_DrawEnteringColumn a0).bind fun (v21,v22,v23,v24,v25) =>
(m_spec_DrawLeavingRow a0).bind fun (v26,v27,v28,v29) =>
(m_impl_EnteringColumn v21 v22 v23 v24 v25).bind fun v30 =>
(m_spec_EnteringColumn v21 v22 v23 v24 v25).bind fun v31 =>
bif v30 != v31 then
(some false)
else
((m_impl_LeavingRow v26 v27 v28 v29).bind fun v32 =>
(m_spec_LeavingRow v26 v27 v28 v29).bind fun v33 =>
bif v32 != v33 then
(some false)
else
(bif v5 == 0 then
(some true)
else
(bif v5 == 4 then
(some true)
else
((m_impl_CheckLP v2 v3 v4 v5 v9 v10 v11 v6 v7 v8).bind fun v34 =>
bif v34 then
((m_spec_CheckLP v2 v3 v4 v5 v9 v10 v11 v6 v7 v8).bind fun v35 =>
some v35)
else
(some false)))))))))
theorem w_laws_FnSimplex (a0 : List UInt8) (r : Bool) (h : m_laws_FnSimplex a0 = some r) : AM.Spec Tryz.prog 3 [.list (.bytes a0)] [] (.bool r) [] := by
 refine spec_of (E := E348) Tryz.func3 rfl rfl rfl rfl ?_
 refine Tri.f 1 [] [.keep [0] []] rfl trivial ?_
 obtain ⟨v1,hk1,h⟩ := bind_some h
 refine Tri.f 1 [.v (.bool v1)] [.keep [0,11] []] rfl ⟨fun _ => W0 a0 v1 hk1,trivial⟩ ?_
 rcases bif_some h with ⟨hd2,h⟩ | ⟨hd2,h⟩
 ·refine Tri.f 2 [.g true] [.keep [2] []] rfl ⟨hd2,trivial⟩ ?_
  cases h
  exact Tri.ret rfl ⟨.inl rfl,rfl,rfl⟩
 ·obtain ⟨⟨v2,v3,v4⟩,hk3,h⟩ := bind_some h
  refine Tri.f 2 [.g false,.r ⟨[],.agg [.sl 1100 0,.sl 1101 0,.sl 1102 0],[(1100,.arr 25 0 0 (.intss v2)),(1101,.arr 3 0 0 (.ints v3)),(1102,.arr 31 0 0 (.rats v4))]⟩] [.keep [0,3] [3,1100,1101,1102]] rfl ⟨fun _ => (((W15 a0 (v2,v3,v4) hk3).swap 1000 1100).swap 1001 1101).swap 1002 1102,hd2,trivial⟩ ?_
  obtain ⟨⟨v5,v6,v7,v8,v9,v10,v11⟩,hk4,h⟩ := bind_some h
  obtain ⟨⟨v12,v13,v14,v15,v16,v17,v18⟩,hk5,h⟩ := bind_some h
  obtain ⟨v19,hk6,h⟩ := bind_some h
  rcases bif_some h with ⟨hd7,h⟩ | ⟨hd7,h⟩
  ·refine Tri.f 2 [.r ⟨[],.agg [.i v5,.sl 1103 0,.sl 1104 0,.sl 1105 0,.i v6,.i v7,.i v8],[(1103,.arr 31 0 0 (.rats v9)),(1104,.arr 31 0 0 (.rats v10)),(1105,.arr 31 0 0 (.rats v11))]⟩,.r ⟨[],.agg [.i v12,.sl 1106 0,.sl 1107 0,.sl 1108 0,.i v13,.i v14,.i v15],[(1106,.arr 31 0 0 (.rats v16)),(1107,.arr 31 0 0 (.rats v17)),(1108,.arr 31 0 0 (.rats v18))]⟩,.v (.bool v19),.g true,.g true] [.keep [0,3,4,33] [3,4,1100,1101,1102,1103,1104,1105]] rfl ⟨rfl,hd7,fun _ => W110 v5 v9 v10 v11 v6 v7 v8 v12 v16 v17 v18 v13 v14 v15 v19 hk6,fun _ => (((W108 v2 v3 v4 (v12,v13,v14,v15,v16,v17,v18) hk5).swap 1000 1106).swap 1001 1107).swap 1002 1108,fun _ => (((W68 v2 v3 v4 (v5,v6,v7,v8,v9,v10,v11) hk4).swap 1000 1103).swap 1001 1104).swap 1002 1105,trivial⟩ ?_
   refine Tri.f 2 [.g true] [.keep [2] []] rfl ⟨rfl,trivial⟩ ?_
   cases h
   exact Tri.ret rfl ⟨.inl rfl,rfl,rfl⟩
  ·obtain ⟨v20,hk8,h⟩ := bind_some h
   rcases bif_some h with ⟨hd9,h⟩ | ⟨hd9,h⟩
   ·refine Tri.f 2 [.r ⟨[],.agg [.i v5,.sl 1103 0,.sl 1104 0,.sl 1105 0,.i v6,.i v7,.i v8],[(1103,.arr 31 0 0 (.rats v9)),(1104,.arr 31 0 0 (.rats v10)),(1105,.arr 31 0 0 (.rats v11))]⟩,.r ⟨[],.agg [.i v12,.sl 1106 0,.sl 1107 0,.sl 1108 0,.i v13,.i v14,.i v15],[(1106,.arr 31 0 0 (.rats v16)),(1107,.arr 31 0 0 (.rats v17)),(1108,.arr 31 0 0 (.rats v18))]⟩,.v (.bool v19),.g false,.v (.bool v20),.g true] [.keep [0,3,4,33] [3,4,1100,1101,1102,1103,1104,1105]] rfl ⟨hd9,fun _ => W26 v2 v3 v4 v20 hk8,hd7,fun _ => W110 v5 v9 v10 v11 v6 v7 v8 v12 v16 v17 v18 v13 v14 v15 v19 hk6,fun _ => (((W108 v2 v3 v4 (v12,v13,v14,v15,v16,v17,v18) hk5).swap 1000 1106).swap 1001 1107).swap 1002 1108,fun _ => (((W68 v2 v3 v4 (v5,v6,v7,v8,v9,v10,v11) hk4).swap 1000 1103).swap 1001 1104).swap 1002 1105,trivial⟩ ?_
    refine Tri.f 2 [.g true] [.keep [2] []] rfl ⟨rfl,trivial⟩ ?_
    cases h
    exact Tri.ret rfl ⟨.inl rfl,rfl,rfl⟩
   ·refine Tri.f 2 [.r ⟨[],.agg [.i v5,.sl 1103 0,.sl 1104 0,.sl 1105 0,.i v6,.i v7,.i v8],[(1103,.arr 31 0 0 (.rats v9)),(1104,.arr 31 0 0 (.rats v10)),(1105,.arr 31 0 0 (.rats v11))]⟩,.r ⟨[],.agg [.i v12,.sl 1106 0,.sl 1107 0,.sl 1108 0,.i v13,.i v14,.i v15],[(1106,.arr 31 0 0 (.rats v16)),(1107,.arr 31 0 0 (.rats v17)),(1108,.arr 31 0 0 (.rats v18))]⟩,.v (.bool v19),.g false,.v (.bool v20),.g false] [.keep [0,3,4,33] [3,4,1100,1101,1102,1103,1104,1105]] rfl ⟨hd9,fun _ => W26 v2 v3 v4 v20 hk8,hd7,fun _ => W110 v5 v9 v10 v11 v6 v7 v8 v12 v16 v17 v18 v13 v14 v15 v19 hk6,fun _ => (((W108 v2 v3 v4 (v12,v13,v14,v15,v16,v17,v18) hk5).swap 1000 1106).swap 1001 1107).swap 1002 1108,fun _ => (((W68 v2 v3 v4 (v5,v6,v7,v8,v9,v10,v11) hk4).swap 1000 1103).swap 1001 1104).swap 1002 1105,trivial⟩ ?_
    rcases bif_some h with ⟨hd10,h⟩ | ⟨hd10,h⟩
    ·refine Tri.f 2 [.g true] [.keep [2] []] rfl ⟨hd10,trivial⟩ ?_
     cases h
     exact Tri.ret rfl ⟨.inl rfl,rfl,rfl⟩
    ·refine Tri.f 1 [.g false] [.keep [0,3,4] [3,4,1100,1101,1102,1103,1104,1105],.give [],.keep [0,3,4] []] rfl ⟨hd10,trivial⟩ ?_
     obtain ⟨⟨v21,v22,v23,v24,v25⟩,hk11,h⟩ := bind_some h
     refine Tri.f 1 [.v (.tuple [.agg [.list (.ratss v21),.list (.ints v22),.i v23],.list (.rats v24),.i v25])] [.keep [0,3,4,5,6,7] [5],.give [],.keep [0,3,4,5,6,7] []] rfl ⟨fun _ => W116 a0 (v21,v22,v23,v24,v25) hk11,trivial⟩ ?_
     obtain ⟨⟨v26,v27,v28,v29⟩,hk12,h⟩ := bind_some h
     obtain ⟨v30,hk13,h⟩ := bind_some h
     obtain ⟨v31,hk14,h⟩ := bind_some h
     rcases bif_some h with ⟨hd15,h⟩ | ⟨hd15,h⟩
     ·refine Tri.f 2 [.v (.tuple [.agg [.list (.ratss v26),.list (.ints v27),.i v28],.i v29]),.v (.i v30),.v (.i v31),.g true] [.keep [3,4,62] []] rfl ⟨hd15,fun _ => W82 v21 v22 v23 v24 v25 v31 hk14,fun _ => W48 v21 v22 v23 v24 v25 v30 hk13,fun _ => W117 a0 (v26,v27,v28,v29) hk12,trivial⟩ ?_
      refine Tri.f 2 [.g true] [.keep [2] []] rfl ⟨rfl,trivial⟩ ?_
      cases h
      exact Tri.ret rfl ⟨.inl rfl,rfl,rfl⟩
     ·obtain ⟨v32,hk16,h⟩ := bind_some h
      obtain ⟨v33,hk17,h⟩ := bind_some h
      refine Tri.f 2 [.v (.tuple [.agg [.list (.ratss v26),.list (.ints v27),.i v28],.i v29]),.v (.i v30),.v (.i v31),.g false,.v (.i v32),.v (.i v33)] [.keep [3,4,62] []] rfl ⟨fun _ => W84 v26 v27 v28 v29 v33 hk17,fun _ => W50 v26 v27 v28 v29 v32 hk16,hd15,fun _ => W82 v21 v22 v23 v24 v25 v31 hk14,fun _ => W48 v21 v22 v23 v24 v25 v30 hk13,fun _ => W117 a0 (v26,v27,v28,v29) hk12,trivial⟩ ?_
      rcases bif_some h with ⟨hd18,h⟩ | ⟨hd18,h⟩
      ·refine Tri.f 2 [.g true] [.keep [2] []] rfl ⟨hd18,trivial⟩ ?_
       cases h
       exact Tri.ret rfl ⟨.inl rfl,rfl,rfl⟩
      ·rcases bif_some h with ⟨hd19,h⟩ | ⟨hd19,h⟩
       ·refine Tri.f 2 [.g false,.g true,.g true] [.keep [2] []] rfl ⟨rfl,hd19,hd18,trivial⟩ ?_
        cases h
        exact Tri.ret rfl ⟨.inl rfl,rfl,rfl⟩
       ·rcases bif_some h with ⟨hd20,h⟩ | ⟨hd20,h⟩
        ·refine Tri.f 2 [.g false,.g false,.g true] [.keep [2] []] rfl ⟨hd20,hd19,hd18,trivial⟩ ?_
         cases h
         exact Tri.ret rfl ⟨.inl rfl,rfl,rfl⟩
        ·obtain ⟨v34,hk21,h⟩ := bind_some h
         rcases bif_some h with ⟨hd22,h⟩ | ⟨hd22,h⟩
         ·obtain ⟨v35,hk23,h⟩ := bind_some h
          refine Tri.f 2 [.g false,.g false,.g false,.v (.bool v34),.g true,.v (.bool v35)] [.keep [2] []] rfl ⟨fun _ => W107 v2 v3 v4 v5 v9 v10 v11 v6 v7 v8 v35 hk23,hd22,fun _ => W67 v2 v3 v4 v5 v9 v10 v11 v6 v7 v8 v34 hk21,hd20,hd19,hd18,trivial⟩ ?_
          cases h
          exact Tri.ret rfl ⟨.inl rfl,rfl,rfl⟩
         ·refine Tri.f 2 [.g false,.g false,.g false,.v (.bool v34),.g false] [.keep [2] []] rfl ⟨hd22,fun _ => W67 v2 v3 v4 v5 v9 v10 v11 v6 v7 v8 v34 hk21,hd20,hd19,hd18,trivial⟩ ?_
          cases h
          exact Tri.ret rfl ⟨.inl rfl,rfl,rfl⟩
end Go.Proofs.YtbkpiknmlomjnaaGreat
