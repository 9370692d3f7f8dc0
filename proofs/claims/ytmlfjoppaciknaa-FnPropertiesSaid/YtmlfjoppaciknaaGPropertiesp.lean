/- models and walks -/
import Derived.Test.YtmlfjoppaciknaaGProperties
namespace Go.Proofs.Ytmlfjoppaciknaa
open Go.AM
set_option maxRecDepth 100000
set_option maxHeartbeats 4000000
/-! laws.FnProperties -/
noncomputable def E3_laws_FnProperties : Env := ⟨Try.prog, tys, (Try.f3.body).getD .skip, 163, tysOk, mixedOk⟩
abbrev q_laws_FnProperties (r : Bool) (σ' : ASt) : Prop := resAV E3_laws_FnProperties.T σ' Try.f3.results.toList = some (.bool r) ∧ keepO σ'.ob (namesO []) = []
noncomputable def m_laws_FnProperties (a0 : List UInt8) : Option Bool :=
(m_laws_big a0).bind fun v1 =>
bif v1 then
(some true)
else
((m_spec_DrawConvexFault a0).bind fun (v2, v3) =>
(m_impl_ConvexFault v2 v3).bind fun (v4, v5, v6) =>
(m_spec_ConvexFault v2 v3).bind fun (v7, v8, v9) =>
bif v4 != v7 then
(some false)
else
(bif v5 != v8 then
(some false)
else
(bif v6 != v9 then
(some false)
else
((m_impl_IsConvex v2 v3).bind fun v10 =>
bif v10 then
((m_impl_IsSuperadditive v2 v3).bind fun v11 =>
bif !v11 then
(some false)
else
(bif v6 then
((m_impl_ValueOf v2 v3 v4).bind fun v12 =>
(m_impl_ValueOf v2 v3 v5).bind fun v13 =>
(m_impl_Union v4 v5).bind fun v14 =>
(m_impl_ValueOf v2 v3 v14).bind fun v15 =>
(m_impl_Overlap v4 v5).bind fun v16 =>
(m_impl_ValueOf v2 v3 v16).bind fun v17 =>
bif decide ((IntKind.i64.wrap (v12 + v13)) ≤ (IntKind.i64.wrap (v15 + v17))) then
(some false)
else
((m_impl_MonotoneFault v2 v3).bind fun (v18, v19, v20) =>
(m_spec_MonotoneFault v2 v3).bind fun (v21, v22, v23) =>
bif v18 != v21 then
(some false)
else
(bif v19 != v22 then
(some false)
else
(bif v20 != v23 then
(some false)
else
(bif v20 then
((m_impl_IsSubset v18 v19).bind fun v24 =>
bif !v24 then
(some false)
else
((m_impl_SuperadditiveFault v2 v3).bind fun (v25, v26, v27) =>
(m_spec_SuperadditiveFault v2 v3).bind fun (v28, v29, v30) =>
bif v25 == v28 then
(bif v26 == v29 then
(bif v27 == v30 then
((m_impl_IsMonotone v2 v3).bind fun v31 =>
(m_spec_IsValidGame v2 v3).bind fun v32 =>
bif v32 then
(bif v31 == (!v20) then
((m_impl_IsSuperadditive v2 v3).bind fun v33 =>
(m_spec_IsValidGame v2 v3).bind fun v34 =>
bif v34 then
(some (v33 == (!v27)))
else
(some (v33 == false)))
else
(some false))
else
(bif v31 == false then
((m_impl_IsSuperadditive v2 v3).bind fun v35 =>
(m_spec_IsValidGame v2 v3).bind fun v36 =>
bif v36 then
(some (v35 == (!v27)))
else
(some (v35 == false)))
else
(some false)))
else
(some false))
else
(some false))
else
(some false)))
else
((m_impl_SuperadditiveFault v2 v3).bind fun (v37, v38, v39) =>
(m_spec_SuperadditiveFault v2 v3).bind fun (v40, v41, v42) =>
bif v37 == v40 then
(bif v38 == v41 then
(bif v39 == v42 then
((m_impl_IsMonotone v2 v3).bind fun v43 =>
(m_spec_IsValidGame v2 v3).bind fun v44 =>
bif v44 then
(bif v43 == (!v20) then
((m_impl_IsSuperadditive v2 v3).bind fun v45 =>
(m_spec_IsValidGame v2 v3).bind fun v46 =>
bif v46 then
(some (v45 == (!v39)))
else
(some (v45 == false)))
else
(some false))
else
(bif v43 == false then
((m_impl_IsSuperadditive v2 v3).bind fun v47 =>
(m_spec_IsValidGame v2 v3).bind fun v48 =>
bif v48 then
(some (v47 == (!v39)))
else
(some (v47 == false)))
else
(some false)))
else
(some false))
else
(some false))
else
(some false)))))))
else
((m_impl_MonotoneFault v2 v3).bind fun (v49, v50, v51) =>
(m_spec_MonotoneFault v2 v3).bind fun (v52, v53, v54) =>
bif v49 != v52 then
(some false)
else
(bif v50 != v53 then
(some false)
else
(bif v51 != v54 then
(some false)
else
(bif v51 then
((m_impl_IsSubset v49 v50).bind fun v55 =>
bif !v55 then
(some false)
else
((m_impl_SuperadditiveFault v2 v3).bind fun (v56, v57, v58) =>
(m_spec_SuperadditiveFault v2 v3).bind fun (v59, v60, v61) =>
bif v56 == v59 then
(bif v57 == v60 then
(bif v58 == v61 then
((m_impl_IsMonotone v2 v3).bind fun v62 =>
(m_spec_IsValidGame v2 v3).bind fun v63 =>
bif v63 then
(bif v62 == (!v51) then
((m_impl_IsSuperadditive v2 v3).bind fun v64 =>
(m_spec_IsValidGame v2 v3).bind fun v65 =>
bif v65 then
(some (v64 == (!v58)))
else
(some (v64 == false)))
else
(some false))
else
(bif v62 == false then
((m_impl_IsSuperadditive v2 v3).bind fun v66 =>
(m_spec_IsValidGame v2 v3).bind fun v67 =>
bif v67 then
(some (v66 == (!v58)))
else
(some (v66 == false)))
else
(some false)))
else
(some false))
else
(some false))
else
(some false)))
else
((m_impl_SuperadditiveFault v2 v3).bind fun (v68, v69, v70) =>
(m_spec_SuperadditiveFault v2 v3).bind fun (v71, v72, v73) =>
bif v68 == v71 then
(bif v69 == v72 then
(bif v70 == v73 then
((m_impl_IsMonotone v2 v3).bind fun v74 =>
(m_spec_IsValidGame v2 v3).bind fun v75 =>
bif v75 then
(bif v74 == (!v51) then
((m_impl_IsSuperadditive v2 v3).bind fun v76 =>
(m_spec_IsValidGame v2 v3).bind fun v77 =>
bif v77 then
(some (v76 == (!v70)))
else
(some (v76 == false)))
else
(some false))
else
(bif v74 == false then
((m_impl_IsSuperadditive v2 v3).bind fun v78 =>
(m_spec_IsValidGame v2 v3).bind fun v79 =>
bif v79 then
(some (v78 == (!v70)))
else
(some (v78 == false)))
else
(some false)))
else
(some false))
else
(some false))
else
(some false))))))))
else
(bif v6 then
((m_impl_ValueOf v2 v3 v4).bind fun v80 =>
(m_impl_ValueOf v2 v3 v5).bind fun v81 =>
(m_impl_Union v4 v5).bind fun v82 =>
(m_impl_ValueOf v2 v3 v82).bind fun v83 =>
(m_impl_Overlap v4 v5).bind fun v84 =>
(m_impl_ValueOf v2 v3 v84).bind fun v85 =>
bif decide ((IntKind.i64.wrap (v80 + v81)) ≤ (IntKind.i64.wrap (v83 + v85))) then
(some false)
else
((m_impl_MonotoneFault v2 v3).bind fun (v86, v87, v88) =>
(m_spec_MonotoneFault v2 v3).bind fun (v89, v90, v91) =>
bif v86 != v89 then
(some false)
else
(bif v87 != v90 then
(some false)
else
(bif v88 != v91 then
(some false)
else
(bif v88 then
((m_impl_IsSubset v86 v87).bind fun v92 =>
bif !v92 then
(some false)
else
((m_impl_SuperadditiveFault v2 v3).bind fun (v93, v94, v95) =>
(m_spec_SuperadditiveFault v2 v3).bind fun (v96, v97, v98) =>
bif v93 == v96 then
(bif v94 == v97 then
(bif v95 == v98 then
((m_impl_IsMonotone v2 v3).bind fun v99 =>
(m_spec_IsValidGame v2 v3).bind fun v100 =>
bif v100 then
(bif v99 == (!v88) then
((m_impl_IsSuperadditive v2 v3).bind fun v101 =>
(m_spec_IsValidGame v2 v3).bind fun v102 =>
bif v102 then
(some (v101 == (!v95)))
else
(some (v101 == false)))
else
(some false))
else
(bif v99 == false then
((m_impl_IsSuperadditive v2 v3).bind fun v103 =>
(m_spec_IsValidGame v2 v3).bind fun v104 =>
bif v104 then
(some (v103 == (!v95)))
else
(some (v103 == false)))
else
(some false)))
else
(some false))
else
(some false))
else
(some false)))
else
((m_impl_SuperadditiveFault v2 v3).bind fun (v105, v106, v107) =>
(m_spec_SuperadditiveFault v2 v3).bind fun (v108, v109, v110) =>
bif v105 == v108 then
(bif v106 == v109 then
(bif v107 == v110 then
((m_impl_IsMonotone v2 v3).bind fun v111 =>
(m_spec_IsValidGame v2 v3).bind fun v112 =>
bif v112 then
(bif v111 == (!v88) then
((m_impl_IsSuperadditive v2 v3).bind fun v113 =>
(m_spec_IsValidGame v2 v3).bind fun v114 =>
bif v114 then
(some (v113 == (!v107)))
else
(some (v113 == false)))
else
(some false))
else
(bif v111 == false then
((m_impl_IsSuperadditive v2 v3).bind fun v115 =>
(m_spec_IsValidGame v2 v3).bind fun v116 =>
bif v116 then
(some (v115 == (!v107)))
else
(some (v115 == false)))
else
(some false)))
else
(some false))
else
(some false))
else
(some false)))))))
else
((m_impl_MonotoneFault v2 v3).bind fun (v117, v118, v119) =>
(m_spec_MonotoneFault v2 v3).bind fun (v120, v121, v122) =>
bif v117 != v120 then
(some false)
else
(bif v118 != v121 then
(some false)
else
(bif v119 != v122 then
(some false)
else
(bif v119 then
((m_impl_IsSubset v117 v118).bind fun v123 =>
bif !v123 then
(some false)
else
((m_impl_SuperadditiveFault v2 v3).bind fun (v124, v125, v126) =>
(m_spec_SuperadditiveFault v2 v3).bind fun (v127, v128, v129) =>
bif v124 == v127 then
(bif v125 == v128 then
(bif v126 == v129 then
((m_impl_IsMonotone v2 v3).bind fun v130 =>
(m_spec_IsValidGame v2 v3).bind fun v131 =>
bif v131 then
(bif v130 == (!v119) then
((m_impl_IsSuperadditive v2 v3).bind fun v132 =>
(m_spec_IsValidGame v2 v3).bind fun v133 =>
bif v133 then
(some (v132 == (!v126)))
else
(some (v132 == false)))
else
(some false))
else
(bif v130 == false then
((m_impl_IsSuperadditive v2 v3).bind fun v134 =>
(m_spec_IsValidGame v2 v3).bind fun v135 =>
bif v135 then
(some (v134 == (!v126)))
else
(some (v134 == false)))
else
(some false)))
else
(some false))
else
(some false))
else
(some false)))
else
((m_impl_SuperadditiveFault v2 v3).bind fun (v136, v137, v138) =>
(m_spec_SuperadditiveFault v2 v3).bind fun (v139, v140, v141) =>
bif v136 == v139 then
(bif v137 == v140 then
(bif v138 == v141 then
((m_impl_IsMonotone v2 v3).bind fun v142 =>
(m_spec_IsValidGame v2 v3).bind fun v143 =>
bif v143 then
(bif v142 == (!v119) then
((m_impl_IsSuperadditive v2 v3).bind fun v144 =>
(m_spec_IsValidGame v2 v3).bind fun v145 =>
bif v145 then
(some (v144 == (!v138)))
else
(some (v144 == false)))
else
(some false))
else
(bif v142 == false then
((m_impl_IsSuperadditive v2 v3).bind fun v146 =>
(m_spec_IsValidGame v2 v3).bind fun v147 =>
bif v147 then
(some (v146 == (!v138)))
else
(some (v146 == false)))
else
(some false)))
else
(some false))
else
(some false))
else
(some false)))))))))))
theorem w_laws_FnProperties (a0 : List UInt8) (r : Bool) (h : m_laws_FnProperties a0 = some r) : AM.Spec Try.prog 3 [.list (.bytes a0)] [] (.bool r) [] := by
  refine spec_of (E := E3_laws_FnProperties) Try.func3 rfl rfl rfl rfl ?_
  refine Tri.run 1 [] [.keep [0] []] (K' := [.code [(1, 0), (0, 0)] 0, .code [(1, 0)] 1, .code [] 2]) (σ' := ⟨[(0, .list (.bytes a0))], []⟩) rfl trivial rfl ?_
  obtain ⟨v1, hk1, h⟩ := bind_some h
  refine Tri.run 1 [.r ⟨[], .bool v1, []⟩] [.keep [0, 23] []] (K' := [.code [(1, 0)] 1, .code [] 2]) (σ' := ⟨[(0, .list (.bytes a0)), (23, .bool v1)], []⟩) rfl ⟨(fun _ => (w_laws_big a0 v1 hk1)), trivial⟩ rfl ?_
  rcases bif_some h with ⟨hd2, h⟩ | ⟨hd2, h⟩
  · refine Tri.run 2 [.g true] [.keep [2] []] (K' := [.code [(1, 0), (1, 0)] 1, .code [] 2]) (σ' := ⟨[(2, .bool true)], []⟩) rfl ⟨hd2, trivial⟩ rfl ?_
    have h := Option.some.inj h
    subst h
    exact Tri.ret rfl ⟨.inl rfl, rfl, rfl⟩
  · obtain ⟨⟨v2, v3⟩, hk3, h⟩ := bind_some h
    refine Tri.run 2 [.g false, .r ⟨[], .agg [.int .i64 v2, .sl 1100 0], [(1100, .arr 3 0 0 (.ints v3))]⟩] [.keep [3] [3, 1100]] (K' := [.code [(3, 0)] 0, .code [] 4]) (σ' := ⟨[(3, .ptr 3 0)], [(3, .box [.int .i64 v2, .sl 1100 0]), (1100, .arr 3 0 0 (.ints v3))]⟩) rfl ⟨(fun _ => ((w_spec_DrawConvexFault a0 (v2, v3) hk3).swap 1000 1100)), hd2, trivial⟩ rfl ?_
    obtain ⟨⟨v4, v5, v6⟩, hk4, h⟩ := bind_some h
    obtain ⟨⟨v7, v8, v9⟩, hk5, h⟩ := bind_some h
    refine Tri.run 2 [.r ⟨[], .tuple [.int .i64 v4, .int .i64 v5, .bool v6], []⟩, .r ⟨[], .tuple [.int .i64 v7, .int .i64 v8, .bool v9], []⟩] [.keep [3, 4, 5, 6, 7, 8, 9] [3, 1100]] (K' := [.code [(5, 0), (0, 0)] 0, .code [(5, 0)] 1, .code [] 6]) (σ' := ⟨[(3, .ptr 3 0), (4, .int .i64 v4), (5, .int .i64 v5), (6, .bool v6), (7, .int .i64 v7), (8, .int .i64 v8), (9, .bool v9)], [(3, .box [.int .i64 v2, .sl 1100 0]), (1100, .arr 3 0 0 (.ints v3))]⟩) rfl ⟨(fun _ => (w_spec_ConvexFault v2 v3 (v7, v8, v9) hk5)), (fun _ => (w_impl_ConvexFault v2 v3 (v4, v5, v6) hk4)), trivial⟩ rfl ?_
    rcases bif_some h with ⟨hd6, h⟩ | ⟨hd6, h⟩
    · refine Tri.run 1 [.g true, .g true, .g true] [.keep [3, 4, 5, 6, 59] [3, 1100]] (K' := [.code [(5, 0)] 1, .code [] 6]) (σ' := ⟨[(3, .ptr 3 0), (4, .int .i64 v4), (5, .int .i64 v5), (6, .bool v6), (59, .bool true)], [(3, .box [.int .i64 v2, .sl 1100 0]), (1100, .arr 3 0 0 (.ints v3))]⟩) rfl ⟨rfl, rfl, hd6, trivial⟩ rfl ?_
      refine Tri.run 2 [.g true] [.keep [2] []] (K' := [.code [(5, 0), (1, 0)] 1, .code [] 6]) (σ' := ⟨[(2, .bool false)], []⟩) rfl ⟨rfl, trivial⟩ rfl ?_
      have h := Option.some.inj h
      subst h
      exact Tri.ret rfl ⟨.inl rfl, rfl, rfl⟩
    · rcases bif_some h with ⟨hd7, h⟩ | ⟨hd7, h⟩
      · refine Tri.run 1 [.g false, .g true, .g true] [.keep [3, 4, 5, 6, 59] [3, 1100]] (K' := [.code [(5, 0)] 1, .code [] 6]) (σ' := ⟨[(3, .ptr 3 0), (4, .int .i64 v4), (5, .int .i64 v5), (6, .bool v6), (59, .bool true)], [(3, .box [.int .i64 v2, .sl 1100 0]), (1100, .arr 3 0 0 (.ints v3))]⟩) rfl ⟨rfl, hd7, hd6, trivial⟩ rfl ?_
        refine Tri.run 2 [.g true] [.keep [2] []] (K' := [.code [(5, 0), (1, 0)] 1, .code [] 6]) (σ' := ⟨[(2, .bool false)], []⟩) rfl ⟨rfl, trivial⟩ rfl ?_
        have h := Option.some.inj h
        subst h
        exact Tri.ret rfl ⟨.inl rfl, rfl, rfl⟩
      · rcases bif_some h with ⟨hd8, h⟩ | ⟨hd8, h⟩
        · refine Tri.run 1 [.g false, .g false, .g true] [.keep [3, 4, 5, 6, 59] [3, 1100]] (K' := [.code [(5, 0)] 1, .code [] 6]) (σ' := ⟨[(3, .ptr 3 0), (4, .int .i64 v4), (5, .int .i64 v5), (6, .bool v6), (59, .bool true)], [(3, .box [.int .i64 v2, .sl 1100 0]), (1100, .arr 3 0 0 (.ints v3))]⟩) rfl ⟨hd8, hd7, hd6, trivial⟩ rfl ?_
          refine Tri.run 2 [.g true] [.keep [2] []] (K' := [.code [(5, 0), (1, 0)] 1, .code [] 6]) (σ' := ⟨[(2, .bool false)], []⟩) rfl ⟨rfl, trivial⟩ rfl ?_
          have h := Option.some.inj h
          subst h
          exact Tri.ret rfl ⟨.inl rfl, rfl, rfl⟩
        · obtain ⟨v10, hk9, h⟩ := bind_some h
          rcases bif_some h with ⟨hd10, h⟩ | ⟨hd10, h⟩
          · obtain ⟨v11, hk11, h⟩ := bind_some h
            refine Tri.run 1 [.g false, .g false, .g false, .r ⟨[], .bool v10, []⟩, .g true, .r ⟨[], .bool v11, []⟩] [.keep [3, 4, 5, 6, 59] [3, 1100]] (K' := [.code [(5, 0)] 1, .code [] 6]) (σ' := ⟨[(3, .ptr 3 0), (4, .int .i64 v4), (5, .int .i64 v5), (6, .bool v6), (59, .bool (!v11))], [(3, .box [.int .i64 v2, .sl 1100 0]), (1100, .arr 3 0 0 (.ints v3))]⟩) rfl ⟨(fun _ => (w_impl_IsSuperadditive v2 v3 v11 hk11)), hd10, (fun _ => (w_impl_IsConvex v2 v3 v10 hk9)), hd8, hd7, hd6, trivial⟩ rfl ?_
            rcases bif_some h with ⟨hd12, h⟩ | ⟨hd12, h⟩
            · refine Tri.run 2 [.g true] [.keep [2] []] (K' := [.code [(5, 0), (1, 0)] 1, .code [] 6]) (σ' := ⟨[(2, .bool false)], []⟩) rfl ⟨hd12, trivial⟩ rfl ?_
              have h := Option.some.inj h
              subst h
              exact Tri.ret rfl ⟨.inl rfl, rfl, rfl⟩
            · rcases bif_some h with ⟨hd13, h⟩ | ⟨hd13, h⟩
              · obtain ⟨v12, hk14, h⟩ := bind_some h
                obtain ⟨v13, hk15, h⟩ := bind_some h
                obtain ⟨v14, hk16, h⟩ := bind_some h
                obtain ⟨v15, hk17, h⟩ := bind_some h
                obtain ⟨v16, hk18, h⟩ := bind_some h
                obtain ⟨v17, hk19, h⟩ := bind_some h
                refine Tri.run 2 [.g false, .g true, .r ⟨[], .int .i64 v12, []⟩, .r ⟨[], .int .i64 v13, []⟩, .r ⟨[], .int .i64 v14, []⟩, .r ⟨[], .int .i64 v15, []⟩, .r ⟨[], .int .i64 v16, []⟩, .r ⟨[], .int .i64 v17, []⟩] [.keep [3, 81] [3, 1100]] (K' := [.code [(6, 0)] 1, .code [] 7]) (σ' := ⟨[(3, .ptr 3 0), (81, .bool (decide ((IntKind.i64.wrap (v12 + v13)) ≤ (IntKind.i64.wrap (v15 + v17)))))], [(3, .box [.int .i64 v2, .sl 1100 0]), (1100, .arr 3 0 0 (.ints v3))]⟩) rfl ⟨(fun _ => (w_impl_ValueOf v2 v3 v16 v17 hk19)), (fun _ => (w_impl_Overlap v4 v5 v16 hk18)), (fun _ => (w_impl_ValueOf v2 v3 v14 v15 hk17)), (fun _ => (w_impl_Union v4 v5 v14 hk16)), (fun _ => (w_impl_ValueOf v2 v3 v5 v13 hk15)), (fun _ => (w_impl_ValueOf v2 v3 v4 v12 hk14)), hd13, hd12, trivial⟩ rfl ?_
                rcases bif_some h with ⟨hd20, h⟩ | ⟨hd20, h⟩
                · refine Tri.run 2 [.g true] [.keep [2] []] (K' := [.code [(6, 0), (1, 0)] 1, .code [] 7]) (σ' := ⟨[(2, .bool false)], []⟩) rfl ⟨hd20, trivial⟩ rfl ?_
                  have h := Option.some.inj h
                  subst h
                  exact Tri.ret rfl ⟨.inl rfl, rfl, rfl⟩
                · obtain ⟨⟨v18, v19, v20⟩, hk21, h⟩ := bind_some h
                  refine Tri.run 2 [.g false, .r ⟨[], .tuple [.int .i64 v18, .int .i64 v19, .bool v20], []⟩] [.keep [3, 10, 11, 12] [3, 1100]] (K' := [.code [(8, 0)] 0, .code [] 9]) (σ' := ⟨[(3, .ptr 3 0), (10, .int .i64 v18), (11, .int .i64 v19), (12, .bool v20)], [(3, .box [.int .i64 v2, .sl 1100 0]), (1100, .arr 3 0 0 (.ints v3))]⟩) rfl ⟨(fun _ => (w_impl_MonotoneFault v2 v3 (v18, v19, v20) hk21)), hd20, trivial⟩ rfl ?_
                  obtain ⟨⟨v21, v22, v23⟩, hk22, h⟩ := bind_some h
                  rcases bif_some h with ⟨hd23, h⟩ | ⟨hd23, h⟩
                  · refine Tri.run 2 [.r ⟨[], .tuple [.int .i64 v21, .int .i64 v22, .bool v23], []⟩, .g true, .g true, .g true] [.keep [3, 12, 115] [3, 1100]] (K' := [.code [(9, 0)] 1, .code [] 10]) (σ' := ⟨[(3, .ptr 3 0), (12, .bool v20), (115, .bool true)], [(3, .box [.int .i64 v2, .sl 1100 0]), (1100, .arr 3 0 0 (.ints v3))]⟩) rfl ⟨rfl, rfl, hd23, (fun _ => (w_spec_MonotoneFault v2 v3 (v21, v22, v23) hk22)), trivial⟩ rfl ?_
                    refine Tri.run 2 [.g true] [.keep [2] []] (K' := [.code [(9, 0), (1, 0)] 1, .code [] 10]) (σ' := ⟨[(2, .bool false)], []⟩) rfl ⟨rfl, trivial⟩ rfl ?_
                    have h := Option.some.inj h
                    subst h
                    exact Tri.ret rfl ⟨.inl rfl, rfl, rfl⟩
                  · rcases bif_some h with ⟨hd24, h⟩ | ⟨hd24, h⟩
                    · refine Tri.run 2 [.r ⟨[], .tuple [.int .i64 v21, .int .i64 v22, .bool v23], []⟩, .g false, .g true, .g true] [.keep [3, 12, 115] [3, 1100]] (K' := [.code [(9, 0)] 1, .code [] 10]) (σ' := ⟨[(3, .ptr 3 0), (12, .bool v20), (115, .bool true)], [(3, .box [.int .i64 v2, .sl 1100 0]), (1100, .arr 3 0 0 (.ints v3))]⟩) rfl ⟨rfl, hd24, hd23, (fun _ => (w_spec_MonotoneFault v2 v3 (v21, v22, v23) hk22)), trivial⟩ rfl ?_
                      refine Tri.run 2 [.g true] [.keep [2] []] (K' := [.code [(9, 0), (1, 0)] 1, .code [] 10]) (σ' := ⟨[(2, .bool false)], []⟩) rfl ⟨rfl, trivial⟩ rfl ?_
                      have h := Option.some.inj h
                      subst h
                      exact Tri.ret rfl ⟨.inl rfl, rfl, rfl⟩
                    · rcases bif_some h with ⟨hd25, h⟩ | ⟨hd25, h⟩
                      · refine Tri.run 2 [.r ⟨[], .tuple [.int .i64 v21, .int .i64 v22, .bool v23], []⟩, .g false, .g false, .g true] [.keep [3, 12, 115] [3, 1100]] (K' := [.code [(9, 0)] 1, .code [] 10]) (σ' := ⟨[(3, .ptr 3 0), (12, .bool v20), (115, .bool true)], [(3, .box [.int .i64 v2, .sl 1100 0]), (1100, .arr 3 0 0 (.ints v3))]⟩) rfl ⟨hd25, hd24, hd23, (fun _ => (w_spec_MonotoneFault v2 v3 (v21, v22, v23) hk22)), trivial⟩ rfl ?_
                        refine Tri.run 2 [.g true] [.keep [2] []] (K' := [.code [(9, 0), (1, 0)] 1, .code [] 10]) (σ' := ⟨[(2, .bool false)], []⟩) rfl ⟨rfl, trivial⟩ rfl ?_
                        have h := Option.some.inj h
                        subst h
                        exact Tri.ret rfl ⟨.inl rfl, rfl, rfl⟩
                      · rcases bif_some h with ⟨hd26, h⟩ | ⟨hd26, h⟩
                        · obtain ⟨v24, hk27, h⟩ := bind_some h
                          refine Tri.run 2 [.r ⟨[], .tuple [.int .i64 v21, .int .i64 v22, .bool v23], []⟩, .g false, .g false, .g false, .g true, .r ⟨[], .bool v24, []⟩] [.keep [3, 12, 115] [3, 1100]] (K' := [.code [(9, 0)] 1, .code [] 10]) (σ' := ⟨[(3, .ptr 3 0), (12, .bool v20), (115, .bool (!v24))], [(3, .box [.int .i64 v2, .sl 1100 0]), (1100, .arr 3 0 0 (.ints v3))]⟩) rfl ⟨(fun _ => (w_impl_IsSubset v18 v19 v24 hk27)), hd26, hd25, hd24, hd23, (fun _ => (w_spec_MonotoneFault v2 v3 (v21, v22, v23) hk22)), trivial⟩ rfl ?_
                          rcases bif_some h with ⟨hd28, h⟩ | ⟨hd28, h⟩
                          · refine Tri.run 2 [.g true] [.keep [2] []] (K' := [.code [(9, 0), (1, 0)] 1, .code [] 10]) (σ' := ⟨[(2, .bool false)], []⟩) rfl ⟨hd28, trivial⟩ rfl ?_
                            have h := Option.some.inj h
                            subst h
                            exact Tri.ret rfl ⟨.inl rfl, rfl, rfl⟩
                          · obtain ⟨⟨v25, v26, v27⟩, hk29, h⟩ := bind_some h
                            refine Tri.run 2 [.g false, .r ⟨[], .tuple [.int .i64 v25, .int .i64 v26, .bool v27], []⟩] [.keep [3, 12, 16, 17, 18] [3, 1100]] (K' := [.code [(11, 0)] 0, .code [] 12]) (σ' := ⟨[(3, .ptr 3 0), (12, .bool v20), (16, .int .i64 v25), (17, .int .i64 v26), (18, .bool v27)], [(3, .box [.int .i64 v2, .sl 1100 0]), (1100, .arr 3 0 0 (.ints v3))]⟩) rfl ⟨(fun _ => (w_impl_SuperadditiveFault v2 v3 (v25, v26, v27) hk29)), hd28, trivial⟩ rfl ?_
                            obtain ⟨⟨v28, v29, v30⟩, hk30, h⟩ := bind_some h
                            rcases bif_some h with ⟨hd31, h⟩ | ⟨hd31, h⟩
                            · rcases bif_some h with ⟨hd32, h⟩ | ⟨hd32, h⟩
                              · rcases bif_some h with ⟨hd33, h⟩ | ⟨hd33, h⟩
                                · obtain ⟨v31, hk34, h⟩ := bind_some h
                                  obtain ⟨v32, hk35, h⟩ := bind_some h
                                  rcases bif_some h with ⟨hd36, h⟩ | ⟨hd36, h⟩
                                  · rcases bif_some h with ⟨hd37, h⟩ | ⟨hd37, h⟩
                                    · obtain ⟨v33, hk38, h⟩ := bind_some h
                                      obtain ⟨v34, hk39, h⟩ := bind_some h
                                      rcases bif_some h with ⟨hd40, h⟩ | ⟨hd40, h⟩
                                      · refine Tri.run 2 [.r ⟨[], .tuple [.int .i64 v28, .int .i64 v29, .bool v30], []⟩, .g true, .g true, .g true, .r ⟨[], .bool v31, []⟩, .r ⟨[], .bool v32, []⟩, .g true, .g true, .r ⟨[], .bool v33, []⟩, .r ⟨[], .bool v34, []⟩, .g true] [.keep [2] []] (K' := [.code [] 13]) (σ' := ⟨[(2, .bool (v33 == (!v27)))], []⟩) rfl ⟨hd40, (fun _ => (w_spec_IsValidGame v2 v3 v34 hk39)), (fun _ => (w_impl_IsSuperadditive v2 v3 v33 hk38)), hd37, hd36, (fun _ => (w_spec_IsValidGame v2 v3 v32 hk35)), (fun _ => (w_impl_IsMonotone v2 v3 v31 hk34)), hd33, hd32, hd31, (fun _ => (w_spec_SuperadditiveFault v2 v3 (v28, v29, v30) hk30)), trivial⟩ rfl ?_
                                        have h := Option.some.inj h
                                        subst h
                                        exact Tri.ret rfl ⟨.inl rfl, rfl, rfl⟩
                                      · refine Tri.run 2 [.r ⟨[], .tuple [.int .i64 v28, .int .i64 v29, .bool v30], []⟩, .g true, .g true, .g true, .r ⟨[], .bool v31, []⟩, .r ⟨[], .bool v32, []⟩, .g true, .g true, .r ⟨[], .bool v33, []⟩, .r ⟨[], .bool v34, []⟩, .g false] [.keep [2] []] (K' := [.code [] 13]) (σ' := ⟨[(2, .bool (v33 == false))], []⟩) rfl ⟨hd40, (fun _ => (w_spec_IsValidGame v2 v3 v34 hk39)), (fun _ => (w_impl_IsSuperadditive v2 v3 v33 hk38)), hd37, hd36, (fun _ => (w_spec_IsValidGame v2 v3 v32 hk35)), (fun _ => (w_impl_IsMonotone v2 v3 v31 hk34)), hd33, hd32, hd31, (fun _ => (w_spec_SuperadditiveFault v2 v3 (v28, v29, v30) hk30)), trivial⟩ rfl ?_
                                        have h := Option.some.inj h
                                        subst h
                                        exact Tri.ret rfl ⟨.inl rfl, rfl, rfl⟩
                                    · refine Tri.run 2 [.r ⟨[], .tuple [.int .i64 v28, .int .i64 v29, .bool v30], []⟩, .g true, .g true, .g true, .r ⟨[], .bool v31, []⟩, .r ⟨[], .bool v32, []⟩, .g true, .g false] [.keep [2] []] (K' := [.code [] 13]) (σ' := ⟨[(2, .bool false)], []⟩) rfl ⟨hd37, hd36, (fun _ => (w_spec_IsValidGame v2 v3 v32 hk35)), (fun _ => (w_impl_IsMonotone v2 v3 v31 hk34)), hd33, hd32, hd31, (fun _ => (w_spec_SuperadditiveFault v2 v3 (v28, v29, v30) hk30)), trivial⟩ rfl ?_
                                      have h := Option.some.inj h
                                      subst h
                                      exact Tri.ret rfl ⟨.inl rfl, rfl, rfl⟩
                                  · rcases bif_some h with ⟨hd41, h⟩ | ⟨hd41, h⟩
                                    · obtain ⟨v35, hk42, h⟩ := bind_some h
                                      obtain ⟨v36, hk43, h⟩ := bind_some h
                                      rcases bif_some h with ⟨hd44, h⟩ | ⟨hd44, h⟩
                                      · refine Tri.run 2 [.r ⟨[], .tuple [.int .i64 v28, .int .i64 v29, .bool v30], []⟩, .g true, .g true, .g true, .r ⟨[], .bool v31, []⟩, .r ⟨[], .bool v32, []⟩, .g false, .g true, .r ⟨[], .bool v35, []⟩, .r ⟨[], .bool v36, []⟩, .g true] [.keep [2] []] (K' := [.code [] 13]) (σ' := ⟨[(2, .bool (v35 == (!v27)))], []⟩) rfl ⟨hd44, (fun _ => (w_spec_IsValidGame v2 v3 v36 hk43)), (fun _ => (w_impl_IsSuperadditive v2 v3 v35 hk42)), hd41, hd36, (fun _ => (w_spec_IsValidGame v2 v3 v32 hk35)), (fun _ => (w_impl_IsMonotone v2 v3 v31 hk34)), hd33, hd32, hd31, (fun _ => (w_spec_SuperadditiveFault v2 v3 (v28, v29, v30) hk30)), trivial⟩ rfl ?_
                                        have h := Option.some.inj h
                                        subst h
                                        exact Tri.ret rfl ⟨.inl rfl, rfl, rfl⟩
                                      · refine Tri.run 2 [.r ⟨[], .tuple [.int .i64 v28, .int .i64 v29, .bool v30], []⟩, .g true, .g true, .g true, .r ⟨[], .bool v31, []⟩, .r ⟨[], .bool v32, []⟩, .g false, .g true, .r ⟨[], .bool v35, []⟩, .r ⟨[], .bool v36, []⟩, .g false] [.keep [2] []] (K' := [.code [] 13]) (σ' := ⟨[(2, .bool (v35 == false))], []⟩) rfl ⟨hd44, (fun _ => (w_spec_IsValidGame v2 v3 v36 hk43)), (fun _ => (w_impl_IsSuperadditive v2 v3 v35 hk42)), hd41, hd36, (fun _ => (w_spec_IsValidGame v2 v3 v32 hk35)), (fun _ => (w_impl_IsMonotone v2 v3 v31 hk34)), hd33, hd32, hd31, (fun _ => (w_spec_SuperadditiveFault v2 v3 (v28, v29, v30) hk30)), trivial⟩ rfl ?_
                                        have h := Option.some.inj h
                                        subst h
                                        exact Tri.ret rfl ⟨.inl rfl, rfl, rfl⟩
                                    · refine Tri.run 2 [.r ⟨[], .tuple [.int .i64 v28, .int .i64 v29, .bool v30], []⟩, .g true, .g true, .g true, .r ⟨[], .bool v31, []⟩, .r ⟨[], .bool v32, []⟩, .g false, .g false] [.keep [2] []] (K' := [.code [] 13]) (σ' := ⟨[(2, .bool false)], []⟩) rfl ⟨hd41, hd36, (fun _ => (w_spec_IsValidGame v2 v3 v32 hk35)), (fun _ => (w_impl_IsMonotone v2 v3 v31 hk34)), hd33, hd32, hd31, (fun _ => (w_spec_SuperadditiveFault v2 v3 (v28, v29, v30) hk30)), trivial⟩ rfl ?_
                                      have h := Option.some.inj h
                                      subst h
                                      exact Tri.ret rfl ⟨.inl rfl, rfl, rfl⟩
                                · refine Tri.run 2 [.r ⟨[], .tuple [.int .i64 v28, .int .i64 v29, .bool v30], []⟩, .g true, .g true, .g false, .g false] [.keep [2] []] (K' := [.code [] 13]) (σ' := ⟨[(2, .bool false)], []⟩) rfl ⟨rfl, hd33, hd32, hd31, (fun _ => (w_spec_SuperadditiveFault v2 v3 (v28, v29, v30) hk30)), trivial⟩ rfl ?_
                                  have h := Option.some.inj h
                                  subst h
                                  exact Tri.ret rfl ⟨.inl rfl, rfl, rfl⟩
                              · refine Tri.run 2 [.r ⟨[], .tuple [.int .i64 v28, .int .i64 v29, .bool v30], []⟩, .g true, .g false, .g false, .g false] [.keep [2] []] (K' := [.code [] 13]) (σ' := ⟨[(2, .bool false)], []⟩) rfl ⟨rfl, rfl, hd32, hd31, (fun _ => (w_spec_SuperadditiveFault v2 v3 (v28, v29, v30) hk30)), trivial⟩ rfl ?_
                                have h := Option.some.inj h
                                subst h
                                exact Tri.ret rfl ⟨.inl rfl, rfl, rfl⟩
                            · refine Tri.run 2 [.r ⟨[], .tuple [.int .i64 v28, .int .i64 v29, .bool v30], []⟩, .g false, .g false, .g false, .g false] [.keep [2] []] (K' := [.code [] 13]) (σ' := ⟨[(2, .bool false)], []⟩) rfl ⟨rfl, rfl, rfl, hd31, (fun _ => (w_spec_SuperadditiveFault v2 v3 (v28, v29, v30) hk30)), trivial⟩ rfl ?_
                              have h := Option.some.inj h
                              subst h
                              exact Tri.ret rfl ⟨.inl rfl, rfl, rfl⟩
                        · refine Tri.run 2 [.r ⟨[], .tuple [.int .i64 v21, .int .i64 v22, .bool v23], []⟩, .g false, .g false, .g false, .g false] [.keep [3, 12, 115] [3, 1100]] (K' := [.code [(9, 0)] 1, .code [] 10]) (σ' := ⟨[(3, .ptr 3 0), (12, .bool v20), (115, .bool false)], [(3, .box [.int .i64 v2, .sl 1100 0]), (1100, .arr 3 0 0 (.ints v3))]⟩) rfl ⟨hd26, hd25, hd24, hd23, (fun _ => (w_spec_MonotoneFault v2 v3 (v21, v22, v23) hk22)), trivial⟩ rfl ?_
                          obtain ⟨⟨v37, v38, v39⟩, hk45, h⟩ := bind_some h
                          refine Tri.run 2 [.g false, .r ⟨[], .tuple [.int .i64 v37, .int .i64 v38, .bool v39], []⟩] [.keep [3, 12, 16, 17, 18] [3, 1100]] (K' := [.code [(11, 0)] 0, .code [] 12]) (σ' := ⟨[(3, .ptr 3 0), (12, .bool v20), (16, .int .i64 v37), (17, .int .i64 v38), (18, .bool v39)], [(3, .box [.int .i64 v2, .sl 1100 0]), (1100, .arr 3 0 0 (.ints v3))]⟩) rfl ⟨(fun _ => (w_impl_SuperadditiveFault v2 v3 (v37, v38, v39) hk45)), rfl, trivial⟩ rfl ?_
                          obtain ⟨⟨v40, v41, v42⟩, hk46, h⟩ := bind_some h
                          rcases bif_some h with ⟨hd47, h⟩ | ⟨hd47, h⟩
                          · rcases bif_some h with ⟨hd48, h⟩ | ⟨hd48, h⟩
                            · rcases bif_some h with ⟨hd49, h⟩ | ⟨hd49, h⟩
                              · obtain ⟨v43, hk50, h⟩ := bind_some h
                                obtain ⟨v44, hk51, h⟩ := bind_some h
                                rcases bif_some h with ⟨hd52, h⟩ | ⟨hd52, h⟩
                                · rcases bif_some h with ⟨hd53, h⟩ | ⟨hd53, h⟩
                                  · obtain ⟨v45, hk54, h⟩ := bind_some h
                                    obtain ⟨v46, hk55, h⟩ := bind_some h
                                    rcases bif_some h with ⟨hd56, h⟩ | ⟨hd56, h⟩
                                    · refine Tri.run 2 [.r ⟨[], .tuple [.int .i64 v40, .int .i64 v41, .bool v42], []⟩, .g true, .g true, .g true, .r ⟨[], .bool v43, []⟩, .r ⟨[], .bool v44, []⟩, .g true, .g true, .r ⟨[], .bool v45, []⟩, .r ⟨[], .bool v46, []⟩, .g true] [.keep [2] []] (K' := [.code [] 13]) (σ' := ⟨[(2, .bool (v45 == (!v39)))], []⟩) rfl ⟨hd56, (fun _ => (w_spec_IsValidGame v2 v3 v46 hk55)), (fun _ => (w_impl_IsSuperadditive v2 v3 v45 hk54)), hd53, hd52, (fun _ => (w_spec_IsValidGame v2 v3 v44 hk51)), (fun _ => (w_impl_IsMonotone v2 v3 v43 hk50)), hd49, hd48, hd47, (fun _ => (w_spec_SuperadditiveFault v2 v3 (v40, v41, v42) hk46)), trivial⟩ rfl ?_
                                      have h := Option.some.inj h
                                      subst h
                                      exact Tri.ret rfl ⟨.inl rfl, rfl, rfl⟩
                                    · refine Tri.run 2 [.r ⟨[], .tuple [.int .i64 v40, .int .i64 v41, .bool v42], []⟩, .g true, .g true, .g true, .r ⟨[], .bool v43, []⟩, .r ⟨[], .bool v44, []⟩, .g true, .g true, .r ⟨[], .bool v45, []⟩, .r ⟨[], .bool v46, []⟩, .g false] [.keep [2] []] (K' := [.code [] 13]) (σ' := ⟨[(2, .bool (v45 == false))], []⟩) rfl ⟨hd56, (fun _ => (w_spec_IsValidGame v2 v3 v46 hk55)), (fun _ => (w_impl_IsSuperadditive v2 v3 v45 hk54)), hd53, hd52, (fun _ => (w_spec_IsValidGame v2 v3 v44 hk51)), (fun _ => (w_impl_IsMonotone v2 v3 v43 hk50)), hd49, hd48, hd47, (fun _ => (w_spec_SuperadditiveFault v2 v3 (v40, v41, v42) hk46)), trivial⟩ rfl ?_
                                      have h := Option.some.inj h
                                      subst h
                                      exact Tri.ret rfl ⟨.inl rfl, rfl, rfl⟩
                                  · refine Tri.run 2 [.r ⟨[], .tuple [.int .i64 v40, .int .i64 v41, .bool v42], []⟩, .g true, .g true, .g true, .r ⟨[], .bool v43, []⟩, .r ⟨[], .bool v44, []⟩, .g true, .g false] [.keep [2] []] (K' := [.code [] 13]) (σ' := ⟨[(2, .bool false)], []⟩) rfl ⟨hd53, hd52, (fun _ => (w_spec_IsValidGame v2 v3 v44 hk51)), (fun _ => (w_impl_IsMonotone v2 v3 v43 hk50)), hd49, hd48, hd47, (fun _ => (w_spec_SuperadditiveFault v2 v3 (v40, v41, v42) hk46)), trivial⟩ rfl ?_
                                    have h := Option.some.inj h
                                    subst h
                                    exact Tri.ret rfl ⟨.inl rfl, rfl, rfl⟩
                                · rcases bif_some h with ⟨hd57, h⟩ | ⟨hd57, h⟩
                                  · obtain ⟨v47, hk58, h⟩ := bind_some h
                                    obtain ⟨v48, hk59, h⟩ := bind_some h
                                    rcases bif_some h with ⟨hd60, h⟩ | ⟨hd60, h⟩
                                    · refine Tri.run 2 [.r ⟨[], .tuple [.int .i64 v40, .int .i64 v41, .bool v42], []⟩, .g true, .g true, .g true, .r ⟨[], .bool v43, []⟩, .r ⟨[], .bool v44, []⟩, .g false, .g true, .r ⟨[], .bool v47, []⟩, .r ⟨[], .bool v48, []⟩, .g true] [.keep [2] []] (K' := [.code [] 13]) (σ' := ⟨[(2, .bool (v47 == (!v39)))], []⟩) rfl ⟨hd60, (fun _ => (w_spec_IsValidGame v2 v3 v48 hk59)), (fun _ => (w_impl_IsSuperadditive v2 v3 v47 hk58)), hd57, hd52, (fun _ => (w_spec_IsValidGame v2 v3 v44 hk51)), (fun _ => (w_impl_IsMonotone v2 v3 v43 hk50)), hd49, hd48, hd47, (fun _ => (w_spec_SuperadditiveFault v2 v3 (v40, v41, v42) hk46)), trivial⟩ rfl ?_
                                      have h := Option.some.inj h
                                      subst h
                                      exact Tri.ret rfl ⟨.inl rfl, rfl, rfl⟩
                                    · refine Tri.run 2 [.r ⟨[], .tuple [.int .i64 v40, .int .i64 v41, .bool v42], []⟩, .g true, .g true, .g true, .r ⟨[], .bool v43, []⟩, .r ⟨[], .bool v44, []⟩, .g false, .g true, .r ⟨[], .bool v47, []⟩, .r ⟨[], .bool v48, []⟩, .g false] [.keep [2] []] (K' := [.code [] 13]) (σ' := ⟨[(2, .bool (v47 == false))], []⟩) rfl ⟨hd60, (fun _ => (w_spec_IsValidGame v2 v3 v48 hk59)), (fun _ => (w_impl_IsSuperadditive v2 v3 v47 hk58)), hd57, hd52, (fun _ => (w_spec_IsValidGame v2 v3 v44 hk51)), (fun _ => (w_impl_IsMonotone v2 v3 v43 hk50)), hd49, hd48, hd47, (fun _ => (w_spec_SuperadditiveFault v2 v3 (v40, v41, v42) hk46)), trivial⟩ rfl ?_
                                      have h := Option.some.inj h
                                      subst h
                                      exact Tri.ret rfl ⟨.inl rfl, rfl, rfl⟩
                                  · refine Tri.run 2 [.r ⟨[], .tuple [.int .i64 v40, .int .i64 v41, .bool v42], []⟩, .g true, .g true, .g true, .r ⟨[], .bool v43, []⟩, .r ⟨[], .bool v44, []⟩, .g false, .g false] [.keep [2] []] (K' := [.code [] 13]) (σ' := ⟨[(2, .bool false)], []⟩) rfl ⟨hd57, hd52, (fun _ => (w_spec_IsValidGame v2 v3 v44 hk51)), (fun _ => (w_impl_IsMonotone v2 v3 v43 hk50)), hd49, hd48, hd47, (fun _ => (w_spec_SuperadditiveFault v2 v3 (v40, v41, v42) hk46)), trivial⟩ rfl ?_
                                    have h := Option.some.inj h
                                    subst h
                                    exact Tri.ret rfl ⟨.inl rfl, rfl, rfl⟩
                              · refine Tri.run 2 [.r ⟨[], .tuple [.int .i64 v40, .int .i64 v41, .bool v42], []⟩, .g true, .g true, .g false, .g false] [.keep [2] []] (K' := [.code [] 13]) (σ' := ⟨[(2, .bool false)], []⟩) rfl ⟨rfl, hd49, hd48, hd47, (fun _ => (w_spec_SuperadditiveFault v2 v3 (v40, v41, v42) hk46)), trivial⟩ rfl ?_
                                have h := Option.some.inj h
                                subst h
                                exact Tri.ret rfl ⟨.inl rfl, rfl, rfl⟩
                            · refine Tri.run 2 [.r ⟨[], .tuple [.int .i64 v40, .int .i64 v41, .bool v42], []⟩, .g true, .g false, .g false, .g false] [.keep [2] []] (K' := [.code [] 13]) (σ' := ⟨[(2, .bool false)], []⟩) rfl ⟨rfl, rfl, hd48, hd47, (fun _ => (w_spec_SuperadditiveFault v2 v3 (v40, v41, v42) hk46)), trivial⟩ rfl ?_
                              have h := Option.some.inj h
                              subst h
                              exact Tri.ret rfl ⟨.inl rfl, rfl, rfl⟩
                          · refine Tri.run 2 [.r ⟨[], .tuple [.int .i64 v40, .int .i64 v41, .bool v42], []⟩, .g false, .g false, .g false, .g false] [.keep [2] []] (K' := [.code [] 13]) (σ' := ⟨[(2, .bool false)], []⟩) rfl ⟨rfl, rfl, rfl, hd47, (fun _ => (w_spec_SuperadditiveFault v2 v3 (v40, v41, v42) hk46)), trivial⟩ rfl ?_
                            have h := Option.some.inj h
                            subst h
                            exact Tri.ret rfl ⟨.inl rfl, rfl, rfl⟩
              · refine Tri.run 2 [.g false, .g false] [.keep [3, 81] [3, 1100]] (K' := [.code [(6, 0)] 1, .code [] 7]) (σ' := ⟨[(3, .ptr 3 0), (81, .bool false)], [(3, .box [.int .i64 v2, .sl 1100 0]), (1100, .arr 3 0 0 (.ints v3))]⟩) rfl ⟨hd13, hd12, trivial⟩ rfl ?_
                obtain ⟨⟨v49, v50, v51⟩, hk61, h⟩ := bind_some h
                refine Tri.run 2 [.g false, .r ⟨[], .tuple [.int .i64 v49, .int .i64 v50, .bool v51], []⟩] [.keep [3, 10, 11, 12] [3, 1100]] (K' := [.code [(8, 0)] 0, .code [] 9]) (σ' := ⟨[(3, .ptr 3 0), (10, .int .i64 v49), (11, .int .i64 v50), (12, .bool v51)], [(3, .box [.int .i64 v2, .sl 1100 0]), (1100, .arr 3 0 0 (.ints v3))]⟩) rfl ⟨(fun _ => (w_impl_MonotoneFault v2 v3 (v49, v50, v51) hk61)), rfl, trivial⟩ rfl ?_
                obtain ⟨⟨v52, v53, v54⟩, hk62, h⟩ := bind_some h
                rcases bif_some h with ⟨hd63, h⟩ | ⟨hd63, h⟩
                · refine Tri.run 2 [.r ⟨[], .tuple [.int .i64 v52, .int .i64 v53, .bool v54], []⟩, .g true, .g true, .g true] [.keep [3, 12, 115] [3, 1100]] (K' := [.code [(9, 0)] 1, .code [] 10]) (σ' := ⟨[(3, .ptr 3 0), (12, .bool v51), (115, .bool true)], [(3, .box [.int .i64 v2, .sl 1100 0]), (1100, .arr 3 0 0 (.ints v3))]⟩) rfl ⟨rfl, rfl, hd63, (fun _ => (w_spec_MonotoneFault v2 v3 (v52, v53, v54) hk62)), trivial⟩ rfl ?_
                  refine Tri.run 2 [.g true] [.keep [2] []] (K' := [.code [(9, 0), (1, 0)] 1, .code [] 10]) (σ' := ⟨[(2, .bool false)], []⟩) rfl ⟨rfl, trivial⟩ rfl ?_
                  have h := Option.some.inj h
                  subst h
                  exact Tri.ret rfl ⟨.inl rfl, rfl, rfl⟩
                · rcases bif_some h with ⟨hd64, h⟩ | ⟨hd64, h⟩
                  · refine Tri.run 2 [.r ⟨[], .tuple [.int .i64 v52, .int .i64 v53, .bool v54], []⟩, .g false, .g true, .g true] [.keep [3, 12, 115] [3, 1100]] (K' := [.code [(9, 0)] 1, .code [] 10]) (σ' := ⟨[(3, .ptr 3 0), (12, .bool v51), (115, .bool true)], [(3, .box [.int .i64 v2, .sl 1100 0]), (1100, .arr 3 0 0 (.ints v3))]⟩) rfl ⟨rfl, hd64, hd63, (fun _ => (w_spec_MonotoneFault v2 v3 (v52, v53, v54) hk62)), trivial⟩ rfl ?_
                    refine Tri.run 2 [.g true] [.keep [2] []] (K' := [.code [(9, 0), (1, 0)] 1, .code [] 10]) (σ' := ⟨[(2, .bool false)], []⟩) rfl ⟨rfl, trivial⟩ rfl ?_
                    have h := Option.some.inj h
                    subst h
                    exact Tri.ret rfl ⟨.inl rfl, rfl, rfl⟩
                  · rcases bif_some h with ⟨hd65, h⟩ | ⟨hd65, h⟩
                    · refine Tri.run 2 [.r ⟨[], .tuple [.int .i64 v52, .int .i64 v53, .bool v54], []⟩, .g false, .g false, .g true] [.keep [3, 12, 115] [3, 1100]] (K' := [.code [(9, 0)] 1, .code [] 10]) (σ' := ⟨[(3, .ptr 3 0), (12, .bool v51), (115, .bool true)], [(3, .box [.int .i64 v2, .sl 1100 0]), (1100, .arr 3 0 0 (.ints v3))]⟩) rfl ⟨hd65, hd64, hd63, (fun _ => (w_spec_MonotoneFault v2 v3 (v52, v53, v54) hk62)), trivial⟩ rfl ?_
                      refine Tri.run 2 [.g true] [.keep [2] []] (K' := [.code [(9, 0), (1, 0)] 1, .code [] 10]) (σ' := ⟨[(2, .bool false)], []⟩) rfl ⟨rfl, trivial⟩ rfl ?_
                      have h := Option.some.inj h
                      subst h
                      exact Tri.ret rfl ⟨.inl rfl, rfl, rfl⟩
                    · rcases bif_some h with ⟨hd66, h⟩ | ⟨hd66, h⟩
                      · obtain ⟨v55, hk67, h⟩ := bind_some h
                        refine Tri.run 2 [.r ⟨[], .tuple [.int .i64 v52, .int .i64 v53, .bool v54], []⟩, .g false, .g false, .g false, .g true, .r ⟨[], .bool v55, []⟩] [.keep [3, 12, 115] [3, 1100]] (K' := [.code [(9, 0)] 1, .code [] 10]) (σ' := ⟨[(3, .ptr 3 0), (12, .bool v51), (115, .bool (!v55))], [(3, .box [.int .i64 v2, .sl 1100 0]), (1100, .arr 3 0 0 (.ints v3))]⟩) rfl ⟨(fun _ => (w_impl_IsSubset v49 v50 v55 hk67)), hd66, hd65, hd64, hd63, (fun _ => (w_spec_MonotoneFault v2 v3 (v52, v53, v54) hk62)), trivial⟩ rfl ?_
                        rcases bif_some h with ⟨hd68, h⟩ | ⟨hd68, h⟩
                        · refine Tri.run 2 [.g true] [.keep [2] []] (K' := [.code [(9, 0), (1, 0)] 1, .code [] 10]) (σ' := ⟨[(2, .bool false)], []⟩) rfl ⟨hd68, trivial⟩ rfl ?_
                          have h := Option.some.inj h
                          subst h
                          exact Tri.ret rfl ⟨.inl rfl, rfl, rfl⟩
                        · obtain ⟨⟨v56, v57, v58⟩, hk69, h⟩ := bind_some h
                          refine Tri.run 2 [.g false, .r ⟨[], .tuple [.int .i64 v56, .int .i64 v57, .bool v58], []⟩] [.keep [3, 12, 16, 17, 18] [3, 1100]] (K' := [.code [(11, 0)] 0, .code [] 12]) (σ' := ⟨[(3, .ptr 3 0), (12, .bool v51), (16, .int .i64 v56), (17, .int .i64 v57), (18, .bool v58)], [(3, .box [.int .i64 v2, .sl 1100 0]), (1100, .arr 3 0 0 (.ints v3))]⟩) rfl ⟨(fun _ => (w_impl_SuperadditiveFault v2 v3 (v56, v57, v58) hk69)), hd68, trivial⟩ rfl ?_
                          obtain ⟨⟨v59, v60, v61⟩, hk70, h⟩ := bind_some h
                          rcases bif_some h with ⟨hd71, h⟩ | ⟨hd71, h⟩
                          · rcases bif_some h with ⟨hd72, h⟩ | ⟨hd72, h⟩
                            · rcases bif_some h with ⟨hd73, h⟩ | ⟨hd73, h⟩
                              · obtain ⟨v62, hk74, h⟩ := bind_some h
                                obtain ⟨v63, hk75, h⟩ := bind_some h
                                rcases bif_some h with ⟨hd76, h⟩ | ⟨hd76, h⟩
                                · rcases bif_some h with ⟨hd77, h⟩ | ⟨hd77, h⟩
                                  · obtain ⟨v64, hk78, h⟩ := bind_some h
                                    obtain ⟨v65, hk79, h⟩ := bind_some h
                                    rcases bif_some h with ⟨hd80, h⟩ | ⟨hd80, h⟩
                                    · refine Tri.run 2 [.r ⟨[], .tuple [.int .i64 v59, .int .i64 v60, .bool v61], []⟩, .g true, .g true, .g true, .r ⟨[], .bool v62, []⟩, .r ⟨[], .bool v63, []⟩, .g true, .g true, .r ⟨[], .bool v64, []⟩, .r ⟨[], .bool v65, []⟩, .g true] [.keep [2] []] (K' := [.code [] 13]) (σ' := ⟨[(2, .bool (v64 == (!v58)))], []⟩) rfl ⟨hd80, (fun _ => (w_spec_IsValidGame v2 v3 v65 hk79)), (fun _ => (w_impl_IsSuperadditive v2 v3 v64 hk78)), hd77, hd76, (fun _ => (w_spec_IsValidGame v2 v3 v63 hk75)), (fun _ => (w_impl_IsMonotone v2 v3 v62 hk74)), hd73, hd72, hd71, (fun _ => (w_spec_SuperadditiveFault v2 v3 (v59, v60, v61) hk70)), trivial⟩ rfl ?_
                                      have h := Option.some.inj h
                                      subst h
                                      exact Tri.ret rfl ⟨.inl rfl, rfl, rfl⟩
                                    · refine Tri.run 2 [.r ⟨[], .tuple [.int .i64 v59, .int .i64 v60, .bool v61], []⟩, .g true, .g true, .g true, .r ⟨[], .bool v62, []⟩, .r ⟨[], .bool v63, []⟩, .g true, .g true, .r ⟨[], .bool v64, []⟩, .r ⟨[], .bool v65, []⟩, .g false] [.keep [2] []] (K' := [.code [] 13]) (σ' := ⟨[(2, .bool (v64 == false))], []⟩) rfl ⟨hd80, (fun _ => (w_spec_IsValidGame v2 v3 v65 hk79)), (fun _ => (w_impl_IsSuperadditive v2 v3 v64 hk78)), hd77, hd76, (fun _ => (w_spec_IsValidGame v2 v3 v63 hk75)), (fun _ => (w_impl_IsMonotone v2 v3 v62 hk74)), hd73, hd72, hd71, (fun _ => (w_spec_SuperadditiveFault v2 v3 (v59, v60, v61) hk70)), trivial⟩ rfl ?_
                                      have h := Option.some.inj h
                                      subst h
                                      exact Tri.ret rfl ⟨.inl rfl, rfl, rfl⟩
                                  · refine Tri.run 2 [.r ⟨[], .tuple [.int .i64 v59, .int .i64 v60, .bool v61], []⟩, .g true, .g true, .g true, .r ⟨[], .bool v62, []⟩, .r ⟨[], .bool v63, []⟩, .g true, .g false] [.keep [2] []] (K' := [.code [] 13]) (σ' := ⟨[(2, .bool false)], []⟩) rfl ⟨hd77, hd76, (fun _ => (w_spec_IsValidGame v2 v3 v63 hk75)), (fun _ => (w_impl_IsMonotone v2 v3 v62 hk74)), hd73, hd72, hd71, (fun _ => (w_spec_SuperadditiveFault v2 v3 (v59, v60, v61) hk70)), trivial⟩ rfl ?_
                                    have h := Option.some.inj h
                                    subst h
                                    exact Tri.ret rfl ⟨.inl rfl, rfl, rfl⟩
                                · rcases bif_some h with ⟨hd81, h⟩ | ⟨hd81, h⟩
                                  · obtain ⟨v66, hk82, h⟩ := bind_some h
                                    obtain ⟨v67, hk83, h⟩ := bind_some h
                                    rcases bif_some h with ⟨hd84, h⟩ | ⟨hd84, h⟩
                                    · refine Tri.run 2 [.r ⟨[], .tuple [.int .i64 v59, .int .i64 v60, .bool v61], []⟩, .g true, .g true, .g true, .r ⟨[], .bool v62, []⟩, .r ⟨[], .bool v63, []⟩, .g false, .g true, .r ⟨[], .bool v66, []⟩, .r ⟨[], .bool v67, []⟩, .g true] [.keep [2] []] (K' := [.code [] 13]) (σ' := ⟨[(2, .bool (v66 == (!v58)))], []⟩) rfl ⟨hd84, (fun _ => (w_spec_IsValidGame v2 v3 v67 hk83)), (fun _ => (w_impl_IsSuperadditive v2 v3 v66 hk82)), hd81, hd76, (fun _ => (w_spec_IsValidGame v2 v3 v63 hk75)), (fun _ => (w_impl_IsMonotone v2 v3 v62 hk74)), hd73, hd72, hd71, (fun _ => (w_spec_SuperadditiveFault v2 v3 (v59, v60, v61) hk70)), trivial⟩ rfl ?_
                                      have h := Option.some.inj h
                                      subst h
                                      exact Tri.ret rfl ⟨.inl rfl, rfl, rfl⟩
                                    · refine Tri.run 2 [.r ⟨[], .tuple [.int .i64 v59, .int .i64 v60, .bool v61], []⟩, .g true, .g true, .g true, .r ⟨[], .bool v62, []⟩, .r ⟨[], .bool v63, []⟩, .g false, .g true, .r ⟨[], .bool v66, []⟩, .r ⟨[], .bool v67, []⟩, .g false] [.keep [2] []] (K' := [.code [] 13]) (σ' := ⟨[(2, .bool (v66 == false))], []⟩) rfl ⟨hd84, (fun _ => (w_spec_IsValidGame v2 v3 v67 hk83)), (fun _ => (w_impl_IsSuperadditive v2 v3 v66 hk82)), hd81, hd76, (fun _ => (w_spec_IsValidGame v2 v3 v63 hk75)), (fun _ => (w_impl_IsMonotone v2 v3 v62 hk74)), hd73, hd72, hd71, (fun _ => (w_spec_SuperadditiveFault v2 v3 (v59, v60, v61) hk70)), trivial⟩ rfl ?_
                                      have h := Option.some.inj h
                                      subst h
                                      exact Tri.ret rfl ⟨.inl rfl, rfl, rfl⟩
                                  · refine Tri.run 2 [.r ⟨[], .tuple [.int .i64 v59, .int .i64 v60, .bool v61], []⟩, .g true, .g true, .g true, .r ⟨[], .bool v62, []⟩, .r ⟨[], .bool v63, []⟩, .g false, .g false] [.keep [2] []] (K' := [.code [] 13]) (σ' := ⟨[(2, .bool false)], []⟩) rfl ⟨hd81, hd76, (fun _ => (w_spec_IsValidGame v2 v3 v63 hk75)), (fun _ => (w_impl_IsMonotone v2 v3 v62 hk74)), hd73, hd72, hd71, (fun _ => (w_spec_SuperadditiveFault v2 v3 (v59, v60, v61) hk70)), trivial⟩ rfl ?_
                                    have h := Option.some.inj h
                                    subst h
                                    exact Tri.ret rfl ⟨.inl rfl, rfl, rfl⟩
                              · refine Tri.run 2 [.r ⟨[], .tuple [.int .i64 v59, .int .i64 v60, .bool v61], []⟩, .g true, .g true, .g false, .g false] [.keep [2] []] (K' := [.code [] 13]) (σ' := ⟨[(2, .bool false)], []⟩) rfl ⟨rfl, hd73, hd72, hd71, (fun _ => (w_spec_SuperadditiveFault v2 v3 (v59, v60, v61) hk70)), trivial⟩ rfl ?_
                                have h := Option.some.inj h
                                subst h
                                exact Tri.ret rfl ⟨.inl rfl, rfl, rfl⟩
                            · refine Tri.run 2 [.r ⟨[], .tuple [.int .i64 v59, .int .i64 v60, .bool v61], []⟩, .g true, .g false, .g false, .g false] [.keep [2] []] (K' := [.code [] 13]) (σ' := ⟨[(2, .bool false)], []⟩) rfl ⟨rfl, rfl, hd72, hd71, (fun _ => (w_spec_SuperadditiveFault v2 v3 (v59, v60, v61) hk70)), trivial⟩ rfl ?_
                              have h := Option.some.inj h
                              subst h
                              exact Tri.ret rfl ⟨.inl rfl, rfl, rfl⟩
                          · refine Tri.run 2 [.r ⟨[], .tuple [.int .i64 v59, .int .i64 v60, .bool v61], []⟩, .g false, .g false, .g false, .g false] [.keep [2] []] (K' := [.code [] 13]) (σ' := ⟨[(2, .bool false)], []⟩) rfl ⟨rfl, rfl, rfl, hd71, (fun _ => (w_spec_SuperadditiveFault v2 v3 (v59, v60, v61) hk70)), trivial⟩ rfl ?_
                            have h := Option.some.inj h
                            subst h
                            exact Tri.ret rfl ⟨.inl rfl, rfl, rfl⟩
                      · refine Tri.run 2 [.r ⟨[], .tuple [.int .i64 v52, .int .i64 v53, .bool v54], []⟩, .g false, .g false, .g false, .g false] [.keep [3, 12, 115] [3, 1100]] (K' := [.code [(9, 0)] 1, .code [] 10]) (σ' := ⟨[(3, .ptr 3 0), (12, .bool v51), (115, .bool false)], [(3, .box [.int .i64 v2, .sl 1100 0]), (1100, .arr 3 0 0 (.ints v3))]⟩) rfl ⟨hd66, hd65, hd64, hd63, (fun _ => (w_spec_MonotoneFault v2 v3 (v52, v53, v54) hk62)), trivial⟩ rfl ?_
                        obtain ⟨⟨v68, v69, v70⟩, hk85, h⟩ := bind_some h
                        refine Tri.run 2 [.g false, .r ⟨[], .tuple [.int .i64 v68, .int .i64 v69, .bool v70], []⟩] [.keep [3, 12, 16, 17, 18] [3, 1100]] (K' := [.code [(11, 0)] 0, .code [] 12]) (σ' := ⟨[(3, .ptr 3 0), (12, .bool v51), (16, .int .i64 v68), (17, .int .i64 v69), (18, .bool v70)], [(3, .box [.int .i64 v2, .sl 1100 0]), (1100, .arr 3 0 0 (.ints v3))]⟩) rfl ⟨(fun _ => (w_impl_SuperadditiveFault v2 v3 (v68, v69, v70) hk85)), rfl, trivial⟩ rfl ?_
                        obtain ⟨⟨v71, v72, v73⟩, hk86, h⟩ := bind_some h
                        rcases bif_some h with ⟨hd87, h⟩ | ⟨hd87, h⟩
                        · rcases bif_some h with ⟨hd88, h⟩ | ⟨hd88, h⟩
                          · rcases bif_some h with ⟨hd89, h⟩ | ⟨hd89, h⟩
                            · obtain ⟨v74, hk90, h⟩ := bind_some h
                              obtain ⟨v75, hk91, h⟩ := bind_some h
                              rcases bif_some h with ⟨hd92, h⟩ | ⟨hd92, h⟩
                              · rcases bif_some h with ⟨hd93, h⟩ | ⟨hd93, h⟩
                                · obtain ⟨v76, hk94, h⟩ := bind_some h
                                  obtain ⟨v77, hk95, h⟩ := bind_some h
                                  rcases bif_some h with ⟨hd96, h⟩ | ⟨hd96, h⟩
                                  · refine Tri.run 2 [.r ⟨[], .tuple [.int .i64 v71, .int .i64 v72, .bool v73], []⟩, .g true, .g true, .g true, .r ⟨[], .bool v74, []⟩, .r ⟨[], .bool v75, []⟩, .g true, .g true, .r ⟨[], .bool v76, []⟩, .r ⟨[], .bool v77, []⟩, .g true] [.keep [2] []] (K' := [.code [] 13]) (σ' := ⟨[(2, .bool (v76 == (!v70)))], []⟩) rfl ⟨hd96, (fun _ => (w_spec_IsValidGame v2 v3 v77 hk95)), (fun _ => (w_impl_IsSuperadditive v2 v3 v76 hk94)), hd93, hd92, (fun _ => (w_spec_IsValidGame v2 v3 v75 hk91)), (fun _ => (w_impl_IsMonotone v2 v3 v74 hk90)), hd89, hd88, hd87, (fun _ => (w_spec_SuperadditiveFault v2 v3 (v71, v72, v73) hk86)), trivial⟩ rfl ?_
                                    have h := Option.some.inj h
                                    subst h
                                    exact Tri.ret rfl ⟨.inl rfl, rfl, rfl⟩
                                  · refine Tri.run 2 [.r ⟨[], .tuple [.int .i64 v71, .int .i64 v72, .bool v73], []⟩, .g true, .g true, .g true, .r ⟨[], .bool v74, []⟩, .r ⟨[], .bool v75, []⟩, .g true, .g true, .r ⟨[], .bool v76, []⟩, .r ⟨[], .bool v77, []⟩, .g false] [.keep [2] []] (K' := [.code [] 13]) (σ' := ⟨[(2, .bool (v76 == false))], []⟩) rfl ⟨hd96, (fun _ => (w_spec_IsValidGame v2 v3 v77 hk95)), (fun _ => (w_impl_IsSuperadditive v2 v3 v76 hk94)), hd93, hd92, (fun _ => (w_spec_IsValidGame v2 v3 v75 hk91)), (fun _ => (w_impl_IsMonotone v2 v3 v74 hk90)), hd89, hd88, hd87, (fun _ => (w_spec_SuperadditiveFault v2 v3 (v71, v72, v73) hk86)), trivial⟩ rfl ?_
                                    have h := Option.some.inj h
                                    subst h
                                    exact Tri.ret rfl ⟨.inl rfl, rfl, rfl⟩
                                · refine Tri.run 2 [.r ⟨[], .tuple [.int .i64 v71, .int .i64 v72, .bool v73], []⟩, .g true, .g true, .g true, .r ⟨[], .bool v74, []⟩, .r ⟨[], .bool v75, []⟩, .g true, .g false] [.keep [2] []] (K' := [.code [] 13]) (σ' := ⟨[(2, .bool false)], []⟩) rfl ⟨hd93, hd92, (fun _ => (w_spec_IsValidGame v2 v3 v75 hk91)), (fun _ => (w_impl_IsMonotone v2 v3 v74 hk90)), hd89, hd88, hd87, (fun _ => (w_spec_SuperadditiveFault v2 v3 (v71, v72, v73) hk86)), trivial⟩ rfl ?_
                                  have h := Option.some.inj h
                                  subst h
                                  exact Tri.ret rfl ⟨.inl rfl, rfl, rfl⟩
                              · rcases bif_some h with ⟨hd97, h⟩ | ⟨hd97, h⟩
                                · obtain ⟨v78, hk98, h⟩ := bind_some h
                                  obtain ⟨v79, hk99, h⟩ := bind_some h
                                  rcases bif_some h with ⟨hd100, h⟩ | ⟨hd100, h⟩
                                  · refine Tri.run 2 [.r ⟨[], .tuple [.int .i64 v71, .int .i64 v72, .bool v73], []⟩, .g true, .g true, .g true, .r ⟨[], .bool v74, []⟩, .r ⟨[], .bool v75, []⟩, .g false, .g true, .r ⟨[], .bool v78, []⟩, .r ⟨[], .bool v79, []⟩, .g true] [.keep [2] []] (K' := [.code [] 13]) (σ' := ⟨[(2, .bool (v78 == (!v70)))], []⟩) rfl ⟨hd100, (fun _ => (w_spec_IsValidGame v2 v3 v79 hk99)), (fun _ => (w_impl_IsSuperadditive v2 v3 v78 hk98)), hd97, hd92, (fun _ => (w_spec_IsValidGame v2 v3 v75 hk91)), (fun _ => (w_impl_IsMonotone v2 v3 v74 hk90)), hd89, hd88, hd87, (fun _ => (w_spec_SuperadditiveFault v2 v3 (v71, v72, v73) hk86)), trivial⟩ rfl ?_
                                    have h := Option.some.inj h
                                    subst h
                                    exact Tri.ret rfl ⟨.inl rfl, rfl, rfl⟩
                                  · refine Tri.run 2 [.r ⟨[], .tuple [.int .i64 v71, .int .i64 v72, .bool v73], []⟩, .g true, .g true, .g true, .r ⟨[], .bool v74, []⟩, .r ⟨[], .bool v75, []⟩, .g false, .g true, .r ⟨[], .bool v78, []⟩, .r ⟨[], .bool v79, []⟩, .g false] [.keep [2] []] (K' := [.code [] 13]) (σ' := ⟨[(2, .bool (v78 == false))], []⟩) rfl ⟨hd100, (fun _ => (w_spec_IsValidGame v2 v3 v79 hk99)), (fun _ => (w_impl_IsSuperadditive v2 v3 v78 hk98)), hd97, hd92, (fun _ => (w_spec_IsValidGame v2 v3 v75 hk91)), (fun _ => (w_impl_IsMonotone v2 v3 v74 hk90)), hd89, hd88, hd87, (fun _ => (w_spec_SuperadditiveFault v2 v3 (v71, v72, v73) hk86)), trivial⟩ rfl ?_
                                    have h := Option.some.inj h
                                    subst h
                                    exact Tri.ret rfl ⟨.inl rfl, rfl, rfl⟩
                                · refine Tri.run 2 [.r ⟨[], .tuple [.int .i64 v71, .int .i64 v72, .bool v73], []⟩, .g true, .g true, .g true, .r ⟨[], .bool v74, []⟩, .r ⟨[], .bool v75, []⟩, .g false, .g false] [.keep [2] []] (K' := [.code [] 13]) (σ' := ⟨[(2, .bool false)], []⟩) rfl ⟨hd97, hd92, (fun _ => (w_spec_IsValidGame v2 v3 v75 hk91)), (fun _ => (w_impl_IsMonotone v2 v3 v74 hk90)), hd89, hd88, hd87, (fun _ => (w_spec_SuperadditiveFault v2 v3 (v71, v72, v73) hk86)), trivial⟩ rfl ?_
                                  have h := Option.some.inj h
                                  subst h
                                  exact Tri.ret rfl ⟨.inl rfl, rfl, rfl⟩
                            · refine Tri.run 2 [.r ⟨[], .tuple [.int .i64 v71, .int .i64 v72, .bool v73], []⟩, .g true, .g true, .g false, .g false] [.keep [2] []] (K' := [.code [] 13]) (σ' := ⟨[(2, .bool false)], []⟩) rfl ⟨rfl, hd89, hd88, hd87, (fun _ => (w_spec_SuperadditiveFault v2 v3 (v71, v72, v73) hk86)), trivial⟩ rfl ?_
                              have h := Option.some.inj h
                              subst h
                              exact Tri.ret rfl ⟨.inl rfl, rfl, rfl⟩
                          · refine Tri.run 2 [.r ⟨[], .tuple [.int .i64 v71, .int .i64 v72, .bool v73], []⟩, .g true, .g false, .g false, .g false] [.keep [2] []] (K' := [.code [] 13]) (σ' := ⟨[(2, .bool false)], []⟩) rfl ⟨rfl, rfl, hd88, hd87, (fun _ => (w_spec_SuperadditiveFault v2 v3 (v71, v72, v73) hk86)), trivial⟩ rfl ?_
                            have h := Option.some.inj h
                            subst h
                            exact Tri.ret rfl ⟨.inl rfl, rfl, rfl⟩
                        · refine Tri.run 2 [.r ⟨[], .tuple [.int .i64 v71, .int .i64 v72, .bool v73], []⟩, .g false, .g false, .g false, .g false] [.keep [2] []] (K' := [.code [] 13]) (σ' := ⟨[(2, .bool false)], []⟩) rfl ⟨rfl, rfl, rfl, hd87, (fun _ => (w_spec_SuperadditiveFault v2 v3 (v71, v72, v73) hk86)), trivial⟩ rfl ?_
                          have h := Option.some.inj h
                          subst h
                          exact Tri.ret rfl ⟨.inl rfl, rfl, rfl⟩
          · refine Tri.run 1 [.g false, .g false, .g false, .r ⟨[], .bool v10, []⟩, .g false] [.keep [3, 4, 5, 6, 59] [3, 1100]] (K' := [.code [(5, 0)] 1, .code [] 6]) (σ' := ⟨[(3, .ptr 3 0), (4, .int .i64 v4), (5, .int .i64 v5), (6, .bool v6), (59, .bool false)], [(3, .box [.int .i64 v2, .sl 1100 0]), (1100, .arr 3 0 0 (.ints v3))]⟩) rfl ⟨hd10, (fun _ => (w_impl_IsConvex v2 v3 v10 hk9)), hd8, hd7, hd6, trivial⟩ rfl ?_
            rcases bif_some h with ⟨hd101, h⟩ | ⟨hd101, h⟩
            · obtain ⟨v80, hk102, h⟩ := bind_some h
              obtain ⟨v81, hk103, h⟩ := bind_some h
              obtain ⟨v82, hk104, h⟩ := bind_some h
              obtain ⟨v83, hk105, h⟩ := bind_some h
              obtain ⟨v84, hk106, h⟩ := bind_some h
              obtain ⟨v85, hk107, h⟩ := bind_some h
              refine Tri.run 2 [.g false, .g true, .r ⟨[], .int .i64 v80, []⟩, .r ⟨[], .int .i64 v81, []⟩, .r ⟨[], .int .i64 v82, []⟩, .r ⟨[], .int .i64 v83, []⟩, .r ⟨[], .int .i64 v84, []⟩, .r ⟨[], .int .i64 v85, []⟩] [.keep [3, 81] [3, 1100]] (K' := [.code [(6, 0)] 1, .code [] 7]) (σ' := ⟨[(3, .ptr 3 0), (81, .bool (decide ((IntKind.i64.wrap (v80 + v81)) ≤ (IntKind.i64.wrap (v83 + v85)))))], [(3, .box [.int .i64 v2, .sl 1100 0]), (1100, .arr 3 0 0 (.ints v3))]⟩) rfl ⟨(fun _ => (w_impl_ValueOf v2 v3 v84 v85 hk107)), (fun _ => (w_impl_Overlap v4 v5 v84 hk106)), (fun _ => (w_impl_ValueOf v2 v3 v82 v83 hk105)), (fun _ => (w_impl_Union v4 v5 v82 hk104)), (fun _ => (w_impl_ValueOf v2 v3 v5 v81 hk103)), (fun _ => (w_impl_ValueOf v2 v3 v4 v80 hk102)), hd101, rfl, trivial⟩ rfl ?_
              rcases bif_some h with ⟨hd108, h⟩ | ⟨hd108, h⟩
              · refine Tri.run 2 [.g true] [.keep [2] []] (K' := [.code [(6, 0), (1, 0)] 1, .code [] 7]) (σ' := ⟨[(2, .bool false)], []⟩) rfl ⟨hd108, trivial⟩ rfl ?_
                have h := Option.some.inj h
                subst h
                exact Tri.ret rfl ⟨.inl rfl, rfl, rfl⟩
              · obtain ⟨⟨v86, v87, v88⟩, hk109, h⟩ := bind_some h
                refine Tri.run 2 [.g false, .r ⟨[], .tuple [.int .i64 v86, .int .i64 v87, .bool v88], []⟩] [.keep [3, 10, 11, 12] [3, 1100]] (K' := [.code [(8, 0)] 0, .code [] 9]) (σ' := ⟨[(3, .ptr 3 0), (10, .int .i64 v86), (11, .int .i64 v87), (12, .bool v88)], [(3, .box [.int .i64 v2, .sl 1100 0]), (1100, .arr 3 0 0 (.ints v3))]⟩) rfl ⟨(fun _ => (w_impl_MonotoneFault v2 v3 (v86, v87, v88) hk109)), hd108, trivial⟩ rfl ?_
                obtain ⟨⟨v89, v90, v91⟩, hk110, h⟩ := bind_some h
                rcases bif_some h with ⟨hd111, h⟩ | ⟨hd111, h⟩
                · refine Tri.run 2 [.r ⟨[], .tuple [.int .i64 v89, .int .i64 v90, .bool v91], []⟩, .g true, .g true, .g true] [.keep [3, 12, 115] [3, 1100]] (K' := [.code [(9, 0)] 1, .code [] 10]) (σ' := ⟨[(3, .ptr 3 0), (12, .bool v88), (115, .bool true)], [(3, .box [.int .i64 v2, .sl 1100 0]), (1100, .arr 3 0 0 (.ints v3))]⟩) rfl ⟨rfl, rfl, hd111, (fun _ => (w_spec_MonotoneFault v2 v3 (v89, v90, v91) hk110)), trivial⟩ rfl ?_
                  refine Tri.run 2 [.g true] [.keep [2] []] (K' := [.code [(9, 0), (1, 0)] 1, .code [] 10]) (σ' := ⟨[(2, .bool false)], []⟩) rfl ⟨rfl, trivial⟩ rfl ?_
                  have h := Option.some.inj h
                  subst h
                  exact Tri.ret rfl ⟨.inl rfl, rfl, rfl⟩
                · rcases bif_some h with ⟨hd112, h⟩ | ⟨hd112, h⟩
                  · refine Tri.run 2 [.r ⟨[], .tuple [.int .i64 v89, .int .i64 v90, .bool v91], []⟩, .g false, .g true, .g true] [.keep [3, 12, 115] [3, 1100]] (K' := [.code [(9, 0)] 1, .code [] 10]) (σ' := ⟨[(3, .ptr 3 0), (12, .bool v88), (115, .bool true)], [(3, .box [.int .i64 v2, .sl 1100 0]), (1100, .arr 3 0 0 (.ints v3))]⟩) rfl ⟨rfl, hd112, hd111, (fun _ => (w_spec_MonotoneFault v2 v3 (v89, v90, v91) hk110)), trivial⟩ rfl ?_
                    refine Tri.run 2 [.g true] [.keep [2] []] (K' := [.code [(9, 0), (1, 0)] 1, .code [] 10]) (σ' := ⟨[(2, .bool false)], []⟩) rfl ⟨rfl, trivial⟩ rfl ?_
                    have h := Option.some.inj h
                    subst h
                    exact Tri.ret rfl ⟨.inl rfl, rfl, rfl⟩
                  · rcases bif_some h with ⟨hd113, h⟩ | ⟨hd113, h⟩
                    · refine Tri.run 2 [.r ⟨[], .tuple [.int .i64 v89, .int .i64 v90, .bool v91], []⟩, .g false, .g false, .g true] [.keep [3, 12, 115] [3, 1100]] (K' := [.code [(9, 0)] 1, .code [] 10]) (σ' := ⟨[(3, .ptr 3 0), (12, .bool v88), (115, .bool true)], [(3, .box [.int .i64 v2, .sl 1100 0]), (1100, .arr 3 0 0 (.ints v3))]⟩) rfl ⟨hd113, hd112, hd111, (fun _ => (w_spec_MonotoneFault v2 v3 (v89, v90, v91) hk110)), trivial⟩ rfl ?_
                      refine Tri.run 2 [.g true] [.keep [2] []] (K' := [.code [(9, 0), (1, 0)] 1, .code [] 10]) (σ' := ⟨[(2, .bool false)], []⟩) rfl ⟨rfl, trivial⟩ rfl ?_
                      have h := Option.some.inj h
                      subst h
                      exact Tri.ret rfl ⟨.inl rfl, rfl, rfl⟩
                    · rcases bif_some h with ⟨hd114, h⟩ | ⟨hd114, h⟩
                      · obtain ⟨v92, hk115, h⟩ := bind_some h
                        refine Tri.run 2 [.r ⟨[], .tuple [.int .i64 v89, .int .i64 v90, .bool v91], []⟩, .g false, .g false, .g false, .g true, .r ⟨[], .bool v92, []⟩] [.keep [3, 12, 115] [3, 1100]] (K' := [.code [(9, 0)] 1, .code [] 10]) (σ' := ⟨[(3, .ptr 3 0), (12, .bool v88), (115, .bool (!v92))], [(3, .box [.int .i64 v2, .sl 1100 0]), (1100, .arr 3 0 0 (.ints v3))]⟩) rfl ⟨(fun _ => (w_impl_IsSubset v86 v87 v92 hk115)), hd114, hd113, hd112, hd111, (fun _ => (w_spec_MonotoneFault v2 v3 (v89, v90, v91) hk110)), trivial⟩ rfl ?_
                        rcases bif_some h with ⟨hd116, h⟩ | ⟨hd116, h⟩
                        · refine Tri.run 2 [.g true] [.keep [2] []] (K' := [.code [(9, 0), (1, 0)] 1, .code [] 10]) (σ' := ⟨[(2, .bool false)], []⟩) rfl ⟨hd116, trivial⟩ rfl ?_
                          have h := Option.some.inj h
                          subst h
                          exact Tri.ret rfl ⟨.inl rfl, rfl, rfl⟩
                        · obtain ⟨⟨v93, v94, v95⟩, hk117, h⟩ := bind_some h
                          refine Tri.run 2 [.g false, .r ⟨[], .tuple [.int .i64 v93, .int .i64 v94, .bool v95], []⟩] [.keep [3, 12, 16, 17, 18] [3, 1100]] (K' := [.code [(11, 0)] 0, .code [] 12]) (σ' := ⟨[(3, .ptr 3 0), (12, .bool v88), (16, .int .i64 v93), (17, .int .i64 v94), (18, .bool v95)], [(3, .box [.int .i64 v2, .sl 1100 0]), (1100, .arr 3 0 0 (.ints v3))]⟩) rfl ⟨(fun _ => (w_impl_SuperadditiveFault v2 v3 (v93, v94, v95) hk117)), hd116, trivial⟩ rfl ?_
                          obtain ⟨⟨v96, v97, v98⟩, hk118, h⟩ := bind_some h
                          rcases bif_some h with ⟨hd119, h⟩ | ⟨hd119, h⟩
                          · rcases bif_some h with ⟨hd120, h⟩ | ⟨hd120, h⟩
                            · rcases bif_some h with ⟨hd121, h⟩ | ⟨hd121, h⟩
                              · obtain ⟨v99, hk122, h⟩ := bind_some h
                                obtain ⟨v100, hk123, h⟩ := bind_some h
                                rcases bif_some h with ⟨hd124, h⟩ | ⟨hd124, h⟩
                                · rcases bif_some h with ⟨hd125, h⟩ | ⟨hd125, h⟩
                                  · obtain ⟨v101, hk126, h⟩ := bind_some h
                                    obtain ⟨v102, hk127, h⟩ := bind_some h
                                    rcases bif_some h with ⟨hd128, h⟩ | ⟨hd128, h⟩
                                    · refine Tri.run 2 [.r ⟨[], .tuple [.int .i64 v96, .int .i64 v97, .bool v98], []⟩, .g true, .g true, .g true, .r ⟨[], .bool v99, []⟩, .r ⟨[], .bool v100, []⟩, .g true, .g true, .r ⟨[], .bool v101, []⟩, .r ⟨[], .bool v102, []⟩, .g true] [.keep [2] []] (K' := [.code [] 13]) (σ' := ⟨[(2, .bool (v101 == (!v95)))], []⟩) rfl ⟨hd128, (fun _ => (w_spec_IsValidGame v2 v3 v102 hk127)), (fun _ => (w_impl_IsSuperadditive v2 v3 v101 hk126)), hd125, hd124, (fun _ => (w_spec_IsValidGame v2 v3 v100 hk123)), (fun _ => (w_impl_IsMonotone v2 v3 v99 hk122)), hd121, hd120, hd119, (fun _ => (w_spec_SuperadditiveFault v2 v3 (v96, v97, v98) hk118)), trivial⟩ rfl ?_
                                      have h := Option.some.inj h
                                      subst h
                                      exact Tri.ret rfl ⟨.inl rfl, rfl, rfl⟩
                                    · refine Tri.run 2 [.r ⟨[], .tuple [.int .i64 v96, .int .i64 v97, .bool v98], []⟩, .g true, .g true, .g true, .r ⟨[], .bool v99, []⟩, .r ⟨[], .bool v100, []⟩, .g true, .g true, .r ⟨[], .bool v101, []⟩, .r ⟨[], .bool v102, []⟩, .g false] [.keep [2] []] (K' := [.code [] 13]) (σ' := ⟨[(2, .bool (v101 == false))], []⟩) rfl ⟨hd128, (fun _ => (w_spec_IsValidGame v2 v3 v102 hk127)), (fun _ => (w_impl_IsSuperadditive v2 v3 v101 hk126)), hd125, hd124, (fun _ => (w_spec_IsValidGame v2 v3 v100 hk123)), (fun _ => (w_impl_IsMonotone v2 v3 v99 hk122)), hd121, hd120, hd119, (fun _ => (w_spec_SuperadditiveFault v2 v3 (v96, v97, v98) hk118)), trivial⟩ rfl ?_
                                      have h := Option.some.inj h
                                      subst h
                                      exact Tri.ret rfl ⟨.inl rfl, rfl, rfl⟩
                                  · refine Tri.run 2 [.r ⟨[], .tuple [.int .i64 v96, .int .i64 v97, .bool v98], []⟩, .g true, .g true, .g true, .r ⟨[], .bool v99, []⟩, .r ⟨[], .bool v100, []⟩, .g true, .g false] [.keep [2] []] (K' := [.code [] 13]) (σ' := ⟨[(2, .bool false)], []⟩) rfl ⟨hd125, hd124, (fun _ => (w_spec_IsValidGame v2 v3 v100 hk123)), (fun _ => (w_impl_IsMonotone v2 v3 v99 hk122)), hd121, hd120, hd119, (fun _ => (w_spec_SuperadditiveFault v2 v3 (v96, v97, v98) hk118)), trivial⟩ rfl ?_
                                    have h := Option.some.inj h
                                    subst h
                                    exact Tri.ret rfl ⟨.inl rfl, rfl, rfl⟩
                                · rcases bif_some h with ⟨hd129, h⟩ | ⟨hd129, h⟩
                                  · obtain ⟨v103, hk130, h⟩ := bind_some h
                                    obtain ⟨v104, hk131, h⟩ := bind_some h
                                    rcases bif_some h with ⟨hd132, h⟩ | ⟨hd132, h⟩
                                    · refine Tri.run 2 [.r ⟨[], .tuple [.int .i64 v96, .int .i64 v97, .bool v98], []⟩, .g true, .g true, .g true, .r ⟨[], .bool v99, []⟩, .r ⟨[], .bool v100, []⟩, .g false, .g true, .r ⟨[], .bool v103, []⟩, .r ⟨[], .bool v104, []⟩, .g true] [.keep [2] []] (K' := [.code [] 13]) (σ' := ⟨[(2, .bool (v103 == (!v95)))], []⟩) rfl ⟨hd132, (fun _ => (w_spec_IsValidGame v2 v3 v104 hk131)), (fun _ => (w_impl_IsSuperadditive v2 v3 v103 hk130)), hd129, hd124, (fun _ => (w_spec_IsValidGame v2 v3 v100 hk123)), (fun _ => (w_impl_IsMonotone v2 v3 v99 hk122)), hd121, hd120, hd119, (fun _ => (w_spec_SuperadditiveFault v2 v3 (v96, v97, v98) hk118)), trivial⟩ rfl ?_
                                      have h := Option.some.inj h
                                      subst h
                                      exact Tri.ret rfl ⟨.inl rfl, rfl, rfl⟩
                                    · refine Tri.run 2 [.r ⟨[], .tuple [.int .i64 v96, .int .i64 v97, .bool v98], []⟩, .g true, .g true, .g true, .r ⟨[], .bool v99, []⟩, .r ⟨[], .bool v100, []⟩, .g false, .g true, .r ⟨[], .bool v103, []⟩, .r ⟨[], .bool v104, []⟩, .g false] [.keep [2] []] (K' := [.code [] 13]) (σ' := ⟨[(2, .bool (v103 == false))], []⟩) rfl ⟨hd132, (fun _ => (w_spec_IsValidGame v2 v3 v104 hk131)), (fun _ => (w_impl_IsSuperadditive v2 v3 v103 hk130)), hd129, hd124, (fun _ => (w_spec_IsValidGame v2 v3 v100 hk123)), (fun _ => (w_impl_IsMonotone v2 v3 v99 hk122)), hd121, hd120, hd119, (fun _ => (w_spec_SuperadditiveFault v2 v3 (v96, v97, v98) hk118)), trivial⟩ rfl ?_
                                      have h := Option.some.inj h
                                      subst h
                                      exact Tri.ret rfl ⟨.inl rfl, rfl, rfl⟩
                                  · refine Tri.run 2 [.r ⟨[], .tuple [.int .i64 v96, .int .i64 v97, .bool v98], []⟩, .g true, .g true, .g true, .r ⟨[], .bool v99, []⟩, .r ⟨[], .bool v100, []⟩, .g false, .g false] [.keep [2] []] (K' := [.code [] 13]) (σ' := ⟨[(2, .bool false)], []⟩) rfl ⟨hd129, hd124, (fun _ => (w_spec_IsValidGame v2 v3 v100 hk123)), (fun _ => (w_impl_IsMonotone v2 v3 v99 hk122)), hd121, hd120, hd119, (fun _ => (w_spec_SuperadditiveFault v2 v3 (v96, v97, v98) hk118)), trivial⟩ rfl ?_
                                    have h := Option.some.inj h
                                    subst h
                                    exact Tri.ret rfl ⟨.inl rfl, rfl, rfl⟩
                              · refine Tri.run 2 [.r ⟨[], .tuple [.int .i64 v96, .int .i64 v97, .bool v98], []⟩, .g true, .g true, .g false, .g false] [.keep [2] []] (K' := [.code [] 13]) (σ' := ⟨[(2, .bool false)], []⟩) rfl ⟨rfl, hd121, hd120, hd119, (fun _ => (w_spec_SuperadditiveFault v2 v3 (v96, v97, v98) hk118)), trivial⟩ rfl ?_
                                have h := Option.some.inj h
                                subst h
                                exact Tri.ret rfl ⟨.inl rfl, rfl, rfl⟩
                            · refine Tri.run 2 [.r ⟨[], .tuple [.int .i64 v96, .int .i64 v97, .bool v98], []⟩, .g true, .g false, .g false, .g false] [.keep [2] []] (K' := [.code [] 13]) (σ' := ⟨[(2, .bool false)], []⟩) rfl ⟨rfl, rfl, hd120, hd119, (fun _ => (w_spec_SuperadditiveFault v2 v3 (v96, v97, v98) hk118)), trivial⟩ rfl ?_
                              have h := Option.some.inj h
                              subst h
                              exact Tri.ret rfl ⟨.inl rfl, rfl, rfl⟩
                          · refine Tri.run 2 [.r ⟨[], .tuple [.int .i64 v96, .int .i64 v97, .bool v98], []⟩, .g false, .g false, .g false, .g false] [.keep [2] []] (K' := [.code [] 13]) (σ' := ⟨[(2, .bool false)], []⟩) rfl ⟨rfl, rfl, rfl, hd119, (fun _ => (w_spec_SuperadditiveFault v2 v3 (v96, v97, v98) hk118)), trivial⟩ rfl ?_
                            have h := Option.some.inj h
                            subst h
                            exact Tri.ret rfl ⟨.inl rfl, rfl, rfl⟩
                      · refine Tri.run 2 [.r ⟨[], .tuple [.int .i64 v89, .int .i64 v90, .bool v91], []⟩, .g false, .g false, .g false, .g false] [.keep [3, 12, 115] [3, 1100]] (K' := [.code [(9, 0)] 1, .code [] 10]) (σ' := ⟨[(3, .ptr 3 0), (12, .bool v88), (115, .bool false)], [(3, .box [.int .i64 v2, .sl 1100 0]), (1100, .arr 3 0 0 (.ints v3))]⟩) rfl ⟨hd114, hd113, hd112, hd111, (fun _ => (w_spec_MonotoneFault v2 v3 (v89, v90, v91) hk110)), trivial⟩ rfl ?_
                        obtain ⟨⟨v105, v106, v107⟩, hk133, h⟩ := bind_some h
                        refine Tri.run 2 [.g false, .r ⟨[], .tuple [.int .i64 v105, .int .i64 v106, .bool v107], []⟩] [.keep [3, 12, 16, 17, 18] [3, 1100]] (K' := [.code [(11, 0)] 0, .code [] 12]) (σ' := ⟨[(3, .ptr 3 0), (12, .bool v88), (16, .int .i64 v105), (17, .int .i64 v106), (18, .bool v107)], [(3, .box [.int .i64 v2, .sl 1100 0]), (1100, .arr 3 0 0 (.ints v3))]⟩) rfl ⟨(fun _ => (w_impl_SuperadditiveFault v2 v3 (v105, v106, v107) hk133)), rfl, trivial⟩ rfl ?_
                        obtain ⟨⟨v108, v109, v110⟩, hk134, h⟩ := bind_some h
                        rcases bif_some h with ⟨hd135, h⟩ | ⟨hd135, h⟩
                        · rcases bif_some h with ⟨hd136, h⟩ | ⟨hd136, h⟩
                          · rcases bif_some h with ⟨hd137, h⟩ | ⟨hd137, h⟩
                            · obtain ⟨v111, hk138, h⟩ := bind_some h
                              obtain ⟨v112, hk139, h⟩ := bind_some h
                              rcases bif_some h with ⟨hd140, h⟩ | ⟨hd140, h⟩
                              · rcases bif_some h with ⟨hd141, h⟩ | ⟨hd141, h⟩
                                · obtain ⟨v113, hk142, h⟩ := bind_some h
                                  obtain ⟨v114, hk143, h⟩ := bind_some h
                                  rcases bif_some h with ⟨hd144, h⟩ | ⟨hd144, h⟩
                                  · refine Tri.run 2 [.r ⟨[], .tuple [.int .i64 v108, .int .i64 v109, .bool v110], []⟩, .g true, .g true, .g true, .r ⟨[], .bool v111, []⟩, .r ⟨[], .bool v112, []⟩, .g true, .g true, .r ⟨[], .bool v113, []⟩, .r ⟨[], .bool v114, []⟩, .g true] [.keep [2] []] (K' := [.code [] 13]) (σ' := ⟨[(2, .bool (v113 == (!v107)))], []⟩) rfl ⟨hd144, (fun _ => (w_spec_IsValidGame v2 v3 v114 hk143)), (fun _ => (w_impl_IsSuperadditive v2 v3 v113 hk142)), hd141, hd140, (fun _ => (w_spec_IsValidGame v2 v3 v112 hk139)), (fun _ => (w_impl_IsMonotone v2 v3 v111 hk138)), hd137, hd136, hd135, (fun _ => (w_spec_SuperadditiveFault v2 v3 (v108, v109, v110) hk134)), trivial⟩ rfl ?_
                                    have h := Option.some.inj h
                                    subst h
                                    exact Tri.ret rfl ⟨.inl rfl, rfl, rfl⟩
                                  · refine Tri.run 2 [.r ⟨[], .tuple [.int .i64 v108, .int .i64 v109, .bool v110], []⟩, .g true, .g true, .g true, .r ⟨[], .bool v111, []⟩, .r ⟨[], .bool v112, []⟩, .g true, .g true, .r ⟨[], .bool v113, []⟩, .r ⟨[], .bool v114, []⟩, .g false] [.keep [2] []] (K' := [.code [] 13]) (σ' := ⟨[(2, .bool (v113 == false))], []⟩) rfl ⟨hd144, (fun _ => (w_spec_IsValidGame v2 v3 v114 hk143)), (fun _ => (w_impl_IsSuperadditive v2 v3 v113 hk142)), hd141, hd140, (fun _ => (w_spec_IsValidGame v2 v3 v112 hk139)), (fun _ => (w_impl_IsMonotone v2 v3 v111 hk138)), hd137, hd136, hd135, (fun _ => (w_spec_SuperadditiveFault v2 v3 (v108, v109, v110) hk134)), trivial⟩ rfl ?_
                                    have h := Option.some.inj h
                                    subst h
                                    exact Tri.ret rfl ⟨.inl rfl, rfl, rfl⟩
                                · refine Tri.run 2 [.r ⟨[], .tuple [.int .i64 v108, .int .i64 v109, .bool v110], []⟩, .g true, .g true, .g true, .r ⟨[], .bool v111, []⟩, .r ⟨[], .bool v112, []⟩, .g true, .g false] [.keep [2] []] (K' := [.code [] 13]) (σ' := ⟨[(2, .bool false)], []⟩) rfl ⟨hd141, hd140, (fun _ => (w_spec_IsValidGame v2 v3 v112 hk139)), (fun _ => (w_impl_IsMonotone v2 v3 v111 hk138)), hd137, hd136, hd135, (fun _ => (w_spec_SuperadditiveFault v2 v3 (v108, v109, v110) hk134)), trivial⟩ rfl ?_
                                  have h := Option.some.inj h
                                  subst h
                                  exact Tri.ret rfl ⟨.inl rfl, rfl, rfl⟩
                              · rcases bif_some h with ⟨hd145, h⟩ | ⟨hd145, h⟩
                                · obtain ⟨v115, hk146, h⟩ := bind_some h
                                  obtain ⟨v116, hk147, h⟩ := bind_some h
                                  rcases bif_some h with ⟨hd148, h⟩ | ⟨hd148, h⟩
                                  · refine Tri.run 2 [.r ⟨[], .tuple [.int .i64 v108, .int .i64 v109, .bool v110], []⟩, .g true, .g true, .g true, .r ⟨[], .bool v111, []⟩, .r ⟨[], .bool v112, []⟩, .g false, .g true, .r ⟨[], .bool v115, []⟩, .r ⟨[], .bool v116, []⟩, .g true] [.keep [2] []] (K' := [.code [] 13]) (σ' := ⟨[(2, .bool (v115 == (!v107)))], []⟩) rfl ⟨hd148, (fun _ => (w_spec_IsValidGame v2 v3 v116 hk147)), (fun _ => (w_impl_IsSuperadditive v2 v3 v115 hk146)), hd145, hd140, (fun _ => (w_spec_IsValidGame v2 v3 v112 hk139)), (fun _ => (w_impl_IsMonotone v2 v3 v111 hk138)), hd137, hd136, hd135, (fun _ => (w_spec_SuperadditiveFault v2 v3 (v108, v109, v110) hk134)), trivial⟩ rfl ?_
                                    have h := Option.some.inj h
                                    subst h
                                    exact Tri.ret rfl ⟨.inl rfl, rfl, rfl⟩
                                  · refine Tri.run 2 [.r ⟨[], .tuple [.int .i64 v108, .int .i64 v109, .bool v110], []⟩, .g true, .g true, .g true, .r ⟨[], .bool v111, []⟩, .r ⟨[], .bool v112, []⟩, .g false, .g true, .r ⟨[], .bool v115, []⟩, .r ⟨[], .bool v116, []⟩, .g false] [.keep [2] []] (K' := [.code [] 13]) (σ' := ⟨[(2, .bool (v115 == false))], []⟩) rfl ⟨hd148, (fun _ => (w_spec_IsValidGame v2 v3 v116 hk147)), (fun _ => (w_impl_IsSuperadditive v2 v3 v115 hk146)), hd145, hd140, (fun _ => (w_spec_IsValidGame v2 v3 v112 hk139)), (fun _ => (w_impl_IsMonotone v2 v3 v111 hk138)), hd137, hd136, hd135, (fun _ => (w_spec_SuperadditiveFault v2 v3 (v108, v109, v110) hk134)), trivial⟩ rfl ?_
                                    have h := Option.some.inj h
                                    subst h
                                    exact Tri.ret rfl ⟨.inl rfl, rfl, rfl⟩
                                · refine Tri.run 2 [.r ⟨[], .tuple [.int .i64 v108, .int .i64 v109, .bool v110], []⟩, .g true, .g true, .g true, .r ⟨[], .bool v111, []⟩, .r ⟨[], .bool v112, []⟩, .g false, .g false] [.keep [2] []] (K' := [.code [] 13]) (σ' := ⟨[(2, .bool false)], []⟩) rfl ⟨hd145, hd140, (fun _ => (w_spec_IsValidGame v2 v3 v112 hk139)), (fun _ => (w_impl_IsMonotone v2 v3 v111 hk138)), hd137, hd136, hd135, (fun _ => (w_spec_SuperadditiveFault v2 v3 (v108, v109, v110) hk134)), trivial⟩ rfl ?_
                                  have h := Option.some.inj h
                                  subst h
                                  exact Tri.ret rfl ⟨.inl rfl, rfl, rfl⟩
                            · refine Tri.run 2 [.r ⟨[], .tuple [.int .i64 v108, .int .i64 v109, .bool v110], []⟩, .g true, .g true, .g false, .g false] [.keep [2] []] (K' := [.code [] 13]) (σ' := ⟨[(2, .bool false)], []⟩) rfl ⟨rfl, hd137, hd136, hd135, (fun _ => (w_spec_SuperadditiveFault v2 v3 (v108, v109, v110) hk134)), trivial⟩ rfl ?_
                              have h := Option.some.inj h
                              subst h
                              exact Tri.ret rfl ⟨.inl rfl, rfl, rfl⟩
                          · refine Tri.run 2 [.r ⟨[], .tuple [.int .i64 v108, .int .i64 v109, .bool v110], []⟩, .g true, .g false, .g false, .g false] [.keep [2] []] (K' := [.code [] 13]) (σ' := ⟨[(2, .bool false)], []⟩) rfl ⟨rfl, rfl, hd136, hd135, (fun _ => (w_spec_SuperadditiveFault v2 v3 (v108, v109, v110) hk134)), trivial⟩ rfl ?_
                            have h := Option.some.inj h
                            subst h
                            exact Tri.ret rfl ⟨.inl rfl, rfl, rfl⟩
                        · refine Tri.run 2 [.r ⟨[], .tuple [.int .i64 v108, .int .i64 v109, .bool v110], []⟩, .g false, .g false, .g false, .g false] [.keep [2] []] (K' := [.code [] 13]) (σ' := ⟨[(2, .bool false)], []⟩) rfl ⟨rfl, rfl, rfl, hd135, (fun _ => (w_spec_SuperadditiveFault v2 v3 (v108, v109, v110) hk134)), trivial⟩ rfl ?_
                          have h := Option.some.inj h
                          subst h
                          exact Tri.ret rfl ⟨.inl rfl, rfl, rfl⟩
            · refine Tri.run 2 [.g false, .g false] [.keep [3, 81] [3, 1100]] (K' := [.code [(6, 0)] 1, .code [] 7]) (σ' := ⟨[(3, .ptr 3 0), (81, .bool false)], [(3, .box [.int .i64 v2, .sl 1100 0]), (1100, .arr 3 0 0 (.ints v3))]⟩) rfl ⟨hd101, rfl, trivial⟩ rfl ?_
              obtain ⟨⟨v117, v118, v119⟩, hk149, h⟩ := bind_some h
              refine Tri.run 2 [.g false, .r ⟨[], .tuple [.int .i64 v117, .int .i64 v118, .bool v119], []⟩] [.keep [3, 10, 11, 12] [3, 1100]] (K' := [.code [(8, 0)] 0, .code [] 9]) (σ' := ⟨[(3, .ptr 3 0), (10, .int .i64 v117), (11, .int .i64 v118), (12, .bool v119)], [(3, .box [.int .i64 v2, .sl 1100 0]), (1100, .arr 3 0 0 (.ints v3))]⟩) rfl ⟨(fun _ => (w_impl_MonotoneFault v2 v3 (v117, v118, v119) hk149)), rfl, trivial⟩ rfl ?_
              obtain ⟨⟨v120, v121, v122⟩, hk150, h⟩ := bind_some h
              rcases bif_some h with ⟨hd151, h⟩ | ⟨hd151, h⟩
              · refine Tri.run 2 [.r ⟨[], .tuple [.int .i64 v120, .int .i64 v121, .bool v122], []⟩, .g true, .g true, .g true] [.keep [3, 12, 115] [3, 1100]] (K' := [.code [(9, 0)] 1, .code [] 10]) (σ' := ⟨[(3, .ptr 3 0), (12, .bool v119), (115, .bool true)], [(3, .box [.int .i64 v2, .sl 1100 0]), (1100, .arr 3 0 0 (.ints v3))]⟩) rfl ⟨rfl, rfl, hd151, (fun _ => (w_spec_MonotoneFault v2 v3 (v120, v121, v122) hk150)), trivial⟩ rfl ?_
                refine Tri.run 2 [.g true] [.keep [2] []] (K' := [.code [(9, 0), (1, 0)] 1, .code [] 10]) (σ' := ⟨[(2, .bool false)], []⟩) rfl ⟨rfl, trivial⟩ rfl ?_
                have h := Option.some.inj h
                subst h
                exact Tri.ret rfl ⟨.inl rfl, rfl, rfl⟩
              · rcases bif_some h with ⟨hd152, h⟩ | ⟨hd152, h⟩
                · refine Tri.run 2 [.r ⟨[], .tuple [.int .i64 v120, .int .i64 v121, .bool v122], []⟩, .g false, .g true, .g true] [.keep [3, 12, 115] [3, 1100]] (K' := [.code [(9, 0)] 1, .code [] 10]) (σ' := ⟨[(3, .ptr 3 0), (12, .bool v119), (115, .bool true)], [(3, .box [.int .i64 v2, .sl 1100 0]), (1100, .arr 3 0 0 (.ints v3))]⟩) rfl ⟨rfl, hd152, hd151, (fun _ => (w_spec_MonotoneFault v2 v3 (v120, v121, v122) hk150)), trivial⟩ rfl ?_
                  refine Tri.run 2 [.g true] [.keep [2] []] (K' := [.code [(9, 0), (1, 0)] 1, .code [] 10]) (σ' := ⟨[(2, .bool false)], []⟩) rfl ⟨rfl, trivial⟩ rfl ?_
                  have h := Option.some.inj h
                  subst h
                  exact Tri.ret rfl ⟨.inl rfl, rfl, rfl⟩
                · rcases bif_some h with ⟨hd153, h⟩ | ⟨hd153, h⟩
                  · refine Tri.run 2 [.r ⟨[], .tuple [.int .i64 v120, .int .i64 v121, .bool v122], []⟩, .g false, .g false, .g true] [.keep [3, 12, 115] [3, 1100]] (K' := [.code [(9, 0)] 1, .code [] 10]) (σ' := ⟨[(3, .ptr 3 0), (12, .bool v119), (115, .bool true)], [(3, .box [.int .i64 v2, .sl 1100 0]), (1100, .arr 3 0 0 (.ints v3))]⟩) rfl ⟨hd153, hd152, hd151, (fun _ => (w_spec_MonotoneFault v2 v3 (v120, v121, v122) hk150)), trivial⟩ rfl ?_
                    refine Tri.run 2 [.g true] [.keep [2] []] (K' := [.code [(9, 0), (1, 0)] 1, .code [] 10]) (σ' := ⟨[(2, .bool false)], []⟩) rfl ⟨rfl, trivial⟩ rfl ?_
                    have h := Option.some.inj h
                    subst h
                    exact Tri.ret rfl ⟨.inl rfl, rfl, rfl⟩
                  · rcases bif_some h with ⟨hd154, h⟩ | ⟨hd154, h⟩
                    · obtain ⟨v123, hk155, h⟩ := bind_some h
                      refine Tri.run 2 [.r ⟨[], .tuple [.int .i64 v120, .int .i64 v121, .bool v122], []⟩, .g false, .g false, .g false, .g true, .r ⟨[], .bool v123, []⟩] [.keep [3, 12, 115] [3, 1100]] (K' := [.code [(9, 0)] 1, .code [] 10]) (σ' := ⟨[(3, .ptr 3 0), (12, .bool v119), (115, .bool (!v123))], [(3, .box [.int .i64 v2, .sl 1100 0]), (1100, .arr 3 0 0 (.ints v3))]⟩) rfl ⟨(fun _ => (w_impl_IsSubset v117 v118 v123 hk155)), hd154, hd153, hd152, hd151, (fun _ => (w_spec_MonotoneFault v2 v3 (v120, v121, v122) hk150)), trivial⟩ rfl ?_
                      rcases bif_some h with ⟨hd156, h⟩ | ⟨hd156, h⟩
                      · refine Tri.run 2 [.g true] [.keep [2] []] (K' := [.code [(9, 0), (1, 0)] 1, .code [] 10]) (σ' := ⟨[(2, .bool false)], []⟩) rfl ⟨hd156, trivial⟩ rfl ?_
                        have h := Option.some.inj h
                        subst h
                        exact Tri.ret rfl ⟨.inl rfl, rfl, rfl⟩
                      · obtain ⟨⟨v124, v125, v126⟩, hk157, h⟩ := bind_some h
                        refine Tri.run 2 [.g false, .r ⟨[], .tuple [.int .i64 v124, .int .i64 v125, .bool v126], []⟩] [.keep [3, 12, 16, 17, 18] [3, 1100]] (K' := [.code [(11, 0)] 0, .code [] 12]) (σ' := ⟨[(3, .ptr 3 0), (12, .bool v119), (16, .int .i64 v124), (17, .int .i64 v125), (18, .bool v126)], [(3, .box [.int .i64 v2, .sl 1100 0]), (1100, .arr 3 0 0 (.ints v3))]⟩) rfl ⟨(fun _ => (w_impl_SuperadditiveFault v2 v3 (v124, v125, v126) hk157)), hd156, trivial⟩ rfl ?_
                        obtain ⟨⟨v127, v128, v129⟩, hk158, h⟩ := bind_some h
                        rcases bif_some h with ⟨hd159, h⟩ | ⟨hd159, h⟩
                        · rcases bif_some h with ⟨hd160, h⟩ | ⟨hd160, h⟩
                          · rcases bif_some h with ⟨hd161, h⟩ | ⟨hd161, h⟩
                            · obtain ⟨v130, hk162, h⟩ := bind_some h
                              obtain ⟨v131, hk163, h⟩ := bind_some h
                              rcases bif_some h with ⟨hd164, h⟩ | ⟨hd164, h⟩
                              · rcases bif_some h with ⟨hd165, h⟩ | ⟨hd165, h⟩
                                · obtain ⟨v132, hk166, h⟩ := bind_some h
                                  obtain ⟨v133, hk167, h⟩ := bind_some h
                                  rcases bif_some h with ⟨hd168, h⟩ | ⟨hd168, h⟩
                                  · refine Tri.run 2 [.r ⟨[], .tuple [.int .i64 v127, .int .i64 v128, .bool v129], []⟩, .g true, .g true, .g true, .r ⟨[], .bool v130, []⟩, .r ⟨[], .bool v131, []⟩, .g true, .g true, .r ⟨[], .bool v132, []⟩, .r ⟨[], .bool v133, []⟩, .g true] [.keep [2] []] (K' := [.code [] 13]) (σ' := ⟨[(2, .bool (v132 == (!v126)))], []⟩) rfl ⟨hd168, (fun _ => (w_spec_IsValidGame v2 v3 v133 hk167)), (fun _ => (w_impl_IsSuperadditive v2 v3 v132 hk166)), hd165, hd164, (fun _ => (w_spec_IsValidGame v2 v3 v131 hk163)), (fun _ => (w_impl_IsMonotone v2 v3 v130 hk162)), hd161, hd160, hd159, (fun _ => (w_spec_SuperadditiveFault v2 v3 (v127, v128, v129) hk158)), trivial⟩ rfl ?_
                                    have h := Option.some.inj h
                                    subst h
                                    exact Tri.ret rfl ⟨.inl rfl, rfl, rfl⟩
                                  · refine Tri.run 2 [.r ⟨[], .tuple [.int .i64 v127, .int .i64 v128, .bool v129], []⟩, .g true, .g true, .g true, .r ⟨[], .bool v130, []⟩, .r ⟨[], .bool v131, []⟩, .g true, .g true, .r ⟨[], .bool v132, []⟩, .r ⟨[], .bool v133, []⟩, .g false] [.keep [2] []] (K' := [.code [] 13]) (σ' := ⟨[(2, .bool (v132 == false))], []⟩) rfl ⟨hd168, (fun _ => (w_spec_IsValidGame v2 v3 v133 hk167)), (fun _ => (w_impl_IsSuperadditive v2 v3 v132 hk166)), hd165, hd164, (fun _ => (w_spec_IsValidGame v2 v3 v131 hk163)), (fun _ => (w_impl_IsMonotone v2 v3 v130 hk162)), hd161, hd160, hd159, (fun _ => (w_spec_SuperadditiveFault v2 v3 (v127, v128, v129) hk158)), trivial⟩ rfl ?_
                                    have h := Option.some.inj h
                                    subst h
                                    exact Tri.ret rfl ⟨.inl rfl, rfl, rfl⟩
                                · refine Tri.run 2 [.r ⟨[], .tuple [.int .i64 v127, .int .i64 v128, .bool v129], []⟩, .g true, .g true, .g true, .r ⟨[], .bool v130, []⟩, .r ⟨[], .bool v131, []⟩, .g true, .g false] [.keep [2] []] (K' := [.code [] 13]) (σ' := ⟨[(2, .bool false)], []⟩) rfl ⟨hd165, hd164, (fun _ => (w_spec_IsValidGame v2 v3 v131 hk163)), (fun _ => (w_impl_IsMonotone v2 v3 v130 hk162)), hd161, hd160, hd159, (fun _ => (w_spec_SuperadditiveFault v2 v3 (v127, v128, v129) hk158)), trivial⟩ rfl ?_
                                  have h := Option.some.inj h
                                  subst h
                                  exact Tri.ret rfl ⟨.inl rfl, rfl, rfl⟩
                              · rcases bif_some h with ⟨hd169, h⟩ | ⟨hd169, h⟩
                                · obtain ⟨v134, hk170, h⟩ := bind_some h
                                  obtain ⟨v135, hk171, h⟩ := bind_some h
                                  rcases bif_some h with ⟨hd172, h⟩ | ⟨hd172, h⟩
                                  · refine Tri.run 2 [.r ⟨[], .tuple [.int .i64 v127, .int .i64 v128, .bool v129], []⟩, .g true, .g true, .g true, .r ⟨[], .bool v130, []⟩, .r ⟨[], .bool v131, []⟩, .g false, .g true, .r ⟨[], .bool v134, []⟩, .r ⟨[], .bool v135, []⟩, .g true] [.keep [2] []] (K' := [.code [] 13]) (σ' := ⟨[(2, .bool (v134 == (!v126)))], []⟩) rfl ⟨hd172, (fun _ => (w_spec_IsValidGame v2 v3 v135 hk171)), (fun _ => (w_impl_IsSuperadditive v2 v3 v134 hk170)), hd169, hd164, (fun _ => (w_spec_IsValidGame v2 v3 v131 hk163)), (fun _ => (w_impl_IsMonotone v2 v3 v130 hk162)), hd161, hd160, hd159, (fun _ => (w_spec_SuperadditiveFault v2 v3 (v127, v128, v129) hk158)), trivial⟩ rfl ?_
                                    have h := Option.some.inj h
                                    subst h
                                    exact Tri.ret rfl ⟨.inl rfl, rfl, rfl⟩
                                  · refine Tri.run 2 [.r ⟨[], .tuple [.int .i64 v127, .int .i64 v128, .bool v129], []⟩, .g true, .g true, .g true, .r ⟨[], .bool v130, []⟩, .r ⟨[], .bool v131, []⟩, .g false, .g true, .r ⟨[], .bool v134, []⟩, .r ⟨[], .bool v135, []⟩, .g false] [.keep [2] []] (K' := [.code [] 13]) (σ' := ⟨[(2, .bool (v134 == false))], []⟩) rfl ⟨hd172, (fun _ => (w_spec_IsValidGame v2 v3 v135 hk171)), (fun _ => (w_impl_IsSuperadditive v2 v3 v134 hk170)), hd169, hd164, (fun _ => (w_spec_IsValidGame v2 v3 v131 hk163)), (fun _ => (w_impl_IsMonotone v2 v3 v130 hk162)), hd161, hd160, hd159, (fun _ => (w_spec_SuperadditiveFault v2 v3 (v127, v128, v129) hk158)), trivial⟩ rfl ?_
                                    have h := Option.some.inj h
                                    subst h
                                    exact Tri.ret rfl ⟨.inl rfl, rfl, rfl⟩
                                · refine Tri.run 2 [.r ⟨[], .tuple [.int .i64 v127, .int .i64 v128, .bool v129], []⟩, .g true, .g true, .g true, .r ⟨[], .bool v130, []⟩, .r ⟨[], .bool v131, []⟩, .g false, .g false] [.keep [2] []] (K' := [.code [] 13]) (σ' := ⟨[(2, .bool false)], []⟩) rfl ⟨hd169, hd164, (fun _ => (w_spec_IsValidGame v2 v3 v131 hk163)), (fun _ => (w_impl_IsMonotone v2 v3 v130 hk162)), hd161, hd160, hd159, (fun _ => (w_spec_SuperadditiveFault v2 v3 (v127, v128, v129) hk158)), trivial⟩ rfl ?_
                                  have h := Option.some.inj h
                                  subst h
                                  exact Tri.ret rfl ⟨.inl rfl, rfl, rfl⟩
                            · refine Tri.run 2 [.r ⟨[], .tuple [.int .i64 v127, .int .i64 v128, .bool v129], []⟩, .g true, .g true, .g false, .g false] [.keep [2] []] (K' := [.code [] 13]) (σ' := ⟨[(2, .bool false)], []⟩) rfl ⟨rfl, hd161, hd160, hd159, (fun _ => (w_spec_SuperadditiveFault v2 v3 (v127, v128, v129) hk158)), trivial⟩ rfl ?_
                              have h := Option.some.inj h
                              subst h
                              exact Tri.ret rfl ⟨.inl rfl, rfl, rfl⟩
                          · refine Tri.run 2 [.r ⟨[], .tuple [.int .i64 v127, .int .i64 v128, .bool v129], []⟩, .g true, .g false, .g false, .g false] [.keep [2] []] (K' := [.code [] 13]) (σ' := ⟨[(2, .bool false)], []⟩) rfl ⟨rfl, rfl, hd160, hd159, (fun _ => (w_spec_SuperadditiveFault v2 v3 (v127, v128, v129) hk158)), trivial⟩ rfl ?_
                            have h := Option.some.inj h
                            subst h
                            exact Tri.ret rfl ⟨.inl rfl, rfl, rfl⟩
                        · refine Tri.run 2 [.r ⟨[], .tuple [.int .i64 v127, .int .i64 v128, .bool v129], []⟩, .g false, .g false, .g false, .g false] [.keep [2] []] (K' := [.code [] 13]) (σ' := ⟨[(2, .bool false)], []⟩) rfl ⟨rfl, rfl, rfl, hd159, (fun _ => (w_spec_SuperadditiveFault v2 v3 (v127, v128, v129) hk158)), trivial⟩ rfl ?_
                          have h := Option.some.inj h
                          subst h
                          exact Tri.ret rfl ⟨.inl rfl, rfl, rfl⟩
                    · refine Tri.run 2 [.r ⟨[], .tuple [.int .i64 v120, .int .i64 v121, .bool v122], []⟩, .g false, .g false, .g false, .g false] [.keep [3, 12, 115] [3, 1100]] (K' := [.code [(9, 0)] 1, .code [] 10]) (σ' := ⟨[(3, .ptr 3 0), (12, .bool v119), (115, .bool false)], [(3, .box [.int .i64 v2, .sl 1100 0]), (1100, .arr 3 0 0 (.ints v3))]⟩) rfl ⟨hd154, hd153, hd152, hd151, (fun _ => (w_spec_MonotoneFault v2 v3 (v120, v121, v122) hk150)), trivial⟩ rfl ?_
                      obtain ⟨⟨v136, v137, v138⟩, hk173, h⟩ := bind_some h
                      refine Tri.run 2 [.g false, .r ⟨[], .tuple [.int .i64 v136, .int .i64 v137, .bool v138], []⟩] [.keep [3, 12, 16, 17, 18] [3, 1100]] (K' := [.code [(11, 0)] 0, .code [] 12]) (σ' := ⟨[(3, .ptr 3 0), (12, .bool v119), (16, .int .i64 v136), (17, .int .i64 v137), (18, .bool v138)], [(3, .box [.int .i64 v2, .sl 1100 0]), (1100, .arr 3 0 0 (.ints v3))]⟩) rfl ⟨(fun _ => (w_impl_SuperadditiveFault v2 v3 (v136, v137, v138) hk173)), rfl, trivial⟩ rfl ?_
                      obtain ⟨⟨v139, v140, v141⟩, hk174, h⟩ := bind_some h
                      rcases bif_some h with ⟨hd175, h⟩ | ⟨hd175, h⟩
                      · rcases bif_some h with ⟨hd176, h⟩ | ⟨hd176, h⟩
                        · rcases bif_some h with ⟨hd177, h⟩ | ⟨hd177, h⟩
                          · obtain ⟨v142, hk178, h⟩ := bind_some h
                            obtain ⟨v143, hk179, h⟩ := bind_some h
                            rcases bif_some h with ⟨hd180, h⟩ | ⟨hd180, h⟩
                            · rcases bif_some h with ⟨hd181, h⟩ | ⟨hd181, h⟩
                              · obtain ⟨v144, hk182, h⟩ := bind_some h
                                obtain ⟨v145, hk183, h⟩ := bind_some h
                                rcases bif_some h with ⟨hd184, h⟩ | ⟨hd184, h⟩
                                · refine Tri.run 2 [.r ⟨[], .tuple [.int .i64 v139, .int .i64 v140, .bool v141], []⟩, .g true, .g true, .g true, .r ⟨[], .bool v142, []⟩, .r ⟨[], .bool v143, []⟩, .g true, .g true, .r ⟨[], .bool v144, []⟩, .r ⟨[], .bool v145, []⟩, .g true] [.keep [2] []] (K' := [.code [] 13]) (σ' := ⟨[(2, .bool (v144 == (!v138)))], []⟩) rfl ⟨hd184, (fun _ => (w_spec_IsValidGame v2 v3 v145 hk183)), (fun _ => (w_impl_IsSuperadditive v2 v3 v144 hk182)), hd181, hd180, (fun _ => (w_spec_IsValidGame v2 v3 v143 hk179)), (fun _ => (w_impl_IsMonotone v2 v3 v142 hk178)), hd177, hd176, hd175, (fun _ => (w_spec_SuperadditiveFault v2 v3 (v139, v140, v141) hk174)), trivial⟩ rfl ?_
                                  have h := Option.some.inj h
                                  subst h
                                  exact Tri.ret rfl ⟨.inl rfl, rfl, rfl⟩
                                · refine Tri.run 2 [.r ⟨[], .tuple [.int .i64 v139, .int .i64 v140, .bool v141], []⟩, .g true, .g true, .g true, .r ⟨[], .bool v142, []⟩, .r ⟨[], .bool v143, []⟩, .g true, .g true, .r ⟨[], .bool v144, []⟩, .r ⟨[], .bool v145, []⟩, .g false] [.keep [2] []] (K' := [.code [] 13]) (σ' := ⟨[(2, .bool (v144 == false))], []⟩) rfl ⟨hd184, (fun _ => (w_spec_IsValidGame v2 v3 v145 hk183)), (fun _ => (w_impl_IsSuperadditive v2 v3 v144 hk182)), hd181, hd180, (fun _ => (w_spec_IsValidGame v2 v3 v143 hk179)), (fun _ => (w_impl_IsMonotone v2 v3 v142 hk178)), hd177, hd176, hd175, (fun _ => (w_spec_SuperadditiveFault v2 v3 (v139, v140, v141) hk174)), trivial⟩ rfl ?_
                                  have h := Option.some.inj h
                                  subst h
                                  exact Tri.ret rfl ⟨.inl rfl, rfl, rfl⟩
                              · refine Tri.run 2 [.r ⟨[], .tuple [.int .i64 v139, .int .i64 v140, .bool v141], []⟩, .g true, .g true, .g true, .r ⟨[], .bool v142, []⟩, .r ⟨[], .bool v143, []⟩, .g true, .g false] [.keep [2] []] (K' := [.code [] 13]) (σ' := ⟨[(2, .bool false)], []⟩) rfl ⟨hd181, hd180, (fun _ => (w_spec_IsValidGame v2 v3 v143 hk179)), (fun _ => (w_impl_IsMonotone v2 v3 v142 hk178)), hd177, hd176, hd175, (fun _ => (w_spec_SuperadditiveFault v2 v3 (v139, v140, v141) hk174)), trivial⟩ rfl ?_
                                have h := Option.some.inj h
                                subst h
                                exact Tri.ret rfl ⟨.inl rfl, rfl, rfl⟩
                            · rcases bif_some h with ⟨hd185, h⟩ | ⟨hd185, h⟩
                              · obtain ⟨v146, hk186, h⟩ := bind_some h
                                obtain ⟨v147, hk187, h⟩ := bind_some h
                                rcases bif_some h with ⟨hd188, h⟩ | ⟨hd188, h⟩
                                · refine Tri.run 2 [.r ⟨[], .tuple [.int .i64 v139, .int .i64 v140, .bool v141], []⟩, .g true, .g true, .g true, .r ⟨[], .bool v142, []⟩, .r ⟨[], .bool v143, []⟩, .g false, .g true, .r ⟨[], .bool v146, []⟩, .r ⟨[], .bool v147, []⟩, .g true] [.keep [2] []] (K' := [.code [] 13]) (σ' := ⟨[(2, .bool (v146 == (!v138)))], []⟩) rfl ⟨hd188, (fun _ => (w_spec_IsValidGame v2 v3 v147 hk187)), (fun _ => (w_impl_IsSuperadditive v2 v3 v146 hk186)), hd185, hd180, (fun _ => (w_spec_IsValidGame v2 v3 v143 hk179)), (fun _ => (w_impl_IsMonotone v2 v3 v142 hk178)), hd177, hd176, hd175, (fun _ => (w_spec_SuperadditiveFault v2 v3 (v139, v140, v141) hk174)), trivial⟩ rfl ?_
                                  have h := Option.some.inj h
                                  subst h
                                  exact Tri.ret rfl ⟨.inl rfl, rfl, rfl⟩
                                · refine Tri.run 2 [.r ⟨[], .tuple [.int .i64 v139, .int .i64 v140, .bool v141], []⟩, .g true, .g true, .g true, .r ⟨[], .bool v142, []⟩, .r ⟨[], .bool v143, []⟩, .g false, .g true, .r ⟨[], .bool v146, []⟩, .r ⟨[], .bool v147, []⟩, .g false] [.keep [2] []] (K' := [.code [] 13]) (σ' := ⟨[(2, .bool (v146 == false))], []⟩) rfl ⟨hd188, (fun _ => (w_spec_IsValidGame v2 v3 v147 hk187)), (fun _ => (w_impl_IsSuperadditive v2 v3 v146 hk186)), hd185, hd180, (fun _ => (w_spec_IsValidGame v2 v3 v143 hk179)), (fun _ => (w_impl_IsMonotone v2 v3 v142 hk178)), hd177, hd176, hd175, (fun _ => (w_spec_SuperadditiveFault v2 v3 (v139, v140, v141) hk174)), trivial⟩ rfl ?_
                                  have h := Option.some.inj h
                                  subst h
                                  exact Tri.ret rfl ⟨.inl rfl, rfl, rfl⟩
                              · refine Tri.run 2 [.r ⟨[], .tuple [.int .i64 v139, .int .i64 v140, .bool v141], []⟩, .g true, .g true, .g true, .r ⟨[], .bool v142, []⟩, .r ⟨[], .bool v143, []⟩, .g false, .g false] [.keep [2] []] (K' := [.code [] 13]) (σ' := ⟨[(2, .bool false)], []⟩) rfl ⟨hd185, hd180, (fun _ => (w_spec_IsValidGame v2 v3 v143 hk179)), (fun _ => (w_impl_IsMonotone v2 v3 v142 hk178)), hd177, hd176, hd175, (fun _ => (w_spec_SuperadditiveFault v2 v3 (v139, v140, v141) hk174)), trivial⟩ rfl ?_
                                have h := Option.some.inj h
                                subst h
                                exact Tri.ret rfl ⟨.inl rfl, rfl, rfl⟩
                          · refine Tri.run 2 [.r ⟨[], .tuple [.int .i64 v139, .int .i64 v140, .bool v141], []⟩, .g true, .g true, .g false, .g false] [.keep [2] []] (K' := [.code [] 13]) (σ' := ⟨[(2, .bool false)], []⟩) rfl ⟨rfl, hd177, hd176, hd175, (fun _ => (w_spec_SuperadditiveFault v2 v3 (v139, v140, v141) hk174)), trivial⟩ rfl ?_
                            have h := Option.some.inj h
                            subst h
                            exact Tri.ret rfl ⟨.inl rfl, rfl, rfl⟩
                        · refine Tri.run 2 [.r ⟨[], .tuple [.int .i64 v139, .int .i64 v140, .bool v141], []⟩, .g true, .g false, .g false, .g false] [.keep [2] []] (K' := [.code [] 13]) (σ' := ⟨[(2, .bool false)], []⟩) rfl ⟨rfl, rfl, hd176, hd175, (fun _ => (w_spec_SuperadditiveFault v2 v3 (v139, v140, v141) hk174)), trivial⟩ rfl ?_
                          have h := Option.some.inj h
                          subst h
                          exact Tri.ret rfl ⟨.inl rfl, rfl, rfl⟩
                      · refine Tri.run 2 [.r ⟨[], .tuple [.int .i64 v139, .int .i64 v140, .bool v141], []⟩, .g false, .g false, .g false, .g false] [.keep [2] []] (K' := [.code [] 13]) (σ' := ⟨[(2, .bool false)], []⟩) rfl ⟨rfl, rfl, rfl, hd175, (fun _ => (w_spec_SuperadditiveFault v2 v3 (v139, v140, v141) hk174)), trivial⟩ rfl ?_
                        have h := Option.some.inj h
                        subst h
                        exact Tri.ret rfl ⟨.inl rfl, rfl, rfl⟩
end Go.Proofs.Ytmlfjoppaciknaa
