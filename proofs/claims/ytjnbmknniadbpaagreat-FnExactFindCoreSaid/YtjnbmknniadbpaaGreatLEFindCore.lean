/- The plain laws: what the models of FnExactFindCore compute. No condition beyond those that each theorem names. -/
import Derived.Test.YtjnbmknniadbpaaGreatLEFindCorea
namespace Go.Proofs.YtjnbmknniadbpaaGreat
open Go.AM
theorem impl_check (A : List (List Int)) (B : List Int) (C : List Q) (h : lpOk A B C = true) (st : Int) (X Y R : List Q) (vn vd p : Int) (hX : X.length ≤ 1048576) (hY : Y.length ≤ 1048576) (hR : R.length ≤ 1048576) :
  m_impl_CheckLP A B C st X Y R vn vd p = some (chkI A B C st X Y R vn vd) := by
 obtain ⟨p1,p2,p3,p4,p5,p6⟩ := lpOk_parts h
 have hroom : (room : Nat) = 1099511627776 := rfl
 have hAr : ∀ i,i < A.length → (A.getD i []).length ≤ 1048576 := fun i hi => by rw [(p1 i hi).1]; omega
 have hfeas := impl_feas A B C X (by omega) hAr (by omega) (by omega) hX
 have hrB := impl_rats B (by omega) (small_ok p5)
 have hdB := impl_dot Y (ratsOf B) hY
 rw [dotQ_comm] at hdB
 unfold m_impl_CheckLP m_impl_notNegative chkI chkS
 rw [impl_lp A B C (by omega) hAr (by omega) (by omega),h,Option.bind_some,Bool.not_true,cond_false,hfeas,hrB]
 cases h1 : (st == 1) with
 | true =>
  rw [cond_true,cond_true]
  rw [impl_dualB A B C Y h hY,impl_dot C X (by omega),neI]
  unfold optE
  dsimp only [Option.bind_some]
  rw [hdB]
  rcases dotQ C X with ⟨a,b,o1⟩
  rcases dotQ (ratsOf B) Y with ⟨c,d,o2⟩
  dsimp only [Option.bind_some]
  cases feasB A B C X <;> cases decide (Y.length = B.length) <;> cases (List.range C.length).all (duF A Y C) <;> cases o1 <;> cases o2 <;> cases (a == c) <;> cases (b == d) <;> rfl
 | false =>
  rw [cond_false,cond_false]
  cases h2 : (st == 2) with
  | true =>
   rw [cond_true,cond_false,cond_true,neI,impl_dualG A B C Y h hY,duG_all]
   dsimp only [Option.bind_some]
   rw [hdB]
   rcases dotQ (ratsOf B) Y with ⟨c,d,o2⟩
   dsimp only [Option.bind_some]
   cases decide (Y.length = B.length) <;> cases duS A Y (zer C.length) C.length <;> cases o2 <;> rfl
  | false =>
   rw [cond_false,cond_false,cond_false]
   cases h3 : (st == 3) with
   | false => rfl
   | true =>
    rw [cond_true,cond_true,impl_dot C R (by omega),eqI,impl_nn1 R hR,Int.toNat_natCast,impl_gv A B C R (List.replicate B.length 0) (by omega) (fun i hi => ⟨hAr i hi,(p1 i hi).2⟩) (by rw [List.length_replicate,p4])]
    have hgr : ((0 : Int) ≤ (B.length : Int) ∧ (B.length : Int) = (B.length : Int) ∧ (B.length : Int) ≤ (room : Int)) := ⟨by omega,rfl,by omega⟩
    rcases dotQ C R with ⟨a,b,o1⟩
    dsimp only [Option.bind_some]
    rw [grd_pos hgr]
    cases feasB A B C X <;> cases decide (R.length = C.length) <;> cases nnB R <;> cases gvB A R (List.replicate B.length 0) <;> cases o1 <;> rfl
def smC (C : List Q) : Prop := ∀ j,j < C.length → (-100000000 ≤ (C.getD j ⟨0,0⟩).num ∧ (C.getD j ⟨0,0⟩).num ≤ 100000000) ∧ (C.getD j ⟨0,0⟩).den ≤ 100000000
theorem cost2_at (C : List Q) (m j : Nat) (h : j < C.length) : qg (cost2 C m) j = qg C j := by
 unfold qg cost2
 rw [getD_app1 _ _ _ _ h]
theorem cost2_art (C : List Q) (m i : Nat) (h : i < m) : qg (cost2 C m) (C.length + i) = 0 := by
 unfold qg cost2
 rw [getD_app2 _ _ _ _ _ rfl,zer_at m i h]
 exact rv01
theorem dlF_val {n m : Nat} {B : List Int} {k2 : List Q} (hv : ∀ j,j ≤ n + m → vq (k2.getD j ⟨0,0⟩)) (i : Nat) (hi : i < m) : vq ((dlF B k2 n m 0).getD i ⟨0,0⟩) ∧ qg (dlF B k2 n m 0) i = ((sgB B i : Int) : Rat) * (-(qg k2 (n + i))) := by
 have hq := hv (n + i) (by omega)
 unfold qg dlF
 rw [tab_getD _ _ _ _ hi]
 have hdl : dlQ k2 n 0 i = (-(k2.getD (n + i) ⟨0,0⟩).num,(k2.getD (n + i) ⟨0,0⟩).den,true) := sub0 hq
 unfold dlE sgB qr vq
 rw [hdl]
 dsimp only
 by_cases h0 : B.getD i 0 < 0
 ·rw [if_pos h0,if_pos h0]
  refine ⟨by rw [Int.neg_neg]; exact hq,?_⟩
  rw [rv_neg,rv_neg]
  have : ((-1 : Int) : Rat) = -1 := rfl
  rw [this]
  grind
 ·rw [if_neg h0,if_neg h0]
  refine ⟨by rw [validQ_neg]; exact hq,?_⟩
  rw [rv_neg]
  have : ((1 : Int) : Rat) = 1 := rfl
  rw [this]
  grind
theorem entF_pos {costs : List Q} {n : Nat} (hl : n ≤ costs.length) (h : entF costs (n : Int) < 0) (j : Nat) (hj : j < n) : ¬ cmpQ (costs.getD j ⟨0,0⟩).num (costs.getD j ⟨0,0⟩).den 0 1 < 0 := by
 unfold entF at h
 rw [if_pos (by omega),Int.toNat_natCast] at h
 split at h
 ·omega
 ·rename_i hn
  rw [List.find?_range_eq_none] at hn
  have := hn j hj
  simpa using this
theorem red_dual {A : List (List Int)} {B : List Int} {C : List Q} {r : List (List Q)} {b : List Int} {k2 : List Q} (hg : GT C.length A.length r b) (hi : TInv (stS A B C.length) C.length A.length (tv r) (bn b)) (hc : costF r b (C.length : Int) (cost2 C A.length) = (true,k2)) (j : Nat) (hj : j < C.length) :
  qg k2 j = qg C j - sR (fun i => ag A i j * qg (dlF B k2 C.length A.length 0) i) A.length := by
 obtain ⟨_,_,_,c4⟩ := costF_val hg hc
 have hr := red_cost (cost := qg (cost2 C A.length)) (costs := qg k2) hi (fun j hj => (c4 j hj).2) j (by omega)
 rw [hr,cost2_at C _ j hj]
 congr 1
 refine sR_ext fun i hi2 => ?_
 rw [cost2_art C _ i hi2,stS_X A B _ i j hi2 hj,(dlF_val (fun j hj => (c4 j hj).1) i hi2).2]
 grind
theorem opt_dual {A : List (List Int)} {B : List Int} {C : List Q} {r : List (List Q)} {b : List Int} {k2 : List Q} (hC : allB C = true) (hs : smC C) (hg : GT C.length A.length r b) (hi : TInv (stS A B C.length) C.length A.length (tv r) (bn b)) (hc : costF r b (C.length : Int) (cost2 C A.length) = (true,k2)) (he : entF k2 (C.length : Int) < 0) (j : Nat) (hj : j < C.length) :
  duF A (dlF B k2 C.length A.length 0) C j = duE A (dlF B k2 C.length A.length 0) C j := by
 obtain ⟨_,_,c3,c4⟩ := costF_val hg hc
 have hr := red_dual hg hi hc j hj
 have hk := (c4 j (by omega)).1
 have hpos := entF_pos (by omega) he j hj
 unfold duF duE
 rcases hd : dotQ (ratsOf (colA A j)) (dlF B k2 C.length A.length 0) with ⟨s,t,o⟩
 cases o with
 | false => rfl
 | true =>
  obtain ⟨_,d2,_,d4⟩ := colA_dot hd
  have hcj := all_val hC j hj
  obtain ⟨s1,s2⟩ := hs j hj
  have v1 := validQ_bd hcj
  have v2 := validQ_bd d2
  have hval : rv (k2.getD j ⟨0,0⟩).num (k2.getD j ⟨0,0⟩).den = rv (C.getD j ⟨0,0⟩).num (C.getD j ⟨0,0⟩).den - rv s t := by
   rw [d4]
   exact hr
  have b1 : -100000000000000000 ≤ (C.getD j ⟨0,0⟩).num * t ∧ (C.getD j ⟨0,0⟩).num * t ≤ 100000000000000000 := by
   have m1 := Int.mul_le_mul_of_nonneg_right s1.1 (by omega : (0 : Int) ≤ t)
   have m2 := Int.mul_le_mul_of_nonneg_right s1.2 (by omega : (0 : Int) ≤ t)
   omega
  have b2 : -100000000000000000 ≤ s * (C.getD j ⟨0,0⟩).den ∧ s * (C.getD j ⟨0,0⟩).den ≤ 100000000000000000 := by
   have m1 := Int.mul_le_mul_of_nonneg_right v2.2.2.1 (by omega : (0 : Int) ≤ (C.getD j ⟨0,0⟩).den)
   have m2 := Int.mul_le_mul_of_nonneg_right v2.2.2.2.1 (by omega : (0 : Int) ≤ (C.getD j ⟨0,0⟩).den)
   omega
  have hsub := subQ_of hcj d2 hk (by omega) hval
  dsimp only
  rw [hsub]
  dsimp only
  rw [cmpQ_neg hk valid01,rv01] at hpos
  have e1 : decide ((k2.getD j ⟨0,0⟩).num < 0) = false := decide_eq_false fun h => hpos ((rv_sign hk).1.2 h)
  have e2 : decide (cmpQ (C.getD j ⟨0,0⟩).num (C.getD j ⟨0,0⟩).den s t < 0) = false := decide_eq_false fun h => by
   rw [cmpQ_neg hcj d2] at h
   exact hpos (by rw [hval]; grind)
  rw [e1,e2]
  rfl
structure OptE (A : List (List Int)) (B : List Int) (C : List Q) (vn vd : Int) (X Y : List Q) (r : List (List Q)) (b : List Int) (k : List Q) : Prop where
 g : GT C.length A.length r b
 t : TInv (stS A B C.length) C.length A.length (tv r) (bn b)
 c : costF r b (C.length : Int) (cost2 C A.length) = (true,k)
 e : entF k (C.length : Int) < 0
 x : X = (slF r b C.length A.length A.length).take C.length
 y : Y = dlF B k C.length A.length 0
 v : vn = -(lastQ k C.length A.length).num ∧ vd = (lastQ k C.length A.length).den
theorem sol_cases {A : List (List Int)} {B : List Int} {C : List Q} (h : lpOk A B C = true) {st vn vd : Int} {X Y R : List Q} {p : Int} (hs : solF A B C C.length A.length = some (st,vn,vd,X,Y,R,p)) :
  (0 ≤ p ∧ p ≤ 1000) ∧ X.length ≤ 70 ∧ Y.length ≤ 8 ∧ R.length ≤ 70 ∧ ((st = 2 ∧ X = [] ∧ R = []) ∨ (st = 3 ∧ Y = []) ∨ (st = 1 ∧ R = [] ∧ ∃ r b k,OptE A B C vn vd X Y r b k)) := by
 obtain ⟨p1,p2,p3,p4,p5,p6⟩ := lpOk_parts h
 have hg := start_gt h
 have hi := start_tinv A B C.length
 unfold solF at hs
 rcases hph : phF C.length (cost1 C.length A.length) 1001 (stRows A B C.length) (stBas C.length A.length) 0 with _ | ⟨c,k,r,b,p'⟩
 ·rw [hph] at hs
  cases hs
 ·rw [hph] at hs
  dsimp only at hs
  obtain ⟨g1,g2,g3,g4,_⟩ := phF_good 1001 _ _ _ hg hi (by omega) (by omega) _ _ _ _ _ hph
  by_cases hneg : (lastQ k C.length A.length).num < 0
  ·rw [if_pos hneg] at hs
   simp only [Option.some.injEq,Prod.mk.injEq] at hs
   obtain ⟨rfl,rfl,rfl,rfl,rfl,rfl,rfl⟩ := hs
   refine ⟨g3,by simp,?_,by simp,.inl ⟨rfl,rfl,rfl⟩⟩
   unfold dlF
   rw [tab_length]
   omega
  ·rw [if_neg hneg] at hs
   rcases hdr : drF C.length r b p' A.length with _ | ⟨r2,b2,q2⟩
   ·rw [hdr] at hs
    cases hs
   ·rw [hdr] at hs
    dsimp only at hs
    obtain ⟨h1,h2,h3⟩ := drF_good g1 g2 g3.1 g3.2 _ hdr
    rcases hp2 : phF C.length (cost2 C A.length) 1001 r2 b2 q2 with _ | ⟨c',k2,r3,b3,p3'⟩
    ·rw [hp2] at hs
     cases hs
    ·rw [hp2] at hs
     dsimp only at hs
     obtain ⟨i1,i2,i3,i4,i5⟩ := phF_good 1001 _ _ _ h1 h2 h3.1 h3.2 _ _ _ _ _ hp2
     by_cases hc : 0 ≤ c'
     ·rw [if_pos hc] at hs
      simp only [Option.some.injEq,Prod.mk.injEq] at hs
      obtain ⟨rfl,rfl,rfl,rfl,rfl,rfl,rfl⟩ := hs
      refine ⟨i3,by rw [List.length_take]; omega,by simp,by rw [ryF_length]; omega,.inr (.inl ⟨rfl,rfl⟩)⟩
     ·rw [if_neg hc] at hs
      simp only [Option.some.injEq,Prod.mk.injEq] at hs
      obtain ⟨rfl,rfl,rfl,rfl,rfl,rfl,rfl⟩ := hs
      refine ⟨i3,by rw [List.length_take]; omega,?_,by simp,.inr (.inr ⟨rfl,rfl,r3,b3,k2,i1,i2,i4,?_,rfl,rfl,rfl,rfl⟩)⟩
      ·unfold dlF
       rw [tab_length]
       omega
      ·rcases i5 with h | h
       ·exact h.2
       ·omega
abbrev LpR := Int × Int × Int × Int × List Q × List Q × List Q
def slpF (A : List (List Int)) (B : List Int) (C : List Q) : LpR :=
 if lpOk A B C = true then (match solF A B C C.length A.length with
  | none => (4,0,0,0,[],[],[])
  | some (st,vn,vd,X,Y,R,p) => bif chkS A B C st X Y R vn vd then (st,vn,vd,p,X,Y,R) else (4,0,0,0,[],[],[])) else (0,0,0,0,[],[],[])
theorem spec_slp (A : List (List Int)) (B : List Int) (C : List Q) (hA : A.length ≤ 1048576) (hAr : ∀ i,i < A.length → (A.getD i []).length ≤ 1048576) (hB : B.length ≤ 1048576) (hC : C.length ≤ 1048576) : m_spec_SolveLP A B C = some (slpF A B C) := by
 unfold m_spec_SolveLP slpF
 rw [spec_lp A B C hA hAr hB hC,Option.bind_some]
 cases h : lpOk A B C with
 | false => rw [if_neg (by simp)]; rfl
 | true =>
  rw [if_pos rfl,Bool.not_true,cond_false,spec_start A B C h,Option.bind_some]
  dsimp only
  obtain ⟨x,e,r⟩ := spec_solve A B C h
  rw [e,Option.bind_some]
  rcases hs : solF A B C C.length A.length with _ | ⟨st,vn,vd,X,Y,R,p⟩ <;> rw [hs] at r
  ·obtain ⟨x1,x2,x3,x4,x5,x6,x7,x8,x9,x10,x11,x12⟩ := x
   have : x12 = true := r
   subst this
   rfl
  ·obtain ⟨rr,bb,rfl⟩ := r
   obtain ⟨_,l1,l2,l3,_⟩ := sol_cases h hs
   dsimp only
   rw [cond_false,spec_check A B C h st X Y R vn vd p (by omega) (by omega),Option.bind_some]
   cases hck : chkS A B C st X Y R vn vd with
   | false => rfl
   | true =>
    rw [Bool.not_true,cond_false,spec_copy X (by omega),Option.bind_some]
    rfl
theorem chk_same {A : List (List Int)} {B : List Int} {C : List Q} (h : lpOk A B C = true) (hsm : smC C) {st vn vd : Int} {X Y R : List Q} {p : Int} (hs : solF A B C C.length A.length = some (st,vn,vd,X,Y,R,p)) : chkI A B C st X Y R vn vd = chkS A B C st X Y R vn vd := by
 obtain ⟨p1,p2,p3,p4,p5,p6⟩ := lpOk_parts h
 obtain ⟨_,_,_,_,hc⟩ := sol_cases h hs
 unfold chkI
 cases h1 : (st == 1) with
 | false => rfl
 | true =>
  rw [cond_true]
  unfold chkS
  rw [h1,cond_true]
  have hst : st = 1 := by simpa using h1
  rcases hc with ⟨h2,_⟩ | ⟨h2,_⟩ | ⟨_,_,r,b,k,o⟩
  ·omega
  ·omega
  ·have hall : (List.range C.length).all (duF A Y C) = duS A Y C C.length := by
    unfold duS
    have hj : ∀ j,j < C.length → duF A Y C j = duE A Y C j := fun j hj => by
     rw [o.y]
     exact opt_dual p6 hsm o.g o.t o.c o.e j hj
    cases hd : (List.range C.length).all (duE A Y C) with
    | true =>
     rw [all_iff] at hd
     rw [all_iff]
     exact fun j hjl => by rw [hj j hjl]; exact hd j hjl
    | false =>
     rw [← Bool.not_eq_true] at hd ⊢
     intro h2
     refine hd ((all_iff _ _).2 fun j hjl => ?_)
     rw [← hj j hjl]
     exact (all_iff _ _).1 h2 j hjl
   rw [hall]
theorem impl_slp (A : List (List Int)) (B : List Int) (C : List Q) (hA : A.length ≤ 1048576) (hAr : ∀ i,i < A.length → (A.getD i []).length ≤ 1048576) (hB : B.length ≤ 1048576) (hC : C.length ≤ 1048576) (hsm : smC C) : m_impl_SolveLP A B C = some (slpF A B C) := by
 unfold m_impl_SolveLP slpF
 rw [impl_lp A B C hA hAr hB hC,Option.bind_some]
 cases h : lpOk A B C with
 | false => rw [if_neg (by simp)]; rfl
 | true =>
  rw [if_pos rfl,Bool.not_true,cond_false]
  obtain ⟨y,e,r⟩ := impl_solve A B C h
  rw [e,Option.bind_some]
  rcases hs : solF A B C C.length A.length with _ | ⟨st,vn,vd,X,Y,R,p⟩ <;> rw [hs] at r
  ·obtain ⟨y1,y2,y3,y4,y5,y6,y7,y8⟩ := y
   have : y5 = false := r
   subst this
   rfl
  ·obtain ⟨_,l1,l2,l3,hcs⟩ := sol_cases h hs
   rcases r with rfl | ⟨r1,rfl,kk,hk,hno⟩
   ·dsimp only
    rw [Bool.not_true,cond_false,impl_check A B C h st X Y R vn vd p (by omega) (by omega) (by omega),Option.bind_some,chk_same h hsm hs]
    cases chkS A B C st X Y R vn vd <;> rfl
   ·obtain ⟨y1,y2,y3,y4,y5,y6,y7,y8⟩ := y
    have : y5 = false := r1
    subst this
    obtain ⟨p1,p2,p3,p4,p5,p6⟩ := lpOk_parts h
    have hck : chkS A B C 2 X Y R vn vd = false := by
     unfold chkS
     have e1 : ((2 : Int) == 1) = false := rfl
     have e2 : ((2 : Int) == 2) = true := rfl
     rw [e1,e2,cond_false,cond_true]
     rcases hd : dotQ (ratsOf B) Y with ⟨s,t,o⟩
     cases o with
     | false => simp
     | true =>
      exfalso
      obtain ⟨_,_,q3,_⟩ := dotQ_val hd
      exact hno (q3 kk (by rw [ratsOf_length]; omega)).2
    dsimp only
    rw [hck]
    rfl
theorem slp_one {A : List (List Int)} {B : List Int} {C : List Q} {vn vd p : Int} {X Y R : List Q} (h : slpF A B C = (1,vn,vd,p,X,Y,R)) :
  lpOk A B C = true ∧ R = [] ∧ (∃ r b k,OptE A B C vn vd X Y r b k) ∧ feasB A B C X = true ∧ Y.length = B.length ∧ duS A Y C C.length = true ∧ optE B C X Y vn vd = true := by
 unfold slpF at h
 split at h
 ·rename_i hl
  rcases hs : solF A B C C.length A.length with _ | ⟨st,a,b,X',Y',R',q⟩
  ·rw [hs] at h
   simp at h
  ·rw [hs] at h
   dsimp only at h
   obtain ⟨_,_,_,_,hc⟩ := sol_cases hl hs
   cases hk : chkS A B C st X' Y' R' a b with
   | false =>
    rw [hk] at h
    simp at h
   | true =>
    rw [hk,cond_true] at h
    simp only [Prod.mk.injEq] at h
    obtain ⟨rfl,rfl,rfl,rfl,rfl,rfl,rfl⟩ := h
    rcases hc with ⟨h2,_⟩ | ⟨h2,_⟩ | ⟨_,h3,h4⟩
    ·omega
    ·omega
    ·unfold chkS at hk
     have e1 : ((1 : Int) == 1) = true := rfl
     rw [e1,cond_true] at hk
     simp only [Bool.and_eq_true,decide_eq_true_eq] at hk
     exact ⟨hl,h3,h4,hk.1,hk.2.1,hk.2.2.1,hk.2.2.2⟩
 ·simp at h
theorem opt_val {B : List Int} {C X Y : List Q} {vn vd : Int} (h : optE B C X Y vn vd = true) : validQ vn vd = true ∧ X.length = C.length ∧ (∀ i,i < B.length → vq (Y.getD i ⟨0,0⟩)) ∧ rv vn vd = sR (fun j => qg C j * qg X j) C.length ∧ rv vn vd = sR (fun i => ig B i * qg Y i) B.length ∧ dotQ C X = (vn,vd,true) := by
 unfold optE at h
 simp only [Bool.and_eq_true,beq_iff_eq] at h
 obtain ⟨h1,h2,⟨h3,h4⟩,h5,h6⟩ := h
 rcases hx : dotQ C X with ⟨a,b,o1⟩
 rcases hy : dotQ (ratsOf B) Y with ⟨c,d,o2⟩
 rw [hx] at h1 h3 h4 h5 h6
 rw [hy] at h2 h3 h4
 dsimp only at h1 h2 h3 h4 h5 h6
 subst h1 h2 h5 h6 h3 h4
 obtain ⟨a1,a2,a3,a4⟩ := dotQ_val hx
 obtain ⟨b1,b2,b3,b4⟩ := dotQ_val hy
 rw [ratsOf_length] at b3 b4
 refine ⟨a2,a1.symm,fun i hi => (b3 i hi).2,a4,?_,rfl⟩
 rw [b4]
 refine sR_ext fun i hi => ?_
 rw [qg_ratsOf B i hi]
 rfl
theorem smC_int {C : List Q} (h : ∀ j,j < C.length → (C.getD j ⟨0,0⟩).den = 1 ∧ -100000000 ≤ (C.getD j ⟨0,0⟩).num ∧ (C.getD j ⟨0,0⟩).num ≤ 100000000) : smC C := fun j hj => by
 have := h j hj
 omega
theorem val_all {n : Int} {l : List Int} (h : Valid n l) (i : Nat) : -500 ≤ l.getD i 0 ∧ l.getD i 0 ≤ 500 := by
 by_cases hi : i < l.length
 ·exact h.2.2.2 i hi
 ·have : l.getD i 0 = 0 := by
   rw [List.getD_eq_getElem?_getD,List.getElem?_eq_none (by omega)]
   rfl
  rw [this]
  decide
def nqs (Y : List Q) (n : Nat) : List Q := tab (fun k => nq (Y.getD k ⟨0,0⟩)) n
theorem impl_negs (Y : List Q) (hN : Y.length ≤ 1000) (hv : ∀ i,i < Y.length → vq (Y.getD i ⟨0,0⟩)) : m_impl_minusAll Y = some (nqs Y Y.length) := by
 unfold m_impl_minusAll
 have hroom : (room : Nat) = 1099511627776 := rfl
 have h1 := iter_tab (step := l_impl_minusAll_0 Y) [] (fun k => nq (Y.getD k ⟨0,0⟩)) Y.length (fun i hi acc hacc => by
   have hb := validQ_bd (hv i hi)
   unfold l_impl_minusAll_0 m_impl_minus
   dsimp only
   rw [decide_eq_true (by omega),cond_true,grd_pos (by omega),Int.toNat_natCast,Option.bind_some]
   dsimp only
   rw [grd_pos (by rw [hacc]; simp only [List.length_nil,List.length_singleton]; omega),w64' (by omega) (by omega),w64' (by omega) (by omega),Int.zero_sub]
   rfl)
  (fun acc => by unfold l_impl_minusAll_0; dsimp only; rw [decide_eq_false (by omega),cond_false])
 rw [List.nil_append] at h1
 rw [h1,Option.bind_some]
 rfl
theorem take_at (Y : List Q) (n i : Nat) (hi : i < n) (hl : n ≤ Y.length) : (Y.take n).getD i ⟨0,0⟩ = Y.getD i ⟨0,0⟩ := by
 rw [getD_get _ _ _ (by rw [List.length_take]; omega),getD_get _ _ _ (by omega),List.getElem_take]
theorem frame_two (p w : List Q) (hp : p.length ≤ 1000) (hw : w.length ≤ 1000) :
  m_laws_eqRatS p p = some true ∧ m_laws_eqRatS w w = some true ∧ m_laws_markRatS_io1 p 1 = some (1 + 2 * (p.length : Int),tab (mkQ 1) p.length) ∧ m_laws_markRatS_io1 w (1 + 2 * (p.length : Int)) = some (1 + 2 * (p.length : Int) + 2 * (w.length : Int),tab (mkQ (1 + 2 * (p.length : Int))) w.length) ∧
  m_laws_heldRatS (tab (mkQ 1) p.length) 1 = some (1 + 2 * (p.length : Int)) ∧ m_laws_heldRatS (tab (mkQ (1 + 2 * (p.length : Int))) w.length) (1 + 2 * (p.length : Int)) = some (1 + 2 * (p.length : Int) + 2 * (w.length : Int)) := by
 refine ⟨?_,?_,mark_rats p 1 (by omega) (by omega) (by omega),mark_rats w _ (by omega) (by omega) (by omega),held_rats 1 p.length (by omega) (by omega) (by omega),held_rats _ w.length (by omega) (by omega) (by omega)⟩
 ·rw [eq_rats p p (by omega)]
  simp
 ·rw [eq_rats w w (by omega)]
  simp
theorem slF_at {n m : Nat} {rows : List (List Q)} {basis : List Int} (h : GT n m rows basis) : ∀ (k : Nat),k ≤ m → ∀ j,j < n + m → qg (slF rows basis n m k) j = 0 ∨ ∃ i,i < m ∧ qg (slF rows basis n m k) j = tv rows i (n + m)
 | 0,_,j,hj => by
  left
  unfold qg slF
  rw [zer_at _ j hj]
  exact rv01
 | k + 1,hk,j,hj => by
  have hl := slF_length rows basis n m k
  have hb := h.bas k (by omega)
  simp only [slF]
  unfold qg
  rw [getD_get _ _ _ (by rw [List.length_set]; omega),List.getElem_set]
  by_cases e : bn basis k = j
  ·rw [if_pos e]
   exact .inr ⟨k,by omega,rfl⟩
  ·rw [if_neg e]
   have := slF_at h k (by omega) j hj
   unfold qg at this
   rwa [getD_get _ _ _ (by omega)] at this
theorem opt_X {A : List (List Int)} {B : List Int} {C X Y : List Q} {vn vd : Int} {r : List (List Q)} {b : List Int} {k : List Q} (o : OptE A B C vn vd X Y r b k) (j : Nat) (hj : j < C.length) : qg X j = 0 ∨ ∃ i,i < A.length ∧ qg X j = tv r i (C.length + A.length) := by
 have hl := slF_length r b C.length A.length A.length
 have := slF_at o.g A.length (Nat.le_refl _) j (by omega)
 rw [o.x]
 have e : qg ((slF r b C.length A.length A.length).take C.length) j = qg (slF r b C.length A.length A.length) j := by
  unfold qg
  rw [take_at _ _ _ hj (by omega)]
 rw [e]
 exact this
theorem stS_int {A : List (List Int)} {B : List Int} {n : Nat} (i j : Nat) (hi : i < A.length) (hj : j ≤ n + A.length) : ∃ z : Int,stS A B n i j = z := by
 by_cases h1 : j < n
 ·rw [stS_X A B n i j hi h1]
  exact ⟨sgB B i * (A.getD i []).getD j 0,by rw [Rat.intCast_mul]; rfl⟩
 ·by_cases h2 : j < n + A.length
  ·have e : j = n + (j - n) := by omega
   rw [e,stS_U A B n i _ hi (by omega)]
   split
   ·exact ⟨1,rfl⟩
   ·exact ⟨0,rfl⟩
  ·have e : j = n + A.length := by omega
   rw [e,stS_B A B n i hi]
   exact ⟨sgB B i * B.getD i 0,by rw [Rat.intCast_mul]; rfl⟩
theorem den_prim {A : List (List Int)} {B : List Int} {n : Nat} {r : List (List Q)} {b : List Int} (hi : TInv (stS A B n) n A.length (tv r) (bn b)) {K : Nat} {lo : Nat → Int}
  (hb : ∀ i,i < A.length → ∀ f : Nat → Rat,(∀ k,k < A.length → 0 ≤ f k ∧ f k < 1) → (lo i : Rat) - 1 < sR (fun k => stS A B n i (bn b k) * f k) A.length ∧ sR (fun k => stS A B n i (bn b k) * f k) A.length < (lo i : Rat) + (K : Int)) :
  ∃ D : Nat,1 ≤ D ∧ D ≤ K ^ A.length ∧ ∀ k,k < A.length → ∃ z : Int,(D : Rat) * tv r k (n + A.length) = z := by
 refine den_small (W := fun i k => stS A B n i (bn b k)) (N := fun l i => tv r l (n + i)) (fun i hii k hk => ?_) (fun l hl k hk => ?_) (fun i hii => ?_) hb
 ·have := hi.bb k hk
  exact stS_int i _ hii (by omega)
 ·have := hi.bb k hk
  rw [← hi.L l hl (bn b k) (by omega),hi.U l hl k hk]
 ·rw [← hi.R i hii (n + A.length) (Nat.le_refl _)]
  exact stS_int i _ hii (Nat.le_refl _)
theorem den_dual {A : List (List Int)} {B : List Int} {C : List Q} {r : List (List Q)} {b : List Int} {k2 : List Q} (hg : GT C.length A.length r b) (hi : TInv (stS A B C.length) C.length A.length (tv r) (bn b)) (hc : costF r b (C.length : Int) (cost2 C A.length) = (true,k2)) (hint : ∀ j,j < C.length → ∃ z : Int,qg C j = z) {K : Nat} {lo : Nat → Int}
  (hb : ∀ l,l < A.length → ∀ f : Nat → Rat,(∀ k,k < A.length → 0 ≤ f k ∧ f k < 1) → (lo l : Rat) - 1 < sR (fun i => stS A B C.length i (bn b l) * f i) A.length ∧ sR (fun i => stS A B C.length i (bn b l) * f i) A.length < (lo l : Rat) + (K : Int)) :
  ∃ D : Nat,1 ≤ D ∧ D ≤ K ^ A.length ∧ ∀ i,i < A.length → ∃ z : Int,(D : Rat) * qg k2 (C.length + i) = z := by
 obtain ⟨_,_,_,c4⟩ := costF_val hg hc
 have hk : ∀ i,i < A.length → qg k2 (C.length + i) = - sR (fun k => qg (cost2 C A.length) (bn b k) * tv r k (C.length + i)) A.length := fun i hii => by
  rw [(c4 (C.length + i) (by omega)).2,cost2_art C _ i hii]
  grind
 have hci : ∀ l,l < A.length → ∃ z : Int,qg (cost2 C A.length) (bn b l) = z := fun l hl => by
  have := hi.bb l hl
  by_cases h1 : bn b l < C.length
  ·rw [cost2_at C _ _ h1]
   exact hint _ h1
  ·have e : bn b l = C.length + (bn b l - C.length) := by omega
   rw [e,cost2_art C _ _ (by omega)]
   exact ⟨0,rfl⟩
 obtain ⟨D,d1,d2,d3⟩ := den_small (W := fun l i => stS A B C.length i (bn b l)) (N := fun i l => tv r l (C.length + i)) (x := fun i => - qg k2 (C.length + i)) (K := K) (lo := lo) (m := A.length) (fun l hl i hii => by
   have := hi.bb l hl
   exact stS_int i _ hii (by omega))
  (fun i hii i' hii' => by
   have h1 := hi.R i' hii' (C.length + i) (by omega)
   have h2 : sR (fun l => tv r l (C.length + i) * stS A B C.length i' (bn b l)) A.length = stS A B C.length i' (C.length + i) := by
    rw [h1]
    exact sR_ext fun l _ => Rat.mul_comm _ _
   rw [h2,stS_U A B _ i' i hii' hii]
   by_cases e : i = i'
   ·rw [if_pos e,if_pos e.symm]
   ·rw [if_neg e,if_neg fun x => e x.symm])
  (fun l hl => by
   have hbl := hi.bb l hl
   have e1 : sR (fun i => stS A B C.length i (bn b l) * -qg k2 (C.length + i)) A.length = sR (fun i => sR (fun k => qg (cost2 C A.length) (bn b k) * (tv r k (C.length + i) * stS A B C.length i (bn b l))) A.length) A.length := sR_ext fun i hii => by
    rw [hk i hii,Rat.neg_neg,← sR_mul]
    exact sR_ext fun k _ => by grind
   rw [e1,sR_comm]
   have e2 : sR (fun k => sR (fun i => qg (cost2 C A.length) (bn b k) * (tv r k (C.length + i) * stS A B C.length i (bn b l))) A.length) A.length = sR (fun k => qg (cost2 C A.length) (bn b k) * (if k = l then 1 else 0)) A.length := sR_ext fun k hkk => by
    rw [sR_mul,← hi.L k hkk (bn b l) (by omega),hi.U k hkk l hl]
   rw [e2,sR_single hl fun k hk2 hne => by rw [if_neg hne,Rat.mul_zero],if_pos rfl,Rat.mul_one]
   exact hci l hl) hb
 refine ⟨D,d1,d2,fun i hii => ?_⟩
 obtain ⟨z,hz⟩ := d3 i hii
 refine ⟨-z,?_⟩
 rw [Rat.intCast_neg,← hz]
 grind
theorem den_le {a b : Int} (h : validQ a b = true) {D : Nat} (hD : 1 ≤ D) {z : Int} (hz : (D : Rat) * rv a b = z) : b ≤ (D : Int) := by
 have hb := den_ne h
 have v := validQ_bd h
 have e := rv_mul (a := a) hb
 have e2 : ((D : Int) : Rat) * (a : Rat) = (z : Rat) * (b : Rat) := by
  rw [← e,← hz,Rat.intCast_natCast]
  grind
 rw [← Rat.intCast_mul,← Rat.intCast_mul] at e2
 have e3 := Rat.intCast_inj.1 e2
 have hd : b ∣ (D : Int) := by
  refine int_cop (b := a) ⟨z,?_⟩ v.2.2.2.2
  rw [Int.mul_comm a,e3,Int.mul_comm]
 exact Int.le_of_dvd (by omega) hd
theorem rv_le_of {a b : Int} {M : Int} (hb : 0 < b) (h1 : -(M : Rat) ≤ rv a b) (h2 : rv a b ≤ (M : Rat)) : -(M * b) ≤ a ∧ a ≤ M * b := by
 have e := rv_mul (a := a) (show b ≠ 0 by omega)
 have hp : (0 : Rat) ≤ (b : Rat) := Rat.le_of_lt (Rat.intCast_pos.2 hb)
 have k1 := Rat.mul_le_mul_of_nonneg_right h1 hp
 have k2 := Rat.mul_le_mul_of_nonneg_right h2 hp
 rw [e] at k1 k2
 have k1' : ((-(M * b) : Int) : Rat) ≤ (a : Rat) := by
  rw [Rat.intCast_neg,Rat.intCast_mul]
  grind
 rw [← Rat.intCast_mul] at k2
 exact ⟨Rat.intCast_le_intCast.1 k1',Rat.intCast_le_intCast.1 k2⟩
def balA (N m : Nat) : List (List Int) := tab (rowK m) N
def balB (N : Nat) : List Int := tab (fun _ => (1 : Int)) N
def balC (l : List Int) (m : Nat) : List Q := tab (negV l) m
theorem balB_at (N i : Nat) (hi : i < N) : (balB N).getD i 0 = 1 := tab_getD _ _ _ _ hi
theorem balA_at (N m i j : Nat) (hi : i < N) (hj : j < m) : ((balA N m).getD i []).getD j 0 = if (j + 1).testBit i = true then 1 else 0 := by
 unfold balA
 rw [tab_getD _ _ _ _ hi]
 unfold rowK
 rw [tab_getD _ _ _ _ hj]
theorem ag_bal (N m i j : Nat) (hi : i < N) (hj : j < m) : ag (balA N m) i j = if (j + 1).testBit i = true then 1 else 0 := by
 unfold ag
 rw [balA_at N m i j hi hj]
 split <;> rfl
theorem ag_bal01 (N m i j : Nat) (hi : i < N) (hj : j < m) : 0 ≤ ag (balA N m) i j ∧ ag (balA N m) i j ≤ 1 := by
 rw [ag_bal N m i j hi hj]
 split
 ·exact ⟨by grind,by grind⟩
 ·exact ⟨by grind,by grind⟩
theorem bal_S01 (N m i j : Nat) (hi : i < N) (hj : j < m + N) : 0 ≤ stS (balA N m) (balB N) m i j ∧ stS (balA N m) (balB N) m i j ≤ 1 := by
 have hl : (balA N m).length = N := tab_length _ _
 have hs : sgB (balB N) i = 1 := if_neg (by rw [balB_at N i hi]; decide)
 by_cases h1 : j < m
 ·rw [stS_X _ _ _ i j (by omega) h1,hs]
  have := ag_bal01 N m i j hi h1
  have e : ((1 : Int) : Rat) = 1 := rfl
  rw [e]
  constructor <;> grind
 ·have e : j = m + (j - m) := by omega
  rw [e,stS_U _ _ _ i (j - m) (by omega) (by omega)]
  split
  ·exact ⟨by grind,by grind⟩
  ·exact ⟨by grind,by grind⟩
theorem sR_lt {g : Nat → Rat} : ∀ {m : Nat},1 ≤ m → (∀ k,k < m → g k < 1) → sR g m < (m : Rat)
 | 1,_,h => by
  simp only [sR]
  have := h 0 (by omega)
  have e : ((1 : Nat) : Rat) = 1 := rfl
  rw [e]
  grind
 | m + 2,_,h => by
  have ih := sR_lt (g := g) (m := m + 1) (by omega) fun k hk => h k (by omega)
  have h2 := h (m + 1) (by omega)
  show sR g (m + 1) + g (m + 1) < _
  rw [Rat.natCast_add] at ih ⊢
  have e : ((2 : Nat) : Rat) = 2 := rfl
  have e1 : ((1 : Nat) : Rat) = 1 := rfl
  rw [e1] at ih
  rw [e]
  grind
theorem bnd01 {m K : Nat} {W f : Nat → Rat} (hm : 1 ≤ m) (hK : m ≤ K) (hW : ∀ k,k < m → 0 ≤ W k ∧ W k ≤ 1) (hf : ∀ k,k < m → 0 ≤ f k ∧ f k < 1) : ((0 : Int) : Rat) - 1 < sR (fun k => W k * f k) m ∧ sR (fun k => W k * f k) m < ((0 : Int) : Rat) + (K : Int) := by
 have e0 : ((0 : Int) : Rat) = 0 := rfl
 have h0 : 0 ≤ sR (fun k => W k * f k) m := sR_nonneg fun k hk => Rat.mul_nonneg (hW k hk).1 (hf k hk).1
 have h1 : sR (fun k => W k * f k) m < (m : Rat) := sR_lt hm fun k hk => by
  have a := hW k hk
  have b := hf k hk
  have := Rat.mul_le_mul_of_nonneg_right a.2 b.1
  grind
 have h2 : (m : Rat) ≤ ((K : Int) : Rat) := by
  rw [Rat.intCast_natCast]
  exact Rat.natCast_le_natCast.2 hK
 rw [e0]
 constructor <;> grind
theorem balC_at (l : List Int) (m j : Nat) (hj : j < m) : (balC l m).getD j ⟨0,0⟩ = ⟨-(l.getD (j + 1) 0),1⟩ := tab_getD _ _ _ _ hj
theorem balC_val (l : List Int) (m j : Nat) (hj : j < m) : qg (balC l m) j = -((l.getD (j + 1) 0 : Int) : Rat) := by
 unfold qg
 rw [balC_at l m j hj]
 unfold qr
 rw [rv_neg,rv_int]
theorem pow5 (N : Nat) (h : N ≤ 5) : 5 ^ N ≤ 3125 := by
 have := Nat.pow_le_pow_right (n := 5) (by decide) h
 exact Nat.le_trans this (by decide)
theorem bit_ex : ∀ S : Fin 32,∀ N : Fin 6,1 ≤ S.val → S.val < 2 ^ N.val → ∃ i : Fin 5,i.val < N.val ∧ S.val.testBit i.val = true := by decide +kernel
theorem bal_w {N m : Nat} {x : Nat → Rat} (hN : N ≤ 5) (hm : m + 1 = 2 ^ N) (h0 : ∀ j,j < m → 0 ≤ x j) (hs : ∀ i,i < N → sR (fun j => ag (balA N m) i j * x j) m = 1) (j : Nat) (hj : j < m) : x j ≤ 1 := by
 have h32 := pow_le32 hN
 obtain ⟨i,hi,hb⟩ := bit_ex ⟨j + 1,by omega⟩ ⟨N,by omega⟩ (by show 1 ≤ j + 1; omega) (by show j + 1 < 2 ^ N; omega)
 have ht := sR_term (f := fun j => ag (balA N m) i.val j * x j) hj fun k hk => Rat.mul_nonneg (ag_bal01 N m i.val k hi hk).1 (h0 k hk)
 rw [hs i.val hi] at ht
 rw [ag_bal N m i.val j hi hj,if_pos hb] at ht
 grind
theorem abs_sum {c x : Nat → Rat} {M : Rat} (hM : 0 ≤ M) : ∀ {n : Nat},(∀ j,j < n → -M ≤ c j ∧ c j ≤ M) → (∀ j,j < n → 0 ≤ x j) → -(M * sR x n) ≤ sR (fun j => c j * x j) n ∧ sR (fun j => c j * x j) n ≤ M * sR x n
 | 0,_,_ => by
  simp only [sR]
  constructor <;> grind
 | n + 1,hc,hx => by
  obtain ⟨h1,h2⟩ := abs_sum hM (n := n) (fun j hj => hc j (by omega)) fun j hj => hx j (by omega)
  simp only [sR]
  have a := hc n (by omega)
  have b := hx n (by omega)
  have k1 := Rat.mul_le_mul_of_nonneg_right a.1 b
  have k2 := Rat.mul_le_mul_of_nonneg_right a.2 b
  constructor <;> grind
theorem pow_m {N m : Nat} (h1 : 1 ≤ N) (h2 : N ≤ 5) (hm : m + 1 = 2 ^ N) : 1 ≤ m ∧ m ≤ 31 := by
 have a := Nat.pow_le_pow_right (n := 2) (by decide) h1
 have b := pow_le32 h2
 omega
structure BalE (N m : Nat) (l : List Int) (vn vd : Int) (X Y : List Q) : Prop where
 xl : X.length = m
 yl : Y.length = N
 xv : ∀ j,j < m → vq (X.getD j ⟨0,0⟩) ∧ 0 ≤ qg X j
 xs : ∀ i,i < N → sR (fun j => ag (balA N m) i j * qg X j) m = 1
 yv : ∀ i,i < N → vq (Y.getD i ⟨0,0⟩)
 yd : ∀ j,j < m → sR (fun i => ag (balA N m) i j * qg Y i) N ≤ qg (balC l m) j
 v : validQ vn vd = true
 vx : rv vn vd = sR (fun j => qg (balC l m) j * qg X j) m
 vy : rv vn vd = sR (fun i => qg Y i) N
 vd_le : vd ≤ 3125
 vb : -(15500 : Rat) ≤ rv vn vd ∧ rv vn vd ≤ 15500
 yden : ∃ D : Nat,1 ≤ D ∧ D ≤ 3125 ∧ ∀ i,i < N → ∃ z : Int,(D : Rat) * qg Y i = z
 fe : feasB (balA N m) (balB N) (balC l m) X = true
 dx : dotQ (balC l m) X = (vn,vd,true)
theorem duS_val {A : List (List Int)} {Y c : List Q} {n : Nat} (hc : ∀ j,j < n → vq (c.getD j ⟨0,0⟩)) (h : duS A Y c n = true) (j : Nat) (hj : j < n) : sR (fun i => ag A i j * qg Y i) A.length ≤ qg c j := by
 have := (all_iff _ _).1 h j hj
 unfold duE at this
 rcases hd : dotQ (ratsOf (colA A j)) Y with ⟨s,t,o⟩
 rw [hd] at this
 simp only [Bool.and_eq_true,Bool.not_eq_true',decide_eq_false_iff_not] at this
 obtain ⟨h1,h2⟩ := this
 subst h1
 obtain ⟨_,d2,_,d4⟩ := colA_dot hd
 rw [cmpQ_neg (hc j hj) d2] at h2
 rw [← d4]
 exact Rat.not_lt.1 h2
theorem bal_end {N m : Nat} {l : List Int} (h1 : 1 ≤ N) (h2 : N ≤ 5) (hm : m + 1 = 2 ^ N) (hv : ∀ i,-500 ≤ l.getD i 0 ∧ l.getD i 0 ≤ 500) {vn vd p : Int} {X Y R : List Q} (hs : slpF (balA N m) (balB N) (balC l m) = (1,vn,vd,p,X,Y,R)) : BalE N m l vn vd X Y := by
 obtain ⟨q1,q2,⟨r,b,k,o⟩,q4,q5,q6,q7⟩ := slp_one hs
 obtain ⟨o1,o2,o3,o4,o5,o6⟩ := opt_val q7
 obtain ⟨p1,p2,p3,p4,p5,p6⟩ := lpOk_parts q1
 have lA : (balA N m).length = N := tab_length _ _
 have lB : (balB N).length = N := tab_length _ _
 have lC : (balC l m).length = m := tab_length _ _
 obtain ⟨hm1,hm31⟩ := pow_m h1 h2 hm
 obtain ⟨f1,f2,f3,f4⟩ := feas_val q4
 rw [lC] at f2 f3 o4
 rw [lB] at o3 o5 q5
 have hx0 : ∀ j,j < m → 0 ≤ qg X j := fun j hj => (f3 j hj).2
 have hxs : ∀ i,i < N → sR (fun j => ag (balA N m) i j * qg X j) m = 1 := fun i hi => by
  have := f4 i (by omega)
  rw [lC] at this
  rw [this]
  unfold ig
  rw [balB_at N i hi]
  rfl
 have hx1 : ∀ j,j < m → qg X j ≤ 1 := bal_w h2 hm hx0 hxs
 have hcb : ∀ j,j < m → -(500 : Rat) ≤ qg (balC l m) j ∧ qg (balC l m) j ≤ 500 := fun j hj => by
  rw [balC_val l m j hj]
  obtain ⟨a1,a2⟩ := hv (j + 1)
  have b1 : ((-500 : Int) : Rat) ≤ ((l.getD (j + 1) 0 : Int) : Rat) := Rat.intCast_le_intCast.2 a1
  have b2 : ((l.getD (j + 1) 0 : Int) : Rat) ≤ ((500 : Int) : Rat) := Rat.intCast_le_intCast.2 a2
  have c1 : ((-500 : Int) : Rat) = -500 := rfl
  have c2 : ((500 : Int) : Rat) = 500 := rfl
  rw [c1] at b1
  rw [c2] at b2
  constructor <;> grind
 have hsum : sR (fun j => qg X j) m ≤ 31 := by
  have a : sR (fun j => qg X j) m ≤ sR (fun _ => 1) m := sR_le fun j hj => hx1 j hj
  have b : ∀ n : Nat,sR (fun _ => 1) n = (n : Rat) := fun n => by
   induction n with
   | zero => rfl
   | succ n ih =>
    show sR (fun _ => 1) n + 1 = _
    rw [ih,Rat.natCast_add]
    rfl
  rw [b m] at a
  have c : (m : Rat) ≤ ((31 : Nat) : Rat) := Rat.natCast_le_natCast.2 hm31
  have d : ((31 : Nat) : Rat) = 31 := rfl
  rw [d] at c
  exact Rat.le_trans a c
 have hvb : -(15500 : Rat) ≤ rv vn vd ∧ rv vn vd ≤ 15500 := by
  rw [o4]
  obtain ⟨a1,a2⟩ := abs_sum (c := qg (balC l m)) (x := fun j => qg X j) (M := 500) (by grind) hcb hx0
  constructor <;> grind
 have hint : ∀ j,j < (balC l m).length → ∃ z : Int,qg (balC l m) j = z := fun j hj => by
  rw [lC] at hj
  exact ⟨-(l.getD (j + 1) 0),by rw [balC_val l m j hj,Rat.intCast_neg]⟩
 have hbb : ∀ k,k < N → bn b k < m + N := fun k hk => by
  have := o.t.bb k (by omega)
  omega
 have hvd : vd ≤ 3125 := by
  obtain ⟨D,d1,d2,d3⟩ := den_prim o.t (K := 5) (lo := fun _ => 0) (fun i hi f hf => by
   rw [lA] at hi hf ⊢
   rw [lC]
   exact bnd01 h1 h2 (fun k hk => bal_S01 N m i (bn b k) hi (hbb k hk)) hf)
  rw [lA] at d2 d3
  have hD : ∀ j,j < m → ∃ z : Int,(D : Rat) * qg X j = z := fun j hj => by
   rcases opt_X o j (by omega) with h | ⟨i,hi,h⟩
   ·exact ⟨0,by rw [h,Rat.mul_zero]; rfl⟩
   ·rw [h,lA]
    exact d3 i (by omega)
  obtain ⟨z,hz⟩ := sR_int (f := fun j => qg (balC l m) j * ((D : Rat) * qg X j)) (n := m) fun j hj => by
   obtain ⟨z1,e1⟩ := hint j (by omega)
   obtain ⟨z2,e2⟩ := hD j hj
   exact ⟨z1 * z2,by rw [e1,e2,Rat.intCast_mul]⟩
  have := den_le o1 d1 (z := z) (by
   rw [o4,← sR_mul,← hz]
   exact sR_ext fun j _ => by grind)
  have h3125 := pow5 N h2
  omega
 have hyden : ∃ D : Nat,1 ≤ D ∧ D ≤ 3125 ∧ ∀ i,i < N → ∃ z : Int,(D : Rat) * qg Y i = z := by
  obtain ⟨D,d1,d2,d3⟩ := den_dual o.g o.t o.c hint (K := 5) (lo := fun _ => 0) (fun i hi f hf => by
   rw [lA] at hi hf ⊢
   rw [lC]
   exact bnd01 h1 h2 (fun k hk => bal_S01 N m k (bn b i) hk (hbb i hi)) hf)
  rw [lA] at d2 d3
  have h3125 := pow5 N h2
  refine ⟨D,d1,by omega,fun i hi => ?_⟩
  obtain ⟨z,hz⟩ := d3 i hi
  obtain ⟨_,_,_,c4⟩ := costF_val o.g o.c
  have hy := (dlF_val (B := balB N) (fun j hj => (c4 j hj).1) i (by omega : i < (balA N m).length)).2
  have hsg : sgB (balB N) i = 1 := if_neg (by rw [balB_at N i hi]; decide)
  rw [hsg] at hy
  refine ⟨-z,?_⟩
  rw [o.y,hy,Rat.intCast_neg,← hz]
  have e : ((1 : Int) : Rat) = 1 := rfl
  rw [e]
  grind
 refine ⟨f2,q5,f3,hxs,o3,fun j hj => ?_,o1,o4,?_,hvd,hvb,hyden,q4,o6⟩
 ·have := duS_val (fun j hj => all_val p6 j hj) q6 j (by omega)
  rw [lA] at this
  exact this
 ·rw [o5]
  refine sR_ext fun i hi => ?_
  unfold ig
  rw [balB_at N i hi]
  have e : ((1 : Int) : Rat) = 1 := rfl
  rw [e,Rat.one_mul]
theorem add_small {a b c d : Int} (h1 : validQ a b = true) (h2 : validQ c d = true) (hn : -1000000000 ≤ a * d + c * b ∧ a * d + c * b ≤ 1000000000) (hd : b * d ≤ 1000000000) : ∃ x y,addQ a b c d = (x,y,true) ∧ validQ x y = true ∧ rv x y = rv a b + rv c d := by
 have v1 := validQ_bd h1
 have v2 := validQ_bd h2
 have hp : 1 ≤ b * d := by
  have := Int.mul_le_mul (show (1 : Int) ≤ b by omega) (show (1 : Int) ≤ d by omega) (by decide) (by omega)
  omega
 obtain ⟨x,y,g,r1,r2,r3,r4,r5⟩ := ratOf_ok (a * d + c * b) (b * d) hn ⟨hp,hd⟩
 have ha : addQ a b c d = (x,y,true) := by
  unfold addQ
  rw [if_pos ⟨h1,h2⟩,r1]
 exact ⟨x,y,ha,r5,(addQ_val ha).2.2⟩
theorem bal_slack {N m : Nat} {l : List Int} {vn vd : Int} {X Y : List Q} (e : BalE N m l vn vd X Y) (g : Int) (hg : -500 ≤ g ∧ g ≤ 500) : ∃ x y,addQ g 1 vn vd = (x,y,true) ∧ validQ x y = true ∧ rv x y = (g : Rat) + rv vn vd := by
 have v := validQ_bd e.v
 obtain ⟨b1,b2⟩ := rv_le_of (M := 15500) (by omega : 0 < vd) e.vb.1 e.vb.2
 have hvd := e.vd_le
 have m1 := Int.mul_le_mul_of_nonneg_right hg.1 (show (0 : Int) ≤ vd by omega)
 have m2 := Int.mul_le_mul_of_nonneg_right hg.2 (show (0 : Int) ≤ vd by omega)
 obtain ⟨x,y,h1,h2,h3⟩ := add_small (a := g) (b := 1) (validQ_int (by omega)) e.v (by omega) (by omega)
 exact ⟨x,y,h1,h2,by rw [h3,rv_int]⟩
def fcF (N m : Nat) (l : List Int) : Int × List Q × List Q := match slpF (balA N m) (balB N) (balC l m) with
 | (st,vn,vd,_,X,Y,_) => bif st != 1 then (3,[],[]) else
  bif decide ((addQ (l.getD m 0) 1 vn vd).1 < 0) then (2,[],X) else
   match addQ ((nqs Y N).getD (N - 1) ⟨0,0⟩).num ((nqs Y N).getD (N - 1) ⟨0,0⟩).den (addQ (l.getD m 0) 1 vn vd).1 (addQ (l.getD m 0) 1 vn vd).2.1 with
   | (a,b,o) => bif !o then (3,[],[]) else (1,(nqs Y N).set (N - 1) ⟨a,b⟩,[])
theorem nqs_length (Y : List Q) (n : Nat) : (nqs Y n).length = n := tab_length _ _
theorem spec_negs2 (Y : List Q) (hN : Y.length ≤ 1000) (hv : ∀ i,i < Y.length → vq (Y.getD i ⟨0,0⟩)) : iter (l_spec_FindCore_0 Y) ((0 : Int),[]) = some (nqs Y Y.length) := by
 have hroom : (room : Nat) = 1099511627776 := rfl
 have h1 := iter_tab (step := l_spec_FindCore_0 Y) [] (fun k => nq (Y.getD k ⟨0,0⟩)) Y.length (fun i hi acc hacc => by
   have hb := validQ_bd (hv i hi)
   unfold l_spec_FindCore_0 m_spec_l7Negated
   dsimp only
   rw [decide_eq_true (by omega),cond_true,grd_pos (by omega),Int.toNat_natCast,Option.bind_some]
   dsimp only
   rw [grd_pos (by rw [hacc]; simp only [List.length_nil,List.length_singleton]; omega),w64' (by omega) (by omega),w64' (by omega) (by omega),Int.zero_sub]
   rfl)
  (fun acc => by unfold l_spec_FindCore_0; dsimp only; rw [decide_eq_false (by omega),cond_false])
 rw [List.nil_append] at h1
 exact h1
theorem core_two (N m : Nat) (l : List Int) (hv : validB (N : Int) l = true) (hm : l.length = m + 1) : m_spec_FindCore (N : Int) l = some (fcF N m l) ∧ m_impl_FindCore (N : Int) l = some (fcF N m l) := by
 have hV := (validB_eq _ l).1 hv
 obtain ⟨N',hN',h1,h2,h3,h4⟩ := valid_nat hV
 have hNN : N' = N := by omega
 subst hNN
 have hm2 : m + 1 = 2 ^ N' := by omega
 obtain ⟨hm1,hm31⟩ := pow_m h1 h2 hm2
 have lA : (balA N' m).length = N' := tab_length _ _
 have lB : (balB N').length = N' := tab_length _ _
 have lC : (balC l m).length = m := tab_length _ _
 have hAr : ∀ i,i < (balA N' m).length → ((balA N' m).getD i []).length ≤ 1048576 := fun i hi => by
  rw [lA] at hi
  unfold balA
  rw [tab_getD _ _ _ _ hi,rowK_length]
  omega
 have hsm : smC (balC l m) := smC_int fun j hj => by
  rw [lC] at hj
  rw [balC_at l m j hj]
  have := val_all hV (j + 1)
  dsimp only
  omega
 have hgr := grand_val N' l hv
 have hg := val_all hV m
 have hgm : l.length - 1 = m := by omega
 rw [hgm] at hgr
 have esp := spec_slp (balA N' m) (balB N') (balC l m) (by omega) hAr (by omega) (by omega)
 have eim := impl_slp (balA N' m) (balB N') (balC l m) (by omega) hAr (by omega) (by omega) hsm
 have eb1 : m_spec_BalancedLP (N' : Int) l = some (true,balA N' m,balB N',balC l m) := spec_bal N' m l hv hm
 have eb2 : m_impl_BalancedLP (N' : Int) l = some (true,balA N' m,balB N',balC l m) := impl_bal N' m l hv hm
 unfold m_spec_FindCore m_impl_FindCore fcF
 rw [eb1,eb2,Option.bind_some,Option.bind_some]
 dsimp only
 rw [Bool.not_true,cond_false,cond_false,esp,eim,Option.bind_some,Option.bind_some]
 rcases hs : slpF (balA N' m) (balB N') (balC l m) with ⟨st,vn,vd,p,X,Y,R⟩
 dsimp only
 rw [hgr.1,hgr.2]
 unfold m_spec_l3Int m_impl_whole m_impl_minus
 rw [Option.bind_some,Option.bind_some,Option.bind_some,Option.bind_some]
 dsimp only
 rw [spec_add,Option.bind_some,Option.bind_some]
 cases hst : (st != 1) with
 | true => exact ⟨rfl,rfl⟩
 | false =>
  have hst : st = 1 := by simpa using hst
  subst hst
  have e := bal_end h1 h2 hm2 (val_all hV) hs
  have vb := validQ_bd e.v
  obtain ⟨x,y,a1,a2,a3⟩ := bal_slack e (l.getD m 0) hg
  have hyl := e.yl
  have hneg2 := spec_negs2 Y (by omega) (fun i hi => e.yv i (by omega))
  have hneg3 := impl_negs Y (by omega) (fun i hi => e.yv i (by omega))
  rw [hyl] at hneg2 hneg3
  have el : IntKind.i64.wrap ((N' : Int) - 1) = ((N' - 1 : Nat) : Int) := by
   rw [w64' (by omega) (by omega)]
   omega
  have hcmp : decide (cmpQ (-vn) vd (l.getD m 0) 1 > 0) = decide (x < 0) := by
   refine decide_eq_decide.2 ?_
   have hvn : validQ (-vn) vd = true := by rw [validQ_neg]; exact e.v
   have hgv : validQ (l.getD m 0) 1 = true := validQ_int (by omega)
   have hc := cmpQ_pos hvn hgv
   rw [rv_neg,rv_int] at hc
   have hsx := (rv_sign a2).1
   rw [← hsx,a3]
   refine hc.trans ?_
   constructor <;> intro h <;> grind
  rw [a1]
  dsimp only
  rw [cond_false,cond_false,cond_false]
  constructor
  ·rw [Bool.not_true,cond_false]
   cases hx : decide (x < 0) with
   | true => rfl
   | false =>
    rw [cond_false,cond_false,hneg2,Option.bind_some]
    rw [el,grd_pos (by rw [nqs_length]; omega),Int.toNat_natCast,spec_add,Option.bind_some]
    rcases addQ ((nqs Y N').getD (N' - 1) ⟨0,0⟩).num ((nqs Y N').getD (N' - 1) ⟨0,0⟩).den x y with ⟨a,b,o⟩
    dsimp only
    cases o with
    | false => rfl
    | true =>
     rw [Bool.not_true,cond_false,cond_false,grd_pos (by rw [nqs_length]; omega)]
  ·rw [w64' (by omega) (by omega),Int.zero_sub,impl_cmp,Option.bind_some,hcmp]
   cases hx : decide (x < 0) with
   | true => rfl
   | false =>
    rw [cond_false,cond_false,hneg3,Option.bind_some,impl_add,a1,Option.bind_some]
    dsimp only
    rw [nqs_length,el,grd_pos (by omega),Int.toNat_natCast,impl_add,Option.bind_some]
    rcases addQ ((nqs Y N').getD (N' - 1) ⟨0,0⟩).num ((nqs Y N').getD (N' - 1) ⟨0,0⟩).den x y with ⟨a,b,o⟩
    dsimp only
    cases o with
    | false => rfl
    | true =>
     rw [Bool.not_true,cond_false,cond_false,cond_false,grd_pos (by omega)]
theorem fc_len (N m : Nat) (l : List Int) (hN : N ≤ 5) : (fcF N m l).2.1.length ≤ 1000 ∧ (fcF N m l).2.2.length ≤ 1000 := by
 unfold fcF
 rcases hs : slpF (balA N m) (balB N) (balC l m) with ⟨st,vn,vd,p,X,Y,R⟩
 dsimp only
 cases hst : (st != 1) with
 | true => exact ⟨by simp,by simp⟩
 | false =>
  have hst : st = 1 := by simpa using hst
  subst hst
  obtain ⟨q1,q2,q3,q4,q5,q6,q7⟩ := slp_one hs
  obtain ⟨o1,o2,_⟩ := opt_val q7
  obtain ⟨_,p2,_⟩ := lpOk_parts q1
  rw [cond_false]
  cases decide ((addQ (l.getD m 0) 1 vn vd).1 < 0) with
  | true =>
   rw [cond_true]
   exact ⟨by simp,by dsimp only; omega⟩
  | false =>
   rw [cond_false]
   rcases addQ ((nqs Y N).getD (N - 1) ⟨0,0⟩).num ((nqs Y N).getD (N - 1) ⟨0,0⟩).den (addQ (l.getD m 0) 1 vn vd).1 (addQ (l.getD m 0) 1 vn vd).2.1 with ⟨a,b,o⟩
   dsimp only
   cases o with
   | false => exact ⟨by simp,by simp⟩
   | true =>
    rw [Bool.not_true,cond_false]
    exact ⟨by rw [List.length_set,nqs_length]; omega,by simp⟩
theorem core0 (n : Int) (l : List Int) (hl : l.length ≤ 1048576) (hv : validB n l = false) : m_spec_FindCore n l = some (0,[],[]) ∧ m_impl_FindCore n l = some (0,[],[]) := by
 unfold m_spec_FindCore m_impl_FindCore m_spec_BalancedLP m_impl_BalancedLP
 rw [spec_valid n l hl,impl_valid n l hl,hv]
 exact ⟨rfl,rfl⟩
theorem fc_both (n : Int) (l : List Int) (hl : l.length ≤ 1048576) : ∃ c P W,(P.length ≤ 1000 ∧ W.length ≤ 1000) ∧ m_spec_FindCore n l = some (c,P,W) ∧ m_impl_FindCore n l = some (c,P,W) := by
 cases hv : validB n l with
 | false =>
  obtain ⟨e1,e2⟩ := core0 n l hl hv
  exact ⟨0,[],[],by simp,e1,e2⟩
 | true =>
  obtain ⟨N,rfl,h1,h2,h3,h4⟩ := valid_nat ((validB_eq n l).1 hv)
  have hpos : 0 < l.length := by rw [h3]; exact Nat.pow_pos (by decide)
  obtain ⟨e1,e2⟩ := core_two N (l.length - 1) l hv (by omega)
  have hlen := fc_len N (l.length - 1) l h2
  rcases hf : fcF N (l.length - 1) l with ⟨c,P,W⟩
  rw [hf] at e1 e2 hlen
  exact ⟨c,P,W,hlen,e1,e2⟩
theorem law_FnExactFindCore (n : Int) (l : List Int) (_ : I64 n) (hl : l.length ≤ maxLen ∧ ∀ n ∈ l,I64 n) : m_laws_FnExactFindCore n l = some true := by
 unfold m_laws_FnExactFindCore
 rw [sz_game n l _ (by decide) (by decide) hl.1]
 by_cases h : (1048576 : Int) < l.length
 ·simp [h]
 ·have h0 : ¬ (1048576 : Int) - (l.length : Int) < 0 := by omega
  have hl' : l.length ≤ 1048576 := by omega
  obtain ⟨b,P,W,⟨hp,hw⟩,e1,e2⟩ := fc_both n l hl'
  obtain ⟨f1,f2,f3,f4,f5,f6⟩ := frame_two P W hp hw
  have c0 : ¬ (1 : Int) + (l.length : Int) < 0 := by omega
  have c1 : ¬ (1 : Int) + 2 * (P.length : Int) < 0 := by omega
  have c2 : ¬ (1 : Int) + 2 * (P.length : Int) + 2 * (W.length : Int) < 0 := by omega
  simp [h,h0,to_game n l hl',e1,e2,eq_game n l n l hl' hl',mark_game n l 1 (by decide) (by decide) (by omega),m_laws_eqCoreResult,m_laws_markCoreResult_io2,m_laws_heldCoreResult,f1,f2,f3,f4,f5,f6,c0,c1,c2]
end Go.Proofs.YtjnbmknniadbpaaGreat
