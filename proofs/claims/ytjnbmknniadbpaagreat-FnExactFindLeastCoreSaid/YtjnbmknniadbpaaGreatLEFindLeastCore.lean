/- The plain laws: what the models of FnExactFindLeastCore compute. No condition beyond those that each theorem names. -/
import Derived.Test.YtjnbmknniadbpaaGreatLEFindLeastCorea
namespace Go.Proofs.YtjnbmknniadbpaaGreat
open Go.AM
theorem opt_dual {A : List (List Int)} {B : List Int} {C : List Q} {r : List (List Q)} {b : List Int} {k2 : List Q} (hC : allB C = true) (hs : smC C) (hg : GT C.length A.length r b) (hi : TInv (stS A B C.length) C.length A.length (tv r) (bn b)) (hc : costF r b (C.length : Int) (cost2 C A.length) = (true,k2)) (he : entF k2 (C.length : Int) < 0) (j : Nat) (hj : j < C.length) :
  duF A (dlF B k2 C.length A.length 0) C j = duE A (dlF B k2 C.length A.length 0) C j := by
 obtain ⟨_,_,c3,c4⟩ := costF_val hg hc
 have hr := red_dual hg hi hc j hj
 have hk := (c4 j (by omega)).1
 have hpos := entF_pos (by omega) he j hj
 unfold duF duE
 rcases hd : dotQ (ratsOf (colA A j)) (dlF B k2 C.length A.length 0) with ⟨s,t,o⟩
 cases o with
 | false => rfl
 | true =>
  obtain ⟨_,d2,_,d4⟩ := colA_dot hd
  have hcj := all_val hC j hj
  obtain ⟨s1,s2⟩ := hs j hj
  have v1 := validQ_bd hcj
  have v2 := validQ_bd d2
  have hval : rv (k2.getD j ⟨0,0⟩).num (k2.getD j ⟨0,0⟩).den = rv (C.getD j ⟨0,0⟩).num (C.getD j ⟨0,0⟩).den - rv s t := by
   rw [d4]
   exact hr
  have b1 : -100000000000000000 ≤ (C.getD j ⟨0,0⟩).num * t ∧ (C.getD j ⟨0,0⟩).num * t ≤ 100000000000000000 := by
   have m1 := Int.mul_le_mul_of_nonneg_right s1.1 (by omega : (0 : Int) ≤ t)
   have m2 := Int.mul_le_mul_of_nonneg_right s1.2 (by omega : (0 : Int) ≤ t)
   omega
  have b2 : -100000000000000000 ≤ s * (C.getD j ⟨0,0⟩).den ∧ s * (C.getD j ⟨0,0⟩).den ≤ 100000000000000000 := by
   have m1 := Int.mul_le_mul_of_nonneg_right v2.2.2.1 (by omega : (0 : Int) ≤ (C.getD j ⟨0,0⟩).den)
   have m2 := Int.mul_le_mul_of_nonneg_right v2.2.2.2.1 (by omega : (0 : Int) ≤ (C.getD j ⟨0,0⟩).den)
   omega
  have hsub := subQ_of hcj d2 hk (by omega) hval
  dsimp only
  rw [hsub]
  dsimp only
  rw [cmpQ_neg hk valid01,rv01] at hpos
  have e1 : decide ((k2.getD j ⟨0,0⟩).num < 0) = false := decide_eq_false fun h => hpos ((rv_sign hk).1.2 h)
  have e2 : decide (cmpQ (C.getD j ⟨0,0⟩).num (C.getD j ⟨0,0⟩).den s t < 0) = false := decide_eq_false fun h => by
   rw [cmpQ_neg hcj d2] at h
   exact hpos (by rw [hval]; grind)
  rw [e1,e2]
  rfl
structure OptE (A : List (List Int)) (B : List Int) (C : List Q) (vn vd : Int) (X Y : List Q) (r : List (List Q)) (b : List Int) (k : List Q) : Prop where
 g : GT C.length A.length r b
 t : TInv (stS A B C.length) C.length A.length (tv r) (bn b)
 c : costF r b (C.length : Int) (cost2 C A.length) = (true,k)
 e : entF k (C.length : Int) < 0
 x : X = (slF r b C.length A.length A.length).take C.length
 y : Y = dlF B k C.length A.length 0
 v : vn = -(lastQ k C.length A.length).num ∧ vd = (lastQ k C.length A.length).den
theorem sol_cases {A : List (List Int)} {B : List Int} {C : List Q} (h : lpOk A B C = true) {st vn vd : Int} {X Y R : List Q} {p : Int} (hs : solF A B C C.length A.length = some (st,vn,vd,X,Y,R,p)) :
  (0 ≤ p ∧ p ≤ 1000) ∧ X.length ≤ 70 ∧ Y.length ≤ 8 ∧ R.length ≤ 70 ∧ ((st = 2 ∧ X = [] ∧ R = []) ∨ (st = 3 ∧ Y = []) ∨ (st = 1 ∧ R = [] ∧ ∃ r b k,OptE A B C vn vd X Y r b k)) := by
 obtain ⟨p1,p2,p3,p4,p5,p6⟩ := lpOk_parts h
 have hg := start_gt h
 have hi := start_tinv A B C.length
 unfold solF at hs
 rcases hph : phF C.length (cost1 C.length A.length) 1001 (stRows A B C.length) (stBas C.length A.length) 0 with _ | ⟨c,k,r,b,p'⟩
 ·rw [hph] at hs
  cases hs
 ·rw [hph] at hs
  dsimp only at hs
  obtain ⟨g1,g2,g3,g4,_⟩ := phF_good 1001 _ _ _ hg hi (by omega) (by omega) _ _ _ _ _ hph
  by_cases hneg : (lastQ k C.length A.length).num < 0
  ·rw [if_pos hneg] at hs
   simp only [Option.some.injEq,Prod.mk.injEq] at hs
   obtain ⟨rfl,rfl,rfl,rfl,rfl,rfl,rfl⟩ := hs
   refine ⟨g3,by simp,?_,by simp,.inl ⟨rfl,rfl,rfl⟩⟩
   unfold dlF
   rw [tab_length]
   omega
  ·rw [if_neg hneg] at hs
   rcases hdr : drF C.length r b p' A.length with _ | ⟨r2,b2,q2⟩
   ·rw [hdr] at hs
    cases hs
   ·rw [hdr] at hs
    dsimp only at hs
    obtain ⟨h1,h2,h3⟩ := drF_good g1 g2 g3.1 g3.2 _ hdr
    rcases hp2 : phF C.length (cost2 C A.length) 1001 r2 b2 q2 with _ | ⟨c',k2,r3,b3,p3'⟩
    ·rw [hp2] at hs
     cases hs
    ·rw [hp2] at hs
     dsimp only at hs
     obtain ⟨i1,i2,i3,i4,i5⟩ := phF_good 1001 _ _ _ h1 h2 h3.1 h3.2 _ _ _ _ _ hp2
     by_cases hc : 0 ≤ c'
     ·rw [if_pos hc] at hs
      simp only [Option.some.injEq,Prod.mk.injEq] at hs
      obtain ⟨rfl,rfl,rfl,rfl,rfl,rfl,rfl⟩ := hs
      refine ⟨i3,by rw [List.length_take]; omega,by simp,by rw [ryF_length]; omega,.inr (.inl ⟨rfl,rfl⟩)⟩
     ·rw [if_neg hc] at hs
      simp only [Option.some.injEq,Prod.mk.injEq] at hs
      obtain ⟨rfl,rfl,rfl,rfl,rfl,rfl,rfl⟩ := hs
      refine ⟨i3,by rw [List.length_take]; omega,?_,by simp,.inr (.inr ⟨rfl,rfl,r3,b3,k2,i1,i2,i4,?_,rfl,rfl,rfl,rfl⟩)⟩
      ·unfold dlF
       rw [tab_length]
       omega
      ·rcases i5 with h | h
       ·exact h.2
       ·omega
abbrev LpR := Int × Int × Int × Int × List Q × List Q × List Q
def slpF (A : List (List Int)) (B : List Int) (C : List Q) : LpR :=
 if lpOk A B C = true then (match solF A B C C.length A.length with
  | none => (4,0,0,0,[],[],[])
  | some (st,vn,vd,X,Y,R,p) => bif chkS A B C st X Y R vn vd then (st,vn,vd,p,X,Y,R) else (4,0,0,0,[],[],[])) else (0,0,0,0,[],[],[])
theorem spec_slp (A : List (List Int)) (B : List Int) (C : List Q) (hA : A.length ≤ 1048576) (hAr : ∀ i,i < A.length → (A.getD i []).length ≤ 1048576) (hB : B.length ≤ 1048576) (hC : C.length ≤ 1048576) : m_spec_SolveLP A B C = some (slpF A B C) := by
 unfold m_spec_SolveLP slpF
 rw [spec_lp A B C hA hAr hB hC,Option.bind_some]
 cases h : lpOk A B C with
 | false => rw [if_neg (by simp)]; rfl
 | true =>
  rw [if_pos rfl,Bool.not_true,cond_false,spec_start A B C h,Option.bind_some]
  dsimp only
  obtain ⟨x,e,r⟩ := spec_solve A B C h
  rw [e,Option.bind_some]
  rcases hs : solF A B C C.length A.length with _ | ⟨st,vn,vd,X,Y,R,p⟩ <;> rw [hs] at r
  ·obtain ⟨x1,x2,x3,x4,x5,x6,x7,x8,x9,x10,x11,x12⟩ := x
   have : x12 = true := r
   subst this
   rfl
  ·obtain ⟨rr,bb,rfl⟩ := r
   obtain ⟨_,l1,l2,l3,_⟩ := sol_cases h hs
   dsimp only
   rw [cond_false,spec_check A B C h st X Y R vn vd p (by omega) (by omega),Option.bind_some]
   cases hck : chkS A B C st X Y R vn vd with
   | false => rfl
   | true =>
    rw [Bool.not_true,cond_false,spec_copy X (by omega),Option.bind_some]
    rfl
theorem chk_same {A : List (List Int)} {B : List Int} {C : List Q} (h : lpOk A B C = true) (hsm : smC C) {st vn vd : Int} {X Y R : List Q} {p : Int} (hs : solF A B C C.length A.length = some (st,vn,vd,X,Y,R,p)) : chkI A B C st X Y R vn vd = chkS A B C st X Y R vn vd := by
 obtain ⟨p1,p2,p3,p4,p5,p6⟩ := lpOk_parts h
 obtain ⟨_,_,_,_,hc⟩ := sol_cases h hs
 unfold chkI
 cases h1 : (st == 1) with
 | false => rfl
 | true =>
  rw [cond_true]
  unfold chkS
  rw [h1,cond_true]
  have hst : st = 1 := by simpa using h1
  rcases hc with ⟨h2,_⟩ | ⟨h2,_⟩ | ⟨_,_,r,b,k,o⟩
  ·omega
  ·omega
  ·have hall : (List.range C.length).all (duF A Y C) = duS A Y C C.length := by
    unfold duS
    have hj : ∀ j,j < C.length → duF A Y C j = duE A Y C j := fun j hj => by
     rw [o.y]
     exact opt_dual p6 hsm o.g o.t o.c o.e j hj
    cases hd : (List.range C.length).all (duE A Y C) with
    | true =>
     rw [all_iff] at hd
     rw [all_iff]
     exact fun j hjl => by rw [hj j hjl]; exact hd j hjl
    | false =>
     rw [← Bool.not_eq_true] at hd ⊢
     intro h2
     refine hd ((all_iff _ _).2 fun j hjl => ?_)
     rw [← hj j hjl]
     exact (all_iff _ _).1 h2 j hjl
   rw [hall]
theorem impl_slp (A : List (List Int)) (B : List Int) (C : List Q) (hA : A.length ≤ 1048576) (hAr : ∀ i,i < A.length → (A.getD i []).length ≤ 1048576) (hB : B.length ≤ 1048576) (hC : C.length ≤ 1048576) (hsm : smC C) : m_impl_SolveLP A B C = some (slpF A B C) := by
 unfold m_impl_SolveLP slpF
 rw [impl_lp A B C hA hAr hB hC,Option.bind_some]
 cases h : lpOk A B C with
 | false => rw [if_neg (by simp)]; rfl
 | true =>
  rw [if_pos rfl,Bool.not_true,cond_false]
  obtain ⟨y,e,r⟩ := impl_solve A B C h
  rw [e,Option.bind_some]
  rcases hs : solF A B C C.length A.length with _ | ⟨st,vn,vd,X,Y,R,p⟩ <;> rw [hs] at r
  ·obtain ⟨y1,y2,y3,y4,y5,y6,y7,y8⟩ := y
   have : y5 = false := r
   subst this
   rfl
  ·obtain ⟨_,l1,l2,l3,hcs⟩ := sol_cases h hs
   rcases r with rfl | ⟨r1,rfl,kk,hk,hno⟩
   ·dsimp only
    rw [Bool.not_true,cond_false,impl_check A B C h st X Y R vn vd p (by omega) (by omega) (by omega),Option.bind_some,chk_same h hsm hs]
    cases chkS A B C st X Y R vn vd <;> rfl
   ·obtain ⟨y1,y2,y3,y4,y5,y6,y7,y8⟩ := y
    have : y5 = false := r1
    subst this
    obtain ⟨p1,p2,p3,p4,p5,p6⟩ := lpOk_parts h
    have hck : chkS A B C 2 X Y R vn vd = false := by
     unfold chkS
     have e1 : ((2 : Int) == 1) = false := rfl
     have e2 : ((2 : Int) == 2) = true := rfl
     rw [e1,e2,cond_false,cond_true]
     rcases hd : dotQ (ratsOf B) Y with ⟨s,t,o⟩
     cases o with
     | false => simp
     | true =>
      exfalso
      obtain ⟨_,_,q3,_⟩ := dotQ_val hd
      exact hno (q3 kk (by rw [ratsOf_length]; omega)).2
    dsimp only
    rw [hck]
    rfl
theorem slp_one {A : List (List Int)} {B : List Int} {C : List Q} {vn vd p : Int} {X Y R : List Q} (h : slpF A B C = (1,vn,vd,p,X,Y,R)) :
  lpOk A B C = true ∧ R = [] ∧ (∃ r b k,OptE A B C vn vd X Y r b k) ∧ feasB A B C X = true ∧ Y.length = B.length ∧ duS A Y C C.length = true ∧ optE B C X Y vn vd = true := by
 unfold slpF at h
 split at h
 ·rename_i hl
  rcases hs : solF A B C C.length A.length with _ | ⟨st,a,b,X',Y',R',q⟩
  ·rw [hs] at h
   simp at h
  ·rw [hs] at h
   dsimp only at h
   obtain ⟨_,_,_,_,hc⟩ := sol_cases hl hs
   cases hk : chkS A B C st X' Y' R' a b with
   | false =>
    rw [hk] at h
    simp at h
   | true =>
    rw [hk,cond_true] at h
    simp only [Prod.mk.injEq] at h
    obtain ⟨rfl,rfl,rfl,rfl,rfl,rfl,rfl⟩ := h
    rcases hc with ⟨h2,_⟩ | ⟨h2,_⟩ | ⟨_,h3,h4⟩
    ·omega
    ·omega
    ·unfold chkS at hk
     have e1 : ((1 : Int) == 1) = true := rfl
     rw [e1,cond_true] at hk
     simp only [Bool.and_eq_true,decide_eq_true_eq] at hk
     exact ⟨hl,h3,h4,hk.1,hk.2.1,hk.2.2.1,hk.2.2.2⟩
 ·simp at h
theorem opt_val {B : List Int} {C X Y : List Q} {vn vd : Int} (h : optE B C X Y vn vd = true) : validQ vn vd = true ∧ X.length = C.length ∧ (∀ i,i < B.length → vq (Y.getD i ⟨0,0⟩)) ∧ rv vn vd = sR (fun j => qg C j * qg X j) C.length ∧ rv vn vd = sR (fun i => ig B i * qg Y i) B.length ∧ dotQ C X = (vn,vd,true) := by
 unfold optE at h
 simp only [Bool.and_eq_true,beq_iff_eq] at h
 obtain ⟨h1,h2,⟨h3,h4⟩,h5,h6⟩ := h
 rcases hx : dotQ C X with ⟨a,b,o1⟩
 rcases hy : dotQ (ratsOf B) Y with ⟨c,d,o2⟩
 rw [hx] at h1 h3 h4 h5 h6
 rw [hy] at h2 h3 h4
 dsimp only at h1 h2 h3 h4 h5 h6
 subst h1 h2 h5 h6 h3 h4
 obtain ⟨a1,a2,a3,a4⟩ := dotQ_val hx
 obtain ⟨b1,b2,b3,b4⟩ := dotQ_val hy
 rw [ratsOf_length] at b3 b4
 refine ⟨a2,a1.symm,fun i hi => (b3 i hi).2,a4,?_,rfl⟩
 rw [b4]
 refine sR_ext fun i hi => ?_
 rw [qg_ratsOf B i hi]
 rfl
theorem smC_int {C : List Q} (h : ∀ j,j < C.length → (C.getD j ⟨0,0⟩).den = 1 ∧ -100000000 ≤ (C.getD j ⟨0,0⟩).num ∧ (C.getD j ⟨0,0⟩).num ≤ 100000000) : smC C := fun j hj => by
 have := h j hj
 omega
theorem leastC_at (l : List Int) (m : Nat) (hv : ∀ i,-500 ≤ l.getD i 0 ∧ l.getD i 0 ≤ 500) (j : Nat) (hj : j < (leastC l m).length) : ((leastC l m).getD j ⟨0,0⟩).den = 1 ∧ -500 ≤ ((leastC l m).getD j ⟨0,0⟩).num ∧ ((leastC l m).getD j ⟨0,0⟩).num ≤ 500 := by
 unfold leastC at hj ⊢
 rw [List.length_append,tab_length,List.length_singleton] at hj
 by_cases h : j < m
 ·rw [getD_app1 _ _ _ _ (by rw [tab_length]; exact h),tab_getD _ _ _ _ h]
  have := hv (j + 1)
  unfold negV
  dsimp only
  omega
 ·have e : j = m + 0 := by omega
  rw [e,getD_app2 _ _ _ _ _ (tab_length _ _)]
  have := hv (m + 1)
  exact ⟨rfl,this⟩
theorem val_all {n : Int} {l : List Int} (h : Valid n l) (i : Nat) : -500 ≤ l.getD i 0 ∧ l.getD i 0 ≤ 500 := by
 by_cases hi : i < l.length
 ·exact h.2.2.2 i hi
 ·have : l.getD i 0 = 0 := by
   rw [List.getD_eq_getElem?_getD,List.getElem?_eq_none (by omega)]
   rfl
  rw [this]
  decide
def nqs (Y : List Q) (n : Nat) : List Q := tab (fun k => nq (Y.getD k ⟨0,0⟩)) n
theorem spec_negs (N : Nat) (Y : List Q) (hN : N ≤ 1000) (hl : N ≤ Y.length) (hv : ∀ i,i < N → vq (Y.getD i ⟨0,0⟩)) : iter (l_spec_FindLeastCore_0 (N : Int) Y) ((0 : Int),[]) = some (nqs Y N) := by
 have hroom : (room : Nat) = 1099511627776 := rfl
 have h1 := iter_tab (step := l_spec_FindLeastCore_0 (N : Int) Y) [] (fun k => nq (Y.getD k ⟨0,0⟩)) N (fun i hi acc hacc => by
   have hb := validQ_bd (hv i hi)
   unfold l_spec_FindLeastCore_0 m_spec_l7Negated
   dsimp only
   rw [decide_eq_true (by omega),cond_true,grd_pos (by omega),Int.toNat_natCast,Option.bind_some]
   dsimp only
   rw [grd_pos (by rw [hacc]; simp only [List.length_nil,List.length_singleton]; omega),w64' (by omega) (by omega),w64' (by omega) (by omega),Int.zero_sub]
   rfl)
  (fun acc => by unfold l_spec_FindLeastCore_0; dsimp only; rw [decide_eq_false (by omega),cond_false])
 rw [List.nil_append] at h1
 exact h1
theorem impl_negs (Y : List Q) (hN : Y.length ≤ 1000) (hv : ∀ i,i < Y.length → vq (Y.getD i ⟨0,0⟩)) : m_impl_minusAll Y = some (nqs Y Y.length) := by
 unfold m_impl_minusAll
 have hroom : (room : Nat) = 1099511627776 := rfl
 have h1 := iter_tab (step := l_impl_minusAll_0 Y) [] (fun k => nq (Y.getD k ⟨0,0⟩)) Y.length (fun i hi acc hacc => by
   have hb := validQ_bd (hv i hi)
   unfold l_impl_minusAll_0 m_impl_minus
   dsimp only
   rw [decide_eq_true (by omega),cond_true,grd_pos (by omega),Int.toNat_natCast,Option.bind_some]
   dsimp only
   rw [grd_pos (by rw [hacc]; simp only [List.length_nil,List.length_singleton]; omega),w64' (by omega) (by omega),w64' (by omega) (by omega),Int.zero_sub]
   rfl)
  (fun acc => by unfold l_impl_minusAll_0; dsimp only; rw [decide_eq_false (by omega),cond_false])
 rw [List.nil_append] at h1
 rw [h1,Option.bind_some]
 rfl
theorem take_at (Y : List Q) (n i : Nat) (hi : i < n) (hl : n ≤ Y.length) : (Y.take n).getD i ⟨0,0⟩ = Y.getD i ⟨0,0⟩ := by
 rw [getD_get _ _ _ (by rw [List.length_take]; omega),getD_get _ _ _ (by omega),List.getElem_take]
def flcF (N m : Nat) (l : List Int) : Bool × Int × Int × List Q × List Q := match slpF (leastA N m) (leastB N) (leastC l m) with
 | (st,vn,vd,_,X,Y,_) => bif st != 1 then (false,0,0,[],[]) else (true,-vn,vd,nqs Y N,X)
theorem leastB_length (N : Nat) : (leastB N).length = N + 1 := by
 unfold leastB
 rw [List.length_append,tab_length,List.length_singleton]
theorem least_two (N m : Nat) (l : List Int) (hv : validB (N : Int) l = true) (h2N : 2 ≤ N) (hm : l.length = m + 2) : m_spec_FindLeastCore (N : Int) l = some (flcF N m l) ∧ m_impl_FindLeastCore (N : Int) l = some (flcF N m l) := by
 have hV := (validB_eq _ l).1 hv
 obtain ⟨N',hN',h1,h2,h3,h4⟩ := valid_nat hV
 have hNN : N' = N := by omega
 subst hNN
 obtain ⟨e1,e2,e3,e4⟩ := least_lens N' m l h2 (by omega)
 have hsm : smC (leastC l m) := smC_int fun j hj => by
  have := leastC_at l m (val_all hV) j hj
  omega
 unfold m_spec_FindLeastCore m_impl_FindLeastCore flcF
 rw [spec_least N' m l hv h2N hm,impl_least N' m l hv h2N hm,Option.bind_some,Option.bind_some]
 dsimp only
 rw [Bool.not_true,cond_false,cond_false,spec_slp _ _ _ e1 e2 e3 e4,impl_slp _ _ _ e1 e2 e3 e4 hsm,Option.bind_some,Option.bind_some]
 rcases hs : slpF (leastA N' m) (leastB N') (leastC l m) with ⟨st,vn,vd,p,X,Y,R⟩
 dsimp only
 cases hst : (st != 1) with
 | true => exact ⟨rfl,rfl⟩
 | false =>
  have hst : st = 1 := by simpa using hst
  subst hst
  obtain ⟨q1,q2,q3,q4,q5,q6,q7⟩ := slp_one hs
  obtain ⟨o1,o2,o3,o4,o5,o6⟩ := opt_val q7
  rw [leastB_length] at o3 q5
  have vb := validQ_bd o1
  rw [cond_false,cond_false,cond_false]
  constructor
  ·unfold m_spec_l7Negated
   rw [Option.bind_some]
   dsimp only
   rw [spec_negs N' Y (by omega) (by omega) (fun i hi => o3 i (by omega)),Option.bind_some,w64' (by omega) (by omega),Int.zero_sub]
  ·unfold m_impl_minus
   rw [Option.bind_some]
   dsimp only
   have hlen : (Y.take N').length = N' := by rw [List.length_take]; omega
   have hneg : m_impl_minusAll (Y.take N') = some (nqs Y N') := by
    rw [impl_negs _ (by omega) (fun i hi => by rw [hlen] at hi; rw [take_at Y N' i hi (by omega)]; exact o3 i (by omega)),hlen]
    unfold nqs
    congr 1
    exact tab_ext fun k hk => by rw [take_at Y N' k hk (by omega)]
   rw [grd_pos (by omega),Int.toNat_natCast,List.drop_zero,hneg,Option.bind_some,w64' (by omega) (by omega),Int.zero_sub]
theorem flc_len (N m : Nat) (l : List Int) (hN : N ≤ 5) : (flcF N m l).2.2.2.1.length ≤ 1000 ∧ (flcF N m l).2.2.2.2.length ≤ 1000 := by
 unfold flcF
 rcases hs : slpF (leastA N m) (leastB N) (leastC l m) with ⟨st,vn,vd,p,X,Y,R⟩
 dsimp only
 cases hst : (st != 1) with
 | true => exact ⟨by simp,by simp⟩
 | false =>
  have hst : st = 1 := by simpa using hst
  subst hst
  obtain ⟨q1,q2,q3,q4,q5,q6,q7⟩ := slp_one hs
  obtain ⟨o1,o2,_⟩ := opt_val q7
  obtain ⟨_,p2,_⟩ := lpOk_parts q1
  rw [cond_false]
  unfold nqs
  dsimp only
  rw [tab_length]
  omega
theorem flc_both (n : Int) (l : List Int) (hl : l.length ≤ 1048576) : ∃ b vn vd P W,(P.length ≤ 1000 ∧ W.length ≤ 1000) ∧ m_spec_FindLeastCore n l = some (b,vn,vd,P,W) ∧ m_impl_FindLeastCore n l = some (b,vn,vd,P,W) := by
 by_cases h0 : validB n l = false ∨ n < 2
 ·obtain ⟨e1,e2⟩ := least0 n l hl h0
  refine ⟨false,0,0,[],[],by simp,?_,?_⟩
  ·unfold m_spec_FindLeastCore
   rw [e1]
   rfl
  ·unfold m_impl_FindLeastCore
   rw [e2]
   rfl
 ·have hv : validB n l = true := by
   cases h : validB n l with
   | true => rfl
   | false => exact absurd (.inl h) h0
  have hn : ¬ n < 2 := fun h => h0 (.inr h)
  obtain ⟨N,rfl,h1,h2,h3,h4⟩ := valid_nat ((validB_eq n l).1 hv)
  have h5 : 4 ≤ l.length := by
   rw [h3]
   exact Nat.le_trans (by decide) (Nat.pow_le_pow_right (n := 2) (by decide) (show 2 ≤ N by omega))
  obtain ⟨e1,e2⟩ := least_two N (l.length - 2) l hv (by omega) (by omega)
  have hlen := flc_len N (l.length - 2) l h2
  rcases hf : flcF N (l.length - 2) l with ⟨b,vn,vd,P,W⟩
  rw [hf] at e1 e2 hlen
  exact ⟨b,vn,vd,P,W,hlen,e1,e2⟩
theorem frame_two (p w : List Q) (hp : p.length ≤ 1000) (hw : w.length ≤ 1000) :
  m_laws_eqRatS p p = some true ∧ m_laws_eqRatS w w = some true ∧ m_laws_markRatS_io1 p 1 = some (1 + 2 * (p.length : Int),tab (mkQ 1) p.length) ∧ m_laws_markRatS_io1 w (1 + 2 * (p.length : Int)) = some (1 + 2 * (p.length : Int) + 2 * (w.length : Int),tab (mkQ (1 + 2 * (p.length : Int))) w.length) ∧
  m_laws_heldRatS (tab (mkQ 1) p.length) 1 = some (1 + 2 * (p.length : Int)) ∧ m_laws_heldRatS (tab (mkQ (1 + 2 * (p.length : Int))) w.length) (1 + 2 * (p.length : Int)) = some (1 + 2 * (p.length : Int) + 2 * (w.length : Int)) := by
 refine ⟨?_,?_,mark_rats p 1 (by omega) (by omega) (by omega),mark_rats w _ (by omega) (by omega) (by omega),held_rats 1 p.length (by omega) (by omega) (by omega),held_rats _ w.length (by omega) (by omega) (by omega)⟩
 ·rw [eq_rats p p (by omega)]
  simp
 ·rw [eq_rats w w (by omega)]
  simp
theorem law_FnExactFindLeastCore (n : Int) (l : List Int) (_ : I64 n) (hl : l.length ≤ maxLen ∧ ∀ n ∈ l,I64 n) : m_laws_FnExactFindLeastCore n l = some true := by
 unfold m_laws_FnExactFindLeastCore
 rw [sz_game n l _ (by decide) (by decide) hl.1]
 by_cases h : (1048576 : Int) < l.length
 ·simp [h]
 ·have h0 : ¬ (1048576 : Int) - (l.length : Int) < 0 := by omega
  have hl' : l.length ≤ 1048576 := by omega
  obtain ⟨b,vn,vd,P,W,⟨hp,hw⟩,e1,e2⟩ := flc_both n l hl'
  obtain ⟨f1,f2,f3,f4,f5,f6⟩ := frame_two P W hp hw
  have c0 : ¬ (1 : Int) + (l.length : Int) < 0 := by omega
  have c1 : ¬ (1 : Int) + 2 * (P.length : Int) < 0 := by omega
  have c2 : ¬ (1 : Int) + 2 * (P.length : Int) + 2 * (W.length : Int) < 0 := by omega
  simp [h,h0,to_game n l hl',e1,e2,eq_game n l n l hl' hl',mark_game n l 1 (by decide) (by decide) (by omega),m_laws_eqLeastResult,m_laws_markLeastResult_io2,m_laws_heldLeastResult,eq_rat,f1,f2,f3,f4,f5,f6,c0,c1,c2]
end Go.Proofs.YtjnbmknniadbpaaGreat
