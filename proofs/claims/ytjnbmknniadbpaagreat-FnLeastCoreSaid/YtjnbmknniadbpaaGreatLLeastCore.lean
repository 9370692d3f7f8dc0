/- The plain laws: what the models of FnLeastCore compute. No condition beyond those that each theorem names. -/
import Derived.Test.YtjnbmknniadbpaaGreatLLeastCorea
namespace Go.Proofs.YtjnbmknniadbpaaGreat
open Go.AM
theorem spec_costs2 (A : List (List Int)) (B : List Int) (C : List Q) (hC : C.length ≤ 1000) (hA : A.length ≤ 1000) : m_spec_l7Costs A B C false = some (cost2 C A.length) := by
 unfold m_spec_l7Costs
 have hroom : (room : Nat) = 1099511627776 := rfl
 have h1 := iter_tab (step := l_spec_l7Costs_0 C false) [] (fun i => C.getD i ⟨0,0⟩) C.length (fun i hi acc hacc => by
   unfold l_spec_l7Costs_0
   dsimp only
   rw [decide_eq_true (by omega),cond_true,cond_false,grd_pos (by omega),getD_nat,grd_pos (by rw [hacc]; simp only [List.length_nil,List.length_singleton]; omega),w64' (by omega) (by omega)]
   rfl)
  (fun acc => by unfold l_spec_l7Costs_0; dsimp only; rw [decide_eq_false (by omega),cond_false])
 have h2 := iter_tab (step := l_spec_l7Costs_1 A false) C (fun _ => ⟨0,1⟩) A.length (fun i hi acc hacc => by
   unfold l_spec_l7Costs_1 m_spec_l3Int
   dsimp only
   rw [decide_eq_true (by omega),cond_true,l1bit,Option.bind_some,Option.bind_some]
   dsimp only
   rw [grd_pos (by rw [hacc]; simp only [List.length_singleton]; omega),w64' (by omega) (by omega)]
   rfl)
  (fun acc => by unfold l_spec_l7Costs_1; dsimp only; rw [decide_eq_false (by omega),cond_false])
 rw [List.nil_append,tab_self] at h1
 rw [h1,Option.bind_some]
 dsimp only
 rw [h2,Option.bind_some]
 rfl
theorem rats_zero (n : Nat) : ratsOf (List.replicate n (0 : Int)) = zer n := by
 unfold ratsOf zer
 rw [List.length_replicate]
 refine tab_ext fun i hi => ?_
 rw [getD_get _ _ _ (by rw [List.length_replicate]; exact hi),List.getElem_replicate]
theorem impl_zero (n : Nat) (hn : n ≤ 1000) : m_impl_rats (List.replicate (n : Int).toNat (0 : Int)) = some (zer n) := by
 rw [Int.toNat_natCast,impl_rats _ (by rw [List.length_replicate]; omega) (fun i hi => by
  rw [List.length_replicate] at hi
  rw [getD_get _ _ _ (by rw [List.length_replicate]; exact hi),List.getElem_replicate]
  decide),rats_zero]
theorem impl_costs (l : List Q) (x : Int) (m : Nat) (hl : l.length ≤ 1000) (hm : m ≤ 1000) : m_impl_costsOf l x (m : Int) = some (l ++ tab (fun _ => ⟨x,1⟩) m) := by
 unfold m_impl_costsOf
 have hroom : (room : Nat) = 1099511627776 := rfl
 rw [grd_pos (by simp only [List.length_nil]; omega),List.nil_append]
 have h2 := iter_tab (step := l_impl_costsOf_0 x (m : Int)) l (fun _ => ⟨x,1⟩) m (fun i hi acc hacc => by
   unfold l_impl_costsOf_0 m_impl_whole
   dsimp only
   rw [decide_eq_true (by omega),cond_true,Option.bind_some]
   dsimp only
   rw [grd_pos (by rw [hacc]; simp only [List.length_singleton]; omega),w64' (by omega) (by omega)]
   rfl)
  (fun acc => by unfold l_impl_costsOf_0; dsimp only; rw [decide_eq_false (by omega),cond_false])
 rw [h2,Option.bind_some]
def slF (rows : List (List Q)) (basis : List Int) (n m : Nat) : Nat → List Q
 | 0 => zer (n + m)
 | k + 1 => (slF rows basis n m k).set (bn basis k) ((rows.getD k []).getD (n + m) ⟨0,0⟩)
theorem slF_length (rows : List (List Q)) (basis : List Int) (n m : Nat) : ∀ k,(slF rows basis n m k).length = n + m
 | 0 => tab_length _ _
 | k + 1 => by simp only [slF]; rw [List.length_set,slF_length rows basis n m k]
theorem spec_sol {n m : Nat} {rows : List (List Q)} {basis : List Int} (h : GT n m rows basis) : m_spec_SolutionOf rows basis (n : Int) = some (slF rows basis n m m) := by
 obtain ⟨l1,l2,l3⟩ := h.lens
 have hroom : (room : Nat) = 1099511627776 := rfl
 have hrl := h.rl
 have hbl := h.bl
 have hm := h.m8
 have hn := h.n70
 unfold m_spec_SolutionOf
 rw [spec_tabOk rows basis _ l1 l2 l3,gt_tabOk h,Option.bind_some,Bool.not_true,cond_false]
 have e : IntKind.i64.wrap ((n : Int) + (rows.length : Int)) = ((n + m : Nat) : Int) := by
  rw [w64' (by omega) (by omega)]
  omega
 have h1 := iter_tab (step := l_spec_SolutionOf_0 rows (n : Int)) [] (fun _ => ⟨0,1⟩) (n + m) (fun i hi acc hacc => by
   unfold l_spec_SolutionOf_0 m_spec_l3Int
   dsimp only
   rw [e,decide_eq_true (by omega),cond_true,Option.bind_some]
   dsimp only
   rw [grd_pos (by rw [hacc]; simp only [List.length_nil,List.length_singleton]; omega),w64' (by omega) (by omega)]
   rfl)
  (fun acc => by unfold l_spec_SolutionOf_0; dsimp only; rw [e,decide_eq_false (by omega),cond_false])
 rw [List.nil_append] at h1
 have h2 := iter_up (step := l_spec_SolutionOf_1 rows basis (n : Int)) (fun k => ((k : Int),slF rows basis n m k)) m (a := slF rows basis n m m) (fun k hk => by
   have hb := h.bas k hk
   have hr := h.row k hk
   have hsl := slF_length rows basis n m k
   unfold l_spec_SolutionOf_1
   dsimp only
   rw [decide_eq_true (by omega),cond_true,grd_pos (by omega),grd_pos (by omega),e,Int.toNat_natCast,grd_pos (by omega),Int.toNat_natCast,grd_pos (by omega),w64' (by omega) (by omega)]
   rfl)
  (by unfold l_spec_SolutionOf_1; dsimp only; rw [decide_eq_false (by omega),cond_false])
 have e0 : slF rows basis n m 0 = tab (fun _ => ⟨0,1⟩) (n + m) := rfl
 simp only [Int.natCast_zero,e0] at h2
 rw [h1,Option.bind_some]
 dsimp only
 rw [h2,Option.bind_some]
theorem impl_sol {n m : Nat} {rows : List (List Q)} {basis : List Int} (h : GT n m rows basis) : m_impl_SolutionOf rows basis (n : Int) = some (slF rows basis n m m) := by
 obtain ⟨l1,l2,l3⟩ := h.lens
 have hroom : (room : Nat) = 1099511627776 := rfl
 have hrl := h.rl
 have hbl := h.bl
 have hm := h.m8
 have hn := h.n70
 unfold m_impl_SolutionOf
 rw [impl_tabOk rows basis _ l1 l2,gt_tabOk h,Option.bind_some,Bool.not_true,cond_false]
 have e : IntKind.i64.wrap ((n : Int) + (rows.length : Int)) = ((n + m : Nat) : Int) := by
  rw [w64' (by omega) (by omega)]
  omega
 have h1 := iter_tab (step := l_impl_SolutionOf_0 rows (n : Int)) [] (fun _ => ⟨0,1⟩) (n + m) (fun i hi acc hacc => by
   unfold l_impl_SolutionOf_0 m_impl_whole
   dsimp only
   rw [e,decide_eq_true (by omega),cond_true,Option.bind_some]
   dsimp only
   rw [grd_pos (by rw [hacc]; simp only [List.length_nil,List.length_singleton]; omega),w64' (by omega) (by omega)]
   rfl)
  (fun acc => by unfold l_impl_SolutionOf_0; dsimp only; rw [e,decide_eq_false (by omega),cond_false])
 rw [List.nil_append] at h1
 have h2 := iter_up (step := l_impl_SolutionOf_1 rows basis) (fun k => ((k : Int),slF rows basis n m k)) m (a := slF rows basis n m m) (fun k hk => by
   have hb := h.bas k hk
   have hr := h.row k hk
   have hsl := slF_length rows basis n m k
   have e2 : IntKind.i64.wrap (((rows.getD k []).length : Int) - 1) = ((n + m : Nat) : Int) := by
    rw [w64' (by omega) (by omega)]
    omega
   unfold l_impl_SolutionOf_1
   dsimp only
   rw [decide_eq_true (by omega),cond_true,grd_pos (by omega),grd_pos (by omega),Int.toNat_natCast,e2,grd_pos (by omega),Int.toNat_natCast,grd_pos (by omega),w64' (by omega) (by omega)]
   rfl)
  (by unfold l_impl_SolutionOf_1; dsimp only; rw [decide_eq_false (by omega),cond_false])
 have e0 : slF rows basis n m 0 = tab (fun _ => ⟨0,1⟩) (n + m) := rfl
 simp only [Int.natCast_zero,e0] at h2
 rw [h1,Option.bind_some]
 dsimp only
 rw [h2,Option.bind_some]
def dlQ (costs : List Q) (n : Nat) (base : Int) (k : Nat) : Int × Int × Bool := subQ base 1 (costs.getD (n + k) ⟨0,0⟩).num (costs.getD (n + k) ⟨0,0⟩).den
def dlE (B : List Int) (costs : List Q) (n : Nat) (base : Int) (k : Nat) : Q := ⟨if B.getD k 0 < 0 then -(dlQ costs n base k).1 else (dlQ costs n base k).1,(dlQ costs n base k).2.1⟩
def dlF (B : List Int) (costs : List Q) (n m : Nat) (base : Int) : List Q := tab (dlE B costs n base) m
theorem subQ_bd (a b c d : Int) : -1000000000 ≤ (subQ a b c d).1 ∧ (subQ a b c d).1 ≤ 1000000000 := by
 rcases h : subQ a b c d with ⟨x,y,o⟩
 cases o with
 | false =>
  have := subQ_false (a := a) (b := b) (c := c) (d := d) (by rw [h])
  rw [h] at this
  simp only [Prod.mk.injEq] at this
  rw [this.1]
  show -1000000000 ≤ (0 : Int) ∧ (0 : Int) ≤ 1000000000
  decide
 | true =>
  have := validQ_bd (subQ_val h).2.1
  dsimp only
  omega
theorem spec_dual (A : List (List Int)) (B : List Int) (C : List Q) (rows : List (List Q)) (basis : List Int) (n m : Nat) (p : Int) (bad : Bool) (costs : List Q) (base : Int) (hA : A.length = m) (hB : B.length = m) (hm : m ≤ 1000) (hn : n ≤ 1000) (hc : costs.length = n + m + 1) :
  m_spec_l7Dual_io3 A B C rows basis (n : Int) p bad costs base = some (dlF B costs n m base,rows,basis,(n : Int),p,bad) := by
 unfold m_spec_l7Dual_io3
 have hroom : (room : Nat) = 1099511627776 := rfl
 have h1 := iter_tab (step := l_spec_l7Dual_io3_0 A B (n : Int) costs base) [] (dlE B costs n base) m (fun i hi acc hacc => by
   have e : IntKind.i64.wrap ((n : Int) + (i : Int)) = ((n + i : Nat) : Int) := by
    rw [w64' (by omega) (by omega)]
    omega
   unfold l_spec_l7Dual_io3_0 m_spec_l3Int
   dsimp only
   rw [decide_eq_true (by omega),cond_true,Option.bind_some]
   dsimp only
   rw [e,grd_pos (by omega),Int.toNat_natCast,spec_sub,Option.bind_some]
   have hb := subQ_bd base 1 (costs.getD (n + i) ⟨0,0⟩).num (costs.getD (n + i) ⟨0,0⟩).den
   have hd : subQ base 1 (costs.getD (n + i) ⟨0,0⟩).num (costs.getD (n + i) ⟨0,0⟩).den = dlQ costs n base i := rfl
   rw [hd] at hb
   rw [hd]
   unfold dlE
   revert hb
   rcases dlQ costs n base i with ⟨x,y,o⟩
   intro hb
   dsimp only at hb ⊢
   rw [grd_pos (by omega),Int.toNat_natCast,w64' (n := (i : Int) + 1) (by omega) (by omega),w64' (n := 0 - x) (by omega) (by omega),Int.zero_sub,grd_pos (by rw [hacc]; simp only [List.length_nil,List.length_singleton]; omega),grd_pos (by rw [hacc]; simp only [List.length_nil,List.length_singleton]; omega)]
   by_cases h0 : B.getD i 0 < 0
   ·rw [decide_eq_true h0,if_pos h0]
    rfl
   ·rw [decide_eq_false h0,if_neg h0]
    rfl)
  (fun acc => by unfold l_spec_l7Dual_io3_0; dsimp only; rw [decide_eq_false (by omega),cond_false])
 rw [List.nil_append] at h1
 rw [h1,Option.bind_some]
 rfl
def ryF (rows : List (List Q)) (basis : List Int) (n : Nat) (col : Nat) : Nat → List Q
 | 0 => tab (fun j => ⟨if j = col then 1 else 0,1⟩) n
 | k + 1 => if basis.getD k 0 < (n : Int) then (ryF rows basis n col k).set (bn basis k) (nq (cellQ rows k (col : Int))) else ryF rows basis n col k
theorem ryF_length (rows : List (List Q)) (basis : List Int) (n col : Nat) : ∀ k,(ryF rows basis n col k).length = n
 | 0 => tab_length _ _
 | k + 1 => by
  simp only [ryF]
  split
  ·rw [List.length_set,ryF_length rows basis n col k]
  ·exact ryF_length rows basis n col k
theorem spec_ray {n m : Nat} {rows : List (List Q)} {basis : List Int} (h : GT n m rows basis) (A : List (List Int)) (B : List Int) (C : List Q) (p : Int) (bad : Bool) (col : Nat) (hc : col < n) :
  m_spec_l7Ray_io3 A B C rows basis (n : Int) p bad (col : Int) = some (ryF rows basis n col m,rows,basis,(n : Int),p,bad) := by
 have hroom : (room : Nat) = 1099511627776 := rfl
 have hrl := h.rl
 have hbl := h.bl
 have hm := h.m8
 have hn := h.n70
 unfold m_spec_l7Ray_io3
 have h1 := iter_tab (step := l_spec_l7Ray_io3_0 (n : Int) (col : Int)) [] (fun j => ⟨if j = col then 1 else 0,1⟩) n (fun i hi acc hacc => by
   unfold l_spec_l7Ray_io3_0 m_spec_l3Int
   dsimp only
   rw [decide_eq_true (by omega),cond_true,beqI,l1bit,Option.bind_some,Option.bind_some]
   dsimp only
   rw [grd_pos (by rw [hacc]; simp only [List.length_nil,List.length_singleton]; omega),w64' (by omega) (by omega)]
   simp only [decide_eq_true_eq]
   rfl)
  (fun acc => by unfold l_spec_l7Ray_io3_0; dsimp only; rw [decide_eq_false (by omega),cond_false])
 rw [List.nil_append] at h1
 have h2 := iter_up (step := l_spec_l7Ray_io3_1 rows basis (n : Int) (col : Int)) (fun k => ((k : Int),ryF rows basis n col k)) m (a := ryF rows basis n col m) (fun k hk => by
   have hb := h.bas k hk
   have hr := h.row k hk
   have hsl := ryF_length rows basis n col k
   have hbd := bdT_cell h.bd (by omega : k < rows.length) (col : Int)
   unfold l_spec_l7Ray_io3_1 m_spec_l7Negated
   dsimp only
   rw [decide_eq_true (by omega),cond_true,grd_pos (by omega),Int.toNat_natCast,Int.toNat_natCast,w64' (n := (k : Int) + 1) (by omega) (by omega)]
   have hcell : ((rows.getD k []).getD col ⟨0,0⟩) = cellQ rows k (col : Int) := rfl
   rw [hcell,w64' (n := 0 - _) (by omega) (by omega),Int.zero_sub]
   simp only [ryF]
   by_cases hlt : basis.getD k 0 < (n : Int)
   ·rw [decide_eq_true hlt,cond_true,if_pos hlt,grd_pos (by omega),grd_pos (by omega),grd_pos (by omega),Option.bind_some]
    dsimp only
    rw [grd_pos (by omega)]
    rfl
   ·rw [decide_eq_false hlt,cond_false,if_neg hlt]
    rfl)
  (by unfold l_spec_l7Ray_io3_1; dsimp only; rw [decide_eq_false (by omega),cond_false])
 have e0 : ryF rows basis n col 0 = tab (fun j => ⟨if j = col then 1 else 0,1⟩) n := rfl
 simp only [Int.natCast_zero,e0] at h2
 rw [h1,Option.bind_some]
 dsimp only
 rw [h2,Option.bind_some]
theorem set_zer (n col : Nat) (hc : col < n) : (zer n).set col ⟨1,1⟩ = tab (fun j => (⟨if j = col then 1 else 0,1⟩ : Q)) n := by
 apply List.ext_getElem (by rw [List.length_set,zer_length,tab_length])
 intro i h1 h2
 rw [List.length_set,zer_length] at h1
 have e1 := tab_getD (fun j => (⟨if j = col then 1 else 0,1⟩ : Q)) n ⟨0,0⟩ i h1
 rw [getD_get _ _ _ h2] at e1
 rw [e1,List.getElem_set]
 by_cases h : col = i
 ·rw [if_pos h,if_pos h.symm]
 ·rw [if_neg h,if_neg fun e => h e.symm]
  have e2 := zer_at n i h1
  rwa [getD_get _ _ _ (by rw [zer_length]; exact h1)] at e2
theorem impl_ray {n m : Nat} {rows : List (List Q)} {basis : List Int} (h : GT n m rows basis) (C : List Q) (hC : C.length = n) (col : Nat) (hc : col < n) :
  iter (l_impl_solve_3 C (col : Int) rows basis) ((0 : Int),(zer n).set col ⟨1,1⟩) = some (ryF rows basis n col m) := by
 have hrl := h.rl
 have hbl := h.bl
 have hm := h.m8
 have hn := h.n70
 have h2 := iter_up (step := l_impl_solve_3 C (col : Int) rows basis) (fun k => ((k : Int),ryF rows basis n col k)) m (a := ryF rows basis n col m) (fun k hk => by
   have hb := h.bas k hk
   have hr := h.row k hk
   have hsl := ryF_length rows basis n col k
   have hbd := bdT_cell h.bd (by omega : k < rows.length) (col : Int)
   unfold l_impl_solve_3 m_impl_minus
   dsimp only
   rw [decide_eq_true (by omega),cond_true,grd_pos (by omega),Int.toNat_natCast,Int.toNat_natCast,w64' (n := (k : Int) + 1) (by omega) (by omega)]
   have hcell : ((rows.getD k []).getD col ⟨0,0⟩) = cellQ rows k (col : Int) := rfl
   rw [hcell,w64' (n := 0 - _) (by omega) (by omega),Int.zero_sub]
   simp only [ryF]
   by_cases hlt : basis.getD k 0 < (n : Int)
   ·rw [decide_eq_true (by omega),cond_true,if_pos hlt,grd_pos (by omega),grd_pos (by omega),Option.bind_some]
    dsimp only
    rw [grd_pos (by omega)]
    rfl
   ·rw [decide_eq_false (by omega),cond_false,if_neg hlt]
    rfl)
  (by unfold l_impl_solve_3; dsimp only; rw [decide_eq_false (by omega),cond_false])
 have e0 : ryF rows basis n col 0 = (zer n).set col ⟨1,1⟩ := (set_zer n col hc).symm
 simp only [Int.natCast_zero,e0] at h2
 exact h2
theorem entF_lt (costs : List Q) (last : Int) (h : 0 ≤ entF costs last) : entF costs last < last := by
 unfold entF at h ⊢
 split
 ·rename_i h1
  rw [if_pos h1] at h
  split
  ·rename_i j hj
   rw [List.find?_range_eq_some] at hj
   have := List.mem_range.1 hj.2.1
   omega
  ·rename_i hn
   rw [hn] at h
   simp at h
 ·rename_i h1
  rw [if_neg h1] at h
  simp at h
theorem col_loop {β : Type} {step : Int × List Q → Option ((Int × List Q) ⊕ (List Q ⊕ β))} (f : Nat → Q) (o : Nat → Bool) (n : Nat) (z : β)
  (hs : ∀ i,i < n → ∀ acc : List Q,acc.length = i → step ((i : Int),acc) = some (bif o i then .inl (((i + 1 : Nat) : Int),acc ++ [f i]) else .inr (.inr z)))
  (hd : ∀ acc,step ((n : Int),acc) = some (.inr (.inl acc))) : iter step ((0 : Int),[]) = some (if (List.range n).all o = true then .inl (tab f n) else .inr z) := by
 have h := iter_all (step := step) (fun i => ((i : Int),tab f i)) n o (a := .inl (tab f n)) (b := .inr z)
  (fun i hi hp => by
   have := hs i hi (tab f i) (tab_length _ _)
   rw [hp,cond_true] at this
   rw [this,tab_succ])
  (fun i hi hp => by
   have := hs i hi (tab f i) (tab_length _ _)
   rw [hp,cond_false] at this
   exact this) (hd _)
 simp only [Int.natCast_zero] at h
 have e0 : tab f 0 = [] := rfl
 rw [e0] at h
 rw [h]
 congr 1
 by_cases hall : ∀ i,i < n → o i = true
 ·rw [if_pos hall,if_pos ((all_iff _ _).2 hall)]
 ·rw [if_neg hall,if_neg fun h => hall ((all_iff _ _).1 h)]
def lastQ (k : List Q) (n m : Nat) : Q := k.getD (n + m) ⟨0,0⟩
abbrev SolT := Int × Int × Int × List Q × List Q × List Q × Int
def solF (A : List (List Int)) (B : List Int) (C : List Q) (n m : Nat) : Option SolT :=
 match phF n (cost1 n m) 1001 (stRows A B n) (stBas n m) 0 with
 | none => none
 | some (_,k,r,b,p) => if (lastQ k n m).num < 0 then some (2,0,0,[],dlF B k n m 1,[],p) else
  match drF n r b p m with
  | none => none
  | some (r2,b2,p2) => match phF n (cost2 C m) 1001 r2 b2 p2 with
   | none => none
   | some (c,k2,r3,b3,p3) => if 0 ≤ c then some (3,0,0,(slF r3 b3 n m m).take n,[],ryF r3 b3 n c.toNat m,p3) else
    some (1,-(lastQ k2 n m).num,(lastQ k2 n m).den,(slF r3 b3 n m m).take n,dlF B k2 n m 0,[],p3)
abbrev SpX := Int × Int × Int × Int × List Q × List Q × List Q × List (List Q) × List Int × Int × Int × Bool
def spR (n : Nat) : Option SolT → SpX → Prop
 | none,x => x.2.2.2.2.2.2.2.2.2.2.2 = true
 | some (st,vn,vd,X,Y,R,p),x => ∃ r b,x = (st,vn,vd,0,X,Y,R,r,b,(n : Int),p,false)
theorem sign_num {q : Q} (h : vq q) : decide (cmpQ q.num q.den 0 1 < 0) = decide (q.num < 0) := by
 refine decide_eq_decide.2 ?_
 rw [cmpQ_neg h valid01,rv01]
 exact (rv_sign h).1
theorem cost1_length (n m : Nat) : (cost1 n m).length = n + m := by
 unfold cost1
 rw [List.length_append,zer_length,tab_length]
theorem cost2_length (C : List Q) (m : Nat) : (cost2 C m).length = C.length + m := by
 unfold cost2
 rw [List.length_append,zer_length]
theorem spec_solve (A : List (List Int)) (B : List Int) (C : List Q) (h : lpOk A B C = true) :
  ∃ x,m_spec_l7Solve_io3 A B C (stRows A B C.length) (stBas C.length A.length) (C.length : Int) 0 false = some x ∧ spR C.length (solF A B C C.length A.length) x := by
 obtain ⟨p1,p2,p3,p4,p5,p6⟩ := lpOk_parts h
 have hg := start_gt h
 have hi := start_tinv A B C.length
 obtain ⟨x1,e1,r1⟩ := spec_ph A B C (cost1 C.length A.length) (by rw [cost1_length]; omega) 1001 (stRows A B C.length) (stBas C.length A.length) 0 hg (by omega) (by omega) (by omega)
 unfold m_spec_l7Solve_io3
 rw [spec_costs1 A B C (by omega) (by omega),Option.bind_some]
 have e1' : m_spec_l7Phase_io3 A B C (stRows A B C.length) (stBas C.length A.length) (C.length : Int) 0 false (cost1 C.length A.length) = some x1 := by
  unfold m_spec_l7Phase_io3
  rw [e1,Option.bind_some]
 rw [e1',Option.bind_some]
 unfold solF
 rcases hph : phF C.length (cost1 C.length A.length) 1001 (stRows A B C.length) (stBas C.length A.length) 0 with _ | ⟨c,k,r,b,p⟩ <;> rw [hph] at r1
 ·obtain ⟨c,k,r,b,nn,p,o⟩ := x1
  have : o = true := r1
  subst this
  exact ⟨_,rfl,rfl⟩
 ·have : x1 = (c,k,r,b,(C.length : Int),p,false) := r1
  subst this
  obtain ⟨g1,g2,g3,g4,_⟩ := phF_good 1001 _ _ _ hg hi (by omega) (by omega) _ _ _ _ _ hph
  obtain ⟨_,_,c3,c4⟩ := costF_val g1 g4
  dsimp only
  rw [cond_false]
  have e2 : IntKind.i64.wrap ((k.length : Int) - 1) = ((C.length + A.length : Nat) : Int) := by
   rw [w64' (by omega) (by omega)]
   omega
  have e3 : k.getD (C.length + A.length) ⟨0,0⟩ = lastQ k C.length A.length := rfl
  have hv : vq (lastQ k C.length A.length) := (c4 (C.length + A.length) (by omega)).1
  rw [e2,grd_pos (by omega),Int.toNat_natCast,e3,spec_sign,Option.bind_some,sign_num hv]
  by_cases hneg : (lastQ k C.length A.length).num < 0
  ·rw [decide_eq_true hneg,cond_true,if_pos hneg,spec_dual A B C r b C.length A.length p false k 1 rfl p4 (by omega) (by omega) c3,Option.bind_some]
   exact ⟨_,rfl,⟨_,_,rfl⟩⟩
  ·rw [decide_eq_false hneg,cond_false,if_neg hneg]
   obtain ⟨x2,d1,d2⟩ := spec_drive A B C r b p g1 g2 g3.1 g3.2
   rw [d1,Option.bind_some]
   rcases hdr : drF C.length r b p A.length with _ | ⟨r2,b2,q2⟩ <;> rw [hdr] at d2
   ·obtain ⟨xr,xb,xn,xp,xo⟩ := x2
    have : xo = true := d2
    subst this
    exact ⟨_,rfl,rfl⟩
   ·have : x2 = (r2,b2,(C.length : Int),q2,false) := d2
    subst this
    obtain ⟨h1,h2,h3⟩ := drF_good g1 g2 g3.1 g3.2 _ hdr
    dsimp only
    rw [cond_false,spec_costs2 A B C (by omega) (by omega),Option.bind_some]
    obtain ⟨x3,f1,f2⟩ := spec_ph A B C (cost2 C A.length) (by rw [cost2_length]; omega) 1001 r2 b2 q2 h1 h3.1 h3.2 (by omega)
    have f1' : m_spec_l7Phase_io3 A B C r2 b2 (C.length : Int) q2 false (cost2 C A.length) = some x3 := by
     unfold m_spec_l7Phase_io3
     rw [f1,Option.bind_some]
    rw [f1',Option.bind_some]
    rcases hp2 : phF C.length (cost2 C A.length) 1001 r2 b2 q2 with _ | ⟨c',k2,r3,b3,p3'⟩ <;> rw [hp2] at f2
    ·obtain ⟨c,k,r,b,nn,p,o⟩ := x3
     have : o = true := f2
     subst this
     exact ⟨_,rfl,rfl⟩
    ·have : x3 = (c',k2,r3,b3,(C.length : Int),p3',false) := f2
     subst this
     obtain ⟨i1,i2,i3,i4,i5⟩ := phF_good 1001 _ _ _ h1 h2 h3.1 h3.2 _ _ _ _ _ hp2
     obtain ⟨_,_,j3,j4⟩ := costF_val i1 i4
     have hsl := slF_length r3 b3 C.length A.length A.length
     dsimp only
     rw [cond_false,spec_sol i1,Option.bind_some,grd_pos (by omega),Int.toNat_natCast]
     by_cases hc : 0 ≤ c'
     ·have hcc : c' = entF k2 (C.length : Int) := by
       rcases i5 with h | h
       ·omega
       ·exact h.1
      have hlt := entF_lt k2 (C.length : Int) (by omega)
      obtain ⟨cn,rfl⟩ : ∃ cn : Nat,c' = (cn : Int) := ⟨c'.toNat,by omega⟩
      rw [decide_eq_true (by omega),cond_true,if_pos hc,spec_ray i1 A B C p3' false cn (by omega),Option.bind_some,Int.toNat_natCast]
      exact ⟨_,rfl,⟨_,_,rfl⟩⟩
     ·have e5 : IntKind.i64.wrap ((k2.length : Int) - 1) = ((C.length + A.length : Nat) : Int) := by
       rw [w64' (by omega) (by omega)]
       omega
      have e6 : k2.getD (C.length + A.length) ⟨0,0⟩ = lastQ k2 C.length A.length := rfl
      have hv2 := validQ_bd (j4 (C.length + A.length) (by omega)).1
      rw [e6] at hv2
      unfold m_spec_l7Negated
      rw [decide_eq_false (by omega),cond_false,if_neg hc,spec_dual A B C r3 b3 C.length A.length p3' false k2 0 rfl p4 (by omega) (by omega) j3,Option.bind_some]
      dsimp only
      rw [e5,grd_pos (by omega),Int.toNat_natCast,e6,Option.bind_some]
      dsimp only
      rw [w64' (by omega) (by omega),Int.zero_sub]
      exact ⟨_,rfl,⟨_,_,rfl⟩⟩
abbrev ImY := Int × Int × Int × Int × Bool × List Q × List Q × List Q
def imR (m : Nat) : Option SolT → ImY → Prop
 | none,y => y.2.2.2.2.1 = false
 | some (st,vn,vd,X,Y,R,p),y => y = (st,vn,vd,p,true,X,Y,R) ∨ (y.2.2.2.2.1 = false ∧ st = 2 ∧ ∃ k,k < m ∧ ¬ vq (Y.getD k ⟨0,0⟩))
theorem sub0 {q : Q} (h : vq q) : subQ 0 1 q.num q.den = (-q.num,q.den,true) := by
 have hv := validQ_bd h
 refine subQ_of valid01 h (by rw [validQ_neg]; exact h) (by omega) ?_
 rw [rv_neg,rv01]
 unfold rv
 grind
theorem impl_solve (A : List (List Int)) (B : List Int) (C : List Q) (h : lpOk A B C = true) : ∃ y,m_impl_solve A B C = some y ∧ imR A.length (solF A B C C.length A.length) y := by
 obtain ⟨p1,p2,p3,p4,p5,p6⟩ := lpOk_parts h
 have hroom : (room : Nat) = 1099511627776 := rfl
 have hg := start_gt h
 have hi := start_tinv A B C.length
 obtain ⟨x1,e1,r1⟩ := impl_ph (cost1 C.length A.length) (by rw [cost1_length]; omega) 1001 (stRows A B C.length) (stBas C.length A.length) 0 hg (by omega) (by omega) (by omega)
 unfold m_impl_solve
 have hc1 : m_impl_costsOf (zer C.length) 1 (B.length : Int) = some (cost1 C.length A.length) := by
  rw [p4,impl_costs _ _ _ (by rw [zer_length]; omega) (by omega)]
  rfl
 have hc2 : m_impl_costsOf C 0 (B.length : Int) = some (cost2 C A.length) := by
  rw [p4,impl_costs _ _ _ (by omega) (by omega)]
  rfl
 rw [impl_start A B C h,Option.bind_some]
 dsimp only
 rw [grd_pos ⟨by omega,rfl,by omega⟩,impl_zero _ (by omega),Option.bind_some,hc1,Option.bind_some,e1,Option.bind_some]
 unfold solF
 rcases hph : phF C.length (cost1 C.length A.length) 1001 (stRows A B C.length) (stBas C.length A.length) 0 with _ | ⟨c,k,r,b,p⟩ <;> rw [hph] at r1
 ·obtain ⟨c,k,r,b,nn,p,o⟩ := x1
  have : o = true := r1
  subst this
  exact ⟨_,rfl,rfl⟩
 ·have : x1 = (c,k,r,b,(C.length : Int),p,false) := r1
  subst this
  obtain ⟨g1,g2,g3,g4,_⟩ := phF_good 1001 _ _ _ hg hi (by omega) (by omega) _ _ _ _ _ hph
  obtain ⟨_,_,c3,c4⟩ := costF_val g1 g4
  dsimp only
  rw [cond_false]
  have e2 : IntKind.i64.wrap ((k.length : Int) - 1) = ((C.length + A.length : Nat) : Int) := by
   rw [w64' (by omega) (by omega)]
   omega
  have e3 : k.getD (C.length + A.length) ⟨0,0⟩ = lastQ k C.length A.length := rfl
  rw [e2,grd_pos (by omega),Int.toNat_natCast,e3]
  by_cases hneg : (lastQ k C.length A.length).num < 0
  ·rw [decide_eq_true hneg,cond_true,if_pos hneg]
   have hit := col_loop (step := l_impl_solve_0 B C k) (dlE B k C.length 1) (fun i => (dlQ k C.length 1 i).2.2) A.length ((0,0,0,0,false,[],[],[]) : ImY) (fun i hi acc hacc => by
     have e : IntKind.i64.wrap ((C.length : Int) + (i : Int)) = ((C.length + i : Nat) : Int) := by
      rw [w64' (by omega) (by omega)]
      omega
     unfold l_impl_solve_0 m_impl_whole m_impl_minus
     dsimp only
     rw [decide_eq_true (by omega),cond_true,Option.bind_some]
     dsimp only
     rw [e,grd_pos (by omega),Int.toNat_natCast,impl_sub,Option.bind_some]
     have hb := subQ_bd 1 1 (k.getD (C.length + i) ⟨0,0⟩).num (k.getD (C.length + i) ⟨0,0⟩).den
     have hd : subQ 1 1 (k.getD (C.length + i) ⟨0,0⟩).num (k.getD (C.length + i) ⟨0,0⟩).den = dlQ k C.length 1 i := rfl
     rw [hd] at hb
     rw [hd]
     unfold dlE
     revert hb
     rcases dlQ k C.length 1 i with ⟨x,y,o⟩
     intro hb
     dsimp only at hb ⊢
     rw [grd_pos (by omega),Int.toNat_natCast,w64' (n := (i : Int) + 1) (by omega) (by omega),w64' (n := 0 - x) (by omega) (by omega),Int.zero_sub,Option.bind_some]
     dsimp only
     rw [grd_pos (by rw [hacc]; simp only [List.length_singleton]; omega),grd_pos (by rw [hacc]; simp only [List.length_singleton]; omega)]
     cases o with
     | false => rfl
     | true =>
      by_cases h0 : B.getD i 0 < 0
      ·rw [decide_eq_true h0,if_pos h0]
       rfl
      ·rw [decide_eq_false h0,if_neg h0]
       rfl)
    (fun acc => by unfold l_impl_solve_0; dsimp only; rw [decide_eq_false (by omega),cond_false])
   rw [hit,Option.bind_some]
   by_cases hall : (List.range A.length).all (fun i => (dlQ k C.length 1 i).2.2) = true
   ·rw [if_pos hall]
    exact ⟨_,rfl,.inl rfl⟩
   ·rw [if_neg hall]
    refine ⟨_,rfl,.inr ⟨rfl,rfl,?_⟩⟩
    rw [all_iff] at hall
    have hex : ∃ i,i < A.length ∧ ¬ (dlQ k C.length 1 i).2.2 = true := Classical.byContradiction fun hn => hall fun i hi => Classical.byContradiction fun h2 => hn ⟨i,hi,h2⟩
    obtain ⟨i,hi,hno⟩ := hex
    refine ⟨i,hi,?_⟩
    unfold dlF
    rw [tab_getD _ _ _ _ hi]
    have hf : (dlQ k C.length 1 i).2.2 = false := by simpa using hno
    have := subQ_false hf
    have e0 : dlQ k C.length 1 i = (0,0,false) := this
    unfold dlE vq
    rw [e0]
    have : validQ (if B.getD i 0 < 0 then -(0 : Int) else 0) 0 = false := by
     split <;> decide
    dsimp only
    rw [this]
    decide
  ·rw [decide_eq_false hneg,cond_false,if_neg hneg]
   obtain ⟨y2,d1,d2⟩ := impl_drive B p4 C rfl r b p g1 g2 g3.1 g3.2
   rw [d1,Option.bind_some]
   rcases hdr : drF C.length r b p A.length with _ | ⟨r2,b2,q2⟩ <;> rw [hdr] at d2
   ·have : y2 = .inr (0,0,0,0,false,[],[],[]) := d2
    subst this
    exact ⟨_,rfl,rfl⟩
   ·have : y2 = .inl ((C.length : Int),q2,false,r2,b2) := d2
    subst this
    obtain ⟨h1,h2,h3⟩ := drF_good g1 g2 g3.1 g3.2 _ hdr
    dsimp only
    rw [hc2,Option.bind_some]
    obtain ⟨x3,f1,f2⟩ := impl_ph (cost2 C A.length) (by rw [cost2_length]; omega) 1001 r2 b2 q2 h1 h3.1 h3.2 (by omega)
    rw [f1,Option.bind_some]
    rcases hp2 : phF C.length (cost2 C A.length) 1001 r2 b2 q2 with _ | ⟨c',k2,r3,b3,p3'⟩ <;> rw [hp2] at f2
    ·obtain ⟨c,k,r,b,nn,p,o⟩ := x3
     have : o = true := f2
     subst this
     exact ⟨_,rfl,rfl⟩
    ·have : x3 = (c',k2,r3,b3,(C.length : Int),p3',false) := f2
     subst this
     obtain ⟨i1,i2,i3,i4,i5⟩ := phF_good 1001 _ _ _ h1 h2 h3.1 h3.2 _ _ _ _ _ hp2
     obtain ⟨_,_,j3,j4⟩ := costF_val i1 i4
     have hsl := slF_length r3 b3 C.length A.length A.length
     dsimp only
     rw [cond_false,impl_sol i1,Option.bind_some,grd_pos (by omega),Int.toNat_natCast]
     by_cases hc : 0 ≤ c'
     ·have hcc : c' = entF k2 (C.length : Int) := by
       rcases i5 with h | h
       ·omega
       ·exact h.1
      have hlt := entF_lt k2 (C.length : Int) (by omega)
      obtain ⟨cn,rfl⟩ : ∃ cn : Nat,c' = (cn : Int) := ⟨c'.toNat,by omega⟩
      unfold m_impl_whole
      rw [decide_eq_true (by omega),cond_true,if_pos hc,Option.bind_some,Option.bind_some]
      dsimp only
      rw [grd_pos (by rw [zer_length]; omega),Int.toNat_natCast,impl_ray i1 C rfl cn (by omega),Option.bind_some]
      exact ⟨_,rfl,.inl rfl⟩
     ·have e5 : IntKind.i64.wrap ((k2.length : Int) - 1) = ((C.length + A.length : Nat) : Int) := by
       rw [w64' (by omega) (by omega)]
       omega
      have e6 : k2.getD (C.length + A.length) ⟨0,0⟩ = lastQ k2 C.length A.length := rfl
      have hv2 := validQ_bd (j4 (C.length + A.length) (by omega)).1
      rw [e6] at hv2
      have hit := iter_tab (step := l_impl_solve_4 B C k2) [] (dlE B k2 C.length 0) A.length (fun i hi acc hacc => by
        have e : IntKind.i64.wrap ((C.length : Int) + (i : Int)) = ((C.length + i : Nat) : Int) := by
         rw [w64' (by omega) (by omega)]
         omega
        have hvi := (j4 (C.length + i) (by omega)).1
        have hvb := validQ_bd hvi
        have hdl : dlQ k2 C.length 0 i = (-(k2.getD (C.length + i) ⟨0,0⟩).num,(k2.getD (C.length + i) ⟨0,0⟩).den,true) := sub0 hvi
        unfold l_impl_solve_4 m_impl_minus
        dsimp only
        rw [decide_eq_true (by omega),cond_true,e,grd_pos (by omega),Int.toNat_natCast,Option.bind_some]
        dsimp only
        rw [grd_pos (by omega),Int.toNat_natCast,w64' (n := (i : Int) + 1) (by omega) (by omega),w64' (n := 0 - (k2.getD (C.length + i) ⟨0,0⟩).num) (by omega) (by omega),Int.zero_sub,Option.bind_some]
        dsimp only
        rw [w64' (by omega) (by omega),Int.zero_sub,grd_pos (by rw [hacc]; simp only [List.length_nil,List.length_singleton]; omega),grd_pos (by rw [hacc]; simp only [List.length_nil,List.length_singleton]; omega)]
        unfold dlE
        rw [hdl]
        by_cases h0 : B.getD i 0 < 0
        ·rw [decide_eq_true h0,if_pos h0]
         rfl
        ·rw [decide_eq_false h0,if_neg h0]
         rfl)
       (fun acc => by unfold l_impl_solve_4; dsimp only; rw [decide_eq_false (by omega),cond_false])
      rw [List.nil_append] at hit
      unfold m_impl_minus
      rw [decide_eq_false (by omega),cond_false,if_neg hc,e5,grd_pos (by omega),Int.toNat_natCast,e6,Option.bind_some]
      dsimp only
      rw [w64' (by omega) (by omega),Int.zero_sub,hit,Option.bind_some]
      exact ⟨_,rfl,.inl rfl⟩
theorem spec_column (A : List (List Int)) (B : List Int) (C : List Q) (h : lpOk A B C = true) (j : Nat) (hj : j < C.length) : m_spec_ColumnOf A B C (j : Int) = some (colA A j) := by
 obtain ⟨p1,p2,p3,p4,p5,p6⟩ := lpOk_parts h
 have hroom : (room : Nat) = 1099511627776 := rfl
 unfold m_spec_ColumnOf
 rw [spec_lp A B C (by omega) (fun i hi => by rw [(p1 i hi).1]; omega) (by omega) (by omega),h,Option.bind_some,Bool.not_true,cond_false,in_eq,w64' (by omega) (by omega),decide_eq_true (by omega),Option.bind_some,Bool.not_true,cond_false]
 have hit := iter_up (step := l_spec_ColumnOf_0 A (j : Int)) (fun k => ((k : Int),tab (fun k => (A.getD k []).getD j 0) k)) A.length (a := colA A j) (fun k hk => by
   have hr := (p1 k hk).1
   unfold l_spec_ColumnOf_0
   dsimp only
   rw [decide_eq_true (by omega),cond_true,grd_pos (by omega),Int.toNat_natCast,grd_pos (by omega),Int.toNat_natCast,grd_pos (by simp only [tab_length,List.length_singleton]; omega),w64' (by omega) (by omega),tab_succ]
   rfl)
  (by unfold l_spec_ColumnOf_0; dsimp only; rw [decide_eq_false (by omega),cond_false]; rfl)
 have e0 : tab (fun k => (A.getD k []).getD j 0) 0 = [] := rfl
 simp only [Int.natCast_zero,e0] at hit
 rw [hit,Option.bind_some]
theorem impl_column (A : List (List Int)) (B : List Int) (C : List Q) (h : lpOk A B C = true) (j : Nat) (hj : j < C.length) : m_impl_column A B C (j : Int) = some (colA A j) := by
 obtain ⟨p1,p2,p3,p4,p5,p6⟩ := lpOk_parts h
 have hroom : (room : Nat) = 1099511627776 := rfl
 unfold m_impl_column
 have hit := iter_up (step := l_impl_column_0 A (j : Int)) (fun k => ((k : Int),tab (fun k => (A.getD k []).getD j 0) k)) A.length (a := colA A j) (fun k hk => by
   have hr := (p1 k hk).1
   unfold l_impl_column_0
   dsimp only
   rw [decide_eq_true (by omega),cond_true,grd_pos (by omega),Int.toNat_natCast,grd_pos (by omega),Int.toNat_natCast,grd_pos (by simp only [tab_length,List.length_singleton]; omega),w64' (by omega) (by omega),tab_succ]
   rfl)
  (by unfold l_impl_column_0; dsimp only; rw [decide_eq_false (by omega),cond_false]; rfl)
 have e0 : tab (fun k => (A.getD k []).getD j 0) 0 = [] := rfl
 simp only [Int.natCast_zero,e0] at hit
 rw [hit,Option.bind_some]
theorem col_small {A : List (List Int)} {n : Nat} (h : ∀ k,k < A.length → (A.getD k []).length = n ∧ smallB (A.getD k []) = true) (j : Nat) : ∀ i,i < (colA A j).length → -1000000000 ≤ (colA A j).getD i 0 ∧ (colA A j).getD i 0 ≤ 1000000000 := by
 intro i hi
 rw [colA_length] at hi
 unfold colA
 rw [tab_getD _ _ _ _ hi]
 have := small_at (h i hi).2 j
 omega
def duE (A : List (List Int)) (Y c : List Q) (j : Nat) : Bool := (dotQ (ratsOf (colA A j)) Y).2.2 && !decide (cmpQ (c.getD j ⟨0,0⟩).num (c.getD j ⟨0,0⟩).den (dotQ (ratsOf (colA A j)) Y).1 (dotQ (ratsOf (colA A j)) Y).2.1 < 0)
def duS (A : List (List Int)) (Y c : List Q) (n : Nat) : Bool := (List.range n).all (duE A Y c)
theorem spec_dualB (A : List (List Int)) (B : List Int) (C Y c : List Q) (h : lpOk A B C = true) (hc : c.length = C.length) : m_spec_l5Dual A B C Y c = some (duS A Y c C.length) := by
 obtain ⟨p1,p2,p3,p4,p5,p6⟩ := lpOk_parts h
 unfold m_spec_l5Dual
 have hit := iter_findc (step := l_spec_l5Dual_0 A B C Y c) (fun j => (j : Int)) C.length (fun j => !duE A Y c j) (.inl ()) (fun _ => .inr false)
  (fun j hj => by
   unfold l_spec_l5Dual_0
   rw [decide_eq_true (by omega),cond_true,spec_column A B C h j hj,Option.bind_some,spec_l5dot _ _ (by rw [colA_length]; omega) (col_small p1 j),Option.bind_some]
   unfold duE
   rcases dotQ (ratsOf (colA A j)) Y with ⟨s,t,o⟩
   dsimp only
   rw [grd_pos (by omega),getD_nat,spec_cmp,Option.bind_some,w64' (by omega) (by omega)]
   cases o <;> cases decide (cmpQ (c.getD j ⟨0,0⟩).num (c.getD j ⟨0,0⟩).den s t < 0) <;> rfl)
  (by unfold l_spec_l5Dual_0; rw [decide_eq_false (by omega)]; rfl)
 simp only [Int.natCast_zero] at hit
 rw [find_all2] at hit
 rw [hit]
 unfold duS
 cases (List.range C.length).all (duE A Y c) <;> rfl
def duF (A : List (List Int)) (Y c : List Q) (j : Nat) : Bool := (dotQ (ratsOf (colA A j)) Y).2.2 && ((subQ (c.getD j ⟨0,0⟩).num (c.getD j ⟨0,0⟩).den (dotQ (ratsOf (colA A j)) Y).1 (dotQ (ratsOf (colA A j)) Y).2.1).2.2 && !decide ((subQ (c.getD j ⟨0,0⟩).num (c.getD j ⟨0,0⟩).den (dotQ (ratsOf (colA A j)) Y).1 (dotQ (ratsOf (colA A j)) Y).2.1).1 < 0))
theorem impl_col_dot (A : List (List Int)) (B : List Int) (C Y : List Q) (h : lpOk A B C = true) (hY : Y.length ≤ 1048576) (j : Nat) (hj : j < C.length) {β : Type} (f : Int × Int × Bool → Option β) :
  ((m_impl_column A B C (j : Int)).bind fun v4 => (m_impl_rats v4).bind fun v5 => (m_impl_DotRat Y v5).bind f) = f (dotQ (ratsOf (colA A j)) Y) := by
 obtain ⟨p1,p2,p3,p4,p5,p6⟩ := lpOk_parts h
 rw [impl_column A B C h j hj,Option.bind_some,impl_rats _ (by rw [colA_length]; omega) (col_small p1 j),Option.bind_some,impl_dot _ _ hY,Option.bind_some,dotQ_comm]
theorem impl_dualB (A : List (List Int)) (B : List Int) (C Y : List Q) (h : lpOk A B C = true) (hY : Y.length ≤ 1048576) : iter (l_impl_CheckLP_0 A B C Y) 0 = some (if (List.range C.length).all (duF A Y C) = true then .inl () else .inr false) := by
 obtain ⟨p1,p2,p3,p4,p5,p6⟩ := lpOk_parts h
 have hit := iter_findc (step := l_impl_CheckLP_0 A B C Y) (fun j => (j : Int)) C.length (fun j => !duF A Y C j) (.inl ()) (fun _ => .inr false)
  (fun j hj => by
   unfold l_impl_CheckLP_0
   rw [decide_eq_true (by omega),cond_true,grd_pos (by omega),getD_nat]
   refine (impl_col_dot A B C Y h hY j hj _).trans ?_
   unfold duF
   rcases dotQ (ratsOf (colA A j)) Y with ⟨s,t,o⟩
   dsimp only
   rw [impl_sub,Option.bind_some]
   rcases subQ (C.getD j ⟨0,0⟩).num (C.getD j ⟨0,0⟩).den s t with ⟨x,y,o2⟩
   dsimp only
   rw [w64' (by omega) (by omega)]
   cases o <;> cases o2 <;> cases decide (x < 0) <;> rfl)
  (by unfold l_impl_CheckLP_0; rw [decide_eq_false (by omega)]; rfl)
 simp only [Int.natCast_zero] at hit
 rw [find_all2] at hit
 exact hit
def duG (A : List (List Int)) (Y : List Q) (j : Nat) : Bool := (dotQ (ratsOf (colA A j)) Y).2.2 && !decide ((dotQ (ratsOf (colA A j)) Y).1 > 0)
theorem impl_dualG (A : List (List Int)) (B : List Int) (C Y : List Q) (h : lpOk A B C = true) (hY : Y.length ≤ 1048576) : iter (l_impl_CheckLP_1 A B C Y) 0 = some (if (List.range C.length).all (duG A Y) = true then .inl () else .inr false) := by
 obtain ⟨p1,p2,p3,p4,p5,p6⟩ := lpOk_parts h
 have hit := iter_findc (step := l_impl_CheckLP_1 A B C Y) (fun j => (j : Int)) C.length (fun j => !duG A Y j) (.inl ()) (fun _ => .inr false)
  (fun j hj => by
   unfold l_impl_CheckLP_1
   rw [decide_eq_true (by omega),cond_true]
   refine (impl_col_dot A B C Y h hY j hj _).trans ?_
   unfold duG
   rcases dotQ (ratsOf (colA A j)) Y with ⟨s,t,o⟩
   dsimp only
   rw [w64' (by omega) (by omega)]
   cases o <;> cases decide (s > 0) <;> rfl)
  (by unfold l_impl_CheckLP_1; rw [decide_eq_false (by omega)]; rfl)
 simp only [Int.natCast_zero] at hit
 rw [find_all2] at hit
 exact hit
theorem duG_eq (A : List (List Int)) (Y : List Q) (n j : Nat) (hj : j < n) : duG A Y j = duE A Y (zer n) j := by
 unfold duG duE
 rw [zer_at n j hj]
 rcases h : dotQ (ratsOf (colA A j)) Y with ⟨s,t,o⟩
 cases o with
 | false => rfl
 | true =>
  dsimp only
  congr 2
  refine decide_eq_decide.2 ?_
  have hv := (dotQ_val h).2.1
  rw [cmpQ_neg valid01 hv,rv01]
  exact (rv_sign hv).2.symm
theorem duG_all (A : List (List Int)) (Y : List Q) (n : Nat) : (List.range n).all (duG A Y) = duS A Y (zer n) n := by
 unfold duS
 cases h : (List.range n).all (duE A Y (zer n)) with
 | true =>
  rw [all_iff] at h
  rw [all_iff]
  exact fun j hj => by rw [duG_eq A Y n j hj]; exact h j hj
 | false =>
  rw [← Bool.not_eq_true] at h ⊢
  intro h2
  refine h ((all_iff _ _).2 fun j hj => ?_)
  rw [← duG_eq A Y n j hj]
  exact (all_iff _ _).1 h2 j hj
def optE (B : List Int) (C X Y : List Q) (vn vd : Int) : Bool := (dotQ C X).2.2 && ((dotQ (ratsOf B) Y).2.2 && (((dotQ C X).1 == (dotQ (ratsOf B) Y).1 && (dotQ C X).2.1 == (dotQ (ratsOf B) Y).2.1) && ((dotQ C X).1 == vn && (dotQ C X).2.1 == vd)))
def chkS (A : List (List Int)) (B : List Int) (C : List Q) (st : Int) (X Y R : List Q) (vn vd : Int) : Bool :=
 bif st == 1 then feasB A B C X && (decide (Y.length = B.length) && (duS A Y C C.length && optE B C X Y vn vd)) else
 bif st == 2 then decide (Y.length = B.length) && (duS A Y (zer C.length) C.length && ((dotQ (ratsOf B) Y).2.2 && decide ((dotQ (ratsOf B) Y).1 > 0))) else
 bif st == 3 then feasB A B C X && (decide (R.length = C.length) && (nnB R && (gvB A R (List.replicate B.length 0) && ((dotQ C R).2.2 && decide ((dotQ C R).1 < 0))))) else false
theorem spec_zeros (n : Nat) (hn : n ≤ 1000) : m_spec_l5Zeros (n : Int) = some (zer n) := by
 unfold m_spec_l5Zeros
 have hroom : (room : Nat) = 1099511627776 := rfl
 have h1 := iter_tab (step := l_spec_l5Zeros_0 (n : Int)) [] (fun _ => ⟨0,1⟩) n (fun i hi acc hacc => by
   unfold l_spec_l5Zeros_0 m_spec_l3Int
   dsimp only
   rw [decide_eq_true (by omega),cond_true,Option.bind_some]
   dsimp only
   rw [grd_pos (by rw [hacc]; simp only [List.length_nil,List.length_singleton]; omega),w64' (by omega) (by omega)]
   rfl)
  (fun acc => by unfold l_spec_l5Zeros_0; dsimp only; rw [decide_eq_false (by omega),cond_false])
 rw [List.nil_append] at h1
 rw [h1,Option.bind_some]
 rfl
theorem neI (a b : Nat) : ((a : Int) != (b : Int)) = !decide (a = b) := by
 by_cases h : a = b
 ·simp [h]
 ·have : ¬ ((a : Int) = (b : Int)) := by omega
  simp [h,this]
theorem eqI (a b : Nat) : ((a : Int) == (b : Int)) = decide (a = b) := beqI a b
theorem spec_check (A : List (List Int)) (B : List Int) (C : List Q) (h : lpOk A B C = true) (st : Int) (X Y R : List Q) (vn vd p : Int) (hX : X.length ≤ 1048576) (hR : R.length ≤ 1048576) :
  m_spec_CheckLP A B C st X Y R vn vd p = some (chkS A B C st X Y R vn vd) := by
 obtain ⟨p1,p2,p3,p4,p5,p6⟩ := lpOk_parts h
 have hroom : (room : Nat) = 1099511627776 := rfl
 have hAr : ∀ i,i < A.length → (A.getD i []).length ≤ 1048576 := fun i hi => by rw [(p1 i hi).1]; omega
 have hfeas := spec_feas A B C X (by omega) hAr (by omega) (by omega) hX
 have hdotB := spec_l5dot B Y (by omega) (small_ok p5)
 unfold m_spec_CheckLP m_spec_l5Optimal chkS
 rw [spec_lp A B C (by omega) hAr (by omega) (by omega),h,Option.bind_some,Bool.not_true,cond_false,hfeas]
 cases h1 : (st == 1) with
 | true =>
  rw [cond_true,cond_true]
  rw [spec_dualB A B C Y C h rfl,spec_dot C X (by omega),hdotB,neI]
  unfold optE
  rcases dotQ C X with ⟨a,b,o1⟩
  rcases dotQ (ratsOf B) Y with ⟨c,d,o2⟩
  dsimp only [Option.bind_some]
  cases feasB A B C X <;> cases decide (Y.length = B.length) <;> cases duS A Y C C.length <;> cases o1 <;> cases o2 <;> cases (a == c) <;> cases (b == d) <;> rfl
 | false =>
  rw [cond_false,cond_false]
  cases h2 : (st == 2) with
  | true =>
   rw [cond_true,cond_true,hdotB,Option.bind_some,eqI,spec_zeros _ (by omega)]
   rcases dotQ (ratsOf B) Y with ⟨c,d,o2⟩
   dsimp only [Option.bind_some]
   rw [spec_dualB A B C Y (zer C.length) h (zer_length _)]
   dsimp only [Option.bind_some]
   cases decide (Y.length = B.length) <;> cases duS A Y (zer C.length) C.length <;> cases o2 <;> rfl
  | false =>
   rw [cond_false,cond_false]
   cases h3 : (st == 3) with
   | false => rfl
   | true =>
    rw [cond_true,cond_true,spec_dot C R (by omega),Option.bind_some,eqI,spec_nn R hR,Int.toNat_natCast,spec_gv A B C R (List.replicate B.length 0) (by omega) (fun i hi => ⟨hAr i hi,(p1 i hi).2⟩) (by rw [List.length_replicate,p4])]
    have hgr : ((0 : Int) ≤ (B.length : Int) ∧ (B.length : Int) = (B.length : Int) ∧ (B.length : Int) ≤ (room : Int)) := ⟨by omega,rfl,by omega⟩
    rcases dotQ C R with ⟨a,b,o1⟩
    dsimp only [Option.bind_some]
    rw [grd_pos hgr]
    cases feasB A B C X <;> cases decide (R.length = C.length) <;> cases nnB R <;> cases gvB A R (List.replicate B.length 0) <;> cases o1 <;> rfl
def chkI (A : List (List Int)) (B : List Int) (C : List Q) (st : Int) (X Y R : List Q) (vn vd : Int) : Bool :=
 bif st == 1 then feasB A B C X && (decide (Y.length = B.length) && ((List.range C.length).all (duF A Y C) && optE B C X Y vn vd)) else chkS A B C st X Y R vn vd
theorem impl_check (A : List (List Int)) (B : List Int) (C : List Q) (h : lpOk A B C = true) (st : Int) (X Y R : List Q) (vn vd p : Int) (hX : X.length ≤ 1048576) (hY : Y.length ≤ 1048576) (hR : R.length ≤ 1048576) :
  m_impl_CheckLP A B C st X Y R vn vd p = some (chkI A B C st X Y R vn vd) := by
 obtain ⟨p1,p2,p3,p4,p5,p6⟩ := lpOk_parts h
 have hroom : (room : Nat) = 1099511627776 := rfl
 have hAr : ∀ i,i < A.length → (A.getD i []).length ≤ 1048576 := fun i hi => by rw [(p1 i hi).1]; omega
 have hfeas := impl_feas A B C X (by omega) hAr (by omega) (by omega) hX
 have hrB := impl_rats B (by omega) (small_ok p5)
 have hdB := impl_dot Y (ratsOf B) hY
 rw [dotQ_comm] at hdB
 unfold m_impl_CheckLP m_impl_notNegative chkI chkS
 rw [impl_lp A B C (by omega) hAr (by omega) (by omega),h,Option.bind_some,Bool.not_true,cond_false,hfeas,hrB]
 cases h1 : (st == 1) with
 | true =>
  rw [cond_true,cond_true]
  rw [impl_dualB A B C Y h hY,impl_dot C X (by omega),neI]
  unfold optE
  dsimp only [Option.bind_some]
  rw [hdB]
  rcases dotQ C X with ⟨a,b,o1⟩
  rcases dotQ (ratsOf B) Y with ⟨c,d,o2⟩
  dsimp only [Option.bind_some]
  cases feasB A B C X <;> cases decide (Y.length = B.length) <;> cases (List.range C.length).all (duF A Y C) <;> cases o1 <;> cases o2 <;> cases (a == c) <;> cases (b == d) <;> rfl
 | false =>
  rw [cond_false,cond_false]
  cases h2 : (st == 2) with
  | true =>
   rw [cond_true,cond_false,cond_true,neI,impl_dualG A B C Y h hY,duG_all]
   dsimp only [Option.bind_some]
   rw [hdB]
   rcases dotQ (ratsOf B) Y with ⟨c,d,o2⟩
   dsimp only [Option.bind_some]
   cases decide (Y.length = B.length) <;> cases duS A Y (zer C.length) C.length <;> cases o2 <;> rfl
  | false =>
   rw [cond_false,cond_false,cond_false]
   cases h3 : (st == 3) with
   | false => rfl
   | true =>
    rw [cond_true,cond_true,impl_dot C R (by omega),eqI,impl_nn1 R hR,Int.toNat_natCast,impl_gv A B C R (List.replicate B.length 0) (by omega) (fun i hi => ⟨hAr i hi,(p1 i hi).2⟩) (by rw [List.length_replicate,p4])]
    have hgr : ((0 : Int) ≤ (B.length : Int) ∧ (B.length : Int) = (B.length : Int) ∧ (B.length : Int) ≤ (room : Int)) := ⟨by omega,rfl,by omega⟩
    rcases dotQ C R with ⟨a,b,o1⟩
    dsimp only [Option.bind_some]
    rw [grd_pos hgr]
    cases feasB A B C X <;> cases decide (R.length = C.length) <;> cases nnB R <;> cases gvB A R (List.replicate B.length 0) <;> cases o1 <;> rfl
def smC (C : List Q) : Prop := ∀ j,j < C.length → (-100000000 ≤ (C.getD j ⟨0,0⟩).num ∧ (C.getD j ⟨0,0⟩).num ≤ 100000000) ∧ (C.getD j ⟨0,0⟩).den ≤ 100000000
theorem cost2_at (C : List Q) (m j : Nat) (h : j < C.length) : qg (cost2 C m) j = qg C j := by
 unfold qg cost2
 rw [getD_app1 _ _ _ _ h]
theorem cost2_art (C : List Q) (m i : Nat) (h : i < m) : qg (cost2 C m) (C.length + i) = 0 := by
 unfold qg cost2
 rw [getD_app2 _ _ _ _ _ rfl,zer_at m i h]
 exact rv01
theorem dlF_val {n m : Nat} {B : List Int} {k2 : List Q} (hv : ∀ j,j ≤ n + m → vq (k2.getD j ⟨0,0⟩)) (i : Nat) (hi : i < m) : vq ((dlF B k2 n m 0).getD i ⟨0,0⟩) ∧ qg (dlF B k2 n m 0) i = ((sgB B i : Int) : Rat) * (-(qg k2 (n + i))) := by
 have hq := hv (n + i) (by omega)
 unfold qg dlF
 rw [tab_getD _ _ _ _ hi]
 have hdl : dlQ k2 n 0 i = (-(k2.getD (n + i) ⟨0,0⟩).num,(k2.getD (n + i) ⟨0,0⟩).den,true) := sub0 hq
 unfold dlE sgB qr vq
 rw [hdl]
 dsimp only
 by_cases h0 : B.getD i 0 < 0
 ·rw [if_pos h0,if_pos h0]
  refine ⟨by rw [Int.neg_neg]; exact hq,?_⟩
  rw [rv_neg,rv_neg]
  have : ((-1 : Int) : Rat) = -1 := rfl
  rw [this]
  grind
 ·rw [if_neg h0,if_neg h0]
  refine ⟨by rw [validQ_neg]; exact hq,?_⟩
  rw [rv_neg]
  have : ((1 : Int) : Rat) = 1 := rfl
  rw [this]
  grind
theorem entF_pos {costs : List Q} {n : Nat} (hl : n ≤ costs.length) (h : entF costs (n : Int) < 0) (j : Nat) (hj : j < n) : ¬ cmpQ (costs.getD j ⟨0,0⟩).num (costs.getD j ⟨0,0⟩).den 0 1 < 0 := by
 unfold entF at h
 rw [if_pos (by omega),Int.toNat_natCast] at h
 split at h
 ·omega
 ·rename_i hn
  rw [List.find?_range_eq_none] at hn
  have := hn j hj
  simpa using this
theorem red_dual {A : List (List Int)} {B : List Int} {C : List Q} {r : List (List Q)} {b : List Int} {k2 : List Q} (hg : GT C.length A.length r b) (hi : TInv (stS A B C.length) C.length A.length (tv r) (bn b)) (hc : costF r b (C.length : Int) (cost2 C A.length) = (true,k2)) (j : Nat) (hj : j < C.length) :
  qg k2 j = qg C j - sR (fun i => ag A i j * qg (dlF B k2 C.length A.length 0) i) A.length := by
 obtain ⟨_,_,_,c4⟩ := costF_val hg hc
 have hr := red_cost (cost := qg (cost2 C A.length)) (costs := qg k2) hi (fun j hj => (c4 j hj).2) j (by omega)
 rw [hr,cost2_at C _ j hj]
 congr 1
 refine sR_ext fun i hi2 => ?_
 rw [cost2_art C _ i hi2,stS_X A B _ i j hi2 hj,(dlF_val (fun j hj => (c4 j hj).1) i hi2).2]
 grind
theorem opt_dual {A : List (List Int)} {B : List Int} {C : List Q} {r : List (List Q)} {b : List Int} {k2 : List Q} (hC : allB C = true) (hs : smC C) (hg : GT C.length A.length r b) (hi : TInv (stS A B C.length) C.length A.length (tv r) (bn b)) (hc : costF r b (C.length : Int) (cost2 C A.length) = (true,k2)) (he : entF k2 (C.length : Int) < 0) (j : Nat) (hj : j < C.length) :
  duF A (dlF B k2 C.length A.length 0) C j = duE A (dlF B k2 C.length A.length 0) C j := by
 obtain ⟨_,_,c3,c4⟩ := costF_val hg hc
 have hr := red_dual hg hi hc j hj
 have hk := (c4 j (by omega)).1
 have hpos := entF_pos (by omega) he j hj
 unfold duF duE
 rcases hd : dotQ (ratsOf (colA A j)) (dlF B k2 C.length A.length 0) with ⟨s,t,o⟩
 cases o with
 | false => rfl
 | true =>
  obtain ⟨_,d2,_,d4⟩ := colA_dot hd
  have hcj := all_val hC j hj
  obtain ⟨s1,s2⟩ := hs j hj
  have v1 := validQ_bd hcj
  have v2 := validQ_bd d2
  have hval : rv (k2.getD j ⟨0,0⟩).num (k2.getD j ⟨0,0⟩).den = rv (C.getD j ⟨0,0⟩).num (C.getD j ⟨0,0⟩).den - rv s t := by
   rw [d4]
   exact hr
  have b1 : -100000000000000000 ≤ (C.getD j ⟨0,0⟩).num * t ∧ (C.getD j ⟨0,0⟩).num * t ≤ 100000000000000000 := by
   have m1 := Int.mul_le_mul_of_nonneg_right s1.1 (by omega : (0 : Int) ≤ t)
   have m2 := Int.mul_le_mul_of_nonneg_right s1.2 (by omega : (0 : Int) ≤ t)
   omega
  have b2 : -100000000000000000 ≤ s * (C.getD j ⟨0,0⟩).den ∧ s * (C.getD j ⟨0,0⟩).den ≤ 100000000000000000 := by
   have m1 := Int.mul_le_mul_of_nonneg_right v2.2.2.1 (by omega : (0 : Int) ≤ (C.getD j ⟨0,0⟩).den)
   have m2 := Int.mul_le_mul_of_nonneg_right v2.2.2.2.1 (by omega : (0 : Int) ≤ (C.getD j ⟨0,0⟩).den)
   omega
  have hsub := subQ_of hcj d2 hk (by omega) hval
  dsimp only
  rw [hsub]
  dsimp only
  rw [cmpQ_neg hk valid01,rv01] at hpos
  have e1 : decide ((k2.getD j ⟨0,0⟩).num < 0) = false := decide_eq_false fun h => hpos ((rv_sign hk).1.2 h)
  have e2 : decide (cmpQ (C.getD j ⟨0,0⟩).num (C.getD j ⟨0,0⟩).den s t < 0) = false := decide_eq_false fun h => by
   rw [cmpQ_neg hcj d2] at h
   exact hpos (by rw [hval]; grind)
  rw [e1,e2]
  rfl
structure OptE (A : List (List Int)) (B : List Int) (C : List Q) (vn vd : Int) (X Y : List Q) (r : List (List Q)) (b : List Int) (k : List Q) : Prop where
 g : GT C.length A.length r b
 t : TInv (stS A B C.length) C.length A.length (tv r) (bn b)
 c : costF r b (C.length : Int) (cost2 C A.length) = (true,k)
 e : entF k (C.length : Int) < 0
 x : X = (slF r b C.length A.length A.length).take C.length
 y : Y = dlF B k C.length A.length 0
 v : vn = -(lastQ k C.length A.length).num ∧ vd = (lastQ k C.length A.length).den
theorem sol_cases {A : List (List Int)} {B : List Int} {C : List Q} (h : lpOk A B C = true) {st vn vd : Int} {X Y R : List Q} {p : Int} (hs : solF A B C C.length A.length = some (st,vn,vd,X,Y,R,p)) :
  (0 ≤ p ∧ p ≤ 1000) ∧ X.length ≤ 70 ∧ Y.length ≤ 8 ∧ R.length ≤ 70 ∧ ((st = 2 ∧ X = [] ∧ R = []) ∨ (st = 3 ∧ Y = []) ∨ (st = 1 ∧ R = [] ∧ ∃ r b k,OptE A B C vn vd X Y r b k)) := by
 obtain ⟨p1,p2,p3,p4,p5,p6⟩ := lpOk_parts h
 have hg := start_gt h
 have hi := start_tinv A B C.length
 unfold solF at hs
 rcases hph : phF C.length (cost1 C.length A.length) 1001 (stRows A B C.length) (stBas C.length A.length) 0 with _ | ⟨c,k,r,b,p'⟩
 ·rw [hph] at hs
  cases hs
 ·rw [hph] at hs
  dsimp only at hs
  obtain ⟨g1,g2,g3,g4,_⟩ := phF_good 1001 _ _ _ hg hi (by omega) (by omega) _ _ _ _ _ hph
  by_cases hneg : (lastQ k C.length A.length).num < 0
  ·rw [if_pos hneg] at hs
   simp only [Option.some.injEq,Prod.mk.injEq] at hs
   obtain ⟨rfl,rfl,rfl,rfl,rfl,rfl,rfl⟩ := hs
   refine ⟨g3,by simp,?_,by simp,.inl ⟨rfl,rfl,rfl⟩⟩
   unfold dlF
   rw [tab_length]
   omega
  ·rw [if_neg hneg] at hs
   rcases hdr : drF C.length r b p' A.length with _ | ⟨r2,b2,q2⟩
   ·rw [hdr] at hs
    cases hs
   ·rw [hdr] at hs
    dsimp only at hs
    obtain ⟨h1,h2,h3⟩ := drF_good g1 g2 g3.1 g3.2 _ hdr
    rcases hp2 : phF C.length (cost2 C A.length) 1001 r2 b2 q2 with _ | ⟨c',k2,r3,b3,p3'⟩
    ·rw [hp2] at hs
     cases hs
    ·rw [hp2] at hs
     dsimp only at hs
     obtain ⟨i1,i2,i3,i4,i5⟩ := phF_good 1001 _ _ _ h1 h2 h3.1 h3.2 _ _ _ _ _ hp2
     by_cases hc : 0 ≤ c'
     ·rw [if_pos hc] at hs
      simp only [Option.some.injEq,Prod.mk.injEq] at hs
      obtain ⟨rfl,rfl,rfl,rfl,rfl,rfl,rfl⟩ := hs
      refine ⟨i3,by rw [List.length_take]; omega,by simp,by rw [ryF_length]; omega,.inr (.inl ⟨rfl,rfl⟩)⟩
     ·rw [if_neg hc] at hs
      simp only [Option.some.injEq,Prod.mk.injEq] at hs
      obtain ⟨rfl,rfl,rfl,rfl,rfl,rfl,rfl⟩ := hs
      refine ⟨i3,by rw [List.length_take]; omega,?_,by simp,.inr (.inr ⟨rfl,rfl,r3,b3,k2,i1,i2,i4,?_,rfl,rfl,rfl,rfl⟩)⟩
      ·unfold dlF
       rw [tab_length]
       omega
      ·rcases i5 with h | h
       ·exact h.2
       ·omega
abbrev LpR := Int × Int × Int × Int × List Q × List Q × List Q
def slpF (A : List (List Int)) (B : List Int) (C : List Q) : LpR :=
 if lpOk A B C = true then (match solF A B C C.length A.length with
  | none => (4,0,0,0,[],[],[])
  | some (st,vn,vd,X,Y,R,p) => bif chkS A B C st X Y R vn vd then (st,vn,vd,p,X,Y,R) else (4,0,0,0,[],[],[])) else (0,0,0,0,[],[],[])
theorem spec_slp (A : List (List Int)) (B : List Int) (C : List Q) (hA : A.length ≤ 1048576) (hAr : ∀ i,i < A.length → (A.getD i []).length ≤ 1048576) (hB : B.length ≤ 1048576) (hC : C.length ≤ 1048576) : m_spec_SolveLP A B C = some (slpF A B C) := by
 unfold m_spec_SolveLP slpF
 rw [spec_lp A B C hA hAr hB hC,Option.bind_some]
 cases h : lpOk A B C with
 | false => rw [if_neg (by simp)]; rfl
 | true =>
  rw [if_pos rfl,Bool.not_true,cond_false,spec_start A B C h,Option.bind_some]
  dsimp only
  obtain ⟨x,e,r⟩ := spec_solve A B C h
  rw [e,Option.bind_some]
  rcases hs : solF A B C C.length A.length with _ | ⟨st,vn,vd,X,Y,R,p⟩ <;> rw [hs] at r
  ·obtain ⟨x1,x2,x3,x4,x5,x6,x7,x8,x9,x10,x11,x12⟩ := x
   have : x12 = true := r
   subst this
   rfl
  ·obtain ⟨rr,bb,rfl⟩ := r
   obtain ⟨_,l1,l2,l3,_⟩ := sol_cases h hs
   dsimp only
   rw [cond_false,spec_check A B C h st X Y R vn vd p (by omega) (by omega),Option.bind_some]
   cases hck : chkS A B C st X Y R vn vd with
   | false => rfl
   | true =>
    rw [Bool.not_true,cond_false,spec_copy X (by omega),Option.bind_some]
    rfl
theorem chk_same {A : List (List Int)} {B : List Int} {C : List Q} (h : lpOk A B C = true) (hsm : smC C) {st vn vd : Int} {X Y R : List Q} {p : Int} (hs : solF A B C C.length A.length = some (st,vn,vd,X,Y,R,p)) : chkI A B C st X Y R vn vd = chkS A B C st X Y R vn vd := by
 obtain ⟨p1,p2,p3,p4,p5,p6⟩ := lpOk_parts h
 obtain ⟨_,_,_,_,hc⟩ := sol_cases h hs
 unfold chkI
 cases h1 : (st == 1) with
 | false => rfl
 | true =>
  rw [cond_true]
  unfold chkS
  rw [h1,cond_true]
  have hst : st = 1 := by simpa using h1
  rcases hc with ⟨h2,_⟩ | ⟨h2,_⟩ | ⟨_,_,r,b,k,o⟩
  ·omega
  ·omega
  ·have hall : (List.range C.length).all (duF A Y C) = duS A Y C C.length := by
    unfold duS
    have hj : ∀ j,j < C.length → duF A Y C j = duE A Y C j := fun j hj => by
     rw [o.y]
     exact opt_dual p6 hsm o.g o.t o.c o.e j hj
    cases hd : (List.range C.length).all (duE A Y C) with
    | true =>
     rw [all_iff] at hd
     rw [all_iff]
     exact fun j hjl => by rw [hj j hjl]; exact hd j hjl
    | false =>
     rw [← Bool.not_eq_true] at hd ⊢
     intro h2
     refine hd ((all_iff _ _).2 fun j hjl => ?_)
     rw [← hj j hjl]
     exact (all_iff _ _).1 h2 j hjl
   rw [hall]
theorem impl_slp (A : List (List Int)) (B : List Int) (C : List Q) (hA : A.length ≤ 1048576) (hAr : ∀ i,i < A.length → (A.getD i []).length ≤ 1048576) (hB : B.length ≤ 1048576) (hC : C.length ≤ 1048576) (hsm : smC C) : m_impl_SolveLP A B C = some (slpF A B C) := by
 unfold m_impl_SolveLP slpF
 rw [impl_lp A B C hA hAr hB hC,Option.bind_some]
 cases h : lpOk A B C with
 | false => rw [if_neg (by simp)]; rfl
 | true =>
  rw [if_pos rfl,Bool.not_true,cond_false]
  obtain ⟨y,e,r⟩ := impl_solve A B C h
  rw [e,Option.bind_some]
  rcases hs : solF A B C C.length A.length with _ | ⟨st,vn,vd,X,Y,R,p⟩ <;> rw [hs] at r
  ·obtain ⟨y1,y2,y3,y4,y5,y6,y7,y8⟩ := y
   have : y5 = false := r
   subst this
   rfl
  ·obtain ⟨_,l1,l2,l3,hcs⟩ := sol_cases h hs
   rcases r with rfl | ⟨r1,rfl,kk,hk,hno⟩
   ·dsimp only
    rw [Bool.not_true,cond_false,impl_check A B C h st X Y R vn vd p (by omega) (by omega) (by omega),Option.bind_some,chk_same h hsm hs]
    cases chkS A B C st X Y R vn vd <;> rfl
   ·obtain ⟨y1,y2,y3,y4,y5,y6,y7,y8⟩ := y
    have : y5 = false := r1
    subst this
    obtain ⟨p1,p2,p3,p4,p5,p6⟩ := lpOk_parts h
    have hck : chkS A B C 2 X Y R vn vd = false := by
     unfold chkS
     have e1 : ((2 : Int) == 1) = false := rfl
     have e2 : ((2 : Int) == 2) = true := rfl
     rw [e1,e2,cond_false,cond_true]
     rcases hd : dotQ (ratsOf B) Y with ⟨s,t,o⟩
     cases o with
     | false => simp
     | true =>
      exfalso
      obtain ⟨_,_,q3,_⟩ := dotQ_val hd
      exact hno (q3 kk (by rw [ratsOf_length]; omega)).2
    dsimp only
    rw [hck]
    rfl
theorem slp_one {A : List (List Int)} {B : List Int} {C : List Q} {vn vd p : Int} {X Y R : List Q} (h : slpF A B C = (1,vn,vd,p,X,Y,R)) :
  lpOk A B C = true ∧ R = [] ∧ (∃ r b k,OptE A B C vn vd X Y r b k) ∧ feasB A B C X = true ∧ Y.length = B.length ∧ duS A Y C C.length = true ∧ optE B C X Y vn vd = true := by
 unfold slpF at h
 split at h
 ·rename_i hl
  rcases hs : solF A B C C.length A.length with _ | ⟨st,a,b,X',Y',R',q⟩
  ·rw [hs] at h
   simp at h
  ·rw [hs] at h
   dsimp only at h
   obtain ⟨_,_,_,_,hc⟩ := sol_cases hl hs
   cases hk : chkS A B C st X' Y' R' a b with
   | false =>
    rw [hk] at h
    simp at h
   | true =>
    rw [hk,cond_true] at h
    simp only [Prod.mk.injEq] at h
    obtain ⟨rfl,rfl,rfl,rfl,rfl,rfl,rfl⟩ := h
    rcases hc with ⟨h2,_⟩ | ⟨h2,_⟩ | ⟨_,h3,h4⟩
    ·omega
    ·omega
    ·unfold chkS at hk
     have e1 : ((1 : Int) == 1) = true := rfl
     rw [e1,cond_true] at hk
     simp only [Bool.and_eq_true,decide_eq_true_eq] at hk
     exact ⟨hl,h3,h4,hk.1,hk.2.1,hk.2.2.1,hk.2.2.2⟩
 ·simp at h
theorem opt_val {B : List Int} {C X Y : List Q} {vn vd : Int} (h : optE B C X Y vn vd = true) : validQ vn vd = true ∧ X.length = C.length ∧ (∀ i,i < B.length → vq (Y.getD i ⟨0,0⟩)) ∧ rv vn vd = sR (fun j => qg C j * qg X j) C.length ∧ rv vn vd = sR (fun i => ig B i * qg Y i) B.length ∧ dotQ C X = (vn,vd,true) := by
 unfold optE at h
 simp only [Bool.and_eq_true,beq_iff_eq] at h
 obtain ⟨h1,h2,⟨h3,h4⟩,h5,h6⟩ := h
 rcases hx : dotQ C X with ⟨a,b,o1⟩
 rcases hy : dotQ (ratsOf B) Y with ⟨c,d,o2⟩
 rw [hx] at h1 h3 h4 h5 h6
 rw [hy] at h2 h3 h4
 dsimp only at h1 h2 h3 h4 h5 h6
 subst h1 h2 h5 h6 h3 h4
 obtain ⟨a1,a2,a3,a4⟩ := dotQ_val hx
 obtain ⟨b1,b2,b3,b4⟩ := dotQ_val hy
 rw [ratsOf_length] at b3 b4
 refine ⟨a2,a1.symm,fun i hi => (b3 i hi).2,a4,?_,rfl⟩
 rw [b4]
 refine sR_ext fun i hi => ?_
 rw [qg_ratsOf B i hi]
 rfl
theorem smC_int {C : List Q} (h : ∀ j,j < C.length → (C.getD j ⟨0,0⟩).den = 1 ∧ -100000000 ≤ (C.getD j ⟨0,0⟩).num ∧ (C.getD j ⟨0,0⟩).num ≤ 100000000) : smC C := fun j hj => by
 have := h j hj
 omega
theorem leastC_at (l : List Int) (m : Nat) (hv : ∀ i,-500 ≤ l.getD i 0 ∧ l.getD i 0 ≤ 500) (j : Nat) (hj : j < (leastC l m).length) : ((leastC l m).getD j ⟨0,0⟩).den = 1 ∧ -500 ≤ ((leastC l m).getD j ⟨0,0⟩).num ∧ ((leastC l m).getD j ⟨0,0⟩).num ≤ 500 := by
 unfold leastC at hj ⊢
 rw [List.length_append,tab_length,List.length_singleton] at hj
 by_cases h : j < m
 ·rw [getD_app1 _ _ _ _ (by rw [tab_length]; exact h),tab_getD _ _ _ _ h]
  have := hv (j + 1)
  unfold negV
  dsimp only
  omega
 ·have e : j = m + 0 := by omega
  rw [e,getD_app2 _ _ _ _ _ (tab_length _ _)]
  have := hv (m + 1)
  exact ⟨rfl,this⟩
theorem val_all {n : Int} {l : List Int} (h : Valid n l) (i : Nat) : -500 ≤ l.getD i 0 ∧ l.getD i 0 ≤ 500 := by
 by_cases hi : i < l.length
 ·exact h.2.2.2 i hi
 ·have : l.getD i 0 = 0 := by
   rw [List.getD_eq_getElem?_getD,List.getElem?_eq_none (by omega)]
   rfl
  rw [this]
  decide
def nqs (Y : List Q) (n : Nat) : List Q := tab (fun k => nq (Y.getD k ⟨0,0⟩)) n
theorem spec_negs (N : Nat) (Y : List Q) (hN : N ≤ 1000) (hl : N ≤ Y.length) (hv : ∀ i,i < N → vq (Y.getD i ⟨0,0⟩)) : iter (l_spec_FindLeastCore_0 (N : Int) Y) ((0 : Int),[]) = some (nqs Y N) := by
 have hroom : (room : Nat) = 1099511627776 := rfl
 have h1 := iter_tab (step := l_spec_FindLeastCore_0 (N : Int) Y) [] (fun k => nq (Y.getD k ⟨0,0⟩)) N (fun i hi acc hacc => by
   have hb := validQ_bd (hv i hi)
   unfold l_spec_FindLeastCore_0 m_spec_l7Negated
   dsimp only
   rw [decide_eq_true (by omega),cond_true,grd_pos (by omega),Int.toNat_natCast,Option.bind_some]
   dsimp only
   rw [grd_pos (by rw [hacc]; simp only [List.length_nil,List.length_singleton]; omega),w64' (by omega) (by omega),w64' (by omega) (by omega),Int.zero_sub]
   rfl)
  (fun acc => by unfold l_spec_FindLeastCore_0; dsimp only; rw [decide_eq_false (by omega),cond_false])
 rw [List.nil_append] at h1
 exact h1
theorem impl_negs (Y : List Q) (hN : Y.length ≤ 1000) (hv : ∀ i,i < Y.length → vq (Y.getD i ⟨0,0⟩)) : m_impl_minusAll Y = some (nqs Y Y.length) := by
 unfold m_impl_minusAll
 have hroom : (room : Nat) = 1099511627776 := rfl
 have h1 := iter_tab (step := l_impl_minusAll_0 Y) [] (fun k => nq (Y.getD k ⟨0,0⟩)) Y.length (fun i hi acc hacc => by
   have hb := validQ_bd (hv i hi)
   unfold l_impl_minusAll_0 m_impl_minus
   dsimp only
   rw [decide_eq_true (by omega),cond_true,grd_pos (by omega),Int.toNat_natCast,Option.bind_some]
   dsimp only
   rw [grd_pos (by rw [hacc]; simp only [List.length_nil,List.length_singleton]; omega),w64' (by omega) (by omega),w64' (by omega) (by omega),Int.zero_sub]
   rfl)
  (fun acc => by unfold l_impl_minusAll_0; dsimp only; rw [decide_eq_false (by omega),cond_false])
 rw [List.nil_append] at h1
 rw [h1,Option.bind_some]
 rfl
theorem take_at (Y : List Q) (n i : Nat) (hi : i < n) (hl : n ≤ Y.length) : (Y.take n).getD i ⟨0,0⟩ = Y.getD i ⟨0,0⟩ := by
 rw [getD_get _ _ _ (by rw [List.length_take]; omega),getD_get _ _ _ (by omega),List.getElem_take]
def flcF (N m : Nat) (l : List Int) : Bool × Int × Int × List Q × List Q := match slpF (leastA N m) (leastB N) (leastC l m) with
 | (st,vn,vd,_,X,Y,_) => bif st != 1 then (false,0,0,[],[]) else (true,-vn,vd,nqs Y N,X)
theorem leastB_length (N : Nat) : (leastB N).length = N + 1 := by
 unfold leastB
 rw [List.length_append,tab_length,List.length_singleton]
theorem least_two (N m : Nat) (l : List Int) (hv : validB (N : Int) l = true) (h2N : 2 ≤ N) (hm : l.length = m + 2) : m_spec_FindLeastCore (N : Int) l = some (flcF N m l) ∧ m_impl_FindLeastCore (N : Int) l = some (flcF N m l) := by
 have hV := (validB_eq _ l).1 hv
 obtain ⟨N',hN',h1,h2,h3,h4⟩ := valid_nat hV
 have hNN : N' = N := by omega
 subst hNN
 obtain ⟨e1,e2,e3,e4⟩ := least_lens N' m l h2 (by omega)
 have hsm : smC (leastC l m) := smC_int fun j hj => by
  have := leastC_at l m (val_all hV) j hj
  omega
 unfold m_spec_FindLeastCore m_impl_FindLeastCore flcF
 rw [spec_least N' m l hv h2N hm,impl_least N' m l hv h2N hm,Option.bind_some,Option.bind_some]
 dsimp only
 rw [Bool.not_true,cond_false,cond_false,spec_slp _ _ _ e1 e2 e3 e4,impl_slp _ _ _ e1 e2 e3 e4 hsm,Option.bind_some,Option.bind_some]
 rcases hs : slpF (leastA N' m) (leastB N') (leastC l m) with ⟨st,vn,vd,p,X,Y,R⟩
 dsimp only
 cases hst : (st != 1) with
 | true => exact ⟨rfl,rfl⟩
 | false =>
  have hst : st = 1 := by simpa using hst
  subst hst
  obtain ⟨q1,q2,q3,q4,q5,q6,q7⟩ := slp_one hs
  obtain ⟨o1,o2,o3,o4,o5,o6⟩ := opt_val q7
  rw [leastB_length] at o3 q5
  have vb := validQ_bd o1
  rw [cond_false,cond_false,cond_false]
  constructor
  ·unfold m_spec_l7Negated
   rw [Option.bind_some]
   dsimp only
   rw [spec_negs N' Y (by omega) (by omega) (fun i hi => o3 i (by omega)),Option.bind_some,w64' (by omega) (by omega),Int.zero_sub]
  ·unfold m_impl_minus
   rw [Option.bind_some]
   dsimp only
   have hlen : (Y.take N').length = N' := by rw [List.length_take]; omega
   have hneg : m_impl_minusAll (Y.take N') = some (nqs Y N') := by
    rw [impl_negs _ (by omega) (fun i hi => by rw [hlen] at hi; rw [take_at Y N' i hi (by omega)]; exact o3 i (by omega)),hlen]
    unfold nqs
    congr 1
    exact tab_ext fun k hk => by rw [take_at Y N' k hk (by omega)]
   rw [grd_pos (by omega),Int.toNat_natCast,List.drop_zero,hneg,Option.bind_some,w64' (by omega) (by omega),Int.zero_sub]
theorem flc_len (N m : Nat) (l : List Int) (hN : N ≤ 5) : (flcF N m l).2.2.2.1.length ≤ 1000 ∧ (flcF N m l).2.2.2.2.length ≤ 1000 := by
 unfold flcF
 rcases hs : slpF (leastA N m) (leastB N) (leastC l m) with ⟨st,vn,vd,p,X,Y,R⟩
 dsimp only
 cases hst : (st != 1) with
 | true => exact ⟨by simp,by simp⟩
 | false =>
  have hst : st = 1 := by simpa using hst
  subst hst
  obtain ⟨q1,q2,q3,q4,q5,q6,q7⟩ := slp_one hs
  obtain ⟨o1,o2,_⟩ := opt_val q7
  obtain ⟨_,p2,_⟩ := lpOk_parts q1
  rw [cond_false]
  unfold nqs
  dsimp only
  rw [tab_length]
  omega
theorem stS_int {A : List (List Int)} {B : List Int} {n : Nat} (i j : Nat) (hi : i < A.length) (hj : j ≤ n + A.length) : ∃ z : Int,stS A B n i j = z := by
 by_cases h1 : j < n
 ·rw [stS_X A B n i j hi h1]
  exact ⟨sgB B i * (A.getD i []).getD j 0,by rw [Rat.intCast_mul]; rfl⟩
 ·by_cases h2 : j < n + A.length
  ·have e : j = n + (j - n) := by omega
   rw [e,stS_U A B n i _ hi (by omega)]
   split
   ·exact ⟨1,rfl⟩
   ·exact ⟨0,rfl⟩
  ·have e : j = n + A.length := by omega
   rw [e,stS_B A B n i hi]
   exact ⟨sgB B i * B.getD i 0,by rw [Rat.intCast_mul]; rfl⟩
theorem den_dual {A : List (List Int)} {B : List Int} {C : List Q} {r : List (List Q)} {b : List Int} {k2 : List Q} (hg : GT C.length A.length r b) (hi : TInv (stS A B C.length) C.length A.length (tv r) (bn b)) (hc : costF r b (C.length : Int) (cost2 C A.length) = (true,k2)) (hint : ∀ j,j < C.length → ∃ z : Int,qg C j = z) {K : Nat} {lo : Nat → Int}
  (hb : ∀ l,l < A.length → ∀ f : Nat → Rat,(∀ k,k < A.length → 0 ≤ f k ∧ f k < 1) → (lo l : Rat) - 1 < sR (fun i => stS A B C.length i (bn b l) * f i) A.length ∧ sR (fun i => stS A B C.length i (bn b l) * f i) A.length < (lo l : Rat) + (K : Int)) :
  ∃ D : Nat,1 ≤ D ∧ D ≤ K ^ A.length ∧ ∀ i,i < A.length → ∃ z : Int,(D : Rat) * qg k2 (C.length + i) = z := by
 obtain ⟨_,_,_,c4⟩ := costF_val hg hc
 have hk : ∀ i,i < A.length → qg k2 (C.length + i) = - sR (fun k => qg (cost2 C A.length) (bn b k) * tv r k (C.length + i)) A.length := fun i hii => by
  rw [(c4 (C.length + i) (by omega)).2,cost2_art C _ i hii]
  grind
 have hci : ∀ l,l < A.length → ∃ z : Int,qg (cost2 C A.length) (bn b l) = z := fun l hl => by
  have := hi.bb l hl
  by_cases h1 : bn b l < C.length
  ·rw [cost2_at C _ _ h1]
   exact hint _ h1
  ·have e : bn b l = C.length + (bn b l - C.length) := by omega
   rw [e,cost2_art C _ _ (by omega)]
   exact ⟨0,rfl⟩
 obtain ⟨D,d1,d2,d3⟩ := den_small (W := fun l i => stS A B C.length i (bn b l)) (N := fun i l => tv r l (C.length + i)) (x := fun i => - qg k2 (C.length + i)) (K := K) (lo := lo) (m := A.length) (fun l hl i hii => by
   have := hi.bb l hl
   exact stS_int i _ hii (by omega))
  (fun i hii i' hii' => by
   have h1 := hi.R i' hii' (C.length + i) (by omega)
   have h2 : sR (fun l => tv r l (C.length + i) * stS A B C.length i' (bn b l)) A.length = stS A B C.length i' (C.length + i) := by
    rw [h1]
    exact sR_ext fun l _ => Rat.mul_comm _ _
   rw [h2,stS_U A B _ i' i hii' hii]
   by_cases e : i = i'
   ·rw [if_pos e,if_pos e.symm]
   ·rw [if_neg e,if_neg fun x => e x.symm])
  (fun l hl => by
   have hbl := hi.bb l hl
   have e1 : sR (fun i => stS A B C.length i (bn b l) * -qg k2 (C.length + i)) A.length = sR (fun i => sR (fun k => qg (cost2 C A.length) (bn b k) * (tv r k (C.length + i) * stS A B C.length i (bn b l))) A.length) A.length := sR_ext fun i hii => by
    rw [hk i hii,Rat.neg_neg,← sR_mul]
    exact sR_ext fun k _ => by grind
   rw [e1,sR_comm]
   have e2 : sR (fun k => sR (fun i => qg (cost2 C A.length) (bn b k) * (tv r k (C.length + i) * stS A B C.length i (bn b l))) A.length) A.length = sR (fun k => qg (cost2 C A.length) (bn b k) * (if k = l then 1 else 0)) A.length := sR_ext fun k hkk => by
    rw [sR_mul,← hi.L k hkk (bn b l) (by omega),hi.U k hkk l hl]
   rw [e2,sR_single hl fun k hk2 hne => by rw [if_neg hne,Rat.mul_zero],if_pos rfl,Rat.mul_one]
   exact hci l hl) hb
 refine ⟨D,d1,d2,fun i hii => ?_⟩
 obtain ⟨z,hz⟩ := d3 i hii
 refine ⟨-z,?_⟩
 rw [Rat.intCast_neg,← hz]
 grind
theorem den_le {a b : Int} (h : validQ a b = true) {D : Nat} (hD : 1 ≤ D) {z : Int} (hz : (D : Rat) * rv a b = z) : b ≤ (D : Int) := by
 have hb := den_ne h
 have v := validQ_bd h
 have e := rv_mul (a := a) hb
 have e2 : ((D : Int) : Rat) * (a : Rat) = (z : Rat) * (b : Rat) := by
  rw [← e,← hz,Rat.intCast_natCast]
  grind
 rw [← Rat.intCast_mul,← Rat.intCast_mul] at e2
 have e3 := Rat.intCast_inj.1 e2
 have hd : b ∣ (D : Int) := by
  refine int_cop (b := a) ⟨z,?_⟩ v.2.2.2.2
  rw [Int.mul_comm a,e3,Int.mul_comm]
 exact Int.le_of_dvd (by omega) hd
theorem rv_le_of {a b : Int} {M : Int} (hb : 0 < b) (h1 : -(M : Rat) ≤ rv a b) (h2 : rv a b ≤ (M : Rat)) : -(M * b) ≤ a ∧ a ≤ M * b := by
 have e := rv_mul (a := a) (show b ≠ 0 by omega)
 have hp : (0 : Rat) ≤ (b : Rat) := Rat.le_of_lt (Rat.intCast_pos.2 hb)
 have k1 := Rat.mul_le_mul_of_nonneg_right h1 hp
 have k2 := Rat.mul_le_mul_of_nonneg_right h2 hp
 rw [e] at k1 k2
 have k1' : ((-(M * b) : Int) : Rat) ≤ (a : Rat) := by
  rw [Rat.intCast_neg,Rat.intCast_mul]
  grind
 rw [← Rat.intCast_mul] at k2
 exact ⟨Rat.intCast_le_intCast.1 k1',Rat.intCast_le_intCast.1 k2⟩
def balA (N m : Nat) : List (List Int) := tab (rowK m) N
theorem balA_at (N m i j : Nat) (hi : i < N) (hj : j < m) : ((balA N m).getD i []).getD j 0 = if (j + 1).testBit i = true then 1 else 0 := by
 unfold balA
 rw [tab_getD _ _ _ _ hi]
 unfold rowK
 rw [tab_getD _ _ _ _ hj]
theorem ag_bal (N m i j : Nat) (hi : i < N) (hj : j < m) : ag (balA N m) i j = if (j + 1).testBit i = true then 1 else 0 := by
 unfold ag
 rw [balA_at N m i j hi hj]
 split <;> rfl
theorem ag_bal01 (N m i j : Nat) (hi : i < N) (hj : j < m) : 0 ≤ ag (balA N m) i j ∧ ag (balA N m) i j ≤ 1 := by
 rw [ag_bal N m i j hi hj]
 split
 ·exact ⟨by grind,by grind⟩
 ·exact ⟨by grind,by grind⟩
theorem sR_lt {g : Nat → Rat} : ∀ {m : Nat},1 ≤ m → (∀ k,k < m → g k < 1) → sR g m < (m : Rat)
 | 1,_,h => by
  simp only [sR]
  have := h 0 (by omega)
  have e : ((1 : Nat) : Rat) = 1 := rfl
  rw [e]
  grind
 | m + 2,_,h => by
  have ih := sR_lt (g := g) (m := m + 1) (by omega) fun k hk => h k (by omega)
  have h2 := h (m + 1) (by omega)
  show sR g (m + 1) + g (m + 1) < _
  rw [Rat.natCast_add] at ih ⊢
  have e : ((2 : Nat) : Rat) = 2 := rfl
  have e1 : ((1 : Nat) : Rat) = 1 := rfl
  rw [e1] at ih
  rw [e]
  grind
theorem bnd01 {m K : Nat} {W f : Nat → Rat} (hm : 1 ≤ m) (hK : m ≤ K) (hW : ∀ k,k < m → 0 ≤ W k ∧ W k ≤ 1) (hf : ∀ k,k < m → 0 ≤ f k ∧ f k < 1) : ((0 : Int) : Rat) - 1 < sR (fun k => W k * f k) m ∧ sR (fun k => W k * f k) m < ((0 : Int) : Rat) + (K : Int) := by
 have e0 : ((0 : Int) : Rat) = 0 := rfl
 have h0 : 0 ≤ sR (fun k => W k * f k) m := sR_nonneg fun k hk => Rat.mul_nonneg (hW k hk).1 (hf k hk).1
 have h1 : sR (fun k => W k * f k) m < (m : Rat) := sR_lt hm fun k hk => by
  have a := hW k hk
  have b := hf k hk
  have := Rat.mul_le_mul_of_nonneg_right a.2 b.1
  grind
 have h2 : (m : Rat) ≤ ((K : Int) : Rat) := by
  rw [Rat.intCast_natCast]
  exact Rat.natCast_le_natCast.2 hK
 rw [e0]
 constructor <;> grind
theorem bit_ex : ∀ S : Fin 32,∀ N : Fin 6,1 ≤ S.val → S.val < 2 ^ N.val → ∃ i : Fin 5,i.val < N.val ∧ S.val.testBit i.val = true := by decide +kernel
theorem abs_sum {c x : Nat → Rat} {M : Rat} (hM : 0 ≤ M) : ∀ {n : Nat},(∀ j,j < n → -M ≤ c j ∧ c j ≤ M) → (∀ j,j < n → 0 ≤ x j) → -(M * sR x n) ≤ sR (fun j => c j * x j) n ∧ sR (fun j => c j * x j) n ≤ M * sR x n
 | 0,_,_ => by
  simp only [sR]
  constructor <;> grind
 | n + 1,hc,hx => by
  obtain ⟨h1,h2⟩ := abs_sum hM (n := n) (fun j hj => hc j (by omega)) fun j hj => hx j (by omega)
  simp only [sR]
  have a := hc n (by omega)
  have b := hx n (by omega)
  have k1 := Rat.mul_le_mul_of_nonneg_right a.1 b
  have k2 := Rat.mul_le_mul_of_nonneg_right a.2 b
  constructor <;> grind
theorem duS_val {A : List (List Int)} {Y c : List Q} {n : Nat} (hc : ∀ j,j < n → vq (c.getD j ⟨0,0⟩)) (h : duS A Y c n = true) (j : Nat) (hj : j < n) : sR (fun i => ag A i j * qg Y i) A.length ≤ qg c j := by
 have := (all_iff _ _).1 h j hj
 unfold duE at this
 rcases hd : dotQ (ratsOf (colA A j)) Y with ⟨s,t,o⟩
 rw [hd] at this
 simp only [Bool.and_eq_true,Bool.not_eq_true',decide_eq_false_iff_not] at this
 obtain ⟨h1,h2⟩ := this
 subst h1
 obtain ⟨_,d2,_,d4⟩ := colA_dot hd
 rw [cmpQ_neg (hc j hj) d2] at h2
 rw [← d4]
 exact Rat.not_lt.1 h2
theorem nqs_length (Y : List Q) (n : Nat) : (nqs Y n).length = n := tab_length _ _
def bt (s : Nat) (x : List Q) (k : Nat) : Rat := if s.testBit k = true then qg x k else 0
def pS (x : List Q) (s : Nat) : Rat := sR (bt s x) 5
def lS (x : List Q) : List Int → Rat
 | [] => 0
 | m :: r => qg x m.toNat + lS x r
theorem lS_app (x : List Q) (a b : List Int) : lS x (a ++ b) = lS x a + lS x b := by
 induction a with
 | nil => simp only [List.nil_append,lS]; grind
 | cons m r ih => simp only [List.cons_append,lS]; rw [ih]; grind
theorem lS_fil (x : List Q) (s : Nat) : ∀ n,lS x (fil s.testBit (fun k => (k : Int)) n) = sR (bt s x) n
 | 0 => rfl
 | n + 1 => by
  rw [fil_succ]
  simp only [sR]
  rw [← lS_fil x s n]
  unfold bt
  by_cases h : s.testBit n = true
  ·rw [if_pos h,if_pos h,lS_app]
   simp only [lS,Int.toNat_natCast]
   grind
  ·rw [if_neg h,if_neg h]
   grind
theorem share_val (x : List Q) : ∀ (ms : List Int) (a b u w : Int),validQ a b = true → shareFrom x ms a b = .inl (u,w) → validQ u w = true ∧ rv u w = rv a b + lS x ms
 | [],a,b,u,w,hv,h => by
  simp only [shareFrom,Sum.inl.injEq,Prod.mk.injEq] at h
  obtain ⟨rfl,rfl⟩ := h
  refine ⟨hv,?_⟩
  simp only [lS]
  grind
 | m :: r,a,b,u,w,hv,h => by
  unfold shareFrom at h
  split at h
  ·cases h
  ·rcases ha : addQ a b (x.getD m.toNat ⟨0,0⟩).num (x.getD m.toNat ⟨0,0⟩).den with ⟨e,f,o⟩
   rw [ha] at h
   cases o with
   | false => simp at h
   | true =>
    obtain ⟨_,v5,v6⟩ := addQ_val ha
    obtain ⟨w1,w2⟩ := share_val x r e f u w v5 (by simpa using h)
    refine ⟨w1,?_⟩
    rw [w2,v6]
    simp only [lS]
    have : rv (x.getD m.toNat ⟨0,0⟩).num (x.getD m.toNat ⟨0,0⟩).den = qg x m.toNat := rfl
    rw [this]
    grind
theorem shareF_val {x : List Q} {s : Nat} {u w : Int} (h : shareF x s = (u,w,true)) : validQ u w = true ∧ rv u w = pS x s := by
 unfold shareF at h
 rcases hs : shareFrom x (mems s) 0 1 with ⟨a,b⟩ | r
 ·rw [hs] at h
  simp only [Prod.mk.injEq,and_true] at h
  obtain ⟨rfl,rfl⟩ := h
  obtain ⟨h1,h2⟩ := share_val x (mems s) 0 1 a b valid01 hs
  refine ⟨h1,?_⟩
  rw [h2,rv01]
  unfold mems pS
  rw [lS_fil]
  grind
 ·rw [hs] at h
  have := shareFrom_inr x (mems s) 0 1 r hs
  subst this
  simp at h
theorem excess_val {l : List Int} {x : List Q} {s : Nat} {a b : Int} (h : excessF l x s = (a,b,true)) : validQ a b = true ∧ rv a b = ((l.getD s 0 : Int) : Rat) - pS x s := by
 unfold excessF at h
 rcases hs : shareF x s with ⟨u,w,o⟩
 rw [hs] at h
 dsimp only at h
 cases o with
 | false =>
  have := shareF_false (x := x) (s := s) (by rw [hs])
  rw [hs] at this
  simp only [Prod.mk.injEq] at this
  obtain ⟨rfl,rfl,_⟩ := this
  rw [subQ_00] at h
  simp at h
 | true =>
  obtain ⟨h1,h2⟩ := shareF_val hs
  obtain ⟨_,h4,h5⟩ := subQ_val h
  refine ⟨h4,?_⟩
  rw [h5,rv_int,h2]
theorem bt_high {x : List Q} {N s k : Nat} (hs : s < 2 ^ N) (hk : N ≤ k) : bt s x k = 0 := by
 unfold bt
 have : s.testBit k = false := Nat.testBit_lt_two_pow (Nat.lt_of_lt_of_le hs (Nat.pow_le_pow_right (by decide) hk))
 rw [this]
 simp
theorem sR_cut {f : Nat → Rat} {N : Nat} : ∀ {n : Nat},N ≤ n → (∀ i,N ≤ i → i < n → f i = 0) → sR f n = sR f N
 | 0,h,_ => by
  have : N = 0 := by omega
  rw [this]
 | n + 1,h,hz => by
  by_cases e : N = n + 1
  ·rw [e]
  ·simp only [sR]
   rw [hz n (by omega) (by omega),sR_cut (n := n) (by omega) fun i h1 h2 => hz i h1 (by omega)]
   grind
theorem pS_N {x : List Q} {N s : Nat} (hN : N ≤ 5) (hs : s < 2 ^ N) : pS x s = sR (bt s x) N := sR_cut hN fun i h _ => bt_high hs h
theorem pS_ag {x : List Q} {N m j : Nat} (hN : N ≤ 5) (hm : m + 1 = 2 ^ N) (hj : j < m) : pS x (j + 1) = sR (fun i => ag (balA N m) i j * qg x i) N := by
 rw [pS_N hN (by omega)]
 refine sR_ext fun i hi => ?_
 unfold bt
 rw [ag_bal N m i j hi hj]
 by_cases h : (j + 1).testBit i = true
 ·rw [if_pos h,if_pos h]
  grind
 ·rw [if_neg h,if_neg h]
  grind
theorem full_bit {N k : Nat} (hk : k < N) : (2 ^ N - 1).testBit k = true := by
 rw [Nat.testBit_two_pow_sub_one]
 exact decide_eq_true hk
theorem pS_full {x : List Q} {N : Nat} (hN : N ≤ 5) : pS x (2 ^ N - 1) = sR (qg x) N := by
 have hp : 0 < 2 ^ N := Nat.pow_pos (by decide)
 rw [pS_N hN (by omega)]
 refine sR_ext fun i hi => ?_
 unfold bt
 rw [full_bit hi,if_pos rfl]
theorem pay_ok (c : List UInt8) (i h n : Int) (l : List Int) (hc : c.length ≤ 1048576) (hi : 0 ≤ i) (hn : -1 ≤ n ∧ n ≤ 6) (hl : l.length ≤ 1048576) : ∃ x i' h',m_spec_l11Payoff_io1 c i h n l = some (x,i',h') ∧ x.length ≤ 5 ∧ 0 ≤ i' := by
 have hg : ∃ v,m_spec_GrandValue n l = some v := by
  cases hv : validB n l with
  | true =>
   obtain ⟨N,rfl,_⟩ := valid_nat ((validB_eq n l).1 hv)
   exact ⟨_,(grand_val N l hv).1⟩
  | false =>
   refine ⟨0,?_⟩
   unfold m_spec_GrandValue
   rw [spec_valid n l hl,hv]
   rfl
 obtain ⟨v,hv⟩ := hg
 have hroom : (room : Nat) = 1099511627776 := rfl
 obtain ⟨a,h1,h2⟩ := iter_dec (step := l_spec_l11Payoff_io1_0 c n) (fun k s => s.2.1 + k = 5 ∧ 0 ≤ s.2.1 ∧ (s.2.2.1.length : Int) = s.2.1 ∧ 0 ≤ s.2.2.2.1) (fun a => a.1.length ≤ 5 ∧ 0 ≤ a.2.1) (fun k ⟨v2,v3,v4,v5,v6⟩ ⟨h1,h2,h3,h4⟩ => by
  simp only at h1 h2 h3 h4
  unfold l_spec_l11Payoff_io1_0
  dsimp only
  by_cases e1 : v3 < n
  ·by_cases e2 : v3 < 5
   ·obtain ⟨x,i',h',b1,_,b3⟩ := pick_ok c v5 v6 [(0 : Int),(1 : Int),(2 : Int),(3 : Int),(-1 : Int),(5 : Int)] hc h4 (by decide) (by decide)
    rw [decide_eq_true e1,decide_eq_true e2,cond_true,cond_true,b1,Option.bind_some]
    unfold m_spec_l3Int
    dsimp only
    cases (v3 == IntKind.i64.wrap (n - (1 : Int))) with
    | true =>
     rw [cond_true,Option.bind_some]
     dsimp only
     rw [grd_pos (by simp only [List.length_singleton]; omega)]
     refine .inr ⟨_,k - 1,by omega,rfl,?_,?_,?_,?_⟩ <;> dsimp only
     ·rw [w64' (by omega) (by omega)]
      omega
     ·rw [w64' (by omega) (by omega)]
      omega
     ·rw [w64' (by omega) (by omega),List.length_append,List.length_singleton]
      omega
     ·exact b3
    | false =>
     rw [cond_false,Option.bind_some]
     dsimp only
     rw [grd_pos (by simp only [List.length_singleton]; omega)]
     refine .inr ⟨_,k - 1,by omega,rfl,?_,?_,?_,?_⟩ <;> dsimp only
     ·rw [w64' (by omega) (by omega)]
      omega
     ·rw [w64' (by omega) (by omega)]
      omega
     ·rw [w64' (by omega) (by omega),List.length_append,List.length_singleton]
      omega
     ·exact b3
   ·rw [decide_eq_true e1,decide_eq_false e2,cond_true,cond_false]
    exact .inl ⟨_,rfl,by dsimp only; omega,h4⟩
  ·rw [decide_eq_false e1,cond_false]
   exact .inl ⟨_,rfl,by dsimp only; omega,h4⟩) 5 (v,0,[],i,h) ⟨rfl,Int.le_refl 0,rfl,hi⟩
 unfold m_spec_l11Payoff_io1
 rw [hv,Option.bind_some,h1]
 exact ⟨_,_,_,rfl,h2⟩
theorem l3draw_ok (c : List UInt8) (i h : Int) (hc : c.length ≤ 1048576) (hi : 0 ≤ i) : ∃ a b i' h',m_spec_l3Draw_io1 c i h = some (a,b,i',h') ∧ 0 ≤ i' := by
 unfold m_spec_l3Draw_io1
 obtain ⟨x1,i1,h1,e1,_,p1⟩ := pick_ok c i h [(0 : Int),(1 : Int),(2 : Int),(-1 : Int),(3 : Int),(-7 : Int),(12 : Int),(999999999 : Int),(-1000000000 : Int)] hc hi (by decide) (by decide)
 rw [e1,Option.bind_some]
 dsimp only
 obtain ⟨x2,i2,h2,e2,_,p2⟩ := pick_ok c i1 h1 [(1 : Int),(1 : Int),(2 : Int),(3 : Int),(7 : Int),(1000000000 : Int),(999999937 : Int)] hc p1 (by decide) (by decide)
 rw [e2,Option.bind_some]
 dsimp only
 rw [spec_ratOf,Option.bind_some]
 rcases ratOf x1 x2 with ⟨a,b,o⟩
 dsimp only
 obtain ⟨x3,i3,h3,e3,p3⟩ := once_ok c i2 h2 12 hc p2 (by decide)
 rw [e3,Option.bind_some]
 dsimp only
 cases x3 with
 | false => exact ⟨_,_,_,_,rfl,p3⟩
 | true =>
  rw [cond_true]
  obtain ⟨x4,i4,h4,e4,_,p4⟩ := pick_ok c i3 h3 [(0 : Int),(2 : Int),(1000000001 : Int)] hc p3 (by decide) (by decide)
  rw [e4,Option.bind_some]
  dsimp only
  obtain ⟨x5,i5,h5,e5,_,p5⟩ := pick_ok c i4 h4 [(0 : Int),(2 : Int),(-1 : Int),(1 : Int)] hc p4 (by decide) (by decide)
  rw [e5,Option.bind_some]
  exact ⟨_,_,_,_,rfl,p5⟩
theorem shap_tot (n : Int) (l : List Int) (hl : l.length ≤ 1048576) : ∃ b r,r.length ≤ 1048576 ∧ m_spec_ShapleyValue n l = some (b,r) := by
 cases hv : validB n l with
 | false => exact ⟨false,[],by simp,spec_shap0 n l hl hv⟩
 | true =>
  obtain ⟨N,rfl,h1,h2,h3,h4⟩ := valid_nat ((validB_eq n l).1 hv)
  exact ⟨true,tab (shQ l N) N,by rw [tab_length]; omega,spec_shap N l hl hv⟩
theorem args_tail (c : List UInt8) (i h n : Int) (l : List Int) (hc : c.length ≤ 1048576) (hi : 0 ≤ i) (hn : -1 ≤ n ∧ n ≤ 6) (hl : l.length ≤ 17) :
  ∃ x : List Q,x.length ≤ 1048576 ∧ ((m_spec_l11Payoff_io1 c i h n l).bind fun (v42,v43,v44) =>
bif decide ((v42.length : Int) > (0 : Int)) then
((m_spec_l1Once_io1 c v43 v44 (10 : Int)).bind fun (v45,v46,v47) =>
bif v45 then
((m_spec_l3Draw_io1 c v46 v47).bind fun (v48,v49,v50,v51) =>
grd ((0 : Int) ≤ (0 : Int) ∧ (0 : Int) < (v42.length : Int)) <|
(m_spec_l1Once_io1 c v50 v51 (3 : Int)).bind fun (v52,_,_) =>
bif v52 then
((m_spec_ShapleyValue n l).bind fun (_,v56) =>
some (n,l,v56))
else
(some (n,l,v42.set ((0 : Int).toNat) ⟨v48,v49⟩)))
else
((m_spec_l1Once_io1 c v46 v47 (3 : Int)).bind fun (v57,_,_) =>
bif v57 then
((m_spec_ShapleyValue n l).bind fun (_,v61) =>
some (n,l,v61))
else
(some (n,l,v42))))
else
((m_spec_l1Once_io1 c v43 v44 (3 : Int)).bind fun (v62,_,_) =>
bif v62 then
((m_spec_ShapleyValue n l).bind fun (_,v66) =>
some (n,l,v66))
else
(some (n,l,v42)))) = some (n,l,x) := by
 obtain ⟨x,i1,h1,e1,p1,q1⟩ := pay_ok c i h n l hc hi hn (by omega)
 obtain ⟨b,r,r1,r2⟩ := shap_tot n l (by omega)
 rw [e1,r2,Option.bind_some]
 dsimp only
 simp only [Option.bind_some]
 cases hx : decide ((x.length : Int) > 0) with
 | false =>
  obtain ⟨o,i2,h2,e2,q2⟩ := once_ok c i1 h1 3 hc q1 (by decide)
  rw [cond_false,e2,Option.bind_some]
  cases o with
  | true => exact ⟨r,r1,rfl⟩
  | false => exact ⟨x,by omega,rfl⟩
 | true =>
  have hx := of_decide_eq_true hx
  obtain ⟨o,i2,h2,e2,q2⟩ := once_ok c i1 h1 10 hc q1 (by decide)
  rw [cond_true,e2,Option.bind_some]
  dsimp only
  cases o with
  | true =>
   obtain ⟨a,b,i3,h3,e3,q3⟩ := l3draw_ok c i2 h2 hc q2
   rw [cond_true,e3,Option.bind_some]
   dsimp only
   obtain ⟨o4,i4,h4,e4,q4⟩ := once_ok c i3 h3 3 hc q3 (by decide)
   rw [grd_pos ⟨Int.le_refl 0,hx⟩,e4,Option.bind_some]
   cases o4 with
   | true => exact ⟨r,r1,rfl⟩
   | false => exact ⟨x.set (0 : Int).toNat ⟨a,b⟩,by rw [List.length_set]; omega,rfl⟩
  | false =>
   obtain ⟨o4,i4,h4,e4,q4⟩ := once_ok c i2 h2 3 hc q2 (by decide)
   rw [cond_false,e4,Option.bind_some]
   cases o4 with
   | true => exact ⟨r,r1,rfl⟩
   | false => exact ⟨x,by omega,rfl⟩
theorem args_ok (c : List UInt8) (hc : c.length ≤ 1048576) : ∃ n l x,m_spec_l11Args c = some (n,l,x) ∧ l.length ≤ 17 ∧ x.length ≤ 1048576 ∧ (-1 ≤ n ∧ n ≤ 6) := by
 unfold m_spec_l11Args
 obtain ⟨h,e⟩ := new2 0 [] c
 rw [e,Option.bind_some]
 dsimp only
 obtain ⟨n,l,i1,h1,e1,p1,q1,r1⟩ := draw8_ok c 0 h hc (Int.le_refl 0)
 rw [e1,Option.bind_some]
 dsimp only
 obtain ⟨o,i2,h2,e2,r2⟩ := once_ok c i1 h1 16 hc r1 (by decide)
 rw [e2,Option.bind_some]
 dsimp only
 cases o with
 | false =>
  obtain ⟨x,x1,x2⟩ := args_tail c i2 h2 n l hc r2 (by omega) (by omega)
  refine ⟨n,l,x,?_,by omega,x1,by omega⟩
  rw [cond_false]
  exact x2
 | true =>
  obtain ⟨n,l,i3,h3,e3,p3,q3,r3⟩ := bent_ok c i2 h2 hc r2
  rw [cond_true,e3,Option.bind_some]
  dsimp only
  obtain ⟨x,x1,x2⟩ := args_tail c i3 h3 n l hc r3 (by omega) (by omega)
  exact ⟨n,l,x,x2,by omega,x1,by omega⟩
theorem fit_rat {r : Rat} {D : Nat} (hD : 1 ≤ D) (hD2 : D ≤ 1000000000) (hz : ∃ z : Int,(D : Rat) * r = z) {B : Int} (hb : -(B : Rat) ≤ r ∧ r ≤ (B : Rat)) (hB : B * (D : Int) ≤ 1000000000) : ∃ x y,validQ x y = true ∧ rv x y = r := by
 obtain ⟨z,hz⟩ := hz
 have hr : r = rv z (D : Int) := rv_uniq (by omega) (by rw [Rat.intCast_natCast,Rat.mul_comm]; exact hz)
 have hb' := hb
 rw [hr] at hb'
 obtain ⟨z1,z2⟩ := rv_le_of (M := B) (show (0 : Int) < (D : Int) by omega) hb'.1 hb'.2
 obtain ⟨x,y,g,r1,_,_,_,r5⟩ := ratOf_ok z (D : Int) (by omega) (by omega)
 exact ⟨x,y,r5,by rw [(ratOf_val r1).2.2,hr]⟩
theorem mulBd5 {a d : Int} (ha : -1000000000 ≤ a ∧ a ≤ 1000000000) (hd : 0 ≤ d ∧ d ≤ 50000) : -50000000000000 ≤ a * d ∧ a * d ≤ 50000000000000 := by
 have m1 := Int.mul_le_mul_of_nonneg_right ha.1 hd.1
 have m2 := Int.mul_le_mul_of_nonneg_right ha.2 hd.1
 omega
theorem add_fit {a b c d : Int} {D : Nat} (h1 : validQ a b = true) (h2 : validQ c d = true) (hD : 1 ≤ D ∧ D ≤ 50000) (i1 : ∃ z : Int,(D : Rat) * rv a b = z) (i2 : ∃ z : Int,(D : Rat) * rv c d = z) {B : Int} (hb : -(B : Rat) ≤ rv a b + rv c d ∧ rv a b + rv c d ≤ (B : Rat)) (hB : B * (D : Int) ≤ 1000000000) : ∃ x y,addQ a b c d = (x,y,true) ∧ validQ x y = true ∧ rv x y = rv a b + rv c d := by
 obtain ⟨z1,k1⟩ := i1
 obtain ⟨z2,k2⟩ := i2
 have d1 := den_le h1 hD.1 k1
 have d2 := den_le h2 hD.1 k2
 obtain ⟨x,y,x1,x2⟩ := fit_rat hD.1 (by omega) ⟨z1 + z2,by rw [Rat.mul_add,k1,k2,Rat.intCast_add]⟩ hb hB
 have v1 := validQ_bd h1
 have v2 := validQ_bd h2
 have m1 := mulBd5 (a := a) (d := d) (by omega) (by omega)
 have m2 := mulBd5 (a := c) (d := b) (by omega) (by omega)
 exact ⟨x,y,addQ_of h1 h2 x1 (by omega) x2,x1,x2⟩
theorem sub_fit {a b c d : Int} {D : Nat} (h1 : validQ a b = true) (h2 : validQ c d = true) (hD : 1 ≤ D ∧ D ≤ 50000) (i1 : ∃ z : Int,(D : Rat) * rv a b = z) (i2 : ∃ z : Int,(D : Rat) * rv c d = z) {B : Int} (hb : -(B : Rat) ≤ rv a b - rv c d ∧ rv a b - rv c d ≤ (B : Rat)) (hB : B * (D : Int) ≤ 1000000000) : ∃ x y,subQ a b c d = (x,y,true) ∧ validQ x y = true ∧ rv x y = rv a b - rv c d := by
 obtain ⟨z1,k1⟩ := i1
 obtain ⟨z2,k2⟩ := i2
 have d1 := den_le h1 hD.1 k1
 have d2 := den_le h2 hD.1 k2
 obtain ⟨x,y,x1,x2⟩ := fit_rat hD.1 (by omega) ⟨z1 - z2,by rw [Rat.intCast_sub,← k1,← k2]; grind⟩ hb hB
 have v1 := validQ_bd h1
 have v2 := validQ_bd h2
 have m1 := mulBd5 (a := a) (d := d) (by omega) (by omega)
 have m2 := mulBd5 (a := c) (d := b) (by omega) (by omega)
 exact ⟨x,y,subQ_of h1 h2 x1 (by omega) x2,x1,x2⟩
structure PtD (x : List Q) (N D : Nat) (M : Int) : Prop where
 len : x.length = N
 v : ∀ i,i < N → vq (x.getD i ⟨0,0⟩)
 z : ∀ i,i < N → ∃ z : Int,(D : Rat) * qg x i = z
 b : ∀ i,i < N → -(M : Rat) ≤ qg x i ∧ qg x i ≤ (M : Rat)
 m0 : 0 ≤ M
 d : 1 ≤ D ∧ D ≤ 50000
 fit : (5 * M + 500) * (D : Int) ≤ 1000000000
theorem share_fit {x : List Q} {N D : Nat} {M : Int} (p : PtD x N D M) : ∀ (ms : List Int) (c : Nat) (a b : Int),(∀ m ∈ ms,∃ k : Nat,m = (k : Int) ∧ k < N) → c + ms.length ≤ 5 → validQ a b = true → (∃ z : Int,(D : Rat) * rv a b = z) → -(((c : Int) * M : Int) : Rat) ≤ rv a b ∧ rv a b ≤ (((c : Int) * M : Int) : Rat) → ∃ u w,shareFrom x ms a b = .inl (u,w) ∧ validQ u w = true ∧ (∃ z : Int,(D : Rat) * rv u w = z) ∧ -((5 * M : Int) : Rat) ≤ rv u w ∧ rv u w ≤ ((5 * M : Int) : Rat)
 | [],c,a,b,_,hc,hv,hz,hb => by
  have hm := Int.mul_le_mul_of_nonneg_right (show (c : Int) ≤ 5 by simp only [List.length_nil] at hc; omega) p.m0
  have := Rat.intCast_le_intCast.2 hm
  exact ⟨a,b,rfl,hv,hz,by grind,by grind⟩
 | m :: ms,c,a,b,hms,hc,hv,hz,hb => by
  obtain ⟨k,rfl,hk⟩ := hms m (List.mem_cons_self ..)
  rw [List.length_cons] at hc
  have hq : vq (x.getD k ⟨0,0⟩) := p.v k hk
  have hkb := p.b k hk
  have hkz := p.z k hk
  have e1 : (((c + 1 : Nat) : Int) * M : Int) = (c : Int) * M + M := by rw [Int.natCast_add,Int.add_mul]; omega
  have e2 : (((((c + 1 : Nat) : Int) * M : Int)) : Rat) = (((c : Int) * M : Int) : Rat) + (M : Rat) := by rw [e1,Rat.intCast_add]
  have hm := Int.mul_le_mul_of_nonneg_right (show ((c + 1 : Nat) : Int) ≤ 5 by omega) p.m0
  have hm2 := Int.mul_le_mul_of_nonneg_right (show ((c + 1 : Nat) : Int) * M ≤ 5 * M + 500 by omega) (show (0 : Int) ≤ (D : Int) by omega)
  have hsum : -(((((c + 1 : Nat) : Int) * M : Int)) : Rat) ≤ rv a b + qg x k ∧ rv a b + qg x k ≤ (((((c + 1 : Nat) : Int) * M : Int)) : Rat) := by
   rw [e2]
   constructor <;> grind
  obtain ⟨y,z,a1,a2,a3⟩ := add_fit hv hq p.d hz hkz hsum (Int.le_trans hm2 p.fit)
  have hn : ¬ ((k : Int) ≥ (x.length : Int)) := by
   have := p.len
   omega
  unfold shareFrom
  rw [if_neg hn,Int.toNat_natCast,a1]
  refine share_fit p ms (c + 1) y z (fun m hm => hms m (List.mem_cons_of_mem _ hm)) (by omega) a2 ?_ ?_
  ·obtain ⟨z1,k1⟩ := hz
   obtain ⟨z2,k2⟩ := hkz
   refine ⟨z1 + z2,?_⟩
   have a3' : rv y z = rv a b + qg x k := a3
   rw [a3',Rat.mul_add,k1,k2,Rat.intCast_add]
  ·have a3' : rv y z = rv a b + qg x k := a3
   rw [a3']
   exact hsum
theorem pt_share {x : List Q} {N D : Nat} {M : Int} (p : PtD x N D M) (s : Nat) (hs : s < 2 ^ N) : ∃ u w,shareF x s = (u,w,true) ∧ validQ u w = true ∧ (∃ z : Int,(D : Rat) * rv u w = z) ∧ -((5 * M : Int) : Rat) ≤ rv u w ∧ rv u w ≤ ((5 * M : Int) : Rat) := by
 have h0 : rv 0 1 = 0 := rv_int 0
 obtain ⟨u,w,e,r⟩ := share_fit p (mems s) 0 0 1 (fun m hm => by
  obtain ⟨k,k1,k2,k3⟩ := mems_mem hm
  refine ⟨k,k1,?_⟩
  rcases Nat.lt_or_ge k N with h | h
  ·exact h
  ·have := Nat.testBit_lt_two_pow (Nat.lt_of_lt_of_le hs (Nat.pow_le_pow_right (n := 2) (by decide) h))
   rw [this] at k3
   cases k3) (by have := mems_length s; omega) (by decide) ⟨0,by rw [h0,Rat.mul_zero]; rfl⟩ (by
  rw [h0]
  have e0 : ((((0 : Nat) : Int) * M : Int) : Rat) = 0 := by
   rw [Int.natCast_zero,Int.zero_mul]
   rfl
  rw [e0]
  constructor <;> grind)
 refine ⟨u,w,?_,r⟩
 unfold shareF
 rw [e]
theorem pt_excess {x : List Q} {N D : Nat} {M : Int} (p : PtD x N D M) {l : List Int} (hl : ∀ i,-500 ≤ l.getD i 0 ∧ l.getD i 0 ≤ 500) (s : Nat) (hs : s < 2 ^ N) : ∃ a b,excessF l x s = (a,b,true) ∧ (∃ z : Int,(D : Rat) * rv a b = z) := by
 obtain ⟨u,w,e,v,z,b1,b2⟩ := pt_share p s hs
 have hb := hl s
 have d := p.d
 have c1 : ((-500 : Int) : Rat) ≤ ((l.getD s 0 : Int) : Rat) := Rat.intCast_le_intCast.2 hb.1
 have c2 : ((l.getD s 0 : Int) : Rat) ≤ ((500 : Int) : Rat) := Rat.intCast_le_intCast.2 hb.2
 have e1 : ((-500 : Int) : Rat) = -500 := rfl
 have e2 : ((500 : Int) : Rat) = 500 := rfl
 rw [e1] at c1
 rw [e2] at c2
 have e3 : ((5 * M + 500 : Int) : Rat) = ((5 * M : Int) : Rat) + 500 := by rw [Rat.intCast_add,e2]
 have hiz : (D : Rat) * rv (l.getD s 0) 1 = (((D : Int) * l.getD s 0 : Int) : Rat) := by rw [rv_int,Rat.intCast_mul,Rat.intCast_natCast]
 obtain ⟨x1,y1,s1,s2,s3⟩ := sub_fit (a := l.getD s 0) (b := 1) (validQ_int (by omega)) v d ⟨_,hiz⟩ z (B := 5 * M + 500) (by
  rw [rv_int,e3]
  constructor <;> grind) p.fit
 refine ⟨x1,y1,?_,?_⟩
 ·unfold excessF
  rw [e]
  exact s1
 ·obtain ⟨z2,k2⟩ := z
  refine ⟨(D : Int) * l.getD s 0 - z2,?_⟩
  rw [s3,Rat.intCast_sub,← k2,← hiz]
  grind
theorem nqs_at (Y : List Q) (n i : Nat) (h : i < n) : (nqs Y n).getD i ⟨0,0⟩ = nq (Y.getD i ⟨0,0⟩) := tab_getD _ _ _ _ h
theorem nq_val {q : Q} (h : vq q) : vq (nq q) ∧ qr (nq q) = -qr q := by
 refine ⟨?_,rv_neg _ _⟩
 show validQ (-q.num) q.den = true
 rw [validQ_neg]
 exact h
theorem lists_self (A : List (List Int)) (h1 : A.length ≤ 1048576) (h2 : ∀ i,i < A.length → (A.getD i []).length ≤ 1048576) : m_laws_sameLists A A = some true := by
 unfold m_laws_sameLists
 have hit := iter_up (step := l_laws_sameLists_0 A A) (fun i => (i : Int)) A.length (a := .inl ()) (fun i hi => by
   unfold l_laws_sameLists_0
   rw [decide_eq_true (by omega),cond_true,grd_pos (by omega),grd_pos (by omega),Int.toNat_natCast,same_self _ (h2 i hi),Option.bind_some,Bool.not_true,cond_false,w64' (by omega) (by omega)]
   rfl)
  (by unfold l_laws_sameLists_0; rw [decide_eq_false (by omega)]; rfl)
 simp only [Int.natCast_zero] at hit
 rw [bne_self_eq_false,cond_false,hit]
 rfl
theorem lp_self (A : List (List Int)) (B : List Int) (C : List Q) (h1 : A.length ≤ 1048576) (h2 : ∀ i,i < A.length → (A.getD i []).length ≤ 1048576) (h3 : B.length ≤ 1048576) (h4 : C.length ≤ 1048576) : m_laws_sameLP A B C A B C = some true := by
 unfold m_laws_sameLP
 rw [lists_self A h1 h2,Option.bind_some,cond_true,same_self B h3,Option.bind_some,cond_true,spec_eqv C C h4,decide_eq_true rfl]
 rfl
theorem leastA_len (N m : Nat) : (leastA N m).length = N + 1 := by
 unfold leastA
 rw [List.length_append,tab_length,List.length_singleton]
theorem leastC_len (l : List Int) (m : Nat) : (leastC l m).length = m + 1 := by
 unfold leastC
 rw [List.length_append,tab_length,List.length_singleton]
theorem getDL (x y : List (List Int)) (i : Nat) (h : i < x.length) : (x ++ y).getD i [] = x.getD i [] := by
 rw [List.getD_eq_getElem?_getD,List.getElem?_append_left h,List.getD_eq_getElem?_getD]
theorem getDR (x : List (List Int)) (y : List Int) : (x ++ [y]).getD x.length [] = y := by
 rw [List.getD_eq_getElem?_getD,List.getElem?_append_right (Nat.le_refl _),Nat.sub_self]
 rfl
theorem getDI (x y : List Int) (i : Nat) (h : i < x.length) : (x ++ y).getD i 0 = x.getD i 0 := by
 rw [List.getD_eq_getElem?_getD,List.getElem?_append_left h,List.getD_eq_getElem?_getD]
theorem getDJ (x : List Int) (y : Int) : (x ++ [y]).getD x.length 0 = y := by
 rw [List.getD_eq_getElem?_getD,List.getElem?_append_right (Nat.le_refl _),Nat.sub_self]
 rfl
theorem la_row (N m i : Nat) (hi : i < N) : (leastA N m).getD i [] = rowK m i ++ [-1] := by
 unfold leastA
 rw [getDL _ _ _ (by rw [tab_length]; exact hi),tab_getD _ _ _ _ hi]
theorem la_last (N m : Nat) : (leastA N m).getD N [] = tab (fun _ => (1 : Int)) m ++ [0] := by
 have := getDR (tab (fun k => rowK m k ++ [-1]) N) (tab (fun _ => (1 : Int)) m ++ [0])
 rw [tab_length] at this
 exact this
theorem la1 (N m i j : Nat) (hi : i < N) (hj : j < m) : ag (leastA N m) i j = ag (balA N (m + 1)) i j := by
 rw [ag_bal N (m + 1) i j hi (by omega)]
 unfold ag
 rw [la_row N m i hi,getDI _ _ _ (by rw [rowK_length]; exact hj)]
 unfold rowK
 rw [tab_getD _ _ _ _ hj]
 split <;> rfl
theorem la2 (N m i : Nat) (hi : i < N) : ag (leastA N m) i m = -1 := by
 unfold ag
 rw [la_row N m i hi]
 have := getDJ (rowK m i) (-1)
 rw [rowK_length] at this
 rw [this]
 rfl
theorem la3 (N m j : Nat) (hj : j < m) : ag (leastA N m) N j = 1 := by
 unfold ag
 rw [la_last N m,getDI _ _ _ (by rw [tab_length]; exact hj),tab_getD _ _ _ _ hj]
 rfl
theorem la4 (N m : Nat) : ag (leastA N m) N m = 0 := by
 unfold ag
 rw [la_last N m]
 have := getDJ (tab (fun _ => (1 : Int)) m) 0
 rw [tab_length] at this
 rw [this]
 rfl
theorem lb1 (N i : Nat) (hi : i < N) : (leastB N).getD i 0 = 0 := by
 unfold leastB
 rw [getDI _ _ _ (by rw [tab_length]; exact hi),tab_getD _ _ _ _ hi]
theorem lb2 (N : Nat) : (leastB N).getD N 0 = 1 := by
 have := getDJ (tab (fun _ => (0 : Int)) N) 1
 rw [tab_length] at this
 exact this
theorem lb_nn (N i : Nat) (hi : i < N + 1) : ¬ (leastB N).getD i 0 < 0 := by
 by_cases h : i < N
 ·rw [lb1 N i h]
  decide
 ·rw [show i = N by omega,lb2 N]
  decide
theorem lc1 (l : List Int) (m j : Nat) (hj : j < m) : qg (leastC l m) j = -((l.getD (j + 1) 0 : Int) : Rat) := by
 unfold qg leastC
 rw [getD_app1 _ _ _ _ (by rw [tab_length]; exact hj),tab_getD _ _ _ _ hj]
 unfold negV qr
 rw [rv_neg,rv_int]
theorem lc2 (l : List Int) (m : Nat) : qg (leastC l m) m = ((l.getD (m + 1) 0 : Int) : Rat) := by
 unfold qg leastC
 have e := getD_app2 (tab (negV l) m) [⟨l.getD (m + 1) 0,1⟩] 0 m ⟨0,0⟩ (tab_length _ _)
 have e2 : (tab (negV l) m ++ [(⟨l.getD (m + 1) 0,1⟩ : Q)]).getD m ⟨0,0⟩ = (⟨l.getD (m + 1) 0,1⟩ : Q) := e
 rw [e2]
 exact rv_int _
theorem slack0 {a : Nat → Nat → Rat} {b c x y : Nat → Rat} {m n : Nat} (hx : ∀ j,j < n → 0 ≤ x j) (hp : ∀ i,i < m → sR (fun j => a i j * x j) n = b i) (hd : ∀ j,j < n → sR (fun i => a i j * y i) m ≤ c j) (hv : sR (fun j => c j * x j) n = sR (fun i => b i * y i) m) (j : Nat) (hj : j < n) (hpos : 0 < x j) : sR (fun i => a i j * y i) m = c j := by
 have e1 : sR (fun i => b i * y i) m = sR (fun j => sR (fun i => a i j * y i) m * x j) n := by
  have q : sR (fun i => b i * y i) m = sR (fun i => sR (fun j => a i j * x j * y i) n) m := sR_ext fun i hi => by rw [← hp i hi,sR_mulr]
  rw [q,sR_comm]
  refine sR_ext fun j _ => ?_
  rw [← sR_mulr]
  exact sR_ext fun i _ => by grind
 have e2 : sR (fun j => (c j - sR (fun i => a i j * y i) m) * x j) n = 0 := by
  have q : sR (fun j => (c j - sR (fun i => a i j * y i) m) * x j) n = sR (fun j => c j * x j - sR (fun i => a i j * y i) m * x j) n := sR_ext fun j _ => by grind
  rw [q,sR_sub,hv,e1]
  grind
 have ht := sR_term (f := fun j => (c j - sR (fun i => a i j * y i) m) * x j) hj fun k hk => Rat.mul_nonneg (by have := hd k hk; grind) (hx k hk)
 rw [e2] at ht
 have h1 := hd j hj
 rcases Rat.le_iff_lt_or_eq.1 h1 with h | h
 ·have : 0 < (c j - sR (fun i => a i j * y i) m) * x j := Rat.mul_pos (by grind) hpos
  exfalso
  exact absurd ht (Rat.not_le.2 this)
 ·exact h
theorem sR_some {f : Nat → Rat} : ∀ {n : Nat},0 < sR f n → ∃ j,j < n ∧ 0 < f j
 | 0,h => by
  simp only [sR] at h
  exact absurd h (by decide)
 | n + 1,h => by
  simp only [sR] at h
  by_cases hn : 0 < f n
  ·exact ⟨n,by omega,hn⟩
  ·obtain ⟨j,h1,h2⟩ := sR_some (f := f) (n := n) (by have := Rat.not_lt.1 hn; grind)
   exact ⟨j,by omega,h2⟩
structure LeastE (N m : Nat) (l : List Int) (vn vd : Int) (X Y : List Q) : Prop where
 xl : X.length = m + 1
 yl : Y.length = N + 1
 yv : ∀ i,i < N → vq (Y.getD i ⟨0,0⟩)
 v : validQ vn vd = true
 fe : feasB (leastA N m) (leastB N) (leastC l m) X = true
 dx : dotQ (leastC l m) X = (vn,vd,true)
 x0 : ∀ j,j < m + 1 → 0 ≤ qg X j
 xr : ∀ i,i < N → sR (fun j => ag (balA N (m + 1)) i j * qg X j) m = qg X m
 x1 : sR (qg X) m = 1
 vx : rv vn vd = -sR (fun j => ((l.getD (j + 1) 0 : Int) : Rat) * qg X j) m + ((l.getD (m + 1) 0 : Int) : Rat) * qg X m
 su : sR (qg Y) N = -((l.getD (m + 1) 0 : Int) : Rat)
 dom : ∀ j,j < m → ((l.getD (j + 1) 0 : Int) : Rat) + sR (fun i => ag (balA N (m + 1)) i j * qg Y i) N ≤ -rv vn vd
 att : ∃ j,j < m ∧ ((l.getD (j + 1) 0 : Int) : Rat) + sR (fun i => ag (balA N (m + 1)) i j * qg Y i) N = -rv vn vd
 den : ∃ D : Nat,1 ≤ D ∧ D ≤ 46656 ∧ ∀ i,i < N → ∃ z : Int,(D : Rat) * qg Y i = z
theorem least_end {N m : Nat} {l : List Int} (h2 : 2 ≤ N) (h5 : N ≤ 5) (hm : m + 2 = 2 ^ N) {vn vd p : Int} {X Y R : List Q} (hs : slpF (leastA N m) (leastB N) (leastC l m) = (1,vn,vd,p,X,Y,R)) : LeastE N m l vn vd X Y := by
 obtain ⟨q1,q2,⟨r,b,k,o⟩,q4,q5,q6,q7⟩ := slp_one hs
 obtain ⟨o1,o2,o3,o4,o5,o6⟩ := opt_val q7
 obtain ⟨p1,p2,p3,p4,p5,p6⟩ := lpOk_parts q1
 have lA := leastA_len N m
 have lB := leastB_length N
 have lC := leastC_len l m
 have h32 := pow_le32 h5
 obtain ⟨f1,f2,f3,f4⟩ := feas_val q4
 rw [lC] at f2 f3 o4
 rw [lB] at o3 o5 q5
 have hx0 : ∀ j,j < m + 1 → 0 ≤ qg X j := fun j hj => (f3 j hj).2
 have hp : ∀ i,i < N + 1 → sR (fun j => ag (leastA N m) i j * qg X j) (m + 1) = ig (leastB N) i := fun i hi => by
  have := f4 i (by omega)
  rw [lC] at this
  exact this
 have hxr : ∀ i,i < N → sR (fun j => ag (balA N (m + 1)) i j * qg X j) m = qg X m := fun i hi => by
  have h := hp i (by omega)
  simp only [sR] at h
  rw [la2 N m i hi] at h
  have e : sR (fun j => ag (leastA N m) i j * qg X j) m = sR (fun j => ag (balA N (m + 1)) i j * qg X j) m := sR_ext fun j hj => by rw [la1 N m i j hi hj]
  rw [e] at h
  unfold ig at h
  rw [lb1 N i hi] at h
  have e0 : ((0 : Int) : Rat) = 0 := rfl
  rw [e0] at h
  grind
 have hx1 : sR (qg X) m = 1 := by
  have h := hp N (by omega)
  simp only [sR] at h
  rw [la4 N m] at h
  have e : sR (fun j => ag (leastA N m) N j * qg X j) m = sR (qg X) m := sR_ext fun j hj => by rw [la3 N m j hj,Rat.one_mul]
  rw [e] at h
  unfold ig at h
  rw [lb2 N] at h
  have e0 : ((1 : Int) : Rat) = 1 := rfl
  rw [e0] at h
  grind
 have hvx : rv vn vd = -sR (fun j => ((l.getD (j + 1) 0 : Int) : Rat) * qg X j) m + ((l.getD (m + 1) 0 : Int) : Rat) * qg X m := by
  rw [o4]
  simp only [sR]
  rw [lc2 l m]
  have e : sR (fun j => qg (leastC l m) j * qg X j) m = sR (fun j => (-1) * (((l.getD (j + 1) 0 : Int) : Rat) * qg X j)) m := sR_ext fun j hj => by
   rw [lc1 l m j hj]
   grind
  rw [e,sR_mul]
  grind
 have hvy : rv vn vd = qg Y N := by
  rw [o5]
  simp only [sR]
  have e : sR (fun i => ig (leastB N) i * qg Y i) N = sR (fun _ => 0) N := sR_ext fun i hi => by
   unfold ig
   rw [lb1 N i hi]
   exact Rat.zero_mul _
  rw [e,sR_zero]
  unfold ig
  rw [lb2 N]
  have e0 : ((1 : Int) : Rat) = 1 := rfl
  rw [e0]
  grind
 have hd : ∀ j,j < m + 1 → sR (fun i => ag (leastA N m) i j * qg Y i) (N + 1) ≤ qg (leastC l m) j := fun j hj => by
  have := duS_val (fun j hj => all_val p6 j hj) q6 j (by omega)
  rw [lA] at this
  exact this
 have hval : sR (fun j => qg (leastC l m) j * qg X j) (m + 1) = sR (fun i => ig (leastB N) i * qg Y i) (N + 1) := by rw [← o4,← o5]
 have hz : 0 < qg X m := by
  rcases Rat.le_iff_lt_or_eq.1 (hx0 m (by omega)) with h | h
  ·exact h
  ·exfalso
   obtain ⟨j,hj,hpos⟩ := sR_some (f := qg X) (n := m) (by rw [hx1]; grind)
   obtain ⟨i,hi,hb⟩ := bit_ex ⟨j + 1,by omega⟩ ⟨N,by omega⟩ (by show 1 ≤ j + 1; omega) (by show j + 1 < 2 ^ N; omega)
   have ht := sR_term (f := fun j => ag (balA N (m + 1)) i.val j * qg X j) hj fun k hk => Rat.mul_nonneg (ag_bal01 N (m + 1) i.val k hi (by omega)).1 (hx0 k (by omega))
   rw [hxr i.val hi,ag_bal N (m + 1) i.val j hi (by omega),if_pos hb] at ht
   grind
 have hsl := slack0 hx0 hp hd hval
 have hdj : ∀ j,j < m → sR (fun i => ag (leastA N m) i j * qg Y i) (N + 1) = sR (fun i => ag (balA N (m + 1)) i j * qg Y i) N + rv vn vd := fun j hj => by
  simp only [sR]
  rw [la3 N m j hj,hvy]
  have e : sR (fun i => ag (leastA N m) i j * qg Y i) N = sR (fun i => ag (balA N (m + 1)) i j * qg Y i) N := sR_ext fun i hi => by rw [la1 N m i j hi hj]
  rw [e]
  grind
 refine ⟨f2,q5,fun i hi => o3 i (by omega),o1,q4,o6,hx0,hxr,hx1,hvx,?_,fun j hj => ?_,?_,?_⟩
 ·have h := hsl m (by omega) hz
  simp only [sR] at h
  rw [la4 N m,lc2 l m] at h
  have e : sR (fun i => ag (leastA N m) i m * qg Y i) N = sR (fun i => (-1) * qg Y i) N := sR_ext fun i hi => by rw [la2 N m i hi]
  rw [e,sR_mul] at h
  have e2 : sR (fun i => qg Y i) N = sR (qg Y) N := rfl
  rw [e2] at h
  grind
 ·have h := hd j (by omega)
  rw [hdj j hj,lc1 l m j hj] at h
  grind
 ·obtain ⟨j,hj,hpos⟩ := sR_some (f := qg X) (n := m) (by rw [hx1]; grind)
  refine ⟨j,hj,?_⟩
  have h := hsl j (by omega) hpos
  rw [hdj j hj,lc1 l m j hj] at h
  grind
 ·have hint : ∀ j,j < (leastC l m).length → ∃ z : Int,qg (leastC l m) j = z := fun j hj => by
   rw [lC] at hj
   by_cases h : j < m
   ·exact ⟨-(l.getD (j + 1) 0),by rw [lc1 l m j h,Rat.intCast_neg]⟩
   ·rw [show j = m by omega]
    exact ⟨_,lc2 l m⟩
  have hbb : ∀ k,k < N + 1 → bn b k < m + 1 + (N + 1) := fun k hk => by
   have := o.t.bb k (by omega)
   omega
  have hsg : ∀ i,i < N + 1 → sgB (leastB N) i = 1 := fun i hi => if_neg (lb_nn N i hi)
  have e1 : ((1 : Int) : Rat) = 1 := rfl
  obtain ⟨D,d1,d2,d3⟩ := den_dual o.g o.t o.c hint (K := 6) (lo := fun j => if bn b j = m then -5 else 0) (fun j hj f hf => by
   rw [lA] at hj hf ⊢
   rw [lC]
   by_cases hbm : bn b j = m
   ·rw [if_pos hbm,hbm]
    have hW : ∀ i,i < N → stS (leastA N m) (leastB N) (m + 1) i m = -1 := fun i hi => by
     rw [stS_X _ _ _ i m (by omega) (by omega),hsg i (by omega),e1,Rat.one_mul]
     exact la2 N m i hi
    have hWN : stS (leastA N m) (leastB N) (m + 1) N m = 0 := by
     rw [stS_X _ _ _ N m (by omega) (by omega),hsg N (by omega),e1,Rat.one_mul]
     exact la4 N m
    simp only [sR]
    rw [hWN]
    have e : sR (fun i => stS (leastA N m) (leastB N) (m + 1) i m * f i) N = sR (fun i => (-1) * f i) N := sR_ext fun i hi => by rw [hW i hi]
    rw [e,sR_mul]
    have u1 : sR f N < (N : Rat) := sR_lt (by omega) fun k hk => (hf k (by omega)).2
    have u2 : 0 ≤ sR f N := sR_nonneg fun k hk => (hf k (by omega)).1
    have u3 : (N : Rat) ≤ ((5 : Nat) : Rat) := Rat.natCast_le_natCast.2 h5
    have u4 : ((5 : Nat) : Rat) = 5 := rfl
    have u5 : ((-5 : Int) : Rat) = -5 := rfl
    have u6 : (((6 : Nat) : Int) : Rat) = 6 := rfl
    have u7 : sR (fun i => f i) N = sR f N := rfl
    rw [u4] at u3
    rw [u5,u6,u7]
    constructor <;> grind
   ·rw [if_neg hbm]
    refine bnd01 (by omega) (by omega) (fun i hi => ?_) hf
    have hb := hbb j hj
    by_cases hx : bn b j < m + 1
    ·rw [stS_X _ _ _ i _ (by omega) hx,hsg i hi,e1,Rat.one_mul]
     have hjm : bn b j < m := by omega
     by_cases hiN : i < N
     ·rw [la1 N m i (bn b j) hiN hjm]
      exact ag_bal01 N (m + 1) i (bn b j) hiN (by omega)
     ·rw [show i = N by omega]
      rw [la3 N m (bn b j) hjm]
      exact ⟨by grind,by grind⟩
    ·have e : bn b j = m + 1 + (bn b j - (m + 1)) := by omega
     rw [e,stS_U _ _ _ i _ (by omega) (by omega)]
     split
     ·exact ⟨by grind,by grind⟩
     ·exact ⟨by grind,by grind⟩)
  rw [lA] at d2 d3
  have hpow : 6 ^ (N + 1) ≤ 46656 := Nat.le_trans (Nat.pow_le_pow_right (n := 6) (by decide) (show N + 1 ≤ 6 by omega)) (by decide)
  refine ⟨D,d1,by omega,fun i hi => ?_⟩
  obtain ⟨z,hz⟩ := d3 i (by omega)
  obtain ⟨_,_,_,c4⟩ := costF_val o.g o.c
  have hy := (dlF_val (B := leastB N) (fun j hj => (c4 j hj).1) i (by omega : i < (leastA N m).length)).2
  rw [hsg i (by omega)] at hy
  refine ⟨-z,?_⟩
  rw [o.y,hy,Rat.intCast_neg,← hz,e1]
  grind
noncomputable def wsF (n : Int) (l : List Int) (x : List Q) : Int × Int × Bool × List Int := bif payB n l x && ((exs l x 1 (l.length - 2)).1 && !((exs l x 1 (l.length - 2)).2.length == 0)) then ((maxF (exs l x 1 (l.length - 2)).2 (exs l x 1 (l.length - 2)).2.length).num,(maxF (exs l x 1 (l.length - 2)).2 (exs l x 1 (l.length - 2)).2.length).den,true,eqL (exs l x 1 (l.length - 2)).2 (maxF (exs l x 1 (l.length - 2)).2 (exs l x 1 (l.length - 2)).2.length)) else (0,0,false,[])
theorem worst_eq (n : Int) (l : List Int) (x : List Q) (hl : l.length ≤ 1048576) (hx : x.length ≤ 1048576) : m_spec_WorstExcess n l x = some (wsF n l x) ∧ m_impl_WorstExcess n l x = some (wsF n l x) := by
 unfold m_spec_WorstExcess m_impl_WorstExcess wsF
 cases hp : payB n l x with
 | false =>
  rw [spec_all0 n l x hp hl hx,impl_exs0 n l x _ _ hp hl hx]
  exact ⟨rfl,rfl⟩
 | true =>
  have hp' := hp
  simp only [payB,Bool.and_eq_true] at hp'
  obtain ⟨N,hN,h1,h2,h3,h4⟩ := valid_nat ((validB_eq n l).1 hp'.1)
  have h5 : 2 ≤ l.length := by
   rw [h3]
   exact Nat.le_trans (by decide) (Nat.pow_le_pow_right (n := 2) (by decide) h1)
  have hi := impl_exs n l x 1 (l.length - 2) (IntKind.i64.wrap ((l.length : Int) - 2)) (by rw [w64' (by omega) (by omega)]; omega) (by omega) hp hl hx
  simp only [Int.natCast_one] at hi
  rw [spec_all n l x hp hl hx,hi]
  have hle := exs_length l x 1 (l.length - 2)
  rcases hq : exs l x 1 (l.length - 2) with ⟨ok,e⟩
  rw [hq] at hle
  simp only [Option.bind_some] at hle ⊢
  cases ok with
  | false => exact ⟨rfl,rfl⟩
  | true =>
   by_cases he : e.length = 0
   ·have e1 : ((e.length : Int) == 0) = true := by simp [he]
    have e2 : (e.length == 0) = true := by simp [he]
    rw [e1,e2]
    exact ⟨rfl,rfl⟩
   ·have e1 : ((e.length : Int) == 0) = false := by
     rw [beq_eq_false_iff_ne]
     omega
    have e2 : (e.length == 0) = false := by
     rw [beq_eq_false_iff_ne]
     exact he
    have hle' : e.length ≤ 1048576 := by omega
    simp only [Bool.not_true,cond_false,e1,e2,Bool.not_false,Bool.and_self,cond_true]
    rw [impl_max e hle' (by omega),grd_pos (by omega),spec_max e hle',Option.bind_some,Option.bind_some]
    dsimp only
    rw [eql_step,spec_eql e hle' (maxF e e.length)]
    exact ⟨rfl,rfl⟩
theorem maxF_val {e : List Q} : ∀ k,1 ≤ k → (∀ i,i < k → vq (e.getD i ⟨0,0⟩)) → vq (maxF e k) ∧ (∃ i,i < k ∧ maxF e k = e.getD i ⟨0,0⟩) ∧ ∀ i,i < k → qg e i ≤ qr (maxF e k)
 | 0,h,_ => by omega
 | 1,_,hv => by
  rw [maxF_one]
  refine ⟨hv 0 (by omega),⟨0,by omega,rfl⟩,fun i hi => ?_⟩
  rw [show i = 0 by omega]
  exact Rat.le_refl
 | k + 2,_,hv => by
  obtain ⟨h1,⟨i0,h2,h3⟩,h4⟩ := maxF_val (e := e) (k + 1) (by omega) fun i hi => hv i (by omega)
  have hk := hv (k + 1) (by omega)
  have em : maxF e (k + 2) = if cmpQ (e.getD (k + 1) ⟨0,0⟩).num (e.getD (k + 1) ⟨0,0⟩).den (maxF e (k + 1)).num (maxF e (k + 1)).den > 0 then e.getD (k + 1) ⟨0,0⟩ else maxF e (k + 1) := rfl
  rw [em]
  have hc := cmpQ_pos hk h1
  by_cases h : cmpQ (e.getD (k + 1) ⟨0,0⟩).num (e.getD (k + 1) ⟨0,0⟩).den (maxF e (k + 1)).num (maxF e (k + 1)).den > 0
  ·rw [if_pos h]
   have hlt : qr (maxF e (k + 1)) < qg e (k + 1) := hc.1 h
   refine ⟨hk,⟨k + 1,by omega,rfl⟩,fun i hi => ?_⟩
   show qg e i ≤ qg e (k + 1)
   by_cases hi2 : i < k + 1
   ·have := h4 i hi2
    grind
   ·rw [show i = k + 1 by omega]
    exact Rat.le_refl
  ·rw [if_neg h]
   refine ⟨h1,⟨i0,by omega,h3⟩,fun i hi => ?_⟩
   by_cases hi2 : i < k + 1
   ·exact h4 i hi2
   ·rw [show i = k + 1 by omega]
    exact Rat.not_lt.1 fun hlt => h (hc.2 hlt)
theorem worst_val {N : Nat} {l : List Int} {x : List Q} {a b : Int} {r : List Int} (h : wsF (N : Int) l x = (a,b,true,r)) : validB (N : Int) l = true ∧ x.length = N ∧ pS x (l.length - 1) = ((l.getD (l.length - 1) 0 : Int) : Rat) ∧ validQ a b = true ∧ (∀ s,1 ≤ s → s < l.length - 1 → ((l.getD s 0 : Int) : Rat) - pS x s ≤ rv a b) ∧ ∃ s,1 ≤ s ∧ s < l.length - 1 ∧ ((l.getD s 0 : Int) : Rat) - pS x s = rv a b := by
 unfold wsF at h
 cases hc : (payB (N : Int) l x && ((exs l x 1 (l.length - 2)).1 && !((exs l x 1 (l.length - 2)).2.length == 0))) with
 | false =>
  rw [hc,cond_false] at h
  exact absurd (show false = true from congrArg (fun t => t.2.2.1) h) (by decide)
 | true =>
  rw [hc,cond_true] at h
  simp only [Bool.and_eq_true,Bool.not_eq_true',beq_eq_false_iff_ne] at hc
  obtain ⟨h1,h2,h3⟩ := hc
  unfold payB at h1
  simp only [Bool.and_eq_true,beq_iff_eq,decide_eq_true_eq] at h1
  obtain ⟨p1,p2,p3,p4⟩ := h1
  have hfull : pS x (l.length - 1) = ((l.getD (l.length - 1) 0 : Int) : Rat) := by
   have := (shareF_val p4).2
   rw [rv_int] at this
   exact this.symm
  unfold exs at h h2 h3
  by_cases hall : (List.range (l.length - 2)).all (fun i => exOk l x (1 + i)) = true
  ·rw [if_pos hall] at h h3
   dsimp only at h h3
   rw [tab_length] at h h3
   have hex : ∀ i,i < l.length - 2 → vq ((tab (fun i => exQ l x (1 + i)) (l.length - 2)).getD i ⟨0,0⟩) ∧ qg (tab (fun i => exQ l x (1 + i)) (l.length - 2)) i = ((l.getD (1 + i) 0 : Int) : Rat) - pS x (1 + i) := fun i hi => by
    have ok := (all_iff _ _).1 hall i hi
    unfold qg
    rw [tab_getD _ _ _ _ hi]
    unfold exOk at ok
    unfold exQ
    rcases he : excessF l x (1 + i) with ⟨u,w,o⟩
    rw [he] at ok
    dsimp only at ok
    subst ok
    exact excess_val he
   obtain ⟨m1,⟨i0,m2,m3⟩,m4⟩ := maxF_val (e := tab (fun i => exQ l x (1 + i)) (l.length - 2)) (l.length - 2) (by omega) fun i hi => (hex i hi).1
   simp only [Prod.mk.injEq] at h
   obtain ⟨e1,e2,_⟩ := h
   have er : qr (maxF (tab (fun i => exQ l x (1 + i)) (l.length - 2)) (l.length - 2)) = rv a b := by
    unfold qr
    rw [e1,e2]
   refine ⟨p1,by omega,hfull,?_,fun s hs1 hs2 => ?_,1 + i0,by omega,by omega,?_⟩
   ·unfold vq at m1
    rw [e1,e2] at m1
    exact m1
   ·have h4 := m4 (s - 1) (by omega)
    rw [er,(hex (s - 1) (by omega)).2,show 1 + (s - 1) = s by omega] at h4
    exact h4
   ·rw [← er,m3,← (hex i0 m2).2]
    rfl
  ·rw [if_neg hall] at h2
   exact absurd h2 (by decide)
theorem worst_of {N D : Nat} {l : List Int} {x : List Q} {M : Int} (hv : validB (N : Int) l = true) (h3 : 3 ≤ l.length) (p : PtD x N D M) (hsum : sR (qg x) N = ((l.getD (l.length - 1) 0 : Int) : Rat)) : ∃ a b r,wsF (N : Int) l x = (a,b,true,r) := by
 have hV := (validB_eq _ l).1 hv
 obtain ⟨N',hN',h1,h2,h4,h5⟩ := valid_nat hV
 have hNN : N' = N := by omega
 subst hNN
 have hg := val_all hV (l.length - 1)
 have hpay : payB (N' : Int) l x = true := by
  unfold payB
  simp only [Bool.and_eq_true,beq_iff_eq,decide_eq_true_eq]
  have hlen := p.len
  refine ⟨hv,by omega,(all_iff _ _).2 fun i hi => p.v i (by omega),?_⟩
  obtain ⟨u,w,hu,_⟩ := pt_share p (l.length - 1) (by omega)
  obtain ⟨e1,e2⟩ := shareF_val hu
  obtain ⟨rfl,rfl⟩ := rv_inj e1 (validQ_int (v := l.getD (l.length - 1) 0) (by omega)) (by rw [e2,h4,pS_full h2,hsum,← h4,rv_int])
  exact hu
 have hall : (List.range (l.length - 2)).all (fun i => exOk l x (1 + i)) = true := (all_iff _ _).2 fun i hi => by
  obtain ⟨a,b,he,_⟩ := pt_excess p (val_all hV) (1 + i) (by omega)
  unfold exOk
  rw [he]
 unfold wsF exs
 rw [hpay,if_pos hall]
 dsimp only
 rw [tab_length]
 have e2 : (l.length - 2 == 0) = false := by
  rw [beq_eq_false_iff_ne]
  omega
 rw [e2]
 exact ⟨_,_,_,rfl⟩
theorem comp_bit : ∀ N : Fin 6,∀ i k : Fin 5,i.val < N.val → k.val < N.val → (2 ^ N.val - 1 - 2 ^ i.val).testBit k.val = decide (k ≠ i) := by decide +kernel
theorem least_v {N m : Nat} {l : List Int} (h2 : 2 ≤ N) (hv : ∀ i,-500 ≤ l.getD i 0 ∧ l.getD i 0 ≤ 500) {vn vd : Int} {X Y : List Q} (h5 : N ≤ 5) (hm : m + 2 = 2 ^ N) (e : LeastE N m l vn vd X Y) : -(1000 : Rat) ≤ rv vn vd ∧ rv vn vd ≤ 1000 := by
 have cst : ∀ i,-(500 : Rat) ≤ ((l.getD i 0 : Int) : Rat) ∧ ((l.getD i 0 : Int) : Rat) ≤ 500 := fun i => by
  obtain ⟨a1,a2⟩ := hv i
  have b1 : ((-500 : Int) : Rat) ≤ ((l.getD i 0 : Int) : Rat) := Rat.intCast_le_intCast.2 a1
  have b2 : ((l.getD i 0 : Int) : Rat) ≤ ((500 : Int) : Rat) := Rat.intCast_le_intCast.2 a2
  have c1 : ((-500 : Int) : Rat) = -500 := rfl
  have c2 : ((500 : Int) : Rat) = 500 := rfl
  rw [c1] at b1
  rw [c2] at b2
  constructor <;> grind
 have hz : qg X m ≤ 1 := by
  rw [← e.xr 0 (by omega),← e.x1]
  refine sR_le fun j hj => ?_
  have a := (ag_bal01 N (m + 1) 0 j (by omega) (by omega)).2
  have := Rat.mul_le_mul_of_nonneg_right a (e.x0 j (by omega))
  rw [Rat.one_mul] at this
  exact this
 have hz0 := e.x0 m (by omega)
 obtain ⟨s1,s2⟩ := abs_sum (c := fun j => ((l.getD (j + 1) 0 : Int) : Rat)) (x := fun j => qg X j) (M := 500) (n := m) (by grind) (fun j _ => cst (j + 1)) fun j hj => e.x0 j (by omega)
 have ex : sR (fun j => qg X j) m = 1 := e.x1
 rw [ex] at s1 s2
 have g := cst (m + 1)
 have k1 := Rat.mul_le_mul_of_nonneg_right g.1 hz0
 have k2 := Rat.mul_le_mul_of_nonneg_right g.2 hz0
 rw [e.vx]
 constructor <;> grind
theorem least_y {N m : Nat} {l : List Int} (h2 : 2 ≤ N) (h5 : N ≤ 5) (hm : m + 2 = 2 ^ N) (hv : ∀ i,-500 ≤ l.getD i 0 ∧ l.getD i 0 ≤ 500) {vn vd : Int} {X Y : List Q} (e : LeastE N m l vn vd X Y) (i : Nat) (hi : i < N) : -(2000 : Rat) ≤ qg Y i ∧ qg Y i ≤ 2000 := by
 have cst : ∀ i,-(500 : Rat) ≤ ((l.getD i 0 : Int) : Rat) ∧ ((l.getD i 0 : Int) : Rat) ≤ 500 := fun i => by
  obtain ⟨a1,a2⟩ := hv i
  have b1 : ((-500 : Int) : Rat) ≤ ((l.getD i 0 : Int) : Rat) := Rat.intCast_le_intCast.2 a1
  have b2 : ((l.getD i 0 : Int) : Rat) ≤ ((500 : Int) : Rat) := Rat.intCast_le_intCast.2 a2
  have c1 : ((-500 : Int) : Rat) = -500 := rfl
  have c2 : ((500 : Int) : Rat) = 500 := rfl
  rw [c1] at b1
  rw [c2] at b2
  constructor <;> grind
 have vb := least_v h2 hv h5 hm e
 have hp : 0 < 2 ^ i := Nat.pow_pos (by decide)
 have hlt : 2 ^ (i + 1) ≤ 2 ^ N := Nat.pow_le_pow_right (by decide) hi
 rw [Nat.pow_succ] at hlt
 have h4 : 2 ^ 2 ≤ 2 ^ N := Nat.pow_le_pow_right (by decide) h2
 constructor
 ·have hj : 2 ^ N - 1 - 2 ^ i - 1 < m := by omega
  have h := e.dom (2 ^ N - 1 - 2 ^ i - 1) hj
  have es : sR (fun k => ag (balA N (m + 1)) k (2 ^ N - 1 - 2 ^ i - 1) * qg Y k) N = sR (fun k => if k = i then 0 else qg Y k) N := sR_ext fun k hk => by
   rw [ag_bal N (m + 1) k _ hk (by omega),Nat.sub_add_cancel (by omega)]
   have := comp_bit ⟨N,by omega⟩ ⟨i,by omega⟩ ⟨k,by omega⟩ hi hk
   dsimp only at this
   rw [this]
   by_cases hki : k = i
   ·subst hki
    rw [if_neg (by simp),if_pos rfl,Rat.zero_mul]
   ·rw [if_pos (by simp only [decide_eq_true_eq]; exact fun h => hki (congrArg Fin.val h)),if_neg hki,Rat.one_mul]
  rw [es] at h
  have hs := sR_split (f := qg Y) i hi
  rw [e.su] at hs
  have c1 := cst (2 ^ N - 1 - 2 ^ i - 1 + 1)
  have c2 := cst (m + 1)
  grind
 ·have hj : 2 ^ i - 1 < m := by omega
  have h := e.dom (2 ^ i - 1) hj
  rw [sR_single (k := i) hi fun k hk hne => by
   rw [ag_bal N (m + 1) k _ hk (by omega),Nat.sub_add_cancel (by omega),Nat.testBit_two_pow,if_neg (by simp only [decide_eq_true_eq]; omega),Rat.zero_mul]] at h
  rw [ag_bal N (m + 1) i _ hi (by omega),Nat.sub_add_cancel (by omega),Nat.testBit_two_pow,if_pos (by simp)] at h
  have c1 := cst (2 ^ i)
  grind
theorem least_weak {N m : Nat} {l : List Int} (h5 : N ≤ 5) (hm : m + 2 = 2 ^ N) (hl : l.length = m + 2) {vn vd : Int} {X Y : List Q} (e : LeastE N m l vn vd X Y) {x : List Q} {a b : Int} {r : List Int} (h : wsF (N : Int) l x = (a,b,true,r)) : -rv vn vd ≤ rv a b := by
 obtain ⟨_,w2,w3,w4,w5,_⟩ := worst_val h
 rw [show l.length - 1 = m + 1 by omega] at w3 w5
 have hfull : pS x (m + 1) = sR (qg x) N := by
  rw [show m + 1 = 2 ^ N - 1 by omega]
  exact pS_full h5
 have hle : sR (fun j => (((l.getD (j + 1) 0 : Int) : Rat) - pS x (j + 1)) * qg X j) m ≤ sR (fun j => rv a b * qg X j) m := sR_le fun j hj => Rat.mul_le_mul_of_nonneg_right (w5 (j + 1) (by omega) (by omega)) (e.x0 j (by omega))
 have e1 : sR (fun j => rv a b * qg X j) m = rv a b := by
  rw [sR_mul]
  have : sR (fun j => qg X j) m = 1 := e.x1
  rw [this,Rat.mul_one]
 have e2 : sR (fun j => (((l.getD (j + 1) 0 : Int) : Rat) - pS x (j + 1)) * qg X j) m = sR (fun j => ((l.getD (j + 1) 0 : Int) : Rat) * qg X j) m - sR (fun j => pS x (j + 1) * qg X j) m := by
  rw [← sR_sub]
  exact sR_ext fun j _ => by grind
 have e3 : sR (fun j => pS x (j + 1) * qg X j) m = ((l.getD (m + 1) 0 : Int) : Rat) * qg X m := by
  have q1 : sR (fun j => pS x (j + 1) * qg X j) m = sR (fun j => sR (fun i => qg x i * (ag (balA N (m + 1)) i j * qg X j)) N) m := sR_ext fun j hj => by
   rw [pS_ag h5 (m := m + 1) hm (by omega : j < m + 1),← sR_mulr]
   exact sR_ext fun i _ => by grind
  rw [q1,sR_comm]
  have q2 : sR (fun i => sR (fun j => qg x i * (ag (balA N (m + 1)) i j * qg X j)) m) N = sR (fun i => qg x i * qg X m) N := sR_ext fun i hi => by rw [sR_mul,e.xr i hi]
  rw [q2,sR_mulr,← w3,hfull]
 rw [e1,e2,e3] at hle
 rw [e.vx]
 grind
theorem least_worst {N m : Nat} {l : List Int} (hv : validB (N : Int) l = true) (h2 : 2 ≤ N) (h5 : N ≤ 5) (hm : m + 2 = 2 ^ N) (hl : l.length = m + 2) {vn vd : Int} {X Y : List Q} (e : LeastE N m l vn vd X Y) : ∃ r,wsF (N : Int) l (nqs Y N) = (-vn,vd,true,r) := by
 have hV := val_all ((validB_eq _ l).1 hv)
 obtain ⟨D,d1,d2,d3⟩ := e.den
 have hyl := e.yl
 have hPq : ∀ i,i < N → qg (nqs Y N) i = -qg Y i := fun i hi => by
  unfold qg
  rw [nqs_at Y N i hi,(nq_val (e.yv i hi)).2]
 have c2 : ((2000 : Int) : Rat) = 2000 := rfl
 have h4 : 2 ^ 2 ≤ 2 ^ N := Nat.pow_le_pow_right (by decide) h2
 have hpt : PtD (nqs Y N) N D 2000 := by
  refine ⟨nqs_length _ _,fun i hi => ?_,fun i hi => ?_,fun i hi => ?_,by decide,by omega,by omega⟩
  ·rw [nqs_at Y N i hi]
   exact (nq_val (e.yv i hi)).1
  ·obtain ⟨z,hz⟩ := d3 i hi
   refine ⟨-z,?_⟩
   rw [hPq i hi,Rat.intCast_neg,← hz]
   grind
  ·have := least_y h2 h5 hm hV e i hi
   rw [hPq i hi,c2]
   constructor <;> grind
 have hneg : ∀ f : Nat → Rat,sR (fun i => f i * qg (nqs Y N) i) N = -sR (fun i => f i * qg Y i) N := fun f => by
  have q : sR (fun i => f i * qg (nqs Y N) i) N = sR (fun i => (-1) * (f i * qg Y i)) N := sR_ext fun i hi => by
   rw [hPq i hi]
   grind
  rw [q,sR_mul]
  grind
 have hsum : sR (qg (nqs Y N)) N = ((l.getD (l.length - 1) 0 : Int) : Rat) := by
  have q : sR (qg (nqs Y N)) N = sR (fun i => (-1) * qg Y i) N := sR_ext fun i hi => by
   rw [hPq i hi]
   grind
  have q2 : sR (fun i => qg Y i) N = sR (qg Y) N := rfl
  rw [q,sR_mul,q2,e.su,show l.length - 1 = m + 1 by omega]
  grind
 obtain ⟨a,b,r,hw⟩ := worst_of hv (by omega) hpt hsum
 have hge := least_weak h5 hm hl e hw
 obtain ⟨_,_,_,w4,_,⟨s,s1,s2,s3⟩⟩ := worst_val hw
 have hle : rv a b ≤ -rv vn vd := by
  rw [← s3]
  have h := e.dom (s - 1) (by omega)
  rw [show s - 1 + 1 = s by omega] at h
  have hp := pS_ag (x := nqs Y N) h5 (m := m + 1) hm (by omega : s - 1 < m + 1)
  rw [show s - 1 + 1 = s by omega] at hp
  rw [hp,hneg fun i => ag (balA N (m + 1)) i (s - 1)]
  grind
 have heq : rv a b = rv (-vn) vd := by
  rw [rv_neg]
  grind
 obtain ⟨rfl,rfl⟩ := rv_inj w4 (by rw [validQ_neg]; exact e.v) heq
 exact ⟨r,hw⟩
theorem least_check {N m : Nat} {l : List Int} (hv : validB (N : Int) l = true) (h2 : 2 ≤ N) (hl : l.length = m + 2) {vn vd p : Int} {X Y R : List Q} (hs : slpF (leastA N m) (leastB N) (leastC l m) = (1,vn,vd,p,X,Y,R)) : m_impl_CheckLeastCore (N : Int) l true (-vn) vd (nqs Y N) X = some true := by
 have hV := (validB_eq _ l).1 hv
 obtain ⟨N',hN',h1,h3,h4,h5⟩ := valid_nat hV
 have hNN : N' = N := by omega
 subst hNN
 have hm : m + 2 = 2 ^ N' := by omega
 have e := least_end h2 h3 hm hs
 obtain ⟨r,hw⟩ := least_worst hv h2 h3 hm hl e
 obtain ⟨l1,l2,l3,l4⟩ := least_lens N' m l h3 (by omega)
 have hx := e.xl
 have vb := validQ_bd e.v
 unfold m_impl_CheckLeastCore
 rw [impl_least N' m l hv h2 hl,(worst_eq _ l (nqs Y N') (by omega) (by rw [nqs_length]; omega)).2,hw]
 simp only [Option.bind_some]
 rw [impl_feas _ _ _ X l1 l2 l3 l4 (by omega),impl_dot _ X l4,e.fe,e.dx]
 unfold m_impl_minus
 simp only [Option.bind_some,Bool.not_true,cond_false,cond_true,beq_self_eq_true,Bool.and_self]
 rw [w64' (by omega) (by omega),Int.zero_sub,Int.neg_neg,beq_self_eq_true]
 rfl
theorem flc_all (n : Int) (l : List Int) (hl : l.length ≤ 1048576) : ∃ b vn vd P W,(P.length ≤ 1000 ∧ W.length ≤ 1000) ∧ m_spec_FindLeastCore n l = some (b,vn,vd,P,W) ∧ m_impl_FindLeastCore n l = some (b,vn,vd,P,W) ∧ (b = true → m_impl_CheckLeastCore n l b vn vd P W = some true ∧ ∀ x a c r,wsF n l x = (a,c,true,r) → cmpQ vn vd a c ≤ 0) := by
 by_cases h0 : validB n l = false ∨ n < 2
 ·obtain ⟨e1,e2⟩ := least0 n l hl h0
  refine ⟨false,0,0,[],[],by simp,?_,?_,fun h => by cases h⟩
  ·unfold m_spec_FindLeastCore
   rw [e1]
   rfl
  ·unfold m_impl_FindLeastCore
   rw [e2]
   rfl
 ·have hv : validB n l = true := by
   cases h : validB n l with
   | true => rfl
   | false => exact absurd (.inl h) h0
  have hn : ¬ n < 2 := fun h => h0 (.inr h)
  obtain ⟨N,rfl,h1,h2,h3,h4⟩ := valid_nat ((validB_eq n l).1 hv)
  have h5 : 4 ≤ l.length := by
   rw [h3]
   exact Nat.le_trans (by decide) (Nat.pow_le_pow_right (n := 2) (by decide) (show 2 ≤ N by omega))
  have hm : l.length = (l.length - 2) + 2 := by omega
  obtain ⟨e1,e2⟩ := least_two N (l.length - 2) l hv (by omega) hm
  have hlen := flc_len N (l.length - 2) l h2
  rcases hf : flcF N (l.length - 2) l with ⟨b,vn,vd,P,W⟩
  rw [hf] at e1 e2 hlen
  refine ⟨b,vn,vd,P,W,hlen,e1,e2,fun hb => ?_⟩
  subst hb
  unfold flcF at hf
  rcases hs : slpF (leastA N (l.length - 2)) (leastB N) (leastC l (l.length - 2)) with ⟨st,an,ad,p,X,Y,R⟩
  rw [hs] at hf
  dsimp only at hf
  cases hst : (st != 1) with
  | true =>
   rw [hst,cond_true] at hf
   exact absurd (show false = true from congrArg Prod.fst hf) (by decide)
  | false =>
   rw [hst,cond_false] at hf
   have hst : st = 1 := by simpa using hst
   subst hst
   simp only [Prod.mk.injEq] at hf
   obtain ⟨_,rfl,rfl,rfl,rfl⟩ := hf
   have e := least_end (by omega) h2 (by omega) hs
   refine ⟨least_check hv (by omega) hm hs,fun x a c r hw => ?_⟩
   have := least_weak h2 (by omega) hm e hw
   obtain ⟨_,_,_,w4,_⟩ := worst_val hw
   have hc := cmpQ_pos (show validQ (-an) ad = true by rw [validQ_neg]; exact e.v) w4
   rw [rv_neg] at hc
   by_cases hp : 0 < cmpQ (-an) ad a c
   ·have := hc.1 hp
    exfalso
    grind
   ·omega
theorem least_lp (n : Int) (l : List Int) (hl : l.length ≤ 1048576) : ∃ b A B C,m_laws_sameLP A B C A B C = some true ∧ m_spec_LeastLP n l = some (b,A,B,C) ∧ m_impl_LeastLP n l = some (b,A,B,C) := by
 by_cases h0 : validB n l = false ∨ n < 2
 ·obtain ⟨e1,e2⟩ := least0 n l hl h0
  exact ⟨false,[],[],[],lp_self [] [] [] (by simp) (fun i hi => by simp at hi) (by simp) (by simp),e1,e2⟩
 ·have hv : validB n l = true := by
   cases h : validB n l with
   | true => rfl
   | false => exact absurd (.inl h) h0
  have hn : ¬ n < 2 := fun h => h0 (.inr h)
  obtain ⟨N,rfl,h1,h2,h3,h4⟩ := valid_nat ((validB_eq n l).1 hv)
  have h5 : 4 ≤ l.length := by
   rw [h3]
   exact Nat.le_trans (by decide) (Nat.pow_le_pow_right (n := 2) (by decide) (show 2 ≤ N by omega))
  have hm : l.length = (l.length - 2) + 2 := by omega
  obtain ⟨l1,l2,l3,l4⟩ := least_lens N (l.length - 2) l h2 (by omega)
  exact ⟨true,_,_,_,lp_self _ _ _ l1 l2 l3 l4,spec_least N _ l hv (by omega) hm,impl_least N _ l hv (by omega) hm⟩
theorem new5b (a : Int) (b : List Int) (d : Bool) (d1 d2 : Int) (e f : List Q) (c : List UInt8) : ∃ h,m_spec_l1New_io5 a b d d1 d2 e f c = some (c,0,h,b,e,f,a,d,d1,d2) := by
 obtain ⟨h,k⟩ := new_loop c (IntKind.i64.wrap ((26583 : Int) + (c.length : Int)))
 have e0 : l_spec_l1New_io5_0 c = l_spec_l1New_io2_0 c := rfl
 exact ⟨h,by unfold m_spec_l1New_io5; rw [e0,k]; rfl⟩
theorem draw_clc (c : List UInt8) (hc : c.length ≤ 1048576) : ∃ n o a b l p w,m_spec_DrawCheckLeastCore c = some (n,o,a,b,l,p,w) ∧ l.length ≤ 17 ∧ p.length ≤ 1000 ∧ w.length ≤ 1000 := by
 unfold m_spec_DrawCheckLeastCore
 obtain ⟨h,e⟩ := new5b 0 [] false 0 0 [] [] c
 rw [e,Option.bind_some]
 dsimp only
 obtain ⟨n,l,i1,h1,b1,b2,b3,b4⟩ := bent_ok c 0 h hc (Int.le_refl 0)
 rw [b1,Option.bind_some]
 dsimp only
 obtain ⟨o,vn,vd,P,W,⟨p1,p2⟩,f1,_⟩ := flc_all n l (by omega)
 rw [f1,Option.bind_some]
 dsimp only
 obtain ⟨x,i2,h2,c1,c2,c3⟩ := below_ok c i1 h1 8 hc b4 (by decide)
 rw [c1,Option.bind_some]
 dsimp only
 cases x == 0 with
 | true =>
  obtain ⟨y,z,i3,h3,d1,d2⟩ := l3draw_ok c i2 h2 hc c3
  rw [cond_true,d1,Option.bind_some]
  exact ⟨_,_,_,_,_,_,_,rfl,by omega,p1,p2⟩
 | false =>
  rw [cond_false]
  cases x == 1 with
  | true =>
   rw [cond_true]
   by_cases hp : (P.length : Int) > 0
   ·rw [decide_eq_true hp,cond_true,grd_pos ⟨Int.le_refl 0,hp⟩]
    unfold m_spec_l3Int
    rw [Option.bind_some]
    dsimp only
    rw [spec_add,Option.bind_some]
    rcases addQ (P.getD (0 : Int).toNat ⟨0,0⟩).num (P.getD (0 : Int).toNat ⟨0,0⟩).den 1 1 with ⟨a,b,o2⟩
    dsimp only
    rw [grd_pos ⟨Int.le_refl 0,hp⟩]
    exact ⟨_,_,_,_,_,_,_,rfl,by omega,by rw [List.length_set]; exact p1,p2⟩
   ·rw [decide_eq_false hp,cond_false]
    exact ⟨_,_,_,_,_,_,_,rfl,by omega,p1,p2⟩
  | false =>
   rw [cond_false]
   cases x == 2 with
   | true =>
    rw [cond_true]
    by_cases hp : (W.length : Int) > 0
    ·obtain ⟨a,b,i3,h3,d1,d2⟩ := l3draw_ok c i2 h2 hc c3
     rw [decide_eq_true hp,cond_true,d1,Option.bind_some]
     dsimp only
     rw [grd_pos ⟨Int.le_refl 0,hp⟩]
     exact ⟨_,_,_,_,_,_,_,rfl,by omega,p1,by rw [List.length_set]; exact p2⟩
    ·rw [decide_eq_false hp,cond_false]
     exact ⟨_,_,_,_,_,_,_,rfl,by omega,p1,p2⟩
   | false => exact ⟨_,_,_,_,_,_,_,rfl,by omega,p1,p2⟩
theorem eql_self (o : Bool) (a b : Int) (p w : List Q) (hp : p.length ≤ 1048576) (hw : w.length ≤ 1048576) : m_impl_EqualLeast o a b p w o a b p w = some true := by
 unfold m_impl_EqualLeast
 rw [slices_eqv,slices_eqv,spec_eqv p p hp,spec_eqv w w hw,decide_eq_true rfl,decide_eq_true rfl]
 simp
theorem law_FnLeastCore (c : List UInt8) (_ : c.length ≤ maxLen) : m_laws_FnLeastCore c = some true := by
 unfold m_laws_FnLeastCore m_laws_big m_spec_DrawWorstExcess
 by_cases hb : (c.length : Int) > 1048576
 ·rw [decide_eq_true hb]; rfl
 have hd : ∃ n l,m_spec_DrawFindLeastCore c = some (n,l) ∧ l.length ≤ 17 := by
  unfold m_spec_DrawFindLeastCore
  obtain ⟨h,e⟩ := new2 0 [] c
  rw [e,Option.bind_some]
  dsimp only
  obtain ⟨n,l,i',h',b1,_,b3,_⟩ := bent_ok c 0 h (by omega) (Int.le_refl 0)
  rw [b1,Option.bind_some]
  exact ⟨_,_,rfl,b3.2⟩
 obtain ⟨n,l,hd,hl17⟩ := hd
 obtain ⟨n2,o2,a2,b2,l2,p2,w2,hd2,t1,t2,t3⟩ := draw_clc c (by omega)
 obtain ⟨n3,l3,x3,hd3,t4,t5,_⟩ := args_ok c (by omega)
 obtain ⟨o,vn,vd,P,W,⟨g1,g2⟩,f1,f2,f3⟩ := flc_all n l (by omega)
 obtain ⟨o3,vn3,vd3,P3,W3,_,f4,_,f5⟩ := flc_all n3 l3 (by omega)
 obtain ⟨b,A,B,C,j0,j1,j2⟩ := least_lp n l (by omega)
 obtain ⟨r,k1,k2⟩ := checkleast_both n2 l2 o2 a2 b2 p2 w2 (by omega) (by omega) (by omega)
 have ws := (worst_eq n3 l3 x3 (by omega) t5).1
 rcases hw : wsF n3 l3 x3 with ⟨wa,wb,wo,wr⟩
 rw [hw] at ws
 have last : (bif !wo then (some true) else (bif !o3 then (some true) else ((m_impl_CompareRat vn3 vd3 wa wb).bind fun v46 => some (decide (v46 ≤ (0 : Int)))))) = some true := by
  cases wo with
  | false => rfl
  | true =>
   cases o3 with
   | false => rfl
   | true =>
    have := (f5 rfl).2 x3 wa wb wr hw
    rw [impl_cmp,Option.bind_some,decide_eq_true this]
    rfl
 rw [decide_eq_false hb,Option.bind_some,cond_false,hd,Option.bind_some]
 dsimp only
 rw [f2,f1,Option.bind_some,Option.bind_some]
 dsimp only
 rw [eql_self o vn vd P W (by omega) (by omega),Option.bind_some,Bool.not_true,cond_false,j1,j2,hd2,hd3]
 simp only [Option.bind_some]
 rw [bne_self_eq_false,cond_false,j0,k1,k2]
 simp only [Option.bind_some]
 rw [bne_self_eq_false,cond_false,Bool.not_true,cond_false,ws,f4]
 simp only [Option.bind_some]
 rw [last]
 cases o with
 | false => rfl
 | true =>
  rw [(f3 rfl).1]
  rfl
end Go.Proofs.YtjnbmknniadbpaaGreat
