/- The plain laws: what the models of FnSimplex compute. No condition beyond those that each theorem names. -/
import Derived.Test.YtbkpiknmlomjnaaGreatGSimplexq
import Derived.Test.YtbkpiknmlomjnaaGreatAmC
namespace Go.Proofs.YtbkpiknmlomjnaaGreat
open Go.AM
theorem in_eq (a b c : Int) : m_spec_l1In a b c = some (decide (b ≤ a ∧ a ≤ c)) := by
 unfold m_spec_l1In
 by_cases h : a ≥ b
 ·have h' : b ≤ a := h
  simp [h,h']
 ·have h' : ¬ b ≤ a := h
  simp [h,h']
theorem within_eq (a b c : Int) : m_impl_within a b c = some (decide (b ≤ a ∧ a ≤ c)) := in_eq a b c
theorem iter_find {S A : Type} {step : S → Option (S ⊕ A)} (st : Nat → S) (n : Nat) (p : Nat → Bool) (a : A) (b : Nat → A)
  (hs : ∀ i,i < n → step (st i) = some (if p i = true then .inr (b i) else .inl (st (i + 1)))) (hd : step (st n) = some (.inr a)) :
  iter step (st 0) = some (match (List.range n).find? p with
   | some i => b i
   | none => a) := by
 have key : ∀ k,k ≤ n → iter step (st (n - k)) = some (match (List.range' (n - k) k).find? p with
   | some i => b i
   | none => a) := by
  intro k
  induction k with
  | zero => intro _; simpa using iter_done hd
  | succ k ih =>
   intro hk
   have h1 := hs (n - (k + 1)) (by omega)
   rw [List.range'_succ,List.find?_cons]
   cases hp : p (n - (k + 1)) with
   | true =>
    rw [if_pos hp] at h1
    exact iter_done h1
   | false =>
    rw [if_neg (by simp [hp])] at h1
    rw [iter_next h1,show n - (k + 1) + 1 = n - k by omega]
    exact ih (by omega)
 have := key n (Nat.le_refl _)
 rw [Nat.sub_self,← List.range_eq_range'] at this
 exact this
def tab {α : Type} (f : Nat → α) (n : Nat) : List α := (List.range n).map f
theorem tab_succ {α : Type} (f : Nat → α) (n : Nat) : tab f (n + 1) = tab f n ++ [f n] := by simp [tab,List.range_succ]
theorem tab_length {α : Type} (f : Nat → α) (n : Nat) : (tab f n).length = n := by simp [tab]
theorem tab_getD {α : Type} (f : Nat → α) (n : Nat) (d : α) (i : Nat) (h : i < n) : (tab f n).getD i d = f i := by
 simp [tab,List.getD,List.getElem?_map,List.getElem?_range h]
theorem tab_self {α : Type} (l : List α) (d : α) : tab (fun i => l.getD i d) l.length = l := by
 apply List.ext_getElem (by simp [tab])
 intro i h1 h2
 simp [tab,List.getD,List.getElem?_eq_getElem h2]
theorem tab_ext {α : Type} {f g : Nat → α} {n : Nat} (h : ∀ i,i < n → f i = g i) : tab f n = tab g n := by
 apply List.ext_getElem (by simp [tab])
 intro i h1 h2
 simp only [tab,List.length_map,List.length_range] at h1
 simp [tab,h i h1]
def sm (f : Nat → Int) : Nat → Int
 | 0 => 0
 | n + 1 => sm f n + f n
theorem set_tab {α : Type} (f : Nat → α) (l : List α) (i : Nat) (h : i < l.length) : (tab f i ++ l.drop i).set i (f i) = tab f (i + 1) ++ l.drop (i + 1) := by
 rw [List.set_append]
 have h1 : ¬ i < (tab f i).length := by rw [tab_length]; omega
 rw [if_neg h1,tab_length,Nat.sub_self,tab_succ,List.drop_eq_getElem_cons h]
 simp only [List.set_cons_zero,List.append_assoc,List.singleton_append]
theorem getD_nat {α : Type} (l : List α) (i : Nat) (d : α) : l.getD (i : Int).toNat d = l.getD i d := by rw [Int.toNat_natCast]
def validQ (a b : Int) : Bool := decide (1 ≤ b ∧ b ≤ 1000000000 ∧ -1000000000 ≤ a ∧ a ≤ 1000000000 ∧ Int.gcd a b = 1)
theorem gcd_loop (m n : Nat) : iter l_spec_l3Gcd_0 ((m : Int),(n : Int)) = some ((Nat.gcd m n : Nat) : Int) := by
 induction n using Nat.strongRecOn generalizing m with
 | _ n ih =>
  by_cases h : n = 0
  ·subst h
   rw [iter_done (a := (m : Int))]
   ·simp
   ·simp [l_spec_l3Gcd_0]
  ·have hs : l_spec_l3Gcd_0 ((m : Int),(n : Int)) = some (.inl ((n : Int),((m % n : Nat) : Int))) := by
    unfold l_spec_l3Gcd_0
    dsimp only
    rw [decide_eq_true (by omega),cond_true,grd_pos (by omega)]
    rfl
   rw [iter_next hs,ih (m % n) (Nat.mod_lt _ (by omega)) n,Nat.gcd_comm n (m % n),← Nat.gcd_rec n m,Nat.gcd_comm n m]
theorem spec_gcd (a b : Int) (ha : -9223372036854775807 ≤ a ∧ a ≤ 9223372036854775807) (hb : -9223372036854775807 ≤ b ∧ b ≤ 9223372036854775807) : m_spec_l3Gcd a b = some ((Int.gcd a b : Nat) : Int) := by
 unfold m_spec_l3Gcd
 have e1 : l_spec_l3Gcd_1 = l_spec_l3Gcd_0 := rfl
 have e2 : l_spec_l3Gcd_2 = l_spec_l3Gcd_0 := rfl
 have e3 : l_spec_l3Gcd_3 = l_spec_l3Gcd_0 := rfl
 rw [e1,e2,e3]
 have ea : (if a < 0 then IntKind.i64.wrap (0 - a) else a) = (a.natAbs : Int) := by
  by_cases h : a < 0
  ·rw [if_pos h,w64' (by omega) (by omega)]; omega
  ·rw [if_neg h]; omega
 have eb : (if b < 0 then IntKind.i64.wrap (0 - b) else b) = (b.natAbs : Int) := by
  by_cases h : b < 0
  ·rw [if_pos h,w64' (by omega) (by omega)]; omega
  ·rw [if_neg h]; omega
 have key := gcd_loop a.natAbs b.natAbs
 rw [← ea,← eb] at key
 have hg : Nat.gcd a.natAbs b.natAbs = Int.gcd a b := rfl
 rw [hg] at key
 by_cases h1 : a < 0 <;> by_cases h2 : b < 0 <;> simp only [h1,h2,if_true,if_false,decide_true,decide_false,cond_true,cond_false] at key ⊢ <;> rw [key] <;> rfl
theorem common_loop : ∀ (N : Nat) (a b : Int),b.natAbs ≤ N → ∃ x,iter l_impl_common_0 (a,b) = some x ∧ x.natAbs = Int.gcd a b := by
 intro N
 induction N with
 | zero =>
  intro a b h
  have hb : b = 0 := by omega
  subst hb
  exact ⟨a,iter_done (by simp [l_impl_common_0]),by simp⟩
 | succ N ih =>
  intro a b h
  by_cases hb : b = 0
  ·subst hb
   exact ⟨a,iter_done (by simp [l_impl_common_0]),by simp⟩
  ·have hs : l_impl_common_0 (a,b) = some (.inl (b,a.tmod b)) := by
    unfold l_impl_common_0
    have : (b != 0) = true := by simpa using hb
    dsimp only
    rw [this,cond_true,grd_pos hb]
   have hlt : (a.tmod b).natAbs < b.natAbs := by
    rw [Int.natAbs_tmod]
    exact Nat.mod_lt _ (by omega)
   obtain ⟨x,h1,h2⟩ := ih b (a.tmod b) (by omega)
   refine ⟨x,by rw [iter_next hs,h1],?_⟩
   rw [h2]
   show Nat.gcd b.natAbs (a.tmod b).natAbs = Nat.gcd a.natAbs b.natAbs
   rw [Int.natAbs_tmod,Nat.gcd_comm b.natAbs,← Nat.gcd_rec,Nat.gcd_comm]
theorem gcd_le (a b : Int) : Int.gcd a b ≤ a.natAbs ∨ Int.gcd a b ≤ b.natAbs := by
 by_cases hb : b = 0
 ·subst hb; left; simp
 ·right
  exact Nat.le_of_dvd (by omega) (Int.gcd_dvd_natAbs_right a b)
theorem impl_common (a b : Int) (ha : -9223372036854775807 ≤ a ∧ a ≤ 9223372036854775807) (hb : -9223372036854775807 ≤ b ∧ b ≤ 9223372036854775807) : m_impl_common a b = some ((Int.gcd a b : Nat) : Int) := by
 unfold m_impl_common
 obtain ⟨x,h1,h2⟩ := common_loop _ a b (Nat.le_refl _)
 have h3 := gcd_le a b
 rw [h1,Option.bind_some]
 dsimp only
 rw [w64' (by omega) (by omega)]
 congr 1
 split <;> omega
theorem spec_validRat (a b : Int) : m_spec_IsValidRat a b = some (validQ a b) := by
 unfold m_spec_IsValidRat
 rw [in_eq,Option.bind_some]
 by_cases hb : 1 ≤ b ∧ b ≤ 1000000000
 ·rw [decide_eq_true hb,cond_true,in_eq,Option.bind_some]
  by_cases ha : -1000000000 ≤ a ∧ a ≤ 1000000000
  ·rw [decide_eq_true ha,cond_true,spec_gcd a b (by omega) (by omega),Option.bind_some]
   congr 1
   by_cases hg : Int.gcd a b = 1
   ·simp [validQ,hg,ha,hb]
   ·have : ¬ ((Int.gcd a b : Nat) : Int) = 1 := by omega
    simp [validQ,hg,this]
  ·rw [decide_eq_false ha,cond_false]
   have : ¬ (1 ≤ b ∧ b ≤ 1000000000 ∧ -1000000000 ≤ a ∧ a ≤ 1000000000 ∧ Int.gcd a b = 1) := fun h => ha ⟨h.2.2.1,h.2.2.2.1⟩
   rw [validQ,decide_eq_false this]
 ·rw [decide_eq_false hb,cond_false]
  have : ¬ (1 ≤ b ∧ b ≤ 1000000000 ∧ -1000000000 ≤ a ∧ a ≤ 1000000000 ∧ Int.gcd a b = 1) := fun h => hb ⟨h.1,h.2.1⟩
  rw [validQ,decide_eq_false this]
theorem impl_validRat (a b : Int) : m_impl_IsValidRat a b = some (validQ a b) := by
 rw [← spec_validRat]
 unfold m_impl_IsValidRat m_spec_IsValidRat
 rw [in_eq,within_eq,Option.bind_some,Option.bind_some]
 by_cases hb : 1 ≤ b ∧ b ≤ 1000000000
 ·rw [decide_eq_true hb,cond_true,cond_true,in_eq,within_eq,Option.bind_some,Option.bind_some]
  by_cases ha : -1000000000 ≤ a ∧ a ≤ 1000000000
  ·rw [decide_eq_true ha,cond_true,cond_true,spec_gcd a b (by omega) (by omega),impl_common a b (by omega) (by omega)]
  ·rw [decide_eq_false ha]
   rfl
 ·rw [decide_eq_false hb]
  rfl
theorem validQ_bd {a b : Int} (h : validQ a b = true) : 1 ≤ b ∧ b ≤ 1000000000 ∧ -1000000000 ≤ a ∧ a ≤ 1000000000 ∧ Int.gcd a b = 1 := by simpa [validQ] using h
theorem cmp_eq (a b c d : Int) : m_impl_CompareRat a b c d = m_spec_CompareRat a b c d := by
 unfold m_impl_CompareRat m_spec_CompareRat
 rw [spec_validRat,spec_validRat,impl_validRat,impl_validRat]
theorem mul_bd {x y : Int} (hx : -1000000000 ≤ x ∧ x ≤ 1000000000) (hy : -1000000000 ≤ y ∧ y ≤ 1000000000) : -1000000000000000000 ≤ x * y ∧ x * y ≤ 1000000000000000000 := by
 have h1 : (x * y).natAbs ≤ 1000000000 * 1000000000 := by
  rw [Int.natAbs_mul]
  exact Nat.mul_le_mul (by omega) (by omega)
 omega
def cmpQ (a b c d : Int) : Int := if validQ a b = true ∧ validQ c d = true then (if a * d < c * b then -1 else if a * d > c * b then 1 else 0) else 0
theorem spec_cmp (a b c d : Int) : m_spec_CompareRat a b c d = some (cmpQ a b c d) := by
 unfold m_spec_CompareRat cmpQ
 rw [spec_validRat,spec_validRat]
 cases h1 : validQ a b with
 | false => simp
 | true =>
  cases h2 : validQ c d with
  | false => simp
  | true =>
   have v1 := validQ_bd h1
   have v2 := validQ_bd h2
   have b1 := mul_bd (x := a) (y := d) (by omega) (by omega)
   have b2 := mul_bd (x := c) (y := b) (by omega) (by omega)
   rw [w64' (by omega) (by omega),w64' (by omega) (by omega)]
   by_cases h3 : a * d < c * b
   ·simp [h3]
   ·by_cases h4 : c * b < a * d
    ·simp [h3,h4]
    ·simp [h3,h4]
theorem impl_cmp (a b c d : Int) : m_impl_CompareRat a b c d = some (cmpQ a b c d) := by rw [cmp_eq,spec_cmp]
instance : DecidableEq Q := fun a b =>
 if h1 : a.num = b.num then
  if h2 : a.den = b.den then isTrue (by cases a; cases b; simp only at h1 h2; rw [h1,h2])
  else isFalse (fun h => h2 (by rw [h]))
 else isFalse (fun h => h1 (by rw [h]))
theorem iter_findc {S A : Type} {step : S → Option (S ⊕ A)} (st : Nat → S) (n : Nat) (p : Nat → Bool) (a : A) (b : Nat → A)
  (hs : ∀ i,i < n → step (st i) = some (bif p i then .inr (b i) else .inl (st (i + 1)))) (hd : step (st n) = some (.inr a)) :
  iter step (st 0) = some (match (List.range n).find? p with
   | some i => b i
   | none => a) := iter_find st n p a b (fun i hi => by rw [hs i hi]; cases p i <;> rfl) hd
def ratOf (n d : Int) : Int × Int × Bool :=
 if d = 0 ∨ ¬ (-1000000000000000000 ≤ n ∧ n ≤ 1000000000000000000) ∨ ¬ (-1000000000000000000 ≤ d ∧ d ≤ 1000000000000000000) then (0,0,false)
 else if validQ ((if d < 0 then -n else n).tdiv (Int.gcd n d : Nat)) ((if d < 0 then -d else d).tdiv (Int.gcd n d : Nat)) = true then ((if d < 0 then -n else n).tdiv (Int.gcd n d : Nat),(if d < 0 then -d else d).tdiv (Int.gcd n d : Nat),true) else (0,0,false)
theorem tdiv_bd (n : Int) (g : Nat) : -(n.natAbs : Int) ≤ n.tdiv g ∧ n.tdiv g ≤ n.natAbs := by
 have h : (n.tdiv g).natAbs ≤ n.natAbs := by
  rw [Int.natAbs_tdiv]
  exact Nat.div_le_self _ _
 omega
theorem gcd_pos' {n d : Int} (h : d ≠ 0) : 0 < Int.gcd n d := Int.gcd_pos_of_ne_zero_right n h
theorem spec_ratOf (n d : Int) : m_spec_RatOf n d = some (ratOf n d) := by
 unfold m_spec_RatOf ratOf
 by_cases h0 : d = 0
 ·simp [h0]
 ·have e0 : (d == 0) = false := by simpa using h0
  rw [e0,cond_false,in_eq,in_eq,Option.bind_some,Option.bind_some]
  by_cases h1 : -1000000000000000000 ≤ n ∧ n ≤ 1000000000000000000
  ·by_cases h2 : -1000000000000000000 ≤ d ∧ d ≤ 1000000000000000000
   ·have hc : ¬ (d = 0 ∨ ¬ (-1000000000000000000 ≤ n ∧ n ≤ 1000000000000000000) ∨ ¬ (-1000000000000000000 ≤ d ∧ d ≤ 1000000000000000000)) := fun h => by
     rcases h with h | h | h
     ·exact h0 h
     ·exact h h1
     ·exact h h2
    have hg := gcd_pos' (n := n) h0
    rw [if_neg hc,decide_eq_true h1,decide_eq_true h2,Bool.not_true,cond_false,cond_false]
    by_cases h3 : d < 0
    ·have b1 := tdiv_bd (-n) (Int.gcd n d)
     have b2 := tdiv_bd (-d) (Int.gcd n d)
     have z1 : IntKind.i64.wrap (0 - n) = -n := by rw [w64' (by omega) (by omega)]; omega
     have z2 : IntKind.i64.wrap (0 - d) = -d := by rw [w64' (by omega) (by omega)]; omega
     rw [decide_eq_true h3,cond_true,z1,z2,spec_gcd _ _ (by omega) (by omega),Int.neg_gcd,Int.gcd_neg,Option.bind_some,grd_pos (by omega),grd_pos (by omega),w64' (n := (-n).tdiv _) (by omega) (by omega),w64' (n := (-d).tdiv _) (by omega) (by omega),spec_validRat,Option.bind_some]
     simp only [if_pos h3]
     cases validQ ((-n).tdiv (Int.gcd n d : Nat)) ((-d).tdiv (Int.gcd n d : Nat)) <;> rfl
    ·have b1 := tdiv_bd n (Int.gcd n d)
     have b2 := tdiv_bd d (Int.gcd n d)
     rw [decide_eq_false h3,cond_false,spec_gcd _ _ (by omega) (by omega),Option.bind_some,grd_pos (by omega),grd_pos (by omega),w64' (n := n.tdiv _) (by omega) (by omega),w64' (n := d.tdiv _) (by omega) (by omega),spec_validRat,Option.bind_some]
     simp only [if_neg h3]
     cases validQ (n.tdiv (Int.gcd n d : Nat)) (d.tdiv (Int.gcd n d : Nat)) <;> rfl
   ·rw [if_pos (.inr (.inr h2)),decide_eq_true h1,decide_eq_false h2]
    rfl
  ·rw [if_pos (.inr (.inl h1)),decide_eq_false h1]
   rfl
theorem impl_ratOf (n d : Int) : m_impl_RatOf n d = some (ratOf n d) := by
 unfold m_impl_RatOf ratOf
 by_cases h0 : d = 0
 ·simp [h0]
 ·have e0 : (d == 0) = false := by simpa using h0
  rw [e0,cond_false,within_eq,within_eq,Option.bind_some,Option.bind_some]
  by_cases h1 : -1000000000000000000 ≤ n ∧ n ≤ 1000000000000000000
  ·by_cases h2 : -1000000000000000000 ≤ d ∧ d ≤ 1000000000000000000
   ·have hc : ¬ (d = 0 ∨ ¬ (-1000000000000000000 ≤ n ∧ n ≤ 1000000000000000000) ∨ ¬ (-1000000000000000000 ≤ d ∧ d ≤ 1000000000000000000)) := fun h => by
     rcases h with h | h | h
     ·exact h0 h
     ·exact h h1
     ·exact h h2
    have hg := gcd_pos' (n := n) h0
    have hgl := gcd_le n d
    rw [if_neg hc,decide_eq_true h1,decide_eq_true h2,Bool.not_true,cond_false,cond_false,impl_common _ _ (by omega) (by omega),Option.bind_some]
    by_cases h3 : d < 0
    ·have b1 := tdiv_bd (-n) (Int.gcd n d)
     have b2 := tdiv_bd (-d) (Int.gcd n d)
     have z1 : IntKind.i64.wrap (0 - ((Int.gcd n d : Nat) : Int)) = -((Int.gcd n d : Nat) : Int) := by rw [w64' (by omega) (by omega)]; omega
     rw [decide_eq_true h3,cond_true,z1,grd_pos (by omega),grd_pos (by omega),Int.tdiv_neg,Int.tdiv_neg,← Int.neg_tdiv,← Int.neg_tdiv,w64' (n := (-n).tdiv _) (by omega) (by omega),w64' (n := (-d).tdiv _) (by omega) (by omega),impl_validRat,Option.bind_some]
     simp only [if_pos h3]
     cases validQ ((-n).tdiv (Int.gcd n d : Nat)) ((-d).tdiv (Int.gcd n d : Nat)) <;> rfl
    ·have b1 := tdiv_bd n (Int.gcd n d)
     have b2 := tdiv_bd d (Int.gcd n d)
     rw [decide_eq_false h3,cond_false,grd_pos (by omega),grd_pos (by omega),w64' (n := n.tdiv _) (by omega) (by omega),w64' (n := d.tdiv _) (by omega) (by omega),impl_validRat,Option.bind_some]
     simp only [if_neg h3]
     cases validQ (n.tdiv (Int.gcd n d : Nat)) (d.tdiv (Int.gcd n d : Nat)) <;> rfl
   ·rw [if_pos (.inr (.inr h2)),decide_eq_true h1,decide_eq_false h2]
    rfl
  ·rw [if_pos (.inr (.inl h1)),decide_eq_false h1]
   rfl
theorem ratOf_false {n d : Int} (h : (ratOf n d).2.2 = false) : ratOf n d = (0,0,false) := by
 unfold ratOf at h ⊢
 by_cases h1 : d = 0 ∨ ¬ (-1000000000000000000 ≤ n ∧ n ≤ 1000000000000000000) ∨ ¬ (-1000000000000000000 ≤ d ∧ d ≤ 1000000000000000000)
 ·rw [if_pos h1]
 ·rw [if_neg h1] at h ⊢
  by_cases h2 : validQ ((if d < 0 then -n else n).tdiv (Int.gcd n d : Nat)) ((if d < 0 then -d else d).tdiv (Int.gcd n d : Nat)) = true
  ·rw [if_pos h2] at h
   cases h
  ·rw [if_neg h2]
def addQ (a b c d : Int) : Int × Int × Bool := if validQ a b = true ∧ validQ c d = true then ratOf (a * d + c * b) (b * d) else (0,0,false)
def subQ (a b c d : Int) : Int × Int × Bool := if validQ a b = true ∧ validQ c d = true then ratOf (a * d - c * b) (b * d) else (0,0,false)
def mulQ (a b c d : Int) : Int × Int × Bool := if validQ a b = true ∧ validQ c d = true then ratOf (a * c) (b * d) else (0,0,false)
def divQ (a b c d : Int) : Int × Int × Bool := if validQ a b = true ∧ validQ c d = true then ratOf (a * d) (b * c) else (0,0,false)
theorem prodBd {a b c d : Int} (v1 : validQ a b = true) (v2 : validQ c d = true) : (-1000000000000000000 ≤ a * d ∧ a * d ≤ 1000000000000000000) ∧ (-1000000000000000000 ≤ c * b ∧ c * b ≤ 1000000000000000000) ∧ (-1000000000000000000 ≤ b * d ∧ b * d ≤ 1000000000000000000) ∧ (-1000000000000000000 ≤ a * c ∧ a * c ≤ 1000000000000000000) ∧ (-1000000000000000000 ≤ b * c ∧ b * c ≤ 1000000000000000000) := by
 have h1 := validQ_bd v1
 have h2 := validQ_bd v2
 exact ⟨mul_bd (by omega) (by omega),mul_bd (by omega) (by omega),mul_bd (by omega) (by omega),mul_bd (by omega) (by omega),mul_bd (by omega) (by omega)⟩
theorem spec_add (a b c d : Int) : m_spec_AddRat a b c d = some (addQ a b c d) := by
 unfold m_spec_AddRat addQ
 rw [spec_validRat,spec_validRat]
 cases h1 : validQ a b with
 | false => rfl
 | true =>
  cases h2 : validQ c d with
  | false => rfl
  | true =>
   obtain ⟨b1,b2,b3,_⟩ := prodBd h1 h2
   simp only [Option.bind_some,Bool.not_true,cond_false,and_self,if_true]
   rw [w64' (n := a * d) (by omega) (by omega),w64' (n := c * b) (by omega) (by omega),w64' (by omega) (by omega),w64' (by omega) (by omega),spec_ratOf]
   rfl
theorem impl_add (a b c d : Int) : m_impl_AddRat a b c d = some (addQ a b c d) := by
 rw [← spec_add]
 unfold m_impl_AddRat m_spec_AddRat
 rw [spec_validRat,spec_validRat,impl_validRat,impl_validRat,spec_ratOf,impl_ratOf]
theorem mul_eq' (a b c d : Int) : m_spec_MulRat a b c d = some (mulQ a b c d) := by
 unfold m_spec_MulRat mulQ
 rw [spec_validRat,spec_validRat]
 cases h1 : validQ a b with
 | false => rfl
 | true =>
  cases h2 : validQ c d with
  | false => rfl
  | true =>
   obtain ⟨_,_,b3,b4,_⟩ := prodBd h1 h2
   simp only [Option.bind_some,Bool.not_true,cond_false,and_self,if_true]
   rw [w64' (by omega) (by omega),w64' (by omega) (by omega),spec_ratOf]
   rfl
theorem impl_mul (a b c d : Int) : m_impl_MulRat a b c d = some (mulQ a b c d) := by
 rw [← mul_eq']
 unfold m_impl_MulRat m_spec_MulRat
 rw [spec_validRat,spec_validRat,impl_validRat,impl_validRat,spec_ratOf,impl_ratOf]
def dotFrom : List Q → List Q → Int → Int → (Int × Int) ⊕ (Int × Int × Bool)
 | p :: xs,q :: ys,a,b => match mulQ p.num p.den q.num q.den with
  | (c,d,o1) => match addQ a b c d with
   | (e,f,o2) => bif o1 && o2 then dotFrom xs ys e f else .inr (0,0,false)
 | _,_,a,b => .inl (a,b)
def dotQ (x y : List Q) : Int × Int × Bool := if x.length = y.length then (match dotFrom x y 0 1 with
  | .inl (a,b) => (a,b,true)
  | .inr r => r) else (0,0,false)
theorem dotFrom_inr : ∀ (x y : List Q) (a b : Int) (r : Int × Int × Bool),dotFrom x y a b = .inr r → r = (0,0,false)
 | [],_,a,b,r,h => by cases h
 | _ :: _,[],a,b,r,h => by cases h
 | p :: xs,q :: ys,a,b,r,h => by
  unfold dotFrom at h
  rcases hm : mulQ p.num p.den q.num q.den with ⟨c,d,o1⟩
  rw [hm] at h
  dsimp only at h
  rcases ha : addQ a b c d with ⟨e,f,o2⟩
  rw [ha] at h
  dsimp only at h
  cases ho : (o1 && o2) with
  | true =>
   rw [ho,cond_true] at h
   exact dotFrom_inr xs ys e f r h
  | false =>
   rw [ho,cond_false] at h
   injection h with h
   exact h.symm
theorem dotQ_false {x y : List Q} (h : (dotQ x y).2.2 = false) : dotQ x y = (0,0,false) := by
 unfold dotQ at h ⊢
 split
 ·rename_i hl
  rw [if_pos hl] at h
  rcases hd : dotFrom x y 0 1 with ⟨a,b⟩ | r
  ·rw [hd] at h; cases h
  ·exact dotFrom_inr x y 0 1 r hd
 ·rfl
theorem dot_loop (x y : List Q) (hl : x.length = y.length) (hb : x.length ≤ 1048576) : ∀ (k i : Nat) (a b : Int),x.length - i = k → i ≤ x.length → iter (l_spec_DotRat_0 x y) ((i : Int),a,b) = some (dotFrom (x.drop i) (y.drop i) a b) := by
 intro k
 induction k with
 | zero =>
  intro i a b h1 h2
  have hnil : x.drop i = [] := List.drop_eq_nil_of_le (by omega)
  rw [hnil]
  refine iter_done ?_
  unfold l_spec_DotRat_0
  dsimp only
  rw [decide_eq_false (by omega)]
  rfl
 | succ k ih =>
  intro i a b h1 h2
  have hi : i < x.length := by omega
  have hj : i < y.length := by omega
  have hx : x.getD i ⟨0,0⟩ = x[i] := by simp [List.getD,List.getElem?_eq_getElem hi]
  have hy : y.getD i ⟨0,0⟩ = y[i] := by simp [List.getD,List.getElem?_eq_getElem hj]
  rw [List.drop_eq_getElem_cons hi,List.drop_eq_getElem_cons hj]
  unfold dotFrom
  rcases hm : mulQ x[i].num x[i].den y[i].num y[i].den with ⟨c,d,o1⟩
  dsimp only
  rcases ha : addQ a b c d with ⟨e,f,o2⟩
  dsimp only
  have hs : l_spec_DotRat_0 x y ((i : Int),a,b) = bif o1 && o2 then some (.inl (((i + 1 : Nat) : Int),e,f)) else some (.inr (.inr (0,0,false))) := by
   unfold l_spec_DotRat_0
   dsimp only
   rw [decide_eq_true (by omega),cond_true,grd_pos (by omega),grd_pos (by omega),getD_nat,getD_nat,hx,hy,mul_eq',hm,Option.bind_some]
   dsimp only
   rw [spec_add,ha,Option.bind_some]
   dsimp only
   rw [w64' (by omega) (by omega)]
   cases o1 <;> cases o2 <;> rfl
  cases ho : (o1 && o2) with
  | true =>
   rw [ho,cond_true] at hs
   rw [iter_next hs,cond_true]
   exact ih (i + 1) e f (by omega) (by omega)
  | false =>
   rw [ho,cond_false] at hs
   rw [iter_done hs,cond_false]
theorem spec_dot (x y : List Q) (hb : x.length ≤ 1048576) : m_spec_DotRat x y = some (dotQ x y) := by
 unfold m_spec_DotRat m_spec_l3Int dotQ
 by_cases hl : x.length = y.length
 ·have e : ((x.length : Int) != (y.length : Int)) = false := by simp [hl]
  have h := dot_loop x y hl hb _ 0 0 1 rfl (by omega)
  rw [List.drop_zero,List.drop_zero] at h
  simp only [Int.natCast_zero] at h
  rw [e,cond_false,Option.bind_some]
  dsimp only
  rw [h,if_pos hl]
  rcases dotFrom x y 0 1 with ⟨a,b⟩ | r <;> rfl
 ·have e : ((x.length : Int) != (y.length : Int)) = true := by
   rw [bne_iff_ne]
   omega
  rw [e,if_neg hl]
  rfl
theorem dot_step (x y : List Q) : l_impl_DotRat_0 x y = l_spec_DotRat_0 x y := by
 funext ⟨v3,v4,v5⟩
 unfold l_impl_DotRat_0 l_spec_DotRat_0
 simp only [impl_add,spec_add,impl_mul,mul_eq']
theorem impl_dot (x y : List Q) (hb : x.length ≤ 1048576) : m_impl_DotRat x y = some (dotQ x y) := by
 rw [← spec_dot x y hb]
 unfold m_impl_DotRat m_spec_DotRat m_impl_whole m_spec_l3Int
 rw [dot_step] <;> rfl
theorem mulQ_comm (a b c d : Int) : mulQ a b c d = mulQ c d a b := by
 unfold mulQ
 rw [Int.mul_comm a c,Int.mul_comm b d]
 by_cases h : validQ a b = true ∧ validQ c d = true
 ·rw [if_pos h,if_pos ⟨h.2,h.1⟩]
 ·rw [if_neg h,if_neg fun h' => h ⟨h'.2,h'.1⟩]
theorem dotFrom_comm : ∀ (x y : List Q) (a b : Int),dotFrom x y a b = dotFrom y x a b
 | [],[],_,_ => rfl
 | [],_ :: _,_,_ => rfl
 | _ :: _,[],_,_ => rfl
 | p :: xs,q :: ys,a,b => by
  unfold dotFrom
  rw [mulQ_comm q.num q.den p.num p.den]
  rcases mulQ p.num p.den q.num q.den with ⟨c,d,o1⟩
  dsimp only
  rcases addQ a b c d with ⟨e,f,o2⟩
  dsimp only
  rw [dotFrom_comm xs ys e f]
theorem dotQ_comm (x y : List Q) : dotQ x y = dotQ y x := by
 unfold dotQ
 rw [dotFrom_comm]
 by_cases h : x.length = y.length
 ·rw [if_pos h,if_pos h.symm]
 ·rw [if_neg h,if_neg fun h' => h h'.symm]
def ratsOf (l : List Int) : List Q := tab (fun i => ⟨l.getD i 0,1⟩) l.length
theorem ratsOf_length (l : List Int) : (ratsOf l).length = l.length := tab_length _ _
theorem spec_itr (l : List Int) (hl : l.length ≤ 1048576) (hok : ∀ i,i < l.length → -1000000000 ≤ l.getD i 0 ∧ l.getD i 0 ≤ 1000000000) : m_spec_IntsToRats l = some (true,ratsOf l) := by
 unfold m_spec_IntsToRats
 have hit := iter_up (step := l_spec_IntsToRats_0 l) (fun i => ((i : Int),tab (fun i => (⟨l.getD i 0,1⟩ : Q)) i)) l.length (a := .inl (ratsOf l)) (fun i hi => by
   unfold l_spec_IntsToRats_0 m_spec_l3Int
   dsimp only
   rw [decide_eq_true (by omega),cond_true,grd_pos (by omega),getD_nat,in_eq,decide_eq_true (hok i hi),Option.bind_some,Bool.not_true,cond_false,grd_pos (by omega),Option.bind_some]
   dsimp only
   rw [grd_pos (by simp only [tab_length,List.length_singleton,room]; omega),w64' (by omega) (by omega),tab_succ]
   rfl)
  (by unfold l_spec_IntsToRats_0; dsimp only; rw [decide_eq_false (by omega)]; rfl)
 have e0 : tab (fun i => (⟨l.getD i 0,1⟩ : Q)) 0 = [] := rfl
 simp only [Int.natCast_zero,e0] at hit
 rw [hit]
 rfl
theorem impl_itr (l : List Int) (hl : l.length ≤ 1048576) (hok : ∀ i,i < l.length → -1000000000 ≤ l.getD i 0 ∧ l.getD i 0 ≤ 1000000000) : m_impl_IntsToRats l = some (true,ratsOf l) := by
 unfold m_impl_IntsToRats
 have hit := iter_up (step := l_impl_IntsToRats_0 l) (fun i => ((i : Int),tab (fun i => (⟨l.getD i 0,1⟩ : Q)) i)) l.length (a := .inl (ratsOf l)) (fun i hi => by
   unfold l_impl_IntsToRats_0 m_impl_whole
   dsimp only
   rw [decide_eq_true (by omega),cond_true,grd_pos (by omega),getD_nat,within_eq,decide_eq_true (hok i hi),Option.bind_some,Bool.not_true,cond_false,Option.bind_some]
   dsimp only
   rw [grd_pos (by simp only [tab_length,List.length_singleton,room]; omega),w64' (by omega) (by omega),tab_succ]
   rfl)
  (by unfold l_impl_IntsToRats_0; dsimp only; rw [decide_eq_false (by omega)]; rfl)
 have e0 : tab (fun i => (⟨l.getD i 0,1⟩ : Q)) 0 = [] := rfl
 simp only [Int.natCast_zero,e0] at hit
 rw [hit]
 rfl
theorem impl_rats (l : List Int) (hl : l.length ≤ 1048576) (hok : ∀ i,i < l.length → -1000000000 ≤ l.getD i 0 ∧ l.getD i 0 ≤ 1000000000) : m_impl_rats l = some (ratsOf l) := by
 unfold m_impl_rats
 rw [impl_itr l hl hok]
 rfl
theorem spec_l5dot (l : List Int) (v : List Q) (hl : l.length ≤ 1048576) (hok : ∀ i,i < l.length → -1000000000 ≤ l.getD i 0 ∧ l.getD i 0 ≤ 1000000000) : m_spec_l5Dot l v = some (dotQ (ratsOf l) v) := by
 unfold m_spec_l5Dot
 rw [spec_itr l hl hok,Option.bind_some]
 dsimp only
 rw [spec_dot _ _ (by rw [ratsOf_length]; exact hl),Option.bind_some]
 have hf := dotQ_false (x := ratsOf l) (y := v)
 rcases hq : dotQ (ratsOf l) v with ⟨a,b,c⟩
 rw [hq] at hf
 cases c with
 | true => rfl
 | false => rw [hf rfl]; rfl
def nnB (l : List Q) : Bool := (List.range l.length).all fun i => validQ (l.getD i ⟨0,0⟩).num (l.getD i ⟨0,0⟩).den && decide (0 ≤ (l.getD i ⟨0,0⟩).num)
theorem find_all (n : Nat) (p : Nat → Bool) : (List.range n).find? (fun i => !p i) = none ↔ (List.range n).all p = true := by
 rw [List.find?_eq_none,List.all_eq_true]
 constructor
 ·intro h i hi
  have := h i hi
  simpa using this
 ·intro h i hi
  have := h i hi
  simpa using this
theorem spec_nn (l : List Q) (hl : l.length ≤ 1048576) : m_spec_l5NotNegative l = some (nnB l) := by
 unfold m_spec_l5NotNegative
 have hit := iter_findc (step := l_spec_l5NotNegative_0 l) (fun i => (i : Int)) l.length (fun i => !(validQ (l.getD i ⟨0,0⟩).num (l.getD i ⟨0,0⟩).den && decide (0 ≤ (l.getD i ⟨0,0⟩).num))) (.inl ()) (fun _ => .inr false)
  (fun i hi => by
   have hg : (0 : Int) ≤ (i : Int) ∧ (i : Int) < (l.length : Int) := by omega
   unfold l_spec_l5NotNegative_0
   rw [decide_eq_true (by omega),cond_true,getD_nat,spec_validRat,w64' (by omega) (by omega)]
   simp only [grd_pos hg,Option.bind_some]
   cases validQ (l.getD i ⟨0,0⟩).num (l.getD i ⟨0,0⟩).den with
   | false => rfl
   | true =>
    by_cases h0 : (l.getD i ⟨0,0⟩).num < 0
    ·rw [decide_eq_true h0,decide_eq_false (by omega)]
     rfl
    ·rw [decide_eq_false h0,decide_eq_true (by omega)]
     rfl)
  (by unfold l_spec_l5NotNegative_0; rw [decide_eq_false (by omega)]; rfl)
 simp only [Int.natCast_zero] at hit
 rw [hit]
 have hf := find_all l.length (fun i => validQ (l.getD i ⟨0,0⟩).num (l.getD i ⟨0,0⟩).den && decide (0 ≤ (l.getD i ⟨0,0⟩).num))
 unfold nnB
 cases hfd : (List.range l.length).find? (fun i => !(validQ (l.getD i ⟨0,0⟩).num (l.getD i ⟨0,0⟩).den && decide (0 ≤ (l.getD i ⟨0,0⟩).num))) with
 | none => rw [hf.1 hfd]; rfl
 | some i =>
  cases hall : (List.range l.length).all (fun i => validQ (l.getD i ⟨0,0⟩).num (l.getD i ⟨0,0⟩).den && decide (0 ≤ (l.getD i ⟨0,0⟩).num)) with
  | false => rfl
  | true => rw [hf.2 hall] at hfd; cases hfd
theorem impl_nn1 (l : List Q) (hl : l.length ≤ 1048576) : m_slices_ContainsFunc_impl_Rat_impl_Rat_impl_notNegative_1 l = some (!nnB l) := by
 unfold m_slices_ContainsFunc_impl_Rat_impl_Rat_impl_notNegative_1 m_slices_IndexFunc_impl_Rat_impl_Rat_impl_notNegative_1
 have hit := iter_findc (step := l_slices_IndexFunc_impl_Rat_impl_Rat_impl_notNegative_1_0 l) (fun i => (i : Int)) l.length (fun i => !(validQ (l.getD i ⟨0,0⟩).num (l.getD i ⟨0,0⟩).den && decide (0 ≤ (l.getD i ⟨0,0⟩).num))) (.inl ()) (fun i => .inr (i : Int))
  (fun i hi => by
   have hg : (0 : Int) ≤ (i : Int) ∧ (i : Int) < (l.length : Int) := by omega
   unfold l_slices_IndexFunc_impl_Rat_impl_Rat_impl_notNegative_1_0 m_impl_notNegative_1
   rw [decide_eq_true (by omega),cond_true,getD_nat,impl_validRat,w64' (by omega) (by omega)]
   simp only [grd_pos hg,Option.bind_some]
   cases validQ (l.getD i ⟨0,0⟩).num (l.getD i ⟨0,0⟩).den with
   | false => rfl
   | true =>
    by_cases h0 : (l.getD i ⟨0,0⟩).num < 0
    ·rw [decide_eq_true h0,decide_eq_false (by omega)]
     rfl
    ·rw [decide_eq_false h0,decide_eq_true (by omega)]
     rfl)
  (by unfold l_slices_IndexFunc_impl_Rat_impl_Rat_impl_notNegative_1_0; rw [decide_eq_false (by omega)]; rfl)
 simp only [Int.natCast_zero] at hit
 rw [hit]
 have hf := find_all l.length (fun i => validQ (l.getD i ⟨0,0⟩).num (l.getD i ⟨0,0⟩).den && decide (0 ≤ (l.getD i ⟨0,0⟩).num))
 unfold nnB
 cases hfd : (List.range l.length).find? (fun i => !(validQ (l.getD i ⟨0,0⟩).num (l.getD i ⟨0,0⟩).den && decide (0 ≤ (l.getD i ⟨0,0⟩).num))) with
 | none => rw [hf.1 hfd]; rfl
 | some i =>
  cases hall : (List.range l.length).all (fun i => validQ (l.getD i ⟨0,0⟩).num (l.getD i ⟨0,0⟩).den && decide (0 ≤ (l.getD i ⟨0,0⟩).num)) with
  | false =>
   simp only [Option.bind_some]
   rw [decide_eq_true (by omega)]
   rfl
  | true => rw [hf.2 hall] at hfd; cases hfd
theorem validQ_neg (c d : Int) : validQ (-c) d = validQ c d := by
 unfold validQ
 rw [Int.neg_gcd]
 congr 1
 apply propext
 constructor <;> (rintro ⟨h1,h2,h3,h4,h5⟩; exact ⟨h1,h2,by omega,by omega,h5⟩)
theorem spec_sub (a b c d : Int) : m_spec_SubRat a b c d = some (subQ a b c d) := by
 unfold m_spec_SubRat
 rw [spec_validRat,Option.bind_some]
 cases h2 : validQ c d with
 | false =>
  have : ¬ (validQ a b = true ∧ validQ c d = true) := fun h => by rw [h2] at h; cases h.2
  unfold subQ
  rw [if_neg this]
  rfl
 | true =>
  have v2 := validQ_bd h2
  rw [Bool.not_true,cond_false,w64' (by omega) (by omega),spec_add]
  have e : (0 - c) = -c := by omega
  rw [e]
  unfold addQ subQ
  rw [validQ_neg,Int.neg_mul,← Int.sub_eq_add_neg]
  rfl
theorem impl_sub (a b c d : Int) : m_impl_SubRat a b c d = some (subQ a b c d) := by
 unfold m_impl_SubRat subQ
 rw [impl_validRat,impl_validRat]
 cases h1 : validQ a b with
 | false => rfl
 | true =>
  cases h2 : validQ c d with
  | false => rfl
  | true =>
   obtain ⟨b1,b2,b3,_⟩ := prodBd h1 h2
   simp only [Option.bind_some,Bool.not_true,cond_false,and_self,if_true]
   rw [w64' (n := a * d) (by omega) (by omega),w64' (n := c * b) (by omega) (by omega),w64' (by omega) (by omega),w64' (by omega) (by omega),impl_ratOf]
   rfl
theorem subQ_false {a b c d : Int} (h : (subQ a b c d).2.2 = false) : subQ a b c d = (0,0,false) := by
 unfold subQ at h ⊢
 split
 ·rename_i hv
  rw [if_pos hv] at h
  exact ratOf_false h
 ·rfl
def allB (l : List Q) : Bool := (List.range l.length).all fun i => validQ (l.getD i ⟨0,0⟩).num (l.getD i ⟨0,0⟩).den
theorem spec_allv (l : List Q) (hl : l.length ≤ 1048576) : m_spec_AllValid l = some (allB l) := by
 unfold m_spec_AllValid
 have hit := iter_findc (step := l_spec_AllValid_0 l) (fun i => (i : Int)) l.length (fun i => !(validQ (l.getD i ⟨0,0⟩).num (l.getD i ⟨0,0⟩).den)) (.inl ()) (fun _ => .inr false)
  (fun i hi => by
   unfold l_spec_AllValid_0
   rw [decide_eq_true (by omega),cond_true,grd_pos (by omega),getD_nat,spec_validRat,w64' (by omega) (by omega),Option.bind_some]
   cases validQ (l.getD i ⟨0,0⟩).num (l.getD i ⟨0,0⟩).den <;> rfl)
  (by unfold l_spec_AllValid_0; rw [decide_eq_false (by omega)]; rfl)
 simp only [Int.natCast_zero] at hit
 rw [hit]
 have hf := find_all l.length (fun i => validQ (l.getD i ⟨0,0⟩).num (l.getD i ⟨0,0⟩).den)
 unfold allB
 cases hfd : (List.range l.length).find? (fun i => !(validQ (l.getD i ⟨0,0⟩).num (l.getD i ⟨0,0⟩).den)) with
 | none => rw [hf.1 hfd]; rfl
 | some i =>
  cases hall : (List.range l.length).all (fun i => validQ (l.getD i ⟨0,0⟩).num (l.getD i ⟨0,0⟩).den) with
  | false => rfl
  | true => rw [hf.2 hall] at hfd; cases hfd
theorem impl_allv (l : List Q) (hl : l.length ≤ 1048576) : m_impl_AllValid l = some (allB l) := by
 unfold m_impl_AllValid m_slices_ContainsFunc_impl_Rat_impl_Rat_impl_AllValid_1 m_slices_IndexFunc_impl_Rat_impl_Rat_impl_AllValid_1
 have hit := iter_findc (step := l_slices_IndexFunc_impl_Rat_impl_Rat_impl_AllValid_1_0 l) (fun i => (i : Int)) l.length (fun i => !(validQ (l.getD i ⟨0,0⟩).num (l.getD i ⟨0,0⟩).den)) (.inl ()) (fun i => .inr (i : Int))
  (fun i hi => by
   unfold l_slices_IndexFunc_impl_Rat_impl_Rat_impl_AllValid_1_0 m_impl_AllValid_1
   rw [decide_eq_true (by omega),cond_true,grd_pos (by omega),getD_nat,impl_validRat,w64' (by omega) (by omega),Option.bind_some,Option.bind_some]
   cases validQ (l.getD i ⟨0,0⟩).num (l.getD i ⟨0,0⟩).den <;> rfl)
  (by unfold l_slices_IndexFunc_impl_Rat_impl_Rat_impl_AllValid_1_0; rw [decide_eq_false (by omega)]; rfl)
 simp only [Int.natCast_zero] at hit
 rw [hit]
 have hf := find_all l.length (fun i => validQ (l.getD i ⟨0,0⟩).num (l.getD i ⟨0,0⟩).den)
 unfold allB
 cases hfd : (List.range l.length).find? (fun i => !(validQ (l.getD i ⟨0,0⟩).num (l.getD i ⟨0,0⟩).den)) with
 | none => rw [hf.1 hfd]; rfl
 | some i =>
  cases hall : (List.range l.length).all (fun i => validQ (l.getD i ⟨0,0⟩).num (l.getD i ⟨0,0⟩).den) with
  | false =>
   simp only [Option.bind_some]
   rw [decide_eq_true (by omega)]
   rfl
  | true => rw [hf.2 hall] at hfd; cases hfd
theorem validQ_int {v : Int} (h : -1000000000 ≤ v ∧ v ≤ 1000000000) : validQ v 1 = true := by
 unfold validQ
 rw [decide_eq_true ⟨by omega,by omega,h.1,h.2,by simp⟩]
theorem div_eq' (a b c d : Int) : m_spec_DivRat a b c d = some (divQ a b c d) := by
 unfold m_spec_DivRat divQ
 rw [spec_validRat,spec_validRat]
 cases h1 : validQ a b with
 | false => rfl
 | true =>
  cases h2 : validQ c d with
  | false => rfl
  | true =>
   obtain ⟨b1,_,_,_,b5⟩ := prodBd h1 h2
   simp only [Option.bind_some,Bool.not_true,cond_false,and_self,if_true]
   rw [w64' (by omega) (by omega),w64' (by omega) (by omega),spec_ratOf]
   rfl
theorem impl_div (a b c d : Int) : m_impl_DivRat a b c d = some (divQ a b c d) := by
 rw [← div_eq']
 unfold m_impl_DivRat m_spec_DivRat
 rw [spec_validRat,spec_validRat,impl_validRat,impl_validRat,spec_ratOf,impl_ratOf]
def rowOk (rows : List (List Q)) (cols : Int) (k : Nat) : Bool := ((rows.getD k []).length : Int) == cols + rows.length + 1
def basOk (rows : List (List Q)) (basis : List Int) (cols : Int) (k : Nat) : Bool := decide (0 ≤ basis.getD k 0 ∧ basis.getD k 0 ≤ cols + rows.length - 1)
def tabOk (rows : List (List Q)) (basis : List Int) (cols : Int) : Bool := decide (0 ≤ cols ∧ cols ≤ 1000) && (decide (basis.length = rows.length) && ((List.range rows.length).all (basOk rows basis cols) && (List.range rows.length).all (rowOk rows cols)))
theorem find_all2 (n : Nat) (p : Nat → Bool) : (match (List.range n).find? (fun i => !p i) with
   | some _ => (.inr false : Unit ⊕ Bool)
   | none => .inl ()) = if (List.range n).all p = true then .inl () else .inr false := by
 have hf := find_all n p
 cases hfd : (List.range n).find? (fun i => !p i) with
 | none => rw [if_pos (hf.1 hfd)]
 | some i =>
  by_cases hall : (List.range n).all p = true
  ·rw [hf.2 hall] at hfd; cases hfd
  ·rw [if_neg hall]
theorem spec_tabOk (rows : List (List Q)) (basis : List Int) (cols : Int) (hr : rows.length ≤ 1048576) (hb : basis.length ≤ 1048576) (hrl : ∀ i,i < rows.length → (rows.getD i []).length ≤ 1048576) : m_spec_l6Good rows basis cols = some (tabOk rows basis cols) := by
 unfold m_spec_l6Good tabOk
 by_cases h1 : cols < 0
 ·rw [decide_eq_true h1,cond_true,decide_eq_false (p := 0 ≤ cols ∧ cols ≤ 1000) (by omega)]
  rfl
 ·rw [decide_eq_false h1,cond_false]
  by_cases h2 : cols > 1000
  ·rw [decide_eq_true h2,cond_true,decide_eq_false (p := 0 ≤ cols ∧ cols ≤ 1000) (by omega)]
   rfl
  ·rw [decide_eq_false h2,cond_false,decide_eq_true (p := 0 ≤ cols ∧ cols ≤ 1000) (by omega)]
   by_cases h3 : basis.length = rows.length
   ·have e : ((basis.length : Int) != (rows.length : Int)) = false := by simp [h3]
    rw [e,cond_false,decide_eq_true h3]
    have hit := iter_findc (step := l_spec_l6Good_0 rows basis cols) (fun k => (k : Int)) rows.length (fun k => !(rowOk rows cols k && basOk rows basis cols k)) (.inl ()) (fun _ => .inr false)
     (fun k hk => by
      unfold l_spec_l6Good_0
      rw [decide_eq_true (by omega),cond_true,grd_pos (by omega),getD_nat,getD_nat,w64' (n := cols + (rows.length : Int)) (by omega) (by omega),w64' (n := cols + (rows.length : Int) + 1) (by omega) (by omega),w64' (n := cols + (rows.length : Int) - 1) (by omega) (by omega),w64' (n := (k : Int) + 1) (by omega) (by omega),grd_pos (by omega),in_eq,Option.bind_some]
      unfold rowOk basOk
      have e2 : (((rows.getD k []).length : Int) != cols + (rows.length : Int) + 1) = !(((rows.getD k []).length : Int) == cols + (rows.length : Int) + 1) := rfl
      rw [e2]
      cases ((rows.getD k []).length : Int) == cols + (rows.length : Int) + 1 <;> cases decide (0 ≤ basis.getD k 0 ∧ basis.getD k 0 ≤ cols + (rows.length : Int) - 1) <;> rfl)
     (by unfold l_spec_l6Good_0; rw [decide_eq_false (by omega)]; rfl)
    simp only [Int.natCast_zero] at hit
    rw [find_all2] at hit
    rw [hit]
    have e3 : (List.range rows.length).all (fun k => rowOk rows cols k && basOk rows basis cols k) = ((List.range rows.length).all (basOk rows basis cols) && (List.range rows.length).all (rowOk rows cols)) := by
     rw [Bool.eq_iff_iff,Bool.and_eq_true,List.all_eq_true,List.all_eq_true,List.all_eq_true]
     constructor
     ·intro h
      exact ⟨fun i hi => by have := h i hi; simp only [Bool.and_eq_true] at this; exact this.2,fun i hi => by have := h i hi; simp only [Bool.and_eq_true] at this; exact this.1⟩
     ·rintro ⟨ha,hb⟩ i hi
      simp only [Bool.and_eq_true]
      exact ⟨hb i hi,ha i hi⟩
    rw [e3]
    cases ((List.range rows.length).all (basOk rows basis cols) && (List.range rows.length).all (rowOk rows cols)) <;> rfl
   ·have e : ((basis.length : Int) != (rows.length : Int)) = true := by
     rw [bne_iff_ne]
     omega
    rw [e,cond_true,decide_eq_false h3]
    rfl
theorem impl_bas (rows : List (List Q)) (basis : List Int) (cols : Int) (hc : 0 ≤ cols ∧ cols ≤ 1000) (hr : rows.length ≤ 1048576) (h3 : basis.length = rows.length) : m_slices_ContainsFunc_int_int_impl_formed_1 basis rows basis cols (rows.length : Int) = some (!(List.range rows.length).all (basOk rows basis cols)) := by
 unfold m_slices_ContainsFunc_int_int_impl_formed_1 m_slices_IndexFunc_int_int_impl_formed_1
 have hit := iter_findc (step := l_slices_IndexFunc_int_int_impl_formed_1_0 basis rows basis cols (rows.length : Int)) (fun k => (k : Int)) rows.length (fun k => !basOk rows basis cols k) (.inl ()) (fun i => .inr (i : Int))
  (fun k hk => by
   unfold l_slices_IndexFunc_int_int_impl_formed_1_0 m_impl_formed_1
   rw [decide_eq_true (by omega),cond_true,grd_pos (by omega),getD_nat,w64' (n := cols + (rows.length : Int)) (by omega) (by omega),w64' (n := cols + (rows.length : Int) - 1) (by omega) (by omega),w64' (n := (k : Int) + 1) (by omega) (by omega),within_eq,Option.bind_some,Option.bind_some]
   unfold basOk
   cases decide (0 ≤ basis.getD k 0 ∧ basis.getD k 0 ≤ cols + (rows.length : Int) - 1) <;> rfl)
  (by unfold l_slices_IndexFunc_int_int_impl_formed_1_0; rw [decide_eq_false (by omega)]; rfl)
 simp only [Int.natCast_zero] at hit
 rw [hit]
 have hf := find_all rows.length (basOk rows basis cols)
 cases hfd : (List.range rows.length).find? (fun i => !basOk rows basis cols i) with
 | none => rw [hf.1 hfd]; rfl
 | some i =>
  cases hall : (List.range rows.length).all (basOk rows basis cols) with
  | false =>
   simp only [Option.bind_some]
   rw [decide_eq_true (by omega)]
   rfl
  | true => rw [hf.2 hall] at hfd; cases hfd
theorem impl_rowsOk (rows : List (List Q)) (basis : List Int) (cols : Int) (hc : 0 ≤ cols ∧ cols ≤ 1000) (hr : rows.length ≤ 1048576) : m_slices_ContainsFunc_impl_Rat_impl_Rat_impl_formed_2 rows rows basis cols (rows.length : Int) = some (!(List.range rows.length).all (rowOk rows cols)) := by
 unfold m_slices_ContainsFunc_impl_Rat_impl_Rat_impl_formed_2 m_slices_IndexFunc_impl_Rat_impl_Rat_impl_formed_2
 have hit := iter_findc (step := l_slices_IndexFunc_impl_Rat_impl_Rat_impl_formed_2_0 rows rows basis cols (rows.length : Int)) (fun k => (k : Int)) rows.length (fun k => !rowOk rows cols k) (.inl ()) (fun i => .inr (i : Int))
  (fun k hk => by
   unfold l_slices_IndexFunc_impl_Rat_impl_Rat_impl_formed_2_0 m_impl_formed_2
   rw [decide_eq_true (by omega),cond_true,grd_pos (by omega),getD_nat,w64' (n := cols + (rows.length : Int)) (by omega) (by omega),w64' (n := cols + (rows.length : Int) + 1) (by omega) (by omega),w64' (n := (k : Int) + 1) (by omega) (by omega),Option.bind_some]
   unfold rowOk
   have e2 : (((rows.getD k []).length : Int) != cols + (rows.length : Int) + 1) = !(((rows.getD k []).length : Int) == cols + (rows.length : Int) + 1) := rfl
   rw [e2]
   cases ((rows.getD k []).length : Int) == cols + (rows.length : Int) + 1 <;> rfl)
  (by unfold l_slices_IndexFunc_impl_Rat_impl_Rat_impl_formed_2_0; rw [decide_eq_false (by omega)]; rfl)
 simp only [Int.natCast_zero] at hit
 rw [hit]
 have hf := find_all rows.length (rowOk rows cols)
 cases hfd : (List.range rows.length).find? (fun i => !rowOk rows cols i) with
 | none => rw [hf.1 hfd]; rfl
 | some i =>
  cases hall : (List.range rows.length).all (rowOk rows cols) with
  | false =>
   simp only [Option.bind_some]
   rw [decide_eq_true (by omega)]
   rfl
  | true => rw [hf.2 hall] at hfd; cases hfd
theorem impl_tabOk (rows : List (List Q)) (basis : List Int) (cols : Int) (hr : rows.length ≤ 1048576) (hb : basis.length ≤ 1048576) : m_impl_formed rows basis cols = some (tabOk rows basis cols) := by
 unfold m_impl_formed tabOk
 rw [within_eq,Option.bind_some]
 by_cases hc : 0 ≤ cols ∧ cols ≤ 1000
 ·rw [decide_eq_true hc,Bool.not_true,cond_false]
  by_cases h3 : basis.length = rows.length
  ·have e : ((basis.length : Int) != (rows.length : Int)) = false := by simp [h3]
   rw [e,cond_false,impl_bas rows basis cols hc hr h3,impl_rowsOk rows basis cols hc hr,decide_eq_true h3]
   cases (List.range rows.length).all (basOk rows basis cols) <;> cases (List.range rows.length).all (rowOk rows cols) <;> rfl
  ·have e : ((basis.length : Int) != (rows.length : Int)) = true := by
    rw [bne_iff_ne]
    omega
   rw [e,cond_true,decide_eq_false h3]
   rfl
 ·rw [decide_eq_false hc]
  rfl
def cellQ (rows : List (List Q)) (k : Nat) (j : Int) : Q := (rows.getD k []).getD j.toNat ⟨0,0⟩
def lvNext (rows : List (List Q)) (basis : List Int) (cols col : Int) (k : Nat) (st : Int × Int × Int) : Int × Int × Int :=
 if cmpQ (cellQ rows k col).num (cellQ rows k col).den 0 1 ≤ 0 then st else
  match divQ (cellQ rows k (cols + rows.length)).num (cellQ rows k (cols + rows.length)).den (cellQ rows k col).num (cellQ rows k col).den with
  | (a,b,o) => bif !o then st else
   if st.1 < 0 then ((k : Int),a,b) else if cmpQ a b st.2.1 st.2.2 < 0 then ((k : Int),a,b) else if cmpQ a b st.2.1 st.2.2 = 0 ∧ basis.getD k 0 < basis.getD st.1.toNat 0 then ((k : Int),a,b) else st
def lvSt (rows : List (List Q)) (basis : List Int) (cols col : Int) : Nat → Int × Int × Int
 | 0 => (-1,0,0)
 | k + 1 => lvNext rows basis cols col k (lvSt rows basis cols col k)
theorem lv_next_inv {rows : List (List Q)} {basis : List Int} {cols col : Int} {k : Nat} {st : Int × Int × Int} (h : st.1 < k) : (lvNext rows basis cols col k st).1 < ((k + 1 : Nat) : Int) := by
 unfold lvNext
 split
 ·omega
 ·rcases divQ (cellQ rows k (cols + rows.length)).num (cellQ rows k (cols + rows.length)).den (cellQ rows k col).num (cellQ rows k col).den with ⟨a,b,o⟩
  cases o
  ·show st.1 < _
   omega
  ·show (if st.1 < 0 then ((k : Int),a,b) else if cmpQ a b st.2.1 st.2.2 < 0 then ((k : Int),a,b) else if cmpQ a b st.2.1 st.2.2 = 0 ∧ basis.getD k 0 < basis.getD st.1.toNat 0 then ((k : Int),a,b) else st).1 < _
   split
   ·show (k : Int) < _
    omega
   ·split
    ·show (k : Int) < _
     omega
    ·split
     ·show (k : Int) < _
      omega
     ·omega
theorem lv_inv (rows : List (List Q)) (basis : List Int) (cols col : Int) : ∀ k,(lvSt rows basis cols col k).1 < (k : Int)
 | 0 => by show (-1 : Int) < _; omega
 | k + 1 => lv_next_inv (lv_inv rows basis cols col k)
theorem tabOk_parts {rows : List (List Q)} {basis : List Int} {cols : Int} (h : tabOk rows basis cols = true) : (0 ≤ cols ∧ cols ≤ 1000) ∧ basis.length = rows.length ∧ ∀ k,k < rows.length → ((rows.getD k []).length : Int) = cols + rows.length + 1 ∧ 0 ≤ basis.getD k 0 ∧ basis.getD k 0 ≤ cols + rows.length - 1 := by
 unfold tabOk at h
 simp only [Bool.and_eq_true] at h
 obtain ⟨h1,h2,h3,h4⟩ := h
 refine ⟨of_decide_eq_true h1,of_decide_eq_true h2,fun k hk => ?_⟩
 have a := List.all_eq_true.1 h4 k (List.mem_range.2 hk)
 have b := List.all_eq_true.1 h3 k (List.mem_range.2 hk)
 unfold rowOk at a
 unfold basOk at b
 have b := of_decide_eq_true b
 exact ⟨by simpa using a,b.1,b.2⟩
theorem spec_sign (a b : Int) : m_spec_l3Sign a b = some (cmpQ a b 0 1) := by
 unfold m_spec_l3Sign m_spec_l3Int
 rw [Option.bind_some]
 dsimp only
 rw [spec_cmp]
 rfl
theorem impl_sign (a b : Int) : m_impl_sign a b = some (cmpQ a b 0 1) := by
 unfold m_impl_sign m_impl_whole
 rw [Option.bind_some]
 dsimp only
 rw [impl_cmp]
 rfl
theorem spec_lvStep (rows : List (List Q)) (basis : List Int) (cols col : Int) (hr : rows.length ≤ 1048576) (ht : tabOk rows basis cols = true) (hcol : 0 ≤ col ∧ col ≤ cols + rows.length - 1) (k : Nat) (hk : k < rows.length) (b x y : Int) (hb : b < k) :
  l_spec_LeavingRow_0 rows basis cols col (b,(k : Int),x,y) = some (.inl ((lvNext rows basis cols col k (b,x,y)).1,((k + 1 : Nat) : Int),(lvNext rows basis cols col k (b,x,y)).2.1,(lvNext rows basis cols col k (b,x,y)).2.2)) := by
 obtain ⟨hc,hbl,hrow⟩ := tabOk_parts ht
 obtain ⟨r1,_⟩ := hrow k hk
 unfold l_spec_LeavingRow_0
 dsimp only
 have g1 : (0 : Int) ≤ (k : Int) ∧ (k : Int) < (rows.length : Int) := by omega
 have g2 : (0 : Int) ≤ col ∧ col < ((rows.getD k []).length : Int) := by omega
 have g3 : (0 : Int) ≤ cols + (rows.length : Int) ∧ cols + (rows.length : Int) < ((rows.getD k []).length : Int) := by omega
 have g4 : (0 : Int) ≤ (k : Int) ∧ (k : Int) < (basis.length : Int) := by omega
 rw [decide_eq_true (by omega),cond_true,w64' (n := cols + (rows.length : Int)) (by omega) (by omega),w64' (n := (k : Int) + 1) (by omega) (by omega),getD_nat,getD_nat]
 simp only [grd_pos g1,grd_pos g2,grd_pos g3,grd_pos g4,div_eq',spec_sign,spec_cmp,Option.bind_some]
 show _ = some (Sum.inl ((lvNext rows basis cols col k (b,x,y)).1,((k + 1 : Nat) : Int),(lvNext rows basis cols col k (b,x,y)).2.1,(lvNext rows basis cols col k (b,x,y)).2.2))
 unfold lvNext cellQ
 rcases divQ ((rows.getD k []).getD (cols + (rows.length : Int)).toNat ⟨0,0⟩).num ((rows.getD k []).getD (cols + (rows.length : Int)).toNat ⟨0,0⟩).den ((rows.getD k []).getD col.toNat ⟨0,0⟩).num ((rows.getD k []).getD col.toNat ⟨0,0⟩).den with ⟨p,q,o⟩
 dsimp only
 by_cases h1 : cmpQ ((rows.getD k []).getD col.toNat ⟨0,0⟩).num ((rows.getD k []).getD col.toNat ⟨0,0⟩).den 0 1 ≤ 0
 ·rw [decide_eq_true h1,if_pos h1]
  rfl
 ·rw [decide_eq_false h1,if_neg h1,cond_false]
  cases o with
  | false => rfl
  | true =>
   simp only [Bool.not_true,cond_false]
   by_cases h2 : b < 0
   ·rw [decide_eq_true h2,if_pos h2]
    rfl
   ·rw [decide_eq_false h2,if_neg h2,cond_false]
    by_cases h3 : cmpQ p q x y < 0
    ·rw [decide_eq_true h3,if_pos h3]
     rfl
    ·rw [decide_eq_false h3,if_neg h3,cond_false,grd_pos (by omega)]
     by_cases h4 : cmpQ p q x y = 0
     ·have e4 : (cmpQ p q x y == 0) = true := by simpa using h4
      rw [e4,cond_true]
      by_cases h5 : basis.getD k 0 < basis.getD b.toNat 0
      ·rw [decide_eq_true h5,if_pos ⟨h4,h5⟩]
       rfl
      ·rw [decide_eq_false h5,if_neg fun h => h5 h.2]
       rfl
     ·have e4 : (cmpQ p q x y == 0) = false := by simpa using h4
      rw [e4,if_neg fun h => h4 h.1]
      rfl
theorem impl_lvStep (rows : List (List Q)) (basis : List Int) (cols col : Int) (hr : rows.length ≤ 1048576) (ht : tabOk rows basis cols = true) (hcol : 0 ≤ col ∧ col ≤ cols + rows.length - 1) (k : Nat) (hk : k < rows.length) (b x y : Int) (hb : b < k) :
  l_impl_LeavingRow_0 rows basis col (b,(k : Int),x,y) = some (.inl ((lvNext rows basis cols col k (b,x,y)).1,((k + 1 : Nat) : Int),(lvNext rows basis cols col k (b,x,y)).2.1,(lvNext rows basis cols col k (b,x,y)).2.2)) := by
 obtain ⟨hc,hbl,hrow⟩ := tabOk_parts ht
 obtain ⟨r1,_⟩ := hrow k hk
 unfold l_impl_LeavingRow_0
 dsimp only
 have g1 : (0 : Int) ≤ (k : Int) ∧ (k : Int) < (rows.length : Int) := by omega
 have g2 : (0 : Int) ≤ col ∧ col < ((rows.getD k []).length : Int) := by omega
 have g3 : (0 : Int) ≤ cols + (rows.length : Int) ∧ cols + (rows.length : Int) < ((rows.getD k []).length : Int) := by omega
 have g4 : (0 : Int) ≤ (k : Int) ∧ (k : Int) < (basis.length : Int) := by omega
 have e0 : ((rows.getD k []).length : Int) - 1 = cols + (rows.length : Int) := by omega
 rw [decide_eq_true (by omega),cond_true,getD_nat,getD_nat,e0,w64' (n := cols + (rows.length : Int)) (by omega) (by omega),w64' (n := (k : Int) + 1) (by omega) (by omega)]
 simp only [grd_pos g1,grd_pos g2,grd_pos g3,grd_pos g4,impl_div,impl_sign,impl_cmp,Option.bind_some]
 unfold lvNext cellQ
 rcases divQ ((rows.getD k []).getD (cols + (rows.length : Int)).toNat ⟨0,0⟩).num ((rows.getD k []).getD (cols + (rows.length : Int)).toNat ⟨0,0⟩).den ((rows.getD k []).getD col.toNat ⟨0,0⟩).num ((rows.getD k []).getD col.toNat ⟨0,0⟩).den with ⟨p,q,o⟩
 dsimp only
 by_cases h1 : cmpQ ((rows.getD k []).getD col.toNat ⟨0,0⟩).num ((rows.getD k []).getD col.toNat ⟨0,0⟩).den 0 1 ≤ 0
 ·rw [decide_eq_true h1,if_pos h1]
  rfl
 ·rw [decide_eq_false h1,if_neg h1,cond_false]
  cases o with
  | false => rfl
  | true =>
   simp only [Bool.not_true,cond_false]
   by_cases h2 : b < 0
   ·rw [decide_eq_true h2,if_pos h2]
    rfl
   ·rw [decide_eq_false h2,if_neg h2,cond_false]
    by_cases h3 : cmpQ p q x y < 0
    ·rw [decide_eq_true h3,if_pos h3]
     rfl
    ·rw [decide_eq_false h3,if_neg h3,cond_false,grd_pos (by omega)]
     by_cases h4 : cmpQ p q x y = 0
     ·have e4 : (cmpQ p q x y == 0) = true := by simpa using h4
      rw [e4,cond_true]
      by_cases h5 : basis.getD k 0 < basis.getD b.toNat 0
      ·rw [decide_eq_true h5,if_pos ⟨h4,h5⟩]
       rfl
      ·rw [decide_eq_false h5,if_neg fun h => h5 h.2]
       rfl
     ·have e4 : (cmpQ p q x y == 0) = false := by simpa using h4
      rw [e4,if_neg fun h => h4 h.1]
      rfl
def smallB (l : List Int) : Bool := (List.range l.length).all fun i => decide (-5000 ≤ l.getD i 0 ∧ l.getD i 0 ≤ 5000)
theorem spec_small (l : List Int) (hl : l.length ≤ 1048576) : m_spec_l5Small l = some (smallB l) := by
 unfold m_spec_l5Small smallB
 have hit := iter_findc (step := l_spec_l5Small_0 l) (fun i => (i : Int)) l.length (fun i => !decide (-5000 ≤ l.getD i 0 ∧ l.getD i 0 ≤ 5000)) (.inl ()) (fun _ => .inr false)
  (fun i hi => by
   unfold l_spec_l5Small_0
   rw [decide_eq_true (by omega),cond_true,grd_pos (by omega),getD_nat,in_eq,w64' (by omega) (by omega),Option.bind_some]
   cases decide (-5000 ≤ l.getD i 0 ∧ l.getD i 0 ≤ 5000) <;> rfl)
  (by unfold l_spec_l5Small_0; rw [decide_eq_false (by omega)]; rfl)
 simp only [Int.natCast_zero] at hit
 rw [find_all2] at hit
 rw [hit]
 cases (List.range l.length).all (fun i => decide (-5000 ≤ l.getD i 0 ∧ l.getD i 0 ≤ 5000)) <;> rfl
theorem impl_small (l : List Int) (hl : l.length ≤ 1048576) : m_slices_ContainsFunc_int_int_impl_IsValidLP_1 l = some (!smallB l) := by
 unfold m_slices_ContainsFunc_int_int_impl_IsValidLP_1 m_slices_IndexFunc_int_int_impl_IsValidLP_1 smallB
 have hit := iter_findc (step := l_slices_IndexFunc_int_int_impl_IsValidLP_1_0 l) (fun i => (i : Int)) l.length (fun i => !decide (-5000 ≤ l.getD i 0 ∧ l.getD i 0 ≤ 5000)) (.inl ()) (fun i => .inr (i : Int))
  (fun i hi => by
   unfold l_slices_IndexFunc_int_int_impl_IsValidLP_1_0 m_impl_IsValidLP_1
   rw [decide_eq_true (by omega),cond_true,grd_pos (by omega),getD_nat,within_eq,w64' (by omega) (by omega),Option.bind_some,Option.bind_some]
   cases decide (-5000 ≤ l.getD i 0 ∧ l.getD i 0 ≤ 5000) <;> rfl)
  (by unfold l_slices_IndexFunc_int_int_impl_IsValidLP_1_0; rw [decide_eq_false (by omega)]; rfl)
 simp only [Int.natCast_zero] at hit
 rw [hit]
 have hf := find_all l.length (fun i => decide (-5000 ≤ l.getD i 0 ∧ l.getD i 0 ≤ 5000))
 cases hfd : (List.range l.length).find? (fun i => !decide (-5000 ≤ l.getD i 0 ∧ l.getD i 0 ≤ 5000)) with
 | none => rw [hf.1 hfd]; rfl
 | some i =>
  cases hall : (List.range l.length).all (fun i => decide (-5000 ≤ l.getD i 0 ∧ l.getD i 0 ≤ 5000)) with
  | false =>
   simp only [Option.bind_some]
   rw [decide_eq_true (by omega)]
   rfl
  | true => rw [hf.2 hall] at hfd; cases hfd
def lpRow (A : List (List Int)) (C : List Q) (k : Nat) : Bool := (((A.getD k []).length : Int) == C.length) && smallB (A.getD k [])
def lpOk (A : List (List Int)) (B : List Int) (C : List Q) : Bool := (List.range A.length).all (lpRow A C) && (decide ((C.length : Int) ≤ 70) && (decide ((A.length : Int) ≤ 8) && (((B.length : Int) == A.length) && (smallB B && allB C))))
theorem spec_lp (A : List (List Int)) (B : List Int) (C : List Q) (hA : A.length ≤ 1048576) (hAr : ∀ i,i < A.length → (A.getD i []).length ≤ 1048576) (hB : B.length ≤ 1048576) (hC : C.length ≤ 1048576) : m_spec_IsValidLP A B C = some (lpOk A B C) := by
 unfold m_spec_IsValidLP lpOk
 have hit := iter_findc (step := l_spec_IsValidLP_0 A C) (fun i => (i : Int)) A.length (fun k => !lpRow A C k) (.inl ()) (fun _ => .inr false)
  (fun i hi => by
   unfold l_spec_IsValidLP_0 lpRow
   rw [decide_eq_true (by omega),cond_true,grd_pos (by omega),grd_pos (by omega),getD_nat,spec_small _ (hAr i hi),w64' (by omega) (by omega),Option.bind_some]
   have e : (((A.getD i []).length : Int) != (C.length : Int)) = !(((A.getD i []).length : Int) == (C.length : Int)) := rfl
   rw [e]
   cases ((A.getD i []).length : Int) == (C.length : Int) <;> cases smallB (A.getD i []) <;> rfl)
  (by unfold l_spec_IsValidLP_0; rw [decide_eq_false (by omega)]; rfl)
 simp only [Int.natCast_zero] at hit
 rw [find_all2] at hit
 rw [hit,spec_small B hB,spec_allv C hC]
 cases (List.range A.length).all (lpRow A C) with
 | false => rfl
 | true =>
  cases decide ((C.length : Int) ≤ 70) <;> cases decide ((A.length : Int) ≤ 8) <;> cases (B.length : Int) == (A.length : Int) <;> cases smallB B <;> cases allB C <;> rfl
theorem impl_lp (A : List (List Int)) (B : List Int) (C : List Q) (hA : A.length ≤ 1048576) (hAr : ∀ i,i < A.length → (A.getD i []).length ≤ 1048576) (hB : B.length ≤ 1048576) (hC : C.length ≤ 1048576) : m_impl_IsValidLP A B C = some (lpOk A B C) := by
 unfold m_impl_IsValidLP lpOk
 have hit := iter_findc (step := l_impl_IsValidLP_0 A C) (fun i => (i : Int)) A.length (fun k => !lpRow A C k) (.inl ()) (fun _ => .inr false)
  (fun i hi => by
   unfold l_impl_IsValidLP_0 lpRow
   rw [decide_eq_true (by omega),cond_true,grd_pos (by omega),getD_nat,impl_small _ (hAr i hi),w64' (by omega) (by omega),Option.bind_some]
   have e : (((A.getD i []).length : Int) != (C.length : Int)) = !(((A.getD i []).length : Int) == (C.length : Int)) := rfl
   rw [e]
   cases ((A.getD i []).length : Int) == (C.length : Int) <;> cases smallB (A.getD i []) <;> rfl)
  (by unfold l_impl_IsValidLP_0; rw [decide_eq_false (by omega)]; rfl)
 simp only [Int.natCast_zero] at hit
 rw [find_all2] at hit
 rw [hit,impl_small B hB,impl_allv C hC]
 have e1 : decide ((C.length : Int) > 70) = !decide ((C.length : Int) ≤ 70) := by
  by_cases h : (C.length : Int) ≤ 70
  ·rw [decide_eq_true h,decide_eq_false (by omega)]
   rfl
  ·rw [decide_eq_false h,decide_eq_true (by omega)]
   rfl
 have e2 : decide ((A.length : Int) > 8) = !decide ((A.length : Int) ≤ 8) := by
  by_cases h : (A.length : Int) ≤ 8
  ·rw [decide_eq_true h,decide_eq_false (by omega)]
   rfl
  ·rw [decide_eq_false h,decide_eq_true (by omega)]
   rfl
 have e3 : ((B.length : Int) != (A.length : Int)) = !((B.length : Int) == (A.length : Int)) := rfl
 rw [e1,e2,e3]
 cases (List.range A.length).all (lpRow A C) <;> cases decide ((C.length : Int) ≤ 70) <;> cases decide ((A.length : Int) ≤ 8) <;> cases (B.length : Int) == (A.length : Int) <;> cases smallB B <;> cases allB C <;> rfl
def gvB (A : List (List Int)) (x : List Q) (b : List Int) : Bool := (List.range A.length).all fun k => decide (dotQ (ratsOf (A.getD k [])) x = (b.getD k 0,1,true))
theorem small_ok {l : List Int} (h : smallB l = true) : ∀ i,i < l.length → -1000000000 ≤ l.getD i 0 ∧ l.getD i 0 ≤ 1000000000 := by
 intro i hi
 have := of_decide_eq_true (List.all_eq_true.1 h i (List.mem_range.2 hi))
 omega
theorem dot_is {α : Type} (r : Int × Int × Bool) (v : Int) (x y : α) : (bif !r.2.2 then x else bif !(r.1 == v && r.2.1 == 1) then x else y) = bif !decide (r = (v,1,true)) then x else y := by
 obtain ⟨a,b,c⟩ := r
 cases c with
 | false => simp
 | true =>
  by_cases h : a = v ∧ b = 1
  ·simp [h.1,h.2]
  ·have h1 : (a == v && b == 1) = false := by
    rw [← Bool.not_eq_true]
    simpa using h
   have h2 : ¬ ((a,b,true) = (v,(1 : Int),true)) := fun e => h (by simpa using e)
   rw [decide_eq_false h2]
   simp [h1]
theorem spec_gv (A : List (List Int)) (B : List Int) (C x : List Q) (b : List Int) (hA : A.length ≤ 1048576) (hAr : ∀ i,i < A.length → (A.getD i []).length ≤ 1048576 ∧ smallB (A.getD i []) = true) (hb : b.length = A.length) : m_spec_l5Gives A B C x b = some (gvB A x b) := by
 unfold m_spec_l5Gives gvB
 have hit := iter_findc (step := l_spec_l5Gives_0 A x b) (fun i => (i : Int)) A.length (fun k => !decide (dotQ (ratsOf (A.getD k [])) x = (b.getD k 0,1,true))) (.inl ()) (fun _ => .inr false)
  (fun k hk => by
   have hg : (0 : Int) ≤ (k : Int) ∧ (k : Int) < (b.length : Int) := by omega
   unfold l_spec_l5Gives_0 m_spec_l3Int
   rw [decide_eq_true (by omega),cond_true,grd_pos (by omega),getD_nat,getD_nat,spec_l5dot _ _ (hAr k hk).1 (small_ok (hAr k hk).2),w64' (by omega) (by omega)]
   simp only [Option.bind_some,grd_pos hg]
   refine (dot_is (dotQ (ratsOf (A.getD k [])) x) (b.getD k 0) (some (.inr (.inr false)) : Option (Int ⊕ (Unit ⊕ Bool))) (some (.inl ((k : Int) + 1)))).trans ?_
   cases decide (dotQ (ratsOf (A.getD k [])) x = (b.getD k 0,1,true)) <;> rfl)
  (by unfold l_spec_l5Gives_0; rw [decide_eq_false (by omega)]; rfl)
 simp only [Int.natCast_zero] at hit
 rw [find_all2] at hit
 rw [hit]
 cases (List.range A.length).all (fun k => decide (dotQ (ratsOf (A.getD k [])) x = (b.getD k 0,1,true))) <;> rfl
theorem impl_gv (A : List (List Int)) (B : List Int) (C x : List Q) (b : List Int) (hA : A.length ≤ 1048576) (hAr : ∀ i,i < A.length → (A.getD i []).length ≤ 1048576 ∧ smallB (A.getD i []) = true) (hb : b.length = A.length) : m_impl_gives A B C x b = some (gvB A x b) := by
 unfold m_impl_gives gvB
 have hit := iter_findc (step := l_impl_gives_0 A x b) (fun i => (i : Int)) A.length (fun k => !decide (dotQ (ratsOf (A.getD k [])) x = (b.getD k 0,1,true))) (.inl ()) (fun _ => .inr false)
  (fun k hk => by
   have hg : (0 : Int) ≤ (k : Int) ∧ (k : Int) < (b.length : Int) := by omega
   unfold l_impl_gives_0 m_impl_whole
   rw [decide_eq_true (by omega),cond_true,grd_pos (by omega),getD_nat,getD_nat,impl_rats _ (hAr k hk).1 (small_ok (hAr k hk).2),Option.bind_some,impl_dot _ _ (by rw [ratsOf_length]; exact (hAr k hk).1),w64' (by omega) (by omega)]
   simp only [Option.bind_some,grd_pos hg]
   refine (dot_is (dotQ (ratsOf (A.getD k [])) x) (b.getD k 0) (some (.inr (.inr false)) : Option (Int ⊕ (Unit ⊕ Bool))) (some (.inl ((k : Int) + 1)))).trans ?_
   cases decide (dotQ (ratsOf (A.getD k [])) x = (b.getD k 0,1,true)) <;> rfl)
  (by unfold l_impl_gives_0; rw [decide_eq_false (by omega)]; rfl)
 simp only [Int.natCast_zero] at hit
 rw [find_all2] at hit
 rw [hit]
 cases (List.range A.length).all (fun k => decide (dotQ (ratsOf (A.getD k [])) x = (b.getD k 0,1,true))) <;> rfl
def feasB (A : List (List Int)) (B : List Int) (C x : List Q) : Bool := lpOk A B C && (((x.length : Int) == C.length) && (nnB x && gvB A x B))
theorem lpOk_parts {A : List (List Int)} {B : List Int} {C : List Q} (h : lpOk A B C = true) : (∀ k,k < A.length → (A.getD k []).length = C.length ∧ smallB (A.getD k []) = true) ∧ C.length ≤ 70 ∧ A.length ≤ 8 ∧ B.length = A.length ∧ smallB B = true ∧ allB C = true := by
 unfold lpOk at h
 simp only [Bool.and_eq_true] at h
 obtain ⟨h1,h2,h3,h4,h5,h6⟩ := h
 have h2 := of_decide_eq_true h2
 have h3 := of_decide_eq_true h3
 have h4 : (B.length : Int) = (A.length : Int) := by simpa using h4
 refine ⟨fun k hk => ?_,by omega,by omega,by omega,h5,h6⟩
 have := List.all_eq_true.1 h1 k (List.mem_range.2 hk)
 unfold lpRow at this
 simp only [Bool.and_eq_true] at this
 have h7 : ((A.getD k []).length : Int) = (C.length : Int) := by simpa using this.1
 exact ⟨by omega,this.2⟩
theorem spec_feas (A : List (List Int)) (B : List Int) (C x : List Q) (hA : A.length ≤ 1048576) (hAr : ∀ i,i < A.length → (A.getD i []).length ≤ 1048576) (hB : B.length ≤ 1048576) (hC : C.length ≤ 1048576) (hx : x.length ≤ 1048576) : m_spec_IsFeasible A B C x = some (feasB A B C x) := by
 unfold m_spec_IsFeasible feasB
 rw [spec_lp A B C hA hAr hB hC,Option.bind_some]
 cases hlp : lpOk A B C with
 | false => rfl
 | true =>
  obtain ⟨p1,p2,p3,p4,p5,p6⟩ := lpOk_parts hlp
  rw [cond_true,spec_nn x hx,spec_gv A B C x B hA (fun i hi => ⟨hAr i hi,(p1 i hi).2⟩) p4]
  cases (x.length : Int) == (C.length : Int) <;> cases nnB x <;> cases gvB A x B <;> rfl
theorem impl_feas (A : List (List Int)) (B : List Int) (C x : List Q) (hA : A.length ≤ 1048576) (hAr : ∀ i,i < A.length → (A.getD i []).length ≤ 1048576) (hB : B.length ≤ 1048576) (hC : C.length ≤ 1048576) (hx : x.length ≤ 1048576) : m_impl_IsFeasible A B C x = some (feasB A B C x) := by
 unfold m_impl_IsFeasible m_impl_notNegative feasB
 rw [impl_lp A B C hA hAr hB hC,Option.bind_some]
 cases hlp : lpOk A B C with
 | false => rfl
 | true =>
  obtain ⟨p1,p2,p3,p4,p5,p6⟩ := lpOk_parts hlp
  rw [cond_true,impl_nn1 x hx,impl_gv A B C x B hA (fun i hi => ⟨hAr i hi,(p1 i hi).2⟩) p4]
  cases (x.length : Int) == (C.length : Int) <;> cases nnB x <;> cases gvB A x B <;> rfl
theorem iter_dec {S A : Type} {step : S → Option (S ⊕ A)} (I : Nat → S → Prop) (Post : A → Prop)
  (h : ∀ k s,I k s → (∃ a,step s = some (.inr a) ∧ Post a) ∨ ∃ s' k',k = k' + 1 ∧ step s = some (.inl s') ∧ I k' s') : ∀ k s,I k s → ∃ a,iter step s = some a ∧ Post a := by
 intro k
 induction k with
 | zero =>
  intro s hs
  rcases h 0 s hs with ⟨a,h1,h2⟩ | ⟨s',k',h1,_⟩
  ·exact ⟨a,iter_done h1,h2⟩
  ·omega
 | succ k ih =>
  intro s hs
  rcases h _ s hs with ⟨a,h1,h2⟩ | ⟨s',k',h1,h2,h3⟩
  ·exact ⟨a,iter_done h1,h2⟩
  ·obtain rfl : k' = k := by omega
   obtain ⟨a,h4,h5⟩ := ih s' h3
   exact ⟨a,by rw [iter_next h2]; exact h4,h5⟩
theorem and255 (x : Int) : 0 ≤ bitsOf .and .i64 x 255 ∧ bitsOf .and .i64 x 255 ≤ 255 := by
 have h : (BitVec.ofInt 64 x &&& BitVec.ofInt 64 255).toNat ≤ 255 := by
  rw [BitVec.toNat_and]
  exact Nat.le_trans Nat.and_le_right (by decide)
 show 0 ≤ IntKind.i64.wrap ((BitVec.ofInt 64 x &&& BitVec.ofInt 64 255).toNat : Int) ∧ IntKind.i64.wrap ((BitVec.ofInt 64 x &&& BitVec.ofInt 64 255).toNat : Int) ≤ 255
 rw [w64' (by omega) (by omega)]
 omega
theorem new_loop (c : List UInt8) (h0 : Int) : ∃ h,iter (l_spec_l1New_io4_0 c) (h0,0) = some h := by
 obtain ⟨a,h1,_⟩ := iter_dec (step := l_spec_l1New_io4_0 c) (fun k s => s.2 + k = 4000 ∧ 0 ≤ s.2) (fun _ => True) (fun k ⟨v1,v2⟩ ⟨h1,h2⟩ => by
  simp only at h1 h2
  unfold l_spec_l1New_io4_0
  simp only
  by_cases e1 : v2 < (c.length : Int)
  ·by_cases e2 : v2 < 4000
   ·rw [decide_eq_true e1,decide_eq_true e2,cond_true,cond_true,grd_pos ⟨h2,e1⟩]
    exact .inr ⟨_,k - 1,by omega,rfl,by simp only; rw [w64' (by omega) (by omega)]; omega,by simp only; rw [w64' (by omega) (by omega)]; omega⟩
   ·rw [decide_eq_true e1,decide_eq_false e2,cond_true,cond_false]
    exact .inl ⟨_,rfl,trivial⟩
  ·rw [decide_eq_false e1,cond_false]
   exact .inl ⟨_,rfl,trivial⟩) 4000 (h0,0) ⟨rfl,Int.le_refl 0⟩
 exact ⟨a,h1⟩
theorem byte_ok (c : List UInt8) (i h : Int) (hc : c.length ≤ 1048576) (hi : 0 ≤ i) : ∃ x i' h',m_spec_l1Byte_io1 c i h = some (x,i',h') ∧ (0 ≤ x ∧ x ≤ 255) ∧ 0 ≤ i' := by
 unfold m_spec_l1Byte_io1
 rw [grd_pos (by decide),grd_pos (by decide),Option.bind_some]
 by_cases hlt : i < (c.length : Int)
 ·rw [decide_eq_true hlt,cond_true,grd_pos ⟨hi,hlt⟩]
  exact ⟨_,_,_,rfl,and255 _,by rw [w64' (by omega) (by omega)]; omega⟩
 ·rw [decide_eq_false hlt,cond_false]
  exact ⟨_,_,_,rfl,and255 _,hi⟩
theorem below_ok (c : List UInt8) (i h n : Int) (hc : c.length ≤ 1048576) (hi : 0 ≤ i) (hn : n ≤ 256) : ∃ x i' h',m_spec_l1Below_io1 c i h n = some (x,i',h') ∧ (0 ≤ x ∧ (x < n ∨ x = 0)) ∧ 0 ≤ i' := by
 unfold m_spec_l1Below_io1
 by_cases h0 : n ≤ 0
 ·rw [decide_eq_true h0,cond_true]
  exact ⟨_,_,_,rfl,⟨Int.le_refl 0,.inr rfl⟩,hi⟩
 ·rw [decide_eq_false h0,cond_false,decide_eq_true hn,cond_true]
  obtain ⟨x,i',h',e,hx,hi'⟩ := byte_ok c i h hc hi
  rw [e,Option.bind_some]
  dsimp only
  rw [grd_pos (by omega)]
  exact ⟨_,_,_,rfl,⟨Int.tmod_nonneg _ hx.1,.inl (Int.tmod_lt_of_pos _ (by omega))⟩,hi'⟩
theorem pick_ok (c : List UInt8) (i h : Int) (l : List Int) (hc : c.length ≤ 1048576) (hi : 0 ≤ i) (h1 : 1 ≤ l.length) (h2 : l.length ≤ 256) : ∃ x i' h',m_spec_l1PickInt_io1 c i h l = some (x,i',h') ∧ x ∈ l ∧ 0 ≤ i' := by
 unfold m_spec_l1PickInt_io1
 obtain ⟨x,i',h',e,hx,hi'⟩ := below_ok c i h l.length hc hi (by omega)
 rw [e,Option.bind_some]
 dsimp only
 have hlt : x < (l.length : Int) := by omega
 rw [grd_pos ⟨hx.1,hlt⟩]
 refine ⟨_,_,_,rfl,?_,hi'⟩
 have : x.toNat < l.length := by omega
 rw [List.getD_eq_getElem?_getD,List.getElem?_eq_getElem this,Option.getD_some]
 exact List.getElem_mem this
theorem once_ok (c : List UInt8) (i h n : Int) (hc : c.length ≤ 1048576) (hi : 0 ≤ i) (hn : n ≤ 256) : ∃ x i' h',m_spec_l1Once_io1 c i h n = some (x,i',h') ∧ 0 ≤ i' := by
 unfold m_spec_l1Once_io1
 obtain ⟨x,i',h',e,_,hi'⟩ := below_ok c i h n hc hi hn
 rw [e,Option.bind_some]
 exact ⟨_,_,_,rfl,hi'⟩
theorem int_cop {a b c : Int} (h : a ∣ b * c) (g : Int.gcd b a = 1) : a ∣ c := by
 have h1 : a.natAbs ∣ b.natAbs * c.natAbs := by
  rw [← Int.natAbs_mul]
  exact Int.natAbs_dvd_natAbs.2 h
 refine Int.natAbs_dvd_natAbs.1 (Nat.Coprime.dvd_of_dvd_mul_left ?_ h1)
 rw [Int.gcd_eq_natAbs_gcd_natAbs,Nat.gcd_comm] at g
 exact g
def rv (a b : Int) : Rat := (a : Rat) / (b : Rat)
def qr (q : Q) : Rat := rv q.num q.den
theorem castne {b : Int} (h : b ≠ 0) : (b : Rat) ≠ 0 := fun e => h (Rat.intCast_eq_zero_iff.1 e)
theorem rv_mul {a b : Int} (h : b ≠ 0) : rv a b * (b : Rat) = (a : Rat) := Rat.div_mul_cancel (castne h)
theorem rv_uniq {r : Rat} {a b : Int} (h : b ≠ 0) (e : r * (b : Rat) = (a : Rat)) : r = rv a b := by
 unfold rv
 rw [← e,Rat.mul_div_cancel (castne h)]
theorem rv_of {a b c d : Int} (hb : b ≠ 0) (hd : d ≠ 0) (h : a * d = c * b) : rv a b = rv c d := by
 refine rv_uniq hd ?_
 have e1 := rv_mul (a := a) hb
 have e2 : (a : Rat) * d = c * b := by rw [← Rat.intCast_mul,h,Rat.intCast_mul]
 have e3 := castne hb
 have e4 : rv a b * d * b = c * b := by grind
 have e5 : rv a b * d * b / b = c * b / b := by rw [e4]
 rwa [Rat.mul_div_cancel e3,Rat.mul_div_cancel e3] at e5
theorem rv_cross {a b c d : Int} (hb : b ≠ 0) (hd : d ≠ 0) (h : rv a b = rv c d) : a * d = c * b := by
 have e1 := rv_mul (a := a) hb
 have e2 := rv_mul (a := c) hd
 refine Rat.intCast_inj.1 ?_
 rw [Rat.intCast_mul,Rat.intCast_mul,← e1,← e2,h]
 grind
theorem den_ne {a b : Int} (h : validQ a b = true) : b ≠ 0 := by
 have := validQ_bd h
 omega
def red (n d : Int) : Int × Int := ((if d < 0 then -n else n).tdiv (Int.gcd n d : Nat),(if d < 0 then -d else d).tdiv (Int.gcd n d : Nat))
theorem red_ok {n d : Int} (hd : d ≠ 0) : 1 ≤ (red n d).2 ∧ Int.gcd (red n d).1 (red n d).2 = 1 ∧ (red n d).1 * d = n * (red n d).2 := by
 have hg := gcd_pos' (n := n) hd
 obtain ⟨m,hm⟩ := Int.gcd_dvd_left n d
 obtain ⟨e,he⟩ := Int.gcd_dvd_right n d
 have hgi : (0 : Int) < (Int.gcd n d : Nat) := by omega
 have t1 : n.tdiv (Int.gcd n d : Nat) = m := by
  conv => lhs; lhs; rw [hm]
  exact Int.mul_tdiv_cancel_left _ (by omega)
 have t2 : d.tdiv (Int.gcd n d : Nat) = e := by
  conv => lhs; lhs; rw [he]
  exact Int.mul_tdiv_cancel_left _ (by omega)
 have hc : Int.gcd m e = 1 := by
  have h3 : Int.gcd ((Int.gcd n d : Nat) * m) ((Int.gcd n d : Nat) * e) = Int.gcd n d := by rw [← hm,← he]
  rw [Int.gcd_mul_left,Int.natAbs_natCast] at h3
  exact Nat.eq_of_mul_eq_mul_left hg (by rw [h3,Nat.mul_one])
 have hx : m * d = n * e := by
  generalize ((Int.gcd n d : Nat) : Int) = g at hm he
  subst hm he
  grind
 unfold red
 by_cases hn : d < 0
 ·simp only [if_pos hn,Int.neg_tdiv]
  rw [t1,t2]
  refine ⟨?_,by simpa using hc,by grind⟩
  rcases Int.lt_or_le 0 e with h | h
  ·have := Int.mul_pos hgi h
   omega
  ·by_cases h0 : e = 0
   ·rw [h0,Int.mul_zero] at he; exact absurd he hd
   ·omega
 ·simp only [if_neg hn]
  rw [t1,t2]
  refine ⟨?_,hc,hx⟩
  rcases Int.lt_or_le 0 e with h | h
  ·omega
  ·have := Int.mul_nonpos_of_nonneg_of_nonpos (by omega : (0 : Int) ≤ (Int.gcd n d : Nat)) h
   omega
theorem ratOf_val {n d a b : Int} (h : ratOf n d = (a,b,true)) : validQ a b = true ∧ d ≠ 0 ∧ rv a b = rv n d := by
 unfold ratOf at h
 by_cases h1 : d = 0 ∨ ¬ (-1000000000000000000 ≤ n ∧ n ≤ 1000000000000000000) ∨ ¬ (-1000000000000000000 ≤ d ∧ d ≤ 1000000000000000000)
 ·rw [if_pos h1] at h
  simp at h
 ·rw [if_neg h1] at h
  have hd : d ≠ 0 := fun e => h1 (.inl e)
  change (if validQ (red n d).1 (red n d).2 = true then ((red n d).1,(red n d).2,true) else (0,0,false)) = (a,b,true) at h
  by_cases h2 : validQ (red n d).1 (red n d).2 = true
  ·rw [if_pos h2] at h
   simp only [Prod.mk.injEq,and_true] at h
   obtain ⟨r1,r2⟩ := h
   have hr := red_ok (n := n) hd
   rw [r1,r2] at h2 hr
   exact ⟨h2,hd,rv_of (den_ne h2) hd hr.2.2⟩
  ·rw [if_neg h2] at h
   simp at h
theorem ratOf_of {n d a b : Int} (hv : validQ a b = true) (hd : d ≠ 0) (h1 : -1000000000000000000 ≤ n ∧ n ≤ 1000000000000000000) (h2 : -1000000000000000000 ≤ d ∧ d ≤ 1000000000000000000) (h : rv a b = rv n d) : ratOf n d = (a,b,true) := by
 have hr := red_ok (n := n) hd
 have hx := rv_cross (den_ne hv) hd h
 have vb := validQ_bd hv
 have k1 : (red n d).1 * b = a * (red n d).2 := by
  refine Int.eq_of_mul_eq_mul_right (a := d) hd ?_
  have := hr.2.2
  grind
 have d1 : b ∣ (red n d).2 := int_cop (b := a) ⟨(red n d).1,by rw [← k1,Int.mul_comm]⟩ vb.2.2.2.2
 have d2 : (red n d).2 ∣ b := int_cop (b := (red n d).1) ⟨a,by rw [k1,Int.mul_comm]⟩ hr.2.1
 have l1 := Int.le_of_dvd (by omega) d1
 have l2 := Int.le_of_dvd (by omega) d2
 have e2 : (red n d).2 = b := by omega
 rw [e2] at k1
 have e1 : (red n d).1 = a := Int.eq_of_mul_eq_mul_right (den_ne hv) k1
 unfold red at e1 e2
 dsimp only at e1 e2
 unfold ratOf
 rw [if_neg (by omega),e1,e2,if_pos hv]
theorem addQ_val {a b c d x y : Int} (h : addQ a b c d = (x,y,true)) : (validQ a b = true ∧ validQ c d = true) ∧ validQ x y = true ∧ rv x y = rv a b + rv c d := by
 unfold addQ at h
 split at h
 ·rename_i hv
  obtain ⟨h1,h2,h3⟩ := ratOf_val h
  refine ⟨hv,h1,?_⟩
  rw [h3]
  refine (rv_uniq h2 ?_).symm
  have e1 := rv_mul (a := a) (den_ne hv.1)
  have e2 := rv_mul (a := c) (den_ne hv.2)
  rw [Rat.intCast_add,Rat.intCast_mul,Rat.intCast_mul,Rat.intCast_mul,← e1,← e2]
  grind
 ·simp at h
theorem subQ_val {a b c d x y : Int} (h : subQ a b c d = (x,y,true)) : (validQ a b = true ∧ validQ c d = true) ∧ validQ x y = true ∧ rv x y = rv a b - rv c d := by
 unfold subQ at h
 split at h
 ·rename_i hv
  obtain ⟨h1,h2,h3⟩ := ratOf_val h
  refine ⟨hv,h1,?_⟩
  rw [h3]
  refine (rv_uniq h2 ?_).symm
  have e1 := rv_mul (a := a) (den_ne hv.1)
  have e2 := rv_mul (a := c) (den_ne hv.2)
  rw [Rat.intCast_sub,Rat.intCast_mul,Rat.intCast_mul,Rat.intCast_mul,← e1,← e2]
  grind
 ·simp at h
theorem subQ_of {a b c d x y : Int} (h1 : validQ a b = true) (h2 : validQ c d = true) (h3 : validQ x y = true) (hb : -1000000000000000000 ≤ a * d - c * b ∧ a * d - c * b ≤ 1000000000000000000) (h : rv x y = rv a b - rv c d) : subQ a b c d = (x,y,true) := by
 unfold subQ
 rw [if_pos ⟨h1,h2⟩]
 have hp := prodBd h1 h2
 have hd : b * d ≠ 0 := Int.mul_ne_zero (den_ne h1) (den_ne h2)
 refine ratOf_of h3 hd hb hp.2.2.1 ?_
 rw [h]
 refine rv_uniq hd ?_
 have e1 := rv_mul (a := a) (den_ne h1)
 have e2 := rv_mul (a := c) (den_ne h2)
 rw [Rat.intCast_sub,Rat.intCast_mul,Rat.intCast_mul,Rat.intCast_mul,← e1,← e2]
 grind
theorem mulQ_val {a b c d x y : Int} (h : mulQ a b c d = (x,y,true)) : (validQ a b = true ∧ validQ c d = true) ∧ validQ x y = true ∧ rv x y = rv a b * rv c d := by
 unfold mulQ at h
 split at h
 ·rename_i hv
  obtain ⟨h1,h2,h3⟩ := ratOf_val h
  refine ⟨hv,h1,?_⟩
  rw [h3]
  refine (rv_uniq h2 ?_).symm
  have e1 := rv_mul (a := a) (den_ne hv.1)
  have e2 := rv_mul (a := c) (den_ne hv.2)
  rw [Rat.intCast_mul,Rat.intCast_mul,← e1,← e2]
  grind
 ·simp at h
theorem divQ_val {a b c d x y : Int} (h : divQ a b c d = (x,y,true)) : (validQ a b = true ∧ validQ c d = true) ∧ validQ x y = true ∧ c ≠ 0 ∧ rv x y * rv c d = rv a b := by
 unfold divQ at h
 split at h
 ·rename_i hv
  obtain ⟨h1,h2,h3⟩ := ratOf_val h
  have hb := den_ne hv.1
  have hd := den_ne hv.2
  have hc : c ≠ 0 := fun e => h2 (by rw [e,Int.mul_zero])
  refine ⟨hv,h1,hc,?_⟩
  rw [h3]
  have e0 := rv_mul (a := a * d) h2
  have e1 := rv_mul (a := a) hb
  have e2 := rv_mul (a := c) hd
  have g1 := castne hb
  have g2 := castne hd
  rw [Rat.intCast_mul,Rat.intCast_mul,← e1,← e2] at e0
  have e3 : (rv (a * d) (b * c) * rv c d - rv a b) * ((b : Rat) * d) = 0 := by grind
  have g3 : ¬ ((b : Rat) * d = 0) := fun h => by rcases Rat.mul_eq_zero.1 h with h | h <;> contradiction
  rcases Rat.mul_eq_zero.1 e3 with h | h
  ·grind
  ·contradiction
 ·simp at h
theorem rv_neg (a b : Int) : rv (-a) b = - rv a b := by
 unfold rv
 rw [Rat.intCast_neg,Rat.div_def,Rat.div_def,Rat.neg_mul]
theorem rv_int (a : Int) : rv a 1 = (a : Rat) := by
 unfold rv
 rw [Rat.div_def]
 have : ((1 : Int) : Rat)⁻¹ = 1 := Rat.inv_eq_of_mul_eq_one (by rw [Rat.intCast_one,Rat.mul_one])
 rw [this,Rat.mul_one]
theorem rv_lt {a b c d : Int} (hb : 0 < b) (hd : 0 < d) : rv a b < rv c d ↔ a * d < c * b := by
 have e1 := rv_mul (a := a) (b := b) (by omega)
 have e2 := rv_mul (a := c) (b := d) (by omega)
 have p1 : (0 : Rat) < b := Rat.intCast_pos.2 hb
 have p2 : (0 : Rat) < d := Rat.intCast_pos.2 hd
 have p3 := Rat.mul_pos p1 p2
 rw [← Rat.intCast_lt_intCast,Rat.intCast_mul,Rat.intCast_mul,← e1,← e2]
 rw [← Rat.mul_lt_mul_right (a := rv a b) p3]
 constructor <;> intro h <;> grind
theorem cmpQ_neg {a b c d : Int} (h1 : validQ a b = true) (h2 : validQ c d = true) : cmpQ a b c d < 0 ↔ rv a b < rv c d := by
 have v1 := validQ_bd h1
 have v2 := validQ_bd h2
 rw [rv_lt (by omega) (by omega)]
 unfold cmpQ
 rw [if_pos ⟨h1,h2⟩]
 split
 ·simp_all
 ·split <;> simp_all
theorem rv_sign {a b : Int} (h : validQ a b = true) : (rv a b < 0 ↔ a < 0) ∧ (0 < rv a b ↔ 0 < a) := by
 have v := validQ_bd h
 have e1 := rv_lt (a := a) (b := b) (c := 0) (d := 1) (by omega) (by omega)
 have e2 := rv_lt (a := 0) (b := 1) (c := a) (d := b) (by omega) (by omega)
 have e3 : rv 0 1 = 0 := by rw [rv_int]; rfl
 rw [e3] at e1 e2
 exact ⟨by rw [e1]; omega,by rw [e2]; omega⟩
def sR (f : Nat → Rat) : Nat → Rat
 | 0 => 0
 | n + 1 => sR f n + f n
theorem sR_ext {f g : Nat → Rat} : ∀ {n : Nat},(∀ i,i < n → f i = g i) → sR f n = sR g n
 | 0,_ => rfl
 | n + 1,h => by
  simp only [sR]
  rw [sR_ext fun i hi => h i (by omega),h n (by omega)]
theorem sR_add (f g : Nat → Rat) : ∀ n,sR (fun i => f i + g i) n = sR f n + sR g n
 | 0 => by simp only [sR]; grind
 | n + 1 => by simp only [sR]; rw [sR_add f g n]; grind
theorem sR_sub (f g : Nat → Rat) : ∀ n,sR (fun i => f i - g i) n = sR f n - sR g n
 | 0 => by simp only [sR]; grind
 | n + 1 => by simp only [sR]; rw [sR_sub f g n]; grind
theorem sR_mul (c : Rat) (f : Nat → Rat) : ∀ n,sR (fun i => c * f i) n = c * sR f n
 | 0 => by simp only [sR]; grind
 | n + 1 => by simp only [sR]; rw [sR_mul c f n]; grind
theorem sR_mulr (c : Rat) (f : Nat → Rat) (n : Nat) : sR (fun i => f i * c) n = sR f n * c := by
 rw [Rat.mul_comm,← sR_mul]
 exact sR_ext fun i _ => Rat.mul_comm _ _
theorem sR_zero : ∀ n,sR (fun _ => 0) n = 0
 | 0 => rfl
 | n + 1 => by simp only [sR]; rw [sR_zero n]; grind
theorem sR_comm (f : Nat → Nat → Rat) (m : Nat) : ∀ n,sR (fun i => sR (fun j => f i j) m) n = sR (fun j => sR (fun i => f i j) n) m
 | 0 => by simp only [sR]; rw [sR_zero]
 | n + 1 => by simp only [sR]; rw [sR_comm f m n,← sR_add]
theorem sR_single {f : Nat → Rat} {k : Nat} : ∀ {n : Nat},k < n → (∀ i,i < n → i ≠ k → f i = 0) → sR f n = f k
 | 0,h,_ => by omega
 | n + 1,h,hz => by
  simp only [sR]
  by_cases e : k = n
  ·subst e
   have : sR f k = 0 := by rw [sR_ext (g := fun _ => 0) fun i hi => hz i (by omega) (by omega),sR_zero]
   rw [this]; grind
  ·rw [sR_single (n := n) (by omega) fun i hi hne => hz i (by omega) hne,hz n (by omega) (by omega)]
   grind
theorem sR_split {f : Nat → Rat} (k : Nat) : ∀ {n : Nat},k < n → sR f n = sR (fun i => if i = k then 0 else f i) n + f k := by
 intro n h
 have h1 : sR f n = sR (fun i => (if i = k then 0 else f i) + (if i = k then f k else 0)) n := sR_ext fun i _ => by
  by_cases e : i = k
  ·simp only [if_pos e,e]; grind
  ·simp only [if_neg e]; grind
 rw [h1,sR_add]
 congr 1
 rw [sR_single h fun i _ hne => if_neg hne,if_pos rfl]
theorem sR_shift (f : Nat → Rat) : ∀ n,sR f (n + 1) = f 0 + sR (fun i => f (i + 1)) n
 | 0 => by simp only [sR]; grind
 | n + 1 => by
  show sR f (n + 1) + f (n + 1) = _
  rw [sR_shift f n]
  simp only [sR]
  grind
structure TInv (S : Nat → Nat → Rat) (n m : Nat) (T : Nat → Nat → Rat) (b : Nat → Nat) : Prop where
 bb : ∀ k,k < m → b k < n + m
 L : ∀ k,k < m → ∀ j,j ≤ n + m → T k j = sR (fun i => T k (n + i) * S i j) m
 R : ∀ i,i < m → ∀ j,j ≤ n + m → S i j = sR (fun k => S i (b k) * T k j) m
 U : ∀ k,k < m → ∀ l,l < m → T k (b l) = if k = l then 1 else 0
theorem mul_left_cancel' {a b c : Rat} (h : c ≠ 0) (e : c * a = c * b) : a = b := by
 have e1 : c * (a - b) = 0 := by grind
 rcases Rat.mul_eq_zero.1 e1 with h1 | h1
 ·contradiction
 ·grind
theorem pivot_inv {S : Nat → Nat → Rat} {n m : Nat} {T T' : Nat → Nat → Rat} {b : Nat → Nat} {r c : Nat} (h : TInv S n m T b) (hr : r < m) (hc : c < n + m) (hp : T r c ≠ 0)
  (h1 : ∀ j,j ≤ n + m → T' r j * T r c = T r j) (h2 : ∀ k,k < m → k ≠ r → ∀ j,j ≤ n + m → T' k j = T k j - T k c * T' r j) : TInv S n m T' (fun k => if k = r then c else b k) := by
 refine ⟨fun k hk => ?_,fun k hk j hj => ?_,fun i hi j hj => ?_,fun k hk l hl => ?_⟩
 ·show (if k = r then c else b k) < _
  split
  ·exact hc
  ·exact h.bb k hk
 ·have key : ∀ j,j ≤ n + m → T' r j = sR (fun i => T' r (n + i) * S i j) m := fun j hj => by
   refine mul_left_cancel' hp ?_
   rw [Rat.mul_comm,h1 j hj,h.L r hr j hj,← sR_mul]
   refine sR_ext fun i hi => ?_
   rw [← h1 (n + i) (by omega)]
   grind
  by_cases e : k = r
  ·subst e
   exact key j hj
  ·rw [h2 k hk e j hj,h.L k hk j hj,key j hj,← sR_mul,← sR_sub]
   refine sR_ext fun i hi => ?_
   rw [h2 k hk e (n + i) (by omega)]
   grind
 ·show S i j = sR (fun k => S i (if k = r then c else b k) * T' k j) m
  rw [sR_split r hr]
  simp only [if_true]
  have e1 : sR (fun k => if k = r then 0 else S i (if k = r then c else b k) * T' k j) m = sR (fun k => (if k = r then 0 else S i (b k) * T k j) - (if k = r then 0 else S i (b k) * T k c) * T' r j) m := sR_ext fun k hk => by
   by_cases e : k = r
   ·simp only [if_pos e]; grind
   ·simp only [if_neg e]
    rw [h2 k hk e j hj]
    grind
  rw [e1,sR_sub,sR_mulr,h.R i hi c (by omega),h.R i hi j hj,sR_split (f := fun k => S i (b k) * T k c) r hr,sR_split (f := fun k => S i (b k) * T k j) r hr,← h1 j hj]
  grind
 ·show T' k (if l = r then c else b l) = _
  have q1 : T' r c = 1 := by
   refine mul_left_cancel' hp ?_
   rw [Rat.mul_comm,h1 c (by omega)]
   grind
  by_cases e : l = r
  ·subst e
   rw [if_pos rfl]
   by_cases e2 : k = l
   ·rw [if_pos e2,e2,q1]
   ·rw [if_neg e2,h2 k hk e2 c (by omega),q1]
    grind
  ·rw [if_neg e]
   have q2 : T' r (b l) = 0 := by
    refine mul_left_cancel' hp ?_
    rw [Rat.mul_comm,h1 (b l) (by have := h.bb l hl; omega),h.U r hr l hl,if_neg (by omega)]
    grind
   by_cases e2 : k = r
   ·rw [e2,q2,if_neg (by omega)]
   ·rw [h2 k hk e2 (b l) (by have := h.bb l hl; omega),q2,h.U k hk l hl]
    split <;> grind
theorem start_inv {S : Nat → Nat → Rat} {n m : Nat} (hS : ∀ i,i < m → ∀ k,k < m → S i (n + k) = if i = k then 1 else 0) : TInv S n m S (fun k => n + k) := by
 refine ⟨fun k hk => ?_,fun k hk j hj => ?_,fun i hi j hj => ?_,fun k hk l hl => ?_⟩
 ·show n + k < _
  omega
 ·rw [sR_single hk fun i hi hne => by rw [hS k hk i hi,if_neg (by omega)]; grind,hS k hk k hk,if_pos rfl]
  grind
 ·rw [sR_single hi fun k hk hne => by rw [hS i hi k hk,if_neg (by omega)]; grind,hS i hi i hi,if_pos rfl]
  grind
 ·rw [hS k hk l hl]
theorem red_cost {S : Nat → Nat → Rat} {n m : Nat} {T : Nat → Nat → Rat} {b : Nat → Nat} {cost costs : Nat → Rat} (h : TInv S n m T b)
  (hc : ∀ j,j ≤ n + m → costs j = cost j - sR (fun k => cost (b k) * T k j) m) (j : Nat) (hj : j ≤ n + m) :
  costs j = cost j - sR (fun i => (cost (n + i) - costs (n + i)) * S i j) m := by
 rw [hc j hj]
 congr 1
 have e1 : sR (fun k => cost (b k) * T k j) m = sR (fun k => sR (fun i => cost (b k) * (T k (n + i) * S i j)) m) m := sR_ext fun k hk => by
  rw [sR_mul,← h.L k hk j hj]
 rw [e1,sR_comm]
 refine sR_ext fun i hi => ?_
 rw [hc (n + i) (by omega)]
 have e2 : sR (fun k => cost (b k) * (T k (n + i) * S i j)) m = sR (fun k => cost (b k) * T k (n + i) * S i j) m := sR_ext fun k hk => by grind
 rw [e2,sR_mulr]
 grind
def qg (l : List Q) (i : Nat) : Rat := qr (l.getD i ⟨0,0⟩)
def vq (q : Q) : Prop := validQ q.num q.den = true
theorem rv01 : rv 0 1 = 0 := by rw [rv_int]; rfl
theorem dotFrom_val : ∀ (x y : List Q) (a b s t : Int),x.length = y.length → validQ a b = true → dotFrom x y a b = .inl (s,t) →
  validQ s t = true ∧ (∀ i,i < x.length → vq (x.getD i ⟨0,0⟩) ∧ vq (y.getD i ⟨0,0⟩)) ∧ rv s t = rv a b + sR (fun i => qg x i * qg y i) x.length
 | [],[],a,b,s,t,_,hv,h => by
  simp only [dotFrom,Sum.inl.injEq,Prod.mk.injEq] at h
  obtain ⟨rfl,rfl⟩ := h
  refine ⟨hv,fun i hi => by simp at hi,?_⟩
  simp only [List.length_nil,sR]
  grind
 | [],_ :: _,_,_,_,_,hl,_,_ => by simp at hl
 | _ :: _,[],_,_,_,_,hl,_,_ => by simp at hl
 | p :: xs,q :: ys,a,b,s,t,hl,hv,h => by
  unfold dotFrom at h
  rcases hm : mulQ p.num p.den q.num q.den with ⟨c,d,o1⟩
  rw [hm] at h
  dsimp only at h
  rcases ha : addQ a b c d with ⟨e,f,o2⟩
  rw [ha] at h
  dsimp only at h
  cases o1 with
  | false => simp at h
  | true =>
   cases o2 with
   | false => simp at h
   | true =>
    simp only [Bool.and_self,cond_true] at h
    obtain ⟨⟨v1,v2⟩,v3,v4⟩ := mulQ_val hm
    obtain ⟨_,v5,v6⟩ := addQ_val ha
    obtain ⟨w1,w2,w3⟩ := dotFrom_val xs ys e f s t (by simpa using hl) v5 h
    refine ⟨w1,fun i hi => ?_,?_⟩
    ·cases i with
     | zero => exact ⟨v1,v2⟩
     | succ i => exact w2 i (by simpa using hi)
    ·rw [w3,v6,v4,List.length_cons,sR_shift]
     have e1 : sR (fun i => qg (p :: xs) (i + 1) * qg (q :: ys) (i + 1)) xs.length = sR (fun i => qg xs i * qg ys i) xs.length := sR_ext fun i _ => rfl
     have e2 : qg (p :: xs) 0 * qg (q :: ys) 0 = rv p.num p.den * rv q.num q.den := rfl
     rw [e1,e2]
     grind
theorem valid01 : validQ 0 1 = true := validQ_int (by omega)
theorem dotQ_val {x y : List Q} {s t : Int} (h : dotQ x y = (s,t,true)) :
  x.length = y.length ∧ validQ s t = true ∧ (∀ i,i < x.length → vq (x.getD i ⟨0,0⟩) ∧ vq (y.getD i ⟨0,0⟩)) ∧ rv s t = sR (fun i => qg x i * qg y i) x.length := by
 unfold dotQ at h
 split at h
 ·rename_i hl
  rcases hd : dotFrom x y 0 1 with ⟨a,b⟩ | r
  ·rw [hd] at h
   simp only [Prod.mk.injEq,and_true] at h
   obtain ⟨rfl,rfl⟩ := h
   obtain ⟨h1,h2,h3⟩ := dotFrom_val x y 0 1 a b hl valid01 hd
   refine ⟨hl,h1,h2,?_⟩
   rw [h3,rv01]
   grind
  ·rw [hd] at h
   have := dotFrom_inr x y 0 1 r hd
   subst this
   simp at h
 ·simp at h
theorem qg_ratsOf (l : List Int) (i : Nat) (h : i < l.length) : qg (ratsOf l) i = (l.getD i 0 : Int) := by
 unfold qg ratsOf
 rw [tab_getD _ _ _ _ h]
 exact rv_int _
def nq (q : Q) : Q := ⟨-q.num,q.den⟩
def ag (A : List (List Int)) (i j : Nat) : Rat := (((A.getD i []).getD j 0 : Int) : Rat)
def colA (A : List (List Int)) (j : Nat) : List Int := tab (fun k => (A.getD k []).getD j 0) A.length
theorem colA_length (A : List (List Int)) (j : Nat) : (colA A j).length = A.length := tab_length _ _
theorem colA_dot {A : List (List Int)} {j : Nat} {y : List Q} {s t : Int} (h : dotQ (ratsOf (colA A j)) y = (s,t,true)) : A.length = y.length ∧ validQ s t = true ∧ (∀ i,i < A.length → vq (y.getD i ⟨0,0⟩)) ∧ rv s t = sR (fun i => ag A i j * qg y i) A.length := by
 obtain ⟨h1,h2,h3,h4⟩ := dotQ_val h
 rw [ratsOf_length,colA_length] at h1 h3 h4
 refine ⟨h1,h2,fun i hi => (h3 i hi).2,?_⟩
 rw [h4]
 refine sR_ext fun i hi => ?_
 rw [qg_ratsOf _ _ (by rw [colA_length]; exact hi)]
 unfold colA ag
 rw [tab_getD _ _ _ _ hi]
theorem getD_get {α : Type} (l : List α) (i : Nat) (d : α) (h : i < l.length) : l.getD i d = l[i] := by simp [List.getD,List.getElem?_eq_getElem h]
def rowF (f : Nat → Int × Int × Bool) (n : Nat) : Bool × List Q := if (List.range n).all (fun i => (f i).2.2) = true then (true,tab (fun i => (⟨(f i).1,(f i).2.1⟩ : Q)) n) else (false,[])
theorem all_iff (n : Nat) (p : Nat → Bool) : (List.range n).all p = true ↔ ∀ i,i < n → p i = true := by
 rw [List.all_eq_true]
 exact ⟨fun h i hi => h i (List.mem_range.2 hi),fun h i hi => h i (List.mem_range.1 hi)⟩
theorem row_loop {step : Int × List Q → Option ((Int × List Q) ⊕ (List Q ⊕ (Bool × List Q)))} (f : Nat → Int × Int × Bool) (n : Nat)
  (hs : ∀ i,i < n → ∀ acc : List Q,acc.length = i → step ((i : Int),acc) = some (bif (f i).2.2 then .inl (((i + 1 : Nat) : Int),acc ++ [⟨(f i).1,(f i).2.1⟩]) else .inr (.inr (false,[]))))
  (hd : ∀ acc,step ((n : Int),acc) = some (.inr (.inl acc))) : iter step ((0 : Int),[]) = some (if (List.range n).all (fun i => (f i).2.2) = true then .inl (tab (fun i => (⟨(f i).1,(f i).2.1⟩ : Q)) n) else .inr (false,[])) := by
 have h := iter_all (step := step) (fun i => ((i : Int),tab (fun i => (⟨(f i).1,(f i).2.1⟩ : Q)) i)) n (fun i => (f i).2.2) (a := .inl (tab (fun i => (⟨(f i).1,(f i).2.1⟩ : Q)) n)) (b := .inr (false,[]))
  (fun i hi hp => by
   have := hs i hi (tab (fun i => (⟨(f i).1,(f i).2.1⟩ : Q)) i) (tab_length _ _)
   rw [hp,cond_true] at this
   rw [this,tab_succ])
  (fun i hi hp => by
   have := hs i hi (tab (fun i => (⟨(f i).1,(f i).2.1⟩ : Q)) i) (tab_length _ _)
   rw [hp,cond_false] at this
   exact this) (hd _)
 simp only [Int.natCast_zero] at h
 have e0 : tab (fun i => (⟨(f i).1,(f i).2.1⟩ : Q)) 0 = [] := rfl
 rw [e0] at h
 rw [h]
 congr 1
 by_cases hall : ∀ i,i < n → (f i).2.2 = true
 ·rw [if_pos hall,if_pos ((all_iff _ _).2 hall)]
 ·rw [if_neg hall,if_neg fun h => hall ((all_iff _ _).1 h)]
def scQ (a : List Q) (kn kd : Int) (b : List Q) (i : Nat) : Int × Int × Bool :=
 match mulQ kn kd (b.getD i ⟨0,0⟩).num (b.getD i ⟨0,0⟩).den with
 | (x,y,o1) => match addQ (a.getD i ⟨0,0⟩).num (a.getD i ⟨0,0⟩).den x y with
  | (s,t,o2) => (s,t,o1 && o2)
def scaleF (a : List Q) (kn kd : Int) (b : List Q) : Bool × List Q := if a.length = b.length then rowF (scQ a kn kd b) a.length else (false,[])
theorem spec_scale (a : List Q) (kn kd : Int) (b : List Q) (ha : a.length ≤ 1048576) : m_spec_AddScaled a kn kd b = some (scaleF a kn kd b) := by
 unfold m_spec_AddScaled scaleF
 by_cases hl : a.length = b.length
 ·have e : ((a.length : Int) != (b.length : Int)) = false := by simp [hl]
  rw [e,cond_false,if_pos hl]
  have hroom : (room : Nat) = 1099511627776 := rfl
  have hit := row_loop (step := l_spec_AddScaled_0 a kn kd b) (scQ a kn kd b) a.length (fun i hi acc hacc => by
    unfold l_spec_AddScaled_0 scQ
    dsimp only
    rw [decide_eq_true (by omega),cond_true,grd_pos (by omega),getD_nat,getD_nat,mul_eq',Option.bind_some]
    rcases mulQ kn kd (b.getD i ⟨0,0⟩).num (b.getD i ⟨0,0⟩).den with ⟨x,y,o1⟩
    dsimp only
    rw [grd_pos (by omega),spec_add,Option.bind_some]
    rcases addQ (a.getD i ⟨0,0⟩).num (a.getD i ⟨0,0⟩).den x y with ⟨s,t,o2⟩
    dsimp only
    rw [grd_pos (by simp only [List.length_singleton]; omega),w64' (by omega) (by omega)]
    cases o1 <;> cases o2 <;> rfl)
   (fun acc => by unfold l_spec_AddScaled_0; dsimp only; rw [decide_eq_false (by omega)]; rfl)
  rw [hit]
  unfold rowF
  split <;> rfl
 ·have e : ((a.length : Int) != (b.length : Int)) = true := by
   rw [bne_iff_ne]
   omega
  rw [e,cond_true,if_neg hl]
theorem scale_step (a : List Q) (kn kd : Int) (b : List Q) : l_impl_AddScaled_0 a kn kd b = l_spec_AddScaled_0 a kn kd b := by
 funext ⟨v1,v2⟩
 unfold l_impl_AddScaled_0 l_spec_AddScaled_0
 simp only [impl_add,spec_add,impl_mul,mul_eq']
theorem impl_scale (a : List Q) (kn kd : Int) (b : List Q) (ha : a.length ≤ 1048576) : m_impl_AddScaled a kn kd b = some (scaleF a kn kd b) := by
 rw [← spec_scale a kn kd b ha]
 unfold m_impl_AddScaled m_spec_AddScaled
 rw [scale_step] <;> rfl
theorem scaleF_length {a : List Q} {kn kd : Int} {b r : List Q} (h : scaleF a kn kd b = (true,r)) : r.length = a.length ∧ a.length = b.length := by
 unfold scaleF at h
 split at h
 ·rename_i hl
  unfold rowF at h
  split at h
  ·simp only [Prod.mk.injEq,true_and] at h
   rw [← h,tab_length]
   exact ⟨rfl,hl⟩
  ·simp at h
 ·simp at h
theorem scaleF_false {a : List Q} {kn kd : Int} {b : List Q} (h : (scaleF a kn kd b).1 = false) : scaleF a kn kd b = (false,[]) := by
 unfold scaleF at h ⊢
 split
 ·rename_i hl
  rw [if_pos hl] at h
  unfold rowF at h ⊢
  split
  ·rename_i h2
   rw [if_pos h2] at h
   simp at h
  ·rfl
 ·rfl
def bdT (rows : List (List Q)) : Prop := ∀ k,k < rows.length → ∀ q ∈ rows.getD k [],-1000000000 ≤ q.num ∧ q.num ≤ 1000000000
theorem bdT_cell {rows : List (List Q)} (h : bdT rows) {k : Nat} (hk : k < rows.length) (j : Int) : -1000000000 ≤ (cellQ rows k j).num ∧ (cellQ rows k j).num ≤ 1000000000 := by
 unfold cellQ
 by_cases hj : j.toNat < (rows.getD k []).length
 ·rw [getD_get _ _ _ hj]
  exact h k hk _ (List.getElem_mem hj)
 ·have : (rows.getD k []).getD j.toNat ⟨0,0⟩ = ⟨0,0⟩ := by
   rw [List.getD_eq_getElem?_getD,List.getElem?_eq_none (by omega)]
   rfl
  rw [this]
  decide
def bco (basis : List Int) (cost : List Q) (k : Nat) : Q := cost.getD (basis.getD k 0).toNat ⟨0,0⟩
def costUp (rows : List (List Q)) (basis : List Int) (cost : List Q) : Nat → Bool × List Q
 | 0 => (true,cost ++ [⟨0,1⟩])
 | k + 1 => bif (costUp rows basis cost k).1 then scaleF (costUp rows basis cost k).2 (-(bco basis cost k).num) (bco basis cost k).den (rows.getD k []) else (false,[])
theorem costUp_false {rows : List (List Q)} {basis : List Int} {cost : List Q} {k : Nat} (h : (costUp rows basis cost k).1 = false) : costUp rows basis cost k = (false,[]) := by
 cases k with
 | zero => simp [costUp] at h
 | succ k =>
  simp only [costUp] at h ⊢
  cases hc : (costUp rows basis cost k).1 with
  | false => rfl
  | true =>
   rw [hc,cond_true] at h
   rw [cond_true]
   exact scaleF_false h
theorem costUp_mono {rows : List (List Q)} {basis : List Int} {cost : List Q} {k : Nat} (h : (costUp rows basis cost k).1 = false) : ∀ j,costUp rows basis cost (k + j) = (false,[])
 | 0 => costUp_false h
 | j + 1 => by
  show costUp rows basis cost (k + j + 1) = _
  simp only [costUp]
  rw [costUp_mono h j]
  rfl
theorem costUp_length {rows : List (List Q)} {basis : List Int} {cost : List Q} : ∀ {k : Nat},(costUp rows basis cost k).1 = true → (costUp rows basis cost k).2.length = cost.length + 1
 | 0,_ => by simp [costUp]
 | k + 1,h => by
  simp only [costUp] at h ⊢
  cases hc : (costUp rows basis cost k).1 with
  | false => rw [hc] at h; simp at h
  | true =>
   rw [hc,cond_true] at h
   rw [cond_true]
   rcases hs : scaleF (costUp rows basis cost k).2 (-(bco basis cost k).num) (bco basis cost k).den (rows.getD k []) with ⟨o,r⟩
   rw [hs] at h
   simp only at h
   subst h
   show r.length = _
   rw [(scaleF_length hs).1,costUp_length hc]
def costF (rows : List (List Q)) (basis : List Int) (cols : Int) (cost : List Q) : Bool × List Q :=
 if tabOk rows basis cols = true ∧ (cost.length : Int) = cols + rows.length ∧ allB cost = true then costUp rows basis cost rows.length else (false,[])
theorem all_val {cost : List Q} (h : allB cost = true) (i : Nat) (hi : i < cost.length) : validQ (cost.getD i ⟨0,0⟩).num (cost.getD i ⟨0,0⟩).den = true := (all_iff _ _).1 h i hi
theorem spec_copy (l : List Q) (hl : l.length ≤ 1048576) : m_spec_l4Copy l = some l := by
 unfold m_spec_l4Copy
 have hroom : (room : Nat) = 1099511627776 := rfl
 rw [grd_pos (by simp only [List.length_nil]; omega)]
 rfl
theorem impl_copyQ (l : List Q) (hl : l.length ≤ 1048576) : m_slices_Clone_impl_Rat_impl_Rat l = some l := by
 unfold m_slices_Clone_impl_Rat_impl_Rat
 have hroom : (room : Nat) = 1099511627776 := rfl
 rw [grd_pos (by simp only [List.length_nil]; omega)]
 rfl
theorem bco_ok {rows : List (List Q)} {basis : List Int} {cols : Int} {cost : List Q} (ht : tabOk rows basis cols = true) (hl : (cost.length : Int) = cols + rows.length) (hv : allB cost = true) (k : Nat) (hk : k < rows.length) :
  (0 ≤ basis.getD k 0 ∧ basis.getD k 0 < (cost.length : Int)) ∧ validQ (bco basis cost k).num (bco basis cost k).den = true := by
 obtain ⟨_,_,h3⟩ := tabOk_parts ht
 have h4 := h3 k hk
 exact ⟨⟨h4.2.1,by omega⟩,all_val hv _ (by omega)⟩
theorem spec_cost (rows : List (List Q)) (basis : List Int) (cols : Int) (cost : List Q) (hr : rows.length ≤ 1048576) (hb : basis.length ≤ 1048576) (hrl : ∀ i,i < rows.length → (rows.getD i []).length ≤ 1048576) (hc : cost.length ≤ 1000000) :
  m_spec_CostRow rows basis cols cost = some (costF rows basis cols cost) := by
 unfold m_spec_CostRow costF
 rw [spec_tabOk rows basis cols hr hb hrl,Option.bind_some]
 cases ht : tabOk rows basis cols with
 | false => simp
 | true =>
  obtain ⟨hcols,hbl,h3⟩ := tabOk_parts ht
  rw [Bool.not_true,cond_false,w64' (n := cols + (rows.length : Int)) (by omega) (by omega)]
  by_cases hl : (cost.length : Int) = cols + rows.length
  ·have e : ((cost.length : Int) != cols + (rows.length : Int)) = false := by simp [hl]
   have hroom : (room : Nat) = 1099511627776 := rfl
   rw [e,cond_false,spec_copy cost (by omega),Option.bind_some]
   unfold m_spec_l3Int
   rw [Option.bind_some]
   dsimp only
   rw [grd_pos (by simp only [List.length_singleton]; omega),spec_allv cost (by omega),Option.bind_some]
   cases hv : allB cost with
   | false =>
    have hs : l_spec_CostRow_0 rows basis cost (false,(0 : Int),cost ++ [⟨0,1⟩]) = some (.inr (false,cost ++ [⟨0,1⟩])) := by
     unfold l_spec_CostRow_0
     dsimp only
     cases decide ((0 : Int) < (rows.length : Int)) <;> rfl
    rw [iter_done hs]
    simp
   | true =>
    have key : ∀ j k,rows.length - k = j → k ≤ rows.length → iter (l_spec_CostRow_0 rows basis cost) ((costUp rows basis cost k).1,(k : Int),(costUp rows basis cost k).2) = some (costUp rows basis cost rows.length) := by
     intro j
     induction j with
     | zero =>
      intro k h1 h2
      have e : k = rows.length := by omega
      subst e
      refine iter_done ?_
      unfold l_spec_CostRow_0
      dsimp only
      rw [decide_eq_false (by omega),cond_false]
     | succ j ih =>
      intro k h1 h2
      have hk : k < rows.length := by omega
      cases hok : (costUp rows basis cost k).1 with
      | false =>
       have e1 := costUp_mono hok (rows.length - k)
       rw [show k + (rows.length - k) = rows.length by omega] at e1
       rw [e1,costUp_false hok]
       refine iter_done ?_
       unfold l_spec_CostRow_0
       dsimp only
       rw [decide_eq_true (by omega)]
       rfl
      | true =>
       obtain ⟨hbk,hvk⟩ := bco_ok ht hl hv k hk
       have vb := validQ_bd hvk
       have hlen := costUp_length hok
       have hnext := ih (k + 1) (by omega) (by omega)
       refine (iter_next (s' := ((costUp rows basis cost (k + 1)).1,((k + 1 : Nat) : Int),(costUp rows basis cost (k + 1)).2)) ?_).trans hnext
       unfold l_spec_CostRow_0
       dsimp only
       have e2 : costUp rows basis cost (k + 1) = scaleF (costUp rows basis cost k).2 (-(bco basis cost k).num) (bco basis cost k).den (rows.getD k []) := by
        show (bif (costUp rows basis cost k).1 then _ else _) = _
        rw [hok,cond_true]
       unfold bco at vb e2
       rw [decide_eq_true (by omega),cond_true,cond_true,Int.toNat_natCast,grd_pos (by omega),grd_pos (by omega),grd_pos (by omega),grd_pos (by omega),grd_pos (by omega),w64' (n := 0 - _) (by omega) (by omega),w64' (by omega) (by omega),Int.zero_sub,spec_scale _ _ _ _ (by omega),e2]
       rcases scaleF (costUp rows basis cost k).2 (-(cost.getD (basis.getD k 0).toNat ⟨0,0⟩).num) (cost.getD (basis.getD k 0).toNat ⟨0,0⟩).den (rows.getD k []) with ⟨o,r⟩
       rfl
    have h0 := key rows.length 0 (by omega) (by omega)
    simp only [costUp,Int.natCast_zero] at h0
    rw [h0,if_pos ⟨rfl,hl,rfl⟩,Option.bind_some]
    rcases hu : costUp rows basis cost rows.length with ⟨o,r⟩
    dsimp only
    cases o with
    | true => rfl
    | false =>
     have := costUp_false (k := rows.length) (rows := rows) (basis := basis) (cost := cost) (by rw [hu])
     rw [hu] at this
     rw [this]
     rfl
  ·have e : ((cost.length : Int) != cols + (rows.length : Int)) = true := by rw [bne_iff_ne]; exact hl
   rw [e,cond_true,if_neg fun h => hl h.2.1]
theorem impl_cost (rows : List (List Q)) (basis : List Int) (cols : Int) (cost : List Q) (hr : rows.length ≤ 1048576) (hb : basis.length ≤ 1048576) (hc : cost.length ≤ 1000000) :
  m_impl_CostRow rows basis cols cost = some (costF rows basis cols cost) := by
 unfold m_impl_CostRow costF
 rw [impl_tabOk rows basis cols hr hb,Option.bind_some]
 cases ht : tabOk rows basis cols with
 | false => simp
 | true =>
  obtain ⟨hcols,hbl,h3⟩ := tabOk_parts ht
  rw [Bool.not_true,cond_false,w64' (n := cols + (rows.length : Int)) (by omega) (by omega)]
  by_cases hl : (cost.length : Int) = cols + rows.length
  ·have e : ((cost.length : Int) != cols + (rows.length : Int)) = false := by simp [hl]
   have hroom : (room : Nat) = 1099511627776 := rfl
   rw [e,cond_false,impl_allv cost (by omega),Option.bind_some]
   cases hv : allB cost with
   | false => simp
   | true =>
    rw [Bool.not_true,cond_false,impl_copyQ cost (by omega),Option.bind_some]
    unfold m_impl_whole
    rw [Option.bind_some]
    dsimp only
    rw [grd_pos (by simp only [List.length_singleton]; omega)]
    have key : ∀ j k,rows.length - k = j → k ≤ rows.length → (costUp rows basis cost k).1 = true → iter (l_impl_CostRow_0 rows basis cost) ((k : Int),(costUp rows basis cost k).2) = some (bif (costUp rows basis cost rows.length).1 then .inl (costUp rows basis cost rows.length).2 else .inr (false,[])) := by
     intro j
     induction j with
     | zero =>
      intro k h1 h2 hok
      have e : k = rows.length := by omega
      subst e
      rw [hok,cond_true]
      refine iter_done ?_
      unfold l_impl_CostRow_0
      dsimp only
      rw [decide_eq_false (by omega),cond_false]
     | succ j ih =>
      intro k h1 h2 hok
      have hk : k < rows.length := by omega
      obtain ⟨hbk,hvk⟩ := bco_ok ht hl hv k hk
      have vb := validQ_bd hvk
      have hlen := costUp_length hok
      have e2 : costUp rows basis cost (k + 1) = scaleF (costUp rows basis cost k).2 (-(bco basis cost k).num) (bco basis cost k).den (rows.getD k []) := by
       show (bif (costUp rows basis cost k).1 then _ else _) = _
       rw [hok,cond_true]
      have hstep : l_impl_CostRow_0 rows basis cost ((k : Int),(costUp rows basis cost k).2) = some (bif (costUp rows basis cost (k + 1)).1 then .inl (((k + 1 : Nat) : Int),(costUp rows basis cost (k + 1)).2) else .inr (.inr (false,[]))) := by
       unfold l_impl_CostRow_0 m_impl_minus
       dsimp only
       unfold bco at vb e2
       rw [decide_eq_true (by omega),cond_true,Int.toNat_natCast,grd_pos (by omega),grd_pos (by omega),grd_pos (by omega),w64' (n := 0 - _) (by omega) (by omega),w64' (by omega) (by omega),Int.zero_sub,Option.bind_some]
       dsimp only
       rw [impl_scale _ _ _ _ (by omega),e2]
       rcases scaleF (costUp rows basis cost k).2 (-(cost.getD (basis.getD k 0).toNat ⟨0,0⟩).num) (cost.getD (basis.getD k 0).toNat ⟨0,0⟩).den (rows.getD k []) with ⟨o,r⟩
       cases o <;> rfl
      cases hok2 : (costUp rows basis cost (k + 1)).1 with
      | true =>
       rw [hok2,cond_true] at hstep
       exact (iter_next hstep).trans (ih (k + 1) (by omega) (by omega) hok2)
      | false =>
       rw [hok2,cond_false] at hstep
       have e1 := costUp_mono hok2 (rows.length - (k + 1))
       rw [show k + 1 + (rows.length - (k + 1)) = rows.length by omega] at e1
       rw [iter_done hstep,e1]
       rfl
    have h0 := key rows.length 0 (by omega) (by omega) rfl
    simp only [costUp,Int.natCast_zero] at h0
    rw [h0,if_pos ⟨rfl,hl,rfl⟩,Option.bind_some]
    rcases hu : costUp rows basis cost rows.length with ⟨o,r⟩
    cases o with
    | true => rfl
    | false =>
     have := costUp_false (k := rows.length) (rows := rows) (basis := basis) (cost := cost) (by rw [hu])
     rw [hu] at this
     rw [this]
     rfl
  ·have e : ((cost.length : Int) != cols + (rows.length : Int)) = true := by rw [bne_iff_ne]; exact hl
   rw [e,cond_true,if_neg fun h => hl h.2.1]
def entF (costs : List Q) (last : Int) : Int := if last ≤ (costs.length : Int) then (match (List.range last.toNat).find? (fun j => decide (cmpQ (costs.getD j ⟨0,0⟩).num (costs.getD j ⟨0,0⟩).den 0 1 < 0)) with
 | some j => (j : Int)
 | none => -1) else -1
theorem spec_ent (rows : List (List Q)) (basis : List Int) (cols : Int) (costs : List Q) (last : Int) (hc : costs.length ≤ 1048576) : m_spec_EnteringColumn rows basis cols costs last = some (entF costs last) := by
 unfold m_spec_EnteringColumn entF
 by_cases hl : last ≤ (costs.length : Int)
 ·rw [if_pos hl]
  have hit := iter_findc (step := l_spec_EnteringColumn_0 costs last) (fun i => (i : Int)) last.toNat (fun j => decide (cmpQ (costs.getD j ⟨0,0⟩).num (costs.getD j ⟨0,0⟩).den 0 1 < 0)) (.inl ()) (fun j => .inr (j : Int))
   (fun i hi => by
    unfold l_spec_EnteringColumn_0
    rw [decide_eq_true (by omega),cond_true,decide_eq_true hl,cond_true,grd_pos (by omega),getD_nat,spec_sign,Option.bind_some,w64' (by omega) (by omega)]
    cases decide (cmpQ (costs.getD i ⟨0,0⟩).num (costs.getD i ⟨0,0⟩).den 0 1 < 0) <;> rfl)
   (by unfold l_spec_EnteringColumn_0; rw [decide_eq_false (by omega)]; rfl)
  simp only [Int.natCast_zero] at hit
  rw [hit]
  cases (List.range last.toNat).find? (fun j => decide (cmpQ (costs.getD j ⟨0,0⟩).num (costs.getD j ⟨0,0⟩).den 0 1 < 0)) <;> rfl
 ·rw [if_neg hl]
  have hs : l_spec_EnteringColumn_0 costs last 0 = some (.inr (.inl ())) := by
   unfold l_spec_EnteringColumn_0
   rw [decide_eq_false hl]
   cases decide ((0 : Int) < last) <;> rfl
  rw [iter_done hs]
  rfl
theorem impl_ent (rows : List (List Q)) (basis : List Int) (cols : Int) (costs : List Q) (last : Int) (hc : costs.length ≤ 1048576) : m_impl_EnteringColumn rows basis cols costs last = some (entF costs last) := by
 unfold m_impl_EnteringColumn entF
 by_cases hl : last ≤ (costs.length : Int)
 ·rw [if_pos hl,decide_eq_false (by omega),cond_false]
  have hit := iter_findc (step := l_impl_EnteringColumn_0 costs last) (fun i => (i : Int)) last.toNat (fun j => decide (cmpQ (costs.getD j ⟨0,0⟩).num (costs.getD j ⟨0,0⟩).den 0 1 < 0)) (.inl ()) (fun j => .inr (j : Int))
   (fun i hi => by
    unfold l_impl_EnteringColumn_0
    rw [decide_eq_true (by omega),cond_true,grd_pos (by omega),getD_nat,impl_sign,Option.bind_some,w64' (by omega) (by omega)]
    cases decide (cmpQ (costs.getD i ⟨0,0⟩).num (costs.getD i ⟨0,0⟩).den 0 1 < 0) <;> rfl)
   (by unfold l_impl_EnteringColumn_0; rw [decide_eq_false (by omega)]; rfl)
  simp only [Int.natCast_zero] at hit
  rw [hit]
  cases (List.range last.toNat).find? (fun j => decide (cmpQ (costs.getD j ⟨0,0⟩).num (costs.getD j ⟨0,0⟩).den 0 1 < 0)) <;> rfl
 ·rw [if_neg hl,decide_eq_true (by omega)]
  rfl
def lvF (rows : List (List Q)) (basis : List Int) (cols col : Int) : Int := if tabOk rows basis cols = true ∧ (0 ≤ col ∧ col ≤ cols + rows.length - 1) then (lvSt rows basis cols col rows.length).1 else -1
theorem leave_s (rows : List (List Q)) (basis : List Int) (cols col : Int) (hr : rows.length ≤ 1048576) (hb : basis.length ≤ 1048576) (hrl : ∀ i,i < rows.length → (rows.getD i []).length ≤ 1048576) : m_spec_LeavingRow rows basis cols col = some (lvF rows basis cols col) := by
 unfold m_spec_LeavingRow lvF
 rw [spec_tabOk rows basis cols hr hb hrl]
 cases ht : tabOk rows basis cols with
 | false => rw [if_neg (by simp)]; rfl
 | true =>
  obtain ⟨hc,_⟩ := tabOk_parts ht
  simp only [Option.bind_some,Bool.not_true,cond_false,in_eq]
  rw [w64' (n := cols + (rows.length : Int)) (by omega) (by omega),w64' (n := cols + (rows.length : Int) - 1) (by omega) (by omega)]
  by_cases hcol : 0 ≤ col ∧ col ≤ cols + rows.length - 1
  ·rw [decide_eq_true hcol,Bool.not_true,cond_false,if_pos ⟨trivial,hcol⟩]
   have s1 := iter_up (step := l_spec_LeavingRow_0 rows basis cols col) (fun k => ((lvSt rows basis cols col k).1,(k : Int),(lvSt rows basis cols col k).2.1,(lvSt rows basis cols col k).2.2)) rows.length (a := (lvSt rows basis cols col rows.length).1) (fun k hk => spec_lvStep rows basis cols col hr ht hcol k hk _ _ _ (lv_inv rows basis cols col k))
    (by unfold l_spec_LeavingRow_0; dsimp only; rw [decide_eq_false (by omega)]; rfl)
   simp only [lvSt,Int.natCast_zero] at s1
   rw [s1]
   rfl
  ·rw [decide_eq_false hcol,if_neg fun h => hcol h.2]
   rfl
theorem leave_i (rows : List (List Q)) (basis : List Int) (cols col : Int) (hr : rows.length ≤ 1048576) (hb : basis.length ≤ 1048576) : m_impl_LeavingRow rows basis cols col = some (lvF rows basis cols col) := by
 unfold m_impl_LeavingRow lvF
 rw [impl_tabOk rows basis cols hr hb]
 cases ht : tabOk rows basis cols with
 | false => rw [if_neg (by simp)]; rfl
 | true =>
  obtain ⟨hc,_⟩ := tabOk_parts ht
  simp only [Option.bind_some,Bool.not_true,cond_false,within_eq]
  rw [w64' (n := cols + (rows.length : Int)) (by omega) (by omega),w64' (n := cols + (rows.length : Int) - 1) (by omega) (by omega)]
  by_cases hcol : 0 ≤ col ∧ col ≤ cols + rows.length - 1
  ·rw [decide_eq_true hcol,Bool.not_true,cond_false,if_pos ⟨trivial,hcol⟩]
   have s2 := iter_up (step := l_impl_LeavingRow_0 rows basis col) (fun k => ((lvSt rows basis cols col k).1,(k : Int),(lvSt rows basis cols col k).2.1,(lvSt rows basis cols col k).2.2)) rows.length (a := (lvSt rows basis cols col rows.length).1) (fun k hk => impl_lvStep rows basis cols col hr ht hcol k hk _ _ _ (lv_inv rows basis cols col k))
    (by unfold l_impl_LeavingRow_0; dsimp only; rw [decide_eq_false (by omega)]; rfl)
   simp only [lvSt,Int.natCast_zero] at s2
   rw [s2]
   rfl
  ·rw [decide_eq_false hcol,if_neg fun h => hcol h.2]
   rfl
def divRow (rows : List (List Q)) (r : Nat) (c : Int) (j : Nat) : Int × Int × Bool := divQ ((rows.getD r []).getD j ⟨0,0⟩).num ((rows.getD r []).getD j ⟨0,0⟩).den (cellQ rows r c).num (cellQ rows r c).den
def pivNew (rows : List (List Q)) (r : Nat) (c : Int) (main : List Q) (k : Nat) : Bool × List Q :=
 if k = r then (true,main) else if (cellQ rows k c).num = 0 ∧ (cellQ rows k c).den = 1 then (true,rows.getD k []) else scaleF (rows.getD k []) (-(cellQ rows k c).num) (cellQ rows k c).den main
def pivF (rows : List (List Q)) (basis : List Int) (cols row col : Int) : Option (List (List Q) × List Int) :=
 if tabOk rows basis cols = true ∧ (0 ≤ row ∧ row ≤ (rows.length : Int) - 1) ∧ (0 ≤ col ∧ col ≤ cols + rows.length - 1) then
  match rowF (divRow rows row.toNat col) (rows.getD row.toNat []).length with
  | (true,main) => if (List.range rows.length).all (fun k => (pivNew rows row.toNat col main k).1) = true then some (tab (fun k => (pivNew rows row.toNat col main k).2) rows.length,basis.set row.toNat col) else none
  | (false,_) => none
 else none
def pivR (rows : List (List Q)) (basis : List Int) (cols : Int) : Option (List (List Q) × List Int) → Int × Bool × List (List Q) × List Int
 | some (r,b) => (cols,true,r,b)
 | none => (cols,false,rows,basis)
theorem spec_copyT (rows : List (List Q)) (basis : List Int) (cols : Int) (hr : rows.length ≤ 1048576) (hb : basis.length ≤ 1048576) (hrl : ∀ i,i < rows.length → (rows.getD i []).length ≤ 1048576) : m_spec_l6Copy rows basis cols = some (cols,rows,basis) := by
 unfold m_spec_l6Copy
 have hroom : (room : Nat) = 1099511627776 := rfl
 rw [grd_pos (by simp only [List.length_nil]; omega)]
 have hit := iter_up (step := l_spec_l6Copy_0 rows) (fun i => ((i : Int),tab (fun i => rows.getD i []) i)) rows.length (a := rows) (fun i hi => by
   unfold l_spec_l6Copy_0
   dsimp only
   rw [decide_eq_true (by omega),cond_true,grd_pos (by omega),getD_nat,spec_copy _ (hrl i hi),Option.bind_some,grd_pos (by simp only [tab_length,List.length_singleton]; omega),w64' (by omega) (by omega),tab_succ]
   rfl)
  (by unfold l_spec_l6Copy_0; dsimp only; rw [decide_eq_false (by omega),cond_false,tab_self])
 have e0 : tab (fun i => rows.getD i []) 0 = [] := rfl
 simp only [Int.natCast_zero,e0] at hit
 rw [hit]
 rfl
theorem impl_copyT (rows : List (List Q)) (basis : List Int) (cols : Int) (hr : rows.length ≤ 1048576) (hb : basis.length ≤ 1048576) (hrl : ∀ i,i < rows.length → (rows.getD i []).length ≤ 1048576) : m_impl_cloneTableau rows basis cols = some (cols,rows,basis) := by
 unfold m_impl_cloneTableau m_slices_Clone_int_int
 have hroom : (room : Nat) = 1099511627776 := rfl
 rw [grd_pos (by simp only [List.length_nil]; omega),Option.bind_some]
 have hit := iter_up (step := l_impl_cloneTableau_0 rows) (fun i => ((i : Int),tab (fun i => rows.getD i []) i)) rows.length (a := rows) (fun i hi => by
   unfold l_impl_cloneTableau_0
   dsimp only
   rw [decide_eq_true (by omega),cond_true,grd_pos (by omega),getD_nat,impl_copyQ _ (hrl i hi),Option.bind_some,grd_pos (by simp only [tab_length,List.length_singleton]; omega),w64' (by omega) (by omega),tab_succ]
   rfl)
  (by unfold l_impl_cloneTableau_0; dsimp only; rw [decide_eq_false (by omega),cond_false,tab_self])
 have e0 : tab (fun i => rows.getD i []) 0 = [] := rfl
 simp only [Int.natCast_zero,e0] at hit
 rw [hit]
 rfl
theorem spec_divide (l : List Q) (a b : Int) (hl : l.length ≤ 1048576) : m_spec_l6Divide l a b = some (rowF (fun j => divQ (l.getD j ⟨0,0⟩).num (l.getD j ⟨0,0⟩).den a b) l.length) := by
 unfold m_spec_l6Divide
 have hroom : (room : Nat) = 1099511627776 := rfl
 have hit := row_loop (step := l_spec_l6Divide_0 l a b) (fun j => divQ (l.getD j ⟨0,0⟩).num (l.getD j ⟨0,0⟩).den a b) l.length (fun i hi acc hacc => by
   unfold l_spec_l6Divide_0
   dsimp only
   rw [decide_eq_true (by omega),cond_true,grd_pos (by omega),getD_nat,div_eq',Option.bind_some]
   rcases divQ (l.getD i ⟨0,0⟩).num (l.getD i ⟨0,0⟩).den a b with ⟨x,y,o⟩
   dsimp only
   rw [grd_pos (by simp only [List.length_singleton]; omega),w64' (by omega) (by omega)]
   cases o <;> rfl)
  (fun acc => by unfold l_spec_l6Divide_0; dsimp only; rw [decide_eq_false (by omega)]; rfl)
 rw [hit]
 unfold rowF
 split <;> rfl
def accT (rows : List (List Q)) (r : Nat) (c : Int) (main : List Q) (k : Nat) : List (List Q) := tab (fun i => if i = r then main else if i < k then (pivNew rows r c main i).2 else rows.getD i []) rows.length
theorem accT_length (rows : List (List Q)) (r : Nat) (c : Int) (main : List Q) (k : Nat) : (accT rows r c main k).length = rows.length := tab_length _ _
theorem accT_zero (rows : List (List Q)) (r : Nat) (c : Int) (main : List Q) (hr : r < rows.length) : accT rows r c main 0 = rows.set r main := by
 apply List.ext_getElem (by rw [accT_length,List.length_set])
 intro i h1 h2
 rw [accT_length] at h1
 have e := tab_getD (fun i => if i = r then main else if i < 0 then (pivNew rows r c main i).2 else rows.getD i []) rows.length [] i h1
 have e1 : (accT rows r c main 0).getD i [] = (accT rows r c main 0)[i]'(by rw [accT_length]; exact h1) := getD_get _ _ _ _
 rw [← e1]
 refine Eq.trans e ?_
 rw [List.getElem_set]
 by_cases h : i = r
 ·rw [if_pos h,if_pos h.symm]
 ·rw [if_neg h,if_neg (by omega),if_neg (fun e => h e.symm),getD_get]
theorem accT_main (rows : List (List Q)) (r : Nat) (c : Int) (main : List Q) (k : Nat) (hr : r < rows.length) : (accT rows r c main k).getD r [] = main := by
 unfold accT
 rw [tab_getD _ _ _ _ hr,if_pos rfl]
theorem accT_skip (rows : List (List Q)) (r : Nat) (c : Int) (main : List Q) (k : Nat) (h : k = r ∨ (pivNew rows r c main k).2 = rows.getD k []) : accT rows r c main (k + 1) = accT rows r c main k := by
 unfold accT
 refine tab_ext fun i hi => ?_
 by_cases h1 : i = r
 ·rw [if_pos h1,if_pos h1]
 ·rw [if_neg h1,if_neg h1]
  by_cases h2 : i < k
  ·rw [if_pos (by omega),if_pos h2]
  ·rw [if_neg h2]
   by_cases h3 : i = k
   ·subst h3
    rw [if_pos (by omega)]
    rcases h with h | h
    ·contradiction
    ·exact h
   ·rw [if_neg (by omega)]
theorem accT_set (rows : List (List Q)) (r : Nat) (c : Int) (main : List Q) (k : Nat) (hk : k < rows.length) (h : k ≠ r) : (accT rows r c main k).set k (pivNew rows r c main k).2 = accT rows r c main (k + 1) := by
 apply List.ext_getElem (by rw [List.length_set,accT_length,accT_length])
 intro i h1 h2
 rw [accT_length] at h2
 have e1 : (accT rows r c main (k + 1)).getD i [] = (accT rows r c main (k + 1))[i]'(by rw [accT_length]; exact h2) := getD_get _ _ _ _
 have e2 : (accT rows r c main k).getD i [] = (accT rows r c main k)[i]'(by rw [accT_length]; exact h2) := getD_get _ _ _ _
 rw [List.getElem_set,← e1,← e2]
 unfold accT
 rw [tab_getD _ _ _ _ h2,tab_getD _ _ _ _ h2]
 by_cases h3 : k = i
 ·subst h3
  rw [if_pos rfl,if_neg h,if_pos (by omega)]
 ·rw [if_neg h3]
  by_cases h4 : i = r
  ·rw [if_pos h4,if_pos h4]
  ·rw [if_neg h4,if_neg h4]
   by_cases h5 : i < k
   ·rw [if_pos h5,if_pos (by omega)]
   ·rw [if_neg h5,if_neg (by omega)]
theorem accT_last (rows : List (List Q)) (r : Nat) (c : Int) (main : List Q) : accT rows r c main rows.length = tab (fun k => (pivNew rows r c main k).2) rows.length := by
 unfold accT
 refine tab_ext fun i hi => ?_
 by_cases h1 : i = r
 ·rw [if_pos h1]
  unfold pivNew
  rw [if_pos h1]
 ·rw [if_neg h1,if_pos hi]
theorem div_zero_row {rows : List (List Q)} {r : Nat} {c : Int} {n : Nat} (hn : 0 < n) (h : (cellQ rows r c).num = 0) : rowF (divRow rows r c) n = (false,[]) := by
 unfold rowF
 rw [if_neg]
 intro hall
 have := (all_iff _ _).1 hall 0 hn
 unfold divRow at this
 rw [h] at this
 unfold divQ at this
 split at this
 ·unfold ratOf at this
  rw [Int.mul_zero,if_pos (.inl rfl)] at this
  cases this
 ·cases this
theorem rowF_fst {f : Nat → Int × Int × Bool} {n : Nat} {l : List Q} (h : rowF f n = (true,l)) : l.length = n ∧ l = tab (fun i => (⟨(f i).1,(f i).2.1⟩ : Q)) n ∧ ∀ i,i < n → (f i).2.2 = true := by
 unfold rowF at h
 split at h
 ·rename_i hall
  simp only [Prod.mk.injEq,true_and] at h
  exact ⟨by rw [← h,tab_length],h.symm,(all_iff _ _).1 hall⟩
 ·simp at h
theorem spec_piv (rows : List (List Q)) (basis : List Int) (cols row col : Int) (hr : rows.length ≤ 1048576) (hb : basis.length ≤ 1048576) (hrl : ∀ i,i < rows.length → (rows.getD i []).length ≤ 1048576) (hq : bdT rows) : m_spec_PivotTableau rows basis cols row col = some (pivR rows basis cols (pivF rows basis cols row col)) := by
 unfold m_spec_PivotTableau pivF
 rw [spec_tabOk rows basis cols hr hb hrl,spec_copyT rows basis cols hr hb hrl]
 cases ht : tabOk rows basis cols with
 | false => rw [if_neg (by simp)]; rfl
 | true =>
  obtain ⟨hcols,hbl,h3⟩ := tabOk_parts ht
  simp only [Option.bind_some,Bool.not_true,cond_false,in_eq]
  rw [w64' (n := (rows.length : Int) - 1) (by omega) (by omega),w64' (n := cols + (rows.length : Int)) (by omega) (by omega),w64' (n := cols + (rows.length : Int) - 1) (by omega) (by omega)]
  by_cases hrow : 0 ≤ row ∧ row ≤ (rows.length : Int) - 1
  ·rw [decide_eq_true hrow,Bool.not_true,cond_false]
   by_cases hcol : 0 ≤ col ∧ col ≤ cols + (rows.length : Int) - 1
   ·obtain ⟨r,hre⟩ : ∃ r : Nat,row = (r : Int) := ⟨row.toNat,by omega⟩
    subst hre
    have hrl' : r < rows.length := by omega
    have h4 := h3 r hrl'
    rw [decide_eq_true hcol,Bool.not_true,cond_false,if_pos ⟨trivial,hrow,hcol⟩,grd_pos (by omega),Int.toNat_natCast,grd_pos (by omega)]
    have hcell : ((rows.getD r []).getD col.toNat ⟨0,0⟩) = cellQ rows r col := rfl
    rw [hcell]
    by_cases hz : (cellQ rows r col).num = 0
    ·have : ((cellQ rows r col).num == 0) = true := by simp [hz]
     rw [this,cond_true,div_zero_row (by omega) hz]
     rfl
    ·have : ((cellQ rows r col).num == 0) = false := by simpa using hz
     rw [this,cond_false,grd_pos (by omega),grd_pos (by omega),grd_pos (by omega),spec_divide _ _ _ (hrl r hrl'),Option.bind_some]
     have hdr : (fun j => divQ ((rows.getD r []).getD j ⟨0,0⟩).num ((rows.getD r []).getD j ⟨0,0⟩).den (cellQ rows r col).num (cellQ rows r col).den) = divRow rows r col := rfl
     rw [hdr]
     rcases hm : rowF (divRow rows r col) (rows.getD r []).length with ⟨o,main⟩
     cases o with
     | false => rfl
     | true =>
      have hml := (rowF_fst hm).1
      dsimp only
      rw [Bool.not_true,cond_false,grd_pos (by omega),← accT_zero rows r col main hrl']
      have hit := iter_all (step := l_spec_PivotTableau_0 rows basis cols (r : Int) col) (fun k => ((k : Int),accT rows r col main k)) rows.length (fun k => (pivNew rows r col main k).1) (a := .inl (accT rows r col main rows.length)) (b := .inr (cols,false,rows,basis))
       (fun k hk hp => by
        have h5 := h3 k hk
        have hbd := bdT_cell hq hk col
        unfold l_spec_PivotTableau_0 m_spec_l3Int
        dsimp only
        rw [decide_eq_true (by omega),cond_true,grd_pos (by omega),Int.toNat_natCast,grd_pos (by omega)]
        by_cases hkr : k = r
        ·have e : ((k : Int) == (r : Int)) = true := by simp [hkr]
         rw [e,cond_true,w64' (by omega) (by omega),accT_skip _ _ _ _ _ (.inl hkr)]
         rfl
        ·have e : ((k : Int) == (r : Int)) = false := by
          rw [beq_eq_false_iff_ne]
          omega
         have hc2 : ((rows.getD k []).getD col.toNat ⟨0,0⟩) = cellQ rows k col := rfl
         rw [e,cond_false,Option.bind_some,hc2]
         dsimp only
         rw [w64' (n := (k : Int) + 1) (by omega) (by omega),w64' (n := 0 - _) (by omega) (by omega),Int.zero_sub,Int.toNat_natCast,accT_main _ _ _ _ _ hrl',grd_pos (by omega),spec_scale _ _ _ _ (hrl k hk),Option.bind_some]
         by_cases hz2 : (cellQ rows k col).num = 0 ∧ (cellQ rows k col).den = 1
         ·have e2 : ((cellQ rows k col).num == 0 && (cellQ rows k col).den == 1) = true := by simpa using hz2
          rw [e2,cond_true,accT_skip rows r col main k (.inr (by unfold pivNew; rw [if_neg hkr,if_pos hz2]))]
          rfl
         ·have e2 : ((cellQ rows k col).num == 0 && (cellQ rows k col).den == 1) = false := by
           rw [← Bool.not_eq_true]
           simpa using hz2
          have e3 : pivNew rows r col main k = scaleF (rows.getD k []) (-(cellQ rows k col).num) (cellQ rows k col).den main := by
           unfold pivNew
           rw [if_neg hkr,if_neg hz2]
          have hset := accT_set rows r col main k hk hkr
          rw [e3] at hp hset
          rw [e2,cond_false,← hset]
          rcases hs : scaleF (rows.getD k []) (-(cellQ rows k col).num) (cellQ rows k col).den main with ⟨o,l⟩
          rw [hs] at hp
          simp only at hp
          subst hp
          dsimp only
          rw [Bool.not_true,cond_false,grd_pos (by rw [accT_length]; omega),grd_pos hkr]
          rfl)
       (fun k hk hp => by
        have h5 := h3 k hk
        have hbd := bdT_cell hq hk col
        unfold l_spec_PivotTableau_0 m_spec_l3Int
        dsimp only
        rw [decide_eq_true (by omega),cond_true,grd_pos (by omega),Int.toNat_natCast,grd_pos (by omega)]
        by_cases hkr : k = r
        ·unfold pivNew at hp
         rw [if_pos hkr] at hp
         cases hp
        ·have e : ((k : Int) == (r : Int)) = false := by
          rw [beq_eq_false_iff_ne]
          omega
         have hc2 : ((rows.getD k []).getD col.toNat ⟨0,0⟩) = cellQ rows k col := rfl
         rw [e,cond_false,Option.bind_some,hc2]
         dsimp only
         by_cases hz2 : (cellQ rows k col).num = 0 ∧ (cellQ rows k col).den = 1
         ·unfold pivNew at hp
          rw [if_neg hkr,if_pos hz2] at hp
          cases hp
         ·have e2 : ((cellQ rows k col).num == 0 && (cellQ rows k col).den == 1) = false := by
           rw [← Bool.not_eq_true]
           simpa using hz2
          have e3 : pivNew rows r col main k = scaleF (rows.getD k []) (-(cellQ rows k col).num) (cellQ rows k col).den main := by
           unfold pivNew
           rw [if_neg hkr,if_neg hz2]
          rw [e3] at hp
          rw [e2,cond_false,w64' (n := 0 - _) (by omega) (by omega),Int.zero_sub,Int.toNat_natCast,accT_main _ _ _ _ _ hrl',grd_pos (by omega),spec_scale _ _ _ _ (hrl k hk),Option.bind_some]
          rcases hs : scaleF (rows.getD k []) (-(cellQ rows k col).num) (cellQ rows k col).den main with ⟨o,l⟩
          rw [hs] at hp
          simp only at hp
          subst hp
          dsimp only
          rw [Bool.not_false,cond_true,spec_copyT rows basis cols hr hb hrl,Option.bind_some])
       (by
        unfold l_spec_PivotTableau_0
        dsimp only
        rw [decide_eq_false (by omega),cond_false])
      simp only [Int.natCast_zero] at hit
      rw [hit]
      by_cases hall : ∀ k,k < rows.length → (pivNew rows r col main k).1 = true
      ·rw [if_pos hall,if_pos ((all_iff _ _).2 hall),Option.bind_some]
       dsimp only
       rw [grd_pos (by omega),accT_last]
       rfl
      ·rw [if_neg hall,if_neg fun h => hall ((all_iff _ _).1 h)]
       rfl
   ·rw [decide_eq_false hcol,if_neg fun h => hcol h.2.2]
    rfl
  ·rw [decide_eq_false hrow,if_neg fun h => hrow h.2.1]
   rfl
theorem getD_set_self {α : Type} (l : List α) (i : Nat) (x d : α) (h : i < l.length) : (l.set i x).getD i d = x := by
 rw [getD_get _ _ _ (by rw [List.length_set]; exact h),List.getElem_set_self]
theorem impl_piv (rows : List (List Q)) (basis : List Int) (cols row col : Int) (hr : rows.length ≤ 1048576) (hb : basis.length ≤ 1048576) (hrl : ∀ i,i < rows.length → (rows.getD i []).length ≤ 1048576) (hq : bdT rows) : m_impl_PivotTableau rows basis cols row col = some (pivR rows basis cols (pivF rows basis cols row col)) := by
 unfold m_impl_PivotTableau pivF
 rw [impl_tabOk rows basis cols hr hb,impl_copyT rows basis cols hr hb hrl]
 cases ht : tabOk rows basis cols with
 | false => rw [if_neg (by simp)]; rfl
 | true =>
  obtain ⟨hcols,hbl,h3⟩ := tabOk_parts ht
  simp only [Option.bind_some,Bool.not_true,cond_false,within_eq]
  rw [w64' (n := (rows.length : Int) - 1) (by omega) (by omega),w64' (n := cols + (rows.length : Int)) (by omega) (by omega),w64' (n := cols + (rows.length : Int) - 1) (by omega) (by omega)]
  by_cases hrow : 0 ≤ row ∧ row ≤ (rows.length : Int) - 1
  ·rw [decide_eq_true hrow,Bool.not_true,cond_false]
   by_cases hcol : 0 ≤ col ∧ col ≤ cols + (rows.length : Int) - 1
   ·obtain ⟨r,hre⟩ : ∃ r : Nat,row = (r : Int) := ⟨row.toNat,by omega⟩
    subst hre
    have hrl' : r < rows.length := by omega
    have h4 := h3 r hrl'
    have hrr := hrl r hrl'
    rw [decide_eq_true hcol,Bool.not_true,cond_false,if_pos ⟨trivial,hrow,hcol⟩,grd_pos (by omega),Int.toNat_natCast,grd_pos (by omega),grd_pos (by omega)]
    have first := iter_all (step := l_impl_PivotTableau_0 rows basis cols (r : Int) col) (fun j => ((j : Int),rows.set r (tab (fun i => (⟨(divRow rows r col i).1,(divRow rows r col i).2.1⟩ : Q)) j ++ (rows.getD r []).drop j))) (rows.getD r []).length (fun j => (divRow rows r col j).2.2)
     (a := .inl (rows.set r (tab (fun i => (⟨(divRow rows r col i).1,(divRow rows r col i).2.1⟩ : Q)) (rows.getD r []).length))) (b := .inr (cols,false,rows,basis))
     (fun j hj hp => by
      unfold l_impl_PivotTableau_0
      dsimp only
      have hrow : (rows.set r (tab (fun i => (⟨(divRow rows r col i).1,(divRow rows r col i).2.1⟩ : Q)) j ++ (rows.getD r []).drop j)).getD r [] = tab (fun i => (⟨(divRow rows r col i).1,(divRow rows r col i).2.1⟩ : Q)) j ++ (rows.getD r []).drop j := getD_set_self _ _ _ _ hrl'
      rw [Int.toNat_natCast,Int.toNat_natCast,decide_eq_true (by omega),cond_true,grd_pos (by omega),impl_div,Option.bind_some,hrow]
      have hd : divQ ((rows.getD r []).getD j ⟨0,0⟩).num ((rows.getD r []).getD j ⟨0,0⟩).den ((rows.getD r []).getD col.toNat ⟨0,0⟩).num ((rows.getD r []).getD col.toNat ⟨0,0⟩).den = divRow rows r col j := rfl
      rw [hd,← set_tab (fun i => (⟨(divRow rows r col i).1,(divRow rows r col i).2.1⟩ : Q)) (rows.getD r []) j hj]
      rcases hs : divRow rows r col j with ⟨x,y,o⟩
      rw [hs] at hp
      simp only at hp
      subst hp
      dsimp only
      rw [Bool.not_true,cond_false,grd_pos (by rw [List.length_set]; omega),grd_pos (by rw [List.length_append,tab_length,List.length_drop]; omega),List.set_set,w64' (by omega) (by omega)]
      rfl)
     (fun j hj hp => by
      unfold l_impl_PivotTableau_0
      dsimp only
      rw [Int.toNat_natCast,Int.toNat_natCast,decide_eq_true (by omega),cond_true,grd_pos (by omega),impl_div,Option.bind_some]
      have hd : divQ ((rows.getD r []).getD j ⟨0,0⟩).num ((rows.getD r []).getD j ⟨0,0⟩).den ((rows.getD r []).getD col.toNat ⟨0,0⟩).num ((rows.getD r []).getD col.toNat ⟨0,0⟩).den = divRow rows r col j := rfl
      rw [hd]
      rcases hs : divRow rows r col j with ⟨x,y,o⟩
      rw [hs] at hp
      simp only at hp
      subst hp
      dsimp only
      rw [Bool.not_false,cond_true,impl_copyT rows basis cols hr hb hrl,Option.bind_some])
     (by
      unfold l_impl_PivotTableau_0
      dsimp only
      rw [Int.toNat_natCast,decide_eq_false (by omega),cond_false,List.drop_length,List.append_nil])
    have e0 : rows.set r (tab (fun i => (⟨(divRow rows r col i).1,(divRow rows r col i).2.1⟩ : Q)) 0 ++ (rows.getD r []).drop 0) = rows := by
     have : tab (fun i => (⟨(divRow rows r col i).1,(divRow rows r col i).2.1⟩ : Q)) 0 = [] := rfl
     rw [this,List.nil_append,List.drop_zero,getD_get _ _ _ hrl',List.set_getElem_self]
    simp only [Int.natCast_zero,e0] at first
    rw [first]
    by_cases hdall : ∀ j,j < (rows.getD r []).length → (divRow rows r col j).2.2 = true
    ·have hm : rowF (divRow rows r col) (rows.getD r []).length = (true,tab (fun i => (⟨(divRow rows r col i).1,(divRow rows r col i).2.1⟩ : Q)) (rows.getD r []).length) := by
      unfold rowF
      rw [if_pos ((all_iff _ _).2 hdall)]
     rw [if_pos hdall,hm,Option.bind_some]
     generalize hmain : tab (fun i => (⟨(divRow rows r col i).1,(divRow rows r col i).2.1⟩ : Q)) (rows.getD r []).length = main at hm
     dsimp only
     rw [← accT_zero rows r col main hrl']
     have hit := iter_all (step := l_impl_PivotTableau_1 rows basis cols (r : Int) col) (fun k => ((k : Int),accT rows r col main k)) rows.length (fun k => (pivNew rows r col main k).1) (a := .inl (accT rows r col main rows.length)) (b := .inr (cols,false,rows,basis))
      (fun k hk hp => by
       have h5 := h3 k hk
       have hbd := bdT_cell hq hk col
       unfold l_impl_PivotTableau_1 m_impl_whole m_impl_minus
       dsimp only
       rw [decide_eq_true (by omega),cond_true,grd_pos (by omega),Int.toNat_natCast]
       by_cases hkr : k = r
       ·have e : ((k : Int) == (r : Int)) = true := by simp [hkr]
        rw [e,cond_true,w64' (by omega) (by omega),accT_skip _ _ _ _ _ (.inl hkr)]
        rfl
       ·have e : ((k : Int) == (r : Int)) = false := by
         rw [beq_eq_false_iff_ne]
         omega
        have hc2 : ((rows.getD k []).getD col.toNat ⟨0,0⟩) = cellQ rows k col := rfl
        rw [e,cond_false,grd_pos (by omega),Option.bind_some,hc2]
        dsimp only
        rw [w64' (n := (k : Int) + 1) (by omega) (by omega),grd_pos (by omega),w64' (n := 0 - _) (by omega) (by omega),Int.zero_sub,Option.bind_some]
        dsimp only
        rw [Int.toNat_natCast,accT_main _ _ _ _ _ hrl',grd_pos (by rw [accT_length]; omega),impl_scale _ _ _ _ (hrl k hk),Option.bind_some]
        by_cases hz2 : (cellQ rows k col).num = 0 ∧ (cellQ rows k col).den = 1
        ·have e2 : ((cellQ rows k col).num == 0 && (cellQ rows k col).den == 1) = true := by simpa using hz2
         rw [e2,cond_true,accT_skip rows r col main k (.inr (by unfold pivNew; rw [if_neg hkr,if_pos hz2]))]
         rfl
        ·have e2 : ((cellQ rows k col).num == 0 && (cellQ rows k col).den == 1) = false := by
          rw [← Bool.not_eq_true]
          simpa using hz2
         have e3 : pivNew rows r col main k = scaleF (rows.getD k []) (-(cellQ rows k col).num) (cellQ rows k col).den main := by
          unfold pivNew
          rw [if_neg hkr,if_neg hz2]
         have hset := accT_set rows r col main k hk hkr
         rw [e3] at hp hset
         rw [e2,cond_false,← hset]
         rcases hs : scaleF (rows.getD k []) (-(cellQ rows k col).num) (cellQ rows k col).den main with ⟨o,l⟩
         rw [hs] at hp
         simp only at hp
         subst hp
         dsimp only
         rw [Bool.not_true,cond_false,grd_pos (by rw [accT_length]; omega)]
         rfl)
      (fun k hk hp => by
       have h5 := h3 k hk
       have hbd := bdT_cell hq hk col
       unfold l_impl_PivotTableau_1 m_impl_whole m_impl_minus
       dsimp only
       rw [decide_eq_true (by omega),cond_true,grd_pos (by omega),Int.toNat_natCast]
       by_cases hkr : k = r
       ·unfold pivNew at hp
        rw [if_pos hkr] at hp
        cases hp
       ·have e : ((k : Int) == (r : Int)) = false := by
         rw [beq_eq_false_iff_ne]
         omega
        have hc2 : ((rows.getD k []).getD col.toNat ⟨0,0⟩) = cellQ rows k col := rfl
        rw [e,cond_false,grd_pos (by omega),Option.bind_some,hc2]
        dsimp only
        by_cases hz2 : (cellQ rows k col).num = 0 ∧ (cellQ rows k col).den = 1
        ·unfold pivNew at hp
         rw [if_neg hkr,if_pos hz2] at hp
         cases hp
        ·have e2 : ((cellQ rows k col).num == 0 && (cellQ rows k col).den == 1) = false := by
          rw [← Bool.not_eq_true]
          simpa using hz2
         have e3 : pivNew rows r col main k = scaleF (rows.getD k []) (-(cellQ rows k col).num) (cellQ rows k col).den main := by
          unfold pivNew
          rw [if_neg hkr,if_neg hz2]
         rw [e3] at hp
         rw [e2,cond_false,grd_pos (by omega),w64' (n := 0 - _) (by omega) (by omega),Int.zero_sub,Option.bind_some]
         dsimp only
         rw [Int.toNat_natCast,accT_main _ _ _ _ _ hrl',grd_pos (by rw [accT_length]; omega),impl_scale _ _ _ _ (hrl k hk),Option.bind_some]
         rcases hs : scaleF (rows.getD k []) (-(cellQ rows k col).num) (cellQ rows k col).den main with ⟨o,l⟩
         rw [hs] at hp
         simp only at hp
         subst hp
         dsimp only
         rw [Bool.not_false,cond_true,impl_copyT rows basis cols hr hb hrl,Option.bind_some])
      (by
       unfold l_impl_PivotTableau_1
       dsimp only
       rw [decide_eq_false (by omega),cond_false])
     simp only [Int.natCast_zero] at hit
     rw [hit]
     by_cases hall : ∀ k,k < rows.length → (pivNew rows r col main k).1 = true
     ·rw [if_pos hall,if_pos ((all_iff _ _).2 hall),Option.bind_some]
      dsimp only
      rw [grd_pos (by omega),accT_last]
      rfl
     ·rw [if_neg hall,if_neg fun h => hall ((all_iff _ _).1 h)]
      rfl
    ·have hm : rowF (divRow rows r col) (rows.getD r []).length = (false,[]) := by
      unfold rowF
      rw [if_neg fun h => hdall ((all_iff _ _).1 h)]
     rw [if_neg hdall,hm]
     rfl
   ·rw [decide_eq_false hcol,if_neg fun h => hcol h.2.2]
    rfl
  ·rw [decide_eq_false hrow,if_neg fun h => hrow h.2.1]
   rfl
theorem scaleF_val {a : List Q} {kn kd : Int} {b r : List Q} (h : scaleF a kn kd b = (true,r)) (i : Nat) (hi : i < a.length) :
  vq (r.getD i ⟨0,0⟩) ∧ (vq (a.getD i ⟨0,0⟩) ∧ vq (b.getD i ⟨0,0⟩) ∧ validQ kn kd = true) ∧ qg r i = qg a i + rv kn kd * qg b i := by
 unfold scaleF at h
 split at h
 ·rename_i hl
  obtain ⟨_,h2,h3⟩ := rowF_fst h
  have hok := h3 i hi
  rw [h2]
  unfold qg
  rw [tab_getD _ _ _ _ hi]
  unfold scQ at hok ⊢
  rcases hm : mulQ kn kd (b.getD i ⟨0,0⟩).num (b.getD i ⟨0,0⟩).den with ⟨x,y,o1⟩
  rw [hm] at hok
  dsimp only at hok ⊢
  rcases ha : addQ (a.getD i ⟨0,0⟩).num (a.getD i ⟨0,0⟩).den x y with ⟨s,t,o2⟩
  rw [ha] at hok
  dsimp only at hok ⊢
  rw [Bool.and_eq_true] at hok
  obtain ⟨rfl,rfl⟩ := hok
  obtain ⟨⟨v1,v2⟩,v3,v4⟩ := mulQ_val hm
  obtain ⟨⟨w1,w2⟩,w3,w4⟩ := addQ_val ha
  refine ⟨w3,⟨w1,v2,v1⟩,?_⟩
  unfold qr
  rw [w4,v4]
 ·simp at h
def tv (rows : List (List Q)) (k j : Nat) : Rat := qg (rows.getD k []) j
structure GT (n m : Nat) (rows : List (List Q)) (basis : List Int) : Prop where
 rl : rows.length = m
 bl : basis.length = m
 m8 : m ≤ 8
 n70 : n ≤ 70
 row : ∀ k,k < m → (rows.getD k []).length = n + m + 1
 bas : ∀ k,k < m → 0 ≤ basis.getD k 0 ∧ basis.getD k 0 ≤ (n : Int) + m - 1
 val : ∀ k,k < m → ∀ j,j ≤ n + m → vq ((rows.getD k []).getD j ⟨0,0⟩)
theorem gt_tabOk {n m : Nat} {rows : List (List Q)} {basis : List Int} (h : GT n m rows basis) : tabOk rows basis (n : Int) = true := by
 have h1 := h.rl
 have h2 := h.n70
 have h3 := h.m8
 unfold tabOk
 simp only [Bool.and_eq_true]
 refine ⟨decide_eq_true (by omega),decide_eq_true (by rw [h.bl,h1]),(all_iff _ _).2 fun k hk => ?_,(all_iff _ _).2 fun k hk => ?_⟩
 ·unfold basOk
  have := h.bas k (by omega)
  exact decide_eq_true (by omega)
 ·unfold rowOk
  have := h.row k (by omega)
  rw [beq_iff_eq,this]
  omega
theorem GT.bd {n m : Nat} {rows : List (List Q)} {basis : List Int} (h : GT n m rows basis) : bdT rows := by
 intro k hk q hq
 have h1 := h.rl
 obtain ⟨j,hj,rfl⟩ := List.getElem_of_mem hq
 have hr := h.row k (by omega)
 have := validQ_bd (h.val k (by omega) j (by omega))
 rw [getD_get _ _ _ hj] at this
 omega
theorem GT.lens {n m : Nat} {rows : List (List Q)} {basis : List Int} (h : GT n m rows basis) : rows.length ≤ 1048576 ∧ basis.length ≤ 1048576 ∧ ∀ i,i < rows.length → (rows.getD i []).length ≤ 1048576 := by
 have h1 := h.rl
 have h2 := h.bl
 have h3 := h.m8
 have h4 := h.n70
 exact ⟨by omega,by omega,fun i hi => by rw [h.row i (by omega)]; omega⟩
theorem cell_val {n m : Nat} {rows : List (List Q)} {basis : List Int} (h : GT n m rows basis) {k : Nat} (hk : k < m) {j : Int} (h0 : 0 ≤ j) (hj : j ≤ (n : Int) + m) : vq (cellQ rows k j) ∧ qr (cellQ rows k j) = tv rows k j.toNat :=
 ⟨h.val k hk j.toNat (by omega),rfl⟩
theorem vq01 {q : Q} (h : vq q) (h0 : q.num = 0) : q.den = 1 := by
 have := validQ_bd h
 rw [h0,Int.gcd_zero_left] at this
 omega
theorem qr_zero {q : Q} (h : vq q) : qr q = 0 ↔ q.num = 0 := by
 obtain ⟨h1,h2⟩ := rv_sign h
 unfold qr
 constructor
 ·intro e
  rw [e] at h1 h2
  have a1 : ¬ q.num < 0 := fun hn => absurd (h1.2 hn) Rat.lt_irrefl
  have a2 : ¬ 0 < q.num := fun hn => absurd (h2.2 hn) Rat.lt_irrefl
  omega
 ·intro e
  rw [e,vq01 h e,rv01]
theorem pivF_val {n m : Nat} {rows : List (List Q)} {basis : List Int} (h : GT n m rows basis) {row col : Int} {rows' : List (List Q)} {basis' : List Int} (hp : pivF rows basis (n : Int) row col = some (rows',basis')) :
  ∃ r c : Nat,row = r ∧ col = c ∧ r < m ∧ c < n + m ∧ tv rows r c ≠ 0 ∧ basis' = basis.set r c ∧ GT n m rows' basis' ∧ (∀ j,j ≤ n + m → tv rows' r j * tv rows r c = tv rows r j) ∧
   ∀ k,k < m → k ≠ r → ∀ j,j ≤ n + m → tv rows' k j = tv rows k j - tv rows k c * tv rows' r j := by
 have hl := h.rl
 unfold pivF at hp
 split at hp
 case isFalse => cases hp
 rename_i hc
 obtain ⟨_,hrow,hcol⟩ := hc
 obtain ⟨r,rfl⟩ : ∃ r : Nat,row = (r : Int) := ⟨row.toNat,by omega⟩
 obtain ⟨c,rfl⟩ : ∃ c : Nat,col = (c : Int) := ⟨col.toNat,by omega⟩
 rw [Int.toNat_natCast] at hp
 have hr : r < m := by omega
 have hcm : c < n + m := by omega
 rcases hm : rowF (divRow rows r (c : Int)) (rows.getD r []).length with ⟨o,main⟩
 rw [hm] at hp
 cases o with
 | false => cases hp
 | true =>
  dsimp only at hp
  split at hp
  case isFalse => cases hp
  rename_i hall
  have hall := (all_iff _ _).1 hall
  simp only [Option.some.injEq,Prod.mk.injEq] at hp
  obtain ⟨hp1,hp2⟩ := hp
  obtain ⟨hml,hmt,hdv⟩ := rowF_fst hm
  rw [h.row r hr] at hml hmt hdv
  have main_val : ∀ j,j ≤ n + m → vq (main.getD j ⟨0,0⟩) ∧ (cellQ rows r (c : Int)).num ≠ 0 ∧ qg main j * tv rows r c = tv rows r j := fun j hj => by
   have hok := hdv j (by omega)
   rw [hmt]
   unfold qg
   rw [tab_getD _ _ _ _ (by omega)]
   unfold divRow at hok ⊢
   rcases hd : divQ ((rows.getD r []).getD j ⟨0,0⟩).num ((rows.getD r []).getD j ⟨0,0⟩).den (cellQ rows r (c : Int)).num (cellQ rows r (c : Int)).den with ⟨x,y,o⟩
   rw [hd] at hok
   dsimp only at hok
   subst hok
   obtain ⟨_,v2,v3,v4⟩ := divQ_val hd
   exact ⟨v2,v3,v4⟩
  have hrows : ∀ k,k < m → rows'.getD k [] = (pivNew rows r (c : Int) main k).2 := fun k hk => by
   rw [← hp1,tab_getD _ _ _ _ (by omega)]
  have hrr : rows'.getD r [] = main := by
   rw [hrows r hr]
   unfold pivNew
   rw [if_pos rfl]
  have other : ∀ k,k < m → k ≠ r → (rows'.getD k []).length = n + m + 1 ∧ ∀ j,j ≤ n + m → vq ((rows'.getD k []).getD j ⟨0,0⟩) ∧ tv rows' k j = tv rows k j - tv rows k c * qg main j := fun k hk hkr => by
   have hok := hall k (by omega)
   unfold tv
   rw [hrows k hk]
   obtain ⟨cv1,cv2⟩ := cell_val h hk (j := (c : Int)) (by omega) (by omega)
   rw [Int.toNat_natCast] at cv2
   unfold pivNew at hok ⊢
   rw [if_neg hkr] at hok ⊢
   by_cases hz : (cellQ rows k (c : Int)).num = 0 ∧ (cellQ rows k (c : Int)).den = 1
   ·rw [if_pos hz]
    refine ⟨h.row k hk,fun j hj => ⟨h.val k hk j hj,?_⟩⟩
    have : tv rows k c = 0 := by rw [← cv2]; exact (qr_zero cv1).2 hz.1
    unfold tv at this
    rw [this]
    grind
   ·rw [if_neg hz] at hok ⊢
    rcases hs : scaleF (rows.getD k []) (-(cellQ rows k (c : Int)).num) (cellQ rows k (c : Int)).den main with ⟨o,l⟩
    rw [hs] at hok
    simp only at hok
    subst hok
    refine ⟨by rw [(scaleF_length hs).1,h.row k hk],fun j hj => ?_⟩
    obtain ⟨w1,_,w3⟩ := scaleF_val hs j (by rw [h.row k hk]; omega)
    refine ⟨w1,?_⟩
    show qg l j = _
    rw [w3,rv_neg]
    have : rv (cellQ rows k (c : Int)).num (cellQ rows k (c : Int)).den = qg (rows.getD k []) c := cv2
    rw [this]
    grind
  have hb' : ∀ k,k < m → basis'.getD k 0 = if k = r then (c : Int) else basis.getD k 0 := fun k hk => by
   rw [← hp2]
   have hbl := h.bl
   rw [getD_get _ _ _ (by rw [List.length_set]; omega),List.getElem_set]
   by_cases e : k = r
   ·rw [if_pos e.symm,if_pos e]
   ·rw [if_neg (fun x => e x.symm),if_neg e,getD_get _ _ _ (by omega)]
  refine ⟨r,c,rfl,rfl,hr,hcm,?_,hp2.symm,⟨by rw [← hp1,tab_length,hl],by rw [← hp2,List.length_set]; exact h.bl,h.m8,h.n70,fun k hk => ?_,fun k hk => ?_,fun k hk j hj => ?_⟩,fun j hj => ?_,fun k hk hkr j hj => ?_⟩
  ·obtain ⟨cv1,cv2⟩ := cell_val h hr (j := (c : Int)) (by omega) (by omega)
   rw [Int.toNat_natCast] at cv2
   intro e
   rw [← cv2] at e
   exact (main_val 0 (by omega)).2.1 ((qr_zero cv1).1 e)
  ·by_cases e : k = r
   ·rw [e,hrr,hml]
   ·exact (other k hk e).1
  ·rw [hb' k hk]
   have := h.bas k hk
   split <;> omega
  ·by_cases e : k = r
   ·rw [e,hrr]; exact (main_val j hj).1
   ·exact ((other k hk e).2 j hj).1
  ·have := (main_val j hj).2.2
   unfold tv at this ⊢
   rw [hrr]
   exact this
  ·have := ((other k hk hkr).2 j hj).2
   rw [this]
   unfold tv
   rw [hrr]
theorem TInv.congr {S T T' : Nat → Nat → Rat} {n m : Nat} {b b' : Nat → Nat} (h : TInv S n m T b) (hT : ∀ k,k < m → ∀ j,j ≤ n + m → T' k j = T k j) (hb : ∀ k,k < m → b' k = b k) : TInv S n m T' b' := by
 refine ⟨fun k hk => by rw [hb k hk]; exact h.bb k hk,fun k hk j hj => ?_,fun i hi j hj => ?_,fun k hk l hl => ?_⟩
 ·rw [hT k hk j hj,h.L k hk j hj]
  exact sR_ext fun i hi => by rw [hT k hk (n + i) (by omega)]
 ·rw [h.R i hi j hj]
  exact sR_ext fun k hk => by rw [hb k hk,hT k hk j hj]
 ·rw [hb l hl,hT k hk _ (by have := h.bb l hl; omega),h.U k hk l hl]
def bn (basis : List Int) (k : Nat) : Nat := (basis.getD k 0).toNat
theorem pivF_inv {S : Nat → Nat → Rat} {n m : Nat} {rows : List (List Q)} {basis : List Int} (h : GT n m rows basis) (hi : TInv S n m (tv rows) (bn basis)) {row col : Int} {rows' : List (List Q)} {basis' : List Int} (hp : pivF rows basis (n : Int) row col = some (rows',basis')) :
  GT n m rows' basis' ∧ TInv S n m (tv rows') (bn basis') := by
 obtain ⟨r,c,rfl,rfl,hr,hc,hne,hb,hg,h1,h2⟩ := pivF_val h hp
 refine ⟨hg,(pivot_inv hi hr hc hne h1 h2).congr (fun _ _ _ _ => rfl) fun k hk => ?_⟩
 have hbl := h.bl
 unfold bn
 rw [hb,getD_get _ _ _ (by rw [List.length_set]; omega),List.getElem_set]
 by_cases e : k = r
 ·rw [if_pos e.symm,if_pos e,Int.toNat_natCast]
 ·rw [if_neg (fun x => e x.symm),if_neg e,getD_get _ _ _ (by omega)]
theorem costUp_val {n m : Nat} {rows : List (List Q)} {basis : List Int} {cost : List Q} (h : GT n m rows basis) (hl : cost.length = n + m) (hv : allB cost = true) : ∀ k,k ≤ m → (costUp rows basis cost k).1 = true →
  ∀ j,j ≤ n + m → vq ((costUp rows basis cost k).2.getD j ⟨0,0⟩) ∧ qg (costUp rows basis cost k).2 j = qg cost j - sR (fun k => qg cost (bn basis k) * tv rows k j) k
 | 0,_,_,j,hj => by
  simp only [costUp,sR]
  have e0 : qg cost (n + m) = 0 := by
   unfold qg
   rw [List.getD_eq_getElem?_getD,List.getElem?_eq_none (by omega)]
   show rv 0 0 = 0
   unfold rv
   rw [Rat.div_def]
   exact Rat.zero_mul _
  by_cases hj2 : j < n + m
  ·have e1 : (cost ++ [(⟨0,1⟩ : Q)]).getD j ⟨0,0⟩ = cost.getD j ⟨0,0⟩ := by
    rw [getD_get _ _ _ (by rw [List.length_append]; omega),getD_get _ _ _ (by omega),List.getElem_append_left (by omega)]
   unfold qg
   rw [e1]
   exact ⟨all_val hv j (by omega),by grind⟩
  ·have ej : j = n + m := by omega
   have e1 : (cost ++ [(⟨0,1⟩ : Q)]).getD j ⟨0,0⟩ = ⟨0,1⟩ := by
    rw [getD_get _ _ _ (by rw [List.length_append,List.length_singleton]; omega),List.getElem_append_right (by omega)]
    simp
   have e2 : qg (cost ++ [(⟨0,1⟩ : Q)]) j = 0 := by
    unfold qg
    rw [e1]
    exact rv01
   rw [e1,e2,ej,e0]
   exact ⟨valid01,by grind⟩
 | k + 1,hk,hok,j,hj => by
  have hrl := h.rl
  have hokk : (costUp rows basis cost k).1 = true := by
   cases hc : (costUp rows basis cost k).1 with
   | true => rfl
   | false =>
    have := costUp_mono hc 1
    rw [this] at hok
    cases hok
  obtain ⟨ih1,ih2⟩ := costUp_val h hl hv k (by omega) hokk j hj
  have e2 : costUp rows basis cost (k + 1) = scaleF (costUp rows basis cost k).2 (-(bco basis cost k).num) (bco basis cost k).den (rows.getD k []) := by
   show (bif (costUp rows basis cost k).1 then _ else _) = _
   rw [hokk,cond_true]
  rw [e2] at hok ⊢
  have hlen := costUp_length hokk
  rcases hs : scaleF (costUp rows basis cost k).2 (-(bco basis cost k).num) (bco basis cost k).den (rows.getD k []) with ⟨o,r⟩
  rw [hs] at hok
  simp only at hok
  subst hok
  obtain ⟨w1,_,w3⟩ := scaleF_val hs j (by omega)
  refine ⟨w1,?_⟩
  show qg r j = _
  rw [w3,ih2,rv_neg]
  simp only [sR]
  have : rv (bco basis cost k).num (bco basis cost k).den = qg cost (bn basis k) := rfl
  rw [this]
  unfold tv
  grind
theorem costF_val {n m : Nat} {rows : List (List Q)} {basis : List Int} {cost costs : List Q} (h : GT n m rows basis) (hc : costF rows basis (n : Int) cost = (true,costs)) :
  cost.length = n + m ∧ allB cost = true ∧ costs.length = n + m + 1 ∧ ∀ j,j ≤ n + m → vq (costs.getD j ⟨0,0⟩) ∧ qg costs j = qg cost j - sR (fun k => qg cost (bn basis k) * tv rows k j) m := by
 have hrl := h.rl
 unfold costF at hc
 split at hc
 ·rename_i h1
  obtain ⟨_,h2,h3⟩ := h1
  have hl : cost.length = n + m := by omega
  rw [hrl] at hc
  have hok : (costUp rows basis cost m).1 = true := by rw [hc]
  have hlen := costUp_length hok
  rw [hc] at hlen
  refine ⟨hl,h3,by rw [← hl]; exact hlen,fun j hj => ?_⟩
  have := costUp_val h hl h3 m (Nat.le_refl _) hok j hj
  rw [hc] at this
  exact this
 ·simp at hc
def phF (n : Nat) (cost : List Q) : Nat → List (List Q) → List Int → Int → Option (Int × List Q × List (List Q) × List Int × Int)
 | 0,_,_,_ => none
 | f + 1,rows,basis,p => match costF rows basis (n : Int) cost with
  | (false,_) => none
  | (true,costs) => if entF costs (n : Int) < 0 then some (-1,costs,rows,basis,p) else if lvF rows basis (n : Int) (entF costs (n : Int)) < 0 then some (entF costs (n : Int),costs,rows,basis,p) else if 1000 ≤ p then none else
   match pivF rows basis (n : Int) (lvF rows basis (n : Int) (entF costs (n : Int))) (entF costs (n : Int)) with
   | none => none
   | some (rows',basis') => phF n cost f rows' basis' (p + 1)
abbrev PhX := Int × List Q × List (List Q) × List Int × Int × Int × Bool
def phR (n : Nat) : Option (Int × List Q × List (List Q) × List Int × Int) → PhX → Prop
 | none,x => x.2.2.2.2.2.2 = true
 | some (c,k,r,b,p),x => x = (c,k,r,b,(n : Int),p,false)
def pvS (n : Nat) (rows : List (List Q)) (basis : List Int) (p row col : Int) : List (List Q) × List Int × Int × Int × Bool :=
 if 1000 ≤ p then (rows,basis,(n : Int),p,true) else match pivF rows basis (n : Int) row col with
  | some (r,b) => (r,b,(n : Int),p + 1,false)
  | none => (rows,basis,(n : Int),p + 1,true)
def pvI (n : Nat) (rows : List (List Q)) (basis : List Int) (p row col : Int) : List (List Q) × List Int × Int × Int × Bool :=
 if 1000 ≤ p then (rows,basis,(n : Int),p,true) else match pivF rows basis (n : Int) row col with
  | some (r,b) => (r,b,(n : Int),p + 1,false)
  | none => (rows,basis,(n : Int),p,true)
theorem spec_pv {n m : Nat} {rows : List (List Q)} {basis : List Int} (h : GT n m rows basis) (A : List (List Int)) (B : List Int) (C : List Q) (p row col : Int) (h0 : 0 ≤ p) (h1 : p ≤ 1000) : m_spec_l7Pivot_io3 A B C rows basis (n : Int) p false row col = some (pvS n rows basis p row col) := by
 obtain ⟨l1,l2,l3⟩ := h.lens
 unfold m_spec_l7Pivot_io3 pvS
 by_cases hp : 1000 ≤ p
 ·rw [decide_eq_true hp,cond_true,if_pos hp]
 ·rw [decide_eq_false hp,cond_false,if_neg hp,spec_piv rows basis _ row col l1 l2 l3 h.bd,Option.bind_some]
  rcases pivF rows basis (n : Int) row col with _ | ⟨r,b⟩
  ·dsimp only [pivR]
   rw [w64' (by omega) (by omega)]
   rfl
  ·dsimp only [pivR]
   rw [w64' (by omega) (by omega)]
   rfl
theorem impl_pv {n m : Nat} {rows : List (List Q)} {basis : List Int} (h : GT n m rows basis) (p row col : Int) (h0 : 0 ≤ p) (h1 : p ≤ 1000) : m_impl_solver_pivot_io3 rows basis (n : Int) p false row col = some (pvI n rows basis p row col) := by
 obtain ⟨l1,l2,l3⟩ := h.lens
 unfold m_impl_solver_pivot_io3 pvI
 by_cases hp : 1000 ≤ p
 ·have e : (p == 1000) = true := by
   rw [beq_iff_eq]
   omega
  rw [e,cond_true,if_pos hp]
 ·have e : (p == 1000) = false := by
   rw [beq_eq_false_iff_ne]
   omega
  rw [e,cond_false,if_neg hp,impl_piv rows basis _ row col l1 l2 l3 h.bd,Option.bind_some]
  rcases pivF rows basis (n : Int) row col with _ | ⟨r,b⟩
  ·rfl
  ·dsimp only [pivR]
   rw [w64' (by omega) (by omega)]
   rfl
theorem spec_ph {n m : Nat} (A : List (List Int)) (B : List Int) (C : List Q) (cost : List Q) (hc : cost.length ≤ 1000) : ∀ (f : Nat) (rows : List (List Q)) (basis : List Int) (p : Int),GT n m rows basis → 0 ≤ p → p ≤ 1000 → 1001 ≤ f + p →
  ∃ x,iter (l_spec_l7Phase_io3_0 A B C cost) (rows,basis,(n : Int),p,false) = some x ∧ phR n (phF n cost f rows basis p) x
 | 0,rows,basis,p,h,h0,h1,h2 => by omega
 | f + 1,rows,basis,p,h,h0,h1,h2 => by
  obtain ⟨l1,l2,l3⟩ := h.lens
  obtain ⟨z,hz⟩ : ∃ z,l_spec_l7Phase_io3_0 A B C cost (rows,basis,(n : Int),p,false) = z := ⟨_,rfl⟩
  have hstep := hz
  unfold l_spec_l7Phase_io3_0 at hstep
  dsimp only at hstep
  rw [spec_cost rows basis _ cost l1 l2 l3 (by omega),Option.bind_some] at hstep
  unfold phF
  rcases hcf : costF rows basis (n : Int) cost with ⟨o,costs⟩
  rw [hcf] at hstep
  dsimp only at hstep ⊢
  cases o with
  | false => exact ⟨_,iter_done (hz.trans hstep.symm),rfl⟩
  | true =>
   obtain ⟨_,_,c3,_⟩ := costF_val h hcf
   have hm8 := h.m8
   have hn70 := h.n70
   dsimp only
   rw [Bool.not_true,cond_false,spec_ent rows basis _ costs _ (by omega),Option.bind_some] at hstep
   by_cases he : entF costs (n : Int) < 0
   ·rw [if_pos he]
    rw [decide_eq_true he,cond_true] at hstep
    exact ⟨_,iter_done (hz.trans hstep.symm),rfl⟩
   ·rw [if_neg he]
    rw [decide_eq_false he,cond_false,leave_s rows basis (n : Int) (entF costs (n : Int)) l1 l2 l3,Option.bind_some] at hstep
    by_cases hlv : lvF rows basis (n : Int) (entF costs (n : Int)) < 0
    ·rw [if_pos hlv]
     rw [decide_eq_true hlv,cond_true] at hstep
     exact ⟨_,iter_done (hz.trans hstep.symm),rfl⟩
    ·rw [if_neg hlv]
     rw [decide_eq_false hlv,cond_false,spec_pv h A B C p _ _ h0 h1,Option.bind_some] at hstep
     unfold pvS at hstep
     by_cases hp : 1000 ≤ p
     ·rw [if_pos hp]
      rw [if_pos hp] at hstep
      exact ⟨_,iter_done (hz.trans hstep.symm),rfl⟩
     ·rw [if_neg hp]
      rw [if_neg hp] at hstep
      rcases hpv : pivF rows basis (n : Int) (lvF rows basis (n : Int) (entF costs (n : Int))) (entF costs (n : Int)) with _ | ⟨r,b⟩
      ·rw [hpv] at hstep
       exact ⟨_,iter_done (hz.trans hstep.symm),rfl⟩
      ·rw [hpv] at hstep
       obtain ⟨_,_,_,_,_,_,_,_,hg,_⟩ := pivF_val h hpv
       obtain ⟨x,hx1,hx2⟩ := spec_ph A B C cost hc f r b (p + 1) hg (by omega) (by omega) (by omega)
       exact ⟨x,(iter_next (hz.trans hstep.symm)).trans hx1,hx2⟩
def phI (n : Nat) : Option (Int × List Q × List (List Q) × List Int × Int) → ((List (List Q) × List Int × Int × Int × Bool) ⊕ PhX) → Prop
 | none,y => ∃ a b c d,y = .inl (a,b,c,d,true)
 | some (c,k,r,b,p),y => y = .inr (c,k,r,b,(n : Int),p,false)
theorem impl_failed (cost : List Q) (rows : List (List Q)) (basis : List Int) (n p : Int) : iter (l_impl_solver_run_io3_0 cost) (rows,basis,n,p,true) = some (.inl (rows,basis,n,p,true)) := iter_done (by rfl)
theorem impl_ph0 {n m : Nat} (cost : List Q) (hc : cost.length ≤ 1000) : ∀ (f : Nat) (rows : List (List Q)) (basis : List Int) (p : Int),GT n m rows basis → 0 ≤ p → p ≤ 1000 → 1001 ≤ f + p →
  ∃ y,iter (l_impl_solver_run_io3_0 cost) (rows,basis,(n : Int),p,false) = some y ∧ phI n (phF n cost f rows basis p) y
 | 0,rows,basis,p,h,h0,h1,h2 => by omega
 | f + 1,rows,basis,p,h,h0,h1,h2 => by
  obtain ⟨l1,l2,l3⟩ := h.lens
  obtain ⟨z,hz⟩ : ∃ z,l_impl_solver_run_io3_0 cost (rows,basis,(n : Int),p,false) = z := ⟨_,rfl⟩
  have hstep := hz
  unfold l_impl_solver_run_io3_0 at hstep
  dsimp only at hstep
  rw [Bool.not_false,cond_true,impl_cost rows basis _ cost l1 l2 (by omega),Option.bind_some] at hstep
  unfold phF
  rcases hcf : costF rows basis (n : Int) cost with ⟨o,costs⟩
  rw [hcf] at hstep
  dsimp only at hstep ⊢
  cases o with
  | false => exact ⟨_,iter_done (hz.trans hstep.symm),⟨_,_,_,_,rfl⟩⟩
  | true =>
   obtain ⟨_,_,c3,_⟩ := costF_val h hcf
   have hm8 := h.m8
   have hn70 := h.n70
   dsimp only
   rw [Bool.not_true,cond_false,impl_ent rows basis _ costs _ (by omega),Option.bind_some] at hstep
   by_cases he : entF costs (n : Int) < 0
   ·rw [if_pos he]
    rw [decide_eq_true he,cond_true] at hstep
    exact ⟨_,iter_done (hz.trans hstep.symm),rfl⟩
   ·rw [if_neg he]
    rw [decide_eq_false he,cond_false,leave_i rows basis (n : Int) (entF costs (n : Int)) l1 l2,Option.bind_some] at hstep
    by_cases hlv : lvF rows basis (n : Int) (entF costs (n : Int)) < 0
    ·rw [if_pos hlv]
     rw [decide_eq_true hlv,cond_true] at hstep
     exact ⟨_,iter_done (hz.trans hstep.symm),rfl⟩
    ·rw [if_neg hlv]
     rw [decide_eq_false hlv,cond_false,impl_pv h p _ _ h0 h1,Option.bind_some] at hstep
     unfold pvI at hstep
     by_cases hp : 1000 ≤ p
     ·rw [if_pos hp]
      rw [if_pos hp] at hstep
      exact ⟨_,(iter_next (hz.trans hstep.symm)).trans (impl_failed _ _ _ _ _),⟨_,_,_,_,rfl⟩⟩
     ·rw [if_neg hp]
      rw [if_neg hp] at hstep
      rcases hpv : pivF rows basis (n : Int) (lvF rows basis (n : Int) (entF costs (n : Int))) (entF costs (n : Int)) with _ | ⟨r,b⟩
      ·rw [hpv] at hstep
       exact ⟨_,(iter_next (hz.trans hstep.symm)).trans (impl_failed _ _ _ _ _),⟨_,_,_,_,rfl⟩⟩
      ·rw [hpv] at hstep
       obtain ⟨_,_,_,_,_,_,_,_,hg,_⟩ := pivF_val h hpv
       obtain ⟨x,hx1,hx2⟩ := impl_ph0 cost hc f r b (p + 1) hg (by omega) (by omega) (by omega)
       exact ⟨x,(iter_next (hz.trans hstep.symm)).trans hx1,hx2⟩
theorem impl_ph {n m : Nat} (cost : List Q) (hc : cost.length ≤ 1000) (f : Nat) (rows : List (List Q)) (basis : List Int) (p : Int) (h : GT n m rows basis) (h0 : 0 ≤ p) (h1 : p ≤ 1000) (h2 : 1001 ≤ f + p) :
  ∃ x,m_impl_solver_run_io3 rows basis (n : Int) p false cost = some x ∧ phR n (phF n cost f rows basis p) x := by
 obtain ⟨y,h3,h4⟩ := impl_ph0 cost hc f rows basis p h h0 h1 h2
 unfold m_impl_solver_run_io3
 rw [h3,Option.bind_some]
 rcases hph : phF n cost f rows basis p with _ | ⟨c,k,r,b,p'⟩ <;> rw [hph] at h4
 ·obtain ⟨a,b,c,d,rfl⟩ := h4
  exact ⟨_,rfl,rfl⟩
 ·have : y = .inr (c,k,r,b,(n : Int),p',false) := h4
  subst this
  exact ⟨_,rfl,rfl⟩
theorem phF_good {n m : Nat} {S : Nat → Nat → Rat} {cost : List Q} : ∀ (f : Nat) (rows : List (List Q)) (basis : List Int) (p : Int),GT n m rows basis → TInv S n m (tv rows) (bn basis) → 0 ≤ p → p ≤ 1000 → ∀ c k r b p',phF n cost f rows basis p = some (c,k,r,b,p') →
  GT n m r b ∧ TInv S n m (tv r) (bn b) ∧ (0 ≤ p' ∧ p' ≤ 1000) ∧ costF r b (n : Int) cost = (true,k) ∧ ((c = -1 ∧ entF k (n : Int) < 0) ∨ (c = entF k (n : Int) ∧ 0 ≤ c))
 | 0,rows,basis,p,h,hi,h0,h1,c,k,r,b,p',he => by cases he
 | f + 1,rows,basis,p,h,hi,h0,h1,c,k,r,b,p',hph => by
  unfold phF at hph
  rcases hcf : costF rows basis (n : Int) cost with ⟨o,costs⟩
  rw [hcf] at hph
  cases o with
  | false => cases hph
  | true =>
   dsimp only at hph
   by_cases he : entF costs (n : Int) < 0
   ·rw [if_pos he] at hph
    simp only [Option.some.injEq,Prod.mk.injEq] at hph
    obtain ⟨rfl,rfl,rfl,rfl,rfl⟩ := hph
    exact ⟨h,hi,⟨h0,h1⟩,hcf,.inl ⟨rfl,he⟩⟩
   ·rw [if_neg he] at hph
    by_cases hlv : lvF rows basis (n : Int) (entF costs (n : Int)) < 0
    ·rw [if_pos hlv] at hph
     simp only [Option.some.injEq,Prod.mk.injEq] at hph
     obtain ⟨rfl,rfl,rfl,rfl,rfl⟩ := hph
     exact ⟨h,hi,⟨h0,h1⟩,hcf,.inr ⟨rfl,by omega⟩⟩
    ·rw [if_neg hlv] at hph
     by_cases hp : 1000 ≤ p
     ·rw [if_pos hp] at hph
      cases hph
     ·rw [if_neg hp] at hph
      rcases hpv : pivF rows basis (n : Int) (lvF rows basis (n : Int) (entF costs (n : Int))) (entF costs (n : Int)) with _ | ⟨r2,b2⟩
      ·rw [hpv] at hph
       cases hph
      ·rw [hpv] at hph
       obtain ⟨g1,g2⟩ := pivF_inv h hi hpv
       exact phF_good f r2 b2 (p + 1) g1 g2 (by omega) (by omega) c k r b p' hph
def drS (n : Nat) (k : Nat) (rows : List (List Q)) (basis : List Int) (p : Int) : Option (List (List Q) × List Int × Int) :=
 if basis.getD k 0 < (n : Int) then some (rows,basis,p) else match (List.range n).find? (fun j : Nat => !decide ((cellQ rows k (j : Int)).num = 0)) with
  | none => some (rows,basis,p)
  | some j => if 1000 ≤ p then none else match pivF rows basis (n : Int) (k : Int) (j : Int) with
   | none => none
   | some (r,b) => some (r,b,p + 1)
def drF (n : Nat) (rows : List (List Q)) (basis : List Int) (p : Int) : Nat → Option (List (List Q) × List Int × Int)
 | 0 => some (rows,basis,p)
 | k + 1 => match drF n rows basis p k with
  | none => none
  | some (r,b,q) => drS n k r b q
theorem drS_good {n m : Nat} {S : Nat → Nat → Rat} {k : Nat} {rows : List (List Q)} {basis : List Int} {p : Int} (h : GT n m rows basis) (hi : TInv S n m (tv rows) (bn basis)) (h0 : 0 ≤ p) (h1 : p ≤ 1000) {r : List (List Q)} {b : List Int} {q : Int} (hd : drS n k rows basis p = some (r,b,q)) :
  GT n m r b ∧ TInv S n m (tv r) (bn b) ∧ (0 ≤ q ∧ q ≤ 1000) := by
 unfold drS at hd
 by_cases hb : basis.getD k 0 < (n : Int)
 ·rw [if_pos hb] at hd
  simp only [Option.some.injEq,Prod.mk.injEq] at hd
  obtain ⟨rfl,rfl,rfl⟩ := hd
  exact ⟨h,hi,h0,h1⟩
 ·rw [if_neg hb] at hd
  split at hd
  ·simp only [Option.some.injEq,Prod.mk.injEq] at hd
   obtain ⟨rfl,rfl,rfl⟩ := hd
   exact ⟨h,hi,h0,h1⟩
  ·rename_i j hj
   by_cases hp : 1000 ≤ p
   ·rw [if_pos hp] at hd
    cases hd
   ·rw [if_neg hp] at hd
    rcases hpv : pivF rows basis (n : Int) (k : Int) (j : Int) with _ | ⟨r2,b2⟩
    ·rw [hpv] at hd
     cases hd
    ·rw [hpv] at hd
     simp only [Option.some.injEq,Prod.mk.injEq] at hd
     obtain ⟨rfl,rfl,rfl⟩ := hd
     obtain ⟨g1,g2⟩ := pivF_inv h hi hpv
     exact ⟨g1,g2,by omega,by omega⟩
theorem drF_good {n m : Nat} {S : Nat → Nat → Rat} {rows : List (List Q)} {basis : List Int} {p : Int} (h : GT n m rows basis) (hi : TInv S n m (tv rows) (bn basis)) (h0 : 0 ≤ p) (h1 : p ≤ 1000) : ∀ (k : Nat) {r : List (List Q)} {b : List Int} {q : Int},drF n rows basis p k = some (r,b,q) →
  GT n m r b ∧ TInv S n m (tv r) (bn b) ∧ (0 ≤ q ∧ q ≤ 1000)
 | 0,r,b,q,hd => by
  simp only [drF,Option.some.injEq,Prod.mk.injEq] at hd
  obtain ⟨rfl,rfl,rfl⟩ := hd
  exact ⟨h,hi,h0,h1⟩
 | k + 1,r,b,q,hd => by
  simp only [drF] at hd
  rcases hk : drF n rows basis p k with _ | ⟨r2,b2,q2⟩
  ·rw [hk] at hd
   cases hd
  ·rw [hk] at hd
   obtain ⟨g1,g2,g3,g4⟩ := drF_good h hi h0 h1 k hk
   exact drS_good g1 g2 g3 g4 hd
theorem drF_none {n : Nat} {rows : List (List Q)} {basis : List Int} {p : Int} {k : Nat} (h : drF n rows basis p k = none) : ∀ j,drF n rows basis p (k + j) = none
 | 0 => h
 | j + 1 => by
  show drF n rows basis p (k + j + 1) = none
  simp only [drF]
  rw [drF_none h j]
def drR (n : Nat) : Option (List (List Q) × List Int × Int) → (List (List Q) × List Int × Int × Int × Bool) → Prop
 | none,x => x.2.2.2.2 = true
 | some (r,b,p),x => x = (r,b,(n : Int),p,false)
theorem spec_drIn {n m : Nat} (A : List (List Int)) (B : List Int) (C : List Q) {k : Nat} {rows : List (List Q)} {basis : List Int} {p : Int} (h : GT n m rows basis) (hk : k < m) (h0 : 0 ≤ p) (h1 : p ≤ 1000) :
  iter (l_spec_l7Drive_io3_1 A B C (k : Int) rows basis (n : Int) p false) 0 = some (match (List.range n).find? (fun j : Nat => !decide ((cellQ rows k (j : Int)).num = 0)) with
   | none => (rows,basis,(n : Int),p,false)
   | some j => pvS n rows basis p (k : Int) (j : Int)) := by
 have hrl := h.rl
 have hn := h.n70
 have hm := h.m8
 have hit := iter_findc (step := l_spec_l7Drive_io3_1 A B C (k : Int) rows basis (n : Int) p false) (fun j => (j : Int)) n (fun j : Nat => !decide ((cellQ rows k (j : Int)).num = 0)) (rows,basis,(n : Int),p,false) (fun j => pvS n rows basis p (k : Int) (j : Int))
  (fun j hj => by
   have hrow := h.row k hk
   unfold l_spec_l7Drive_io3_1
   rw [decide_eq_true (by omega),cond_true,grd_pos (by omega),Int.toNat_natCast,grd_pos (by omega)]
   have hc : ((rows.getD k []).getD (j : Int).toNat ⟨0,0⟩) = cellQ rows k (j : Int) := rfl
   rw [hc,spec_pv h A B C p _ _ h0 h1,Option.bind_some,w64' (by omega) (by omega)]
   by_cases hz : (cellQ rows k (j : Int)).num = 0
   ·have e : ((cellQ rows k (j : Int)).num != 0) = false := by simp [hz]
    rw [e,decide_eq_true hz]
    rfl
   ·have e : ((cellQ rows k (j : Int)).num != 0) = true := by simpa using hz
    rw [e,decide_eq_false hz]
    rfl)
  (by unfold l_spec_l7Drive_io3_1; rw [decide_eq_false (by omega),cond_false])
 simp only [Int.natCast_zero] at hit
 rw [hit]
 cases (List.range n).find? (fun j : Nat => !decide ((cellQ rows k (j : Int)).num = 0)) <;> rfl
theorem spec_drive {n m : Nat} {S : Nat → Nat → Rat} (A : List (List Int)) (B : List Int) (C : List Q) (rows0 : List (List Q)) (basis0 : List Int) (p0 : Int) (h : GT n m rows0 basis0) (hi : TInv S n m (tv rows0) (bn basis0)) (h0 : 0 ≤ p0) (h1 : p0 ≤ 1000) :
  ∃ x,m_spec_l7Drive_io3 A B C rows0 basis0 (n : Int) p0 false = some x ∧ drR n (drF n rows0 basis0 p0 m) x := by
 have key : ∀ j k rows basis p,m - k = j → k ≤ m → drF n rows0 basis0 p0 k = some (rows,basis,p) → ∃ x,iter (l_spec_l7Drive_io3_0 A B C) ((k : Int),rows,basis,(n : Int),p,false) = some x ∧ drR n (drF n rows0 basis0 p0 m) x := by
  intro j
  induction j with
  | zero =>
   intro k rows basis p e1 e2 hd
   obtain ⟨g1,_,_⟩ := drF_good h hi h0 h1 k hd
   have hrl := g1.rl
   have e : k = m := by omega
   subst e
   rw [hd]
   refine ⟨_,iter_done ?_,rfl⟩
   unfold l_spec_l7Drive_io3_0
   dsimp only
   rw [decide_eq_false (by omega),cond_false]
  | succ j ih =>
   intro k rows basis p e1 e2 hd
   obtain ⟨g1,g2,g3,g4⟩ := drF_good h hi h0 h1 k hd
   have hrl := g1.rl
   have hbl := g1.bl
   have hm8 := g1.m8
   have hk : k < m := by omega
   have hnx : drF n rows0 basis0 p0 (k + 1) = drS n k rows basis p := by
    simp only [drF]
    rw [hd]
   obtain ⟨z,hz⟩ : ∃ z,l_spec_l7Drive_io3_0 A B C ((k : Int),rows,basis,(n : Int),p,false) = z := ⟨_,rfl⟩
   have hstep := hz
   unfold l_spec_l7Drive_io3_0 at hstep
   dsimp only at hstep
   rw [decide_eq_true (by omega),cond_true,Bool.not_false,cond_true,grd_pos (by omega),Int.toNat_natCast,w64' (by omega) (by omega),spec_drIn A B C g1 hk g3 g4,Option.bind_some] at hstep
   unfold drS at hnx
   by_cases hb : basis.getD k 0 < (n : Int)
   ·rw [if_pos hb] at hnx
    rw [decide_eq_true hb,cond_true] at hstep
    obtain ⟨x,hx1,hx2⟩ := ih (k + 1) rows basis p (by omega) (by omega) hnx
    exact ⟨x,(iter_next (hz.trans hstep.symm)).trans hx1,hx2⟩
   ·rw [if_neg hb] at hnx
    rw [decide_eq_false hb,cond_false] at hstep
    cases hf : (List.range n).find? (fun j : Nat => !decide ((cellQ rows k (j : Int)).num = 0)) with
    | none =>
     rw [hf] at hnx hstep
     obtain ⟨x,hx1,hx2⟩ := ih (k + 1) rows basis p (by omega) (by omega) hnx
     exact ⟨x,(iter_next (hz.trans hstep.symm)).trans hx1,hx2⟩
    | some i =>
     rw [hf] at hnx hstep
     dsimp only at hnx hstep
     have bad : ∀ r b q,drF n rows0 basis0 p0 (k + 1) = none → ∃ x,iter (l_spec_l7Drive_io3_0 A B C) ((k : Int) + 1,r,b,(n : Int),q,true) = some x ∧ drR n (drF n rows0 basis0 p0 m) x := fun r b q hn => by
      have := drF_none hn (m - (k + 1))
      rw [show k + 1 + (m - (k + 1)) = m by omega] at this
      rw [this]
      refine ⟨(r,b,(n : Int),q,true),iter_done ?_,rfl⟩
      unfold l_spec_l7Drive_io3_0
      dsimp only
      cases decide ((k : Int) + 1 < (r.length : Int)) <;> rfl
     unfold pvS at hstep
     by_cases hp : 1000 ≤ p
     ·rw [if_pos hp] at hnx hstep
      obtain ⟨x,hx1,hx2⟩ := bad rows basis p hnx
      exact ⟨x,(iter_next (hz.trans hstep.symm)).trans hx1,hx2⟩
     ·rw [if_neg hp] at hnx hstep
      rcases hpv : pivF rows basis (n : Int) (k : Int) (i : Int) with _ | ⟨r,b⟩
      ·rw [hpv] at hnx hstep
       obtain ⟨x,hx1,hx2⟩ := bad rows basis (p + 1) hnx
       exact ⟨x,(iter_next (hz.trans hstep.symm)).trans hx1,hx2⟩
      ·rw [hpv] at hnx hstep
       obtain ⟨x,hx1,hx2⟩ := ih (k + 1) r b (p + 1) (by omega) (by omega) hnx
       exact ⟨x,(iter_next (hz.trans hstep.symm)).trans hx1,hx2⟩
 obtain ⟨x,hx1,hx2⟩ := key m 0 rows0 basis0 p0 (by omega) (by omega) rfl
 refine ⟨x,?_,hx2⟩
 unfold m_spec_l7Drive_io3
 rw [Int.natCast_zero] at hx1
 rw [hx1,Option.bind_some]
def drI (n : Nat) : Option (List (List Q) × List Int × Int) → ((Int × Int × Bool × List (List Q) × List Int) ⊕ (Int × Int × Int × Int × Bool × List Q × List Q × List Q)) → Prop
 | none,y => y = .inr (0,0,0,0,false,[],[],[])
 | some (r,b,p),y => y = .inl ((n : Int),p,false,r,b)
def pvJ (n : Nat) (rows : List (List Q)) (basis : List Int) (p row col : Int) : Int × Int × Bool × List (List Q) × List Int := match pvI n rows basis p row col with
 | (r,b,c,q,o) => (c,q,o,r,b)
theorem impl_drIn {n m : Nat} (C : List Q) (hC : C.length = n) {k : Nat} {rows : List (List Q)} {basis : List Int} {p : Int} (h : GT n m rows basis) (hk : k < m) (h0 : 0 ≤ p) (h1 : p ≤ 1000) :
  iter (l_impl_solve_2 C (k : Int) (n : Int) p false rows basis) 0 = some (match (List.range n).find? (fun j : Nat => !decide ((cellQ rows k (j : Int)).num = 0)) with
   | none => ((n : Int),p,false,rows,basis)
   | some j => pvJ n rows basis p (k : Int) (j : Int)) := by
 have hrl := h.rl
 have hn := h.n70
 have hm := h.m8
 have hit := iter_findc (step := l_impl_solve_2 C (k : Int) (n : Int) p false rows basis) (fun j => (j : Int)) n (fun j : Nat => !decide ((cellQ rows k (j : Int)).num = 0)) ((n : Int),p,false,rows,basis) (fun j => pvJ n rows basis p (k : Int) (j : Int))
  (fun j hj => by
   have hrow := h.row k hk
   unfold l_impl_solve_2 m_impl_whole
   rw [decide_eq_true (by omega),cond_true,grd_pos (by omega),Int.toNat_natCast,grd_pos (by omega),Option.bind_some]
   have hc : ((rows.getD k []).getD (j : Int).toNat ⟨0,0⟩) = cellQ rows k (j : Int) := rfl
   rw [hc]
   dsimp only
   rw [impl_pv h p _ _ h0 h1,Option.bind_some,w64' (by omega) (by omega)]
   by_cases hz : (cellQ rows k (j : Int)).num = 0
   ·have hd := vq01 (cell_val h hk (by omega : (0 : Int) ≤ (j : Int)) (by omega)).1 hz
    have e : (!((cellQ rows k (j : Int)).num == 0 && (cellQ rows k (j : Int)).den == 1)) = false := by simp [hz,hd]
    rw [e,decide_eq_true hz]
    rfl
   ·have e : (!((cellQ rows k (j : Int)).num == 0 && (cellQ rows k (j : Int)).den == 1)) = true := by simp [hz]
    rw [e,decide_eq_false hz]
    rfl)
  (by unfold l_impl_solve_2; rw [decide_eq_false (by omega),cond_false])
 simp only [Int.natCast_zero] at hit
 rw [hit]
 cases (List.range n).find? (fun j : Nat => !decide ((cellQ rows k (j : Int)).num = 0)) <;> rfl
theorem impl_drive {n m : Nat} {S : Nat → Nat → Rat} (B : List Int) (hB : B.length = m) (C : List Q) (hC : C.length = n) (rows0 : List (List Q)) (basis0 : List Int) (p0 : Int) (h : GT n m rows0 basis0) (hi : TInv S n m (tv rows0) (bn basis0)) (h0 : 0 ≤ p0) (h1 : p0 ≤ 1000) :
  ∃ y,iter (l_impl_solve_1 B C) ((0 : Int),(n : Int),p0,false,rows0,basis0) = some y ∧ drI n (drF n rows0 basis0 p0 m) y := by
 have key : ∀ j k rows basis p,m - k = j → k ≤ m → drF n rows0 basis0 p0 k = some (rows,basis,p) → ∃ y,iter (l_impl_solve_1 B C) ((k : Int),(n : Int),p,false,rows,basis) = some y ∧ drI n (drF n rows0 basis0 p0 m) y := by
  intro j
  induction j with
  | zero =>
   intro k rows basis p e1 e2 hd
   obtain ⟨g1,_,_⟩ := drF_good h hi h0 h1 k hd
   have e : k = m := by omega
   subst e
   rw [hd]
   refine ⟨_,iter_done ?_,rfl⟩
   unfold l_impl_solve_1
   dsimp only
   rw [decide_eq_false (by omega),cond_false]
  | succ j ih =>
   intro k rows basis p e1 e2 hd
   obtain ⟨g1,g2,g3,g4⟩ := drF_good h hi h0 h1 k hd
   have hrl := g1.rl
   have hbl := g1.bl
   have hm8 := g1.m8
   have hk : k < m := by omega
   have hnx : drF n rows0 basis0 p0 (k + 1) = drS n k rows basis p := by
    simp only [drF]
    rw [hd]
   obtain ⟨z,hz⟩ : ∃ z,l_impl_solve_1 B C ((k : Int),(n : Int),p,false,rows,basis) = z := ⟨_,rfl⟩
   have hstep := hz
   unfold l_impl_solve_1 at hstep
   dsimp only at hstep
   rw [decide_eq_true (by omega),cond_true,grd_pos (by omega),Int.toNat_natCast,w64' (by omega) (by omega),impl_drIn C hC g1 hk g3 g4,Option.bind_some] at hstep
   unfold drS at hnx
   by_cases hb : basis.getD k 0 < (n : Int)
   ·rw [if_pos hb] at hnx
    rw [decide_eq_true (by omega),cond_true] at hstep
    obtain ⟨x,hx1,hx2⟩ := ih (k + 1) rows basis p (by omega) (by omega) hnx
    exact ⟨x,(iter_next (hz.trans hstep.symm)).trans hx1,hx2⟩
   ·rw [if_neg hb] at hnx
    rw [decide_eq_false (by omega),cond_false] at hstep
    have bad : drF n rows0 basis0 p0 (k + 1) = none → drF n rows0 basis0 p0 m = none := fun hn => by
     have := drF_none hn (m - (k + 1))
     rwa [show k + 1 + (m - (k + 1)) = m by omega] at this
    cases hf : (List.range n).find? (fun j : Nat => !decide ((cellQ rows k (j : Int)).num = 0)) with
    | none =>
     rw [hf] at hnx hstep
     obtain ⟨x,hx1,hx2⟩ := ih (k + 1) rows basis p (by omega) (by omega) hnx
     exact ⟨x,(iter_next (hz.trans hstep.symm)).trans hx1,hx2⟩
    | some i =>
     rw [hf] at hnx hstep
     dsimp only at hnx hstep
     unfold pvJ pvI at hstep
     by_cases hp : 1000 ≤ p
     ·rw [if_pos hp] at hnx hstep
      rw [bad hnx]
      exact ⟨_,iter_done (hz.trans hstep.symm),rfl⟩
     ·rw [if_neg hp] at hnx hstep
      rcases hpv : pivF rows basis (n : Int) (k : Int) (i : Int) with _ | ⟨r,b⟩
      ·rw [hpv] at hnx hstep
       rw [bad hnx]
       exact ⟨_,iter_done (hz.trans hstep.symm),rfl⟩
      ·rw [hpv] at hnx hstep
       obtain ⟨x,hx1,hx2⟩ := ih (k + 1) r b (p + 1) (by omega) (by omega) hnx
       exact ⟨x,(iter_next (hz.trans hstep.symm)).trans hx1,hx2⟩
 obtain ⟨y,hy1,hy2⟩ := key m 0 rows0 basis0 p0 (by omega) (by omega) rfl
 rw [Int.natCast_zero] at hy1
 exact ⟨y,hy1,hy2⟩
def sgB (B : List Int) (k : Nat) : Int := if B.getD k 0 < 0 then -1 else 1
def stX (A : List (List Int)) (B : List Int) (k j : Nat) : Q := ⟨sgB B k * (A.getD k []).getD j 0,1⟩
def stU (k i : Nat) : Q := ⟨if i = k then 1 else 0,1⟩
def stRow (A : List (List Int)) (B : List Int) (n m k : Nat) : List Q := tab (stX A B k) n ++ tab (stU k) m ++ [⟨sgB B k * B.getD k 0,1⟩]
def stRows (A : List (List Int)) (B : List Int) (n : Nat) : List (List Q) := tab (stRow A B n A.length) A.length
def stBas (n m : Nat) : List Int := tab (fun k => (n : Int) + (k : Int)) m
theorem small_at {l : List Int} (h : smallB l = true) (i : Nat) : -5000 ≤ l.getD i 0 ∧ l.getD i 0 ≤ 5000 := by
 by_cases hi : i < l.length
 ·exact of_decide_eq_true ((all_iff _ _).1 h i hi)
 ·have : l.getD i 0 = 0 := by
   rw [List.getD_eq_getElem?_getD,List.getElem?_eq_none (by omega)]
   rfl
  rw [this]
  decide
theorem iter_tab {step : Int × List Q → Option ((Int × List Q) ⊕ List Q)} (l : List Q) (f : Nat → Q) (n : Nat) (hs : ∀ i,i < n → ∀ acc : List Q,acc.length = l.length + i → step ((i : Int),acc) = some (.inl (((i + 1 : Nat) : Int),acc ++ [f i]))) (hd : ∀ acc,step ((n : Int),acc) = some (.inr acc)) :
  iter step ((0 : Int),l) = some (l ++ tab f n) := by
 have hit := iter_up (step := step) (fun i => ((i : Int),l ++ tab f i)) n (a := l ++ tab f n) (fun i hi => by
   have := hs i hi (l ++ tab f i) (by rw [List.length_append,tab_length])
   rw [this,tab_succ,List.append_assoc])
  (hd _)
 have e0 : l ++ tab f 0 = l := by
  have : tab f 0 = [] := rfl
  rw [this,List.append_nil]
 simp only [Int.natCast_zero,e0] at hit
 exact hit
theorem l1bit (b : Bool) : m_spec_l1Bit b = some (if b = true then 1 else 0) := by cases b <;> rfl
theorem beqI (i k : Nat) : ((i : Int) == (k : Int)) = decide (i = k) := by
 by_cases h : i = k
 ·simp [h]
 ·have : ¬ ((i : Int) = (k : Int)) := by omega
  simp [h,this]
theorem spec_start (A : List (List Int)) (B : List Int) (C : List Q) (h : lpOk A B C = true) : m_spec_StartTableau A B C = some ((C.length : Int),stRows A B C.length,stBas C.length A.length) := by
 obtain ⟨p1,p2,p3,p4,p5,p6⟩ := lpOk_parts h
 have hroom : (room : Nat) = 1099511627776 := rfl
 unfold m_spec_StartTableau
 rw [spec_lp A B C (by omega) (fun i hi => by rw [(p1 i hi).1]; omega) (by omega) (by omega),h,Option.bind_some,Bool.not_true,cond_false]
 have hit := iter_up (step := l_spec_StartTableau_0 A B C) (fun k => ((k : Int),tab (stRow A B C.length A.length) k,tab (fun k => (C.length : Int) + (k : Int)) k)) A.length (a := (stRows A B C.length,stBas C.length A.length)) (fun k hk => by
   obtain ⟨q1,q2⟩ := p1 k hk
   have b1 := small_at p5 k
   unfold l_spec_StartTableau_0
   dsimp only
   rw [decide_eq_true (by omega),cond_true,grd_pos (by omega),Int.toNat_natCast,w64' (n := (C.length : Int) + (k : Int)) (by omega) (by omega),w64' (n := (k : Int) + 1) (by omega) (by omega)]
   have fin : ∀ (x : Q),x = ⟨sgB B k * B.getD k 0,1⟩ → (tab (stX A B k) C.length ++ tab (stU k) A.length) ++ [x] = stRow A B C.length A.length k := fun x hx => by rw [hx]; rfl
   by_cases hs : B.getD k 0 < 0
   ·have hsg : sgB B k = -1 := if_pos hs
    rw [decide_eq_true hs,cond_true]
    have h1 := iter_tab (step := l_spec_StartTableau_1 A C (k : Int)) [] (stX A B k) C.length (fun i hi acc hacc => by
      have a1 := small_at q2 i
      unfold l_spec_StartTableau_1 m_spec_l3Int
      dsimp only
      rw [decide_eq_true (by omega),cond_true,grd_pos (by omega),Int.toNat_natCast,grd_pos (by omega),Int.toNat_natCast,Option.bind_some]
      dsimp only
      rw [grd_pos (by rw [hacc]; simp only [List.length_nil,List.length_singleton]; omega),w64' (by omega) (by omega),w64' (by omega) (by omega)]
      unfold stX
      rw [hsg]
      rfl)
     (fun acc => by unfold l_spec_StartTableau_1; dsimp only; rw [decide_eq_false (by omega),cond_false])
    have h2 := iter_tab (step := l_spec_StartTableau_2 A (k : Int)) (tab (stX A B k) C.length) (stU k) A.length (fun i hi acc hacc => by
      unfold l_spec_StartTableau_2 m_spec_l3Int
      dsimp only
      rw [decide_eq_true (by omega),cond_true,beqI,l1bit,Option.bind_some,Option.bind_some]
      dsimp only
      rw [tab_length] at hacc
      rw [grd_pos (by rw [hacc]; simp only [List.length_singleton]; omega),w64' (by omega) (by omega)]
      unfold stU
      simp only [decide_eq_true_eq]
      rfl)
     (fun acc => by unfold l_spec_StartTableau_2; dsimp only; rw [decide_eq_false (by omega),cond_false])
    rw [List.nil_append] at h1
    rw [h1,Option.bind_some,h2,Option.bind_some]
    unfold m_spec_l3Int
    rw [grd_pos (by omega),Option.bind_some]
    dsimp only
    rw [fin ⟨IntKind.i64.wrap (-1 * B.getD k 0),1⟩ (by rw [hsg,w64' (by omega) (by omega)]),grd_pos (by simp only [List.length_append,tab_length,List.length_singleton]; omega),grd_pos (by simp only [tab_length,List.length_singleton]; omega),grd_pos (by simp only [tab_length,List.length_singleton]; omega),tab_succ,tab_succ]
    rfl
   ·have hsg : sgB B k = 1 := if_neg hs
    rw [decide_eq_false hs,cond_false]
    have h1 := iter_tab (step := l_spec_StartTableau_3 A C (k : Int)) [] (stX A B k) C.length (fun i hi acc hacc => by
      have a1 := small_at q2 i
      unfold l_spec_StartTableau_3 m_spec_l3Int
      dsimp only
      rw [decide_eq_true (by omega),cond_true,grd_pos (by omega),Int.toNat_natCast,grd_pos (by omega),Int.toNat_natCast,Option.bind_some]
      dsimp only
      rw [grd_pos (by rw [hacc]; simp only [List.length_nil,List.length_singleton]; omega),w64' (by omega) (by omega),w64' (by omega) (by omega)]
      unfold stX
      rw [hsg]
      rfl)
     (fun acc => by unfold l_spec_StartTableau_3; dsimp only; rw [decide_eq_false (by omega),cond_false])
    have h2 := iter_tab (step := l_spec_StartTableau_4 A (k : Int)) (tab (stX A B k) C.length) (stU k) A.length (fun i hi acc hacc => by
      unfold l_spec_StartTableau_4 m_spec_l3Int
      dsimp only
      rw [decide_eq_true (by omega),cond_true,beqI,l1bit,Option.bind_some,Option.bind_some]
      dsimp only
      rw [tab_length] at hacc
      rw [grd_pos (by rw [hacc]; simp only [List.length_singleton]; omega),w64' (by omega) (by omega)]
      unfold stU
      simp only [decide_eq_true_eq]
      rfl)
     (fun acc => by unfold l_spec_StartTableau_4; dsimp only; rw [decide_eq_false (by omega),cond_false])
    rw [List.nil_append] at h1
    rw [h1,Option.bind_some,h2,Option.bind_some]
    unfold m_spec_l3Int
    rw [grd_pos (by omega),Option.bind_some]
    dsimp only
    rw [fin ⟨IntKind.i64.wrap (1 * B.getD k 0),1⟩ (by rw [hsg,w64' (by omega) (by omega)]),grd_pos (by simp only [List.length_append,tab_length,List.length_singleton]; omega),grd_pos (by simp only [tab_length,List.length_singleton]; omega),grd_pos (by simp only [tab_length,List.length_singleton]; omega),tab_succ,tab_succ]
    rfl)
  (by unfold l_spec_StartTableau_0; dsimp only; rw [decide_eq_false (by omega),cond_false]; rfl)
 have e0 : tab (stRow A B C.length A.length) 0 = [] := rfl
 have e1 : tab (fun k : Nat => (C.length : Int) + (k : Int)) 0 = [] := rfl
 simp only [Int.natCast_zero,e0,e1] at hit
 rw [hit,Option.bind_some]
theorem impl_start (A : List (List Int)) (B : List Int) (C : List Q) (h : lpOk A B C = true) : m_impl_StartTableau A B C = some ((C.length : Int),stRows A B C.length,stBas C.length A.length) := by
 obtain ⟨p1,p2,p3,p4,p5,p6⟩ := lpOk_parts h
 have hroom : (room : Nat) = 1099511627776 := rfl
 unfold m_impl_StartTableau
 rw [impl_lp A B C (by omega) (fun i hi => by rw [(p1 i hi).1]; omega) (by omega) (by omega),h,Option.bind_some,Bool.not_true,cond_false]
 have hit := iter_up (step := l_impl_StartTableau_0 A B C) (fun k => ((k : Int),tab (stRow A B C.length A.length) k,tab (fun k => (C.length : Int) + (k : Int)) k)) A.length (a := (stRows A B C.length,stBas C.length A.length)) (fun k hk => by
   obtain ⟨q1,q2⟩ := p1 k hk
   have b1 := small_at p5 k
   unfold l_impl_StartTableau_0
   dsimp only
   rw [decide_eq_true (by omega),cond_true,grd_pos (by omega),grd_pos (by omega),Int.toNat_natCast,w64' (n := (C.length : Int) + (k : Int)) (by omega) (by omega),w64' (n := (k : Int) + 1) (by omega) (by omega)]
   have fin : ∀ (x : Q),x = ⟨sgB B k * B.getD k 0,1⟩ → (tab (stX A B k) C.length ++ tab (stU k) A.length) ++ [x] = stRow A B C.length A.length k := fun x hx => by rw [hx]; rfl
   by_cases hs : B.getD k 0 < 0
   ·have hsg : sgB B k = -1 := if_pos hs
    rw [decide_eq_true hs,cond_true]
    have h1 := iter_tab (step := l_impl_StartTableau_1 A (k : Int)) [] (stX A B k) C.length (fun i hi acc hacc => by
      have a1 := small_at q2 i
      unfold l_impl_StartTableau_1 m_impl_whole
      dsimp only
      rw [Int.toNat_natCast,decide_eq_true (by omega),cond_true,grd_pos (by omega),Int.toNat_natCast,Option.bind_some]
      dsimp only
      rw [grd_pos (by rw [hacc]; simp only [List.length_nil,List.length_singleton]; omega),w64' (by omega) (by omega),w64' (by omega) (by omega)]
      unfold stX
      rw [hsg]
      rfl)
     (fun acc => by unfold l_impl_StartTableau_1; dsimp only; rw [Int.toNat_natCast,decide_eq_false (by omega),cond_false])
    have h2 := iter_tab (step := l_impl_StartTableau_2 A (k : Int)) (tab (stX A B k) C.length) (stU k) A.length (fun i hi acc hacc => by
      unfold l_impl_StartTableau_2 m_impl_whole
      dsimp only
      rw [decide_eq_true (by omega),cond_true,beqI,Option.bind_some,Option.bind_some]
      dsimp only
      rw [tab_length] at hacc
      rw [grd_pos (by rw [hacc]; simp only [List.length_singleton]; omega),grd_pos (by rw [hacc]; simp only [List.length_singleton]; omega),w64' (by omega) (by omega)]
      unfold stU
      by_cases e : i = k
      ·simp [e]
      ·simp [e])
     (fun acc => by unfold l_impl_StartTableau_2; dsimp only; rw [decide_eq_false (by omega),cond_false])
    rw [List.nil_append] at h1
    rw [h1,Option.bind_some,h2,Option.bind_some]
    unfold m_impl_whole
    rw [grd_pos (by omega),Option.bind_some]
    dsimp only
    rw [fin ⟨IntKind.i64.wrap (-1 * B.getD k 0),1⟩ (by rw [hsg,w64' (by omega) (by omega)]),grd_pos (by simp only [List.length_append,tab_length,List.length_singleton]; omega),grd_pos (by simp only [tab_length,List.length_singleton]; omega),grd_pos (by simp only [tab_length,List.length_singleton]; omega),tab_succ,tab_succ]
    rfl
   ·have hsg : sgB B k = 1 := if_neg hs
    rw [decide_eq_false hs,cond_false]
    have h1 := iter_tab (step := l_impl_StartTableau_3 A (k : Int)) [] (stX A B k) C.length (fun i hi acc hacc => by
      have a1 := small_at q2 i
      unfold l_impl_StartTableau_3 m_impl_whole
      dsimp only
      rw [Int.toNat_natCast,decide_eq_true (by omega),cond_true,grd_pos (by omega),Int.toNat_natCast,Option.bind_some]
      dsimp only
      rw [grd_pos (by rw [hacc]; simp only [List.length_nil,List.length_singleton]; omega),w64' (by omega) (by omega),w64' (by omega) (by omega)]
      unfold stX
      rw [hsg]
      rfl)
     (fun acc => by unfold l_impl_StartTableau_3; dsimp only; rw [Int.toNat_natCast,decide_eq_false (by omega),cond_false])
    have h2 := iter_tab (step := l_impl_StartTableau_4 A (k : Int)) (tab (stX A B k) C.length) (stU k) A.length (fun i hi acc hacc => by
      unfold l_impl_StartTableau_4 m_impl_whole
      dsimp only
      rw [decide_eq_true (by omega),cond_true,beqI,Option.bind_some,Option.bind_some]
      dsimp only
      rw [tab_length] at hacc
      rw [grd_pos (by rw [hacc]; simp only [List.length_singleton]; omega),grd_pos (by rw [hacc]; simp only [List.length_singleton]; omega),w64' (by omega) (by omega)]
      unfold stU
      by_cases e : i = k
      ·simp [e]
      ·simp [e])
     (fun acc => by unfold l_impl_StartTableau_4; dsimp only; rw [decide_eq_false (by omega),cond_false])
    rw [List.nil_append] at h1
    rw [h1,Option.bind_some,h2,Option.bind_some]
    unfold m_impl_whole
    rw [grd_pos (by omega),Option.bind_some]
    dsimp only
    rw [fin ⟨IntKind.i64.wrap (1 * B.getD k 0),1⟩ (by rw [hsg,w64' (by omega) (by omega)]),grd_pos (by simp only [List.length_append,tab_length,List.length_singleton]; omega),grd_pos (by simp only [tab_length,List.length_singleton]; omega),grd_pos (by simp only [tab_length,List.length_singleton]; omega),tab_succ,tab_succ]
    rfl)
  (by unfold l_impl_StartTableau_0; dsimp only; rw [decide_eq_false (by omega),cond_false]; rfl)
 have e0 : tab (stRow A B C.length A.length) 0 = [] := rfl
 have e1 : tab (fun k : Nat => (C.length : Int) + (k : Int)) 0 = [] := rfl
 simp only [Int.natCast_zero,e0,e1] at hit
 rw [hit,Option.bind_some]
theorem getD_app1 {α : Type} (l r : List α) (i : Nat) (d : α) (h : i < l.length) : (l ++ r).getD i d = l.getD i d := by
 rw [getD_get _ _ _ (by rw [List.length_append]; omega),getD_get _ _ _ h,List.getElem_append_left h]
theorem getD_app2 {α : Type} (l r : List α) (i n : Nat) (d : α) (hn : l.length = n) : (l ++ r).getD (n + i) d = r.getD i d := by
 subst hn
 rw [List.getD_eq_getElem?_getD,List.getElem?_append_right (by omega),List.getD_eq_getElem?_getD,Nat.add_sub_cancel_left]
theorem stRow_length (A : List (List Int)) (B : List Int) (n m k : Nat) : (stRow A B n m k).length = n + m + 1 := by
 unfold stRow
 simp only [List.length_append,tab_length,List.length_singleton]
theorem stRow_X (A : List (List Int)) (B : List Int) (n m k j : Nat) (hj : j < n) : (stRow A B n m k).getD j ⟨0,0⟩ = stX A B k j := by
 unfold stRow
 rw [getD_app1 _ _ _ _ (by rw [List.length_append,tab_length]; omega),getD_app1 _ _ _ _ (by rw [tab_length]; exact hj),tab_getD _ _ _ _ hj]
theorem stRow_U (A : List (List Int)) (B : List Int) (n m k i : Nat) (hi : i < m) : (stRow A B n m k).getD (n + i) ⟨0,0⟩ = stU k i := by
 unfold stRow
 rw [getD_app1 _ _ _ _ (by rw [List.length_append,tab_length,tab_length]; omega),getD_app2 _ _ _ _ _ (tab_length _ _),tab_getD _ _ _ _ hi]
theorem stRow_B (A : List (List Int)) (B : List Int) (n m k : Nat) : (stRow A B n m k).getD (n + m) ⟨0,0⟩ = ⟨sgB B k * B.getD k 0,1⟩ := by
 unfold stRow
 have := getD_app2 (tab (stX A B k) n ++ tab (stU k) m) [(⟨sgB B k * B.getD k 0,1⟩ : Q)] 0 (n + m) ⟨0,0⟩ (by rw [List.length_append,tab_length,tab_length])
 rw [Nat.add_zero] at this
 rw [this]
 rfl
theorem stRows_get (A : List (List Int)) (B : List Int) (n k : Nat) (hk : k < A.length) : (stRows A B n).getD k [] = stRow A B n A.length k := tab_getD _ _ _ _ hk
theorem sg_bd {B : List Int} {k : Nat} {x : Int} (h : -5000 ≤ x ∧ x ≤ 5000) : -5000 ≤ sgB B k * x ∧ sgB B k * x ≤ 5000 := by
 unfold sgB
 split <;> omega
theorem start_gt {A : List (List Int)} {B : List Int} {C : List Q} (h : lpOk A B C = true) : GT C.length A.length (stRows A B C.length) (stBas C.length A.length) := by
 obtain ⟨p1,p2,p3,p4,p5,p6⟩ := lpOk_parts h
 refine ⟨tab_length _ _,tab_length _ _,p3,p2,fun k hk => by rw [stRows_get A B _ k hk,stRow_length],fun k hk => ?_,fun k hk j hj => ?_⟩
 ·unfold stBas
  rw [tab_getD _ _ _ _ hk]
  omega
 ·rw [stRows_get A B _ k hk]
  by_cases h1 : j < C.length
  ·rw [stRow_X A B _ _ k j h1]
   have := sg_bd (B := B) (k := k) (small_at (p1 k hk).2 j)
   show validQ (sgB B k * (A.getD k []).getD j 0) 1 = true
   exact validQ_int (by omega)
  ·by_cases h2 : j < C.length + A.length
   ·have e : j = C.length + (j - C.length) := by omega
    rw [e,stRow_U A B _ _ k _ (by omega)]
    show validQ (if j - C.length = k then 1 else 0) 1 = true
    refine validQ_int ?_
    split <;> omega
   ·have e : j = C.length + A.length := by omega
    rw [e,stRow_B]
    have := sg_bd (B := B) (k := k) (small_at p5 k)
    show validQ (sgB B k * B.getD k 0) 1 = true
    exact validQ_int (by omega)
def stS (A : List (List Int)) (B : List Int) (n : Nat) : Nat → Nat → Rat := tv (stRows A B n)
theorem stS_X (A : List (List Int)) (B : List Int) (n i j : Nat) (hi : i < A.length) (hj : j < n) : stS A B n i j = ((sgB B i : Int) : Rat) * ag A i j := by
 unfold stS tv qg
 rw [stRows_get A B n i hi,stRow_X A B _ _ i j hj]
 unfold stX qr
 dsimp only
 rw [rv_int,Rat.intCast_mul]
 rfl
theorem stS_U (A : List (List Int)) (B : List Int) (n i k : Nat) (hi : i < A.length) (hk : k < A.length) : stS A B n i (n + k) = if i = k then 1 else 0 := by
 unfold stS tv qg
 rw [stRows_get A B n i hi,stRow_U A B _ _ i k hk]
 unfold stU qr
 dsimp only
 rw [rv_int]
 by_cases h : k = i
 ·rw [if_pos h,if_pos h.symm]
  rfl
 ·rw [if_neg h,if_neg fun e => h e.symm]
  rfl
theorem start_tinv (A : List (List Int)) (B : List Int) (n : Nat) : TInv (stS A B n) n A.length (tv (stRows A B n)) (bn (stBas n A.length)) := by
 refine (start_inv fun i hi k hk => stS_U A B n i k hi hk).congr (fun _ _ _ _ => rfl) fun k hk => ?_
 unfold bn stBas
 rw [tab_getD _ _ _ _ hk]
 omega
def zer (n : Nat) : List Q := tab (fun _ => ⟨0,1⟩) n
def cost1 (n m : Nat) : List Q := zer n ++ tab (fun _ => ⟨1,1⟩) m
def cost2 (C : List Q) (m : Nat) : List Q := C ++ zer m
theorem zer_at (n j : Nat) (h : j < n) : (zer n).getD j ⟨0,0⟩ = ⟨0,1⟩ := tab_getD _ _ _ _ h
theorem zer_length (n : Nat) : (zer n).length = n := tab_length _ _
theorem spec_costs1 (A : List (List Int)) (B : List Int) (C : List Q) (hC : C.length ≤ 1000) (hA : A.length ≤ 1000) : m_spec_l7Costs A B C true = some (cost1 C.length A.length) := by
 unfold m_spec_l7Costs
 have hroom : (room : Nat) = 1099511627776 := rfl
 have h1 := iter_tab (step := l_spec_l7Costs_0 C true) [] (fun _ => ⟨0,1⟩) C.length (fun i hi acc hacc => by
   unfold l_spec_l7Costs_0 m_spec_l3Int
   dsimp only
   rw [decide_eq_true (by omega),cond_true,cond_true,Option.bind_some]
   dsimp only
   rw [grd_pos (by rw [hacc]; simp only [List.length_nil,List.length_singleton]; omega),w64' (by omega) (by omega)]
   rfl)
  (fun acc => by unfold l_spec_l7Costs_0; dsimp only; rw [decide_eq_false (by omega),cond_false])
 have h2 := iter_tab (step := l_spec_l7Costs_1 A true) (tab (fun _ => ⟨0,1⟩) C.length) (fun _ => ⟨1,1⟩) A.length (fun i hi acc hacc => by
   unfold l_spec_l7Costs_1 m_spec_l3Int
   dsimp only
   rw [tab_length] at hacc
   rw [decide_eq_true (by omega),cond_true,l1bit,Option.bind_some,Option.bind_some]
   dsimp only
   rw [grd_pos (by rw [hacc]; simp only [List.length_singleton]; omega),w64' (by omega) (by omega)]
   rfl)
  (fun acc => by unfold l_spec_l7Costs_1; dsimp only; rw [decide_eq_false (by omega),cond_false])
 rw [List.nil_append] at h1
 rw [h1,Option.bind_some]
 dsimp only
 rw [h2,Option.bind_some]
 rfl
theorem spec_costs2 (A : List (List Int)) (B : List Int) (C : List Q) (hC : C.length ≤ 1000) (hA : A.length ≤ 1000) : m_spec_l7Costs A B C false = some (cost2 C A.length) := by
 unfold m_spec_l7Costs
 have hroom : (room : Nat) = 1099511627776 := rfl
 have h1 := iter_tab (step := l_spec_l7Costs_0 C false) [] (fun i => C.getD i ⟨0,0⟩) C.length (fun i hi acc hacc => by
   unfold l_spec_l7Costs_0
   dsimp only
   rw [decide_eq_true (by omega),cond_true,cond_false,grd_pos (by omega),getD_nat,grd_pos (by rw [hacc]; simp only [List.length_nil,List.length_singleton]; omega),w64' (by omega) (by omega)]
   rfl)
  (fun acc => by unfold l_spec_l7Costs_0; dsimp only; rw [decide_eq_false (by omega),cond_false])
 have h2 := iter_tab (step := l_spec_l7Costs_1 A false) C (fun _ => ⟨0,1⟩) A.length (fun i hi acc hacc => by
   unfold l_spec_l7Costs_1 m_spec_l3Int
   dsimp only
   rw [decide_eq_true (by omega),cond_true,l1bit,Option.bind_some,Option.bind_some]
   dsimp only
   rw [grd_pos (by rw [hacc]; simp only [List.length_singleton]; omega),w64' (by omega) (by omega)]
   rfl)
  (fun acc => by unfold l_spec_l7Costs_1; dsimp only; rw [decide_eq_false (by omega),cond_false])
 rw [List.nil_append,tab_self] at h1
 rw [h1,Option.bind_some]
 dsimp only
 rw [h2,Option.bind_some]
 rfl
theorem rats_zero (n : Nat) : ratsOf (List.replicate n (0 : Int)) = zer n := by
 unfold ratsOf zer
 rw [List.length_replicate]
 refine tab_ext fun i hi => ?_
 rw [getD_get _ _ _ (by rw [List.length_replicate]; exact hi),List.getElem_replicate]
theorem impl_zero (n : Nat) (hn : n ≤ 1000) : m_impl_rats (List.replicate (n : Int).toNat (0 : Int)) = some (zer n) := by
 rw [Int.toNat_natCast,impl_rats _ (by rw [List.length_replicate]; omega) (fun i hi => by
  rw [List.length_replicate] at hi
  rw [getD_get _ _ _ (by rw [List.length_replicate]; exact hi),List.getElem_replicate]
  decide),rats_zero]
theorem impl_costs (l : List Q) (x : Int) (m : Nat) (hl : l.length ≤ 1000) (hm : m ≤ 1000) : m_impl_costsOf l x (m : Int) = some (l ++ tab (fun _ => ⟨x,1⟩) m) := by
 unfold m_impl_costsOf
 have hroom : (room : Nat) = 1099511627776 := rfl
 rw [grd_pos (by simp only [List.length_nil]; omega),List.nil_append]
 have h2 := iter_tab (step := l_impl_costsOf_0 x (m : Int)) l (fun _ => ⟨x,1⟩) m (fun i hi acc hacc => by
   unfold l_impl_costsOf_0 m_impl_whole
   dsimp only
   rw [decide_eq_true (by omega),cond_true,Option.bind_some]
   dsimp only
   rw [grd_pos (by rw [hacc]; simp only [List.length_singleton]; omega),w64' (by omega) (by omega)]
   rfl)
  (fun acc => by unfold l_impl_costsOf_0; dsimp only; rw [decide_eq_false (by omega),cond_false])
 rw [h2,Option.bind_some]
def slF (rows : List (List Q)) (basis : List Int) (n m : Nat) : Nat → List Q
 | 0 => zer (n + m)
 | k + 1 => (slF rows basis n m k).set (bn basis k) ((rows.getD k []).getD (n + m) ⟨0,0⟩)
theorem slF_length (rows : List (List Q)) (basis : List Int) (n m : Nat) : ∀ k,(slF rows basis n m k).length = n + m
 | 0 => tab_length _ _
 | k + 1 => by simp only [slF]; rw [List.length_set,slF_length rows basis n m k]
theorem spec_sol {n m : Nat} {rows : List (List Q)} {basis : List Int} (h : GT n m rows basis) : m_spec_SolutionOf rows basis (n : Int) = some (slF rows basis n m m) := by
 obtain ⟨l1,l2,l3⟩ := h.lens
 have hroom : (room : Nat) = 1099511627776 := rfl
 have hrl := h.rl
 have hbl := h.bl
 have hm := h.m8
 have hn := h.n70
 unfold m_spec_SolutionOf
 rw [spec_tabOk rows basis _ l1 l2 l3,gt_tabOk h,Option.bind_some,Bool.not_true,cond_false]
 have e : IntKind.i64.wrap ((n : Int) + (rows.length : Int)) = ((n + m : Nat) : Int) := by
  rw [w64' (by omega) (by omega)]
  omega
 have h1 := iter_tab (step := l_spec_SolutionOf_0 rows (n : Int)) [] (fun _ => ⟨0,1⟩) (n + m) (fun i hi acc hacc => by
   unfold l_spec_SolutionOf_0 m_spec_l3Int
   dsimp only
   rw [e,decide_eq_true (by omega),cond_true,Option.bind_some]
   dsimp only
   rw [grd_pos (by rw [hacc]; simp only [List.length_nil,List.length_singleton]; omega),w64' (by omega) (by omega)]
   rfl)
  (fun acc => by unfold l_spec_SolutionOf_0; dsimp only; rw [e,decide_eq_false (by omega),cond_false])
 rw [List.nil_append] at h1
 have h2 := iter_up (step := l_spec_SolutionOf_1 rows basis (n : Int)) (fun k => ((k : Int),slF rows basis n m k)) m (a := slF rows basis n m m) (fun k hk => by
   have hb := h.bas k hk
   have hr := h.row k hk
   have hsl := slF_length rows basis n m k
   unfold l_spec_SolutionOf_1
   dsimp only
   rw [decide_eq_true (by omega),cond_true,grd_pos (by omega),grd_pos (by omega),e,Int.toNat_natCast,grd_pos (by omega),Int.toNat_natCast,grd_pos (by omega),w64' (by omega) (by omega)]
   rfl)
  (by unfold l_spec_SolutionOf_1; dsimp only; rw [decide_eq_false (by omega),cond_false])
 have e0 : slF rows basis n m 0 = tab (fun _ => ⟨0,1⟩) (n + m) := rfl
 simp only [Int.natCast_zero,e0] at h2
 rw [h1,Option.bind_some]
 dsimp only
 rw [h2,Option.bind_some]
theorem impl_sol {n m : Nat} {rows : List (List Q)} {basis : List Int} (h : GT n m rows basis) : m_impl_SolutionOf rows basis (n : Int) = some (slF rows basis n m m) := by
 obtain ⟨l1,l2,l3⟩ := h.lens
 have hroom : (room : Nat) = 1099511627776 := rfl
 have hrl := h.rl
 have hbl := h.bl
 have hm := h.m8
 have hn := h.n70
 unfold m_impl_SolutionOf
 rw [impl_tabOk rows basis _ l1 l2,gt_tabOk h,Option.bind_some,Bool.not_true,cond_false]
 have e : IntKind.i64.wrap ((n : Int) + (rows.length : Int)) = ((n + m : Nat) : Int) := by
  rw [w64' (by omega) (by omega)]
  omega
 have h1 := iter_tab (step := l_impl_SolutionOf_0 rows (n : Int)) [] (fun _ => ⟨0,1⟩) (n + m) (fun i hi acc hacc => by
   unfold l_impl_SolutionOf_0 m_impl_whole
   dsimp only
   rw [e,decide_eq_true (by omega),cond_true,Option.bind_some]
   dsimp only
   rw [grd_pos (by rw [hacc]; simp only [List.length_nil,List.length_singleton]; omega),w64' (by omega) (by omega)]
   rfl)
  (fun acc => by unfold l_impl_SolutionOf_0; dsimp only; rw [e,decide_eq_false (by omega),cond_false])
 rw [List.nil_append] at h1
 have h2 := iter_up (step := l_impl_SolutionOf_1 rows basis) (fun k => ((k : Int),slF rows basis n m k)) m (a := slF rows basis n m m) (fun k hk => by
   have hb := h.bas k hk
   have hr := h.row k hk
   have hsl := slF_length rows basis n m k
   have e2 : IntKind.i64.wrap (((rows.getD k []).length : Int) - 1) = ((n + m : Nat) : Int) := by
    rw [w64' (by omega) (by omega)]
    omega
   unfold l_impl_SolutionOf_1
   dsimp only
   rw [decide_eq_true (by omega),cond_true,grd_pos (by omega),grd_pos (by omega),Int.toNat_natCast,e2,grd_pos (by omega),Int.toNat_natCast,grd_pos (by omega),w64' (by omega) (by omega)]
   rfl)
  (by unfold l_impl_SolutionOf_1; dsimp only; rw [decide_eq_false (by omega),cond_false])
 have e0 : slF rows basis n m 0 = tab (fun _ => ⟨0,1⟩) (n + m) := rfl
 simp only [Int.natCast_zero,e0] at h2
 rw [h1,Option.bind_some]
 dsimp only
 rw [h2,Option.bind_some]
def dlQ (costs : List Q) (n : Nat) (base : Int) (k : Nat) : Int × Int × Bool := subQ base 1 (costs.getD (n + k) ⟨0,0⟩).num (costs.getD (n + k) ⟨0,0⟩).den
def dlE (B : List Int) (costs : List Q) (n : Nat) (base : Int) (k : Nat) : Q := ⟨if B.getD k 0 < 0 then -(dlQ costs n base k).1 else (dlQ costs n base k).1,(dlQ costs n base k).2.1⟩
def dlF (B : List Int) (costs : List Q) (n m : Nat) (base : Int) : List Q := tab (dlE B costs n base) m
theorem subQ_bd (a b c d : Int) : -1000000000 ≤ (subQ a b c d).1 ∧ (subQ a b c d).1 ≤ 1000000000 := by
 rcases h : subQ a b c d with ⟨x,y,o⟩
 cases o with
 | false =>
  have := subQ_false (a := a) (b := b) (c := c) (d := d) (by rw [h])
  rw [h] at this
  simp only [Prod.mk.injEq] at this
  rw [this.1]
  show -1000000000 ≤ (0 : Int) ∧ (0 : Int) ≤ 1000000000
  decide
 | true =>
  have := validQ_bd (subQ_val h).2.1
  dsimp only
  omega
theorem spec_dual (A : List (List Int)) (B : List Int) (C : List Q) (rows : List (List Q)) (basis : List Int) (n m : Nat) (p : Int) (bad : Bool) (costs : List Q) (base : Int) (hA : A.length = m) (hB : B.length = m) (hm : m ≤ 1000) (hn : n ≤ 1000) (hc : costs.length = n + m + 1) :
  m_spec_l7Dual_io3 A B C rows basis (n : Int) p bad costs base = some (dlF B costs n m base,rows,basis,(n : Int),p,bad) := by
 unfold m_spec_l7Dual_io3
 have hroom : (room : Nat) = 1099511627776 := rfl
 have h1 := iter_tab (step := l_spec_l7Dual_io3_0 A B (n : Int) costs base) [] (dlE B costs n base) m (fun i hi acc hacc => by
   have e : IntKind.i64.wrap ((n : Int) + (i : Int)) = ((n + i : Nat) : Int) := by
    rw [w64' (by omega) (by omega)]
    omega
   unfold l_spec_l7Dual_io3_0 m_spec_l3Int
   dsimp only
   rw [decide_eq_true (by omega),cond_true,Option.bind_some]
   dsimp only
   rw [e,grd_pos (by omega),Int.toNat_natCast,spec_sub,Option.bind_some]
   have hb := subQ_bd base 1 (costs.getD (n + i) ⟨0,0⟩).num (costs.getD (n + i) ⟨0,0⟩).den
   have hd : subQ base 1 (costs.getD (n + i) ⟨0,0⟩).num (costs.getD (n + i) ⟨0,0⟩).den = dlQ costs n base i := rfl
   rw [hd] at hb
   rw [hd]
   unfold dlE
   revert hb
   rcases dlQ costs n base i with ⟨x,y,o⟩
   intro hb
   dsimp only at hb ⊢
   rw [grd_pos (by omega),Int.toNat_natCast,w64' (n := (i : Int) + 1) (by omega) (by omega),w64' (n := 0 - x) (by omega) (by omega),Int.zero_sub,grd_pos (by rw [hacc]; simp only [List.length_nil,List.length_singleton]; omega),grd_pos (by rw [hacc]; simp only [List.length_nil,List.length_singleton]; omega)]
   by_cases h0 : B.getD i 0 < 0
   ·rw [decide_eq_true h0,if_pos h0]
    rfl
   ·rw [decide_eq_false h0,if_neg h0]
    rfl)
  (fun acc => by unfold l_spec_l7Dual_io3_0; dsimp only; rw [decide_eq_false (by omega),cond_false])
 rw [List.nil_append] at h1
 rw [h1,Option.bind_some]
 rfl
def ryF (rows : List (List Q)) (basis : List Int) (n : Nat) (col : Nat) : Nat → List Q
 | 0 => tab (fun j => ⟨if j = col then 1 else 0,1⟩) n
 | k + 1 => if basis.getD k 0 < (n : Int) then (ryF rows basis n col k).set (bn basis k) (nq (cellQ rows k (col : Int))) else ryF rows basis n col k
theorem ryF_length (rows : List (List Q)) (basis : List Int) (n col : Nat) : ∀ k,(ryF rows basis n col k).length = n
 | 0 => tab_length _ _
 | k + 1 => by
  simp only [ryF]
  split
  ·rw [List.length_set,ryF_length rows basis n col k]
  ·exact ryF_length rows basis n col k
theorem spec_ray {n m : Nat} {rows : List (List Q)} {basis : List Int} (h : GT n m rows basis) (A : List (List Int)) (B : List Int) (C : List Q) (p : Int) (bad : Bool) (col : Nat) (hc : col < n) :
  m_spec_l7Ray_io3 A B C rows basis (n : Int) p bad (col : Int) = some (ryF rows basis n col m,rows,basis,(n : Int),p,bad) := by
 have hroom : (room : Nat) = 1099511627776 := rfl
 have hrl := h.rl
 have hbl := h.bl
 have hm := h.m8
 have hn := h.n70
 unfold m_spec_l7Ray_io3
 have h1 := iter_tab (step := l_spec_l7Ray_io3_0 (n : Int) (col : Int)) [] (fun j => ⟨if j = col then 1 else 0,1⟩) n (fun i hi acc hacc => by
   unfold l_spec_l7Ray_io3_0 m_spec_l3Int
   dsimp only
   rw [decide_eq_true (by omega),cond_true,beqI,l1bit,Option.bind_some,Option.bind_some]
   dsimp only
   rw [grd_pos (by rw [hacc]; simp only [List.length_nil,List.length_singleton]; omega),w64' (by omega) (by omega)]
   simp only [decide_eq_true_eq]
   rfl)
  (fun acc => by unfold l_spec_l7Ray_io3_0; dsimp only; rw [decide_eq_false (by omega),cond_false])
 rw [List.nil_append] at h1
 have h2 := iter_up (step := l_spec_l7Ray_io3_1 rows basis (n : Int) (col : Int)) (fun k => ((k : Int),ryF rows basis n col k)) m (a := ryF rows basis n col m) (fun k hk => by
   have hb := h.bas k hk
   have hr := h.row k hk
   have hsl := ryF_length rows basis n col k
   have hbd := bdT_cell h.bd (by omega : k < rows.length) (col : Int)
   unfold l_spec_l7Ray_io3_1 m_spec_l7Negated
   dsimp only
   rw [decide_eq_true (by omega),cond_true,grd_pos (by omega),Int.toNat_natCast,Int.toNat_natCast,w64' (n := (k : Int) + 1) (by omega) (by omega)]
   have hcell : ((rows.getD k []).getD col ⟨0,0⟩) = cellQ rows k (col : Int) := rfl
   rw [hcell,w64' (n := 0 - _) (by omega) (by omega),Int.zero_sub]
   simp only [ryF]
   by_cases hlt : basis.getD k 0 < (n : Int)
   ·rw [decide_eq_true hlt,cond_true,if_pos hlt,grd_pos (by omega),grd_pos (by omega),grd_pos (by omega),Option.bind_some]
    dsimp only
    rw [grd_pos (by omega)]
    rfl
   ·rw [decide_eq_false hlt,cond_false,if_neg hlt]
    rfl)
  (by unfold l_spec_l7Ray_io3_1; dsimp only; rw [decide_eq_false (by omega),cond_false])
 have e0 : ryF rows basis n col 0 = tab (fun j => ⟨if j = col then 1 else 0,1⟩) n := rfl
 simp only [Int.natCast_zero,e0] at h2
 rw [h1,Option.bind_some]
 dsimp only
 rw [h2,Option.bind_some]
theorem set_zer (n col : Nat) (hc : col < n) : (zer n).set col ⟨1,1⟩ = tab (fun j => (⟨if j = col then 1 else 0,1⟩ : Q)) n := by
 apply List.ext_getElem (by rw [List.length_set,zer_length,tab_length])
 intro i h1 h2
 rw [List.length_set,zer_length] at h1
 have e1 := tab_getD (fun j => (⟨if j = col then 1 else 0,1⟩ : Q)) n ⟨0,0⟩ i h1
 rw [getD_get _ _ _ h2] at e1
 rw [e1,List.getElem_set]
 by_cases h : col = i
 ·rw [if_pos h,if_pos h.symm]
 ·rw [if_neg h,if_neg fun e => h e.symm]
  have e2 := zer_at n i h1
  rwa [getD_get _ _ _ (by rw [zer_length]; exact h1)] at e2
theorem impl_ray {n m : Nat} {rows : List (List Q)} {basis : List Int} (h : GT n m rows basis) (C : List Q) (hC : C.length = n) (col : Nat) (hc : col < n) :
  iter (l_impl_solve_3 C (col : Int) rows basis) ((0 : Int),(zer n).set col ⟨1,1⟩) = some (ryF rows basis n col m) := by
 have hrl := h.rl
 have hbl := h.bl
 have hm := h.m8
 have hn := h.n70
 have h2 := iter_up (step := l_impl_solve_3 C (col : Int) rows basis) (fun k => ((k : Int),ryF rows basis n col k)) m (a := ryF rows basis n col m) (fun k hk => by
   have hb := h.bas k hk
   have hr := h.row k hk
   have hsl := ryF_length rows basis n col k
   have hbd := bdT_cell h.bd (by omega : k < rows.length) (col : Int)
   unfold l_impl_solve_3 m_impl_minus
   dsimp only
   rw [decide_eq_true (by omega),cond_true,grd_pos (by omega),Int.toNat_natCast,Int.toNat_natCast,w64' (n := (k : Int) + 1) (by omega) (by omega)]
   have hcell : ((rows.getD k []).getD col ⟨0,0⟩) = cellQ rows k (col : Int) := rfl
   rw [hcell,w64' (n := 0 - _) (by omega) (by omega),Int.zero_sub]
   simp only [ryF]
   by_cases hlt : basis.getD k 0 < (n : Int)
   ·rw [decide_eq_true (by omega),cond_true,if_pos hlt,grd_pos (by omega),grd_pos (by omega),Option.bind_some]
    dsimp only
    rw [grd_pos (by omega)]
    rfl
   ·rw [decide_eq_false (by omega),cond_false,if_neg hlt]
    rfl)
  (by unfold l_impl_solve_3; dsimp only; rw [decide_eq_false (by omega),cond_false])
 have e0 : ryF rows basis n col 0 = (zer n).set col ⟨1,1⟩ := (set_zer n col hc).symm
 simp only [Int.natCast_zero,e0] at h2
 exact h2
theorem entF_lt (costs : List Q) (last : Int) (h : 0 ≤ entF costs last) : entF costs last < last := by
 unfold entF at h ⊢
 split
 ·rename_i h1
  rw [if_pos h1] at h
  split
  ·rename_i j hj
   rw [List.find?_range_eq_some] at hj
   have := List.mem_range.1 hj.2.1
   omega
  ·rename_i hn
   rw [hn] at h
   simp at h
 ·rename_i h1
  rw [if_neg h1] at h
  simp at h
theorem col_loop {β : Type} {step : Int × List Q → Option ((Int × List Q) ⊕ (List Q ⊕ β))} (f : Nat → Q) (o : Nat → Bool) (n : Nat) (z : β)
  (hs : ∀ i,i < n → ∀ acc : List Q,acc.length = i → step ((i : Int),acc) = some (bif o i then .inl (((i + 1 : Nat) : Int),acc ++ [f i]) else .inr (.inr z)))
  (hd : ∀ acc,step ((n : Int),acc) = some (.inr (.inl acc))) : iter step ((0 : Int),[]) = some (if (List.range n).all o = true then .inl (tab f n) else .inr z) := by
 have h := iter_all (step := step) (fun i => ((i : Int),tab f i)) n o (a := .inl (tab f n)) (b := .inr z)
  (fun i hi hp => by
   have := hs i hi (tab f i) (tab_length _ _)
   rw [hp,cond_true] at this
   rw [this,tab_succ])
  (fun i hi hp => by
   have := hs i hi (tab f i) (tab_length _ _)
   rw [hp,cond_false] at this
   exact this) (hd _)
 simp only [Int.natCast_zero] at h
 have e0 : tab f 0 = [] := rfl
 rw [e0] at h
 rw [h]
 congr 1
 by_cases hall : ∀ i,i < n → o i = true
 ·rw [if_pos hall,if_pos ((all_iff _ _).2 hall)]
 ·rw [if_neg hall,if_neg fun h => hall ((all_iff _ _).1 h)]
def lastQ (k : List Q) (n m : Nat) : Q := k.getD (n + m) ⟨0,0⟩
abbrev SolT := Int × Int × Int × List Q × List Q × List Q × Int
def solF (A : List (List Int)) (B : List Int) (C : List Q) (n m : Nat) : Option SolT :=
 match phF n (cost1 n m) 1001 (stRows A B n) (stBas n m) 0 with
 | none => none
 | some (_,k,r,b,p) => if (lastQ k n m).num < 0 then some (2,0,0,[],dlF B k n m 1,[],p) else
  match drF n r b p m with
  | none => none
  | some (r2,b2,p2) => match phF n (cost2 C m) 1001 r2 b2 p2 with
   | none => none
   | some (c,k2,r3,b3,p3) => if 0 ≤ c then some (3,0,0,(slF r3 b3 n m m).take n,[],ryF r3 b3 n c.toNat m,p3) else
    some (1,-(lastQ k2 n m).num,(lastQ k2 n m).den,(slF r3 b3 n m m).take n,dlF B k2 n m 0,[],p3)
abbrev SpX := Int × Int × Int × Int × List Q × List Q × List Q × List (List Q) × List Int × Int × Int × Bool
def spR (n : Nat) : Option SolT → SpX → Prop
 | none,x => x.2.2.2.2.2.2.2.2.2.2.2 = true
 | some (st,vn,vd,X,Y,R,p),x => ∃ r b,x = (st,vn,vd,0,X,Y,R,r,b,(n : Int),p,false)
theorem sign_num {q : Q} (h : vq q) : decide (cmpQ q.num q.den 0 1 < 0) = decide (q.num < 0) := by
 refine decide_eq_decide.2 ?_
 rw [cmpQ_neg h valid01,rv01]
 exact (rv_sign h).1
theorem cost1_length (n m : Nat) : (cost1 n m).length = n + m := by
 unfold cost1
 rw [List.length_append,zer_length,tab_length]
theorem cost2_length (C : List Q) (m : Nat) : (cost2 C m).length = C.length + m := by
 unfold cost2
 rw [List.length_append,zer_length]
theorem spec_solve (A : List (List Int)) (B : List Int) (C : List Q) (h : lpOk A B C = true) :
  ∃ x,m_spec_l7Solve_io3 A B C (stRows A B C.length) (stBas C.length A.length) (C.length : Int) 0 false = some x ∧ spR C.length (solF A B C C.length A.length) x := by
 obtain ⟨p1,p2,p3,p4,p5,p6⟩ := lpOk_parts h
 have hg := start_gt h
 have hi := start_tinv A B C.length
 obtain ⟨x1,e1,r1⟩ := spec_ph A B C (cost1 C.length A.length) (by rw [cost1_length]; omega) 1001 (stRows A B C.length) (stBas C.length A.length) 0 hg (by omega) (by omega) (by omega)
 unfold m_spec_l7Solve_io3
 rw [spec_costs1 A B C (by omega) (by omega),Option.bind_some]
 have e1' : m_spec_l7Phase_io3 A B C (stRows A B C.length) (stBas C.length A.length) (C.length : Int) 0 false (cost1 C.length A.length) = some x1 := by
  unfold m_spec_l7Phase_io3
  rw [e1,Option.bind_some]
 rw [e1',Option.bind_some]
 unfold solF
 rcases hph : phF C.length (cost1 C.length A.length) 1001 (stRows A B C.length) (stBas C.length A.length) 0 with _ | ⟨c,k,r,b,p⟩ <;> rw [hph] at r1
 ·obtain ⟨c,k,r,b,nn,p,o⟩ := x1
  have : o = true := r1
  subst this
  exact ⟨_,rfl,rfl⟩
 ·have : x1 = (c,k,r,b,(C.length : Int),p,false) := r1
  subst this
  obtain ⟨g1,g2,g3,g4,_⟩ := phF_good 1001 _ _ _ hg hi (by omega) (by omega) _ _ _ _ _ hph
  obtain ⟨_,_,c3,c4⟩ := costF_val g1 g4
  dsimp only
  rw [cond_false]
  have e2 : IntKind.i64.wrap ((k.length : Int) - 1) = ((C.length + A.length : Nat) : Int) := by
   rw [w64' (by omega) (by omega)]
   omega
  have e3 : k.getD (C.length + A.length) ⟨0,0⟩ = lastQ k C.length A.length := rfl
  have hv : vq (lastQ k C.length A.length) := (c4 (C.length + A.length) (by omega)).1
  rw [e2,grd_pos (by omega),Int.toNat_natCast,e3,spec_sign,Option.bind_some,sign_num hv]
  by_cases hneg : (lastQ k C.length A.length).num < 0
  ·rw [decide_eq_true hneg,cond_true,if_pos hneg,spec_dual A B C r b C.length A.length p false k 1 rfl p4 (by omega) (by omega) c3,Option.bind_some]
   exact ⟨_,rfl,⟨_,_,rfl⟩⟩
  ·rw [decide_eq_false hneg,cond_false,if_neg hneg]
   obtain ⟨x2,d1,d2⟩ := spec_drive A B C r b p g1 g2 g3.1 g3.2
   rw [d1,Option.bind_some]
   rcases hdr : drF C.length r b p A.length with _ | ⟨r2,b2,q2⟩ <;> rw [hdr] at d2
   ·obtain ⟨xr,xb,xn,xp,xo⟩ := x2
    have : xo = true := d2
    subst this
    exact ⟨_,rfl,rfl⟩
   ·have : x2 = (r2,b2,(C.length : Int),q2,false) := d2
    subst this
    obtain ⟨h1,h2,h3⟩ := drF_good g1 g2 g3.1 g3.2 _ hdr
    dsimp only
    rw [cond_false,spec_costs2 A B C (by omega) (by omega),Option.bind_some]
    obtain ⟨x3,f1,f2⟩ := spec_ph A B C (cost2 C A.length) (by rw [cost2_length]; omega) 1001 r2 b2 q2 h1 h3.1 h3.2 (by omega)
    have f1' : m_spec_l7Phase_io3 A B C r2 b2 (C.length : Int) q2 false (cost2 C A.length) = some x3 := by
     unfold m_spec_l7Phase_io3
     rw [f1,Option.bind_some]
    rw [f1',Option.bind_some]
    rcases hp2 : phF C.length (cost2 C A.length) 1001 r2 b2 q2 with _ | ⟨c',k2,r3,b3,p3'⟩ <;> rw [hp2] at f2
    ·obtain ⟨c,k,r,b,nn,p,o⟩ := x3
     have : o = true := f2
     subst this
     exact ⟨_,rfl,rfl⟩
    ·have : x3 = (c',k2,r3,b3,(C.length : Int),p3',false) := f2
     subst this
     obtain ⟨i1,i2,i3,i4,i5⟩ := phF_good 1001 _ _ _ h1 h2 h3.1 h3.2 _ _ _ _ _ hp2
     obtain ⟨_,_,j3,j4⟩ := costF_val i1 i4
     have hsl := slF_length r3 b3 C.length A.length A.length
     dsimp only
     rw [cond_false,spec_sol i1,Option.bind_some,grd_pos (by omega),Int.toNat_natCast]
     by_cases hc : 0 ≤ c'
     ·have hcc : c' = entF k2 (C.length : Int) := by
       rcases i5 with h | h
       ·omega
       ·exact h.1
      have hlt := entF_lt k2 (C.length : Int) (by omega)
      obtain ⟨cn,rfl⟩ : ∃ cn : Nat,c' = (cn : Int) := ⟨c'.toNat,by omega⟩
      rw [decide_eq_true (by omega),cond_true,if_pos hc,spec_ray i1 A B C p3' false cn (by omega),Option.bind_some,Int.toNat_natCast]
      exact ⟨_,rfl,⟨_,_,rfl⟩⟩
     ·have e5 : IntKind.i64.wrap ((k2.length : Int) - 1) = ((C.length + A.length : Nat) : Int) := by
       rw [w64' (by omega) (by omega)]
       omega
      have e6 : k2.getD (C.length + A.length) ⟨0,0⟩ = lastQ k2 C.length A.length := rfl
      have hv2 := validQ_bd (j4 (C.length + A.length) (by omega)).1
      rw [e6] at hv2
      unfold m_spec_l7Negated
      rw [decide_eq_false (by omega),cond_false,if_neg hc,spec_dual A B C r3 b3 C.length A.length p3' false k2 0 rfl p4 (by omega) (by omega) j3,Option.bind_some]
      dsimp only
      rw [e5,grd_pos (by omega),Int.toNat_natCast,e6,Option.bind_some]
      dsimp only
      rw [w64' (by omega) (by omega),Int.zero_sub]
      exact ⟨_,rfl,⟨_,_,rfl⟩⟩
abbrev ImY := Int × Int × Int × Int × Bool × List Q × List Q × List Q
def imR (m : Nat) : Option SolT → ImY → Prop
 | none,y => y.2.2.2.2.1 = false
 | some (st,vn,vd,X,Y,R,p),y => y = (st,vn,vd,p,true,X,Y,R) ∨ (y.2.2.2.2.1 = false ∧ st = 2 ∧ ∃ k,k < m ∧ ¬ vq (Y.getD k ⟨0,0⟩))
theorem sub0 {q : Q} (h : vq q) : subQ 0 1 q.num q.den = (-q.num,q.den,true) := by
 have hv := validQ_bd h
 refine subQ_of valid01 h (by rw [validQ_neg]; exact h) (by omega) ?_
 rw [rv_neg,rv01]
 unfold rv
 grind
theorem impl_solve (A : List (List Int)) (B : List Int) (C : List Q) (h : lpOk A B C = true) : ∃ y,m_impl_solve A B C = some y ∧ imR A.length (solF A B C C.length A.length) y := by
 obtain ⟨p1,p2,p3,p4,p5,p6⟩ := lpOk_parts h
 have hroom : (room : Nat) = 1099511627776 := rfl
 have hg := start_gt h
 have hi := start_tinv A B C.length
 obtain ⟨x1,e1,r1⟩ := impl_ph (cost1 C.length A.length) (by rw [cost1_length]; omega) 1001 (stRows A B C.length) (stBas C.length A.length) 0 hg (by omega) (by omega) (by omega)
 unfold m_impl_solve
 have hc1 : m_impl_costsOf (zer C.length) 1 (B.length : Int) = some (cost1 C.length A.length) := by
  rw [p4,impl_costs _ _ _ (by rw [zer_length]; omega) (by omega)]
  rfl
 have hc2 : m_impl_costsOf C 0 (B.length : Int) = some (cost2 C A.length) := by
  rw [p4,impl_costs _ _ _ (by omega) (by omega)]
  rfl
 rw [impl_start A B C h,Option.bind_some]
 dsimp only
 rw [grd_pos ⟨by omega,rfl,by omega⟩,impl_zero _ (by omega),Option.bind_some,hc1,Option.bind_some,e1,Option.bind_some]
 unfold solF
 rcases hph : phF C.length (cost1 C.length A.length) 1001 (stRows A B C.length) (stBas C.length A.length) 0 with _ | ⟨c,k,r,b,p⟩ <;> rw [hph] at r1
 ·obtain ⟨c,k,r,b,nn,p,o⟩ := x1
  have : o = true := r1
  subst this
  exact ⟨_,rfl,rfl⟩
 ·have : x1 = (c,k,r,b,(C.length : Int),p,false) := r1
  subst this
  obtain ⟨g1,g2,g3,g4,_⟩ := phF_good 1001 _ _ _ hg hi (by omega) (by omega) _ _ _ _ _ hph
  obtain ⟨_,_,c3,c4⟩ := costF_val g1 g4
  dsimp only
  rw [cond_false]
  have e2 : IntKind.i64.wrap ((k.length : Int) - 1) = ((C.length + A.length : Nat) : Int) := by
   rw [w64' (by omega) (by omega)]
   omega
  have e3 : k.getD (C.length + A.length) ⟨0,0⟩ = lastQ k C.length A.length := rfl
  rw [e2,grd_pos (by omega),Int.toNat_natCast,e3]
  by_cases hneg : (lastQ k C.length A.length).num < 0
  ·rw [decide_eq_true hneg,cond_true,if_pos hneg]
   have hit := col_loop (step := l_impl_solve_0 B C k) (dlE B k C.length 1) (fun i => (dlQ k C.length 1 i).2.2) A.length ((0,0,0,0,false,[],[],[]) : ImY) (fun i hi acc hacc => by
     have e : IntKind.i64.wrap ((C.length : Int) + (i : Int)) = ((C.length + i : Nat) : Int) := by
      rw [w64' (by omega) (by omega)]
      omega
     unfold l_impl_solve_0 m_impl_whole m_impl_minus
     dsimp only
     rw [decide_eq_true (by omega),cond_true,Option.bind_some]
     dsimp only
     rw [e,grd_pos (by omega),Int.toNat_natCast,impl_sub,Option.bind_some]
     have hb := subQ_bd 1 1 (k.getD (C.length + i) ⟨0,0⟩).num (k.getD (C.length + i) ⟨0,0⟩).den
     have hd : subQ 1 1 (k.getD (C.length + i) ⟨0,0⟩).num (k.getD (C.length + i) ⟨0,0⟩).den = dlQ k C.length 1 i := rfl
     rw [hd] at hb
     rw [hd]
     unfold dlE
     revert hb
     rcases dlQ k C.length 1 i with ⟨x,y,o⟩
     intro hb
     dsimp only at hb ⊢
     rw [grd_pos (by omega),Int.toNat_natCast,w64' (n := (i : Int) + 1) (by omega) (by omega),w64' (n := 0 - x) (by omega) (by omega),Int.zero_sub,Option.bind_some]
     dsimp only
     rw [grd_pos (by rw [hacc]; simp only [List.length_singleton]; omega),grd_pos (by rw [hacc]; simp only [List.length_singleton]; omega)]
     cases o with
     | false => rfl
     | true =>
      by_cases h0 : B.getD i 0 < 0
      ·rw [decide_eq_true h0,if_pos h0]
       rfl
      ·rw [decide_eq_false h0,if_neg h0]
       rfl)
    (fun acc => by unfold l_impl_solve_0; dsimp only; rw [decide_eq_false (by omega),cond_false])
   rw [hit,Option.bind_some]
   by_cases hall : (List.range A.length).all (fun i => (dlQ k C.length 1 i).2.2) = true
   ·rw [if_pos hall]
    exact ⟨_,rfl,.inl rfl⟩
   ·rw [if_neg hall]
    refine ⟨_,rfl,.inr ⟨rfl,rfl,?_⟩⟩
    rw [all_iff] at hall
    have hex : ∃ i,i < A.length ∧ ¬ (dlQ k C.length 1 i).2.2 = true := Classical.byContradiction fun hn => hall fun i hi => Classical.byContradiction fun h2 => hn ⟨i,hi,h2⟩
    obtain ⟨i,hi,hno⟩ := hex
    refine ⟨i,hi,?_⟩
    unfold dlF
    rw [tab_getD _ _ _ _ hi]
    have hf : (dlQ k C.length 1 i).2.2 = false := by simpa using hno
    have := subQ_false hf
    have e0 : dlQ k C.length 1 i = (0,0,false) := this
    unfold dlE vq
    rw [e0]
    have : validQ (if B.getD i 0 < 0 then -(0 : Int) else 0) 0 = false := by
     split <;> decide
    dsimp only
    rw [this]
    decide
  ·rw [decide_eq_false hneg,cond_false,if_neg hneg]
   obtain ⟨y2,d1,d2⟩ := impl_drive B p4 C rfl r b p g1 g2 g3.1 g3.2
   rw [d1,Option.bind_some]
   rcases hdr : drF C.length r b p A.length with _ | ⟨r2,b2,q2⟩ <;> rw [hdr] at d2
   ·have : y2 = .inr (0,0,0,0,false,[],[],[]) := d2
    subst this
    exact ⟨_,rfl,rfl⟩
   ·have : y2 = .inl ((C.length : Int),q2,false,r2,b2) := d2
    subst this
    obtain ⟨h1,h2,h3⟩ := drF_good g1 g2 g3.1 g3.2 _ hdr
    dsimp only
    rw [hc2,Option.bind_some]
    obtain ⟨x3,f1,f2⟩ := impl_ph (cost2 C A.length) (by rw [cost2_length]; omega) 1001 r2 b2 q2 h1 h3.1 h3.2 (by omega)
    rw [f1,Option.bind_some]
    rcases hp2 : phF C.length (cost2 C A.length) 1001 r2 b2 q2 with _ | ⟨c',k2,r3,b3,p3'⟩ <;> rw [hp2] at f2
    ·obtain ⟨c,k,r,b,nn,p,o⟩ := x3
     have : o = true := f2
     subst this
     exact ⟨_,rfl,rfl⟩
    ·have : x3 = (c',k2,r3,b3,(C.length : Int),p3',false) := f2
     subst this
     obtain ⟨i1,i2,i3,i4,i5⟩ := phF_good 1001 _ _ _ h1 h2 h3.1 h3.2 _ _ _ _ _ hp2
     obtain ⟨_,_,j3,j4⟩ := costF_val i1 i4
     have hsl := slF_length r3 b3 C.length A.length A.length
     dsimp only
     rw [cond_false,impl_sol i1,Option.bind_some,grd_pos (by omega),Int.toNat_natCast]
     by_cases hc : 0 ≤ c'
     ·have hcc : c' = entF k2 (C.length : Int) := by
       rcases i5 with h | h
       ·omega
       ·exact h.1
      have hlt := entF_lt k2 (C.length : Int) (by omega)
      obtain ⟨cn,rfl⟩ : ∃ cn : Nat,c' = (cn : Int) := ⟨c'.toNat,by omega⟩
      unfold m_impl_whole
      rw [decide_eq_true (by omega),cond_true,if_pos hc,Option.bind_some,Option.bind_some]
      dsimp only
      rw [grd_pos (by rw [zer_length]; omega),Int.toNat_natCast,impl_ray i1 C rfl cn (by omega),Option.bind_some]
      exact ⟨_,rfl,.inl rfl⟩
     ·have e5 : IntKind.i64.wrap ((k2.length : Int) - 1) = ((C.length + A.length : Nat) : Int) := by
       rw [w64' (by omega) (by omega)]
       omega
      have e6 : k2.getD (C.length + A.length) ⟨0,0⟩ = lastQ k2 C.length A.length := rfl
      have hv2 := validQ_bd (j4 (C.length + A.length) (by omega)).1
      rw [e6] at hv2
      have hit := iter_tab (step := l_impl_solve_4 B C k2) [] (dlE B k2 C.length 0) A.length (fun i hi acc hacc => by
        have e : IntKind.i64.wrap ((C.length : Int) + (i : Int)) = ((C.length + i : Nat) : Int) := by
         rw [w64' (by omega) (by omega)]
         omega
        have hvi := (j4 (C.length + i) (by omega)).1
        have hvb := validQ_bd hvi
        have hdl : dlQ k2 C.length 0 i = (-(k2.getD (C.length + i) ⟨0,0⟩).num,(k2.getD (C.length + i) ⟨0,0⟩).den,true) := sub0 hvi
        unfold l_impl_solve_4 m_impl_minus
        dsimp only
        rw [decide_eq_true (by omega),cond_true,e,grd_pos (by omega),Int.toNat_natCast,Option.bind_some]
        dsimp only
        rw [grd_pos (by omega),Int.toNat_natCast,w64' (n := (i : Int) + 1) (by omega) (by omega),w64' (n := 0 - (k2.getD (C.length + i) ⟨0,0⟩).num) (by omega) (by omega),Int.zero_sub,Option.bind_some]
        dsimp only
        rw [w64' (by omega) (by omega),Int.zero_sub,grd_pos (by rw [hacc]; simp only [List.length_nil,List.length_singleton]; omega),grd_pos (by rw [hacc]; simp only [List.length_nil,List.length_singleton]; omega)]
        unfold dlE
        rw [hdl]
        by_cases h0 : B.getD i 0 < 0
        ·rw [decide_eq_true h0,if_pos h0]
         rfl
        ·rw [decide_eq_false h0,if_neg h0]
         rfl)
       (fun acc => by unfold l_impl_solve_4; dsimp only; rw [decide_eq_false (by omega),cond_false])
      rw [List.nil_append] at hit
      unfold m_impl_minus
      rw [decide_eq_false (by omega),cond_false,if_neg hc,e5,grd_pos (by omega),Int.toNat_natCast,e6,Option.bind_some]
      dsimp only
      rw [w64' (by omega) (by omega),Int.zero_sub,hit,Option.bind_some]
      exact ⟨_,rfl,.inl rfl⟩
theorem spec_column (A : List (List Int)) (B : List Int) (C : List Q) (h : lpOk A B C = true) (j : Nat) (hj : j < C.length) : m_spec_ColumnOf A B C (j : Int) = some (colA A j) := by
 obtain ⟨p1,p2,p3,p4,p5,p6⟩ := lpOk_parts h
 have hroom : (room : Nat) = 1099511627776 := rfl
 unfold m_spec_ColumnOf
 rw [spec_lp A B C (by omega) (fun i hi => by rw [(p1 i hi).1]; omega) (by omega) (by omega),h,Option.bind_some,Bool.not_true,cond_false,in_eq,w64' (by omega) (by omega),decide_eq_true (by omega),Option.bind_some,Bool.not_true,cond_false]
 have hit := iter_up (step := l_spec_ColumnOf_0 A (j : Int)) (fun k => ((k : Int),tab (fun k => (A.getD k []).getD j 0) k)) A.length (a := colA A j) (fun k hk => by
   have hr := (p1 k hk).1
   unfold l_spec_ColumnOf_0
   dsimp only
   rw [decide_eq_true (by omega),cond_true,grd_pos (by omega),Int.toNat_natCast,grd_pos (by omega),Int.toNat_natCast,grd_pos (by simp only [tab_length,List.length_singleton]; omega),w64' (by omega) (by omega),tab_succ]
   rfl)
  (by unfold l_spec_ColumnOf_0; dsimp only; rw [decide_eq_false (by omega),cond_false]; rfl)
 have e0 : tab (fun k => (A.getD k []).getD j 0) 0 = [] := rfl
 simp only [Int.natCast_zero,e0] at hit
 rw [hit,Option.bind_some]
theorem impl_column (A : List (List Int)) (B : List Int) (C : List Q) (h : lpOk A B C = true) (j : Nat) (hj : j < C.length) : m_impl_column A B C (j : Int) = some (colA A j) := by
 obtain ⟨p1,p2,p3,p4,p5,p6⟩ := lpOk_parts h
 have hroom : (room : Nat) = 1099511627776 := rfl
 unfold m_impl_column
 have hit := iter_up (step := l_impl_column_0 A (j : Int)) (fun k => ((k : Int),tab (fun k => (A.getD k []).getD j 0) k)) A.length (a := colA A j) (fun k hk => by
   have hr := (p1 k hk).1
   unfold l_impl_column_0
   dsimp only
   rw [decide_eq_true (by omega),cond_true,grd_pos (by omega),Int.toNat_natCast,grd_pos (by omega),Int.toNat_natCast,grd_pos (by simp only [tab_length,List.length_singleton]; omega),w64' (by omega) (by omega),tab_succ]
   rfl)
  (by unfold l_impl_column_0; dsimp only; rw [decide_eq_false (by omega),cond_false]; rfl)
 have e0 : tab (fun k => (A.getD k []).getD j 0) 0 = [] := rfl
 simp only [Int.natCast_zero,e0] at hit
 rw [hit,Option.bind_some]
theorem col_small {A : List (List Int)} {n : Nat} (h : ∀ k,k < A.length → (A.getD k []).length = n ∧ smallB (A.getD k []) = true) (j : Nat) : ∀ i,i < (colA A j).length → -1000000000 ≤ (colA A j).getD i 0 ∧ (colA A j).getD i 0 ≤ 1000000000 := by
 intro i hi
 rw [colA_length] at hi
 unfold colA
 rw [tab_getD _ _ _ _ hi]
 have := small_at (h i hi).2 j
 omega
def duE (A : List (List Int)) (Y c : List Q) (j : Nat) : Bool := (dotQ (ratsOf (colA A j)) Y).2.2 && !decide (cmpQ (c.getD j ⟨0,0⟩).num (c.getD j ⟨0,0⟩).den (dotQ (ratsOf (colA A j)) Y).1 (dotQ (ratsOf (colA A j)) Y).2.1 < 0)
def duS (A : List (List Int)) (Y c : List Q) (n : Nat) : Bool := (List.range n).all (duE A Y c)
theorem spec_dualB (A : List (List Int)) (B : List Int) (C Y c : List Q) (h : lpOk A B C = true) (hc : c.length = C.length) : m_spec_l5Dual A B C Y c = some (duS A Y c C.length) := by
 obtain ⟨p1,p2,p3,p4,p5,p6⟩ := lpOk_parts h
 unfold m_spec_l5Dual
 have hit := iter_findc (step := l_spec_l5Dual_0 A B C Y c) (fun j => (j : Int)) C.length (fun j => !duE A Y c j) (.inl ()) (fun _ => .inr false)
  (fun j hj => by
   unfold l_spec_l5Dual_0
   rw [decide_eq_true (by omega),cond_true,spec_column A B C h j hj,Option.bind_some,spec_l5dot _ _ (by rw [colA_length]; omega) (col_small p1 j),Option.bind_some]
   unfold duE
   rcases dotQ (ratsOf (colA A j)) Y with ⟨s,t,o⟩
   dsimp only
   rw [grd_pos (by omega),getD_nat,spec_cmp,Option.bind_some,w64' (by omega) (by omega)]
   cases o <;> cases decide (cmpQ (c.getD j ⟨0,0⟩).num (c.getD j ⟨0,0⟩).den s t < 0) <;> rfl)
  (by unfold l_spec_l5Dual_0; rw [decide_eq_false (by omega)]; rfl)
 simp only [Int.natCast_zero] at hit
 rw [find_all2] at hit
 rw [hit]
 unfold duS
 cases (List.range C.length).all (duE A Y c) <;> rfl
def duF (A : List (List Int)) (Y c : List Q) (j : Nat) : Bool := (dotQ (ratsOf (colA A j)) Y).2.2 && ((subQ (c.getD j ⟨0,0⟩).num (c.getD j ⟨0,0⟩).den (dotQ (ratsOf (colA A j)) Y).1 (dotQ (ratsOf (colA A j)) Y).2.1).2.2 && !decide ((subQ (c.getD j ⟨0,0⟩).num (c.getD j ⟨0,0⟩).den (dotQ (ratsOf (colA A j)) Y).1 (dotQ (ratsOf (colA A j)) Y).2.1).1 < 0))
theorem impl_col_dot (A : List (List Int)) (B : List Int) (C Y : List Q) (h : lpOk A B C = true) (hY : Y.length ≤ 1048576) (j : Nat) (hj : j < C.length) {β : Type} (f : Int × Int × Bool → Option β) :
  ((m_impl_column A B C (j : Int)).bind fun v4 => (m_impl_rats v4).bind fun v5 => (m_impl_DotRat Y v5).bind f) = f (dotQ (ratsOf (colA A j)) Y) := by
 obtain ⟨p1,p2,p3,p4,p5,p6⟩ := lpOk_parts h
 rw [impl_column A B C h j hj,Option.bind_some,impl_rats _ (by rw [colA_length]; omega) (col_small p1 j),Option.bind_some,impl_dot _ _ hY,Option.bind_some,dotQ_comm]
theorem impl_dualB (A : List (List Int)) (B : List Int) (C Y : List Q) (h : lpOk A B C = true) (hY : Y.length ≤ 1048576) : iter (l_impl_CheckLP_0 A B C Y) 0 = some (if (List.range C.length).all (duF A Y C) = true then .inl () else .inr false) := by
 obtain ⟨p1,p2,p3,p4,p5,p6⟩ := lpOk_parts h
 have hit := iter_findc (step := l_impl_CheckLP_0 A B C Y) (fun j => (j : Int)) C.length (fun j => !duF A Y C j) (.inl ()) (fun _ => .inr false)
  (fun j hj => by
   unfold l_impl_CheckLP_0
   rw [decide_eq_true (by omega),cond_true,grd_pos (by omega),getD_nat]
   refine (impl_col_dot A B C Y h hY j hj _).trans ?_
   unfold duF
   rcases dotQ (ratsOf (colA A j)) Y with ⟨s,t,o⟩
   dsimp only
   rw [impl_sub,Option.bind_some]
   rcases subQ (C.getD j ⟨0,0⟩).num (C.getD j ⟨0,0⟩).den s t with ⟨x,y,o2⟩
   dsimp only
   rw [w64' (by omega) (by omega)]
   cases o <;> cases o2 <;> cases decide (x < 0) <;> rfl)
  (by unfold l_impl_CheckLP_0; rw [decide_eq_false (by omega)]; rfl)
 simp only [Int.natCast_zero] at hit
 rw [find_all2] at hit
 exact hit
def duG (A : List (List Int)) (Y : List Q) (j : Nat) : Bool := (dotQ (ratsOf (colA A j)) Y).2.2 && !decide ((dotQ (ratsOf (colA A j)) Y).1 > 0)
theorem impl_dualG (A : List (List Int)) (B : List Int) (C Y : List Q) (h : lpOk A B C = true) (hY : Y.length ≤ 1048576) : iter (l_impl_CheckLP_1 A B C Y) 0 = some (if (List.range C.length).all (duG A Y) = true then .inl () else .inr false) := by
 obtain ⟨p1,p2,p3,p4,p5,p6⟩ := lpOk_parts h
 have hit := iter_findc (step := l_impl_CheckLP_1 A B C Y) (fun j => (j : Int)) C.length (fun j => !duG A Y j) (.inl ()) (fun _ => .inr false)
  (fun j hj => by
   unfold l_impl_CheckLP_1
   rw [decide_eq_true (by omega),cond_true]
   refine (impl_col_dot A B C Y h hY j hj _).trans ?_
   unfold duG
   rcases dotQ (ratsOf (colA A j)) Y with ⟨s,t,o⟩
   dsimp only
   rw [w64' (by omega) (by omega)]
   cases o <;> cases decide (s > 0) <;> rfl)
  (by unfold l_impl_CheckLP_1; rw [decide_eq_false (by omega)]; rfl)
 simp only [Int.natCast_zero] at hit
 rw [find_all2] at hit
 exact hit
theorem duG_eq (A : List (List Int)) (Y : List Q) (n j : Nat) (hj : j < n) : duG A Y j = duE A Y (zer n) j := by
 unfold duG duE
 rw [zer_at n j hj]
 rcases h : dotQ (ratsOf (colA A j)) Y with ⟨s,t,o⟩
 cases o with
 | false => rfl
 | true =>
  dsimp only
  congr 2
  refine decide_eq_decide.2 ?_
  have hv := (dotQ_val h).2.1
  rw [cmpQ_neg valid01 hv,rv01]
  exact (rv_sign hv).2.symm
theorem duG_all (A : List (List Int)) (Y : List Q) (n : Nat) : (List.range n).all (duG A Y) = duS A Y (zer n) n := by
 unfold duS
 cases h : (List.range n).all (duE A Y (zer n)) with
 | true =>
  rw [all_iff] at h
  rw [all_iff]
  exact fun j hj => by rw [duG_eq A Y n j hj]; exact h j hj
 | false =>
  rw [← Bool.not_eq_true] at h ⊢
  intro h2
  refine h ((all_iff _ _).2 fun j hj => ?_)
  rw [← duG_eq A Y n j hj]
  exact (all_iff _ _).1 h2 j hj
def optE (B : List Int) (C X Y : List Q) (vn vd : Int) : Bool := (dotQ C X).2.2 && ((dotQ (ratsOf B) Y).2.2 && (((dotQ C X).1 == (dotQ (ratsOf B) Y).1 && (dotQ C X).2.1 == (dotQ (ratsOf B) Y).2.1) && ((dotQ C X).1 == vn && (dotQ C X).2.1 == vd)))
def chkS (A : List (List Int)) (B : List Int) (C : List Q) (st : Int) (X Y R : List Q) (vn vd : Int) : Bool :=
 bif st == 1 then feasB A B C X && (decide (Y.length = B.length) && (duS A Y C C.length && optE B C X Y vn vd)) else
 bif st == 2 then decide (Y.length = B.length) && (duS A Y (zer C.length) C.length && ((dotQ (ratsOf B) Y).2.2 && decide ((dotQ (ratsOf B) Y).1 > 0))) else
 bif st == 3 then feasB A B C X && (decide (R.length = C.length) && (nnB R && (gvB A R (List.replicate B.length 0) && ((dotQ C R).2.2 && decide ((dotQ C R).1 < 0))))) else false
theorem spec_zeros (n : Nat) (hn : n ≤ 1000) : m_spec_l5Zeros (n : Int) = some (zer n) := by
 unfold m_spec_l5Zeros
 have hroom : (room : Nat) = 1099511627776 := rfl
 have h1 := iter_tab (step := l_spec_l5Zeros_0 (n : Int)) [] (fun _ => ⟨0,1⟩) n (fun i hi acc hacc => by
   unfold l_spec_l5Zeros_0 m_spec_l3Int
   dsimp only
   rw [decide_eq_true (by omega),cond_true,Option.bind_some]
   dsimp only
   rw [grd_pos (by rw [hacc]; simp only [List.length_nil,List.length_singleton]; omega),w64' (by omega) (by omega)]
   rfl)
  (fun acc => by unfold l_spec_l5Zeros_0; dsimp only; rw [decide_eq_false (by omega),cond_false])
 rw [List.nil_append] at h1
 rw [h1,Option.bind_some]
 rfl
theorem neI (a b : Nat) : ((a : Int) != (b : Int)) = !decide (a = b) := by
 by_cases h : a = b
 ·simp [h]
 ·have : ¬ ((a : Int) = (b : Int)) := by omega
  simp [h,this]
theorem eqI (a b : Nat) : ((a : Int) == (b : Int)) = decide (a = b) := beqI a b
theorem spec_check (A : List (List Int)) (B : List Int) (C : List Q) (h : lpOk A B C = true) (st : Int) (X Y R : List Q) (vn vd p : Int) (hX : X.length ≤ 1048576) (hR : R.length ≤ 1048576) :
  m_spec_CheckLP A B C st X Y R vn vd p = some (chkS A B C st X Y R vn vd) := by
 obtain ⟨p1,p2,p3,p4,p5,p6⟩ := lpOk_parts h
 have hroom : (room : Nat) = 1099511627776 := rfl
 have hAr : ∀ i,i < A.length → (A.getD i []).length ≤ 1048576 := fun i hi => by rw [(p1 i hi).1]; omega
 have hfeas := spec_feas A B C X (by omega) hAr (by omega) (by omega) hX
 have hdotB := spec_l5dot B Y (by omega) (small_ok p5)
 unfold m_spec_CheckLP m_spec_l5Optimal chkS
 rw [spec_lp A B C (by omega) hAr (by omega) (by omega),h,Option.bind_some,Bool.not_true,cond_false,hfeas]
 cases h1 : (st == 1) with
 | true =>
  rw [cond_true,cond_true]
  rw [spec_dualB A B C Y C h rfl,spec_dot C X (by omega),hdotB,neI]
  unfold optE
  rcases dotQ C X with ⟨a,b,o1⟩
  rcases dotQ (ratsOf B) Y with ⟨c,d,o2⟩
  dsimp only [Option.bind_some]
  cases feasB A B C X <;> cases decide (Y.length = B.length) <;> cases duS A Y C C.length <;> cases o1 <;> cases o2 <;> cases (a == c) <;> cases (b == d) <;> rfl
 | false =>
  rw [cond_false,cond_false]
  cases h2 : (st == 2) with
  | true =>
   rw [cond_true,cond_true,hdotB,Option.bind_some,eqI,spec_zeros _ (by omega)]
   rcases dotQ (ratsOf B) Y with ⟨c,d,o2⟩
   dsimp only [Option.bind_some]
   rw [spec_dualB A B C Y (zer C.length) h (zer_length _)]
   dsimp only [Option.bind_some]
   cases decide (Y.length = B.length) <;> cases duS A Y (zer C.length) C.length <;> cases o2 <;> rfl
  | false =>
   rw [cond_false,cond_false]
   cases h3 : (st == 3) with
   | false => rfl
   | true =>
    rw [cond_true,cond_true,spec_dot C R (by omega),Option.bind_some,eqI,spec_nn R hR,Int.toNat_natCast,spec_gv A B C R (List.replicate B.length 0) (by omega) (fun i hi => ⟨hAr i hi,(p1 i hi).2⟩) (by rw [List.length_replicate,p4])]
    have hgr : ((0 : Int) ≤ (B.length : Int) ∧ (B.length : Int) = (B.length : Int) ∧ (B.length : Int) ≤ (room : Int)) := ⟨by omega,rfl,by omega⟩
    rcases dotQ C R with ⟨a,b,o1⟩
    dsimp only [Option.bind_some]
    rw [grd_pos hgr]
    cases feasB A B C X <;> cases decide (R.length = C.length) <;> cases nnB R <;> cases gvB A R (List.replicate B.length 0) <;> cases o1 <;> rfl
def chkI (A : List (List Int)) (B : List Int) (C : List Q) (st : Int) (X Y R : List Q) (vn vd : Int) : Bool :=
 bif st == 1 then feasB A B C X && (decide (Y.length = B.length) && ((List.range C.length).all (duF A Y C) && optE B C X Y vn vd)) else chkS A B C st X Y R vn vd
theorem impl_check (A : List (List Int)) (B : List Int) (C : List Q) (h : lpOk A B C = true) (st : Int) (X Y R : List Q) (vn vd p : Int) (hX : X.length ≤ 1048576) (hY : Y.length ≤ 1048576) (hR : R.length ≤ 1048576) :
  m_impl_CheckLP A B C st X Y R vn vd p = some (chkI A B C st X Y R vn vd) := by
 obtain ⟨p1,p2,p3,p4,p5,p6⟩ := lpOk_parts h
 have hroom : (room : Nat) = 1099511627776 := rfl
 have hAr : ∀ i,i < A.length → (A.getD i []).length ≤ 1048576 := fun i hi => by rw [(p1 i hi).1]; omega
 have hfeas := impl_feas A B C X (by omega) hAr (by omega) (by omega) hX
 have hrB := impl_rats B (by omega) (small_ok p5)
 have hdB := impl_dot Y (ratsOf B) hY
 rw [dotQ_comm] at hdB
 unfold m_impl_CheckLP m_impl_notNegative chkI chkS
 rw [impl_lp A B C (by omega) hAr (by omega) (by omega),h,Option.bind_some,Bool.not_true,cond_false,hfeas,hrB]
 cases h1 : (st == 1) with
 | true =>
  rw [cond_true,cond_true]
  rw [impl_dualB A B C Y h hY,impl_dot C X (by omega),neI]
  unfold optE
  dsimp only [Option.bind_some]
  rw [hdB]
  rcases dotQ C X with ⟨a,b,o1⟩
  rcases dotQ (ratsOf B) Y with ⟨c,d,o2⟩
  dsimp only [Option.bind_some]
  cases feasB A B C X <;> cases decide (Y.length = B.length) <;> cases (List.range C.length).all (duF A Y C) <;> cases o1 <;> cases o2 <;> cases (a == c) <;> cases (b == d) <;> rfl
 | false =>
  rw [cond_false,cond_false]
  cases h2 : (st == 2) with
  | true =>
   rw [cond_true,cond_false,cond_true,neI,impl_dualG A B C Y h hY,duG_all]
   dsimp only [Option.bind_some]
   rw [hdB]
   rcases dotQ (ratsOf B) Y with ⟨c,d,o2⟩
   dsimp only [Option.bind_some]
   cases decide (Y.length = B.length) <;> cases duS A Y (zer C.length) C.length <;> cases o2 <;> rfl
  | false =>
   rw [cond_false,cond_false,cond_false]
   cases h3 : (st == 3) with
   | false => rfl
   | true =>
    rw [cond_true,cond_true,impl_dot C R (by omega),eqI,impl_nn1 R hR,Int.toNat_natCast,impl_gv A B C R (List.replicate B.length 0) (by omega) (fun i hi => ⟨hAr i hi,(p1 i hi).2⟩) (by rw [List.length_replicate,p4])]
    have hgr : ((0 : Int) ≤ (B.length : Int) ∧ (B.length : Int) = (B.length : Int) ∧ (B.length : Int) ≤ (room : Int)) := ⟨by omega,rfl,by omega⟩
    rcases dotQ C R with ⟨a,b,o1⟩
    dsimp only [Option.bind_some]
    rw [grd_pos hgr]
    cases feasB A B C X <;> cases decide (R.length = C.length) <;> cases nnB R <;> cases gvB A R (List.replicate B.length 0) <;> cases o1 <;> rfl
def smC (C : List Q) : Prop := ∀ j,j < C.length → (-100000000 ≤ (C.getD j ⟨0,0⟩).num ∧ (C.getD j ⟨0,0⟩).num ≤ 100000000) ∧ (C.getD j ⟨0,0⟩).den ≤ 100000000
theorem cost2_at (C : List Q) (m j : Nat) (h : j < C.length) : qg (cost2 C m) j = qg C j := by
 unfold qg cost2
 rw [getD_app1 _ _ _ _ h]
theorem cost2_art (C : List Q) (m i : Nat) (h : i < m) : qg (cost2 C m) (C.length + i) = 0 := by
 unfold qg cost2
 rw [getD_app2 _ _ _ _ _ rfl,zer_at m i h]
 exact rv01
theorem dlF_val {n m : Nat} {B : List Int} {k2 : List Q} (hv : ∀ j,j ≤ n + m → vq (k2.getD j ⟨0,0⟩)) (i : Nat) (hi : i < m) : vq ((dlF B k2 n m 0).getD i ⟨0,0⟩) ∧ qg (dlF B k2 n m 0) i = ((sgB B i : Int) : Rat) * (-(qg k2 (n + i))) := by
 have hq := hv (n + i) (by omega)
 unfold qg dlF
 rw [tab_getD _ _ _ _ hi]
 have hdl : dlQ k2 n 0 i = (-(k2.getD (n + i) ⟨0,0⟩).num,(k2.getD (n + i) ⟨0,0⟩).den,true) := sub0 hq
 unfold dlE sgB qr vq
 rw [hdl]
 dsimp only
 by_cases h0 : B.getD i 0 < 0
 ·rw [if_pos h0,if_pos h0]
  refine ⟨by rw [Int.neg_neg]; exact hq,?_⟩
  rw [rv_neg,rv_neg]
  have : ((-1 : Int) : Rat) = -1 := rfl
  rw [this]
  grind
 ·rw [if_neg h0,if_neg h0]
  refine ⟨by rw [validQ_neg]; exact hq,?_⟩
  rw [rv_neg]
  have : ((1 : Int) : Rat) = 1 := rfl
  rw [this]
  grind
theorem entF_pos {costs : List Q} {n : Nat} (hl : n ≤ costs.length) (h : entF costs (n : Int) < 0) (j : Nat) (hj : j < n) : ¬ cmpQ (costs.getD j ⟨0,0⟩).num (costs.getD j ⟨0,0⟩).den 0 1 < 0 := by
 unfold entF at h
 rw [if_pos (by omega),Int.toNat_natCast] at h
 split at h
 ·omega
 ·rename_i hn
  rw [List.find?_range_eq_none] at hn
  have := hn j hj
  simpa using this
theorem red_dual {A : List (List Int)} {B : List Int} {C : List Q} {r : List (List Q)} {b : List Int} {k2 : List Q} (hg : GT C.length A.length r b) (hi : TInv (stS A B C.length) C.length A.length (tv r) (bn b)) (hc : costF r b (C.length : Int) (cost2 C A.length) = (true,k2)) (j : Nat) (hj : j < C.length) :
  qg k2 j = qg C j - sR (fun i => ag A i j * qg (dlF B k2 C.length A.length 0) i) A.length := by
 obtain ⟨_,_,_,c4⟩ := costF_val hg hc
 have hr := red_cost (cost := qg (cost2 C A.length)) (costs := qg k2) hi (fun j hj => (c4 j hj).2) j (by omega)
 rw [hr,cost2_at C _ j hj]
 congr 1
 refine sR_ext fun i hi2 => ?_
 rw [cost2_art C _ i hi2,stS_X A B _ i j hi2 hj,(dlF_val (fun j hj => (c4 j hj).1) i hi2).2]
 grind
theorem opt_dual {A : List (List Int)} {B : List Int} {C : List Q} {r : List (List Q)} {b : List Int} {k2 : List Q} (hC : allB C = true) (hs : smC C) (hg : GT C.length A.length r b) (hi : TInv (stS A B C.length) C.length A.length (tv r) (bn b)) (hc : costF r b (C.length : Int) (cost2 C A.length) = (true,k2)) (he : entF k2 (C.length : Int) < 0) (j : Nat) (hj : j < C.length) :
  duF A (dlF B k2 C.length A.length 0) C j = duE A (dlF B k2 C.length A.length 0) C j := by
 obtain ⟨_,_,c3,c4⟩ := costF_val hg hc
 have hr := red_dual hg hi hc j hj
 have hk := (c4 j (by omega)).1
 have hpos := entF_pos (by omega) he j hj
 unfold duF duE
 rcases hd : dotQ (ratsOf (colA A j)) (dlF B k2 C.length A.length 0) with ⟨s,t,o⟩
 cases o with
 | false => rfl
 | true =>
  obtain ⟨_,d2,_,d4⟩ := colA_dot hd
  have hcj := all_val hC j hj
  obtain ⟨s1,s2⟩ := hs j hj
  have v1 := validQ_bd hcj
  have v2 := validQ_bd d2
  have hval : rv (k2.getD j ⟨0,0⟩).num (k2.getD j ⟨0,0⟩).den = rv (C.getD j ⟨0,0⟩).num (C.getD j ⟨0,0⟩).den - rv s t := by
   rw [d4]
   exact hr
  have b1 : -100000000000000000 ≤ (C.getD j ⟨0,0⟩).num * t ∧ (C.getD j ⟨0,0⟩).num * t ≤ 100000000000000000 := by
   have m1 := Int.mul_le_mul_of_nonneg_right s1.1 (by omega : (0 : Int) ≤ t)
   have m2 := Int.mul_le_mul_of_nonneg_right s1.2 (by omega : (0 : Int) ≤ t)
   omega
  have b2 : -100000000000000000 ≤ s * (C.getD j ⟨0,0⟩).den ∧ s * (C.getD j ⟨0,0⟩).den ≤ 100000000000000000 := by
   have m1 := Int.mul_le_mul_of_nonneg_right v2.2.2.1 (by omega : (0 : Int) ≤ (C.getD j ⟨0,0⟩).den)
   have m2 := Int.mul_le_mul_of_nonneg_right v2.2.2.2.1 (by omega : (0 : Int) ≤ (C.getD j ⟨0,0⟩).den)
   omega
  have hsub := subQ_of hcj d2 hk (by omega) hval
  dsimp only
  rw [hsub]
  dsimp only
  rw [cmpQ_neg hk valid01,rv01] at hpos
  have e1 : decide ((k2.getD j ⟨0,0⟩).num < 0) = false := decide_eq_false fun h => hpos ((rv_sign hk).1.2 h)
  have e2 : decide (cmpQ (C.getD j ⟨0,0⟩).num (C.getD j ⟨0,0⟩).den s t < 0) = false := decide_eq_false fun h => by
   rw [cmpQ_neg hcj d2] at h
   exact hpos (by rw [hval]; grind)
  rw [e1,e2]
  rfl
structure OptE (A : List (List Int)) (B : List Int) (C : List Q) (vn vd : Int) (X Y : List Q) (r : List (List Q)) (b : List Int) (k : List Q) : Prop where
 g : GT C.length A.length r b
 t : TInv (stS A B C.length) C.length A.length (tv r) (bn b)
 c : costF r b (C.length : Int) (cost2 C A.length) = (true,k)
 e : entF k (C.length : Int) < 0
 x : X = (slF r b C.length A.length A.length).take C.length
 y : Y = dlF B k C.length A.length 0
 v : vn = -(lastQ k C.length A.length).num ∧ vd = (lastQ k C.length A.length).den
theorem sol_cases {A : List (List Int)} {B : List Int} {C : List Q} (h : lpOk A B C = true) {st vn vd : Int} {X Y R : List Q} {p : Int} (hs : solF A B C C.length A.length = some (st,vn,vd,X,Y,R,p)) :
  (0 ≤ p ∧ p ≤ 1000) ∧ X.length ≤ 70 ∧ Y.length ≤ 8 ∧ R.length ≤ 70 ∧ ((st = 2 ∧ X = [] ∧ R = []) ∨ (st = 3 ∧ Y = []) ∨ (st = 1 ∧ R = [] ∧ ∃ r b k,OptE A B C vn vd X Y r b k)) := by
 obtain ⟨p1,p2,p3,p4,p5,p6⟩ := lpOk_parts h
 have hg := start_gt h
 have hi := start_tinv A B C.length
 unfold solF at hs
 rcases hph : phF C.length (cost1 C.length A.length) 1001 (stRows A B C.length) (stBas C.length A.length) 0 with _ | ⟨c,k,r,b,p'⟩
 ·rw [hph] at hs
  cases hs
 ·rw [hph] at hs
  dsimp only at hs
  obtain ⟨g1,g2,g3,g4,_⟩ := phF_good 1001 _ _ _ hg hi (by omega) (by omega) _ _ _ _ _ hph
  by_cases hneg : (lastQ k C.length A.length).num < 0
  ·rw [if_pos hneg] at hs
   simp only [Option.some.injEq,Prod.mk.injEq] at hs
   obtain ⟨rfl,rfl,rfl,rfl,rfl,rfl,rfl⟩ := hs
   refine ⟨g3,by simp,?_,by simp,.inl ⟨rfl,rfl,rfl⟩⟩
   unfold dlF
   rw [tab_length]
   omega
  ·rw [if_neg hneg] at hs
   rcases hdr : drF C.length r b p' A.length with _ | ⟨r2,b2,q2⟩
   ·rw [hdr] at hs
    cases hs
   ·rw [hdr] at hs
    dsimp only at hs
    obtain ⟨h1,h2,h3⟩ := drF_good g1 g2 g3.1 g3.2 _ hdr
    rcases hp2 : phF C.length (cost2 C A.length) 1001 r2 b2 q2 with _ | ⟨c',k2,r3,b3,p3'⟩
    ·rw [hp2] at hs
     cases hs
    ·rw [hp2] at hs
     dsimp only at hs
     obtain ⟨i1,i2,i3,i4,i5⟩ := phF_good 1001 _ _ _ h1 h2 h3.1 h3.2 _ _ _ _ _ hp2
     by_cases hc : 0 ≤ c'
     ·rw [if_pos hc] at hs
      simp only [Option.some.injEq,Prod.mk.injEq] at hs
      obtain ⟨rfl,rfl,rfl,rfl,rfl,rfl,rfl⟩ := hs
      refine ⟨i3,by rw [List.length_take]; omega,by simp,by rw [ryF_length]; omega,.inr (.inl ⟨rfl,rfl⟩)⟩
     ·rw [if_neg hc] at hs
      simp only [Option.some.injEq,Prod.mk.injEq] at hs
      obtain ⟨rfl,rfl,rfl,rfl,rfl,rfl,rfl⟩ := hs
      refine ⟨i3,by rw [List.length_take]; omega,?_,by simp,.inr (.inr ⟨rfl,rfl,r3,b3,k2,i1,i2,i4,?_,rfl,rfl,rfl,rfl⟩)⟩
      ·unfold dlF
       rw [tab_length]
       omega
      ·rcases i5 with h | h
       ·exact h.2
       ·omega
abbrev LpR := Int × Int × Int × Int × List Q × List Q × List Q
def slpF (A : List (List Int)) (B : List Int) (C : List Q) : LpR :=
 if lpOk A B C = true then (match solF A B C C.length A.length with
  | none => (4,0,0,0,[],[],[])
  | some (st,vn,vd,X,Y,R,p) => bif chkS A B C st X Y R vn vd then (st,vn,vd,p,X,Y,R) else (4,0,0,0,[],[],[])) else (0,0,0,0,[],[],[])
theorem spec_slp (A : List (List Int)) (B : List Int) (C : List Q) (hA : A.length ≤ 1048576) (hAr : ∀ i,i < A.length → (A.getD i []).length ≤ 1048576) (hB : B.length ≤ 1048576) (hC : C.length ≤ 1048576) : m_spec_SolveLP A B C = some (slpF A B C) := by
 unfold m_spec_SolveLP slpF
 rw [spec_lp A B C hA hAr hB hC,Option.bind_some]
 cases h : lpOk A B C with
 | false => rw [if_neg (by simp)]; rfl
 | true =>
  rw [if_pos rfl,Bool.not_true,cond_false,spec_start A B C h,Option.bind_some]
  dsimp only
  obtain ⟨x,e,r⟩ := spec_solve A B C h
  rw [e,Option.bind_some]
  rcases hs : solF A B C C.length A.length with _ | ⟨st,vn,vd,X,Y,R,p⟩ <;> rw [hs] at r
  ·obtain ⟨x1,x2,x3,x4,x5,x6,x7,x8,x9,x10,x11,x12⟩ := x
   have : x12 = true := r
   subst this
   rfl
  ·obtain ⟨rr,bb,rfl⟩ := r
   obtain ⟨_,l1,l2,l3,_⟩ := sol_cases h hs
   dsimp only
   rw [cond_false,spec_check A B C h st X Y R vn vd p (by omega) (by omega),Option.bind_some]
   cases hck : chkS A B C st X Y R vn vd with
   | false => rfl
   | true =>
    rw [Bool.not_true,cond_false,spec_copy X (by omega),Option.bind_some]
    rfl
theorem chk_same {A : List (List Int)} {B : List Int} {C : List Q} (h : lpOk A B C = true) (hsm : smC C) {st vn vd : Int} {X Y R : List Q} {p : Int} (hs : solF A B C C.length A.length = some (st,vn,vd,X,Y,R,p)) : chkI A B C st X Y R vn vd = chkS A B C st X Y R vn vd := by
 obtain ⟨p1,p2,p3,p4,p5,p6⟩ := lpOk_parts h
 obtain ⟨_,_,_,_,hc⟩ := sol_cases h hs
 unfold chkI
 cases h1 : (st == 1) with
 | false => rfl
 | true =>
  rw [cond_true]
  unfold chkS
  rw [h1,cond_true]
  have hst : st = 1 := by simpa using h1
  rcases hc with ⟨h2,_⟩ | ⟨h2,_⟩ | ⟨_,_,r,b,k,o⟩
  ·omega
  ·omega
  ·have hall : (List.range C.length).all (duF A Y C) = duS A Y C C.length := by
    unfold duS
    have hj : ∀ j,j < C.length → duF A Y C j = duE A Y C j := fun j hj => by
     rw [o.y]
     exact opt_dual p6 hsm o.g o.t o.c o.e j hj
    cases hd : (List.range C.length).all (duE A Y C) with
    | true =>
     rw [all_iff] at hd
     rw [all_iff]
     exact fun j hjl => by rw [hj j hjl]; exact hd j hjl
    | false =>
     rw [← Bool.not_eq_true] at hd ⊢
     intro h2
     refine hd ((all_iff _ _).2 fun j hjl => ?_)
     rw [← hj j hjl]
     exact (all_iff _ _).1 h2 j hjl
   rw [hall]
theorem impl_slp (A : List (List Int)) (B : List Int) (C : List Q) (hA : A.length ≤ 1048576) (hAr : ∀ i,i < A.length → (A.getD i []).length ≤ 1048576) (hB : B.length ≤ 1048576) (hC : C.length ≤ 1048576) (hsm : smC C) : m_impl_SolveLP A B C = some (slpF A B C) := by
 unfold m_impl_SolveLP slpF
 rw [impl_lp A B C hA hAr hB hC,Option.bind_some]
 cases h : lpOk A B C with
 | false => rw [if_neg (by simp)]; rfl
 | true =>
  rw [if_pos rfl,Bool.not_true,cond_false]
  obtain ⟨y,e,r⟩ := impl_solve A B C h
  rw [e,Option.bind_some]
  rcases hs : solF A B C C.length A.length with _ | ⟨st,vn,vd,X,Y,R,p⟩ <;> rw [hs] at r
  ·obtain ⟨y1,y2,y3,y4,y5,y6,y7,y8⟩ := y
   have : y5 = false := r
   subst this
   rfl
  ·obtain ⟨_,l1,l2,l3,hcs⟩ := sol_cases h hs
   rcases r with rfl | ⟨r1,rfl,kk,hk,hno⟩
   ·dsimp only
    rw [Bool.not_true,cond_false,impl_check A B C h st X Y R vn vd p (by omega) (by omega) (by omega),Option.bind_some,chk_same h hsm hs]
    cases chkS A B C st X Y R vn vd <;> rfl
   ·obtain ⟨y1,y2,y3,y4,y5,y6,y7,y8⟩ := y
    have : y5 = false := r1
    subst this
    obtain ⟨p1,p2,p3,p4,p5,p6⟩ := lpOk_parts h
    have hck : chkS A B C 2 X Y R vn vd = false := by
     unfold chkS
     have e1 : ((2 : Int) == 1) = false := rfl
     have e2 : ((2 : Int) == 2) = true := rfl
     rw [e1,e2,cond_false,cond_true]
     rcases hd : dotQ (ratsOf B) Y with ⟨s,t,o⟩
     cases o with
     | false => simp
     | true =>
      exfalso
      obtain ⟨_,_,q3,_⟩ := dotQ_val hd
      exact hno (q3 kk (by rw [ratsOf_length]; omega)).2
    dsimp only
    rw [hck]
    rfl
def smQ (q : Q) : Prop := vq q ∧ (-100 ≤ q.num ∧ q.num ≤ 100) ∧ q.den ≤ 100
def smI (x : Int) : Prop := -5000 ≤ x ∧ x ≤ 5000
def RowsG (A : List (List Int)) (m : Nat) (f : Nat → Nat) : Prop := A.length = m ∧ ∀ t,t < m → (A.getD t []).length = f t ∧ ∀ x ∈ A.getD t [],smI x
theorem small_rat : ∀ n ∈ [(0 : Int),(0 : Int),(1 : Int),(1 : Int),(2 : Int),(-1 : Int),(-2 : Int),(3 : Int),(5 : Int),(-4 : Int)],∀ d ∈ [(1 : Int),(1 : Int),(1 : Int),(2 : Int)],
  validQ (ratOf n d).1 (ratOf n d).2.1 = true ∧ (-100 ≤ (ratOf n d).1 ∧ (ratOf n d).1 ≤ 100) ∧ (ratOf n d).2.1 ≤ 100 := by decide +kernel
theorem l5num_sm : ∀ x ∈ [(0 : Int),(0 : Int),(1 : Int),(1 : Int),(2 : Int),(-1 : Int),(-2 : Int),(3 : Int),(5 : Int),(-4 : Int)],-5000 ≤ x ∧ x ≤ 5000 := by decide
theorem l5num_ok (c : List UInt8) (i h : Int) (hc : c.length ≤ 1048576) (hi : 0 ≤ i) : ∃ x i' h',m_spec_l5Number_io1 c i h = some (x,i',h') ∧ x ∈ [(0 : Int),(0 : Int),(1 : Int),(1 : Int),(2 : Int),(-1 : Int),(-2 : Int),(3 : Int),(5 : Int),(-4 : Int)] ∧ 0 ≤ i' := by
 unfold m_spec_l5Number_io1
 obtain ⟨x,i',h',e,h1,h2⟩ := pick_ok c i h [(0 : Int),(0 : Int),(1 : Int),(1 : Int),(2 : Int),(-1 : Int),(-2 : Int),(3 : Int),(5 : Int),(-4 : Int)] hc hi (by decide) (by decide)
 rw [e,Option.bind_some]
 exact ⟨_,_,_,rfl,h1,h2⟩
theorem wrap1 {v : Int} (h1 : 0 ≤ v) (h2 : v ≤ 2) : IntKind.i64.wrap ((1 : Int) + v) = v + 1 := by
 rw [w64' (by omega) (by omega)]
 omega
theorem draw_c (c : List UInt8) (i h v : Int) (hc : c.length ≤ 1048576) (hi : 0 ≤ i) (h1 : 0 ≤ v) (h2 : v ≤ 2) :
  ∃ C i' h',iter (l_spec_l5Draw_io1_0 c v) ((0 : Int),[],i,h) = some (C,i',h') ∧ (C.length : Int) = v + 1 ∧ (∀ q ∈ C,smQ q) ∧ 0 ≤ i' := by
 have hroom : (room : Nat) = 1099511627776 := rfl
 obtain ⟨⟨C,i',h'⟩,e,p1,p2,p3⟩ := iter_dec (step := l_spec_l5Draw_io1_0 c v) (fun k s => s.1 + k = v + 1 ∧ 0 ≤ s.1 ∧ (s.2.1.length : Int) = s.1 ∧ (∀ q ∈ s.2.1,smQ q) ∧ 0 ≤ s.2.2.1) (fun a => (a.1.length : Int) = v + 1 ∧ (∀ q ∈ a.1,smQ q) ∧ 0 ≤ a.2.1) (fun k ⟨j,C,i,h⟩ ⟨g1,g2,g3,g4,g5⟩ => by
  simp only at g1 g2 g3 g4 g5
  unfold l_spec_l5Draw_io1_0
  dsimp only
  rw [wrap1 h1 h2]
  by_cases e1 : j < v + 1
  ·obtain ⟨x,i1,k1,b1,b2,b3⟩ := l5num_ok c i h hc g5
   rw [decide_eq_true e1,cond_true,b1,Option.bind_some]
   dsimp only
   obtain ⟨y,i2,k2,d1,d2,d3⟩ := pick_ok c i1 k1 [(1 : Int),(1 : Int),(1 : Int),(2 : Int)] hc b3 (by decide) (by decide)
   rw [d1,Option.bind_some]
   dsimp only
   have sm := small_rat x b2 y d2
   rw [spec_ratOf,Option.bind_some]
   revert sm
   rcases ratOf x y with ⟨a,b,o⟩
   intro sm
   dsimp only at sm ⊢
   rw [grd_pos (by simp only [List.length_singleton]; omega)]
   refine .inr ⟨_,k - 1,by omega,rfl,?_,?_,?_,?_,?_⟩ <;> dsimp only
   ·rw [w64' (by omega) (by omega)]
    omega
   ·rw [w64' (by omega) (by omega)]
    omega
   ·rw [w64' (by omega) (by omega),List.length_append,List.length_singleton]
    omega
   ·intro q hq
    rcases List.mem_append.1 hq with hq | hq
    ·exact g4 q hq
    ·rw [List.mem_singleton] at hq
     subst hq
     exact sm
   ·exact d3
  ·rw [decide_eq_false e1,cond_false]
   exact .inl ⟨_,rfl,by dsimp only; omega,g4,g5⟩) (v + 1).toNat (0,[],i,h) ⟨by dsimp only; omega,Int.le_refl 0,rfl,by simp,hi⟩
 exact ⟨C,i',h',e,p1,p2,p3⟩
theorem draw_row (c : List UInt8) (i h v : Int) (hc : c.length ≤ 1048576) (hi : 0 ≤ i) (h1 : 0 ≤ v) (h2 : v ≤ 2) :
  ∃ r i' h',iter (l_spec_l5Draw_io1_2 c v) ((0 : Int),[],i,h) = some (r,i',h') ∧ (r.length : Int) = v + 1 ∧ (∀ x ∈ r,smI x) ∧ 0 ≤ i' := by
 have hroom : (room : Nat) = 1099511627776 := rfl
 obtain ⟨⟨C,i',h'⟩,e,p1,p2,p3⟩ := iter_dec (step := l_spec_l5Draw_io1_2 c v) (fun k s => s.1 + k = v + 1 ∧ 0 ≤ s.1 ∧ (s.2.1.length : Int) = s.1 ∧ (∀ q ∈ s.2.1,smI q) ∧ 0 ≤ s.2.2.1) (fun a => (a.1.length : Int) = v + 1 ∧ (∀ q ∈ a.1,smI q) ∧ 0 ≤ a.2.1) (fun k ⟨j,C,i,h⟩ ⟨g1,g2,g3,g4,g5⟩ => by
  simp only at g1 g2 g3 g4 g5
  unfold l_spec_l5Draw_io1_2
  dsimp only
  rw [wrap1 h1 h2]
  by_cases e1 : j < v + 1
  ·obtain ⟨x,i1,k1,b1,b2,b3⟩ := l5num_ok c i h hc g5
   rw [decide_eq_true e1,cond_true,b1,Option.bind_some]
   dsimp only
   rw [grd_pos (by simp only [List.length_singleton]; omega)]
   refine .inr ⟨_,k - 1,by omega,rfl,?_,?_,?_,?_,?_⟩ <;> dsimp only
   ·rw [w64' (by omega) (by omega)]
    omega
   ·rw [w64' (by omega) (by omega)]
    omega
   ·rw [w64' (by omega) (by omega),List.length_append,List.length_singleton]
    omega
   ·intro q hq
    rcases List.mem_append.1 hq with hq | hq
    ·exact g4 q hq
    ·rw [List.mem_singleton] at hq
     subst hq
     exact l5num_sm _ b2
   ·exact b3
  ·rw [decide_eq_false e1,cond_false]
   exact .inl ⟨_,rfl,by dsimp only; omega,g4,g5⟩) (v + 1).toNat (0,[],i,h) ⟨by dsimp only; omega,Int.le_refl 0,rfl,by simp,hi⟩
 exact ⟨C,i',h',e,p1,p2,p3⟩
theorem rowsG_app {A : List (List Int)} {m n : Nat} {r : List Int} (h : RowsG A m fun _ => n) (hr : r.length = n) (hs : ∀ x ∈ r,smI x) : RowsG (A ++ [r]) (m + 1) fun _ => n := by
 obtain ⟨h1,h2⟩ := h
 refine ⟨by rw [List.length_append,h1]; rfl,fun t ht => ?_⟩
 by_cases e : t < m
 ·have := h2 t e
  rw [List.getD_eq_getElem?_getD,List.getElem?_append_left (by omega),← List.getD_eq_getElem?_getD]
  exact this
 ·have e1 : t = m := by omega
  subst e1
  have e2 : (A ++ [r]).getD t [] = r := by
   rw [List.getD_eq_getElem?_getD,List.getElem?_append_right (by omega),h1]
   simp
  rw [e2]
  exact ⟨hr,hs⟩
theorem b_sm : ∀ x ∈ [(0 : Int),(1 : Int),(4 : Int),(6 : Int),(7 : Int),(-2 : Int),(10 : Int)],-5000 ≤ x ∧ x ≤ 5000 := by decide
theorem draw_ab (c : List UInt8) (i h v u : Int) (hc : c.length ≤ 1048576) (hi : 0 ≤ i) (h1 : 0 ≤ v) (h2 : v ≤ 2) (u1 : 0 ≤ u) (u2 : u ≤ 2) :
  ∃ A B i' h',iter (l_spec_l5Draw_io1_1 c v u) ((0 : Int),[],[],i,h) = some (A,B,i',h') ∧ RowsG A (u + 1).toNat (fun _ => (v + 1).toNat) ∧ (B.length : Int) = u + 1 ∧ (∀ x ∈ B,smI x) ∧ 0 ≤ i' := by
 have hroom : (room : Nat) = 1099511627776 := rfl
 obtain ⟨⟨A,B,i',h'⟩,e,p1,p2,p3,p4⟩ := iter_dec (step := l_spec_l5Draw_io1_1 c v u) (fun k s => s.1 + k = u + 1 ∧ 0 ≤ s.1 ∧ RowsG s.2.1 s.1.toNat (fun _ => (v + 1).toNat) ∧ (s.2.2.1.length : Int) = s.1 ∧ (∀ q ∈ s.2.2.1,smI q) ∧ 0 ≤ s.2.2.2.1) (fun a => RowsG a.1 (u + 1).toNat (fun _ => (v + 1).toNat) ∧ (a.2.1.length : Int) = u + 1 ∧ (∀ q ∈ a.2.1,smI q) ∧ 0 ≤ a.2.2.1) (fun k ⟨j,A,B,i,h⟩ ⟨g1,g2,g3,g4,g5,g6⟩ => by
  simp only at g1 g2 g3 g4 g5 g6
  unfold l_spec_l5Draw_io1_1
  dsimp only
  rw [wrap1 u1 u2]
  by_cases e1 : j < u + 1
  ·obtain ⟨r,i1,k1,b1,b2,b3,b4⟩ := draw_row c i h v hc g6 h1 h2
   rw [decide_eq_true e1,cond_true,b1,Option.bind_some]
   dsimp only
   have hA := g3.1
   rw [grd_pos (by simp only [List.length_singleton]; omega)]
   obtain ⟨y,i2,k2,d1,d2,d3⟩ := pick_ok c i1 k1 [(0 : Int),(1 : Int),(4 : Int),(6 : Int),(7 : Int),(-2 : Int),(10 : Int)] hc b4 (by decide) (by decide)
   rw [d1,Option.bind_some]
   dsimp only
   rw [grd_pos (by simp only [List.length_singleton]; omega)]
   refine .inr ⟨_,k - 1,by omega,rfl,?_,?_,?_,?_,?_,?_⟩ <;> dsimp only
   ·rw [w64' (by omega) (by omega)]
    omega
   ·rw [w64' (by omega) (by omega)]
    omega
   ·rw [w64' (by omega) (by omega),show (j + 1).toNat = j.toNat + 1 by omega]
    exact rowsG_app g3 (by omega) b3
   ·rw [w64' (by omega) (by omega),List.length_append,List.length_singleton]
    omega
   ·intro q hq
    rcases List.mem_append.1 hq with hq | hq
    ·exact g5 q hq
    ·rw [List.mem_singleton] at hq
     subst hq
     exact b_sm _ d2
   ·exact d3
  ·rw [decide_eq_false e1,cond_false]
   have ej : j = u + 1 := by omega
   subst ej
   exact .inl ⟨_,rfl,g3,g4,g5,g6⟩) (u + 1).toNat (0,[],[],i,h) ⟨by dsimp only; omega,Int.le_refl 0,⟨rfl,fun t ht => by omega⟩,rfl,by simp,hi⟩
 exact ⟨A,B,i',h',e,p1,p2,p3,p4⟩
theorem getD_set_ite (A : List (List Int)) (k t : Nat) (r : List Int) (h : k < A.length) : (A.set k r).getD t [] = if t = k then r else A.getD t [] := by
 rw [List.getD_eq_getElem?_getD,List.getElem?_set]
 by_cases e : k = t
 ·subst e
  rw [if_pos rfl,if_pos h,if_pos rfl]
  rfl
 ·rw [if_neg e,if_neg (fun h => e h.symm),← List.getD_eq_getElem?_getD]
theorem draw_bits (u s : Int) (u1 : 0 ≤ u) (u2 : u ≤ 2) (A : List (List Int)) (n : Nat) (hn : n ≤ 100) (hA : RowsG A (u + 1).toNat fun _ => n) :
  ∃ A',iter (l_spec_l5Draw_io1_4 u s) ((0 : Int),A) = some A' ∧ RowsG A' (u + 1).toNat fun _ => n + 1 := by
 have hroom : (room : Nat) = 1099511627776 := rfl
 obtain ⟨A',e,p1⟩ := iter_dec (step := l_spec_l5Draw_io1_4 u s) (fun k s => s.1 + k = u + 1 ∧ 0 ≤ s.1 ∧ RowsG s.2 (u + 1).toNat (fun t => if (t : Int) < s.1 then n + 1 else n)) (fun a => RowsG a (u + 1).toNat fun _ => n + 1) (fun k ⟨j,A⟩ ⟨g1,g2,g3,g4⟩ => by
  simp only at g1 g2 g3 g4
  unfold l_spec_l5Draw_io1_4
  dsimp only
  rw [wrap1 u1 u2]
  by_cases e1 : j < u + 1
  ·obtain ⟨x,hx⟩ : ∃ x,m_spec_l1Bit (j == s) = some x ∧ smI x := by
    cases (j == s)
    ·exact ⟨0,rfl,by unfold smI; omega⟩
    ·exact ⟨1,rfl,by unfold smI; omega⟩
   obtain ⟨r1,r2⟩ := g4 j.toNat (by omega)
   rw [if_neg (by omega)] at r1
   rw [decide_eq_true e1,cond_true,grd_pos (by omega),hx.1,Option.bind_some,grd_pos (by simp only [List.length_singleton]; omega),grd_pos (by rw [List.length_set]; omega)]
   refine .inr ⟨_,k - 1,by omega,rfl,?_,?_,?_,?_⟩ <;> dsimp only
   ·rw [w64' (by omega) (by omega)]
    omega
   ·rw [w64' (by omega) (by omega)]
    omega
   ·rw [List.length_set]
    exact g3
   ·rw [w64' (by omega) (by omega)]
    intro t ht
    rw [getD_set_ite _ _ _ _ (by omega)]
    by_cases et : t = j.toNat
    ·rw [if_pos et,if_pos (by omega),List.length_append,r1]
     refine ⟨rfl,fun y hy => ?_⟩
     rcases List.mem_append.1 hy with hy | hy
     ·exact r2 y hy
     ·rw [List.mem_singleton] at hy
      subst hy
      exact hx.2
    ·rw [if_neg et]
     obtain ⟨q1,q2⟩ := g4 t ht
     refine ⟨?_,q2⟩
     rw [q1]
     by_cases hlt : (t : Int) < j
     ·rw [if_pos hlt,if_pos (by omega)]
     ·rw [if_neg hlt,if_neg (by omega)]
  ·rw [decide_eq_false e1,cond_false]
   refine .inl ⟨_,rfl,g3,fun t ht => ?_⟩
   have := g4 t ht
   rw [if_pos (by omega)] at this
   exact this) (u + 1).toNat (0,A) ⟨by dsimp only; omega,Int.le_refl 0,hA.1,fun t ht => by dsimp only; rw [if_neg (by omega)]; exact hA.2 t ht⟩
 exact ⟨A',e,p1⟩
theorem draw_sl (u : Int) (b : Bool) (u1 : 0 ≤ u) (u2 : u ≤ 2) (A : List (List Int)) (C : List Q) (n : Nat) (hn : n ≤ 3) (hA : RowsG A (u + 1).toNat fun _ => n) (hCl : C.length = n) (hC : ∀ q ∈ C,smQ q) :
  ∃ A' C' n',iter (l_spec_l5Draw_io1_3 u b) ((0 : Int),A,C) = some (A',C') ∧ RowsG A' (u + 1).toNat (fun _ => n') ∧ C'.length = n' ∧ (n ≤ n' ∧ n' ≤ 6) ∧ (∀ q ∈ C',smQ q) := by
 have hroom : (room : Nat) = 1099511627776 := rfl
 obtain ⟨⟨A',C'⟩,e,n',p1,p2,p3,p4⟩ := iter_dec (step := l_spec_l5Draw_io1_3 u b) (fun k s => s.1 + k = u + 1 ∧ 0 ≤ s.1 ∧ RowsG s.2.1 (u + 1).toNat (fun _ => n + s.1.toNat) ∧ s.2.2.length = n + s.1.toNat ∧ (∀ q ∈ s.2.2,smQ q)) (fun a => ∃ n',RowsG a.1 (u + 1).toNat (fun _ => n') ∧ a.2.length = n' ∧ (n ≤ n' ∧ n' ≤ 6) ∧ (∀ q ∈ a.2,smQ q)) (fun k ⟨j,A,C⟩ ⟨g1,g2,g3,g4,g5⟩ => by
  simp only at g1 g2 g3 g4 g5
  unfold l_spec_l5Draw_io1_3
  dsimp only
  rw [wrap1 u1 u2]
  by_cases e1 : j < u + 1
  ·rw [decide_eq_true e1,cond_true]
   cases b with
   | false =>
    rw [cond_false]
    exact .inl ⟨_,rfl,_,g3,g4,by omega,g5⟩
   | true =>
    obtain ⟨A2,b1,b2⟩ := draw_bits u j u1 u2 A (n + j.toNat) (by omega) g3
    rw [cond_true,b1,Option.bind_some]
    unfold m_spec_l3Int
    rw [Option.bind_some]
    dsimp only
    rw [grd_pos (by simp only [List.length_singleton]; omega)]
    refine .inr ⟨_,k - 1,by omega,rfl,?_,?_,?_,?_,?_⟩ <;> dsimp only
    ·rw [w64' (by omega) (by omega)]
     omega
    ·rw [w64' (by omega) (by omega)]
     omega
    ·rw [w64' (by omega) (by omega),show n + (j + 1).toNat = n + j.toNat + 1 by omega]
     exact b2
    ·rw [w64' (by omega) (by omega),List.length_append,List.length_singleton]
     omega
    ·intro q hq
     rcases List.mem_append.1 hq with hq | hq
     ·exact g5 q hq
     ·rw [List.mem_singleton] at hq
      subst hq
      exact ⟨valid01,by decide,by decide⟩
  ·rw [decide_eq_false e1,cond_false]
   exact .inl ⟨_,rfl,_,g3,g4,by omega,g5⟩) (u + 1).toNat (0,A,C) ⟨by dsimp only; omega,Int.le_refl 0,by simpa using hA,by simpa using hCl,hC⟩
 exact ⟨A',C',n',e,p1,p2,p3,p4⟩
theorem l5draw_ok (c : List UInt8) (i h : Int) (hc : c.length ≤ 1048576) (hi : 0 ≤ i) :
  ∃ A B C i' h' m n,m_spec_l5Draw_io1 c i h = some (A,B,C,i',h') ∧ (1 ≤ m ∧ m ≤ 3) ∧ (1 ≤ n ∧ n ≤ 6) ∧ RowsG A m (fun _ => n) ∧ B.length = m ∧ (∀ x ∈ B,smI x) ∧ C.length = n ∧ (∀ q ∈ C,smQ q) ∧ 0 ≤ i' := by
 unfold m_spec_l5Draw_io1
 obtain ⟨v,i1,h1,e1,v1,p1⟩ := below_ok c i h 3 hc hi (by decide)
 rw [e1,Option.bind_some]
 dsimp only
 obtain ⟨u,i2,h2,e2,u1,p2⟩ := below_ok c i1 h1 3 hc p1 (by decide)
 rw [e2,Option.bind_some]
 dsimp only
 obtain ⟨b,i3,h3,e3,p3⟩ := once_ok c i2 h2 2 hc p2 (by decide)
 rw [e3,Option.bind_some]
 dsimp only
 obtain ⟨C,i4,h4,e4,q1,q2,p4⟩ := draw_c c i3 h3 v hc p3 v1.1 (by omega)
 rw [e4,Option.bind_some]
 dsimp only
 obtain ⟨A,B,i5,h5,e5,r1,r2,r3,p5⟩ := draw_ab c i4 h4 v u hc p4 v1.1 (by omega) u1.1 (by omega)
 rw [e5,Option.bind_some]
 dsimp only
 obtain ⟨A',C',n',e6,s1,s2,s3,s4⟩ := draw_sl u b u1.1 (by omega) A C (v + 1).toNat (by omega) r1 (by omega) q2
 rw [e6,Option.bind_some]
 exact ⟨_,_,_,_,_,_,_,rfl,by omega,by omega,s1,by omega,r3,s2,s4,p5⟩
theorem l5bent_ok (c : List UInt8) (i h : Int) (hc : c.length ≤ 1048576) (hi : 0 ≤ i) :
  ∃ A B C i' h',m_spec_l5Bent_io1 c i h = some (A,B,C,i',h') ∧ A.length ≤ 3 ∧ (∀ t,t < A.length → (A.getD t []).length ≤ 7) ∧ B.length ≤ 4 ∧ C.length ≤ 6 ∧ (∀ q ∈ C,smQ q) ∧ 0 ≤ i' := by
 have hroom : (room : Nat) = 1099511627776 := rfl
 unfold m_spec_l5Bent_io1
 obtain ⟨A,B,C,i1,h1,m,n,e1,hm,hn,r1,b1,b2,c1,c2,p1⟩ := l5draw_ok c i h hc hi
 have r0 : (A.getD 0 []).length = n := (r1.2 0 (by omega)).1
 have rl : ∀ t,t < A.length → (A.getD t []).length = n := fun t ht => (r1.2 t (by rw [← r1.1]; exact ht)).1
 have hAl := r1.1
 rw [e1,Option.bind_some]
 dsimp only
 obtain ⟨x,i2,h2,e2,_,p2⟩ := below_ok c i1 h1 12 hc p1 (by decide)
 rw [e2,Option.bind_some]
 dsimp only
 have e0 : (0 : Int).toNat = 0 := rfl
 rw [e0]
 cases x == 0 with
 | true =>
  rw [cond_true,grd_pos (by simp only [List.length_singleton]; omega)]
  exact ⟨_,_,_,_,_,rfl,by omega,fun t ht => by rw [rl t ht]; omega,by rw [List.length_append,List.length_singleton]; omega,by omega,c2,p2⟩
 | false =>
  rw [cond_false]
  cases x == 1 with
  | true =>
   rw [cond_true,grd_pos (by omega),grd_pos (by simp only [List.length_singleton]; omega),grd_pos (by rw [List.length_set]; omega)]
   refine ⟨_,_,_,_,_,rfl,by rw [List.length_set]; omega,fun t ht => ?_,by omega,by omega,c2,p2⟩
   rw [List.length_set] at ht
   rw [getD_set_ite _ _ _ _ (by omega)]
   split
   ·rw [List.length_append,List.length_singleton]
    omega
   ·rw [rl t ht]
    omega
  | false =>
   rw [cond_false]
   cases x == 2 with
   | true =>
    obtain ⟨y,i3,h3,e3,_,p3⟩ := pick_ok c i2 h2 [(5000 : Int),(5001 : Int),(-5001 : Int)] hc p2 (by decide) (by decide)
    rw [cond_true,grd_pos (by omega),e3,Option.bind_some]
    dsimp only
    rw [grd_pos (by omega)]
    refine ⟨_,_,_,_,_,rfl,by rw [List.length_set]; omega,fun t ht => ?_,by omega,by omega,c2,p3⟩
    rw [List.length_set] at ht
    rw [getD_set_ite _ _ _ _ (by omega)]
    split
    ·rw [List.length_set]
     omega
    ·rw [rl t ht]
     omega
   | false =>
    rw [cond_false]
    exact ⟨_,_,_,_,_,rfl,by omega,fun t ht => by rw [rl t ht]; omega,by omega,by omega,c2,p2⟩
theorem smC_of {C : List Q} (h : ∀ q ∈ C,smQ q) : smC C := fun j hj => by
 have : C.getD j ⟨0,0⟩ ∈ C := by
  rw [getD_get _ _ _ hj]
  exact List.getElem_mem hj
 obtain ⟨_,h2,h3⟩ := h _ this
 omega
theorem eqQ_self (l : List Q) (hl : l.length ≤ 1048576) : m_slices_Equal_impl_Rat_impl_Rat l l = some true := by
 unfold m_slices_Equal_impl_Rat_impl_Rat
 have hit := iter_up (step := l_slices_Equal_impl_Rat_impl_Rat_0 l l) (fun i => (i : Int)) l.length (a := .inl ()) (fun i hi => by
   unfold l_slices_Equal_impl_Rat_impl_Rat_0
   rw [decide_eq_true (by omega),cond_true,grd_pos (by omega),grd_pos (by omega),beq_self_eq_true,beq_self_eq_true,Bool.and_true,Bool.not_true,cond_false,w64' (by omega) (by omega)]
   rfl)
  (by unfold l_slices_Equal_impl_Rat_impl_Rat_0; rw [decide_eq_false (by omega)]; rfl)
 simp only [Int.natCast_zero] at hit
 rw [bne_self_eq_false,cond_false,hit]
 rfl
theorem eqres_self (st vn vd p : Int) (X Y R : List Q) (hX : X.length ≤ 1048576) (hY : Y.length ≤ 1048576) (hR : R.length ≤ 1048576) : m_impl_EqualResult st X Y R vn vd p st X Y R vn vd p = some true := by
 unfold m_impl_EqualResult
 rw [beq_self_eq_true,cond_true,eqQ_self X hX,Option.bind_some,cond_true,eqQ_self Y hY,Option.bind_some,cond_true,eqQ_self R hR,Option.bind_some,cond_true,beq_self_eq_true,beq_self_eq_true,Bool.and_true,cond_true,beq_self_eq_true]
def TabB (rows : List (List Q)) (basis : List Int) (cols : Int) : Prop := rows.length ≤ 8 ∧ basis.length ≤ 9 ∧ (∀ i,i < rows.length → (rows.getD i []).length ≤ 79) ∧ 0 ≤ cols ∧ cols ≤ 71
theorem gt_tabB {n m : Nat} {rows : List (List Q)} {basis : List Int} (h : GT n m rows basis) : TabB rows basis n := by
 have h1 := h.rl
 have h2 := h.bl
 have h3 := h.m8
 have h4 := h.n70
 exact ⟨by omega,by omega,fun i hi => by rw [h.row i (by omega)]; omega,by omega,by omega⟩
theorem small_of {l : List Int} (h : ∀ x ∈ l,smI x) : smallB l = true := by
 unfold smallB
 refine (all_iff _ _).2 fun i hi => decide_eq_true ?_
 rw [getD_get _ _ _ hi]
 exact h _ (List.getElem_mem hi)
theorem drawn_lpOk {A : List (List Int)} {B : List Int} {C : List Q} {m n : Nat} (hm : 1 ≤ m ∧ m ≤ 3) (hn : 1 ≤ n ∧ n ≤ 6) (hA : RowsG A m fun _ => n) (hB : B.length = m) (hBs : ∀ x ∈ B,smI x) (hC : C.length = n) (hCs : ∀ q ∈ C,smQ q) : lpOk A B C = true := by
 obtain ⟨h1,h2⟩ := hA
 unfold lpOk
 simp only [Bool.and_eq_true]
 refine ⟨(all_iff _ _).2 fun k hk => ?_,decide_eq_true (by omega),decide_eq_true (by omega),?_,small_of hBs,?_⟩
 ·obtain ⟨q1,q2⟩ := h2 k (by omega)
  unfold lpRow
  simp only [Bool.and_eq_true]
  refine ⟨?_,small_of q2⟩
  rw [beq_iff_eq,q1,hC]
 ·rw [beq_iff_eq,hB,h1]
 ·unfold allB
  refine (all_iff _ _).2 fun i hi => ?_
  have : C.getD i ⟨0,0⟩ ∈ C := by
   rw [getD_get _ _ _ hi]
   exact List.getElem_mem hi
  exact (hCs _ this).1
theorem l6_loop (c : List UInt8) (v : Int) (i h : Int) (hc : c.length ≤ 1048576) (hi : 0 ≤ i) (h1 : 0 ≤ v) (h2 : v ≤ 2) {n m : Nat} {rows : List (List Q)} {basis : List Int} (hg : GT n m rows basis) :
  ∃ rows' basis' i' h',iter (l_spec_l6Draw_io2_0 c v) ((0 : Int),(n : Int),rows,basis,i,h) = some ((n : Int),rows',basis',i',h') ∧ GT n m rows' basis' ∧ 0 ≤ i' := by
 obtain ⟨⟨n',rows',basis',i',h'⟩,e,p1,p2,p3⟩ := iter_dec (step := l_spec_l6Draw_io2_0 c v) (fun k s => s.1 + k = v ∧ 0 ≤ s.1 ∧ s.2.1 = (n : Int) ∧ GT n m s.2.2.1 s.2.2.2.1 ∧ 0 ≤ s.2.2.2.2.1) (fun a => a.1 = (n : Int) ∧ GT n m a.2.1 a.2.2.1 ∧ 0 ≤ a.2.2.2.1) (fun k ⟨j,n1,rows,basis,i,h⟩ ⟨g1,g2,g3,g4,g5⟩ => by
  simp only at g1 g2 g3 g4 g5
  subst g3
  unfold l_spec_l6Draw_io2_0
  dsimp only
  by_cases e1 : j < v
  ·have q1 := g4.rl
   have q2 := g4.m8
   have q3 := g4.n70
   obtain ⟨l1,l2,l3⟩ := g4.lens
   obtain ⟨x,i1,k1,b1,b2,b3⟩ := below_ok c i h rows.length hc g5 (by omega)
   rw [decide_eq_true e1,cond_true,b1,Option.bind_some]
   dsimp only
   rw [w64' (by omega) (by omega)]
   obtain ⟨y,i2,k2,d1,d2,d3⟩ := below_ok c i1 k1 ((n : Int) + 1) hc b3 (by omega)
   rw [d1,Option.bind_some]
   dsimp only
   rw [spec_piv rows basis n x y l1 l2 l3 g4.bd,Option.bind_some]
   rcases hp : pivF rows basis (n : Int) x y with _ | ⟨r',b'⟩
   ·exact .inr ⟨_,k - 1,by omega,rfl,by dsimp only; rw [w64' (by omega) (by omega)]; omega,by dsimp only; rw [w64' (by omega) (by omega)]; omega,rfl,g4,d3⟩
   ·obtain ⟨_,_,_,_,_,_,_,_,hg',_⟩ := pivF_val g4 hp
    exact .inr ⟨_,k - 1,by omega,rfl,by dsimp only; rw [w64' (by omega) (by omega)]; omega,by dsimp only; rw [w64' (by omega) (by omega)]; omega,rfl,hg',d3⟩
  ·rw [decide_eq_false e1,cond_false]
   exact .inl ⟨_,rfl,rfl,g4,g5⟩) v.toNat (0,n,rows,basis,i,h) ⟨by dsimp only; omega,Int.le_refl 0,rfl,hg,hi⟩
 dsimp only at p1
 subst p1
 exact ⟨rows',basis',i',h',e,p2,p3⟩
theorem set_rowQ (A : List (List Q)) (k t : Nat) (r : List Q) (h : k < A.length) : (A.set k r).getD t [] = if t = k then r else A.getD t [] := by
 rw [List.getD_eq_getElem?_getD,List.getElem?_set]
 by_cases e : k = t
 ·subst e
  rw [if_pos rfl,if_pos h,if_pos rfl]
  rfl
 ·rw [if_neg e,if_neg (fun h => e h.symm),← List.getD_eq_getElem?_getD]
end Go.Proofs.YtbkpiknmlomjnaaGreat
