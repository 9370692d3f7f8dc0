/- The plain laws: what the models of FnExactIsBalancedCollection compute. No condition beyond those that each theorem names. -/
import Derived.Test.YtdobcjgdhgfedaaGEIsBalancedCollection
import Derived.Test.YtdobcjgdhgfedaaAmC
namespace Go.Proofs.Ytdobcjgdhgfedaa
open Go.AM
theorem in_eq (a b c : Int) : m_spec_l1In a b c = some (decide (b ≤ a ∧ a ≤ c)) := by
  unfold m_spec_l1In
  by_cases h : a ≥ b
  · have h' : b ≤ a := h
    simp [h, h']
  · have h' : ¬ b ≤ a := h
    simp [h, h']
theorem within_eq (a b c : Int) : m_impl_within a b c = some (decide (b ≤ a ∧ a ≤ c)) := in_eq a b c
theorem count_eq (n : Int) (h1 : 1 ≤ n) (h2 : n ≤ 5) : m_spec_CountCoalitions n = some (2 ^ n.toNat) := by
  unfold m_spec_CountCoalitions
  rw [in_eq]
  have hb : decide ((0 : Int) ≤ n ∧ n ≤ 5) = true := by simp; omega
  rw [hb, Option.bind_some, Bool.not_true, cond_false]
  have hit := iter_up (step := l_spec_CountCoalitions_0 n) (fun i => ((2 : Int) ^ i, (i : Int))) n.toNat (a := 2 ^ n.toNat) (fun i hi => by
      have hlt : (i : Int) < n := by omega
      have hi5 : i < 5 := by omega
      unfold l_spec_CountCoalitions_0
      simp only [hlt, decide_true, cond_true]
      have hp : (2 : Int) ^ i ≤ 16 := by
        have : i = 0 ∨ i = 1 ∨ i = 2 ∨ i = 3 ∨ i = 4 := by omega
        rcases this with rfl | rfl | rfl | rfl | rfl <;> decide
      have hp0 : (0 : Int) < 2 ^ i := Int.pow_pos (by decide)
      rw [w64' (by omega) (by omega), w64' (by omega) (by omega)]
      simp [Int.pow_succ])
    (by
      unfold l_spec_CountCoalitions_0
      have : ¬ ((n.toNat : Int) < n) := by omega
      simp only [this, decide_false, cond_false])
  simp only [Int.pow_zero, Int.ofNat_eq_natCast, Int.natCast_zero] at hit
  rw [hit]
  rfl
theorem iter_find {S A : Type} {step : S → Option (S ⊕ A)} (st : Nat → S) (n : Nat) (p : Nat → Bool) (a : A) (b : Nat → A)
    (hs : ∀ i, i < n → step (st i) = some (if p i = true then .inr (b i) else .inl (st (i + 1)))) (hd : step (st n) = some (.inr a)) :
    iter step (st 0) = some (match (List.range n).find? p with
      | some i => b i
      | none => a) := by
  have key : ∀ k, k ≤ n → iter step (st (n - k)) = some (match (List.range' (n - k) k).find? p with
      | some i => b i
      | none => a) := by
    intro k
    induction k with
    | zero => intro _; simpa using iter_done hd
    | succ k ih =>
      intro hk
      have h1 := hs (n - (k + 1)) (by omega)
      rw [List.range'_succ, List.find?_cons]
      cases hp : p (n - (k + 1)) with
      | true =>
        rw [if_pos hp] at h1
        exact iter_done h1
      | false =>
        rw [if_neg (by simp [hp])] at h1
        rw [iter_next h1, show n - (k + 1) + 1 = n - k by omega]
        exact ih (by omega)
  have := key n (Nat.le_refl _)
  rw [Nat.sub_self, ← List.range_eq_range'] at this
  exact this
def tab {α : Type} (f : Nat → α) (n : Nat) : List α := (List.range n).map f
theorem tab_succ {α : Type} (f : Nat → α) (n : Nat) : tab f (n + 1) = tab f n ++ [f n] := by simp [tab, List.range_succ]
theorem tab_length {α : Type} (f : Nat → α) (n : Nat) : (tab f n).length = n := by simp [tab]
theorem tab_getD {α : Type} (f : Nat → α) (n : Nat) (d : α) (i : Nat) (h : i < n) : (tab f n).getD i d = f i := by
  simp [tab, List.getD, List.getElem?_map, List.getElem?_range h]
theorem getD_nat {α : Type} (l : List α) (i : Nat) (d : α) : l.getD (i : Int).toNat d = l.getD i d := by rw [Int.toNat_natCast]
def validQ (a b : Int) : Bool := decide (1 ≤ b ∧ b ≤ 1000000000 ∧ -1000000000 ≤ a ∧ a ≤ 1000000000 ∧ Int.gcd a b = 1)
theorem gcd_loop (m n : Nat) : iter l_spec_l3Gcd_0 ((m : Int), (n : Int)) = some ((Nat.gcd m n : Nat) : Int) := by
  induction n using Nat.strongRecOn generalizing m with
  | _ n ih =>
    by_cases h : n = 0
    · subst h
      rw [iter_done (a := (m : Int))]
      · simp
      · simp [l_spec_l3Gcd_0]
    · have hs : l_spec_l3Gcd_0 ((m : Int), (n : Int)) = some (.inl ((n : Int), ((m % n : Nat) : Int))) := by
        unfold l_spec_l3Gcd_0
        dsimp only
        rw [decide_eq_true (by omega), cond_true, grd_pos (by omega)]
        rfl
      rw [iter_next hs, ih (m % n) (Nat.mod_lt _ (by omega)) n, Nat.gcd_comm n (m % n), ← Nat.gcd_rec n m, Nat.gcd_comm n m]
theorem spec_gcd (a b : Int) (ha : -9223372036854775807 ≤ a ∧ a ≤ 9223372036854775807) (hb : -9223372036854775807 ≤ b ∧ b ≤ 9223372036854775807) : m_spec_l3Gcd a b = some ((Int.gcd a b : Nat) : Int) := by
  unfold m_spec_l3Gcd
  have e1 : l_spec_l3Gcd_1 = l_spec_l3Gcd_0 := rfl
  have e2 : l_spec_l3Gcd_2 = l_spec_l3Gcd_0 := rfl
  have e3 : l_spec_l3Gcd_3 = l_spec_l3Gcd_0 := rfl
  rw [e1, e2, e3]
  have ea : (if a < 0 then IntKind.i64.wrap (0 - a) else a) = (a.natAbs : Int) := by
    by_cases h : a < 0
    · rw [if_pos h, w64' (by omega) (by omega)]; omega
    · rw [if_neg h]; omega
  have eb : (if b < 0 then IntKind.i64.wrap (0 - b) else b) = (b.natAbs : Int) := by
    by_cases h : b < 0
    · rw [if_pos h, w64' (by omega) (by omega)]; omega
    · rw [if_neg h]; omega
  have key := gcd_loop a.natAbs b.natAbs
  rw [← ea, ← eb] at key
  have hg : Nat.gcd a.natAbs b.natAbs = Int.gcd a b := rfl
  rw [hg] at key
  by_cases h1 : a < 0 <;> by_cases h2 : b < 0 <;> simp only [h1, h2, if_true, if_false, decide_true, decide_false, cond_true, cond_false] at key ⊢ <;> rw [key] <;> rfl
theorem common_loop : ∀ (N : Nat) (a b : Int), b.natAbs ≤ N → ∃ x, iter l_impl_common_0 (a, b) = some x ∧ x.natAbs = Int.gcd a b := by
  intro N
  induction N with
  | zero =>
    intro a b h
    have hb : b = 0 := by omega
    subst hb
    exact ⟨a, iter_done (by simp [l_impl_common_0]), by simp⟩
  | succ N ih =>
    intro a b h
    by_cases hb : b = 0
    · subst hb
      exact ⟨a, iter_done (by simp [l_impl_common_0]), by simp⟩
    · have hs : l_impl_common_0 (a, b) = some (.inl (b, a.tmod b)) := by
        unfold l_impl_common_0
        have : (b != 0) = true := by simpa using hb
        dsimp only
        rw [this, cond_true, grd_pos hb]
      have hlt : (a.tmod b).natAbs < b.natAbs := by
        rw [Int.natAbs_tmod]
        exact Nat.mod_lt _ (by omega)
      obtain ⟨x, h1, h2⟩ := ih b (a.tmod b) (by omega)
      refine ⟨x, by rw [iter_next hs, h1], ?_⟩
      rw [h2]
      show Nat.gcd b.natAbs (a.tmod b).natAbs = Nat.gcd a.natAbs b.natAbs
      rw [Int.natAbs_tmod, Nat.gcd_comm b.natAbs, ← Nat.gcd_rec, Nat.gcd_comm]
theorem gcd_le (a b : Int) : Int.gcd a b ≤ a.natAbs ∨ Int.gcd a b ≤ b.natAbs := by
  by_cases hb : b = 0
  · subst hb; left; simp
  · right
    exact Nat.le_of_dvd (by omega) (Int.gcd_dvd_natAbs_right a b)
theorem impl_common (a b : Int) (ha : -9223372036854775807 ≤ a ∧ a ≤ 9223372036854775807) (hb : -9223372036854775807 ≤ b ∧ b ≤ 9223372036854775807) : m_impl_common a b = some ((Int.gcd a b : Nat) : Int) := by
  unfold m_impl_common
  obtain ⟨x, h1, h2⟩ := common_loop _ a b (Nat.le_refl _)
  have h3 := gcd_le a b
  rw [h1, Option.bind_some]
  dsimp only
  rw [w64' (by omega) (by omega)]
  congr 1
  split <;> omega
theorem spec_validRat (a b : Int) : m_spec_IsValidRat a b = some (validQ a b) := by
  unfold m_spec_IsValidRat
  rw [in_eq, Option.bind_some]
  by_cases hb : 1 ≤ b ∧ b ≤ 1000000000
  · rw [decide_eq_true hb, cond_true, in_eq, Option.bind_some]
    by_cases ha : -1000000000 ≤ a ∧ a ≤ 1000000000
    · rw [decide_eq_true ha, cond_true, spec_gcd a b (by omega) (by omega), Option.bind_some]
      congr 1
      by_cases hg : Int.gcd a b = 1
      · simp [validQ, hg, ha, hb]
      · have : ¬ ((Int.gcd a b : Nat) : Int) = 1 := by omega
        simp [validQ, hg, this]
    · rw [decide_eq_false ha, cond_false]
      have : ¬ (1 ≤ b ∧ b ≤ 1000000000 ∧ -1000000000 ≤ a ∧ a ≤ 1000000000 ∧ Int.gcd a b = 1) := fun h => ha ⟨h.2.2.1, h.2.2.2.1⟩
      rw [validQ, decide_eq_false this]
  · rw [decide_eq_false hb, cond_false]
    have : ¬ (1 ≤ b ∧ b ≤ 1000000000 ∧ -1000000000 ≤ a ∧ a ≤ 1000000000 ∧ Int.gcd a b = 1) := fun h => hb ⟨h.1, h.2.1⟩
    rw [validQ, decide_eq_false this]
theorem impl_validRat (a b : Int) : m_impl_IsValidRat a b = some (validQ a b) := by
  rw [← spec_validRat]
  unfold m_impl_IsValidRat m_spec_IsValidRat
  rw [in_eq, within_eq, Option.bind_some, Option.bind_some]
  by_cases hb : 1 ≤ b ∧ b ≤ 1000000000
  · rw [decide_eq_true hb, cond_true, cond_true, in_eq, within_eq, Option.bind_some, Option.bind_some]
    by_cases ha : -1000000000 ≤ a ∧ a ≤ 1000000000
    · rw [decide_eq_true ha, cond_true, cond_true, spec_gcd a b (by omega) (by omega), impl_common a b (by omega) (by omega)]
    · rw [decide_eq_false ha]
      rfl
  · rw [decide_eq_false hb]
    rfl
theorem validQ_bd {a b : Int} (h : validQ a b = true) : 1 ≤ b ∧ b ≤ 1000000000 ∧ -1000000000 ≤ a ∧ a ≤ 1000000000 ∧ Int.gcd a b = 1 := by simpa [validQ] using h
theorem mul_bd {x y : Int} (hx : -1000000000 ≤ x ∧ x ≤ 1000000000) (hy : -1000000000 ≤ y ∧ y ≤ 1000000000) : -1000000000000000000 ≤ x * y ∧ x * y ≤ 1000000000000000000 := by
  have h1 : (x * y).natAbs ≤ 1000000000 * 1000000000 := by
    rw [Int.natAbs_mul]
    exact Nat.mul_le_mul (by omega) (by omega)
  omega
instance : DecidableEq Q := fun a b =>
  if h1 : a.num = b.num then
    if h2 : a.den = b.den then isTrue (by cases a; cases b; simp only at h1 h2; rw [h1, h2])
    else isFalse (fun h => h2 (by rw [h]))
  else isFalse (fun h => h1 (by rw [h]))
theorem Q_ext {a b : Q} : a = b ↔ a.num = b.num ∧ a.den = b.den := ⟨fun h => by rw [h]; exact ⟨rfl, rfl⟩, fun h => by cases a; cases b; simp only at h; rw [h.1, h.2]⟩
theorem sz_rats (l : List Q) (k : Int) (h1 : 0 ≤ k) (h2 : k ≤ 1048576) (hl : l.length ≤ maxLen) : m_laws_szRatS l k = some (if k < l.length then -1 else k - l.length) := by
  have hl' : (l.length : Int) ≤ 9223372036854775807 := by simp only [maxLen] at hl; omega
  have hw : IntKind.i64.wrap (k - (l.length : Int)) = k - l.length := w64' (by omega) (by omega)
  unfold m_laws_szRatS
  rw [hw]
  by_cases h : k < l.length
  · have : k - (l.length : Int) < 0 := by omega
    simp [h, this]
  · have : ¬ k - (l.length : Int) < 0 := by omega
    simp [h, this]
theorem to_rats (l : List Q) (hl : l.length ≤ 1048576) : m_laws_toRatS l = some l := by
  unfold m_laws_toRatS
  rw [grd_pos ⟨by omega, rfl, by simp only [room]; omega⟩]
  have h := iter_up (step := l_laws_toRatS_0 l) (fun i => ((i : Int), l.take i ++ List.replicate (l.length - i) (⟨0, 0⟩ : Q))) l.length (a := l) (fun i hi => ?_) ?_
  · simp only [List.take_zero, List.nil_append, Nat.sub_zero, Int.ofNat_eq_natCast] at h
    simp only [Int.toNat_natCast]
    rw [show ((0 : Int), List.replicate l.length (⟨0, 0⟩ : Q)) = (((0 : Nat) : Int), List.replicate l.length (⟨0, 0⟩ : Q)) from rfl, h]
    rfl
  · have hi' : (i : Int) < l.length := by omega
    have hlen : ((l.take i ++ List.replicate (l.length - i) (⟨0, 0⟩ : Q)).length : Int) = l.length := by simp; omega
    simp only [l_laws_toRatS_0, m_laws_toRat, Option.bind_some, hi', decide_true, cond_true]
    rw [grd_pos ⟨by omega, trivial⟩, grd_pos ⟨by omega, by rw [hlen]; exact hi'⟩]
    have e : (⟨(l.getD (i : Int).toNat ⟨0, 0⟩).num, (l.getD (i : Int).toNat ⟨0, 0⟩).den⟩ : Q) = l.getD i ⟨0, 0⟩ := by rw [Int.toNat_natCast]
    rw [w64' (by omega) (by omega), e, Int.toNat_natCast, set_copy l ⟨0, 0⟩ ⟨0, 0⟩ i hi]
    rfl
  · simp [l_laws_toRatS_0]
theorem eq_find {α : Type} [DecidableEq α] (d : α) (a b : List α) (hl : a.length = b.length) : (match (List.range a.length).find? (fun i => !decide (a.getD i d = b.getD i d)) with
      | some _ => (.inr false : Unit ⊕ Bool)
      | none => .inl ()) = if a = b then .inl () else .inr false := by
  cases h : (List.range a.length).find? (fun i => !decide (a.getD i d = b.getD i d)) with
  | none =>
    rw [List.find?_eq_none] at h
    rw [if_pos (eq_of_all d hl fun i hi => by simpa using h i (List.mem_range.2 hi))]
  | some i =>
    have h1 := List.find?_some h
    simp only [Bool.not_eq_true', decide_eq_false_iff_not] at h1
    rw [if_neg fun e => h1 (by rw [e])]
theorem eq_rat (a b c d : Int) : m_laws_eqRat a b c d = some (decide (a = c ∧ b = d)) := by
  unfold m_laws_eqRat
  by_cases h1 : a = c
  · by_cases h2 : b = d
    · simp [h1, h2]
    · have e : (b != d) = true := by simpa using h2
      simp [h1, h2, e]
  · have e : (a != c) = true := by simpa using h1
    simp [h1, e]
theorem eq_rats (a b : List Q) (ha : a.length ≤ 1048576) : m_laws_eqRatS a b = some (decide (a = b)) := by
  unfold m_laws_eqRatS
  by_cases hl : a.length = b.length
  · have e : ((a.length : Int) != (b.length : Int)) = false := by simp [hl]
    have hit := iter_find (step := l_laws_eqRatS_0 a b) (fun i => (i : Int)) a.length (fun i => !decide (a.getD i ⟨0, 0⟩ = b.getD i ⟨0, 0⟩)) (.inl ()) (fun _ => .inr false)
      (fun i hi => by
        unfold l_laws_eqRatS_0
        rw [decide_eq_true (by omega), cond_true, grd_pos ⟨by omega, by omega⟩, grd_pos ⟨by omega, by omega⟩, getD_nat, getD_nat, eq_rat, Option.bind_some, w64' (by omega) (by omega)]
        by_cases hq : a.getD i ⟨0, 0⟩ = b.getD i ⟨0, 0⟩
        · rw [decide_eq_true (Q_ext.1 hq), decide_eq_true hq]
          rfl
        · rw [decide_eq_false fun h => hq (Q_ext.2 h), decide_eq_false hq]
          rfl)
      (by
        unfold l_laws_eqRatS_0
        rw [decide_eq_false (by omega)]
        rfl)
    rw [eq_find _ a b hl] at hit
    simp only [Int.natCast_zero] at hit
    rw [e, cond_false, hit]
    by_cases hab : a = b
    · simp [hab]
    · simp [hab]
  · have e : ((a.length : Int) != (b.length : Int)) = true := by
      simp only [bne_iff_ne, ne_eq]
      omega
    have : ¬ a = b := fun e => hl (by rw [e])
    rw [e]
    simp [this]
theorem count0 (n : Nat) (h : n ≤ 5) : m_spec_CountCoalitions (n : Int) = some (2 ^ n) := by
  rcases Nat.eq_zero_or_pos n with rfl | h1
  · unfold m_spec_CountCoalitions
    rw [in_eq, decide_eq_true (by omega), Option.bind_some, Bool.not_true, cond_false]
    rw [iter_done (a := (1 : Int)) (by simp [l_spec_CountCoalitions_0])]
    rfl
  · rw [count_eq (n : Int) (by omega) (by omega)]
    simp
theorem bit2 (k : Nat) (h : k < 5) : m_spec_l2Bit (k : Int) = some (2 ^ k) := by
  unfold m_spec_l2Bit
  rw [count0 k (by omega)]
  rfl
theorem and_tab : ∀ s : Fin 32, ∀ k : Fin 5, bitsOf .and .i64 (((s.val : Nat) : Int).fdiv (2 ^ (min ((k.val : Nat) : Int).toNat 64))) 1 = if s.val.testBit k.val then 1 else 0 := by decide +kernel
theorem has_tab : ∀ s : Fin 32, ∀ k : Fin 5, ((IntKind.i64.wrap (((s.val : Nat) : Int).tdiv (2 ^ k.val))).tmod 2 == 1) = s.val.testBit k.val := by decide +kernel
theorem shl_tab : ∀ k : Fin 6, IntKind.i64.wrap (1 * 2 ^ (min ((k.val : Nat) : Int).toNat 64)) = ((2 ^ k.val : Nat) : Int) := by decide +kernel
theorem and_eq (s k : Nat) (hs : s < 32) (hk : k < 5) : bitsOf .and .i64 ((s : Int).fdiv (2 ^ (min (k : Int).toNat 64))) 1 = if s.testBit k then 1 else 0 := and_tab ⟨s, hs⟩ ⟨k, hk⟩
theorem shl_eq (k : Nat) (hk : k < 6) : IntKind.i64.wrap (1 * 2 ^ (min (k : Int).toNat 64)) = ((2 ^ k : Nat) : Int) := shl_tab ⟨k, hk⟩
theorem spec_has (s k : Nat) (hs : s < 32) (hk : k < 5) : m_spec_HasPlayer (s : Int) (k : Int) = some (s.testBit k) := by
  unfold m_spec_HasPlayer
  have hp : (0 : Int) < 2 ^ k := Int.pow_pos (by decide)
  rw [in_eq, decide_eq_true (by omega), Option.bind_some, cond_true, decide_eq_true (by omega), cond_true, bit2 k hk, Option.bind_some, grd_pos (by omega), grd_pos (by decide)]
  rw [← has_tab ⟨s, hs⟩ ⟨k, hk⟩]
theorem pow_le32 {N : Nat} (h : N ≤ 5) : 2 ^ N ≤ 32 := by
  have : N = 0 ∨ N = 1 ∨ N = 2 ∨ N = 3 ∨ N = 4 ∨ N = 5 := by omega
  rcases this with rfl | rfl | rfl | rfl | rfl | rfl <;> decide
theorem impl_count (n : Nat) (h : n ≤ 5) : m_impl_CountCoalitions (n : Int) = some ((2 ^ n : Nat) : Int) := by
  unfold m_impl_CountCoalitions
  rw [within_eq, decide_eq_true (by omega), Option.bind_some, Bool.not_true, cond_false, grd_pos (by omega), shl_eq n (by omega)]
theorem iter_findc {S A : Type} {step : S → Option (S ⊕ A)} (st : Nat → S) (n : Nat) (p : Nat → Bool) (a : A) (b : Nat → A)
    (hs : ∀ i, i < n → step (st i) = some (bif p i then .inr (b i) else .inl (st (i + 1)))) (hd : step (st n) = some (.inr a)) :
    iter step (st 0) = some (match (List.range n).find? p with
      | some i => b i
      | none => a) := iter_find st n p a b (fun i hi => by rw [hs i hi]; cases p i <;> rfl) hd
def ratOf (n d : Int) : Int × Int × Bool :=
  if d = 0 ∨ ¬ (-1000000000000000000 ≤ n ∧ n ≤ 1000000000000000000) ∨ ¬ (-1000000000000000000 ≤ d ∧ d ≤ 1000000000000000000) then (0, 0, false)
  else if validQ ((if d < 0 then -n else n).tdiv (Int.gcd n d : Nat)) ((if d < 0 then -d else d).tdiv (Int.gcd n d : Nat)) = true then ((if d < 0 then -n else n).tdiv (Int.gcd n d : Nat), (if d < 0 then -d else d).tdiv (Int.gcd n d : Nat), true) else (0, 0, false)
theorem tdiv_bd (n : Int) (g : Nat) : -(n.natAbs : Int) ≤ n.tdiv g ∧ n.tdiv g ≤ n.natAbs := by
  have h : (n.tdiv g).natAbs ≤ n.natAbs := by
    rw [Int.natAbs_tdiv]
    exact Nat.div_le_self _ _
  omega
theorem gcd_pos' {n d : Int} (h : d ≠ 0) : 0 < Int.gcd n d := Int.gcd_pos_of_ne_zero_right n h
theorem spec_ratOf (n d : Int) : m_spec_RatOf n d = some (ratOf n d) := by
  unfold m_spec_RatOf ratOf
  by_cases h0 : d = 0
  · simp [h0]
  · have e0 : (d == 0) = false := by simpa using h0
    rw [e0, cond_false, in_eq, in_eq, Option.bind_some, Option.bind_some]
    by_cases h1 : -1000000000000000000 ≤ n ∧ n ≤ 1000000000000000000
    · by_cases h2 : -1000000000000000000 ≤ d ∧ d ≤ 1000000000000000000
      · have hc : ¬ (d = 0 ∨ ¬ (-1000000000000000000 ≤ n ∧ n ≤ 1000000000000000000) ∨ ¬ (-1000000000000000000 ≤ d ∧ d ≤ 1000000000000000000)) := fun h => by
          rcases h with h | h | h
          · exact h0 h
          · exact h h1
          · exact h h2
        have hg := gcd_pos' (n := n) h0
        rw [if_neg hc, decide_eq_true h1, decide_eq_true h2, Bool.not_true, cond_false, cond_false]
        by_cases h3 : d < 0
        · have b1 := tdiv_bd (-n) (Int.gcd n d)
          have b2 := tdiv_bd (-d) (Int.gcd n d)
          have z1 : IntKind.i64.wrap (0 - n) = -n := by rw [w64' (by omega) (by omega)]; omega
          have z2 : IntKind.i64.wrap (0 - d) = -d := by rw [w64' (by omega) (by omega)]; omega
          rw [decide_eq_true h3, cond_true, z1, z2, spec_gcd _ _ (by omega) (by omega), Int.neg_gcd, Int.gcd_neg, Option.bind_some, grd_pos (by omega), grd_pos (by omega), w64' (n := (-n).tdiv _) (by omega) (by omega), w64' (n := (-d).tdiv _) (by omega) (by omega), spec_validRat, Option.bind_some]
          simp only [if_pos h3]
          cases validQ ((-n).tdiv (Int.gcd n d : Nat)) ((-d).tdiv (Int.gcd n d : Nat)) <;> rfl
        · have b1 := tdiv_bd n (Int.gcd n d)
          have b2 := tdiv_bd d (Int.gcd n d)
          rw [decide_eq_false h3, cond_false, spec_gcd _ _ (by omega) (by omega), Option.bind_some, grd_pos (by omega), grd_pos (by omega), w64' (n := n.tdiv _) (by omega) (by omega), w64' (n := d.tdiv _) (by omega) (by omega), spec_validRat, Option.bind_some]
          simp only [if_neg h3]
          cases validQ (n.tdiv (Int.gcd n d : Nat)) (d.tdiv (Int.gcd n d : Nat)) <;> rfl
      · rw [if_pos (.inr (.inr h2)), decide_eq_true h1, decide_eq_false h2]
        rfl
    · rw [if_pos (.inr (.inl h1)), decide_eq_false h1]
      rfl
theorem impl_ratOf (n d : Int) : m_impl_RatOf n d = some (ratOf n d) := by
  unfold m_impl_RatOf ratOf
  by_cases h0 : d = 0
  · simp [h0]
  · have e0 : (d == 0) = false := by simpa using h0
    rw [e0, cond_false, within_eq, within_eq, Option.bind_some, Option.bind_some]
    by_cases h1 : -1000000000000000000 ≤ n ∧ n ≤ 1000000000000000000
    · by_cases h2 : -1000000000000000000 ≤ d ∧ d ≤ 1000000000000000000
      · have hc : ¬ (d = 0 ∨ ¬ (-1000000000000000000 ≤ n ∧ n ≤ 1000000000000000000) ∨ ¬ (-1000000000000000000 ≤ d ∧ d ≤ 1000000000000000000)) := fun h => by
          rcases h with h | h | h
          · exact h0 h
          · exact h h1
          · exact h h2
        have hg := gcd_pos' (n := n) h0
        have hgl := gcd_le n d
        rw [if_neg hc, decide_eq_true h1, decide_eq_true h2, Bool.not_true, cond_false, cond_false, impl_common _ _ (by omega) (by omega), Option.bind_some]
        by_cases h3 : d < 0
        · have b1 := tdiv_bd (-n) (Int.gcd n d)
          have b2 := tdiv_bd (-d) (Int.gcd n d)
          have z1 : IntKind.i64.wrap (0 - ((Int.gcd n d : Nat) : Int)) = -((Int.gcd n d : Nat) : Int) := by rw [w64' (by omega) (by omega)]; omega
          rw [decide_eq_true h3, cond_true, z1, grd_pos (by omega), grd_pos (by omega), Int.tdiv_neg, Int.tdiv_neg, ← Int.neg_tdiv, ← Int.neg_tdiv, w64' (n := (-n).tdiv _) (by omega) (by omega), w64' (n := (-d).tdiv _) (by omega) (by omega), impl_validRat, Option.bind_some]
          simp only [if_pos h3]
          cases validQ ((-n).tdiv (Int.gcd n d : Nat)) ((-d).tdiv (Int.gcd n d : Nat)) <;> rfl
        · have b1 := tdiv_bd n (Int.gcd n d)
          have b2 := tdiv_bd d (Int.gcd n d)
          rw [decide_eq_false h3, cond_false, grd_pos (by omega), grd_pos (by omega), w64' (n := n.tdiv _) (by omega) (by omega), w64' (n := d.tdiv _) (by omega) (by omega), impl_validRat, Option.bind_some]
          simp only [if_neg h3]
          cases validQ (n.tdiv (Int.gcd n d : Nat)) (d.tdiv (Int.gcd n d : Nat)) <;> rfl
      · rw [if_pos (.inr (.inr h2)), decide_eq_true h1, decide_eq_false h2]
        rfl
    · rw [if_pos (.inr (.inl h1)), decide_eq_false h1]
      rfl
def addQ (a b c d : Int) : Int × Int × Bool := if validQ a b = true ∧ validQ c d = true then ratOf (a * d + c * b) (b * d) else (0, 0, false)
def mulQ (a b c d : Int) : Int × Int × Bool := if validQ a b = true ∧ validQ c d = true then ratOf (a * c) (b * d) else (0, 0, false)
theorem prodBd {a b c d : Int} (v1 : validQ a b = true) (v2 : validQ c d = true) : (-1000000000000000000 ≤ a * d ∧ a * d ≤ 1000000000000000000) ∧ (-1000000000000000000 ≤ c * b ∧ c * b ≤ 1000000000000000000) ∧ (-1000000000000000000 ≤ b * d ∧ b * d ≤ 1000000000000000000) ∧ (-1000000000000000000 ≤ a * c ∧ a * c ≤ 1000000000000000000) ∧ (-1000000000000000000 ≤ b * c ∧ b * c ≤ 1000000000000000000) := by
  have h1 := validQ_bd v1
  have h2 := validQ_bd v2
  exact ⟨mul_bd (by omega) (by omega), mul_bd (by omega) (by omega), mul_bd (by omega) (by omega), mul_bd (by omega) (by omega), mul_bd (by omega) (by omega)⟩
theorem spec_add (a b c d : Int) : m_spec_AddRat a b c d = some (addQ a b c d) := by
  unfold m_spec_AddRat addQ
  rw [spec_validRat, spec_validRat]
  cases h1 : validQ a b with
  | false => rfl
  | true =>
    cases h2 : validQ c d with
    | false => rfl
    | true =>
      obtain ⟨b1, b2, b3, _⟩ := prodBd h1 h2
      simp only [Option.bind_some, Bool.not_true, cond_false, and_self, if_true]
      rw [w64' (n := a * d) (by omega) (by omega), w64' (n := c * b) (by omega) (by omega), w64' (by omega) (by omega), w64' (by omega) (by omega), spec_ratOf]
      rfl
theorem impl_add (a b c d : Int) : m_impl_AddRat a b c d = some (addQ a b c d) := by
  rw [← spec_add]
  unfold m_impl_AddRat m_spec_AddRat
  rw [spec_validRat, spec_validRat, impl_validRat, impl_validRat, spec_ratOf, impl_ratOf]
theorem impl_has (s k : Nat) (hs : s < 32) (hk : k < 5) : m_impl_HasPlayer (s : Int) (k : Int) = some (s.testBit k) := by
  unfold m_impl_HasPlayer
  rw [decide_eq_true (by omega), cond_true, within_eq, decide_eq_true (by omega), Option.bind_some, cond_true, grd_pos (by omega), and_eq s k hs hk]
  cases s.testBit k <;> rfl
theorem mul_eq' (a b c d : Int) : m_spec_MulRat a b c d = some (mulQ a b c d) := by
  unfold m_spec_MulRat mulQ
  rw [spec_validRat, spec_validRat]
  cases h1 : validQ a b with
  | false => rfl
  | true =>
    cases h2 : validQ c d with
    | false => rfl
    | true =>
      obtain ⟨_, _, b3, b4, _⟩ := prodBd h1 h2
      simp only [Option.bind_some, Bool.not_true, cond_false, and_self, if_true]
      rw [w64' (by omega) (by omega), w64' (by omega) (by omega), spec_ratOf]
      rfl
theorem impl_mul (a b c d : Int) : m_impl_MulRat a b c d = some (mulQ a b c d) := by
  rw [← mul_eq']
  unfold m_impl_MulRat m_spec_MulRat
  rw [spec_validRat, spec_validRat, impl_validRat, impl_validRat, spec_ratOf, impl_ratOf]
def dotFrom : List Q → List Q → Int → Int → (Int × Int) ⊕ (Int × Int × Bool)
  | p :: xs, q :: ys, a, b => match mulQ p.num p.den q.num q.den with
    | (c, d, o1) => match addQ a b c d with
      | (e, f, o2) => bif o1 && o2 then dotFrom xs ys e f else .inr (0, 0, false)
  | _, _, a, b => .inl (a, b)
def dotQ (x y : List Q) : Int × Int × Bool := if x.length = y.length then (match dotFrom x y 0 1 with
    | .inl (a, b) => (a, b, true)
    | .inr r => r) else (0, 0, false)
theorem dotFrom_inr : ∀ (x y : List Q) (a b : Int) (r : Int × Int × Bool), dotFrom x y a b = .inr r → r = (0, 0, false)
  | [], _, a, b, r, h => by cases h
  | _ :: _, [], a, b, r, h => by cases h
  | p :: xs, q :: ys, a, b, r, h => by
    unfold dotFrom at h
    rcases hm : mulQ p.num p.den q.num q.den with ⟨c, d, o1⟩
    rw [hm] at h
    dsimp only at h
    rcases ha : addQ a b c d with ⟨e, f, o2⟩
    rw [ha] at h
    dsimp only at h
    cases ho : (o1 && o2) with
    | true =>
      rw [ho, cond_true] at h
      exact dotFrom_inr xs ys e f r h
    | false =>
      rw [ho, cond_false] at h
      injection h with h
      exact h.symm
theorem dotQ_false {x y : List Q} (h : (dotQ x y).2.2 = false) : dotQ x y = (0, 0, false) := by
  unfold dotQ at h ⊢
  split
  · rename_i hl
    rw [if_pos hl] at h
    rcases hd : dotFrom x y 0 1 with ⟨a, b⟩ | r
    · rw [hd] at h; cases h
    · exact dotFrom_inr x y 0 1 r hd
  · rfl
theorem dot_loop (x y : List Q) (hl : x.length = y.length) (hb : x.length ≤ 1048576) : ∀ (k i : Nat) (a b : Int), x.length - i = k → i ≤ x.length → iter (l_spec_DotRat_0 x y) ((i : Int), a, b) = some (dotFrom (x.drop i) (y.drop i) a b) := by
  intro k
  induction k with
  | zero =>
    intro i a b h1 h2
    have hnil : x.drop i = [] := List.drop_eq_nil_of_le (by omega)
    rw [hnil]
    refine iter_done ?_
    unfold l_spec_DotRat_0
    dsimp only
    rw [decide_eq_false (by omega)]
    rfl
  | succ k ih =>
    intro i a b h1 h2
    have hi : i < x.length := by omega
    have hj : i < y.length := by omega
    have hx : x.getD i ⟨0, 0⟩ = x[i] := by simp [List.getD, List.getElem?_eq_getElem hi]
    have hy : y.getD i ⟨0, 0⟩ = y[i] := by simp [List.getD, List.getElem?_eq_getElem hj]
    rw [List.drop_eq_getElem_cons hi, List.drop_eq_getElem_cons hj]
    unfold dotFrom
    rcases hm : mulQ x[i].num x[i].den y[i].num y[i].den with ⟨c, d, o1⟩
    dsimp only
    rcases ha : addQ a b c d with ⟨e, f, o2⟩
    dsimp only
    have hs : l_spec_DotRat_0 x y ((i : Int), a, b) = bif o1 && o2 then some (.inl (((i + 1 : Nat) : Int), e, f)) else some (.inr (.inr (0, 0, false))) := by
      unfold l_spec_DotRat_0
      dsimp only
      rw [decide_eq_true (by omega), cond_true, grd_pos (by omega), grd_pos (by omega), getD_nat, getD_nat, hx, hy, mul_eq', hm, Option.bind_some]
      dsimp only
      rw [spec_add, ha, Option.bind_some]
      dsimp only
      rw [w64' (by omega) (by omega)]
      cases o1 <;> cases o2 <;> rfl
    cases ho : (o1 && o2) with
    | true =>
      rw [ho, cond_true] at hs
      rw [iter_next hs, cond_true]
      exact ih (i + 1) e f (by omega) (by omega)
    | false =>
      rw [ho, cond_false] at hs
      rw [iter_done hs, cond_false]
theorem spec_dot (x y : List Q) (hb : x.length ≤ 1048576) : m_spec_DotRat x y = some (dotQ x y) := by
  unfold m_spec_DotRat m_spec_l3Int dotQ
  by_cases hl : x.length = y.length
  · have e : ((x.length : Int) != (y.length : Int)) = false := by simp [hl]
    have h := dot_loop x y hl hb _ 0 0 1 rfl (by omega)
    rw [List.drop_zero, List.drop_zero] at h
    simp only [Int.natCast_zero] at h
    rw [e, cond_false, Option.bind_some]
    dsimp only
    rw [h, if_pos hl]
    rcases dotFrom x y 0 1 with ⟨a, b⟩ | r <;> rfl
  · have e : ((x.length : Int) != (y.length : Int)) = true := by
      rw [bne_iff_ne]
      omega
    rw [e, if_neg hl]
    rfl
theorem dot_step (x y : List Q) : l_impl_DotRat_0 x y = l_spec_DotRat_0 x y := by
  funext ⟨v3, v4, v5⟩
  unfold l_impl_DotRat_0 l_spec_DotRat_0
  simp only [impl_add, spec_add, impl_mul, mul_eq']
theorem impl_dot (x y : List Q) (hb : x.length ≤ 1048576) : m_impl_DotRat x y = some (dotQ x y) := by
  rw [← spec_dot x y hb]
  unfold m_impl_DotRat m_spec_DotRat m_impl_whole m_spec_l3Int
  rw [dot_step]
def ratsOf (l : List Int) : List Q := tab (fun i => ⟨l.getD i 0, 1⟩) l.length
theorem ratsOf_length (l : List Int) : (ratsOf l).length = l.length := tab_length _ _
theorem spec_itr (l : List Int) (hl : l.length ≤ 1048576) (hok : ∀ i, i < l.length → -1000000000 ≤ l.getD i 0 ∧ l.getD i 0 ≤ 1000000000) : m_spec_IntsToRats l = some (true, ratsOf l) := by
  unfold m_spec_IntsToRats
  have hit := iter_up (step := l_spec_IntsToRats_0 l) (fun i => ((i : Int), tab (fun i => (⟨l.getD i 0, 1⟩ : Q)) i)) l.length (a := .inl (ratsOf l)) (fun i hi => by
      unfold l_spec_IntsToRats_0 m_spec_l3Int
      dsimp only
      rw [decide_eq_true (by omega), cond_true, grd_pos (by omega), getD_nat, in_eq, decide_eq_true (hok i hi), Option.bind_some, Bool.not_true, cond_false, grd_pos (by omega), Option.bind_some]
      dsimp only
      rw [grd_pos (by simp only [tab_length, List.length_singleton, room]; omega), w64' (by omega) (by omega), tab_succ]
      rfl)
    (by unfold l_spec_IntsToRats_0; dsimp only; rw [decide_eq_false (by omega)]; rfl)
  have e0 : tab (fun i => (⟨l.getD i 0, 1⟩ : Q)) 0 = [] := rfl
  simp only [Int.natCast_zero, e0] at hit
  rw [hit]
  rfl
theorem impl_itr (l : List Int) (hl : l.length ≤ 1048576) (hok : ∀ i, i < l.length → -1000000000 ≤ l.getD i 0 ∧ l.getD i 0 ≤ 1000000000) : m_impl_IntsToRats l = some (true, ratsOf l) := by
  unfold m_impl_IntsToRats
  have hit := iter_up (step := l_impl_IntsToRats_0 l) (fun i => ((i : Int), tab (fun i => (⟨l.getD i 0, 1⟩ : Q)) i)) l.length (a := .inl (ratsOf l)) (fun i hi => by
      unfold l_impl_IntsToRats_0 m_impl_whole
      dsimp only
      rw [decide_eq_true (by omega), cond_true, grd_pos (by omega), getD_nat, within_eq, decide_eq_true (hok i hi), Option.bind_some, Bool.not_true, cond_false, Option.bind_some]
      dsimp only
      rw [grd_pos (by simp only [tab_length, List.length_singleton, room]; omega), w64' (by omega) (by omega), tab_succ]
      rfl)
    (by unfold l_impl_IntsToRats_0; dsimp only; rw [decide_eq_false (by omega)]; rfl)
  have e0 : tab (fun i => (⟨l.getD i 0, 1⟩ : Q)) 0 = [] := rfl
  simp only [Int.natCast_zero, e0] at hit
  rw [hit]
  rfl
theorem impl_rats (l : List Int) (hl : l.length ≤ 1048576) (hok : ∀ i, i < l.length → -1000000000 ≤ l.getD i 0 ∧ l.getD i 0 ≤ 1000000000) : m_impl_rats l = some (ratsOf l) := by
  unfold m_impl_rats
  rw [impl_itr l hl hok]
  rfl
theorem spec_l5dot (l : List Int) (v : List Q) (hl : l.length ≤ 1048576) (hok : ∀ i, i < l.length → -1000000000 ≤ l.getD i 0 ∧ l.getD i 0 ≤ 1000000000) : m_spec_l5Dot l v = some (dotQ (ratsOf l) v) := by
  unfold m_spec_l5Dot
  rw [spec_itr l hl hok, Option.bind_some]
  dsimp only
  rw [spec_dot _ _ (by rw [ratsOf_length]; exact hl), Option.bind_some]
  have hf := dotQ_false (x := ratsOf l) (y := v)
  rcases hq : dotQ (ratsOf l) v with ⟨a, b, c⟩
  rw [hq] at hf
  cases c with
  | true => rfl
  | false => rw [hf rfl]; rfl
def nnB (l : List Q) : Bool := (List.range l.length).all fun i => validQ (l.getD i ⟨0, 0⟩).num (l.getD i ⟨0, 0⟩).den && decide (0 ≤ (l.getD i ⟨0, 0⟩).num)
theorem find_all (n : Nat) (p : Nat → Bool) : (List.range n).find? (fun i => !p i) = none ↔ (List.range n).all p = true := by
  rw [List.find?_eq_none, List.all_eq_true]
  constructor
  · intro h i hi
    have := h i hi
    simpa using this
  · intro h i hi
    have := h i hi
    simpa using this
theorem spec_nn (l : List Q) (hl : l.length ≤ 1048576) : m_spec_l5NotNegative l = some (nnB l) := by
  unfold m_spec_l5NotNegative
  have hit := iter_findc (step := l_spec_l5NotNegative_0 l) (fun i => (i : Int)) l.length (fun i => !(validQ (l.getD i ⟨0, 0⟩).num (l.getD i ⟨0, 0⟩).den && decide (0 ≤ (l.getD i ⟨0, 0⟩).num))) (.inl ()) (fun _ => .inr false)
    (fun i hi => by
      have hg : (0 : Int) ≤ (i : Int) ∧ (i : Int) < (l.length : Int) := by omega
      unfold l_spec_l5NotNegative_0
      rw [decide_eq_true (by omega), cond_true, getD_nat, spec_validRat, w64' (by omega) (by omega)]
      simp only [grd_pos hg, Option.bind_some]
      cases validQ (l.getD i ⟨0, 0⟩).num (l.getD i ⟨0, 0⟩).den with
      | false => rfl
      | true =>
        by_cases h0 : (l.getD i ⟨0, 0⟩).num < 0
        · rw [decide_eq_true h0, decide_eq_false (by omega)]
          rfl
        · rw [decide_eq_false h0, decide_eq_true (by omega)]
          rfl)
    (by unfold l_spec_l5NotNegative_0; rw [decide_eq_false (by omega)]; rfl)
  simp only [Int.natCast_zero] at hit
  rw [hit]
  have hf := find_all l.length (fun i => validQ (l.getD i ⟨0, 0⟩).num (l.getD i ⟨0, 0⟩).den && decide (0 ≤ (l.getD i ⟨0, 0⟩).num))
  unfold nnB
  cases hfd : (List.range l.length).find? (fun i => !(validQ (l.getD i ⟨0, 0⟩).num (l.getD i ⟨0, 0⟩).den && decide (0 ≤ (l.getD i ⟨0, 0⟩).num))) with
  | none => rw [hf.1 hfd]; rfl
  | some i =>
    cases hall : (List.range l.length).all (fun i => validQ (l.getD i ⟨0, 0⟩).num (l.getD i ⟨0, 0⟩).den && decide (0 ≤ (l.getD i ⟨0, 0⟩).num)) with
    | false => rfl
    | true => rw [hf.2 hall] at hfd; cases hfd
theorem impl_nn1 (l : List Q) (hl : l.length ≤ 1048576) : m_slices_ContainsFunc_impl_Rat_impl_Rat_impl_notNegative_1 l = some (!nnB l) := by
  unfold m_slices_ContainsFunc_impl_Rat_impl_Rat_impl_notNegative_1 m_slices_IndexFunc_impl_Rat_impl_Rat_impl_notNegative_1
  have hit := iter_findc (step := l_slices_IndexFunc_impl_Rat_impl_Rat_impl_notNegative_1_0 l) (fun i => (i : Int)) l.length (fun i => !(validQ (l.getD i ⟨0, 0⟩).num (l.getD i ⟨0, 0⟩).den && decide (0 ≤ (l.getD i ⟨0, 0⟩).num))) (.inl ()) (fun i => .inr (i : Int))
    (fun i hi => by
      have hg : (0 : Int) ≤ (i : Int) ∧ (i : Int) < (l.length : Int) := by omega
      unfold l_slices_IndexFunc_impl_Rat_impl_Rat_impl_notNegative_1_0 m_impl_notNegative_1
      rw [decide_eq_true (by omega), cond_true, getD_nat, impl_validRat, w64' (by omega) (by omega)]
      simp only [grd_pos hg, Option.bind_some]
      cases validQ (l.getD i ⟨0, 0⟩).num (l.getD i ⟨0, 0⟩).den with
      | false => rfl
      | true =>
        by_cases h0 : (l.getD i ⟨0, 0⟩).num < 0
        · rw [decide_eq_true h0, decide_eq_false (by omega)]
          rfl
        · rw [decide_eq_false h0, decide_eq_true (by omega)]
          rfl)
    (by unfold l_slices_IndexFunc_impl_Rat_impl_Rat_impl_notNegative_1_0; rw [decide_eq_false (by omega)]; rfl)
  simp only [Int.natCast_zero] at hit
  rw [hit]
  have hf := find_all l.length (fun i => validQ (l.getD i ⟨0, 0⟩).num (l.getD i ⟨0, 0⟩).den && decide (0 ≤ (l.getD i ⟨0, 0⟩).num))
  unfold nnB
  cases hfd : (List.range l.length).find? (fun i => !(validQ (l.getD i ⟨0, 0⟩).num (l.getD i ⟨0, 0⟩).den && decide (0 ≤ (l.getD i ⟨0, 0⟩).num))) with
  | none => rw [hf.1 hfd]; rfl
  | some i =>
    cases hall : (List.range l.length).all (fun i => validQ (l.getD i ⟨0, 0⟩).num (l.getD i ⟨0, 0⟩).den && decide (0 ≤ (l.getD i ⟨0, 0⟩).num)) with
    | false =>
      simp only [Option.bind_some]
      rw [decide_eq_true (by omega)]
      rfl
    | true => rw [hf.2 hall] at hfd; cases hfd
def rowK (m k : Nat) : List Int := tab (fun i => if (i + 1).testBit k = true then 1 else 0) m
theorem rowK_length (m k : Nat) : (rowK m k).length = m := tab_length _ _
theorem rowK_ok (m k i : Nat) (hi : i < (rowK m k).length) : -1000000000 ≤ (rowK m k).getD i 0 ∧ (rowK m k).getD i 0 ≤ 1000000000 := by
  rw [rowK_length] at hi
  unfold rowK
  rw [tab_getD _ _ _ _ hi]
  split <;> omega
theorem impl_coals (m : Nat) (hm : m ≤ 31) : m_impl_coalitions 1 (m : Int) = some (tab (fun i => ((i + 1 : Nat) : Int)) m) := by
  unfold m_impl_coalitions
  have hit := iter_up (step := l_impl_coalitions_0 (m : Int)) (fun i => (((i + 1 : Nat) : Int), tab (fun i => ((i + 1 : Nat) : Int)) i)) m (a := tab (fun i => ((i + 1 : Nat) : Int)) m) (fun i hi => by
      unfold l_impl_coalitions_0
      dsimp only
      rw [decide_eq_true (by omega), cond_true, grd_pos (by simp only [tab_length, List.length_singleton, room]; omega), w64' (by omega) (by omega), tab_succ]
      rfl)
    (by unfold l_impl_coalitions_0; dsimp only; rw [decide_eq_false (by omega)]; rfl)
  have e0 : tab (fun i => ((i + 1 : Nat) : Int)) 0 = [] := rfl
  simp only [e0, Nat.zero_add, Int.natCast_one] at hit
  rw [hit]
  rfl
theorem impl_memrows (N m : Nat) (hN : N ≤ 5) (hm : m ≤ 31) : m_impl_members (N : Int) (tab (fun i => ((i + 1 : Nat) : Int)) m) = some (tab (rowK m) N) := by
  unfold m_impl_members
  have inner : ∀ k, k < N → iter (l_impl_members_1 (tab (fun i => ((i + 1 : Nat) : Int)) m) (k : Int)) ((0 : Int), []) = some (rowK m k) := by
    intro k hk
    have hit := iter_up (step := l_impl_members_1 (tab (fun i => ((i + 1 : Nat) : Int)) m) (k : Int)) (fun i => ((i : Int), rowK i k)) m (a := rowK m k) (fun i hi => by
        unfold l_impl_members_1
        dsimp only
        rw [tab_length, decide_eq_true (by omega), cond_true, grd_pos (by omega), getD_nat, tab_getD _ _ _ _ hi, impl_has (i + 1) k (by omega) (by omega), Option.bind_some, grd_pos (by simp only [rowK_length, List.length_singleton, room]; omega), grd_pos (by simp only [rowK_length, List.length_singleton, room]; omega), w64' (by omega) (by omega)]
        unfold rowK
        rw [tab_succ]
        cases (i + 1).testBit k <;> simp)
      (by unfold l_impl_members_1; dsimp only; rw [tab_length, decide_eq_false (by omega)]; rfl)
    have e0 : rowK 0 k = [] := rfl
    simpa only [Int.natCast_zero, e0] using hit
  have hit := iter_up (step := l_impl_members_0 (N : Int) (tab (fun i => ((i + 1 : Nat) : Int)) m)) (fun k => ((k : Int), tab (rowK m) k)) N (a := tab (rowK m) N) (fun k hk => by
      unfold l_impl_members_0
      dsimp only
      rw [decide_eq_true (by omega), cond_true, inner k hk, Option.bind_some, grd_pos (by simp only [tab_length, List.length_singleton, room]; omega), w64' (by omega) (by omega), tab_succ]
      rfl)
    (by unfold l_impl_members_0; dsimp only; rw [decide_eq_false (by omega)]; rfl)
  have e0 : tab (rowK m) 0 = [] := rfl
  simp only [Int.natCast_zero, e0] at hit
  rw [hit]
  rfl
def balP (m : Nat) (w : List Q) (k : Nat) : Bool := !decide (dotQ (ratsOf (rowK m k)) w = (1, 1, true))
theorem dot_one {α : Type} (r : Int × Int × Bool) (x y : α) : (bif !r.2.2 then x else bif !(r.1 == 1 && r.2.1 == 1) then x else y) = bif !decide (r = (1, 1, true)) then x else y := by
  obtain ⟨a, b, c⟩ := r
  cases c with
  | false => simp
  | true =>
    by_cases h : a = 1 ∧ b = 1
    · simp [h.1, h.2]
    · have h1 : (a == 1 && b == 1) = false := by
        rw [← Bool.not_eq_true]
        simpa using h
      have h2 : ¬ ((a, b, true) = ((1 : Int), (1 : Int), true)) := fun e => h (by simpa using e)
      rw [decide_eq_false h2]
      simp [h1]
theorem bal_both (n : Int) (w : List Q) (hw : w.length ≤ 1048576) : ∃ r, m_spec_IsBalancedCollection n w = some r ∧ m_impl_IsBalancedCollection n w = some r := by
  unfold m_spec_IsBalancedCollection m_impl_IsBalancedCollection
  rw [in_eq, within_eq]
  by_cases hn : 1 ≤ n ∧ n ≤ 5
  · obtain ⟨N, rfl⟩ := Int.eq_ofNat_of_zero_le (show 0 ≤ n by omega)
    have h32 := pow_le32 (N := N) (by omega)
    have hpos : 0 < 2 ^ N := Nat.pow_pos (by decide)
    have hc : (2 : Int) ^ N = ((2 ^ N : Nat) : Int) := by simp
    rw [decide_eq_true hn, Option.bind_some, Option.bind_some, Bool.not_true, cond_false, cond_false, count0 N (by omega), impl_count N (by omega), Option.bind_some, Option.bind_some, hc, w64' (by omega) (by omega)]
    unfold m_impl_notNegative
    by_cases hlen : w.length = 2 ^ N - 1
    · have e1 : ((w.length : Int) != ((2 ^ N : Nat) : Int) - 1) = false := by
        rw [bne_eq_false_iff_eq]
        omega
      have e2 : ((w.length : Int) == ((2 ^ N : Nat) : Int) - 1) = true := by
        rw [beq_iff_eq]
        omega
      rw [e1, e2, cond_false, cond_true, spec_nn w hw, impl_nn1 w hw]
      simp only [Option.bind_some, Bool.not_not]
      cases nnB w with
      | false => exact ⟨false, rfl, rfl⟩
      | true =>
        have hm : ((2 ^ N : Nat) : Int) - 1 = ((w.length : Nat) : Int) := by omega
        simp only [Bool.not_true, cond_false]
        rw [hm, w64' (n := (w.length : Int)) (by omega) (by omega), impl_coals w.length (by omega), Option.bind_some, impl_memrows N w.length (by omega) (by omega), Option.bind_some]
        have s1 := iter_findc (step := l_spec_IsBalancedCollection_0 (N : Int) w) (fun k => (k : Int)) N (balP w.length w) (.inl ()) (fun _ => .inr false)
          (fun k hk => by
            have inner := iter_up (step := l_spec_IsBalancedCollection_1 w (k : Int)) (fun i => (((i + 1 : Nat) : Int), rowK i k)) w.length (a := rowK w.length k) (fun i hi => by
                unfold l_spec_IsBalancedCollection_1 m_spec_l1Bit
                dsimp only
                rw [decide_eq_true (by omega), cond_true, spec_has (i + 1) k (by omega) (by omega), Option.bind_some, w64' (by omega) (by omega)]
                unfold rowK
                rw [tab_succ]
                cases (i + 1).testBit k <;> simp [tab_length, room] <;> rw [grd_pos (by omega)])
              (by unfold l_spec_IsBalancedCollection_1; dsimp only; rw [decide_eq_false (by omega)]; rfl)
            have e0 : rowK 0 k = [] := rfl
            simp only [e0, Nat.zero_add, Int.natCast_one] at inner
            unfold l_spec_IsBalancedCollection_0 m_spec_l3Int
            rw [decide_eq_true (by omega), cond_true, inner, Option.bind_some]
            dsimp only
            rw [spec_l5dot _ _ (by rw [rowK_length]; exact hw) (fun i hi => rowK_ok _ _ i hi), Option.bind_some, w64' (by omega) (by omega)]
            have := dot_one (dotQ (ratsOf (rowK w.length k)) w) (some (.inr (.inr false)) : Option (Int ⊕ (Unit ⊕ Bool))) (some (.inl ((k : Int) + 1)))
            simp only [Option.bind_some]
            refine this.trans ?_
            unfold balP
            cases decide (dotQ (ratsOf (rowK w.length k)) w = (1, 1, true)) <;> rfl)
          (by unfold l_spec_IsBalancedCollection_0; rw [decide_eq_false (by omega)]; rfl)
        have s2 := iter_findc (step := l_impl_IsBalancedCollection_0 w (tab (rowK w.length) N)) (fun k => (k : Int)) N (balP w.length w) (.inl ()) (fun _ => .inr false)
          (fun k hk => by
            unfold l_impl_IsBalancedCollection_0 m_impl_whole
            rw [tab_length, decide_eq_true (by omega), cond_true, grd_pos (by omega), getD_nat, tab_getD _ _ _ _ hk, impl_rats _ (by rw [rowK_length]; exact hw) (fun i hi => rowK_ok _ _ i hi), Option.bind_some, impl_dot _ _ (by rw [ratsOf_length, rowK_length]; exact hw), Option.bind_some, w64' (by omega) (by omega)]
            have := dot_one (dotQ (ratsOf (rowK w.length k)) w) (some (.inr (.inr false)) : Option (Int ⊕ (Unit ⊕ Bool))) (some (.inl ((k : Int) + 1)))
            simp only [Option.bind_some]
            refine this.trans ?_
            unfold balP
            cases decide (dotQ (ratsOf (rowK w.length k)) w = (1, 1, true)) <;> rfl)
          (by unfold l_impl_IsBalancedCollection_0; rw [tab_length, decide_eq_false (by omega)]; rfl)
        simp only [Int.natCast_zero] at s1 s2
        rw [s1, s2]
        cases (List.range N).find? (balP w.length w) with
        | none => exact ⟨_, rfl, rfl⟩
        | some _ => exact ⟨_, rfl, rfl⟩
    · have e1 : ((w.length : Int) != ((2 ^ N : Nat) : Int) - 1) = true := by
        rw [bne_iff_ne]
        omega
      have e2 : ((w.length : Int) == ((2 ^ N : Nat) : Int) - 1) = false := by
        rw [beq_eq_false_iff_ne]
        omega
      rw [e1, e2]
      exact ⟨false, rfl, rfl⟩
  · rw [decide_eq_false hn]
    exact ⟨false, rfl, rfl⟩
theorem law_FnExactIsBalancedCollection (n : Int) (w : List Q) (_ : I64 n) (hw : w.length ≤ maxLen ∧ ∀ q ∈ w, I64 q.num ∧ I64 q.den) : m_laws_FnExactIsBalancedCollection n w = some true := by
  unfold m_laws_FnExactIsBalancedCollection
  rw [sz_rats w _ (by decide) (by decide) hw.1]
  by_cases h : (1048576 : Int) < w.length
  · simp [h]
  · have h0 : ¬ (1048576 : Int) - (w.length : Int) < 0 := by omega
    have hl : w.length ≤ 1048576 := by omega
    obtain ⟨r, h1, h2⟩ := bal_both n w hl
    simp [h, h0, to_rats w hl, h1, h2, eq_rats w w hl]
end Go.Proofs.Ytdobcjgdhgfedaa
