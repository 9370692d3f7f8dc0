/- The plain laws: what the models of FnExactLeavingRow compute. No condition beyond those that each theorem names. -/
import Derived.Test.YtoefgmmmcpikfaaGELeavingRow
import Derived.Test.YtoefgmmmcpikfaaAmC
namespace Go.Proofs.Ytoefgmmmcpikfaa
open Go.AM
theorem sz_ints (l : List Int) (k : Int) (h1 : 0 ≤ k) (h2 : k ≤ 1048576) (hl : l.length ≤ maxLen) : m_laws_szIntS l k = some (if k < l.length then -1 else k - l.length) := by
  have hl' : (l.length : Int) ≤ 9223372036854775807 := by simp only [maxLen] at hl; omega
  have hw : IntKind.i64.wrap (k - (l.length : Int)) = k - l.length := w64' (by omega) (by omega)
  unfold m_laws_szIntS
  rw [hw]
  by_cases h : k < l.length
  · have : k - (l.length : Int) < 0 := by omega
    simp [h, this]
  · have : ¬ k - (l.length : Int) < 0 := by omega
    simp [h, this]
theorem to_ints (l : List Int) (hl : l.length ≤ 1048576) : m_laws_toIntS l = some l := by
  unfold m_laws_toIntS
  rw [grd_pos ⟨by omega, rfl, by simp only [room]; omega⟩]
  have h := iter_up (step := l_laws_toIntS_0 l) (fun i => ((i : Int), l.take i ++ List.replicate (l.length - i) 0)) l.length (a := l) (fun i hi => ?_) ?_
  · simp only [List.take_zero, List.nil_append, Nat.sub_zero, Int.ofNat_eq_natCast] at h
    simp only [Int.toNat_natCast]
    rw [show ((0 : Int), List.replicate l.length (0 : Int)) = (((0 : Nat) : Int), List.replicate l.length (0 : Int)) from rfl, h]
    rfl
  · have hi' : (i : Int) < l.length := by omega
    have hlen : ((l.take i ++ List.replicate (l.length - i) (0 : Int)).length : Int) = l.length := by simp; omega
    simp only [l_laws_toIntS_0, hi', decide_true, cond_true]
    rw [grd_pos ⟨by omega, trivial⟩, grd_pos ⟨by omega, by rw [hlen]; exact hi'⟩]
    rw [w64' (by omega) (by omega), Int.toNat_natCast, set_copy l 0 0 i hi]
    rfl
  · simp [l_laws_toIntS_0]
theorem eq_ints (a b : List Int) (ha : a.length ≤ 1048576) (hb : b.length ≤ 1048576) : m_laws_eqIntS a b = some (decide (a = b)) := by
  unfold m_laws_eqIntS
  by_cases hl : a.length = b.length
  · have e : ((a.length : Int) != (b.length : Int)) = false := by simp [hl]
    have hit := iter_all (step := l_laws_eqIntS_0 a b) (fun i => (i : Int)) a.length (fun i => a.getD i 0 == b.getD i 0) (a := .inl ()) (b := .inr false)
      (fun i hi hp => by
        have hi' : (i : Int) < a.length := by omega
        have hi2 : (i : Int) < b.length := by omega
        unfold l_laws_eqIntS_0
        rw [decide_eq_true hi', cond_true, grd_pos ⟨by omega, hi'⟩, grd_pos ⟨by omega, hi2⟩]
        simp only [beq_iff_eq] at hp
        rw [Int.toNat_natCast, hp, w64' (by omega) (by omega), bne_self_eq_false, cond_false]
        rfl)
      (fun i hi hp => by
        have hi' : (i : Int) < a.length := by omega
        have hi2 : (i : Int) < b.length := by omega
        unfold l_laws_eqIntS_0
        rw [decide_eq_true hi', cond_true, grd_pos ⟨by omega, hi'⟩, grd_pos ⟨by omega, hi2⟩]
        rw [Int.toNat_natCast]
        have : (a.getD i 0 != b.getD i 0) = true := by
          simp only [bne, hp, Bool.not_false]
        rw [this]
        rfl)
      (by
        unfold l_laws_eqIntS_0
        rw [decide_eq_false (by omega)]
        rfl)
    rw [e, cond_false]
    simp only [Int.ofNat_eq_natCast, Int.natCast_zero] at hit
    rw [hit]
    by_cases hall : ∀ i, i < a.length → (a.getD i 0 == b.getD i 0) = true
    · have : a = b := eq_of_all 0 hl fun i hi => by simpa using hall i hi
      rw [if_pos hall]
      simp [this]
    · have : ¬ a = b := fun e => hall fun i hi => by rw [e]; simp
      rw [if_neg hall]
      simp [this]
  · have e : ((a.length : Int) != (b.length : Int)) = true := by
      simp only [bne_iff_ne, ne_eq]
      omega
    rw [e]
    have : ¬ a = b := fun e => hl (by rw [e])
    simp [this]
theorem in_eq (a b c : Int) : m_spec_l1In a b c = some (decide (b ≤ a ∧ a ≤ c)) := by
  unfold m_spec_l1In
  by_cases h : a ≥ b
  · have h' : b ≤ a := h
    simp [h, h']
  · have h' : ¬ b ≤ a := h
    simp [h, h']
theorem within_eq (a b c : Int) : m_impl_within a b c = some (decide (b ≤ a ∧ a ≤ c)) := in_eq a b c
theorem iter_find {S A : Type} {step : S → Option (S ⊕ A)} (st : Nat → S) (n : Nat) (p : Nat → Bool) (a : A) (b : Nat → A)
    (hs : ∀ i, i < n → step (st i) = some (if p i = true then .inr (b i) else .inl (st (i + 1)))) (hd : step (st n) = some (.inr a)) :
    iter step (st 0) = some (match (List.range n).find? p with
      | some i => b i
      | none => a) := by
  have key : ∀ k, k ≤ n → iter step (st (n - k)) = some (match (List.range' (n - k) k).find? p with
      | some i => b i
      | none => a) := by
    intro k
    induction k with
    | zero => intro _; simpa using iter_done hd
    | succ k ih =>
      intro hk
      have h1 := hs (n - (k + 1)) (by omega)
      rw [List.range'_succ, List.find?_cons]
      cases hp : p (n - (k + 1)) with
      | true =>
        rw [if_pos hp] at h1
        exact iter_done h1
      | false =>
        rw [if_neg (by simp [hp])] at h1
        rw [iter_next h1, show n - (k + 1) + 1 = n - k by omega]
        exact ih (by omega)
  have := key n (Nat.le_refl _)
  rw [Nat.sub_self, ← List.range_eq_range'] at this
  exact this
theorem getD_nat {α : Type} (l : List α) (i : Nat) (d : α) : l.getD (i : Int).toNat d = l.getD i d := by rw [Int.toNat_natCast]
def validQ (a b : Int) : Bool := decide (1 ≤ b ∧ b ≤ 1000000000 ∧ -1000000000 ≤ a ∧ a ≤ 1000000000 ∧ Int.gcd a b = 1)
theorem gcd_loop (m n : Nat) : iter l_spec_l3Gcd_0 ((m : Int), (n : Int)) = some ((Nat.gcd m n : Nat) : Int) := by
  induction n using Nat.strongRecOn generalizing m with
  | _ n ih =>
    by_cases h : n = 0
    · subst h
      rw [iter_done (a := (m : Int))]
      · simp
      · simp [l_spec_l3Gcd_0]
    · have hs : l_spec_l3Gcd_0 ((m : Int), (n : Int)) = some (.inl ((n : Int), ((m % n : Nat) : Int))) := by
        unfold l_spec_l3Gcd_0
        dsimp only
        rw [decide_eq_true (by omega), cond_true, grd_pos (by omega)]
        rfl
      rw [iter_next hs, ih (m % n) (Nat.mod_lt _ (by omega)) n, Nat.gcd_comm n (m % n), ← Nat.gcd_rec n m, Nat.gcd_comm n m]
theorem spec_gcd (a b : Int) (ha : -9223372036854775807 ≤ a ∧ a ≤ 9223372036854775807) (hb : -9223372036854775807 ≤ b ∧ b ≤ 9223372036854775807) : m_spec_l3Gcd a b = some ((Int.gcd a b : Nat) : Int) := by
  unfold m_spec_l3Gcd
  have e1 : l_spec_l3Gcd_1 = l_spec_l3Gcd_0 := rfl
  have e2 : l_spec_l3Gcd_2 = l_spec_l3Gcd_0 := rfl
  have e3 : l_spec_l3Gcd_3 = l_spec_l3Gcd_0 := rfl
  rw [e1, e2, e3]
  have ea : (if a < 0 then IntKind.i64.wrap (0 - a) else a) = (a.natAbs : Int) := by
    by_cases h : a < 0
    · rw [if_pos h, w64' (by omega) (by omega)]; omega
    · rw [if_neg h]; omega
  have eb : (if b < 0 then IntKind.i64.wrap (0 - b) else b) = (b.natAbs : Int) := by
    by_cases h : b < 0
    · rw [if_pos h, w64' (by omega) (by omega)]; omega
    · rw [if_neg h]; omega
  have key := gcd_loop a.natAbs b.natAbs
  rw [← ea, ← eb] at key
  have hg : Nat.gcd a.natAbs b.natAbs = Int.gcd a b := rfl
  rw [hg] at key
  by_cases h1 : a < 0 <;> by_cases h2 : b < 0 <;> simp only [h1, h2, if_true, if_false, decide_true, decide_false, cond_true, cond_false] at key ⊢ <;> rw [key] <;> rfl
theorem common_loop : ∀ (N : Nat) (a b : Int), b.natAbs ≤ N → ∃ x, iter l_impl_common_0 (a, b) = some x ∧ x.natAbs = Int.gcd a b := by
  intro N
  induction N with
  | zero =>
    intro a b h
    have hb : b = 0 := by omega
    subst hb
    exact ⟨a, iter_done (by simp [l_impl_common_0]), by simp⟩
  | succ N ih =>
    intro a b h
    by_cases hb : b = 0
    · subst hb
      exact ⟨a, iter_done (by simp [l_impl_common_0]), by simp⟩
    · have hs : l_impl_common_0 (a, b) = some (.inl (b, a.tmod b)) := by
        unfold l_impl_common_0
        have : (b != 0) = true := by simpa using hb
        dsimp only
        rw [this, cond_true, grd_pos hb]
      have hlt : (a.tmod b).natAbs < b.natAbs := by
        rw [Int.natAbs_tmod]
        exact Nat.mod_lt _ (by omega)
      obtain ⟨x, h1, h2⟩ := ih b (a.tmod b) (by omega)
      refine ⟨x, by rw [iter_next hs, h1], ?_⟩
      rw [h2]
      show Nat.gcd b.natAbs (a.tmod b).natAbs = Nat.gcd a.natAbs b.natAbs
      rw [Int.natAbs_tmod, Nat.gcd_comm b.natAbs, ← Nat.gcd_rec, Nat.gcd_comm]
theorem gcd_le (a b : Int) : Int.gcd a b ≤ a.natAbs ∨ Int.gcd a b ≤ b.natAbs := by
  by_cases hb : b = 0
  · subst hb; left; simp
  · right
    exact Nat.le_of_dvd (by omega) (Int.gcd_dvd_natAbs_right a b)
theorem impl_common (a b : Int) (ha : -9223372036854775807 ≤ a ∧ a ≤ 9223372036854775807) (hb : -9223372036854775807 ≤ b ∧ b ≤ 9223372036854775807) : m_impl_common a b = some ((Int.gcd a b : Nat) : Int) := by
  unfold m_impl_common
  obtain ⟨x, h1, h2⟩ := common_loop _ a b (Nat.le_refl _)
  have h3 := gcd_le a b
  rw [h1, Option.bind_some]
  dsimp only
  rw [w64' (by omega) (by omega)]
  congr 1
  split <;> omega
theorem spec_validRat (a b : Int) : m_spec_IsValidRat a b = some (validQ a b) := by
  unfold m_spec_IsValidRat
  rw [in_eq, Option.bind_some]
  by_cases hb : 1 ≤ b ∧ b ≤ 1000000000
  · rw [decide_eq_true hb, cond_true, in_eq, Option.bind_some]
    by_cases ha : -1000000000 ≤ a ∧ a ≤ 1000000000
    · rw [decide_eq_true ha, cond_true, spec_gcd a b (by omega) (by omega), Option.bind_some]
      congr 1
      by_cases hg : Int.gcd a b = 1
      · simp [validQ, hg, ha, hb]
      · have : ¬ ((Int.gcd a b : Nat) : Int) = 1 := by omega
        simp [validQ, hg, this]
    · rw [decide_eq_false ha, cond_false]
      have : ¬ (1 ≤ b ∧ b ≤ 1000000000 ∧ -1000000000 ≤ a ∧ a ≤ 1000000000 ∧ Int.gcd a b = 1) := fun h => ha ⟨h.2.2.1, h.2.2.2.1⟩
      rw [validQ, decide_eq_false this]
  · rw [decide_eq_false hb, cond_false]
    have : ¬ (1 ≤ b ∧ b ≤ 1000000000 ∧ -1000000000 ≤ a ∧ a ≤ 1000000000 ∧ Int.gcd a b = 1) := fun h => hb ⟨h.1, h.2.1⟩
    rw [validQ, decide_eq_false this]
theorem impl_validRat (a b : Int) : m_impl_IsValidRat a b = some (validQ a b) := by
  rw [← spec_validRat]
  unfold m_impl_IsValidRat m_spec_IsValidRat
  rw [in_eq, within_eq, Option.bind_some, Option.bind_some]
  by_cases hb : 1 ≤ b ∧ b ≤ 1000000000
  · rw [decide_eq_true hb, cond_true, cond_true, in_eq, within_eq, Option.bind_some, Option.bind_some]
    by_cases ha : -1000000000 ≤ a ∧ a ≤ 1000000000
    · rw [decide_eq_true ha, cond_true, cond_true, spec_gcd a b (by omega) (by omega), impl_common a b (by omega) (by omega)]
    · rw [decide_eq_false ha]
      rfl
  · rw [decide_eq_false hb]
    rfl
theorem validQ_bd {a b : Int} (h : validQ a b = true) : 1 ≤ b ∧ b ≤ 1000000000 ∧ -1000000000 ≤ a ∧ a ≤ 1000000000 ∧ Int.gcd a b = 1 := by simpa [validQ] using h
theorem cmp_eq (a b c d : Int) : m_impl_CompareRat a b c d = m_spec_CompareRat a b c d := by
  unfold m_impl_CompareRat m_spec_CompareRat
  rw [spec_validRat, spec_validRat, impl_validRat, impl_validRat]
theorem mul_bd {x y : Int} (hx : -1000000000 ≤ x ∧ x ≤ 1000000000) (hy : -1000000000 ≤ y ∧ y ≤ 1000000000) : -1000000000000000000 ≤ x * y ∧ x * y ≤ 1000000000000000000 := by
  have h1 : (x * y).natAbs ≤ 1000000000 * 1000000000 := by
    rw [Int.natAbs_mul]
    exact Nat.mul_le_mul (by omega) (by omega)
  omega
def cmpQ (a b c d : Int) : Int := if validQ a b = true ∧ validQ c d = true then (if a * d < c * b then -1 else if a * d > c * b then 1 else 0) else 0
theorem spec_cmp (a b c d : Int) : m_spec_CompareRat a b c d = some (cmpQ a b c d) := by
  unfold m_spec_CompareRat cmpQ
  rw [spec_validRat, spec_validRat]
  cases h1 : validQ a b with
  | false => simp
  | true =>
    cases h2 : validQ c d with
    | false => simp
    | true =>
      have v1 := validQ_bd h1
      have v2 := validQ_bd h2
      have b1 := mul_bd (x := a) (y := d) (by omega) (by omega)
      have b2 := mul_bd (x := c) (y := b) (by omega) (by omega)
      rw [w64' (by omega) (by omega), w64' (by omega) (by omega)]
      by_cases h3 : a * d < c * b
      · simp [h3]
      · by_cases h4 : c * b < a * d
        · simp [h3, h4]
        · simp [h3, h4]
theorem impl_cmp (a b c d : Int) : m_impl_CompareRat a b c d = some (cmpQ a b c d) := by rw [cmp_eq, spec_cmp]
instance : DecidableEq Q := fun a b =>
  if h1 : a.num = b.num then
    if h2 : a.den = b.den then isTrue (by cases a; cases b; simp only at h1 h2; rw [h1, h2])
    else isFalse (fun h => h2 (by rw [h]))
  else isFalse (fun h => h1 (by rw [h]))
theorem Q_ext {a b : Q} : a = b ↔ a.num = b.num ∧ a.den = b.den := ⟨fun h => by rw [h]; exact ⟨rfl, rfl⟩, fun h => by cases a; cases b; simp only at h; rw [h.1, h.2]⟩
theorem sz_rats (l : List Q) (k : Int) (h1 : 0 ≤ k) (h2 : k ≤ 1048576) (hl : l.length ≤ maxLen) : m_laws_szRatS l k = some (if k < l.length then -1 else k - l.length) := by
  have hl' : (l.length : Int) ≤ 9223372036854775807 := by simp only [maxLen] at hl; omega
  have hw : IntKind.i64.wrap (k - (l.length : Int)) = k - l.length := w64' (by omega) (by omega)
  unfold m_laws_szRatS
  rw [hw]
  by_cases h : k < l.length
  · have : k - (l.length : Int) < 0 := by omega
    simp [h, this]
  · have : ¬ k - (l.length : Int) < 0 := by omega
    simp [h, this]
theorem to_rats (l : List Q) (hl : l.length ≤ 1048576) : m_laws_toRatS l = some l := by
  unfold m_laws_toRatS
  rw [grd_pos ⟨by omega, rfl, by simp only [room]; omega⟩]
  have h := iter_up (step := l_laws_toRatS_0 l) (fun i => ((i : Int), l.take i ++ List.replicate (l.length - i) (⟨0, 0⟩ : Q))) l.length (a := l) (fun i hi => ?_) ?_
  · simp only [List.take_zero, List.nil_append, Nat.sub_zero, Int.ofNat_eq_natCast] at h
    simp only [Int.toNat_natCast]
    rw [show ((0 : Int), List.replicate l.length (⟨0, 0⟩ : Q)) = (((0 : Nat) : Int), List.replicate l.length (⟨0, 0⟩ : Q)) from rfl, h]
    rfl
  · have hi' : (i : Int) < l.length := by omega
    have hlen : ((l.take i ++ List.replicate (l.length - i) (⟨0, 0⟩ : Q)).length : Int) = l.length := by simp; omega
    simp only [l_laws_toRatS_0, m_laws_toRat, Option.bind_some, hi', decide_true, cond_true]
    rw [grd_pos ⟨by omega, trivial⟩, grd_pos ⟨by omega, by rw [hlen]; exact hi'⟩]
    have e : (⟨(l.getD (i : Int).toNat ⟨0, 0⟩).num, (l.getD (i : Int).toNat ⟨0, 0⟩).den⟩ : Q) = l.getD i ⟨0, 0⟩ := by rw [Int.toNat_natCast]
    rw [w64' (by omega) (by omega), e, Int.toNat_natCast, set_copy l ⟨0, 0⟩ ⟨0, 0⟩ i hi]
    rfl
  · simp [l_laws_toRatS_0]
theorem eq_find {α : Type} [DecidableEq α] (d : α) (a b : List α) (hl : a.length = b.length) : (match (List.range a.length).find? (fun i => !decide (a.getD i d = b.getD i d)) with
      | some _ => (.inr false : Unit ⊕ Bool)
      | none => .inl ()) = if a = b then .inl () else .inr false := by
  cases h : (List.range a.length).find? (fun i => !decide (a.getD i d = b.getD i d)) with
  | none =>
    rw [List.find?_eq_none] at h
    rw [if_pos (eq_of_all d hl fun i hi => by simpa using h i (List.mem_range.2 hi))]
  | some i =>
    have h1 := List.find?_some h
    simp only [Bool.not_eq_true', decide_eq_false_iff_not] at h1
    rw [if_neg fun e => h1 (by rw [e])]
theorem eq_rat (a b c d : Int) : m_laws_eqRat a b c d = some (decide (a = c ∧ b = d)) := by
  unfold m_laws_eqRat
  by_cases h1 : a = c
  · by_cases h2 : b = d
    · simp [h1, h2]
    · have e : (b != d) = true := by simpa using h2
      simp [h1, h2, e]
  · have e : (a != c) = true := by simpa using h1
    simp [h1, e]
theorem eq_rats (a b : List Q) (ha : a.length ≤ 1048576) : m_laws_eqRatS a b = some (decide (a = b)) := by
  unfold m_laws_eqRatS
  by_cases hl : a.length = b.length
  · have e : ((a.length : Int) != (b.length : Int)) = false := by simp [hl]
    have hit := iter_find (step := l_laws_eqRatS_0 a b) (fun i => (i : Int)) a.length (fun i => !decide (a.getD i ⟨0, 0⟩ = b.getD i ⟨0, 0⟩)) (.inl ()) (fun _ => .inr false)
      (fun i hi => by
        unfold l_laws_eqRatS_0
        rw [decide_eq_true (by omega), cond_true, grd_pos ⟨by omega, by omega⟩, grd_pos ⟨by omega, by omega⟩, getD_nat, getD_nat, eq_rat, Option.bind_some, w64' (by omega) (by omega)]
        by_cases hq : a.getD i ⟨0, 0⟩ = b.getD i ⟨0, 0⟩
        · rw [decide_eq_true (Q_ext.1 hq), decide_eq_true hq]
          rfl
        · rw [decide_eq_false fun h => hq (Q_ext.2 h), decide_eq_false hq]
          rfl)
      (by
        unfold l_laws_eqRatS_0
        rw [decide_eq_false (by omega)]
        rfl)
    rw [eq_find _ a b hl] at hit
    simp only [Int.natCast_zero] at hit
    rw [e, cond_false, hit]
    by_cases hab : a = b
    · simp [hab]
    · simp [hab]
  · have e : ((a.length : Int) != (b.length : Int)) = true := by
      simp only [bne_iff_ne, ne_eq]
      omega
    have : ¬ a = b := fun e => hl (by rw [e])
    rw [e]
    simp [this]
theorem iter_findc {S A : Type} {step : S → Option (S ⊕ A)} (st : Nat → S) (n : Nat) (p : Nat → Bool) (a : A) (b : Nat → A)
    (hs : ∀ i, i < n → step (st i) = some (bif p i then .inr (b i) else .inl (st (i + 1)))) (hd : step (st n) = some (.inr a)) :
    iter step (st 0) = some (match (List.range n).find? p with
      | some i => b i
      | none => a) := iter_find st n p a b (fun i hi => by rw [hs i hi]; cases p i <;> rfl) hd
def ratOf (n d : Int) : Int × Int × Bool :=
  if d = 0 ∨ ¬ (-1000000000000000000 ≤ n ∧ n ≤ 1000000000000000000) ∨ ¬ (-1000000000000000000 ≤ d ∧ d ≤ 1000000000000000000) then (0, 0, false)
  else if validQ ((if d < 0 then -n else n).tdiv (Int.gcd n d : Nat)) ((if d < 0 then -d else d).tdiv (Int.gcd n d : Nat)) = true then ((if d < 0 then -n else n).tdiv (Int.gcd n d : Nat), (if d < 0 then -d else d).tdiv (Int.gcd n d : Nat), true) else (0, 0, false)
theorem tdiv_bd (n : Int) (g : Nat) : -(n.natAbs : Int) ≤ n.tdiv g ∧ n.tdiv g ≤ n.natAbs := by
  have h : (n.tdiv g).natAbs ≤ n.natAbs := by
    rw [Int.natAbs_tdiv]
    exact Nat.div_le_self _ _
  omega
theorem gcd_pos' {n d : Int} (h : d ≠ 0) : 0 < Int.gcd n d := Int.gcd_pos_of_ne_zero_right n h
theorem spec_ratOf (n d : Int) : m_spec_RatOf n d = some (ratOf n d) := by
  unfold m_spec_RatOf ratOf
  by_cases h0 : d = 0
  · simp [h0]
  · have e0 : (d == 0) = false := by simpa using h0
    rw [e0, cond_false, in_eq, in_eq, Option.bind_some, Option.bind_some]
    by_cases h1 : -1000000000000000000 ≤ n ∧ n ≤ 1000000000000000000
    · by_cases h2 : -1000000000000000000 ≤ d ∧ d ≤ 1000000000000000000
      · have hc : ¬ (d = 0 ∨ ¬ (-1000000000000000000 ≤ n ∧ n ≤ 1000000000000000000) ∨ ¬ (-1000000000000000000 ≤ d ∧ d ≤ 1000000000000000000)) := fun h => by
          rcases h with h | h | h
          · exact h0 h
          · exact h h1
          · exact h h2
        have hg := gcd_pos' (n := n) h0
        rw [if_neg hc, decide_eq_true h1, decide_eq_true h2, Bool.not_true, cond_false, cond_false]
        by_cases h3 : d < 0
        · have b1 := tdiv_bd (-n) (Int.gcd n d)
          have b2 := tdiv_bd (-d) (Int.gcd n d)
          have z1 : IntKind.i64.wrap (0 - n) = -n := by rw [w64' (by omega) (by omega)]; omega
          have z2 : IntKind.i64.wrap (0 - d) = -d := by rw [w64' (by omega) (by omega)]; omega
          rw [decide_eq_true h3, cond_true, z1, z2, spec_gcd _ _ (by omega) (by omega), Int.neg_gcd, Int.gcd_neg, Option.bind_some, grd_pos (by omega), grd_pos (by omega), w64' (n := (-n).tdiv _) (by omega) (by omega), w64' (n := (-d).tdiv _) (by omega) (by omega), spec_validRat, Option.bind_some]
          simp only [if_pos h3]
          cases validQ ((-n).tdiv (Int.gcd n d : Nat)) ((-d).tdiv (Int.gcd n d : Nat)) <;> rfl
        · have b1 := tdiv_bd n (Int.gcd n d)
          have b2 := tdiv_bd d (Int.gcd n d)
          rw [decide_eq_false h3, cond_false, spec_gcd _ _ (by omega) (by omega), Option.bind_some, grd_pos (by omega), grd_pos (by omega), w64' (n := n.tdiv _) (by omega) (by omega), w64' (n := d.tdiv _) (by omega) (by omega), spec_validRat, Option.bind_some]
          simp only [if_neg h3]
          cases validQ (n.tdiv (Int.gcd n d : Nat)) (d.tdiv (Int.gcd n d : Nat)) <;> rfl
      · rw [if_pos (.inr (.inr h2)), decide_eq_true h1, decide_eq_false h2]
        rfl
    · rw [if_pos (.inr (.inl h1)), decide_eq_false h1]
      rfl
theorem impl_ratOf (n d : Int) : m_impl_RatOf n d = some (ratOf n d) := by
  unfold m_impl_RatOf ratOf
  by_cases h0 : d = 0
  · simp [h0]
  · have e0 : (d == 0) = false := by simpa using h0
    rw [e0, cond_false, within_eq, within_eq, Option.bind_some, Option.bind_some]
    by_cases h1 : -1000000000000000000 ≤ n ∧ n ≤ 1000000000000000000
    · by_cases h2 : -1000000000000000000 ≤ d ∧ d ≤ 1000000000000000000
      · have hc : ¬ (d = 0 ∨ ¬ (-1000000000000000000 ≤ n ∧ n ≤ 1000000000000000000) ∨ ¬ (-1000000000000000000 ≤ d ∧ d ≤ 1000000000000000000)) := fun h => by
          rcases h with h | h | h
          · exact h0 h
          · exact h h1
          · exact h h2
        have hg := gcd_pos' (n := n) h0
        have hgl := gcd_le n d
        rw [if_neg hc, decide_eq_true h1, decide_eq_true h2, Bool.not_true, cond_false, cond_false, impl_common _ _ (by omega) (by omega), Option.bind_some]
        by_cases h3 : d < 0
        · have b1 := tdiv_bd (-n) (Int.gcd n d)
          have b2 := tdiv_bd (-d) (Int.gcd n d)
          have z1 : IntKind.i64.wrap (0 - ((Int.gcd n d : Nat) : Int)) = -((Int.gcd n d : Nat) : Int) := by rw [w64' (by omega) (by omega)]; omega
          rw [decide_eq_true h3, cond_true, z1, grd_pos (by omega), grd_pos (by omega), Int.tdiv_neg, Int.tdiv_neg, ← Int.neg_tdiv, ← Int.neg_tdiv, w64' (n := (-n).tdiv _) (by omega) (by omega), w64' (n := (-d).tdiv _) (by omega) (by omega), impl_validRat, Option.bind_some]
          simp only [if_pos h3]
          cases validQ ((-n).tdiv (Int.gcd n d : Nat)) ((-d).tdiv (Int.gcd n d : Nat)) <;> rfl
        · have b1 := tdiv_bd n (Int.gcd n d)
          have b2 := tdiv_bd d (Int.gcd n d)
          rw [decide_eq_false h3, cond_false, grd_pos (by omega), grd_pos (by omega), w64' (n := n.tdiv _) (by omega) (by omega), w64' (n := d.tdiv _) (by omega) (by omega), impl_validRat, Option.bind_some]
          simp only [if_neg h3]
          cases validQ (n.tdiv (Int.gcd n d : Nat)) (d.tdiv (Int.gcd n d : Nat)) <;> rfl
      · rw [if_pos (.inr (.inr h2)), decide_eq_true h1, decide_eq_false h2]
        rfl
    · rw [if_pos (.inr (.inl h1)), decide_eq_false h1]
      rfl
def divQ (a b c d : Int) : Int × Int × Bool := if validQ a b = true ∧ validQ c d = true then ratOf (a * d) (b * c) else (0, 0, false)
theorem prodBd {a b c d : Int} (v1 : validQ a b = true) (v2 : validQ c d = true) : (-1000000000000000000 ≤ a * d ∧ a * d ≤ 1000000000000000000) ∧ (-1000000000000000000 ≤ c * b ∧ c * b ≤ 1000000000000000000) ∧ (-1000000000000000000 ≤ b * d ∧ b * d ≤ 1000000000000000000) ∧ (-1000000000000000000 ≤ a * c ∧ a * c ≤ 1000000000000000000) ∧ (-1000000000000000000 ≤ b * c ∧ b * c ≤ 1000000000000000000) := by
  have h1 := validQ_bd v1
  have h2 := validQ_bd v2
  exact ⟨mul_bd (by omega) (by omega), mul_bd (by omega) (by omega), mul_bd (by omega) (by omega), mul_bd (by omega) (by omega), mul_bd (by omega) (by omega)⟩
theorem find_all (n : Nat) (p : Nat → Bool) : (List.range n).find? (fun i => !p i) = none ↔ (List.range n).all p = true := by
  rw [List.find?_eq_none, List.all_eq_true]
  constructor
  · intro h i hi
    have := h i hi
    simpa using this
  · intro h i hi
    have := h i hi
    simpa using this
theorem div_eq' (a b c d : Int) : m_spec_DivRat a b c d = some (divQ a b c d) := by
  unfold m_spec_DivRat divQ
  rw [spec_validRat, spec_validRat]
  cases h1 : validQ a b with
  | false => rfl
  | true =>
    cases h2 : validQ c d with
    | false => rfl
    | true =>
      obtain ⟨b1, _, _, _, b5⟩ := prodBd h1 h2
      simp only [Option.bind_some, Bool.not_true, cond_false, and_self, if_true]
      rw [w64' (by omega) (by omega), w64' (by omega) (by omega), spec_ratOf]
      rfl
theorem impl_div (a b c d : Int) : m_impl_DivRat a b c d = some (divQ a b c d) := by
  rw [← div_eq']
  unfold m_impl_DivRat m_spec_DivRat
  rw [spec_validRat, spec_validRat, impl_validRat, impl_validRat, spec_ratOf, impl_ratOf]
theorem sz_ratss (a : List (List Q)) (k : Int) (h1 : 0 ≤ k) (h2 : k ≤ 1048576) (hl : a.length ≤ maxLen) (hr : ∀ r ∈ a, r.length ≤ maxLen) : ∃ v, m_laws_szRatSS a k = some v ∧ (v < 0 ∨ (0 ≤ v ∧ v ≤ k ∧ (a.length : Int) ≤ k ∧ ∀ i, i < a.length → ((a.getD i []).length : Int) ≤ k)) := by
  have hl' : (a.length : Int) ≤ 9223372036854775807 := by simp only [maxLen] at hl; omega
  unfold m_laws_szRatSS
  rw [w64' (by omega) (by omega)]
  by_cases h : k - (a.length : Int) < 0
  · rw [decide_eq_true h, cond_true]
    exact ⟨-1, rfl, .inl (by omega)⟩
  · rw [decide_eq_false h, cond_false]
    have key : ∀ (m i : Nat) (v : Int), a.length - i = m → i ≤ a.length → 0 ≤ v → v ≤ k → ∃ o, iter (l_laws_szRatSS_0 a) (v, (i : Int)) = some o ∧ ((∃ w, o = .inr w ∧ w < 0) ∨ ∃ w, o = .inl w ∧ 0 ≤ w ∧ w ≤ v ∧ ∀ j, i ≤ j → j < a.length → ((a.getD j []).length : Int) ≤ k) := by
      intro m
      induction m with
      | zero =>
        intro i v h3 h4 h5 h6
        refine ⟨.inl v, iter_done ?_, .inr ⟨v, rfl, h5, by omega, fun j hj hj2 => by omega⟩⟩
        unfold l_laws_szRatSS_0
        dsimp only
        rw [decide_eq_false (by omega)]
        rfl
      | succ m ih =>
        intro i v h3 h4 h5 h6
        have hi : i < a.length := by omega
        have hd : a.getD i [] = a[i] := by simp [List.getD, List.getElem?_eq_getElem hi]
        have hri := hr a[i] (List.getElem_mem hi)
        have hst : l_laws_szRatSS_0 a (v, (i : Int)) = if v < (a[i].length : Int) then some (.inr (.inr (-1))) else some (.inl (v - a[i].length, ((i + 1 : Nat) : Int))) := by
          unfold l_laws_szRatSS_0
          dsimp only
          rw [decide_eq_true (by omega), cond_true, grd_pos (by omega), getD_nat, hd, sz_rats a[i] v h5 (by omega) hri, Option.bind_some, w64' (by omega) (by omega)]
          by_cases h7 : v < (a[i].length : Int)
          · rw [if_pos h7, if_pos h7]
            rfl
          · rw [if_neg h7, if_neg h7, decide_eq_false (by omega)]
            rfl
        by_cases h7 : v < (a[i].length : Int)
        · rw [if_pos h7] at hst
          exact ⟨_, iter_done hst, .inl ⟨-1, rfl, by omega⟩⟩
        · rw [if_neg h7] at hst
          rw [iter_next hst]
          obtain ⟨o, e1, e2⟩ := ih (i + 1) (v - a[i].length) (by omega) (by omega) (by omega) (by omega)
          refine ⟨o, e1, ?_⟩
          rcases e2 with e2 | ⟨w, e3, e4, e5, e6⟩
          · exact .inl e2
          · refine .inr ⟨w, e3, e4, by omega, fun j hj hj2 => ?_⟩
            by_cases e : j = i
            · subst e; rw [hd]; omega
            · exact e6 j (by omega) hj2
    obtain ⟨o, e1, e2⟩ := key _ 0 (k - a.length) rfl (by omega) (by omega) (by omega)
    simp only [Int.natCast_zero] at e1
    rw [e1]
    rcases e2 with ⟨w, rfl, hw⟩ | ⟨w, rfl, hw1, hw2, hw3⟩
    · exact ⟨w, rfl, .inl hw⟩
    · exact ⟨w, rfl, .inr ⟨hw1, by omega, by omega, fun i hi => hw3 i (by omega) hi⟩⟩
theorem to_ratss (a : List (List Q)) (hl : a.length ≤ 1048576) (hr : ∀ i, i < a.length → (a.getD i []).length ≤ 1048576) : m_laws_toRatSS a = some a := by
  unfold m_laws_toRatSS
  rw [grd_pos ⟨by omega, rfl, by simp only [room]; omega⟩]
  have h := iter_up (step := l_laws_toRatSS_0 a) (fun i => ((i : Int), a.take i ++ List.replicate (a.length - i) ([] : List Q))) a.length (a := a) (fun i hi => ?_) ?_
  · simp only [List.take_zero, List.nil_append, Nat.sub_zero, Int.natCast_zero] at h
    simp only [Int.toNat_natCast]
    rw [h]
    rfl
  · have hlen : ((a.take i ++ List.replicate (a.length - i) ([] : List Q)).length : Int) = a.length := by simp; omega
    unfold l_laws_toRatSS_0
    dsimp only
    rw [decide_eq_true (by omega), cond_true, grd_pos (by omega), getD_nat, to_rats _ (hr i hi), Option.bind_some, grd_pos (by rw [hlen]; omega), w64' (by omega) (by omega), Int.toNat_natCast, set_copy a [] [] i hi]
    rfl
  · simp [l_laws_toRatSS_0]
theorem eq_ratss (a b : List (List Q)) (hl : a.length ≤ 1048576) (hr : ∀ i, i < a.length → (a.getD i []).length ≤ 1048576) : m_laws_eqRatSS a b = some (decide (a = b)) := by
  unfold m_laws_eqRatSS
  by_cases hlen : a.length = b.length
  · have e : ((a.length : Int) != (b.length : Int)) = false := by simp [hlen]
    have hit := iter_findc (step := l_laws_eqRatSS_0 a b) (fun i => (i : Int)) a.length (fun i => !decide (a.getD i [] = b.getD i [])) (.inl ()) (fun _ => .inr false)
      (fun i hi => by
        unfold l_laws_eqRatSS_0
        rw [decide_eq_true (by omega), cond_true, grd_pos (by omega), grd_pos (by omega), getD_nat, getD_nat, eq_rats _ _ (hr i hi), Option.bind_some, w64' (by omega) (by omega)]
        cases decide (a.getD i [] = b.getD i []) <;> rfl)
      (by
        unfold l_laws_eqRatSS_0
        rw [decide_eq_false (by omega)]
        rfl)
    rw [eq_find _ a b hlen] at hit
    simp only [Int.natCast_zero] at hit
    rw [e, cond_false, hit]
    by_cases hab : a = b
    · simp [hab]
    · simp [hab]
  · have e : ((a.length : Int) != (b.length : Int)) = true := by
      simp only [bne_iff_ne, ne_eq]
      omega
    have : ¬ a = b := fun e => hlen (by rw [e])
    rw [e]
    simp [this]
def rowOk (rows : List (List Q)) (cols : Int) (k : Nat) : Bool := ((rows.getD k []).length : Int) == cols + rows.length + 1
def basOk (rows : List (List Q)) (basis : List Int) (cols : Int) (k : Nat) : Bool := decide (0 ≤ basis.getD k 0 ∧ basis.getD k 0 ≤ cols + rows.length - 1)
def tabOk (rows : List (List Q)) (basis : List Int) (cols : Int) : Bool := decide (0 ≤ cols ∧ cols ≤ 1000) && (decide (basis.length = rows.length) && ((List.range rows.length).all (basOk rows basis cols) && (List.range rows.length).all (rowOk rows cols)))
theorem find_all2 (n : Nat) (p : Nat → Bool) : (match (List.range n).find? (fun i => !p i) with
      | some _ => (.inr false : Unit ⊕ Bool)
      | none => .inl ()) = if (List.range n).all p = true then .inl () else .inr false := by
  have hf := find_all n p
  cases hfd : (List.range n).find? (fun i => !p i) with
  | none => rw [if_pos (hf.1 hfd)]
  | some i =>
    by_cases hall : (List.range n).all p = true
    · rw [hf.2 hall] at hfd; cases hfd
    · rw [if_neg hall]
theorem spec_tabOk (rows : List (List Q)) (basis : List Int) (cols : Int) (hr : rows.length ≤ 1048576) (hb : basis.length ≤ 1048576) (hrl : ∀ i, i < rows.length → (rows.getD i []).length ≤ 1048576) : m_spec_l6Good rows basis cols = some (tabOk rows basis cols) := by
  unfold m_spec_l6Good tabOk
  by_cases h1 : cols < 0
  · rw [decide_eq_true h1, cond_true, decide_eq_false (p := 0 ≤ cols ∧ cols ≤ 1000) (by omega)]
    rfl
  · rw [decide_eq_false h1, cond_false]
    by_cases h2 : cols > 1000
    · rw [decide_eq_true h2, cond_true, decide_eq_false (p := 0 ≤ cols ∧ cols ≤ 1000) (by omega)]
      rfl
    · rw [decide_eq_false h2, cond_false, decide_eq_true (p := 0 ≤ cols ∧ cols ≤ 1000) (by omega)]
      by_cases h3 : basis.length = rows.length
      · have e : ((basis.length : Int) != (rows.length : Int)) = false := by simp [h3]
        rw [e, cond_false, decide_eq_true h3]
        have hit := iter_findc (step := l_spec_l6Good_0 rows basis cols) (fun k => (k : Int)) rows.length (fun k => !(rowOk rows cols k && basOk rows basis cols k)) (.inl ()) (fun _ => .inr false)
          (fun k hk => by
            unfold l_spec_l6Good_0
            rw [decide_eq_true (by omega), cond_true, grd_pos (by omega), getD_nat, getD_nat, w64' (n := cols + (rows.length : Int)) (by omega) (by omega), w64' (n := cols + (rows.length : Int) + 1) (by omega) (by omega), w64' (n := cols + (rows.length : Int) - 1) (by omega) (by omega), w64' (n := (k : Int) + 1) (by omega) (by omega), grd_pos (by omega), in_eq, Option.bind_some]
            unfold rowOk basOk
            have e2 : (((rows.getD k []).length : Int) != cols + (rows.length : Int) + 1) = !(((rows.getD k []).length : Int) == cols + (rows.length : Int) + 1) := rfl
            rw [e2]
            cases ((rows.getD k []).length : Int) == cols + (rows.length : Int) + 1 <;> cases decide (0 ≤ basis.getD k 0 ∧ basis.getD k 0 ≤ cols + (rows.length : Int) - 1) <;> rfl)
          (by unfold l_spec_l6Good_0; rw [decide_eq_false (by omega)]; rfl)
        simp only [Int.natCast_zero] at hit
        rw [find_all2] at hit
        rw [hit]
        have e3 : (List.range rows.length).all (fun k => rowOk rows cols k && basOk rows basis cols k) = ((List.range rows.length).all (basOk rows basis cols) && (List.range rows.length).all (rowOk rows cols)) := by
          rw [Bool.eq_iff_iff, Bool.and_eq_true, List.all_eq_true, List.all_eq_true, List.all_eq_true]
          constructor
          · intro h
            exact ⟨fun i hi => by have := h i hi; simp only [Bool.and_eq_true] at this; exact this.2, fun i hi => by have := h i hi; simp only [Bool.and_eq_true] at this; exact this.1⟩
          · rintro ⟨ha, hb⟩ i hi
            simp only [Bool.and_eq_true]
            exact ⟨hb i hi, ha i hi⟩
        rw [e3]
        cases ((List.range rows.length).all (basOk rows basis cols) && (List.range rows.length).all (rowOk rows cols)) <;> rfl
      · have e : ((basis.length : Int) != (rows.length : Int)) = true := by
          rw [bne_iff_ne]
          omega
        rw [e, cond_true, decide_eq_false h3]
        rfl
theorem impl_bas (rows : List (List Q)) (basis : List Int) (cols : Int) (hc : 0 ≤ cols ∧ cols ≤ 1000) (hr : rows.length ≤ 1048576) (h3 : basis.length = rows.length) : m_slices_ContainsFunc_int_int_impl_formed_1 basis rows basis cols (rows.length : Int) = some (!(List.range rows.length).all (basOk rows basis cols)) := by
  unfold m_slices_ContainsFunc_int_int_impl_formed_1 m_slices_IndexFunc_int_int_impl_formed_1
  have hit := iter_findc (step := l_slices_IndexFunc_int_int_impl_formed_1_0 basis rows basis cols (rows.length : Int)) (fun k => (k : Int)) rows.length (fun k => !basOk rows basis cols k) (.inl ()) (fun i => .inr (i : Int))
    (fun k hk => by
      unfold l_slices_IndexFunc_int_int_impl_formed_1_0 m_impl_formed_1
      rw [decide_eq_true (by omega), cond_true, grd_pos (by omega), getD_nat, w64' (n := cols + (rows.length : Int)) (by omega) (by omega), w64' (n := cols + (rows.length : Int) - 1) (by omega) (by omega), w64' (n := (k : Int) + 1) (by omega) (by omega), within_eq, Option.bind_some, Option.bind_some]
      unfold basOk
      cases decide (0 ≤ basis.getD k 0 ∧ basis.getD k 0 ≤ cols + (rows.length : Int) - 1) <;> rfl)
    (by unfold l_slices_IndexFunc_int_int_impl_formed_1_0; rw [decide_eq_false (by omega)]; rfl)
  simp only [Int.natCast_zero] at hit
  rw [hit]
  have hf := find_all rows.length (basOk rows basis cols)
  cases hfd : (List.range rows.length).find? (fun i => !basOk rows basis cols i) with
  | none => rw [hf.1 hfd]; rfl
  | some i =>
    cases hall : (List.range rows.length).all (basOk rows basis cols) with
    | false =>
      simp only [Option.bind_some]
      rw [decide_eq_true (by omega)]
      rfl
    | true => rw [hf.2 hall] at hfd; cases hfd
theorem impl_rowsOk (rows : List (List Q)) (basis : List Int) (cols : Int) (hc : 0 ≤ cols ∧ cols ≤ 1000) (hr : rows.length ≤ 1048576) : m_slices_ContainsFunc_impl_Rat_impl_Rat_impl_formed_2 rows rows basis cols (rows.length : Int) = some (!(List.range rows.length).all (rowOk rows cols)) := by
  unfold m_slices_ContainsFunc_impl_Rat_impl_Rat_impl_formed_2 m_slices_IndexFunc_impl_Rat_impl_Rat_impl_formed_2
  have hit := iter_findc (step := l_slices_IndexFunc_impl_Rat_impl_Rat_impl_formed_2_0 rows rows basis cols (rows.length : Int)) (fun k => (k : Int)) rows.length (fun k => !rowOk rows cols k) (.inl ()) (fun i => .inr (i : Int))
    (fun k hk => by
      unfold l_slices_IndexFunc_impl_Rat_impl_Rat_impl_formed_2_0 m_impl_formed_2
      rw [decide_eq_true (by omega), cond_true, grd_pos (by omega), getD_nat, w64' (n := cols + (rows.length : Int)) (by omega) (by omega), w64' (n := cols + (rows.length : Int) + 1) (by omega) (by omega), w64' (n := (k : Int) + 1) (by omega) (by omega), Option.bind_some]
      unfold rowOk
      have e2 : (((rows.getD k []).length : Int) != cols + (rows.length : Int) + 1) = !(((rows.getD k []).length : Int) == cols + (rows.length : Int) + 1) := rfl
      rw [e2]
      cases ((rows.getD k []).length : Int) == cols + (rows.length : Int) + 1 <;> rfl)
    (by unfold l_slices_IndexFunc_impl_Rat_impl_Rat_impl_formed_2_0; rw [decide_eq_false (by omega)]; rfl)
  simp only [Int.natCast_zero] at hit
  rw [hit]
  have hf := find_all rows.length (rowOk rows cols)
  cases hfd : (List.range rows.length).find? (fun i => !rowOk rows cols i) with
  | none => rw [hf.1 hfd]; rfl
  | some i =>
    cases hall : (List.range rows.length).all (rowOk rows cols) with
    | false =>
      simp only [Option.bind_some]
      rw [decide_eq_true (by omega)]
      rfl
    | true => rw [hf.2 hall] at hfd; cases hfd
theorem impl_tabOk (rows : List (List Q)) (basis : List Int) (cols : Int) (hr : rows.length ≤ 1048576) (hb : basis.length ≤ 1048576) : m_impl_formed rows basis cols = some (tabOk rows basis cols) := by
  unfold m_impl_formed tabOk
  rw [within_eq, Option.bind_some]
  by_cases hc : 0 ≤ cols ∧ cols ≤ 1000
  · rw [decide_eq_true hc, Bool.not_true, cond_false]
    by_cases h3 : basis.length = rows.length
    · have e : ((basis.length : Int) != (rows.length : Int)) = false := by simp [h3]
      rw [e, cond_false, impl_bas rows basis cols hc hr h3, impl_rowsOk rows basis cols hc hr, decide_eq_true h3]
      cases (List.range rows.length).all (basOk rows basis cols) <;> cases (List.range rows.length).all (rowOk rows cols) <;> rfl
    · have e : ((basis.length : Int) != (rows.length : Int)) = true := by
        rw [bne_iff_ne]
        omega
      rw [e, cond_true, decide_eq_false h3]
      rfl
  · rw [decide_eq_false hc]
    rfl
def cellQ (rows : List (List Q)) (k : Nat) (j : Int) : Q := (rows.getD k []).getD j.toNat ⟨0, 0⟩
def lvNext (rows : List (List Q)) (basis : List Int) (cols col : Int) (k : Nat) (st : Int × Int × Int) : Int × Int × Int :=
  if cmpQ (cellQ rows k col).num (cellQ rows k col).den 0 1 ≤ 0 then st else
    match divQ (cellQ rows k (cols + rows.length)).num (cellQ rows k (cols + rows.length)).den (cellQ rows k col).num (cellQ rows k col).den with
    | (a, b, o) => bif !o then st else
      if st.1 < 0 then ((k : Int), a, b) else if cmpQ a b st.2.1 st.2.2 < 0 then ((k : Int), a, b) else if cmpQ a b st.2.1 st.2.2 = 0 ∧ basis.getD k 0 < basis.getD st.1.toNat 0 then ((k : Int), a, b) else st
def lvSt (rows : List (List Q)) (basis : List Int) (cols col : Int) : Nat → Int × Int × Int
  | 0 => (-1, 0, 0)
  | k + 1 => lvNext rows basis cols col k (lvSt rows basis cols col k)
theorem lv_next_inv {rows : List (List Q)} {basis : List Int} {cols col : Int} {k : Nat} {st : Int × Int × Int} (h : st.1 < k) : (lvNext rows basis cols col k st).1 < ((k + 1 : Nat) : Int) := by
  unfold lvNext
  split
  · omega
  · rcases divQ (cellQ rows k (cols + rows.length)).num (cellQ rows k (cols + rows.length)).den (cellQ rows k col).num (cellQ rows k col).den with ⟨a, b, o⟩
    cases o
    · show st.1 < _
      omega
    · show (if st.1 < 0 then ((k : Int), a, b) else if cmpQ a b st.2.1 st.2.2 < 0 then ((k : Int), a, b) else if cmpQ a b st.2.1 st.2.2 = 0 ∧ basis.getD k 0 < basis.getD st.1.toNat 0 then ((k : Int), a, b) else st).1 < _
      split
      · show (k : Int) < _
        omega
      · split
        · show (k : Int) < _
          omega
        · split
          · show (k : Int) < _
            omega
          · omega
theorem lv_inv (rows : List (List Q)) (basis : List Int) (cols col : Int) : ∀ k, (lvSt rows basis cols col k).1 < (k : Int)
  | 0 => by show (-1 : Int) < _; omega
  | k + 1 => lv_next_inv (lv_inv rows basis cols col k)
theorem tabOk_parts {rows : List (List Q)} {basis : List Int} {cols : Int} (h : tabOk rows basis cols = true) : (0 ≤ cols ∧ cols ≤ 1000) ∧ basis.length = rows.length ∧ ∀ k, k < rows.length → ((rows.getD k []).length : Int) = cols + rows.length + 1 ∧ 0 ≤ basis.getD k 0 ∧ basis.getD k 0 ≤ cols + rows.length - 1 := by
  unfold tabOk at h
  simp only [Bool.and_eq_true] at h
  obtain ⟨h1, h2, h3, h4⟩ := h
  refine ⟨of_decide_eq_true h1, of_decide_eq_true h2, fun k hk => ?_⟩
  have a := List.all_eq_true.1 h4 k (List.mem_range.2 hk)
  have b := List.all_eq_true.1 h3 k (List.mem_range.2 hk)
  unfold rowOk at a
  unfold basOk at b
  have b := of_decide_eq_true b
  exact ⟨by simpa using a, b.1, b.2⟩
theorem spec_sign (a b : Int) : m_spec_l3Sign a b = some (cmpQ a b 0 1) := by
  unfold m_spec_l3Sign m_spec_l3Int
  rw [Option.bind_some]
  dsimp only
  rw [spec_cmp]
  rfl
theorem impl_sign (a b : Int) : m_impl_sign a b = some (cmpQ a b 0 1) := by
  unfold m_impl_sign m_impl_whole
  rw [Option.bind_some]
  dsimp only
  rw [impl_cmp]
  rfl
theorem spec_lvStep (rows : List (List Q)) (basis : List Int) (cols col : Int) (hr : rows.length ≤ 1048576) (ht : tabOk rows basis cols = true) (hcol : 0 ≤ col ∧ col ≤ cols + rows.length - 1) (k : Nat) (hk : k < rows.length) (b x y : Int) (hb : b < k) :
    l_spec_LeavingRow_0 rows basis cols col (b, (k : Int), x, y) = some (.inl ((lvNext rows basis cols col k (b, x, y)).1, ((k + 1 : Nat) : Int), (lvNext rows basis cols col k (b, x, y)).2.1, (lvNext rows basis cols col k (b, x, y)).2.2)) := by
  obtain ⟨hc, hbl, hrow⟩ := tabOk_parts ht
  obtain ⟨r1, _⟩ := hrow k hk
  unfold l_spec_LeavingRow_0
  dsimp only
  have g1 : (0 : Int) ≤ (k : Int) ∧ (k : Int) < (rows.length : Int) := by omega
  have g2 : (0 : Int) ≤ col ∧ col < ((rows.getD k []).length : Int) := by omega
  have g3 : (0 : Int) ≤ cols + (rows.length : Int) ∧ cols + (rows.length : Int) < ((rows.getD k []).length : Int) := by omega
  have g4 : (0 : Int) ≤ (k : Int) ∧ (k : Int) < (basis.length : Int) := by omega
  rw [decide_eq_true (by omega), cond_true, w64' (n := cols + (rows.length : Int)) (by omega) (by omega), w64' (n := (k : Int) + 1) (by omega) (by omega), getD_nat, getD_nat]
  simp only [grd_pos g1, grd_pos g2, grd_pos g3, grd_pos g4, div_eq', spec_sign, spec_cmp, Option.bind_some]
  show _ = some (Sum.inl ((lvNext rows basis cols col k (b, x, y)).1, ((k + 1 : Nat) : Int), (lvNext rows basis cols col k (b, x, y)).2.1, (lvNext rows basis cols col k (b, x, y)).2.2))
  unfold lvNext cellQ
  rcases divQ ((rows.getD k []).getD (cols + (rows.length : Int)).toNat ⟨0, 0⟩).num ((rows.getD k []).getD (cols + (rows.length : Int)).toNat ⟨0, 0⟩).den ((rows.getD k []).getD col.toNat ⟨0, 0⟩).num ((rows.getD k []).getD col.toNat ⟨0, 0⟩).den with ⟨p, q, o⟩
  dsimp only
  by_cases h1 : cmpQ ((rows.getD k []).getD col.toNat ⟨0, 0⟩).num ((rows.getD k []).getD col.toNat ⟨0, 0⟩).den 0 1 ≤ 0
  · rw [decide_eq_true h1, if_pos h1]
    rfl
  · rw [decide_eq_false h1, if_neg h1, cond_false]
    cases o with
    | false => rfl
    | true =>
      simp only [Bool.not_true, cond_false]
      by_cases h2 : b < 0
      · rw [decide_eq_true h2, if_pos h2]
        rfl
      · rw [decide_eq_false h2, if_neg h2, cond_false]
        by_cases h3 : cmpQ p q x y < 0
        · rw [decide_eq_true h3, if_pos h3]
          rfl
        · rw [decide_eq_false h3, if_neg h3, cond_false, grd_pos (by omega)]
          by_cases h4 : cmpQ p q x y = 0
          · have e4 : (cmpQ p q x y == 0) = true := by simpa using h4
            rw [e4, cond_true]
            by_cases h5 : basis.getD k 0 < basis.getD b.toNat 0
            · rw [decide_eq_true h5, if_pos ⟨h4, h5⟩]
              rfl
            · rw [decide_eq_false h5, if_neg fun h => h5 h.2]
              rfl
          · have e4 : (cmpQ p q x y == 0) = false := by simpa using h4
            rw [e4, if_neg fun h => h4 h.1]
            rfl
theorem impl_lvStep (rows : List (List Q)) (basis : List Int) (cols col : Int) (hr : rows.length ≤ 1048576) (ht : tabOk rows basis cols = true) (hcol : 0 ≤ col ∧ col ≤ cols + rows.length - 1) (k : Nat) (hk : k < rows.length) (b x y : Int) (hb : b < k) :
    l_impl_LeavingRow_0 rows basis col (b, (k : Int), x, y) = some (.inl ((lvNext rows basis cols col k (b, x, y)).1, ((k + 1 : Nat) : Int), (lvNext rows basis cols col k (b, x, y)).2.1, (lvNext rows basis cols col k (b, x, y)).2.2)) := by
  obtain ⟨hc, hbl, hrow⟩ := tabOk_parts ht
  obtain ⟨r1, _⟩ := hrow k hk
  unfold l_impl_LeavingRow_0
  dsimp only
  have g1 : (0 : Int) ≤ (k : Int) ∧ (k : Int) < (rows.length : Int) := by omega
  have g2 : (0 : Int) ≤ col ∧ col < ((rows.getD k []).length : Int) := by omega
  have g3 : (0 : Int) ≤ cols + (rows.length : Int) ∧ cols + (rows.length : Int) < ((rows.getD k []).length : Int) := by omega
  have g4 : (0 : Int) ≤ (k : Int) ∧ (k : Int) < (basis.length : Int) := by omega
  have e0 : ((rows.getD k []).length : Int) - 1 = cols + (rows.length : Int) := by omega
  rw [decide_eq_true (by omega), cond_true, getD_nat, getD_nat, e0, w64' (n := cols + (rows.length : Int)) (by omega) (by omega), w64' (n := (k : Int) + 1) (by omega) (by omega)]
  simp only [grd_pos g1, grd_pos g2, grd_pos g3, grd_pos g4, impl_div, impl_sign, impl_cmp, Option.bind_some]
  unfold lvNext cellQ
  rcases divQ ((rows.getD k []).getD (cols + (rows.length : Int)).toNat ⟨0, 0⟩).num ((rows.getD k []).getD (cols + (rows.length : Int)).toNat ⟨0, 0⟩).den ((rows.getD k []).getD col.toNat ⟨0, 0⟩).num ((rows.getD k []).getD col.toNat ⟨0, 0⟩).den with ⟨p, q, o⟩
  dsimp only
  by_cases h1 : cmpQ ((rows.getD k []).getD col.toNat ⟨0, 0⟩).num ((rows.getD k []).getD col.toNat ⟨0, 0⟩).den 0 1 ≤ 0
  · rw [decide_eq_true h1, if_pos h1]
    rfl
  · rw [decide_eq_false h1, if_neg h1, cond_false]
    cases o with
    | false => rfl
    | true =>
      simp only [Bool.not_true, cond_false]
      by_cases h2 : b < 0
      · rw [decide_eq_true h2, if_pos h2]
        rfl
      · rw [decide_eq_false h2, if_neg h2, cond_false]
        by_cases h3 : cmpQ p q x y < 0
        · rw [decide_eq_true h3, if_pos h3]
          rfl
        · rw [decide_eq_false h3, if_neg h3, cond_false, grd_pos (by omega)]
          by_cases h4 : cmpQ p q x y = 0
          · have e4 : (cmpQ p q x y == 0) = true := by simpa using h4
            rw [e4, cond_true]
            by_cases h5 : basis.getD k 0 < basis.getD b.toNat 0
            · rw [decide_eq_true h5, if_pos ⟨h4, h5⟩]
              rfl
            · rw [decide_eq_false h5, if_neg fun h => h5 h.2]
              rfl
          · have e4 : (cmpQ p q x y == 0) = false := by simpa using h4
            rw [e4, if_neg fun h => h4 h.1]
            rfl
theorem leaving_both (rows : List (List Q)) (basis : List Int) (cols col : Int) (hr : rows.length ≤ 1048576) (hb : basis.length ≤ 1048576) (hrl : ∀ i, i < rows.length → (rows.getD i []).length ≤ 1048576) : ∃ r, m_spec_LeavingRow rows basis cols col = some r ∧ m_impl_LeavingRow rows basis cols col = some r := by
  unfold m_spec_LeavingRow m_impl_LeavingRow
  rw [spec_tabOk rows basis cols hr hb hrl, impl_tabOk rows basis cols hr hb]
  cases ht : tabOk rows basis cols with
  | false => exact ⟨-1, rfl, rfl⟩
  | true =>
    obtain ⟨hc, _⟩ := tabOk_parts ht
    simp only [Option.bind_some, Bool.not_true, cond_false, in_eq, within_eq]
    rw [w64' (n := cols + (rows.length : Int)) (by omega) (by omega), w64' (n := cols + (rows.length : Int) - 1) (by omega) (by omega)]
    by_cases hcol : 0 ≤ col ∧ col ≤ cols + rows.length - 1
    · rw [decide_eq_true hcol, Bool.not_true, cond_false, cond_false]
      have s1 := iter_up (step := l_spec_LeavingRow_0 rows basis cols col) (fun k => ((lvSt rows basis cols col k).1, (k : Int), (lvSt rows basis cols col k).2.1, (lvSt rows basis cols col k).2.2)) rows.length (a := (lvSt rows basis cols col rows.length).1) (fun k hk => spec_lvStep rows basis cols col hr ht hcol k hk _ _ _ (lv_inv rows basis cols col k))
        (by unfold l_spec_LeavingRow_0; dsimp only; rw [decide_eq_false (by omega)]; rfl)
      have s2 := iter_up (step := l_impl_LeavingRow_0 rows basis col) (fun k => ((lvSt rows basis cols col k).1, (k : Int), (lvSt rows basis cols col k).2.1, (lvSt rows basis cols col k).2.2)) rows.length (a := (lvSt rows basis cols col rows.length).1) (fun k hk => impl_lvStep rows basis cols col hr ht hcol k hk _ _ _ (lv_inv rows basis cols col k))
        (by unfold l_impl_LeavingRow_0; dsimp only; rw [decide_eq_false (by omega)]; rfl)
      simp only [lvSt, Int.natCast_zero] at s1 s2
      rw [s1, s2]
      exact ⟨_, rfl, rfl⟩
    · rw [decide_eq_false hcol]
      exact ⟨-1, rfl, rfl⟩
theorem law_FnExactLeavingRow (rows : List (List Q)) (basis : List Int) (cols col : Int) (hr : rows.length ≤ maxLen ∧ ∀ r ∈ rows, r.length ≤ maxLen ∧ ∀ q ∈ r, I64 q.num ∧ I64 q.den) (hb : basis.length ≤ maxLen ∧ ∀ n ∈ basis, I64 n) (_ : I64 cols) (_ : I64 col) : m_laws_FnExactLeavingRow rows basis cols col = some true := by
  unfold m_laws_FnExactLeavingRow m_laws_szTableau
  obtain ⟨v, e1, e2⟩ := sz_ratss rows 1048576 (by decide) (by decide) hr.1 (fun r h => (hr.2 r h).1)
  rw [e1, Option.bind_some]
  rcases e2 with hv | ⟨hv1, hv2, hv3, hv4⟩
  · simp [hv]
  · have hv0 : ¬ v < 0 := by omega
    simp only [hv0, decide_false, cond_false]
    rw [sz_ints basis v hv1 (by omega) hb.1]
    by_cases h : v < basis.length
    · simp [h]
    · have h0 : ¬ v - (basis.length : Int) < 0 := by omega
      have l1 : rows.length ≤ 1048576 := by omega
      have l2 : basis.length ≤ 1048576 := by omega
      have l3 : ∀ i, i < rows.length → (rows.getD i []).length ≤ 1048576 := fun i hi => by have := hv4 i hi; omega
      obtain ⟨r, f1, f2⟩ := leaving_both rows basis cols col l1 l2 l3
      simp [h, h0, m_laws_toTableau, m_laws_eqTableau, to_ratss rows l1 l3, to_ints basis l2, f1, f2, eq_ratss rows rows l1 l3, eq_ints basis basis l2 l2]
end Go.Proofs.Ytoefgmmmcpikfaa
