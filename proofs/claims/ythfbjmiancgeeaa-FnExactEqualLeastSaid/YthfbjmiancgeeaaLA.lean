/- The plain laws: what the models of FnExactEqualLeast, FnExactCoreName compute. No condition beyond those that each theorem names. -/
import Derived.Test.YthfbjmiancgeeaaGen
import Derived.Test.YthfbjmiancgeeaaAmC
namespace Go.Proofs.Ythfbjmiancgeeaa
open Go.AM
theorem in_eq (a b c : Int) : m_spec_l1In a b c = some (decide (b ≤ a ∧ a ≤ c)) := by
  unfold m_spec_l1In
  by_cases h : a ≥ b
  · have h' : b ≤ a := h
    simp [h, h']
  · have h' : ¬ b ≤ a := h
    simp [h, h']
theorem within_eq (a b c : Int) : m_impl_within a b c = some (decide (b ≤ a ∧ a ≤ c)) := in_eq a b c
theorem iter_find {S A : Type} {step : S → Option (S ⊕ A)} (st : Nat → S) (n : Nat) (p : Nat → Bool) (a : A) (b : Nat → A)
    (hs : ∀ i, i < n → step (st i) = some (if p i = true then .inr (b i) else .inl (st (i + 1)))) (hd : step (st n) = some (.inr a)) :
    iter step (st 0) = some (match (List.range n).find? p with
      | some i => b i
      | none => a) := by
  have key : ∀ k, k ≤ n → iter step (st (n - k)) = some (match (List.range' (n - k) k).find? p with
      | some i => b i
      | none => a) := by
    intro k
    induction k with
    | zero => intro _; simpa using iter_done hd
    | succ k ih =>
      intro hk
      have h1 := hs (n - (k + 1)) (by omega)
      rw [List.range'_succ, List.find?_cons]
      cases hp : p (n - (k + 1)) with
      | true =>
        rw [if_pos hp] at h1
        exact iter_done h1
      | false =>
        rw [if_neg (by simp [hp])] at h1
        rw [iter_next h1, show n - (k + 1) + 1 = n - k by omega]
        exact ih (by omega)
  have := key n (Nat.le_refl _)
  rw [Nat.sub_self, ← List.range_eq_range'] at this
  exact this
theorem getD_nat {α : Type} (l : List α) (i : Nat) (d : α) : l.getD (i : Int).toNat d = l.getD i d := by rw [Int.toNat_natCast]
instance : DecidableEq Q := fun a b =>
  if h1 : a.num = b.num then
    if h2 : a.den = b.den then isTrue (by cases a; cases b; simp only at h1 h2; rw [h1, h2])
    else isFalse (fun h => h2 (by rw [h]))
  else isFalse (fun h => h1 (by rw [h]))
theorem Q_ext {a b : Q} : a = b ↔ a.num = b.num ∧ a.den = b.den := ⟨fun h => by rw [h]; exact ⟨rfl, rfl⟩, fun h => by cases a; cases b; simp only at h; rw [h.1, h.2]⟩
theorem sz_rats (l : List Q) (k : Int) (h1 : 0 ≤ k) (h2 : k ≤ 1048576) (hl : l.length ≤ maxLen) : m_laws_szRatS l k = some (if k < l.length then -1 else k - l.length) := by
  have hl' : (l.length : Int) ≤ 9223372036854775807 := by simp only [maxLen] at hl; omega
  have hw : IntKind.i64.wrap (k - (l.length : Int)) = k - l.length := w64' (by omega) (by omega)
  unfold m_laws_szRatS
  rw [hw]
  by_cases h : k < l.length
  · have : k - (l.length : Int) < 0 := by omega
    simp [h, this]
  · have : ¬ k - (l.length : Int) < 0 := by omega
    simp [h, this]
theorem to_rats (l : List Q) (hl : l.length ≤ 1048576) : m_laws_toRatS l = some l := by
  unfold m_laws_toRatS
  rw [grd_pos ⟨by omega, rfl, by simp only [room]; omega⟩]
  have h := iter_up (step := l_laws_toRatS_0 l) (fun i => ((i : Int), l.take i ++ List.replicate (l.length - i) (⟨0, 0⟩ : Q))) l.length (a := l) (fun i hi => ?_) ?_
  · simp only [List.take_zero, List.nil_append, Nat.sub_zero, Int.ofNat_eq_natCast] at h
    simp only [Int.toNat_natCast]
    rw [show ((0 : Int), List.replicate l.length (⟨0, 0⟩ : Q)) = (((0 : Nat) : Int), List.replicate l.length (⟨0, 0⟩ : Q)) from rfl, h]
    rfl
  · have hi' : (i : Int) < l.length := by omega
    have hlen : ((l.take i ++ List.replicate (l.length - i) (⟨0, 0⟩ : Q)).length : Int) = l.length := by simp; omega
    simp only [l_laws_toRatS_0, m_laws_toRat, Option.bind_some, hi', decide_true, cond_true]
    rw [grd_pos ⟨by omega, trivial⟩, grd_pos ⟨by omega, by rw [hlen]; exact hi'⟩]
    have e : (⟨(l.getD (i : Int).toNat ⟨0, 0⟩).num, (l.getD (i : Int).toNat ⟨0, 0⟩).den⟩ : Q) = l.getD i ⟨0, 0⟩ := by rw [Int.toNat_natCast]
    rw [w64' (by omega) (by omega), e, Int.toNat_natCast, set_copy l ⟨0, 0⟩ ⟨0, 0⟩ i hi]
    rfl
  · simp [l_laws_toRatS_0]
theorem eq_find {α : Type} [DecidableEq α] (d : α) (a b : List α) (hl : a.length = b.length) : (match (List.range a.length).find? (fun i => !decide (a.getD i d = b.getD i d)) with
      | some _ => (.inr false : Unit ⊕ Bool)
      | none => .inl ()) = if a = b then .inl () else .inr false := by
  cases h : (List.range a.length).find? (fun i => !decide (a.getD i d = b.getD i d)) with
  | none =>
    rw [List.find?_eq_none] at h
    rw [if_pos (eq_of_all d hl fun i hi => by simpa using h i (List.mem_range.2 hi))]
  | some i =>
    have h1 := List.find?_some h
    simp only [Bool.not_eq_true', decide_eq_false_iff_not] at h1
    rw [if_neg fun e => h1 (by rw [e])]
theorem eq_rat (a b c d : Int) : m_laws_eqRat a b c d = some (decide (a = c ∧ b = d)) := by
  unfold m_laws_eqRat
  by_cases h1 : a = c
  · by_cases h2 : b = d
    · simp [h1, h2]
    · have e : (b != d) = true := by simpa using h2
      simp [h1, h2, e]
  · have e : (a != c) = true := by simpa using h1
    simp [h1, e]
theorem eq_rats (a b : List Q) (ha : a.length ≤ 1048576) : m_laws_eqRatS a b = some (decide (a = b)) := by
  unfold m_laws_eqRatS
  by_cases hl : a.length = b.length
  · have e : ((a.length : Int) != (b.length : Int)) = false := by simp [hl]
    have hit := iter_find (step := l_laws_eqRatS_0 a b) (fun i => (i : Int)) a.length (fun i => !decide (a.getD i ⟨0, 0⟩ = b.getD i ⟨0, 0⟩)) (.inl ()) (fun _ => .inr false)
      (fun i hi => by
        unfold l_laws_eqRatS_0
        rw [decide_eq_true (by omega), cond_true, grd_pos ⟨by omega, by omega⟩, grd_pos ⟨by omega, by omega⟩, getD_nat, getD_nat, eq_rat, Option.bind_some, w64' (by omega) (by omega)]
        by_cases hq : a.getD i ⟨0, 0⟩ = b.getD i ⟨0, 0⟩
        · rw [decide_eq_true (Q_ext.1 hq), decide_eq_true hq]
          rfl
        · rw [decide_eq_false fun h => hq (Q_ext.2 h), decide_eq_false hq]
          rfl)
      (by
        unfold l_laws_eqRatS_0
        rw [decide_eq_false (by omega)]
        rfl)
    rw [eq_find _ a b hl] at hit
    simp only [Int.natCast_zero] at hit
    rw [e, cond_false, hit]
    by_cases hab : a = b
    · simp [hab]
    · simp [hab]
  · have e : ((a.length : Int) != (b.length : Int)) = true := by
      simp only [bne_iff_ne, ne_eq]
      omega
    have : ¬ a = b := fun e => hl (by rw [e])
    rw [e]
    simp [this]
theorem spec_eqv (a b : List Q) (ha : a.length ≤ 1048576) : m_spec_EqualVector a b = some (decide (a = b)) := by
  unfold m_spec_EqualVector
  by_cases hl : a.length = b.length
  · have e : ((a.length : Int) != (b.length : Int)) = false := by simp [hl]
    have hit := iter_find (step := l_spec_EqualVector_0 a b) (fun i => (i : Int)) a.length (fun i => !decide (a.getD i ⟨0, 0⟩ = b.getD i ⟨0, 0⟩)) (.inl ()) (fun _ => .inr false)
      (fun i hi => by
        unfold l_spec_EqualVector_0
        rw [decide_eq_true (by omega), cond_true, grd_pos ⟨by omega, by omega⟩, grd_pos ⟨by omega, by omega⟩, getD_nat, getD_nat, w64' (by omega) (by omega)]
        by_cases hq : a.getD i ⟨0, 0⟩ = b.getD i ⟨0, 0⟩
        · have hn : ((a.getD i ⟨0, 0⟩).num == (b.getD i ⟨0, 0⟩).num && (a.getD i ⟨0, 0⟩).den == (b.getD i ⟨0, 0⟩).den) = true := by
            rw [hq]
            simp
          rw [hn, decide_eq_true hq]
          rfl
        · have hn : ((a.getD i ⟨0, 0⟩).num == (b.getD i ⟨0, 0⟩).num && (a.getD i ⟨0, 0⟩).den == (b.getD i ⟨0, 0⟩).den) = false := by
            rw [← Bool.not_eq_true]
            simp only [Bool.and_eq_true, beq_iff_eq]
            exact fun h => hq (Q_ext.2 h)
          rw [hn, decide_eq_false hq]
          rfl)
      (by
        unfold l_spec_EqualVector_0
        rw [decide_eq_false (by omega)]
        rfl)
    rw [eq_find _ a b hl] at hit
    simp only [Int.natCast_zero] at hit
    rw [e, cond_false, hit]
    by_cases hab : a = b
    · simp [hab]
    · simp [hab]
  · have e : ((a.length : Int) != (b.length : Int)) = true := by
      simp only [bne_iff_ne, ne_eq]
      omega
    have : ¬ a = b := fun e => hl (by rw [e])
    rw [e]
    simp [this]
theorem law_FnExactEqualLeast (a0 : Bool) (a1 a2 : Int) (a3 a4 : List Q) (a5 : Bool) (a6 a7 : Int) (a8 a9 : List Q) (_ : I64 a1) (_ : I64 a2) (h3 : a3.length ≤ maxLen ∧ ∀ q ∈ a3, I64 q.num ∧ I64 q.den) (h4 : a4.length ≤ maxLen ∧ ∀ q ∈ a4, I64 q.num ∧ I64 q.den)
    (_ : I64 a6) (_ : I64 a7) (h8 : a8.length ≤ maxLen ∧ ∀ q ∈ a8, I64 q.num ∧ I64 q.den) (h9 : a9.length ≤ maxLen ∧ ∀ q ∈ a9, I64 q.num ∧ I64 q.den) : m_laws_FnExactEqualLeast a0 a1 a2 a3 a4 a5 a6 a7 a8 a9 = some true := by
  have sz : ∀ (a0 : Bool) (a1 a2 : Int) (a3 a4 : List Q) (k : Int), 0 ≤ k → k ≤ 1048576 → a3.length ≤ maxLen → a4.length ≤ maxLen → m_laws_szLeastResult a0 a1 a2 a3 a4 k = some (if k < a3.length + a4.length then -1 else k - a3.length - a4.length) := by
    intro a0 a1 a2 a3 a4 k h1 h2 h3 h4
    unfold m_laws_szLeastResult
    rw [sz_rats a3 k h1 h2 h3]
    by_cases h : k < a3.length
    · have : k < a3.length + a4.length := by omega
      simp [h, this]
    · have h0 : ¬ k - (a3.length : Int) < 0 := by omega
      simp only [h, if_false, Option.bind_some, h0, decide_false, cond_false]
      rw [sz_rats a4 _ (by omega) (by omega) h4]
      by_cases h' : k - (a3.length : Int) < a4.length
      · have : k < a3.length + a4.length := by omega
        simp [h', this]
      · have h5 : ¬ k < a3.length + a4.length := by omega
        have h6 : ¬ k - (a3.length : Int) - (a4.length : Int) < 0 := by omega
        simp [h', h5, h6]
  have to : ∀ (a0 : Bool) (a1 a2 : Int) (a3 a4 : List Q), a3.length ≤ 1048576 → a4.length ≤ 1048576 → m_laws_toLeastResult a0 a1 a2 a3 a4 = some (a0, a1, a2, a3, a4) := by
    intro a0 a1 a2 a3 a4 h1 h2
    unfold m_laws_toLeastResult m_laws_toRat
    rw [to_rats a3 h1, to_rats a4 h2]
    rfl
  have eqv : ∀ (a0 : Bool) (a1 a2 : Int) (a3 a4 : List Q), a3.length ≤ 1048576 → a4.length ≤ 1048576 → m_laws_eqLeastResult a0 a1 a2 a3 a4 a0 a1 a2 a3 a4 = some true := by
    intro a0 a1 a2 a3 a4 h1 h2
    unfold m_laws_eqLeastResult
    simp [eq_rat, eq_rats a3 a3 h1, eq_rats a4 a4 h2]
  have both : ∀ (a0 : Bool) (a1 a2 : Int) (a3 a4 : List Q) (a5 : Bool) (a6 a7 : Int) (a8 a9 : List Q), m_impl_EqualLeast a0 a1 a2 a3 a4 a5 a6 a7 a8 a9 = m_spec_EqualLeast a0 a1 a2 a3 a4 a5 a6 a7 a8 a9 := fun _ _ _ _ _ _ _ _ _ _ => rfl
  have has : a3.length ≤ 1048576 → a4.length ≤ 1048576 → ∃ r, m_spec_EqualLeast a0 a1 a2 a3 a4 a5 a6 a7 a8 a9 = some r := by
    intro h1 h2
    unfold m_spec_EqualLeast
    rw [spec_eqv a3 a8 h1, spec_eqv a4 a9 h2]
    cases a0 == a5 <;> cases (a1 == a6 && a2 == a7) <;> cases decide (a3 = a8) <;> exact ⟨_, rfl⟩
  unfold m_laws_FnExactEqualLeast
  rw [sz a0 a1 a2 a3 a4 _ (by decide) (by decide) h3.1 h4.1]
  by_cases h : (1048576 : Int) < a3.length + a4.length
  · simp [h]
  · have h0 : ¬ (1048576 : Int) - (a3.length : Int) - (a4.length : Int) < 0 := by omega
    simp only [h, if_false, Option.bind_some, h0, decide_false, cond_false]
    rw [sz a5 a6 a7 a8 a9 _ (by omega) (by omega) h8.1 h9.1]
    by_cases h' : (1048576 : Int) - a3.length - a4.length < a8.length + a9.length
    · simp [h']
    · have h6 : ¬ (1048576 : Int) - a3.length - a4.length - a8.length - a9.length < 0 := by omega
      have l3 : a3.length ≤ 1048576 := by omega
      have l4 : a4.length ≤ 1048576 := by omega
      have l8 : a8.length ≤ 1048576 := by omega
      have l9 : a9.length ≤ 1048576 := by omega
      obtain ⟨r, hr⟩ := has l3 l4
      simp [h', h6, to a0 a1 a2 a3 a4 l3 l4, to a5 a6 a7 a8 a9 l8 l9, both, hr, eqv a0 a1 a2 a3 a4 l3 l4, eqv a5 a6 a7 a8 a9 l8 l9]
theorem law_FnExactCoreName (a0 : Int) (_ : I64 a0) : m_laws_FnExactCoreName a0 = some true := by
  unfold m_laws_FnExactCoreName m_spec_CoreName m_impl_CoreName m_slices_Clone_string_string
  rw [in_eq, within_eq]
  have hw : IntKind.i64.wrap ((([[98, 97, 100], [112, 111, 105, 110, 116], [101, 109, 112, 116, 121], [108, 105, 109, 105, 116]] : List (List Nat)).length : Int) - 1) = 3 := by decide
  rw [hw]
  by_cases h : 0 ≤ a0 ∧ a0 ≤ 3
  · have h' : (0 : Int) ≤ a0 ∧ a0 < ((([[98, 97, 100], [112, 111, 105, 110, 116], [101, 109, 112, 116, 121], [108, 105, 109, 105, 116]] : List (List UInt8)).length : Nat) : Int) := by
      simp only [List.length_cons, List.length_nil]
      omega
    rw [decide_eq_true h]
    simp only [Option.bind_some, Bool.not_true, cond_false, List.nil_append]
    rw [grd_pos (by simp only [List.length_cons, List.length_nil]; omega), grd_pos (by simp [room])]
    simp only [Option.bind_some]
    rw [grd_pos h']
    simp
  · rw [decide_eq_false h]
    simp
end Go.Proofs.Ythfbjmiancgeeaa
