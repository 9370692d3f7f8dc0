/- What the laws' own helpers compute. -/
import Derived.Test.YthfbjmiancgeeaaGen
import Derived.Test.YthfbjmiancgeeaaAmC
namespace Go.Proofs.Ythfbjmiancgeeaa
open Go.AM

theorem sz_ints (l : List Int) (k : Int) (h1 : 0 ≤ k) (h2 : k ≤ 1048576) (hl : l.length ≤ maxLen) : m_laws_szIntS l k = some (if k < l.length then -1 else k - l.length) := by
  have hl' : (l.length : Int) ≤ 9223372036854775807 := by simp only [maxLen] at hl; omega
  have hw : IntKind.i64.wrap (k - (l.length : Int)) = k - l.length := w64' (by omega) (by omega)
  unfold m_laws_szIntS
  rw [hw]
  by_cases h : k < l.length
  · have : k - (l.length : Int) < 0 := by omega
    simp [h, this]
  · have : ¬ k - (l.length : Int) < 0 := by omega
    simp [h, this]
theorem sz_game (n : Int) (l : List Int) (k : Int) (h1 : 0 ≤ k) (h2 : k ≤ 1048576) (hl : l.length ≤ maxLen) : m_laws_szGame n l k = some (if k < l.length then -1 else k - l.length) := by
  unfold m_laws_szGame
  rw [sz_ints l k h1 h2 hl]
  by_cases h : k < l.length
  · simp [h]
  · have : ¬ k - (l.length : Int) < 0 := by omega
    simp [h, this]
theorem to_ints (l : List Int) (hl : l.length ≤ 1048576) : m_laws_toIntS l = some l := by
  unfold m_laws_toIntS
  rw [grd_pos ⟨by omega, rfl, by simp only [room]; omega⟩]
  have h := iter_up (step := l_laws_toIntS_0 l) (fun i => ((i : Int), l.take i ++ List.replicate (l.length - i) 0)) l.length (a := l) (fun i hi => ?_) ?_
  · simp only [List.take_zero, List.nil_append, Nat.sub_zero, Int.ofNat_eq_natCast] at h
    simp only [Int.toNat_natCast]
    rw [show ((0 : Int), List.replicate l.length (0 : Int)) = (((0 : Nat) : Int), List.replicate l.length (0 : Int)) from rfl, h]
    rfl
  · have hi' : (i : Int) < l.length := by omega
    have hlen : ((l.take i ++ List.replicate (l.length - i) (0 : Int)).length : Int) = l.length := by simp; omega
    simp only [l_laws_toIntS_0, hi', decide_true, cond_true]
    rw [grd_pos ⟨by omega, trivial⟩, grd_pos ⟨by omega, by rw [hlen]; exact hi'⟩]
    rw [w64' (by omega) (by omega), Int.toNat_natCast, set_copy l 0 0 i hi]
    rfl
  · simp [l_laws_toIntS_0]
theorem to_game (n : Int) (l : List Int) (hl : l.length ≤ 1048576) : m_laws_toGame n l = some (n, l) := by
  unfold m_laws_toGame
  rw [to_ints l hl]
  rfl
theorem eq_ints (a b : List Int) (ha : a.length ≤ 1048576) (hb : b.length ≤ 1048576) : m_laws_eqIntS a b = some (decide (a = b)) := by
  unfold m_laws_eqIntS
  by_cases hl : a.length = b.length
  · have e : ((a.length : Int) != (b.length : Int)) = false := by simp [hl]
    have hit := iter_all (step := l_laws_eqIntS_0 a b) (fun i => (i : Int)) a.length (fun i => a.getD i 0 == b.getD i 0) (a := .inl ()) (b := .inr false)
      (fun i hi hp => by
        have hi' : (i : Int) < a.length := by omega
        have hi2 : (i : Int) < b.length := by omega
        unfold l_laws_eqIntS_0
        rw [decide_eq_true hi', cond_true, grd_pos ⟨by omega, hi'⟩, grd_pos ⟨by omega, hi2⟩]
        simp only [beq_iff_eq] at hp
        rw [Int.toNat_natCast, hp, w64' (by omega) (by omega), bne_self_eq_false, cond_false]
        rfl)
      (fun i hi hp => by
        have hi' : (i : Int) < a.length := by omega
        have hi2 : (i : Int) < b.length := by omega
        unfold l_laws_eqIntS_0
        rw [decide_eq_true hi', cond_true, grd_pos ⟨by omega, hi'⟩, grd_pos ⟨by omega, hi2⟩]
        rw [Int.toNat_natCast]
        have : (a.getD i 0 != b.getD i 0) = true := by
          simp only [bne, hp, Bool.not_false]
        rw [this]
        rfl)
      (by
        unfold l_laws_eqIntS_0
        rw [decide_eq_false (by omega)]
        rfl)
    rw [e, cond_false]
    simp only [Int.ofNat_eq_natCast, Int.natCast_zero] at hit
    rw [hit]
    by_cases hall : ∀ i, i < a.length → (a.getD i 0 == b.getD i 0) = true
    · have : a = b := eq_of_all 0 hl fun i hi => by simpa using hall i hi
      rw [if_pos hall]
      simp [this]
    · have : ¬ a = b := fun e => hall fun i hi => by rw [e]; simp
      rw [if_neg hall]
      simp [this]
  · have e : ((a.length : Int) != (b.length : Int)) = true := by
      simp only [bne_iff_ne, ne_eq]
      omega
    rw [e]
    have : ¬ a = b := fun e => hl (by rw [e])
    simp [this]
theorem eq_game (n : Int) (l : List Int) (m : Int) (k : List Int) (hl : l.length ≤ 1048576) (hk : k.length ≤ 1048576) : m_laws_eqGame n l m k = some (decide (n = m ∧ l = k)) := by
  unfold m_laws_eqGame
  rw [eq_ints l k hl hk]
  by_cases h1 : n = m
  · by_cases h2 : l = k
    · simp [h1, h2]
    · simp [h1, h2]
  · have : (n != m) = true := by simpa using h1
    simp [h1, this]
theorem impl_valueOf (n : Int) (l : List Int) (s : Int) : m_impl_ValueOf n l s = m_spec_ValueOf n l s := rfl
theorem spec_valueOf (n : Int) (l : List Int) (s : Int) (hl : l.length ≤ 1048576) : ∃ r, m_spec_ValueOf n l s = some r := by
  have hw : IntKind.i64.wrap ((l.length : Int) - 1) = (l.length : Int) - 1 := w64' (by omega) (by omega)
  unfold m_spec_ValueOf m_spec_l1In
  rw [hw]
  by_cases h1 : s ≥ 0
  · rw [decide_eq_true h1, cond_true, Option.bind_some]
    by_cases h2 : s ≤ (l.length : Int) - 1
    · rw [decide_eq_true h2, Bool.not_true, cond_false, grd_pos ⟨h1, by omega⟩]
      exact ⟨_, rfl⟩
    · rw [decide_eq_false h2]
      exact ⟨_, rfl⟩
  · rw [decide_eq_false h1]
    exact ⟨_, rfl⟩

theorem law_FnExactValueOf (n : Int) (l : List Int) (s : Int) (_ : I64 n) (hl : l.length ≤ maxLen ∧ ∀ n ∈ l, I64 n) (_ : I64 s) : m_laws_FnExactValueOf n l s = some true := by
  unfold m_laws_FnExactValueOf
  rw [sz_game n l _ (by decide) (by decide) hl.1]
  by_cases h : (1048576 : Int) < l.length
  · simp [h]
  · have h0 : ¬ (1048576 : Int) - (l.length : Int) < 0 := by omega
    have hl' : l.length ≤ 1048576 := by omega
    obtain ⟨r, hr⟩ := spec_valueOf n l s hl'
    simp [h, h0, to_game n l hl', impl_valueOf, hr, eq_game n l n l hl' hl']

/-- loops that compare two lists of integers -/
theorem eq_loop (step : Int → Option (Int ⊕ (Unit ⊕ Bool))) (a b : List Int) (hl : a.length = b.length) (ha : a.length ≤ 1048576)
    (hstep : step = l_laws_eqIntS_0 a b) : iter step 0 = some (if a = b then .inl () else .inr false) := by
  have h := eq_ints a b ha (hl ▸ ha)
  unfold m_laws_eqIntS at h
  have e : ((a.length : Int) != (b.length : Int)) = false := by simp [hl]
  rw [e, cond_false, ← hstep] at h
  obtain ⟨x, h1, h2⟩ := bind_some h
  rw [h1]
  cases x with
  | inl u =>
    by_cases hab : a = b
    · simp [hab]
    · simp [hab] at h2
  | inr r =>
    by_cases hab : a = b
    · exfalso
      subst hab
      have hit := iter_all (step := l_laws_eqIntS_0 a a) (fun i => (i : Int)) a.length (fun _ => true) (a := .inl ()) (b := .inr false)
        (fun i hi _ => by
          have hi' : (i : Int) < a.length := by omega
          unfold l_laws_eqIntS_0
          rw [decide_eq_true hi', cond_true, grd_pos ⟨by omega, hi'⟩, grd_pos ⟨by omega, hi'⟩]
          rw [Int.toNat_natCast, w64' (by omega) (by omega), bne_self_eq_false, cond_false]
          rfl)
        (fun i hi hp => by cases hp)
        (by
          unfold l_laws_eqIntS_0
          rw [decide_eq_false (by omega)]
          rfl)
      simp only [Int.ofNat_eq_natCast, Int.natCast_zero] at hit
      rw [hstep, hit] at h1
      simp at h1
    · simp [hab] at h2 ⊢
      exact h2
theorem spec_ints (a b : List Int) : m_spec_l8Ints a b = m_laws_eqIntS a b := rfl
theorem slices_ints (a b : List Int) : m_slices_Equal_int_int a b = m_laws_eqIntS a b := rfl
theorem law_FnExactEqualGame (n : Int) (l : List Int) (m : Int) (k : List Int) (_ : I64 n) (hl : l.length ≤ maxLen ∧ ∀ n ∈ l, I64 n) (_ : I64 m) (hk : k.length ≤ maxLen ∧ ∀ n ∈ k, I64 n) : m_laws_FnExactEqualGame n l m k = some true := by
  unfold m_laws_FnExactEqualGame
  rw [sz_game n l _ (by decide) (by decide) hl.1]
  by_cases h : (1048576 : Int) < l.length
  · simp [h]
  · have h0 : ¬ (1048576 : Int) - (l.length : Int) < 0 := by omega
    have hl' : l.length ≤ 1048576 := by omega
    simp only [h, if_false, Option.bind_some, h0, decide_false, cond_false]
    rw [sz_game m k _ (by omega) (by omega) hk.1]
    by_cases h2 : (1048576 : Int) - l.length < k.length
    · simp [h2]
    · have h3 : ¬ (1048576 : Int) - (l.length : Int) - (k.length : Int) < 0 := by omega
      have hk' : k.length ≤ 1048576 := by omega
      by_cases hnm : n = m
      · simp [h2, h3, to_game n l hl', to_game m k hk', m_spec_EqualGame, m_impl_EqualGame, spec_ints, slices_ints, eq_ints l k hl' hk', eq_game n l n l hl' hl', eq_game m k m k hk' hk', hnm, eq_game m l m l hl' hl', to_game m l hl']
      · have hb : (n == m) = false := by simpa using hnm
        simp [h2, h3, to_game n l hl', to_game m k hk', m_spec_EqualGame, m_impl_EqualGame, hb, eq_game n l n l hl' hl', eq_game m k m k hk' hk']
end Go.Proofs.Ythfbjmiancgeeaa
