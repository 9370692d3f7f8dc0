/- Valid games: what the program and the reference take for one. -/
import Derived.Test.YthfbjmiancgeeaaBase
namespace Go.Proofs.Ythfbjmiancgeeaa
open Go.AM

def Valid (n : Int) (l : List Int) : Prop := (1 ≤ n ∧ n ≤ 5) ∧ (l.length : Int) = 2 ^ n.toNat ∧ l.getD 0 0 = 0 ∧ ∀ i, i < l.length → -500 ≤ l.getD i 0 ∧ l.getD i 0 ≤ 500
open Classical in
noncomputable def validB (n : Int) (l : List Int) : Bool := decide (Valid n l)

theorem in_eq (a b c : Int) : m_spec_l1In a b c = some (decide (b ≤ a ∧ a ≤ c)) := by
  unfold m_spec_l1In
  by_cases h : a ≥ b
  · have h' : b ≤ a := h
    simp [h, h']
  · have h' : ¬ b ≤ a := h
    simp [h, h']
theorem within_eq (a b c : Int) : m_impl_within a b c = some (decide (b ≤ a ∧ a ≤ c)) := in_eq a b c
theorem count_eq (n : Int) (h1 : 1 ≤ n) (h2 : n ≤ 5) : m_spec_CountCoalitions n = some (2 ^ n.toNat) := by
  unfold m_spec_CountCoalitions
  rw [in_eq]
  have hb : decide ((0 : Int) ≤ n ∧ n ≤ 5) = true := by simp; omega
  rw [hb, Option.bind_some, Bool.not_true, cond_false]
  have hit := iter_up (step := l_spec_CountCoalitions_0 n) (fun i => ((2 : Int) ^ i, (i : Int))) n.toNat (a := 2 ^ n.toNat) (fun i hi => by
      have hlt : (i : Int) < n := by omega
      have hi5 : i < 5 := by omega
      unfold l_spec_CountCoalitions_0
      simp only [hlt, decide_true, cond_true]
      have hp : (2 : Int) ^ i ≤ 16 := by
        have : i = 0 ∨ i = 1 ∨ i = 2 ∨ i = 3 ∨ i = 4 := by omega
        rcases this with rfl | rfl | rfl | rfl | rfl <;> decide
      have hp0 : (0 : Int) < 2 ^ i := Int.pow_pos (by decide)
      rw [w64' (by omega) (by omega), w64' (by omega) (by omega)]
      simp [Int.pow_succ])
    (by
      unfold l_spec_CountCoalitions_0
      have : ¬ ((n.toNat : Int) < n) := by omega
      simp only [this, decide_false, cond_false])
  simp only [Int.pow_zero, Int.ofNat_eq_natCast, Int.natCast_zero] at hit
  rw [hit]
  rfl
theorem spec_valid (n : Int) (l : List Int) (hl : l.length ≤ 1048576) : m_spec_IsValidGame n l = some (validB n l) := by
  unfold m_spec_IsValidGame
  have hit := iter_first (step := l_spec_IsValidGame_0 l) (fun i => (i : Int)) l.length (fun i => decide (-500 ≤ l.getD i 0 ∧ l.getD i 0 ≤ 500)) (a := .inl ()) (fun _ => .inr false)
    (fun i hi hp => by
      have hi' : (i : Int) < l.length := by omega
      unfold l_spec_IsValidGame_0
      rw [decide_eq_true hi', cond_true, grd_pos ⟨by omega, hi'⟩, in_eq, Int.toNat_natCast, hp, Option.bind_some, Bool.not_true, cond_false, w64' (by omega) (by omega)]
      rfl)
    (fun i hi hp => by
      have hi' : (i : Int) < l.length := by omega
      unfold l_spec_IsValidGame_0
      rw [decide_eq_true hi', cond_true, grd_pos ⟨by omega, hi'⟩, in_eq, Int.toNat_natCast, hp]
      rfl)
    (by
      unfold l_spec_IsValidGame_0
      rw [decide_eq_false (by omega)]
      rfl)
  simp only [Int.ofNat_eq_natCast, Int.natCast_zero] at hit
  rcases hit with ⟨h1, h2⟩ | ⟨i, h1, h2, h3⟩
  · rw [h2]
    simp only [Option.bind_some]
    rw [in_eq]
    by_cases hn : 1 ≤ n ∧ n ≤ 5
    · rw [decide_eq_true hn, Option.bind_some, cond_true, count_eq n hn.1 hn.2, Option.bind_some]
      by_cases hlen : (l.length : Int) = 2 ^ n.toNat
      · have hpos : (0 : Int) < 2 ^ n.toNat := Int.pow_pos (by decide)
        have e1 : ((l.length : Int) == 2 ^ n.toNat) = true := by simpa using hlen
        rw [e1, cond_true, grd_pos ⟨by omega, by omega⟩]
        congr 1
        have h0 : (0 : Int).toNat = 0 := rfl
        rw [h0]
        by_cases hz : l.getD 0 0 = 0
        · have hv : Valid n l := ⟨hn, hlen, hz, fun i hi => by simpa using h1 i hi⟩
          rw [hz]
          simp [validB, hv]
        · have hv : ¬ Valid n l := fun h => hz h.2.2.1
          simp only [validB, hv, decide_false]
          simpa using hz
      · have e1 : ((l.length : Int) == 2 ^ n.toNat) = false := by simpa using hlen
        have hv : ¬ Valid n l := fun h => hlen h.2.1
        rw [e1, cond_false]
        simp [validB, hv]
    · have hv : ¬ Valid n l := fun h => hn h.1
      rw [decide_eq_false hn]
      simp [validB, hv]
  · rw [h3]
    have hv : ¬ Valid n l := fun h => by
      have := h.2.2.2 i h1
      simp only [decide_eq_false_iff_not] at h2
      exact h2 this
    simp [validB, hv]
theorem contains_eq (l : List Int) (hl : l.length ≤ 1048576) : ∃ r, m_slices_ContainsFunc_int_int l = some r ∧ (r = false ↔ ∀ i, i < l.length → -500 ≤ l.getD i 0 ∧ l.getD i 0 ≤ 500) := by
  unfold m_slices_ContainsFunc_int_int m_slices_IndexFunc_int_int
  have hm : ∀ x, m_impl_IsValidGame_1 x = some (!decide (-500 ≤ x ∧ x ≤ 500)) := fun x => by
    unfold m_impl_IsValidGame_1
    rw [within_eq]
    rfl
  have hit := iter_first (step := l_slices_IndexFunc_int_int_0 l) (fun i => (i : Int)) l.length (fun i => decide (-500 ≤ l.getD i 0 ∧ l.getD i 0 ≤ 500)) (a := .inl ()) (fun i => .inr (i : Int))
    (fun i hi hp => by
      have hi' : (i : Int) < l.length := by omega
      unfold l_slices_IndexFunc_int_int_0
      rw [decide_eq_true hi', cond_true, grd_pos ⟨by omega, hi'⟩, hm, Int.toNat_natCast, hp, Option.bind_some, Bool.not_true, cond_false, w64' (by omega) (by omega)]
      rfl)
    (fun i hi hp => by
      have hi' : (i : Int) < l.length := by omega
      unfold l_slices_IndexFunc_int_int_0
      rw [decide_eq_true hi', cond_true, grd_pos ⟨by omega, hi'⟩, hm, Int.toNat_natCast, hp]
      rfl)
    (by
      unfold l_slices_IndexFunc_int_int_0
      rw [decide_eq_false (by omega)]
      rfl)
  simp only [Int.ofNat_eq_natCast, Int.natCast_zero] at hit
  rcases hit with ⟨h1, h2⟩ | ⟨i, h1, h2, h3⟩
  · rw [h2]
    exact ⟨false, rfl, by simpa using h1⟩
  · rw [h3]
    refine ⟨true, by simp, ?_⟩
    simp only [reduceCtorEq, false_iff]
    intro h
    simp only [decide_eq_false_iff_not] at h2
    exact h2 (h i h1)
theorem impl_valid (n : Int) (l : List Int) (hl : l.length ≤ 1048576) : m_impl_IsValidGame n l = some (validB n l) := by
  unfold m_impl_IsValidGame
  rw [within_eq]
  by_cases hn : 1 ≤ n ∧ n ≤ 5
  · rw [decide_eq_true hn, Option.bind_some, Bool.not_true, cond_false, grd_pos (by omega)]
    have hw : IntKind.i64.wrap ((1 : Int) * 2 ^ (min n.toNat 64)) = 2 ^ n.toNat := by
      have : n = 1 ∨ n = 2 ∨ n = 3 ∨ n = 4 ∨ n = 5 := by omega
      rcases this with rfl | rfl | rfl | rfl | rfl <;> decide
    rw [hw]
    by_cases hlen : (l.length : Int) = 2 ^ n.toNat
    · have hpos : (0 : Int) < 2 ^ n.toNat := Int.pow_pos (by decide)
      have e1 : ((l.length : Int) != 2 ^ n.toNat) = false := by simpa using hlen
      rw [e1, cond_false, grd_pos ⟨by omega, by omega⟩]
      have h0 : (0 : Int).toNat = 0 := rfl
      rw [h0]
      by_cases hz : l.getD 0 0 = 0
      · have e2 : (l.getD 0 0 != 0) = false := by simpa using hz
        rw [e2, cond_false]
        obtain ⟨r, h1, h2⟩ := contains_eq l hl
        rw [h1, Option.bind_some]
        congr 1
        by_cases hr : r = false
        · have hv : Valid n l := ⟨hn, hlen, hz, h2.1 hr⟩
          simp [validB, hv, hr]
        · have hv : ¬ Valid n l := fun h => hr (h2.2 h.2.2.2)
          have hr' : r = true := by cases r <;> simp at hr ⊢
          simp [validB, hv, hr']
      · have e2 : (l.getD 0 0 != 0) = true := by simpa using hz
        have hv : ¬ Valid n l := fun h => hz h.2.2.1
        rw [e2]
        simp [validB, hv]
    · have e1 : ((l.length : Int) != 2 ^ n.toNat) = true := by simpa using hlen
      have hv : ¬ Valid n l := fun h => hlen h.2.1
      rw [e1]
      simp [validB, hv]
  · have hv : ¬ Valid n l := fun h => hn h.1
    rw [decide_eq_false hn]
    simp [validB, hv]
theorem law_FnExactIsValidGame (n : Int) (l : List Int) (_ : I64 n) (hl : l.length ≤ maxLen ∧ ∀ n ∈ l, I64 n) : m_laws_FnExactIsValidGame n l = some true := by
  unfold m_laws_FnExactIsValidGame
  rw [sz_game n l _ (by decide) (by decide) hl.1]
  by_cases h : (1048576 : Int) < l.length
  · simp [h]
  · have h0 : ¬ (1048576 : Int) - (l.length : Int) < 0 := by omega
    have hl' : l.length ≤ 1048576 := by omega
    simp [h, h0, to_game n l hl', spec_valid n l hl', impl_valid n l hl', eq_game n l n l hl' hl']
theorem grand_eq (n : Int) (l : List Int) (hl : l.length ≤ 1048576) : ∃ r, m_spec_GrandValue n l = some r ∧ m_impl_GrandValue n l = some r := by
  unfold m_spec_GrandValue m_impl_GrandValue
  rw [spec_valid n l hl, impl_valid n l hl]
  simp only [Option.bind_some]
  cases hv : validB n l with
  | false => exact ⟨0, rfl, rfl⟩
  | true =>
    have hV : Valid n l := by simpa [validB] using hv
    have hpos : (0 : Int) < 2 ^ n.toNat := Int.pow_pos (by decide)
    have hlen := hV.2.1
    rw [w64' (by omega) (by omega)]
    simp only [Bool.not_true, cond_false]
    rw [grd_pos ⟨by omega, by omega⟩]
    exact ⟨_, rfl, rfl⟩
theorem law_FnExactGrandValue (n : Int) (l : List Int) (_ : I64 n) (hl : l.length ≤ maxLen ∧ ∀ n ∈ l, I64 n) : m_laws_FnExactGrandValue n l = some true := by
  unfold m_laws_FnExactGrandValue
  rw [sz_game n l _ (by decide) (by decide) hl.1]
  by_cases h : (1048576 : Int) < l.length
  · simp [h]
  · have h0 : ¬ (1048576 : Int) - (l.length : Int) < 0 := by omega
    have hl' : l.length ≤ 1048576 := by omega
    obtain ⟨r, h1, h2⟩ := grand_eq n l hl'
    simp [h, h0, to_game n l hl', h1, h2, eq_game n l n l hl' hl']
end Go.Proofs.Ythfbjmiancgeeaa
