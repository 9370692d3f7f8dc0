/- The plain laws: what the models of FnPotential compute. No condition beyond those that each theorem names. -/
import Derived.Test.YtmlfjoppaciknaaGPotential
import Derived.Test.YtmlfjoppaciknaaAmC
namespace Go.Proofs.Ytmlfjoppaciknaa
open Go.AM
def Valid (n : Int) (l : List Int) : Prop := (1 ≤ n ∧ n ≤ 5) ∧ (l.length : Int) = 2 ^ n.toNat ∧ l.getD 0 0 = 0 ∧ ∀ i, i < l.length → -500 ≤ l.getD i 0 ∧ l.getD i 0 ≤ 500
open Classical in
noncomputable def validB (n : Int) (l : List Int) : Bool := decide (Valid n l)
theorem in_eq (a b c : Int) : m_spec_l1In a b c = some (decide (b ≤ a ∧ a ≤ c)) := by
  unfold m_spec_l1In
  by_cases h : a ≥ b
  · have h' : b ≤ a := h
    simp [h, h']
  · have h' : ¬ b ≤ a := h
    simp [h, h']
theorem within_eq (a b c : Int) : m_impl_within a b c = some (decide (b ≤ a ∧ a ≤ c)) := in_eq a b c
theorem count_eq (n : Int) (h1 : 1 ≤ n) (h2 : n ≤ 5) : m_spec_CountCoalitions n = some (2 ^ n.toNat) := by
  unfold m_spec_CountCoalitions
  rw [in_eq]
  have hb : decide ((0 : Int) ≤ n ∧ n ≤ 5) = true := by simp; omega
  rw [hb, Option.bind_some, Bool.not_true, cond_false]
  have hit := iter_up (step := l_spec_CountCoalitions_0 n) (fun i => ((2 : Int) ^ i, (i : Int))) n.toNat (a := 2 ^ n.toNat) (fun i hi => by
      have hlt : (i : Int) < n := by omega
      have hi5 : i < 5 := by omega
      unfold l_spec_CountCoalitions_0
      simp only [hlt, decide_true, cond_true]
      have hp : (2 : Int) ^ i ≤ 16 := by
        have : i = 0 ∨ i = 1 ∨ i = 2 ∨ i = 3 ∨ i = 4 := by omega
        rcases this with rfl | rfl | rfl | rfl | rfl <;> decide
      have hp0 : (0 : Int) < 2 ^ i := Int.pow_pos (by decide)
      rw [w64' (by omega) (by omega), w64' (by omega) (by omega)]
      simp [Int.pow_succ])
    (by
      unfold l_spec_CountCoalitions_0
      have : ¬ ((n.toNat : Int) < n) := by omega
      simp only [this, decide_false, cond_false])
  simp only [Int.pow_zero, Int.ofNat_eq_natCast, Int.natCast_zero] at hit
  rw [hit]
  rfl
theorem spec_valid (n : Int) (l : List Int) (hl : l.length ≤ 1048576) : m_spec_IsValidGame n l = some (validB n l) := by
  unfold m_spec_IsValidGame
  have hit := iter_first (step := l_spec_IsValidGame_0 l) (fun i => (i : Int)) l.length (fun i => decide (-500 ≤ l.getD i 0 ∧ l.getD i 0 ≤ 500)) (a := .inl ()) (fun _ => .inr false)
    (fun i hi hp => by
      have hi' : (i : Int) < l.length := by omega
      unfold l_spec_IsValidGame_0
      rw [decide_eq_true hi', cond_true, grd_pos ⟨by omega, hi'⟩, in_eq, Int.toNat_natCast, hp, Option.bind_some, Bool.not_true, cond_false, w64' (by omega) (by omega)]
      rfl)
    (fun i hi hp => by
      have hi' : (i : Int) < l.length := by omega
      unfold l_spec_IsValidGame_0
      rw [decide_eq_true hi', cond_true, grd_pos ⟨by omega, hi'⟩, in_eq, Int.toNat_natCast, hp]
      rfl)
    (by
      unfold l_spec_IsValidGame_0
      rw [decide_eq_false (by omega)]
      rfl)
  simp only [Int.ofNat_eq_natCast, Int.natCast_zero] at hit
  rcases hit with ⟨h1, h2⟩ | ⟨i, h1, h2, h3⟩
  · rw [h2]
    simp only [Option.bind_some]
    rw [in_eq]
    by_cases hn : 1 ≤ n ∧ n ≤ 5
    · rw [decide_eq_true hn, Option.bind_some, cond_true, count_eq n hn.1 hn.2, Option.bind_some]
      by_cases hlen : (l.length : Int) = 2 ^ n.toNat
      · have hpos : (0 : Int) < 2 ^ n.toNat := Int.pow_pos (by decide)
        have e1 : ((l.length : Int) == 2 ^ n.toNat) = true := by simpa using hlen
        rw [e1, cond_true, grd_pos ⟨by omega, by omega⟩]
        congr 1
        have h0 : (0 : Int).toNat = 0 := rfl
        rw [h0]
        by_cases hz : l.getD 0 0 = 0
        · have hv : Valid n l := ⟨hn, hlen, hz, fun i hi => by simpa using h1 i hi⟩
          rw [hz]
          simp [validB, hv]
        · have hv : ¬ Valid n l := fun h => hz h.2.2.1
          simp only [validB, hv, decide_false]
          simpa using hz
      · have e1 : ((l.length : Int) == 2 ^ n.toNat) = false := by simpa using hlen
        have hv : ¬ Valid n l := fun h => hlen h.2.1
        rw [e1, cond_false]
        simp [validB, hv]
    · have hv : ¬ Valid n l := fun h => hn h.1
      rw [decide_eq_false hn]
      simp [validB, hv]
  · rw [h3]
    have hv : ¬ Valid n l := fun h => by
      have := h.2.2.2 i h1
      simp only [decide_eq_false_iff_not] at h2
      exact h2 this
    simp [validB, hv]
theorem contains_eq (l : List Int) (hl : l.length ≤ 1048576) : ∃ r, m_slices_ContainsFunc_int_int_impl_IsValidGame_1 l = some r ∧ (r = false ↔ ∀ i, i < l.length → -500 ≤ l.getD i 0 ∧ l.getD i 0 ≤ 500) := by
  unfold m_slices_ContainsFunc_int_int_impl_IsValidGame_1 m_slices_IndexFunc_int_int_impl_IsValidGame_1
  have hm : ∀ x, m_impl_IsValidGame_1 x = some (!decide (-500 ≤ x ∧ x ≤ 500)) := fun x => by
    unfold m_impl_IsValidGame_1
    rw [within_eq]
    rfl
  have hit := iter_first (step := l_slices_IndexFunc_int_int_impl_IsValidGame_1_0 l) (fun i => (i : Int)) l.length (fun i => decide (-500 ≤ l.getD i 0 ∧ l.getD i 0 ≤ 500)) (a := .inl ()) (fun i => .inr (i : Int))
    (fun i hi hp => by
      have hi' : (i : Int) < l.length := by omega
      unfold l_slices_IndexFunc_int_int_impl_IsValidGame_1_0
      rw [decide_eq_true hi', cond_true, grd_pos ⟨by omega, hi'⟩, hm, Int.toNat_natCast, hp, Option.bind_some, Bool.not_true, cond_false, w64' (by omega) (by omega)]
      rfl)
    (fun i hi hp => by
      have hi' : (i : Int) < l.length := by omega
      unfold l_slices_IndexFunc_int_int_impl_IsValidGame_1_0
      rw [decide_eq_true hi', cond_true, grd_pos ⟨by omega, hi'⟩, hm, Int.toNat_natCast, hp]
      rfl)
    (by
      unfold l_slices_IndexFunc_int_int_impl_IsValidGame_1_0
      rw [decide_eq_false (by omega)]
      rfl)
  simp only [Int.ofNat_eq_natCast, Int.natCast_zero] at hit
  rcases hit with ⟨h1, h2⟩ | ⟨i, h1, h2, h3⟩
  · rw [h2]
    exact ⟨false, rfl, by simpa using h1⟩
  · rw [h3]
    refine ⟨true, by simp, ?_⟩
    simp only [reduceCtorEq, false_iff]
    intro h
    simp only [decide_eq_false_iff_not] at h2
    exact h2 (h i h1)
theorem impl_valid (n : Int) (l : List Int) (hl : l.length ≤ 1048576) : m_impl_IsValidGame n l = some (validB n l) := by
  unfold m_impl_IsValidGame
  rw [within_eq]
  by_cases hn : 1 ≤ n ∧ n ≤ 5
  · rw [decide_eq_true hn, Option.bind_some, Bool.not_true, cond_false, grd_pos (by omega)]
    have hw : IntKind.i64.wrap ((1 : Int) * 2 ^ (min n.toNat 64)) = 2 ^ n.toNat := by
      have : n = 1 ∨ n = 2 ∨ n = 3 ∨ n = 4 ∨ n = 5 := by omega
      rcases this with rfl | rfl | rfl | rfl | rfl <;> decide
    rw [hw]
    by_cases hlen : (l.length : Int) = 2 ^ n.toNat
    · have hpos : (0 : Int) < 2 ^ n.toNat := Int.pow_pos (by decide)
      have e1 : ((l.length : Int) != 2 ^ n.toNat) = false := by simpa using hlen
      rw [e1, cond_false, grd_pos ⟨by omega, by omega⟩]
      have h0 : (0 : Int).toNat = 0 := rfl
      rw [h0]
      by_cases hz : l.getD 0 0 = 0
      · have e2 : (l.getD 0 0 != 0) = false := by simpa using hz
        rw [e2, cond_false]
        obtain ⟨r, h1, h2⟩ := contains_eq l hl
        rw [h1, Option.bind_some]
        congr 1
        by_cases hr : r = false
        · have hv : Valid n l := ⟨hn, hlen, hz, h2.1 hr⟩
          simp [validB, hv, hr]
        · have hv : ¬ Valid n l := fun h => hr (h2.2 h.2.2.2)
          have hr' : r = true := by cases r <;> simp at hr ⊢
          simp [validB, hv, hr']
      · have e2 : (l.getD 0 0 != 0) = true := by simpa using hz
        have hv : ¬ Valid n l := fun h => hz h.2.2.1
        rw [e2]
        simp [validB, hv]
    · have e1 : ((l.length : Int) != 2 ^ n.toNat) = true := by simpa using hlen
      have hv : ¬ Valid n l := fun h => hlen h.2.1
      rw [e1]
      simp [validB, hv]
  · have hv : ¬ Valid n l := fun h => hn h.1
    rw [decide_eq_false hn]
    simp [validB, hv]
theorem iter_find {S A : Type} {step : S → Option (S ⊕ A)} (st : Nat → S) (n : Nat) (p : Nat → Bool) (a : A) (b : Nat → A)
    (hs : ∀ i, i < n → step (st i) = some (if p i = true then .inr (b i) else .inl (st (i + 1)))) (hd : step (st n) = some (.inr a)) :
    iter step (st 0) = some (match (List.range n).find? p with
      | some i => b i
      | none => a) := by
  have key : ∀ k, k ≤ n → iter step (st (n - k)) = some (match (List.range' (n - k) k).find? p with
      | some i => b i
      | none => a) := by
    intro k
    induction k with
    | zero => intro _; simpa using iter_done hd
    | succ k ih =>
      intro hk
      have h1 := hs (n - (k + 1)) (by omega)
      rw [List.range'_succ, List.find?_cons]
      cases hp : p (n - (k + 1)) with
      | true =>
        rw [if_pos hp] at h1
        exact iter_done h1
      | false =>
        rw [if_neg (by simp [hp])] at h1
        rw [iter_next h1, show n - (k + 1) + 1 = n - k by omega]
        exact ih (by omega)
  have := key n (Nat.le_refl _)
  rw [Nat.sub_self, ← List.range_eq_range'] at this
  exact this
def tab {α : Type} (f : Nat → α) (n : Nat) : List α := (List.range n).map f
theorem tab_succ {α : Type} (f : Nat → α) (n : Nat) : tab f (n + 1) = tab f n ++ [f n] := by simp [tab, List.range_succ]
theorem tab_length {α : Type} (f : Nat → α) (n : Nat) : (tab f n).length = n := by simp [tab]
theorem tab_getD {α : Type} (f : Nat → α) (n : Nat) (d : α) (i : Nat) (h : i < n) : (tab f n).getD i d = f i := by
  simp [tab, List.getD, List.getElem?_map, List.getElem?_range h]
def fil {α : Type} (p : Nat → Bool) (f : Nat → α) (n : Nat) : List α := ((List.range n).filter p).map f
theorem fil_succ {α : Type} (p : Nat → Bool) (f : Nat → α) (n : Nat) : fil p f (n + 1) = if p n = true then fil p f n ++ [f n] else fil p f n := by
  simp only [fil, List.range_succ, List.filter_append]
  by_cases h : p n = true
  · simp [h]
  · simp [h]
theorem fil_length {α : Type} (p : Nat → Bool) (f : Nat → α) (n : Nat) : (fil p f n).length ≤ n := by
  simp only [fil, List.length_map]
  exact Nat.le_trans (List.length_filter_le _ _) (by simp)
def sm (f : Nat → Int) : Nat → Int
  | 0 => 0
  | n + 1 => sm f n + f n
theorem getD_nat {α : Type} (l : List α) (i : Nat) (d : α) : l.getD (i : Int).toNat d = l.getD i d := by rw [Int.toNat_natCast]
def validQ (a b : Int) : Bool := decide (1 ≤ b ∧ b ≤ 1000000000 ∧ -1000000000 ≤ a ∧ a ≤ 1000000000 ∧ Int.gcd a b = 1)
theorem gcd_loop (m n : Nat) : iter l_spec_l3Gcd_0 ((m : Int), (n : Int)) = some ((Nat.gcd m n : Nat) : Int) := by
  induction n using Nat.strongRecOn generalizing m with
  | _ n ih =>
    by_cases h : n = 0
    · subst h
      rw [iter_done (a := (m : Int))]
      · simp
      · simp [l_spec_l3Gcd_0]
    · have hs : l_spec_l3Gcd_0 ((m : Int), (n : Int)) = some (.inl ((n : Int), ((m % n : Nat) : Int))) := by
        unfold l_spec_l3Gcd_0
        dsimp only
        rw [decide_eq_true (by omega), cond_true, grd_pos (by omega)]
        rfl
      rw [iter_next hs, ih (m % n) (Nat.mod_lt _ (by omega)) n, Nat.gcd_comm n (m % n), ← Nat.gcd_rec n m, Nat.gcd_comm n m]
theorem spec_gcd (a b : Int) (ha : -9223372036854775807 ≤ a ∧ a ≤ 9223372036854775807) (hb : -9223372036854775807 ≤ b ∧ b ≤ 9223372036854775807) : m_spec_l3Gcd a b = some ((Int.gcd a b : Nat) : Int) := by
  unfold m_spec_l3Gcd
  have e1 : l_spec_l3Gcd_1 = l_spec_l3Gcd_0 := rfl
  have e2 : l_spec_l3Gcd_2 = l_spec_l3Gcd_0 := rfl
  have e3 : l_spec_l3Gcd_3 = l_spec_l3Gcd_0 := rfl
  rw [e1, e2, e3]
  have ea : (if a < 0 then IntKind.i64.wrap (0 - a) else a) = (a.natAbs : Int) := by
    by_cases h : a < 0
    · rw [if_pos h, w64' (by omega) (by omega)]; omega
    · rw [if_neg h]; omega
  have eb : (if b < 0 then IntKind.i64.wrap (0 - b) else b) = (b.natAbs : Int) := by
    by_cases h : b < 0
    · rw [if_pos h, w64' (by omega) (by omega)]; omega
    · rw [if_neg h]; omega
  have key := gcd_loop a.natAbs b.natAbs
  rw [← ea, ← eb] at key
  have hg : Nat.gcd a.natAbs b.natAbs = Int.gcd a b := rfl
  rw [hg] at key
  by_cases h1 : a < 0 <;> by_cases h2 : b < 0 <;> simp only [h1, h2, if_true, if_false, decide_true, decide_false, cond_true, cond_false] at key ⊢ <;> rw [key] <;> rfl
theorem common_loop : ∀ (N : Nat) (a b : Int), b.natAbs ≤ N → ∃ x, iter l_impl_common_0 (a, b) = some x ∧ x.natAbs = Int.gcd a b := by
  intro N
  induction N with
  | zero =>
    intro a b h
    have hb : b = 0 := by omega
    subst hb
    exact ⟨a, iter_done (by simp [l_impl_common_0]), by simp⟩
  | succ N ih =>
    intro a b h
    by_cases hb : b = 0
    · subst hb
      exact ⟨a, iter_done (by simp [l_impl_common_0]), by simp⟩
    · have hs : l_impl_common_0 (a, b) = some (.inl (b, a.tmod b)) := by
        unfold l_impl_common_0
        have : (b != 0) = true := by simpa using hb
        dsimp only
        rw [this, cond_true, grd_pos hb]
      have hlt : (a.tmod b).natAbs < b.natAbs := by
        rw [Int.natAbs_tmod]
        exact Nat.mod_lt _ (by omega)
      obtain ⟨x, h1, h2⟩ := ih b (a.tmod b) (by omega)
      refine ⟨x, by rw [iter_next hs, h1], ?_⟩
      rw [h2]
      show Nat.gcd b.natAbs (a.tmod b).natAbs = Nat.gcd a.natAbs b.natAbs
      rw [Int.natAbs_tmod, Nat.gcd_comm b.natAbs, ← Nat.gcd_rec, Nat.gcd_comm]
theorem gcd_le (a b : Int) : Int.gcd a b ≤ a.natAbs ∨ Int.gcd a b ≤ b.natAbs := by
  by_cases hb : b = 0
  · subst hb; left; simp
  · right
    exact Nat.le_of_dvd (by omega) (Int.gcd_dvd_natAbs_right a b)
theorem impl_common (a b : Int) (ha : -9223372036854775807 ≤ a ∧ a ≤ 9223372036854775807) (hb : -9223372036854775807 ≤ b ∧ b ≤ 9223372036854775807) : m_impl_common a b = some ((Int.gcd a b : Nat) : Int) := by
  unfold m_impl_common
  obtain ⟨x, h1, h2⟩ := common_loop _ a b (Nat.le_refl _)
  have h3 := gcd_le a b
  rw [h1, Option.bind_some]
  dsimp only
  rw [w64' (by omega) (by omega)]
  congr 1
  split <;> omega
theorem spec_validRat (a b : Int) : m_spec_IsValidRat a b = some (validQ a b) := by
  unfold m_spec_IsValidRat
  rw [in_eq, Option.bind_some]
  by_cases hb : 1 ≤ b ∧ b ≤ 1000000000
  · rw [decide_eq_true hb, cond_true, in_eq, Option.bind_some]
    by_cases ha : -1000000000 ≤ a ∧ a ≤ 1000000000
    · rw [decide_eq_true ha, cond_true, spec_gcd a b (by omega) (by omega), Option.bind_some]
      congr 1
      by_cases hg : Int.gcd a b = 1
      · simp [validQ, hg, ha, hb]
      · have : ¬ ((Int.gcd a b : Nat) : Int) = 1 := by omega
        simp [validQ, hg, this]
    · rw [decide_eq_false ha, cond_false]
      have : ¬ (1 ≤ b ∧ b ≤ 1000000000 ∧ -1000000000 ≤ a ∧ a ≤ 1000000000 ∧ Int.gcd a b = 1) := fun h => ha ⟨h.2.2.1, h.2.2.2.1⟩
      rw [validQ, decide_eq_false this]
  · rw [decide_eq_false hb, cond_false]
    have : ¬ (1 ≤ b ∧ b ≤ 1000000000 ∧ -1000000000 ≤ a ∧ a ≤ 1000000000 ∧ Int.gcd a b = 1) := fun h => hb ⟨h.1, h.2.1⟩
    rw [validQ, decide_eq_false this]
theorem impl_validRat (a b : Int) : m_impl_IsValidRat a b = some (validQ a b) := by
  rw [← spec_validRat]
  unfold m_impl_IsValidRat m_spec_IsValidRat
  rw [in_eq, within_eq, Option.bind_some, Option.bind_some]
  by_cases hb : 1 ≤ b ∧ b ≤ 1000000000
  · rw [decide_eq_true hb, cond_true, cond_true, in_eq, within_eq, Option.bind_some, Option.bind_some]
    by_cases ha : -1000000000 ≤ a ∧ a ≤ 1000000000
    · rw [decide_eq_true ha, cond_true, cond_true, spec_gcd a b (by omega) (by omega), impl_common a b (by omega) (by omega)]
    · rw [decide_eq_false ha]
      rfl
  · rw [decide_eq_false hb]
    rfl
theorem validQ_bd {a b : Int} (h : validQ a b = true) : 1 ≤ b ∧ b ≤ 1000000000 ∧ -1000000000 ≤ a ∧ a ≤ 1000000000 ∧ Int.gcd a b = 1 := by simpa [validQ] using h
theorem mul_bd {x y : Int} (hx : -1000000000 ≤ x ∧ x ≤ 1000000000) (hy : -1000000000 ≤ y ∧ y ≤ 1000000000) : -1000000000000000000 ≤ x * y ∧ x * y ≤ 1000000000000000000 := by
  have h1 : (x * y).natAbs ≤ 1000000000 * 1000000000 := by
    rw [Int.natAbs_mul]
    exact Nat.mul_le_mul (by omega) (by omega)
  omega
instance : DecidableEq Q := fun a b =>
  if h1 : a.num = b.num then
    if h2 : a.den = b.den then isTrue (by cases a; cases b; simp only at h1 h2; rw [h1, h2])
    else isFalse (fun h => h2 (by rw [h]))
  else isFalse (fun h => h1 (by rw [h]))
theorem Q_ext {a b : Q} : a = b ↔ a.num = b.num ∧ a.den = b.den := ⟨fun h => by rw [h]; exact ⟨rfl, rfl⟩, fun h => by cases a; cases b; simp only at h; rw [h.1, h.2]⟩
theorem eq_find {α : Type} [DecidableEq α] (d : α) (a b : List α) (hl : a.length = b.length) : (match (List.range a.length).find? (fun i => !decide (a.getD i d = b.getD i d)) with
      | some _ => (.inr false : Unit ⊕ Bool)
      | none => .inl ()) = if a = b then .inl () else .inr false := by
  cases h : (List.range a.length).find? (fun i => !decide (a.getD i d = b.getD i d)) with
  | none =>
    rw [List.find?_eq_none] at h
    rw [if_pos (eq_of_all d hl fun i hi => by simpa using h i (List.mem_range.2 hi))]
  | some i =>
    have h1 := List.find?_some h
    simp only [Bool.not_eq_true', decide_eq_false_iff_not] at h1
    rw [if_neg fun e => h1 (by rw [e])]
theorem spec_eqv (a b : List Q) (ha : a.length ≤ 1048576) : m_spec_EqualVector a b = some (decide (a = b)) := by
  unfold m_spec_EqualVector
  by_cases hl : a.length = b.length
  · have e : ((a.length : Int) != (b.length : Int)) = false := by simp [hl]
    have hit := iter_find (step := l_spec_EqualVector_0 a b) (fun i => (i : Int)) a.length (fun i => !decide (a.getD i ⟨0, 0⟩ = b.getD i ⟨0, 0⟩)) (.inl ()) (fun _ => .inr false)
      (fun i hi => by
        unfold l_spec_EqualVector_0
        rw [decide_eq_true (by omega), cond_true, grd_pos ⟨by omega, by omega⟩, grd_pos ⟨by omega, by omega⟩, getD_nat, getD_nat, w64' (by omega) (by omega)]
        by_cases hq : a.getD i ⟨0, 0⟩ = b.getD i ⟨0, 0⟩
        · have hn : ((a.getD i ⟨0, 0⟩).num == (b.getD i ⟨0, 0⟩).num && (a.getD i ⟨0, 0⟩).den == (b.getD i ⟨0, 0⟩).den) = true := by
            rw [hq]
            simp
          rw [hn, decide_eq_true hq]
          rfl
        · have hn : ((a.getD i ⟨0, 0⟩).num == (b.getD i ⟨0, 0⟩).num && (a.getD i ⟨0, 0⟩).den == (b.getD i ⟨0, 0⟩).den) = false := by
            rw [← Bool.not_eq_true]
            simp only [Bool.and_eq_true, beq_iff_eq]
            exact fun h => hq (Q_ext.2 h)
          rw [hn, decide_eq_false hq]
          rfl)
      (by
        unfold l_spec_EqualVector_0
        rw [decide_eq_false (by omega)]
        rfl)
    rw [eq_find _ a b hl] at hit
    simp only [Int.natCast_zero] at hit
    rw [e, cond_false, hit]
    by_cases hab : a = b
    · simp [hab]
    · simp [hab]
  · have e : ((a.length : Int) != (b.length : Int)) = true := by
      simp only [bne_iff_ne, ne_eq]
      omega
    have : ¬ a = b := fun e => hl (by rw [e])
    rw [e]
    simp [this]
theorem count0 (n : Nat) (h : n ≤ 5) : m_spec_CountCoalitions (n : Int) = some (2 ^ n) := by
  rcases Nat.eq_zero_or_pos n with rfl | h1
  · unfold m_spec_CountCoalitions
    rw [in_eq, decide_eq_true (by omega), Option.bind_some, Bool.not_true, cond_false]
    rw [iter_done (a := (1 : Int)) (by simp [l_spec_CountCoalitions_0])]
    rfl
  · rw [count_eq (n : Int) (by omega) (by omega)]
    simp
theorem bit2 (k : Nat) (h : k < 5) : m_spec_l2Bit (k : Int) = some (2 ^ k) := by
  unfold m_spec_l2Bit
  rw [count0 k (by omega)]
  rfl
theorem and_tab : ∀ s : Fin 32, ∀ k : Fin 5, bitsOf .and .i64 (((s.val : Nat) : Int).fdiv (2 ^ (min ((k.val : Nat) : Int).toNat 64))) 1 = if s.val.testBit k.val then 1 else 0 := by decide +kernel
theorem has_tab : ∀ s : Fin 32, ∀ k : Fin 5, ((IntKind.i64.wrap (((s.val : Nat) : Int).tdiv (2 ^ k.val))).tmod 2 == 1) = s.val.testBit k.val := by decide +kernel
theorem shl_tab : ∀ k : Fin 6, IntKind.i64.wrap (1 * 2 ^ (min ((k.val : Nat) : Int).toNat 64)) = ((2 ^ k.val : Nat) : Int) := by decide +kernel
theorem add_tab : ∀ s : Fin 32, ∀ k : Fin 5, s.val.testBit k.val = false → s.val + 2 ^ k.val = s.val ||| 2 ^ k.val := by decide +kernel
theorem and_eq (s k : Nat) (hs : s < 32) (hk : k < 5) : bitsOf .and .i64 ((s : Int).fdiv (2 ^ (min (k : Int).toNat 64))) 1 = if s.testBit k then 1 else 0 := and_tab ⟨s, hs⟩ ⟨k, hk⟩
theorem shl_eq (k : Nat) (hk : k < 6) : IntKind.i64.wrap (1 * 2 ^ (min (k : Int).toNat 64)) = ((2 ^ k : Nat) : Int) := shl_tab ⟨k, hk⟩
theorem add_eq (s k : Nat) (hs : s < 32) (hk : k < 5) (h : s.testBit k = false) : s + 2 ^ k = s ||| 2 ^ k := add_tab ⟨s, hs⟩ ⟨k, hk⟩ h
theorem spec_has (s k : Nat) (hs : s < 32) (hk : k < 5) : m_spec_HasPlayer (s : Int) (k : Int) = some (s.testBit k) := by
  unfold m_spec_HasPlayer
  have hp : (0 : Int) < 2 ^ k := Int.pow_pos (by decide)
  rw [in_eq, decide_eq_true (by omega), Option.bind_some, cond_true, decide_eq_true (by omega), cond_true, bit2 k hk, Option.bind_some, grd_pos (by omega), grd_pos (by decide)]
  rw [← has_tab ⟨s, hs⟩ ⟨k, hk⟩]
/-- a valid game, in natural numbers -/
theorem valid_nat {n : Int} {l : List Int} (h : Valid n l) : ∃ N : Nat, n = (N : Int) ∧ 1 ≤ N ∧ N ≤ 5 ∧ l.length = 2 ^ N ∧ l.length ≤ 32 := by
  obtain ⟨h1, h2, _⟩ := h
  have hn : n = 1 ∨ n = 2 ∨ n = 3 ∨ n = 4 ∨ n = 5 := by omega
  refine ⟨n.toNat, by omega, by omega, by omega, ?_, ?_⟩
  · rcases hn with rfl | rfl | rfl | rfl | rfl <;> simp at h2 ⊢ <;> omega
  · rcases hn with rfl | rfl | rfl | rfl | rfl <;> simp at h2 ⊢ <;> omega
theorem validB_eq (n : Int) (l : List Int) : validB n l = true ↔ Valid n l := by simp [validB]
theorem pow_le32 {N : Nat} (h : N ≤ 5) : 2 ^ N ≤ 32 := by
  have : N = 0 ∨ N = 1 ∨ N = 2 ∨ N = 3 ∨ N = 4 ∨ N = 5 := by omega
  rcases this with rfl | rfl | rfl | rfl | rfl | rfl <;> decide
def dv (v : Int) (o : List Int) (s : Nat) : Nat → Int
  | 0 => v
  | t + 1 => if t &&& s = t then IntKind.i64.wrap (dv v o s t - o.getD t 0) else dv v o s t
def divs (l : List Int) : Nat → List Int
  | 0 => []
  | s + 1 => divs l s ++ [dv (l.getD s 0) (divs l s) s s]
theorem divs_length (l : List Int) : ∀ s, (divs l s).length = s
  | 0 => rfl
  | s + 1 => by simp [divs, divs_length l s]
theorem good_eq (a : Nat) (ha : a < 32) : m_spec_l2Good (a : Int) = some true := by
  unfold m_spec_l2Good
  rw [in_eq, decide_eq_true (by omega)]
  rfl
theorem first_bad (n : Nat) (P : Nat → Prop) : (∀ i, i < n → P i) ∨ ∃ t, t < n ∧ ¬ P t ∧ ∀ i, i < t → P i := by
  by_cases h : ∀ i, i < n → P i
  · exact .inl h
  · have h' : ∃ t, t < n ∧ ¬ P t := by
      simp only [Classical.not_forall] at h
      obtain ⟨i, h1, h2⟩ := h
      exact ⟨i, h1, h2⟩
    obtain ⟨t, ⟨h1, h2⟩, h3⟩ := least h'
    refine .inr ⟨t, h1, h2, fun i hi => ?_⟩
    by_cases hp : P i
    · exact hp
    · have := h3 i ⟨by omega, hp⟩
      omega
def ratOf (n d : Int) : Int × Int × Bool :=
  if d = 0 ∨ ¬ (-1000000000000000000 ≤ n ∧ n ≤ 1000000000000000000) ∨ ¬ (-1000000000000000000 ≤ d ∧ d ≤ 1000000000000000000) then (0, 0, false)
  else if validQ ((if d < 0 then -n else n).tdiv (Int.gcd n d : Nat)) ((if d < 0 then -d else d).tdiv (Int.gcd n d : Nat)) = true then ((if d < 0 then -n else n).tdiv (Int.gcd n d : Nat), (if d < 0 then -d else d).tdiv (Int.gcd n d : Nat), true) else (0, 0, false)
theorem tdiv_bd (n : Int) (g : Nat) : -(n.natAbs : Int) ≤ n.tdiv g ∧ n.tdiv g ≤ n.natAbs := by
  have h : (n.tdiv g).natAbs ≤ n.natAbs := by
    rw [Int.natAbs_tdiv]
    exact Nat.div_le_self _ _
  omega
theorem gcd_pos' {n d : Int} (h : d ≠ 0) : 0 < Int.gcd n d := Int.gcd_pos_of_ne_zero_right n h
theorem spec_ratOf (n d : Int) : m_spec_RatOf n d = some (ratOf n d) := by
  unfold m_spec_RatOf ratOf
  by_cases h0 : d = 0
  · simp [h0]
  · have e0 : (d == 0) = false := by simpa using h0
    rw [e0, cond_false, in_eq, in_eq, Option.bind_some, Option.bind_some]
    by_cases h1 : -1000000000000000000 ≤ n ∧ n ≤ 1000000000000000000
    · by_cases h2 : -1000000000000000000 ≤ d ∧ d ≤ 1000000000000000000
      · have hc : ¬ (d = 0 ∨ ¬ (-1000000000000000000 ≤ n ∧ n ≤ 1000000000000000000) ∨ ¬ (-1000000000000000000 ≤ d ∧ d ≤ 1000000000000000000)) := fun h => by
          rcases h with h | h | h
          · exact h0 h
          · exact h h1
          · exact h h2
        have hg := gcd_pos' (n := n) h0
        rw [if_neg hc, decide_eq_true h1, decide_eq_true h2, Bool.not_true, cond_false, cond_false]
        by_cases h3 : d < 0
        · have b1 := tdiv_bd (-n) (Int.gcd n d)
          have b2 := tdiv_bd (-d) (Int.gcd n d)
          have z1 : IntKind.i64.wrap (0 - n) = -n := by rw [w64' (by omega) (by omega)]; omega
          have z2 : IntKind.i64.wrap (0 - d) = -d := by rw [w64' (by omega) (by omega)]; omega
          rw [decide_eq_true h3, cond_true, z1, z2, spec_gcd _ _ (by omega) (by omega), Int.neg_gcd, Int.gcd_neg, Option.bind_some, grd_pos (by omega), grd_pos (by omega), w64' (n := (-n).tdiv _) (by omega) (by omega), w64' (n := (-d).tdiv _) (by omega) (by omega), spec_validRat, Option.bind_some]
          simp only [if_pos h3]
          cases validQ ((-n).tdiv (Int.gcd n d : Nat)) ((-d).tdiv (Int.gcd n d : Nat)) <;> rfl
        · have b1 := tdiv_bd n (Int.gcd n d)
          have b2 := tdiv_bd d (Int.gcd n d)
          rw [decide_eq_false h3, cond_false, spec_gcd _ _ (by omega) (by omega), Option.bind_some, grd_pos (by omega), grd_pos (by omega), w64' (n := n.tdiv _) (by omega) (by omega), w64' (n := d.tdiv _) (by omega) (by omega), spec_validRat, Option.bind_some]
          simp only [if_neg h3]
          cases validQ (n.tdiv (Int.gcd n d : Nat)) (d.tdiv (Int.gcd n d : Nat)) <;> rfl
      · rw [if_pos (.inr (.inr h2)), decide_eq_true h1, decide_eq_false h2]
        rfl
    · rw [if_pos (.inr (.inl h1)), decide_eq_false h1]
      rfl
theorem impl_ratOf (n d : Int) : m_impl_RatOf n d = some (ratOf n d) := by
  unfold m_impl_RatOf ratOf
  by_cases h0 : d = 0
  · simp [h0]
  · have e0 : (d == 0) = false := by simpa using h0
    rw [e0, cond_false, within_eq, within_eq, Option.bind_some, Option.bind_some]
    by_cases h1 : -1000000000000000000 ≤ n ∧ n ≤ 1000000000000000000
    · by_cases h2 : -1000000000000000000 ≤ d ∧ d ≤ 1000000000000000000
      · have hc : ¬ (d = 0 ∨ ¬ (-1000000000000000000 ≤ n ∧ n ≤ 1000000000000000000) ∨ ¬ (-1000000000000000000 ≤ d ∧ d ≤ 1000000000000000000)) := fun h => by
          rcases h with h | h | h
          · exact h0 h
          · exact h h1
          · exact h h2
        have hg := gcd_pos' (n := n) h0
        have hgl := gcd_le n d
        rw [if_neg hc, decide_eq_true h1, decide_eq_true h2, Bool.not_true, cond_false, cond_false, impl_common _ _ (by omega) (by omega), Option.bind_some]
        by_cases h3 : d < 0
        · have b1 := tdiv_bd (-n) (Int.gcd n d)
          have b2 := tdiv_bd (-d) (Int.gcd n d)
          have z1 : IntKind.i64.wrap (0 - ((Int.gcd n d : Nat) : Int)) = -((Int.gcd n d : Nat) : Int) := by rw [w64' (by omega) (by omega)]; omega
          rw [decide_eq_true h3, cond_true, z1, grd_pos (by omega), grd_pos (by omega), Int.tdiv_neg, Int.tdiv_neg, ← Int.neg_tdiv, ← Int.neg_tdiv, w64' (n := (-n).tdiv _) (by omega) (by omega), w64' (n := (-d).tdiv _) (by omega) (by omega), impl_validRat, Option.bind_some]
          simp only [if_pos h3]
          cases validQ ((-n).tdiv (Int.gcd n d : Nat)) ((-d).tdiv (Int.gcd n d : Nat)) <;> rfl
        · have b1 := tdiv_bd n (Int.gcd n d)
          have b2 := tdiv_bd d (Int.gcd n d)
          rw [decide_eq_false h3, cond_false, grd_pos (by omega), grd_pos (by omega), w64' (n := n.tdiv _) (by omega) (by omega), w64' (n := d.tdiv _) (by omega) (by omega), impl_validRat, Option.bind_some]
          simp only [if_neg h3]
          cases validQ (n.tdiv (Int.gcd n d : Nat)) (d.tdiv (Int.gcd n d : Nat)) <;> rfl
      · rw [if_pos (.inr (.inr h2)), decide_eq_true h1, decide_eq_false h2]
        rfl
    · rw [if_pos (.inr (.inl h1)), decide_eq_false h1]
      rfl
def addQ (a b c d : Int) : Int × Int × Bool := if validQ a b = true ∧ validQ c d = true then ratOf (a * d + c * b) (b * d) else (0, 0, false)
def subQ (a b c d : Int) : Int × Int × Bool := if validQ a b = true ∧ validQ c d = true then ratOf (a * d - c * b) (b * d) else (0, 0, false)
def divQ (a b c d : Int) : Int × Int × Bool := if validQ a b = true ∧ validQ c d = true then ratOf (a * d) (b * c) else (0, 0, false)
theorem prodBd {a b c d : Int} (v1 : validQ a b = true) (v2 : validQ c d = true) : (-1000000000000000000 ≤ a * d ∧ a * d ≤ 1000000000000000000) ∧ (-1000000000000000000 ≤ c * b ∧ c * b ≤ 1000000000000000000) ∧ (-1000000000000000000 ≤ b * d ∧ b * d ≤ 1000000000000000000) ∧ (-1000000000000000000 ≤ a * c ∧ a * c ≤ 1000000000000000000) ∧ (-1000000000000000000 ≤ b * c ∧ b * c ≤ 1000000000000000000) := by
  have h1 := validQ_bd v1
  have h2 := validQ_bd v2
  exact ⟨mul_bd (by omega) (by omega), mul_bd (by omega) (by omega), mul_bd (by omega) (by omega), mul_bd (by omega) (by omega), mul_bd (by omega) (by omega)⟩
theorem spec_add (a b c d : Int) : m_spec_AddRat a b c d = some (addQ a b c d) := by
  unfold m_spec_AddRat addQ
  rw [spec_validRat, spec_validRat]
  cases h1 : validQ a b with
  | false => rfl
  | true =>
    cases h2 : validQ c d with
    | false => rfl
    | true =>
      obtain ⟨b1, b2, b3, _⟩ := prodBd h1 h2
      simp only [Option.bind_some, Bool.not_true, cond_false, and_self, if_true]
      rw [w64' (n := a * d) (by omega) (by omega), w64' (n := c * b) (by omega) (by omega), w64' (by omega) (by omega), w64' (by omega) (by omega), spec_ratOf]
      rfl
theorem impl_add (a b c d : Int) : m_impl_AddRat a b c d = some (addQ a b c d) := by
  rw [← spec_add]
  unfold m_impl_AddRat m_spec_AddRat
  rw [spec_validRat, spec_validRat, impl_validRat, impl_validRat, spec_ratOf, impl_ratOf]
theorem impl_has (s k : Nat) (hs : s < 32) (hk : k < 5) : m_impl_HasPlayer (s : Int) (k : Int) = some (s.testBit k) := by
  unfold m_impl_HasPlayer
  rw [decide_eq_true (by omega), cond_true, within_eq, decide_eq_true (by omega), Option.bind_some, cond_true, grd_pos (by omega), and_eq s k hs hk]
  cases s.testBit k <;> rfl
def mems (s : Nat) : List Int := fil s.testBit (fun k => (k : Int)) 5
theorem spec_members (s : Nat) (hs : s < 32) : m_spec_MembersOf (s : Int) = some (mems s) := by
  unfold m_spec_MembersOf
  have hit := iter_up (step := l_spec_MembersOf_0 (s : Int)) (fun k => ((k : Int), fil s.testBit (fun k => (k : Int)) k)) 5 (a := mems s) (fun k hk => by
      have hb := fil_length s.testBit (fun k => (k : Int)) k
      unfold l_spec_MembersOf_0
      dsimp only
      rw [decide_eq_true (by omega), cond_true, good_eq s hs, Option.bind_some, cond_true, spec_has s k hs hk, Option.bind_some, w64' (by omega) (by omega), fil_succ, grd_pos (by simp only [List.length_singleton, room]; omega)]
      cases s.testBit k <;> rfl)
    (by unfold l_spec_MembersOf_0; dsimp only; rw [decide_eq_false (by omega)]; rfl)
  have e : fil s.testBit (fun k => (k : Int)) 0 = [] := rfl
  simp only [Int.natCast_zero, e] at hit
  rw [hit]
  rfl
theorem impl_members (s : Nat) (hs : s < 32) : m_impl_MembersOf (s : Int) = some (mems s) := by
  unfold m_impl_MembersOf
  have hit := iter_up (step := l_impl_MembersOf_0 (s : Int)) (fun k => ((k : Int), fil s.testBit (fun k => (k : Int)) k)) 5 (a := mems s) (fun k hk => by
      have hb := fil_length s.testBit (fun k => (k : Int)) k
      unfold l_impl_MembersOf_0
      dsimp only
      rw [decide_eq_true (by omega), cond_true, impl_has s k hs hk, Option.bind_some, w64' (by omega) (by omega), fil_succ, grd_pos (by simp only [List.length_singleton, room]; omega)]
      cases s.testBit k <;> rfl)
    (by unfold l_impl_MembersOf_0; dsimp only; rw [decide_eq_false (by omega)]; rfl)
  have e : fil s.testBit (fun k => (k : Int)) 0 = [] := rfl
  simp only [Int.natCast_zero, e] at hit
  rw [within_eq, decide_eq_true (by omega), Option.bind_some, Bool.not_true, cond_false, hit]
  rfl
theorem mems_mem {s : Nat} {m : Int} (h : m ∈ mems s) : ∃ k : Nat, m = (k : Int) ∧ k < 5 ∧ s.testBit k = true := by
  simp only [mems, fil, List.mem_map, List.mem_filter, List.mem_range] at h
  obtain ⟨k, ⟨h1, h2⟩, h3⟩ := h
  exact ⟨k, h3.symm, h1, h2⟩
theorem mems_length (s : Nat) : (mems s).length ≤ 5 := fil_length _ _ _
theorem mems_ne : ∀ s : Fin 32, s.val ≠ 0 → 1 ≤ (mems s.val).length := by decide +kernel
theorem impl_sub (a b c d : Int) : m_impl_SubRat a b c d = some (subQ a b c d) := by
  unfold m_impl_SubRat subQ
  rw [impl_validRat, impl_validRat]
  cases h1 : validQ a b with
  | false => rfl
  | true =>
    cases h2 : validQ c d with
    | false => rfl
    | true =>
      obtain ⟨b1, b2, b3, _⟩ := prodBd h1 h2
      simp only [Option.bind_some, Bool.not_true, cond_false, and_self, if_true]
      rw [w64' (n := a * d) (by omega) (by omega), w64' (n := c * b) (by omega) (by omega), w64' (by omega) (by omega), w64' (by omega) (by omega), impl_ratOf]
      rfl
theorem validQ_int {v : Int} (h : -1000000000 ≤ v ∧ v ≤ 1000000000) : validQ v 1 = true := by
  unfold validQ
  rw [decide_eq_true ⟨by omega, by omega, h.1, h.2, by simp⟩]
theorem div_eq' (a b c d : Int) : m_spec_DivRat a b c d = some (divQ a b c d) := by
  unfold m_spec_DivRat divQ
  rw [spec_validRat, spec_validRat]
  cases h1 : validQ a b with
  | false => rfl
  | true =>
    cases h2 : validQ c d with
    | false => rfl
    | true =>
      obtain ⟨b1, _, _, _, b5⟩ := prodBd h1 h2
      simp only [Option.bind_some, Bool.not_true, cond_false, and_self, if_true]
      rw [w64' (by omega) (by omega), w64' (by omega) (by omega), spec_ratOf]
      rfl
theorem impl_div (a b c d : Int) : m_impl_DivRat a b c d = some (divQ a b c d) := by
  rw [← div_eq']
  unfold m_impl_DivRat m_spec_DivRat
  rw [spec_validRat, spec_validRat, impl_validRat, impl_validRat, spec_ratOf, impl_ratOf]
def potIn (out : List Q) (s : Nat) : List Int → Int → Int → Option (Int × Int)
  | [], a, b => some (a, b)
  | m :: r, a, b => match addQ a b (out.getD (s - 2 ^ m.toNat) ⟨0, 0⟩).num (out.getD (s - 2 ^ m.toNat) ⟨0, 0⟩).den with
    | (c, d, o) => bif o then potIn out s r c d else none
def potStep (l : List Int) (out : List Q) (s : Nat) : Option Q := match potIn out s (mems s) (l.getD s 0) 1 with
  | some (a, b) => match divQ a b (if 1 > ((mems s).length : Int) then 1 else (mems s).length) 1 with
    | (c, d, o) => bif o then some ⟨c, d⟩ else none
  | none => none
def pots (l : List Int) : Nat → List Q
  | 0 => []
  | s + 1 => pots l s ++ [(potStep l (pots l s) s).getD ⟨0, 0⟩]
theorem pots_succ (l : List Int) (s : Nat) : pots l (s + 1) = pots l s ++ [(potStep l (pots l s) s).getD ⟨0, 0⟩] := rfl
theorem pots_length (l : List Int) : ∀ s, (pots l s).length = s
  | 0 => rfl
  | s + 1 => by simp [pots, pots_length l s]
theorem sub_tab : ∀ s : Fin 32, ∀ k : Fin 5, s.val.testBit k.val = true → 2 ^ k.val ≤ s.val ∧ bitsOf .andNot .i64 ((s.val : Nat) : Int) (((2 ^ k.val : Nat)) : Int) = ((s.val - 2 ^ k.val : Nat) : Int) := by decide +kernel
theorem mems_bit (s i : Nat) (h : i < (mems s).length) : ∃ k : Nat, (mems s)[i] = (k : Int) ∧ k < 5 ∧ s.testBit k = true := mems_mem (List.getElem_mem h)
theorem spec_potIn (l : List Int) (out : List Q) (s : Nat) (hs : s < 32) (ho : out.length = s) : ∀ (k i : Nat) (a b : Int), (mems s).length - i = k → i ≤ (mems s).length → iter (l_spec_PotentialOf_1 (s : Int) out (mems s)) ((i : Int), a, b) = some (match potIn out s ((mems s).drop i) a b with
      | some p => .inl p
      | none => .inr []) := by
  have hm5 := mems_length s
  intro k
  induction k with
  | zero =>
    intro i a b h1 h2
    have hnil : (mems s).drop i = [] := List.drop_eq_nil_of_le (by omega)
    rw [hnil]
    refine iter_done ?_
    unfold l_spec_PotentialOf_1
    dsimp only
    rw [decide_eq_false (by omega)]
    rfl
  | succ k ih =>
    intro i a b h1 h2
    have hi : i < (mems s).length := by omega
    obtain ⟨m, e1, e2, e3⟩ := mems_bit s i hi
    obtain ⟨t1, t2⟩ := sub_tab ⟨s, hs⟩ ⟨m, e2⟩ e3
    simp only at t1 t2
    have hp0 : 0 < 2 ^ m := Nat.pow_pos (by decide)
    have hd : (mems s).getD i 0 = (m : Int) := by simp [List.getD, List.getElem?_eq_getElem hi, e1]
    have hg : (0 : Int) ≤ (i : Int) ∧ (i : Int) < ((mems s).length : Int) := by omega
    have e4 : (s : Int) - 2 ^ m = ((s - 2 ^ m : Nat) : Int) := by
      rw [Int.natCast_sub t1]
      simp
    rw [List.drop_eq_getElem_cons hi]
    unfold potIn
    rw [e1, Int.toNat_natCast]
    rcases hq : addQ a b (out.getD (s - 2 ^ m) ⟨0, 0⟩).num (out.getD (s - 2 ^ m) ⟨0, 0⟩).den with ⟨c, d, o⟩
    have hst : l_spec_PotentialOf_1 (s : Int) out (mems s) ((i : Int), a, b) = bif o then some (.inl (((i + 1 : Nat) : Int), c, d)) else some (.inr (.inr [])) := by
      unfold l_spec_PotentialOf_1
      dsimp only
      rw [decide_eq_true (by omega), cond_true, grd_pos hg, getD_nat, hd, bit2 m e2, Option.bind_some, e4, w64' (by omega) (by omega), grd_pos (by omega), getD_nat, spec_add, hq, Option.bind_some]
      dsimp only
      rw [w64' (by omega) (by omega)]
      cases o <;> rfl
    cases o with
    | false =>
      rw [cond_false] at hst
      rw [iter_done hst]
      rfl
    | true =>
      rw [cond_true] at hst
      rw [iter_next hst]
      exact ih (i + 1) c d (by omega) (by omega)
theorem impl_potIn (l : List Int) (out : List Q) (s : Nat) (hs : s < 32) (ho : out.length = s) : ∀ (k i : Nat) (a b : Int), (mems s).length - i = k → i ≤ (mems s).length → iter (l_impl_PotentialOf_1 (s : Int) out (mems s)) ((i : Int), a, b) = some (match potIn out s ((mems s).drop i) a b with
      | some p => .inl p
      | none => .inr []) := by
  have hm5 := mems_length s
  intro k
  induction k with
  | zero =>
    intro i a b h1 h2
    have hnil : (mems s).drop i = [] := List.drop_eq_nil_of_le (by omega)
    rw [hnil]
    refine iter_done ?_
    unfold l_impl_PotentialOf_1
    dsimp only
    rw [decide_eq_false (by omega)]
    rfl
  | succ k ih =>
    intro i a b h1 h2
    have hi : i < (mems s).length := by omega
    obtain ⟨m, e1, e2, e3⟩ := mems_bit s i hi
    obtain ⟨t1, t2⟩ := sub_tab ⟨s, hs⟩ ⟨m, e2⟩ e3
    simp only at t1 t2
    have hp0 : 0 < 2 ^ m := Nat.pow_pos (by decide)
    have hd : (mems s).getD i 0 = (m : Int) := by simp [List.getD, List.getElem?_eq_getElem hi, e1]
    have hg : (0 : Int) ≤ (i : Int) ∧ (i : Int) < ((mems s).length : Int) := by omega
    have hsh := shl_eq m (by omega)
    rw [List.drop_eq_getElem_cons hi]
    unfold potIn
    rw [e1, Int.toNat_natCast]
    rcases hq : addQ a b (out.getD (s - 2 ^ m) ⟨0, 0⟩).num (out.getD (s - 2 ^ m) ⟨0, 0⟩).den with ⟨c, d, o⟩
    have hst : l_impl_PotentialOf_1 (s : Int) out (mems s) ((i : Int), a, b) = bif o then some (.inl (((i + 1 : Nat) : Int), c, d)) else some (.inr (.inr [])) := by
      unfold l_impl_PotentialOf_1
      dsimp only
      rw [decide_eq_true (by omega), cond_true, grd_pos hg, getD_nat, hd, grd_pos (by omega), hsh, t2, grd_pos (by omega), getD_nat, impl_add, hq, Option.bind_some]
      dsimp only
      rw [w64' (by omega) (by omega)]
      cases o <;> rfl
    cases o with
    | false =>
      rw [cond_false] at hst
      rw [iter_done hst]
      rfl
    | true =>
      rw [cond_true] at hst
      rw [iter_next hst]
      exact ih (i + 1) c d (by omega) (by omega)
theorem spec_potStep (N : Nat) (l : List Int) (hv : validB (N : Int) l = true) (s : Nat) (hs : s < l.length) : l_spec_PotentialOf_0 (N : Int) l ((s : Int), pots l s) = some (match potStep l (pots l s) s with
      | some _ => .inl (((s + 1 : Nat) : Int), pots l (s + 1))
      | none => .inr (.inr [])) := by
  obtain ⟨N', hN', _, h2, h3, h4⟩ := valid_nat ((validB_eq _ l).1 hv)
  have hm5 := mems_length s
  have hpl := pots_length l s
  have hin := spec_potIn l (pots l s) s (by omega) hpl _ 0 (l.getD s 0) 1 rfl (by omega)
  rw [List.drop_zero] at hin
  simp only [Int.natCast_zero] at hin
  unfold l_spec_PotentialOf_0 m_spec_l3Int
  dsimp only
  rw [decide_eq_true (by omega), cond_true, spec_valid _ l (by omega), hv, Option.bind_some, cond_true, grd_pos (by omega), getD_nat, Option.bind_some]
  dsimp only
  rw [spec_members s (by omega), Option.bind_some, hin, Option.bind_some]
  rw [pots_succ]
  clear hin
  generalize pots l s = out at hpl ⊢
  unfold potStep
  cases potIn out s (mems s) (l.getD s 0) 1 with
  | none => rfl
  | some p =>
    obtain ⟨a, b⟩ := p
    dsimp only
    have hmx : m_spec_l1Max 1 ((mems s).length : Int) = some (if 1 > ((mems s).length : Int) then (1 : Int) else ((mems s).length : Int)) := by
      unfold m_spec_l1Max
      by_cases h : 1 > ((mems s).length : Int)
      · rw [decide_eq_true h, if_pos h]
        rfl
      · rw [decide_eq_false h, if_neg h]
        rfl
    rw [hmx, Option.bind_some, Option.bind_some]
    dsimp only
    rw [div_eq', Option.bind_some]
    rcases divQ a b (if 1 > ((mems s).length : Int) then 1 else (mems s).length) 1 with ⟨c, d, o⟩
    dsimp only
    cases o with
    | false => rfl
    | true =>
      simp only [Bool.not_true, cond_false, cond_true, Option.getD_some]
      rw [grd_pos (by simp only [hpl, List.length_singleton, room]; omega), w64' (by omega) (by omega)]
      rfl
theorem impl_potStep (l : List Int) (s : Nat) (hs : s < l.length) (h4 : l.length ≤ 32) (hs1 : 1 ≤ s) (hm1 : 1 ≤ (mems s).length) : l_impl_PotentialOf_0 l ((s : Int), pots l s) = some (match potStep l (pots l s) s with
      | some _ => .inl (((s + 1 : Nat) : Int), pots l (s + 1))
      | none => .inr (.inr [])) := by
  have hm5 := mems_length s
  have hpl := pots_length l s
  have hin := impl_potIn l (pots l s) s (by omega) hpl _ 0 (l.getD s 0) 1 rfl (by omega)
  rw [List.drop_zero] at hin
  simp only [Int.natCast_zero] at hin
  unfold l_impl_PotentialOf_0 m_impl_whole
  dsimp only
  rw [decide_eq_true (by omega), cond_true, grd_pos (by omega), getD_nat, Option.bind_some]
  dsimp only
  rw [impl_members s (by omega), Option.bind_some, hin, Option.bind_some]
  rw [pots_succ]
  clear hin
  generalize pots l s = out at hpl ⊢
  unfold potStep
  cases potIn out s (mems s) (l.getD s 0) 1 with
  | none => rfl
  | some p =>
    obtain ⟨a, b⟩ := p
    dsimp only
    rw [Option.bind_some]
    dsimp only
    rw [impl_div, Option.bind_some, if_neg (show ¬ 1 > ((mems s).length : Int) by omega)]
    rcases divQ a b ((mems s).length : Int) 1 with ⟨c, d, o⟩
    dsimp only
    cases o with
    | false => rfl
    | true =>
      simp only [Bool.not_true, cond_false, cond_true, Option.getD_some]
      rw [grd_pos (by simp only [hpl, List.length_singleton, room]; omega), w64' (by omega) (by omega)]
      rfl
theorem potStep0 (l : List Int) (h : l.getD 0 0 = 0) : potStep l [] 0 = some ⟨0, 1⟩ := by
  unfold potStep
  have e : mems 0 = [] := rfl
  rw [e, h]
  unfold potIn
  dsimp only
  have e1 : divQ 0 1 (if 1 > ((([] : List Int).length : Nat) : Int) then 1 else (([] : List Int).length : Nat)) 1 = (0, 1, true) := by decide +kernel
  rw [e1]
  rfl
theorem pot_both (n : Int) (l : List Int) (hl : l.length ≤ 1048576) : ∃ r, r.length ≤ 1048576 ∧ m_spec_PotentialOf n l = some r ∧ m_impl_PotentialOf n l = some r := by
  unfold m_spec_PotentialOf m_impl_PotentialOf
  rw [impl_valid n l hl]
  cases hv : validB n l with
  | false =>
    refine ⟨[], by simp, ?_, rfl⟩
    rw [iter_done (a := (.inl [] : List Q ⊕ List Q))]
    · rfl
    · unfold l_spec_PotentialOf_0
      dsimp only
      rw [spec_valid n l hl, hv]
      cases decide ((0 : Int) < (l.length : Int)) <;> rfl
  | true =>
    have hV := (validB_eq n l).1 hv
    obtain ⟨N, rfl, h1, h2, h3, h4⟩ := valid_nat hV
    have hpos : 0 < l.length := by rw [h3]; exact Nat.pow_pos (by decide)
    have hp1 : pots l 1 = [⟨0, 1⟩] := by
      show pots l 0 ++ [(potStep l (pots l 0) 0).getD ⟨0, 0⟩] = _
      have : pots l 0 = [] := rfl
      rw [this, potStep0 l hV.2.2.1]
      rfl
    unfold m_impl_whole
    simp only [Option.bind_some, Bool.not_true, cond_false]
    have e0 : pots l 0 = [] := rfl
    rcases first_bad l.length (fun s => (potStep l (pots l s) s).isSome = true) with hok | ⟨t, ht, hbad, hok⟩
    · have s1 := iter_up (step := l_spec_PotentialOf_0 (N : Int) l) (fun s => ((s : Int), pots l s)) l.length (a := .inl (pots l l.length)) (fun s hs => by
          rw [spec_potStep N l hv s hs]
          have := hok s hs
          cases hq : potStep l (pots l s) s with
          | none => rw [hq] at this; cases this
          | some q => rfl)
        (by unfold l_spec_PotentialOf_0; dsimp only; rw [decide_eq_false (by omega)]; rfl)
      have s2 := iter_up (step := l_impl_PotentialOf_0 l) (fun s => (((s + 1 : Nat) : Int), pots l (s + 1))) (l.length - 1) (a := .inl (pots l l.length)) (fun s hs => by
          have hm1 := mems_ne ⟨s + 1, by omega⟩ (by show s + 1 ≠ 0; omega)
          simp only at hm1
          rw [impl_potStep l (s + 1) (by omega) h4 (by omega) hm1]
          have := hok (s + 1) (by omega)
          cases hq : potStep l (pots l (s + 1)) (s + 1) with
          | none => rw [hq] at this; cases this
          | some q => rfl)
        (by unfold l_impl_PotentialOf_0; dsimp only; rw [show l.length - 1 + 1 = l.length by omega, decide_eq_false (by omega)]; rfl)
      simp only [Int.natCast_zero, e0] at s1
      simp only [Nat.zero_add, hp1, Int.natCast_one] at s2
      rw [s1, s2]
      exact ⟨pots l l.length, by rw [pots_length]; omega, rfl, rfl⟩
    · have ht0 : t ≠ 0 := fun e => by
        subst e
        apply hbad
        show (potStep l (pots l 0) 0).isSome = true
        rw [e0, potStep0 l hV.2.2.1]
        rfl
      have s1 := iter_up (step := l_spec_PotentialOf_0 (N : Int) l) (fun s => ((s : Int), pots l s)) t (a := .inr []) (fun s hs => by
          rw [spec_potStep N l hv s (by omega)]
          have := hok s hs
          cases hq : potStep l (pots l s) s with
          | none => rw [hq] at this; cases this
          | some q => rfl)
        (by
          rw [spec_potStep N l hv t ht]
          cases hq : potStep l (pots l t) t with
          | none => rfl
          | some q => exact absurd (by rw [hq]; rfl) hbad)
      have s2 := iter_up (step := l_impl_PotentialOf_0 l) (fun s => (((s + 1 : Nat) : Int), pots l (s + 1))) (t - 1) (a := .inr []) (fun s hs => by
          have hm1 := mems_ne ⟨s + 1, by omega⟩ (by show s + 1 ≠ 0; omega)
          simp only at hm1
          rw [impl_potStep l (s + 1) (by omega) h4 (by omega) hm1]
          have := hok (s + 1) (by omega)
          cases hq : potStep l (pots l (s + 1)) (s + 1) with
          | none => rw [hq] at this; cases this
          | some q => rfl)
        (by
          have hm1 := mems_ne ⟨t, by omega⟩ (by show t ≠ 0; omega)
          simp only at hm1
          rw [show t - 1 + 1 = t by omega, impl_potStep l t ht h4 (by omega) hm1]
          cases hq : potStep l (pots l t) t with
          | none => rfl
          | some q => exact absurd (by rw [hq]; rfl) hbad)
      simp only [Int.natCast_zero, e0] at s1
      simp only [Nat.zero_add, hp1, Int.natCast_one] at s2
      rw [s1, s2]
      exact ⟨[], by simp, rfl, rfl⟩
def fctN : Nat → Int
  | 0 => 1
  | k + 1 => fctN k * ((k : Int) + 2)
def fctI (m : Int) : Int := fctN (m - 1).toNat
theorem fctN_bd (k : Nat) (h : k ≤ 4) : 1 ≤ fctN k ∧ fctN k ≤ 120 := by
  have : k = 0 ∨ k = 1 ∨ k = 2 ∨ k = 3 ∨ k = 4 := by omega
  rcases this with rfl | rfl | rfl | rfl | rfl <;> decide
theorem spec_fact (m : Int) (h1 : -10 ≤ m) (h2 : m ≤ 5) : m_spec_l14Factorial m = some (fctI m) := by
  unfold m_spec_l14Factorial fctI
  have hit := iter_up (step := l_spec_l14Factorial_0 m) (fun k => (fctN k, (k : Int) + 2)) (m - 1).toNat (a := fctN (m - 1).toNat) (fun k hk => by
      have hb := fctN_bd (k + 1) (by omega)
      simp only [fctN] at hb
      unfold l_spec_l14Factorial_0
      dsimp only
      rw [decide_eq_true (by omega), cond_true, w64' (by omega) (by omega), w64' (by omega) (by omega)]
      simp only [fctN]
      have e : (k : Int) + 2 + 1 = ((k + 1 : Nat) : Int) + 2 := by omega
      rw [e])
    (by unfold l_spec_l14Factorial_0; dsimp only; rw [decide_eq_false (by omega)]; rfl)
  have e0 : ((0 : Nat) : Int) + 2 = 2 := rfl
  simp only [fctN, e0] at hit
  rw [hit]
  rfl
theorem spec_size (s : Nat) (hs : s < 32) : m_spec_SizeOf (s : Int) = some (((mems s).length : Nat) : Int) := by
  unfold m_spec_SizeOf
  have hit := iter_up (step := l_spec_SizeOf_0 (s : Int)) (fun k => ((((fil s.testBit (fun k => (k : Int)) k).length : Nat) : Int), (k : Int))) 5 (a := (((mems s).length : Nat) : Int)) (fun k hk => by
      have hb := fil_length s.testBit (fun k => (k : Int)) k
      unfold l_spec_SizeOf_0
      dsimp only
      rw [decide_eq_true (by omega), cond_true, spec_has s k hs hk, Option.bind_some, w64' (by omega) (by omega), w64' (by omega) (by omega), fil_succ]
      cases s.testBit k <;> simp)
    (by unfold l_spec_SizeOf_0; dsimp only; rw [decide_eq_false (by omega)]; rfl)
  have e0 : (fil s.testBit (fun k => (k : Int)) 0).length = 0 := rfl
  simp only [e0, Int.natCast_zero] at hit
  rw [hit]
  rfl
def shF (l : List Int) (N k : Nat) : Nat → Int
  | 0 => 0
  | s + 1 => if s.testBit k = true then shF l N k s else IntKind.i64.wrap (shF l N k s + IntKind.i64.wrap (IntKind.i64.wrap (fctI ((mems s).length : Nat) * fctI ((N : Int) - 1 - ((mems s).length : Nat))) * IntKind.i64.wrap (l.getD (s ||| 2 ^ k) 0 - l.getD s 0)))
theorem spec_shIn (l : List Int) (N k : Nat) (hN : N ≤ 5) (hl : l.length = 2 ^ N) (hk : k < N) : iter (l_spec_ShapleyValue_1 (N : Int) l (k : Int)) ((0 : Int), (0 : Int)) = some (shF l N k l.length) := by
  have h32 := pow_le32 hN
  have hit := iter_up (step := l_spec_ShapleyValue_1 (N : Int) l (k : Int)) (fun s => (shF l N k s, (s : Int))) l.length (a := shF l N k l.length) (fun s hs => by
      have b1 : s ||| 2 ^ k < 2 ^ N := Nat.or_lt_two_pow (by omega) (Nat.pow_lt_pow_right (by decide) hk)
      have hm := mems_length s
      unfold l_spec_ShapleyValue_1
      dsimp only
      rw [decide_eq_true (by omega), cond_true, spec_has s k (by omega) (by omega), Option.bind_some, w64' (n := (s : Int) + 1) (by omega) (by omega)]
      simp only [shF]
      cases h1 : s.testBit k with
      | true => rfl
      | false =>
        have e1 := add_eq s k (by omega) (by omega) h1
        have f1 : ((s : Int) + 2 ^ k) = ((s ||| 2 ^ k : Nat) : Int) := by rw [← e1]; simp
        have e2 : (N : Int) - (((mems s).length : Nat) : Int) - 1 = (N : Int) - 1 - (((mems s).length : Nat) : Int) := by omega
        rw [cond_false, spec_size s (by omega), Option.bind_some, spec_fact _ (by omega) (by omega), Option.bind_some, w64' (n := (N : Int) - _) (by omega) (by omega), e2, w64' (n := (N : Int) - 1 - _) (by omega) (by omega), spec_fact _ (by omega) (by omega), Option.bind_some, bit2 k (by omega), Option.bind_some, f1, w64' (n := ((s ||| 2 ^ k : Nat) : Int)) (by omega) (by omega), grd_pos (by omega), grd_pos (by omega), getD_nat, getD_nat, if_neg (by decide)]
        rfl)
    (by unfold l_spec_ShapleyValue_1; dsimp only; rw [decide_eq_false (by omega)]; rfl)
  exact hit
def shQ (l : List Int) (N k : Nat) : Q := ⟨(ratOf (shF l N k l.length) (fctI N)).1, (ratOf (shF l N k l.length) (fctI N)).2.1⟩
/-! ### draws -/
theorem iter_dec {S A : Type} {step : S → Option (S ⊕ A)} (I : Nat → S → Prop) (Post : A → Prop)
    (h : ∀ k s, I k s → (∃ a, step s = some (.inr a) ∧ Post a) ∨ ∃ s' k', k = k' + 1 ∧ step s = some (.inl s') ∧ I k' s') : ∀ k s, I k s → ∃ a, iter step s = some a ∧ Post a := by
  intro k
  induction k with
  | zero =>
    intro s hs
    rcases h 0 s hs with ⟨a, h1, h2⟩ | ⟨s', k', h1, _⟩
    · exact ⟨a, iter_done h1, h2⟩
    · omega
  | succ k ih =>
    intro s hs
    rcases h _ s hs with ⟨a, h1, h2⟩ | ⟨s', k', h1, h2, h3⟩
    · exact ⟨a, iter_done h1, h2⟩
    · obtain rfl : k' = k := by omega
      obtain ⟨a, h4, h5⟩ := ih s' h3
      exact ⟨a, by rw [iter_next h2]; exact h4, h5⟩
theorem and255 (x : Int) : 0 ≤ bitsOf .and .i64 x 255 ∧ bitsOf .and .i64 x 255 ≤ 255 := by
  have h : (BitVec.ofInt 64 x &&& BitVec.ofInt 64 255).toNat ≤ 255 := by
    rw [BitVec.toNat_and]
    exact Nat.le_trans Nat.and_le_right (by decide)
  show 0 ≤ IntKind.i64.wrap ((BitVec.ofInt 64 x &&& BitVec.ofInt 64 255).toNat : Int) ∧ IntKind.i64.wrap ((BitVec.ofInt 64 x &&& BitVec.ofInt 64 255).toNat : Int) ≤ 255
  rw [w64' (by omega) (by omega)]
  omega
theorem new_loop (c : List UInt8) (h0 : Int) : ∃ h, iter (l_spec_l1New_io2_0 c) (h0, 0) = some h := by
  obtain ⟨a, h1, _⟩ := iter_dec (step := l_spec_l1New_io2_0 c) (fun k s => s.2 + k = 4000 ∧ 0 ≤ s.2) (fun _ => True) (fun k ⟨v1, v2⟩ ⟨h1, h2⟩ => by
    simp only at h1 h2
    unfold l_spec_l1New_io2_0
    simp only
    by_cases e1 : v2 < (c.length : Int)
    · by_cases e2 : v2 < 4000
      · rw [decide_eq_true e1, decide_eq_true e2, cond_true, cond_true, grd_pos ⟨h2, e1⟩]
        exact .inr ⟨_, k - 1, by omega, rfl, by simp only; rw [w64' (by omega) (by omega)]; omega, by simp only; rw [w64' (by omega) (by omega)]; omega⟩
      · rw [decide_eq_true e1, decide_eq_false e2, cond_true, cond_false]
        exact .inl ⟨_, rfl, trivial⟩
    · rw [decide_eq_false e1, cond_false]
      exact .inl ⟨_, rfl, trivial⟩) 4000 (h0, 0) ⟨rfl, Int.le_refl 0⟩
  exact ⟨a, h1⟩
theorem new2 (a : Int) (b : List Int) (c : List UInt8) : ∃ h, m_spec_l1New_io2 a b c = some (c, 0, h, b, a) := by
  obtain ⟨h, e⟩ := new_loop c (IntKind.i64.wrap ((26583 : Int) + (c.length : Int)))
  exact ⟨h, by unfold m_spec_l1New_io2; rw [e]; rfl⟩
theorem byte_ok (c : List UInt8) (i h : Int) (hc : c.length ≤ 1048576) (hi : 0 ≤ i) : ∃ x i' h', m_spec_l1Byte_io1 c i h = some (x, i', h') ∧ (0 ≤ x ∧ x ≤ 255) ∧ 0 ≤ i' := by
  unfold m_spec_l1Byte_io1
  rw [grd_pos (by decide), grd_pos (by decide), Option.bind_some]
  by_cases hlt : i < (c.length : Int)
  · rw [decide_eq_true hlt, cond_true, grd_pos ⟨hi, hlt⟩]
    exact ⟨_, _, _, rfl, and255 _, by rw [w64' (by omega) (by omega)]; omega⟩
  · rw [decide_eq_false hlt, cond_false]
    exact ⟨_, _, _, rfl, and255 _, hi⟩
theorem below_ok (c : List UInt8) (i h n : Int) (hc : c.length ≤ 1048576) (hi : 0 ≤ i) (hn : n ≤ 256) : ∃ x i' h', m_spec_l1Below_io1 c i h n = some (x, i', h') ∧ (0 ≤ x ∧ (x < n ∨ x = 0)) ∧ 0 ≤ i' := by
  unfold m_spec_l1Below_io1
  by_cases h0 : n ≤ 0
  · rw [decide_eq_true h0, cond_true]
    exact ⟨_, _, _, rfl, ⟨Int.le_refl 0, .inr rfl⟩, hi⟩
  · rw [decide_eq_false h0, cond_false, decide_eq_true hn, cond_true]
    obtain ⟨x, i', h', e, hx, hi'⟩ := byte_ok c i h hc hi
    rw [e, Option.bind_some]
    dsimp only
    rw [grd_pos (by omega)]
    exact ⟨_, _, _, rfl, ⟨Int.tmod_nonneg _ hx.1, .inl (Int.tmod_lt_of_pos _ (by omega))⟩, hi'⟩
theorem pick_ok (c : List UInt8) (i h : Int) (l : List Int) (hc : c.length ≤ 1048576) (hi : 0 ≤ i) (h1 : 1 ≤ l.length) (h2 : l.length ≤ 256) : ∃ x i' h', m_spec_l1PickInt_io1 c i h l = some (x, i', h') ∧ x ∈ l ∧ 0 ≤ i' := by
  unfold m_spec_l1PickInt_io1
  obtain ⟨x, i', h', e, hx, hi'⟩ := below_ok c i h l.length hc hi (by omega)
  rw [e, Option.bind_some]
  dsimp only
  have hlt : x < (l.length : Int) := by omega
  rw [grd_pos ⟨hx.1, hlt⟩]
  refine ⟨_, _, _, rfl, ?_, hi'⟩
  have : x.toNat < l.length := by omega
  rw [List.getD_eq_getElem?_getD, List.getElem?_eq_getElem this, Option.getD_some]
  exact List.getElem_mem this
/-- the loops of l8Draw and l8Mate keep the length -/
def I8 (N : Nat) (k : Nat) (s : Int × List Int × Int × Int) : Prop := s.1 + k = N ∧ 1 ≤ s.1 ∧ s.2.1.length = N ∧ 0 ≤ s.2.2.1
def P8 (N : Nat) (a : List Int × Int × Int) : Prop := a.1.length = N ∧ 0 ≤ a.2.1
theorem bit_tot (b : Bool) : ∃ x, m_spec_l1Bit b = some x := by cases b <;> exact ⟨_, rfl⟩
theorem max_tot (a b : Int) : ∃ x, m_spec_l1Max a b = some x := by
  unfold m_spec_l1Max
  by_cases h : a > b
  · rw [decide_eq_true h]; exact ⟨_, rfl⟩
  · rw [decide_eq_false h]; exact ⟨_, rfl⟩
theorem draw8_step (c : List UInt8) (hc : c.length ≤ 1048576) (v1 v5 : Int) (N : Nat) (hN : N ≤ 32) (k : Nat) (s : Int × List Int × Int × Int) (hs : I8 N k s) :
    (∃ a, l_spec_l8Draw_io1_0 c v1 v5 s = some (.inr a) ∧ P8 N a) ∨ ∃ s' k', k = k' + 1 ∧ l_spec_l8Draw_io1_0 c v1 v5 s = some (.inl s') ∧ I8 N k' s' := by
  obtain ⟨s0, l, i, h⟩ := s
  obtain ⟨g1, g2, g3, g4⟩ := hs
  simp only at g1 g2 g3 g4
  unfold l_spec_l8Draw_io1_0
  simp only
  by_cases e1 : s0 < (l.length : Int)
  · rw [decide_eq_true e1, cond_true]
    obtain ⟨S, rfl⟩ : ∃ S : Nat, s0 = (S : Int) := ⟨s0.toNat, by omega⟩
    have hS : S < 32 := by omega
    have hw : IntKind.i64.wrap ((S : Int) + 1) = (S : Int) + 1 := w64' (by omega) (by omega)
    rw [spec_size S hS, hw]
    refine .inr ?_
    have fin : ∀ (x i' h' : Int), 0 ≤ i' → ∃ s' k', k = k' + 1 ∧ (some (.inl ((S : Int) + 1, l.set (S : Int).toNat x, i', h')) : Option ((Int × List Int × Int × Int) ⊕ (List Int × Int × Int))) = some (.inl s') ∧ I8 N k' s' :=
      fun x i' h' hi' => ⟨_, k - 1, by omega, rfl, by simp only; omega, by simp only; omega, by simp only; rw [List.length_set]; exact g3, hi'⟩
    obtain ⟨x1, i1, h1, b1, _, b3⟩ := below_ok c i h 2 hc g4 (by decide)
    obtain ⟨x2, i2, h2, b4, _, b6⟩ := pick_ok c i h [(0 : Int), (1 : Int), (2 : Int), (3 : Int), (5 : Int), (8 : Int), (-2 : Int), (4 : Int)] hc g4 (by decide) (by decide)
    simp only [b1, b4, Option.bind_some]
    have hg : (0 : Int) ≤ (S : Int) ∧ (S : Int) < (l.length : Int) := ⟨by omega, e1⟩
    cases hv0 : (v5 == (0 : Int)) with
    | true =>
      simp only [cond_true, grd_pos hg]
      exact fin _ _ _ b3
    | false =>
      cases hv1 : (v5 == (1 : Int)) with
      | true =>
        simp only [cond_true, cond_false, grd_pos hg]
        exact fin _ _ _ b6
      | false =>
        cases hv2 : (v5 == (2 : Int)) with
        | true =>
          obtain ⟨y, hy⟩ := max_tot (0 : Int) (IntKind.i64.wrap ((IntKind.i64.wrap ((IntKind.i64.wrap ((3 : Int) * (((mems S).length : Nat) : Int))) - (2 : Int))) - x1))
          simp only [cond_true, cond_false, hy, Option.bind_some, grd_pos hg]
          exact fin _ _ _ b3
        | false =>
          obtain ⟨y, hy⟩ := bit_tot (decide ((IntKind.i64.wrap ((((mems S).length : Nat) : Int) * (2 : Int))) > (IntKind.i64.wrap ((1 : Int) + v1))))
          simp only [cond_false, hy, Option.bind_some, grd_pos hg]
          exact fin _ _ _ b3
  · rw [decide_eq_false e1, cond_false]
    exact .inl ⟨_, rfl, g3, g4⟩
theorem draw8_ok (c : List UInt8) (i h : Int) (hc : c.length ≤ 1048576) (hi : 0 ≤ i) : ∃ n l i' h', m_spec_l8Draw_io1 c i h 4 = some (n, l, i', h') ∧ (1 ≤ n ∧ n ≤ 4) ∧ (2 ≤ l.length ∧ l.length ≤ 16) ∧ 0 ≤ i' := by
  unfold m_spec_l8Draw_io1
  obtain ⟨x, i1, h1, b1, b2, b3⟩ := below_ok c i h 4 hc hi (by decide)
  rw [b1, Option.bind_some]
  dsimp only
  obtain ⟨n, hn⟩ : ∃ n : Nat, (1 : Int) + x = (n : Int) := ⟨((1 : Int) + x).toNat, by omega⟩
  rw [w64' (by omega) (by omega), hn, count0 n (by omega), Option.bind_some]
  have hp : (2 : Nat) ≤ 2 ^ n ∧ 2 ^ n ≤ 16 := by
    have : n = 1 ∨ n = 2 ∨ n = 3 ∨ n = 4 := by omega
    rcases this with rfl | rfl | rfl | rfl <;> decide
  have hc2 : ((2 : Int) ^ n) = ((2 ^ n : Nat) : Int) := by push_cast; rfl
  rw [hc2, grd_pos ⟨by omega, rfl, by unfold room; omega⟩]
  obtain ⟨y, i2, h2, c1, c2, c3⟩ := below_ok c i1 h1 4 hc b3 (by decide)
  rw [c1, Option.bind_some]
  dsimp only
  rw [Int.toNat_natCast]
  obtain ⟨⟨l, i3, h3⟩, d1, d2, d3⟩ := iter_dec (I8 (2 ^ n)) (P8 (2 ^ n)) (fun k s hs => draw8_step c hc x y (2 ^ n) (by omega) k s hs) (2 ^ n - 1) (1, List.replicate (2 ^ n) 0, i2, h2)
    ⟨by simp only; omega, Int.le_refl 1, by simp, c3⟩
  rw [d1, Option.bind_some]
  replace d2 : l.length = 2 ^ n := d2
  replace d3 : 0 ≤ i3 := d3
  exact ⟨_, l, i3, h3, rfl, by omega, by omega, d3⟩
theorem bent_ok (c : List UInt8) (i h : Int) (hc : c.length ≤ 1048576) (hi : 0 ≤ i) : ∃ n l i' h', m_spec_l8Bent_io1 c i h = some (n, l, i', h') ∧ (-1 ≤ n ∧ n ≤ 6) ∧ (2 ≤ l.length ∧ l.length ≤ 17) ∧ 0 ≤ i' := by
  unfold m_spec_l8Bent_io1
  obtain ⟨n, l, i1, h1, b1, b2, b3, b4⟩ := draw8_ok c i h hc hi
  rw [b1, Option.bind_some]
  dsimp only
  obtain ⟨x, i2, h2, c1, c2, c3⟩ := below_ok c i1 h1 12 hc b4 (by decide)
  rw [c1, Option.bind_some]
  dsimp only
  obtain ⟨x2, i3, h3, d1, d2, d3⟩ := pick_ok c i2 h2 [(0 : Int), (6 : Int), (2 : Int), (-1 : Int)] hc c3 (by decide) (by decide)
  obtain ⟨x4, i4, h4, e1, _, e3⟩ := pick_ok c i2 h2 [(500 : Int), (501 : Int), (-501 : Int)] hc c3 (by decide) (by decide)
  have hd2 : -1 ≤ x2 ∧ x2 ≤ 6 := by
    simp only [List.mem_cons, List.not_mem_nil, or_false] at d2
    omega
  have hw : IntKind.i64.wrap ((l.length : Int) - 1) = (l.length : Int) - 1 := w64' (by omega) (by omega)
  simp only [d1, e1, Option.bind_some, hw]
  cases hv0 : (x == (0 : Int)) with
  | true =>
    simp only [cond_true]
    rw [grd_pos ⟨Int.le_refl 0, by omega⟩]
    exact ⟨_, _, _, _, rfl, by omega, by rw [List.length_set]; omega, c3⟩
  | false =>
    cases hv1 : (x == (1 : Int)) with
    | true =>
      simp only [cond_true, cond_false]
      exact ⟨_, _, _, _, rfl, hd2, by omega, d3⟩
    | false =>
      cases hv2 : (x == (2 : Int)) with
      | true =>
        simp only [cond_true, cond_false]
        rw [grd_pos (by show l.length + 1 ≤ room; unfold room; omega)]
        exact ⟨_, _, _, _, rfl, by omega, by simp only [List.length_append, List.length_cons, List.length_nil]; omega, c3⟩
      | false =>
        cases hv3 : (x == (3 : Int)) with
        | true =>
          simp only [cond_true, cond_false]
          rw [grd_pos ⟨by omega, by omega⟩]
          exact ⟨_, _, _, _, rfl, by omega, by rw [List.length_set]; omega, e3⟩
        | false =>
          simp only [cond_false]
          exact ⟨_, _, _, _, rfl, by omega, by omega, c3⟩
/-! ### FnProperties -/
theorem val_bd {n : Int} {l : List Int} (h : Valid n l) (i : Nat) : -500 ≤ l.getD i 0 ∧ l.getD i 0 ≤ 500 := by
  by_cases hi : i < l.length
  · exact h.2.2.2 i hi
  · rw [List.getD_eq_getElem?_getD, List.getElem?_eq_none (by omega)]; decide
/-! ### FnGames -/
/-! ### FnDividends: what a game is worth, from its dividends -/
def bB (s : Nat) : Int := [(500 : Int), 1000, 1000, 3000, 1000, 3000, 3000, 13000, 1000, 3000, 3000, 13000, 3000, 13000, 13000, 75000].getD s 0
def inB (s u : Nat) : Int := if u &&& s = u then bB u else 0
theorem bB_tab : ∀ s : Fin 16, 500 + sm (inB s.val) s.val ≤ bB s.val ∧ bB s.val ≤ 75000 ∧ ∀ t : Fin 17, 0 ≤ sm (inB s.val) t.val ∧ sm (inB s.val) t.val ≤ 200000 := by decide +kernel
theorem bB_pos : ∀ s : Fin 16, 0 ≤ bB s.val := by decide +kernel
/-- the sum of the dividends of the parts of s that are below t -/
def inD (D : List Int) (s u : Nat) : Int := if u &&& s = u then D.getD u 0 else 0
theorem getD_app (l r : List Int) (i : Nat) (h : i < l.length) : (l ++ r).getD i 0 = l.getD i 0 := by
  rw [List.getD_eq_getElem?_getD, List.getElem?_append_left h, ← List.getD_eq_getElem?_getD]
theorem getD_last (l : List Int) (x : Int) (n : Nat) (h : l.length = n) : (l ++ [x]).getD n 0 = x := by
  subst h
  simp [List.getD_eq_getElem?_getD]
theorem divs_pre (l : List Int) (t : Nat) : ∀ k, (divs l (t + 1 + k)).getD t 0 = (divs l (t + 1)).getD t 0
  | 0 => rfl
  | k + 1 => by
    rw [show t + 1 + (k + 1) = (t + 1 + k) + 1 by omega]
    show (divs l (t + 1 + k) ++ [_]).getD t 0 = _
    rw [getD_app _ _ _ (by rw [divs_length]; omega), divs_pre l t k]
theorem divs_at (l : List Int) (t n : Nat) (h : t < n) : (divs l n).getD t 0 = dv (l.getD t 0) (divs l t) t t := by
  obtain ⟨k, rfl⟩ : ∃ k, n = t + 1 + k := ⟨n - t - 1, by omega⟩
  rw [divs_pre]
  show (divs l t ++ [_]).getD t 0 = _
  exact getD_last _ _ _ (divs_length l t)
theorem divs_low (l : List Int) (u s n : Nat) (h : u < s) (hn : s ≤ n) : (divs l s).getD u 0 = (divs l n).getD u 0 := by rw [divs_at l u s h, divs_at l u n (by omega)]
theorem div_key (l : List Int) (n : Nat) (hn : n ≤ 16) (hv : ∀ i, -500 ≤ l.getD i 0 ∧ l.getD i 0 ≤ 500) : ∀ s, s < n → (-bB s ≤ (divs l n).getD s 0 ∧ (divs l n).getD s 0 ≤ bB s) ∧ (divs l n).getD s 0 = l.getD s 0 - sm (inD (divs l n) s) s := by
  intro s
  induction s using Nat.strongRecOn with
  | _ s ih =>
    intro hs
    have hb := bB_tab ⟨s, by omega⟩
    simp only at hb
    have hvs := hv s
    have key : ∀ t, t ≤ s → dv (l.getD s 0) (divs l s) s t = l.getD s 0 - sm (inD (divs l n) s) t ∧ -sm (inB s) t ≤ sm (inD (divs l n) s) t ∧ sm (inD (divs l n) s) t ≤ sm (inB s) t := by
      intro t
      induction t with
      | zero => intro _; exact ⟨by show l.getD s 0 = l.getD s 0 - 0; omega, by show -(0 : Int) ≤ 0; omega, by show (0 : Int) ≤ 0; omega⟩
      | succ t iht =>
        intro ht
        obtain ⟨k1, k2, k3⟩ := iht (by omega)
        have d1 := (ih t (by omega) (by omega)).1
        have d2 := divs_low l t s n (by omega) (by omega)
        have hbt := (hb.2.2 ⟨t, by omega⟩)
        simp only at hbt
        have hbp := bB_tab ⟨t, by omega⟩
        simp only at hbp
        simp only [dv, sm]
        by_cases e : t &&& s = t
        · have e1 : inD (divs l n) s t = (divs l n).getD t 0 := if_pos e
          have e2 : inB s t = bB t := if_pos e
          rw [if_pos e, e1, e2, k1, d2, w64' (by omega) (by omega)]
          omega
        · have e1 : inD (divs l n) s t = 0 := if_neg e
          have e2 : inB s t = 0 := if_neg e
          rw [if_neg e, e1, e2, k1]
          omega
    obtain ⟨k1, k2, k3⟩ := key s (Nat.le_refl s)
    rw [divs_at l s n hs, k1]
    omega
/-- a game's values are the sums of its dividends -/
theorem val_sum (l : List Int) (n : Nat) (hn : n ≤ 16) (hv : ∀ i, -500 ≤ l.getD i 0 ∧ l.getD i 0 ≤ 500) (s : Nat) (hs : s < n) : l.getD s 0 = sm (inD (divs l n) s) (s + 1) := by
  have h2 := (div_key l n hn hv s hs).2
  have e1 : inD (divs l n) s s = (divs l n).getD s 0 := if_pos (Nat.and_self s)
  simp only [sm]
  rw [e1]
  omega
/-- the Shapley sums, without wrapping -/
def shW (N u : Nat) : Int := fctI ((mems u).length : Nat) * fctI ((N : Int) - 1 - ((mems u).length : Nat))
def shT (l : List Int) (N k u : Nat) : Int := if u.testBit k = true then 0 else shW N u * (l.getD (u ||| 2 ^ k) 0 - l.getD u 0)
theorem shW_tab : ∀ N : Fin 5, ∀ u : Fin 16, 0 ≤ shW N.val u.val ∧ shW N.val u.val ≤ 1000 := by decide +kernel
theorem shF_eq (l : List Int) (N k : Nat) (hN : N ≤ 4) (hv : ∀ i, -500 ≤ l.getD i 0 ∧ l.getD i 0 ≤ 500) : ∀ s, s ≤ 16 → shF l N k s = sm (shT l N k) s ∧ -(1000000 * (s : Int)) ≤ sm (shT l N k) s ∧ sm (shT l N k) s ≤ 1000000 * s
  | 0, _ => ⟨rfl, by show -(1000000 * ((0 : Nat) : Int)) ≤ 0; omega, by show (0 : Int) ≤ 1000000 * ((0 : Nat) : Int); omega⟩
  | s + 1, hs => by
    obtain ⟨k1, k2, k3⟩ := shF_eq l N k hN hv s (by omega)
    have hw := shW_tab ⟨N, by omega⟩ ⟨s, by omega⟩
    simp only at hw
    have b1 := hv s
    have b2 := hv (s ||| 2 ^ k)
    simp only [shF, sm]
    by_cases e : s.testBit k = true
    · have e1 : shT l N k s = 0 := if_pos e
      rw [if_pos e, e1, k1]
      omega
    · have e1 : shT l N k s = shW N s * (l.getD (s ||| 2 ^ k) 0 - l.getD s 0) := if_neg e
      have hp : -1000000 ≤ shW N s * (l.getD (s ||| 2 ^ k) 0 - l.getD s 0) ∧ shW N s * (l.getD (s ||| 2 ^ k) 0 - l.getD s 0) ≤ 1000000 := by
        have h1 : -1000 ≤ l.getD (s ||| 2 ^ k) 0 - l.getD s 0 ∧ l.getD (s ||| 2 ^ k) 0 - l.getD s 0 ≤ 1000 := by omega
        constructor
        · have := Int.mul_le_mul_of_nonneg_left h1.1 hw.1
          have h3 : shW N s * (-1000) = -(1000 * shW N s) := by omega
          omega
        · have := Int.mul_le_mul_of_nonneg_left h1.2 hw.1
          omega
      rw [if_neg e, e1, k1, w64' (n := l.getD (s ||| 2 ^ k) 0 - l.getD s 0) (by omega) (by omega)]
      have e2 : IntKind.i64.wrap (fctI ((mems s).length : Nat) * fctI ((N : Int) - 1 - ((mems s).length : Nat))) = shW N s := w64' (by show _ ≤ shW N s; omega) (by show shW N s ≤ _; omega)
      rw [e2, w64' (n := shW N s * _) (by omega) (by omega), w64' (by omega) (by omega)]
      omega
/-- what the law sums up -/
def dvT (D : List Int) (k u : Nat) : Int := if u.testBit k = true then D.getD u 0 * (60 / ((mems u).length : Nat)) else 0
theorem cells16 : ∀ u : Fin 16, (mems u.val).length = [0, 1, 1, 2, 1, 2, 2, 3, 1, 2, 2, 3, 2, 3, 3, 4].getD u.val 0 := by decide +kernel
theorem len16 (u : Nat) (h : u < 16) : (mems u).length = [0, 1, 1, 2, 1, 2, 2, 3, 1, 2, 2, 3, 2, 3, 3, 4].getD u 0 := cells16 ⟨u, h⟩
/-- the Shapley value divides the dividends equally -/
theorem shap_div (l : List Int) (N k : Nat) (h1 : 1 ≤ N) (h4 : N ≤ 4) (hk : k < N) (hv : ∀ i, -500 ≤ l.getD i 0 ∧ l.getD i 0 ≤ 500) :
    sm (shT l N k) (2 ^ N) * 60 = sm (dvT (divs l (2 ^ N)) k) (2 ^ N) * fctI N := by
  have hs : ∀ s, s < 2 ^ N → l.getD s 0 = sm (inD (divs l (2 ^ N)) s) (s + 1) := fun s hs => val_sum l (2 ^ N) (by
    have : N = 1 ∨ N = 2 ∨ N = 3 ∨ N = 4 := by omega
    rcases this with rfl | rfl | rfl | rfl <;> decide) hv s hs
  generalize divs l (2 ^ N) = D at hs
  have : N = 1 ∨ N = 2 ∨ N = 3 ∨ N = 4 := by omega
  rcases this with rfl | rfl | rfl | rfl
  · obtain rfl : k = 0 := by omega
    have e0 := hs 0 (by decide)
    have e1 := hs 1 (by decide)
    clear hs hk
    simp [sm, inD, shT, dvT, shW, len16, fctI, fctN] at *
    omega
  · have hk' : k = 0 ∨ k = 1 := by omega
    have e0 := hs 0 (by decide)
    have e1 := hs 1 (by decide)
    have e2 := hs 2 (by decide)
    have e3 := hs 3 (by decide)
    clear hs hk
    simp [sm, inD] at e0 e1 e2 e3
    rcases hk' with rfl | rfl
    all_goals
      simp [sm, shT, dvT, shW, len16, fctI, fctN, Nat.testBit]
      omega
  · have hk' : k = 0 ∨ k = 1 ∨ k = 2 := by omega
    have e0 := hs 0 (by decide)
    have e1 := hs 1 (by decide)
    have e2 := hs 2 (by decide)
    have e3 := hs 3 (by decide)
    have e4 := hs 4 (by decide)
    have e5 := hs 5 (by decide)
    have e6 := hs 6 (by decide)
    have e7 := hs 7 (by decide)
    clear hs hk
    simp [sm, inD] at e0 e1 e2 e3 e4 e5 e6 e7
    rcases hk' with rfl | rfl | rfl
    all_goals
      simp [sm, shT, dvT, shW, len16, fctI, fctN, Nat.testBit]
      omega
  · have hk' : k = 0 ∨ k = 1 ∨ k = 2 ∨ k = 3 := by omega
    have e0 := hs 0 (by decide)
    have e1 := hs 1 (by decide)
    have e2 := hs 2 (by decide)
    have e3 := hs 3 (by decide)
    have e4 := hs 4 (by decide)
    have e5 := hs 5 (by decide)
    have e6 := hs 6 (by decide)
    have e7 := hs 7 (by decide)
    have e8 := hs 8 (by decide)
    have e9 := hs 9 (by decide)
    have e10 := hs 10 (by decide)
    have e11 := hs 11 (by decide)
    have e12 := hs 12 (by decide)
    have e13 := hs 13 (by decide)
    have e14 := hs 14 (by decide)
    have e15 := hs 15 (by decide)
    clear hs hk
    simp [sm, inD] at e0 e1 e2 e3 e4 e5 e6 e7 e8 e9 e10 e11 e12 e13 e14 e15
    rcases hk' with rfl | rfl | rfl | rfl
    all_goals
      simp [sm, shT, dvT, shW, len16, fctI, fctN, Nat.testBit]
      omega
theorem ratOf_ok (n d : Int) (hn : -1000000000 ≤ n ∧ n ≤ 1000000000) (hd : 1 ≤ d ∧ d ≤ 1000000000) : ∃ a b g : Int, ratOf n d = (a, b, true) ∧ n = a * g ∧ d = b * g ∧ 1 ≤ g ∧ validQ a b = true := by
  have hg := gcd_pos' (n := n) (d := d) (by omega)
  have e1 : n.tdiv (Int.gcd n d : Nat) * (Int.gcd n d : Nat) = n := Int.tdiv_mul_cancel (Int.gcd_dvd_left ..)
  have e2 : d.tdiv (Int.gcd n d : Nat) * (Int.gcd n d : Nat) = d := Int.tdiv_mul_cancel (Int.gcd_dvd_right ..)
  have b1 := tdiv_bd n (Int.gcd n d)
  have b2 := tdiv_bd d (Int.gcd n d)
  have hv : validQ (n.tdiv (Int.gcd n d : Nat)) (d.tdiv (Int.gcd n d : Nat)) = true := by
    unfold validQ
    apply decide_eq_true
    have hb : 1 ≤ d.tdiv (Int.gcd n d : Nat) := by
      rcases Int.lt_or_le (d.tdiv (Int.gcd n d : Nat)) 1 with h | h
      · exfalso
        have h1 : d.tdiv (Int.gcd n d : Nat) ≤ 0 := by omega
        have h2 := Int.mul_nonpos_of_nonpos_of_nonneg h1 (Int.natCast_nonneg (Int.gcd n d))
        omega
      · exact h
    refine ⟨hb, by omega, by omega, by omega, ?_⟩
    have h3 : Int.gcd (n.tdiv (Int.gcd n d : Nat) * (Int.gcd n d : Nat)) (d.tdiv (Int.gcd n d : Nat) * (Int.gcd n d : Nat)) = Int.gcd n d := by rw [e1, e2]
    rw [Int.gcd_mul_right, Int.natAbs_natCast] at h3
    exact Nat.eq_of_mul_eq_mul_right hg (by rw [h3, Nat.one_mul])
  refine ⟨_, _, _, ?_, e1.symm, e2.symm, by omega, hv⟩
  unfold ratOf
  have hc : ¬ (d = 0 ∨ ¬ (-1000000000000000000 ≤ n ∧ n ≤ 1000000000000000000) ∨ ¬ (-1000000000000000000 ≤ d ∧ d ≤ 1000000000000000000)) := fun h => by
    rcases h with h | h | h
    · omega
    · exact h (by omega)
    · exact h (by omega)
  have h3 : ¬ d < 0 := by omega
  rw [if_neg hc]
  simp only [if_neg h3]
  rw [if_pos hv]
theorem spec_shap (N : Nat) (l : List Int) (hl : l.length ≤ 1048576) (hv : validB (N : Int) l = true) : m_spec_ShapleyValue (N : Int) l = some (true, tab (shQ l N) N) := by
  obtain ⟨M, hM, h1, h2, h3, h4⟩ := valid_nat ((validB_eq _ l).1 hv)
  obtain rfl : N = M := by omega
  unfold m_spec_ShapleyValue
  rw [spec_valid _ l hl, hv]
  have s1 := iter_up (step := l_spec_ShapleyValue_0 (N : Int) l) (fun k => ((k : Int), tab (shQ l N) k)) N (a := tab (shQ l N) N) (fun k hk => by
      unfold l_spec_ShapleyValue_0
      dsimp only
      rw [decide_eq_true (by omega), cond_true, spec_shIn l N k h2 h3 hk, Option.bind_some, spec_fact _ (by omega) (by omega), Option.bind_some, spec_ratOf, Option.bind_some]
      rw [grd_pos (by simp only [tab_length, List.length_singleton, room]; omega), w64' (by omega) (by omega), tab_succ]
      rfl)
    (by unfold l_spec_ShapleyValue_0; dsimp only; rw [decide_eq_false (by omega)]; rfl)
  have e0 : tab (shQ l N) 0 = [] := rfl
  simp only [e0, Int.natCast_zero] at s1
  simp only [Option.bind_some, Bool.not_true, cond_false]
  rw [s1]
  rfl
theorem spec_shap0 (n : Int) (l : List Int) (hl : l.length ≤ 1048576) (hv : validB n l = false) : m_spec_ShapleyValue n l = some (false, []) := by
  unfold m_spec_ShapleyValue
  rw [spec_valid _ l hl, hv]
  rfl
/-! ### FnPotential: fractions in twelfths -/
def R12 (z : Int) (a b : Int) : Prop := validQ a b = true ∧ a * 12 = z * b
theorem int_cop {a b c : Int} (h : a ∣ b * c) (g : Int.gcd b a = 1) : a ∣ c := by
  have h1 : a.natAbs ∣ b.natAbs * c.natAbs := by
    rw [← Int.natAbs_mul]
    exact Int.natAbs_dvd_natAbs.2 h
  refine Int.natAbs_dvd_natAbs.1 (Nat.Coprime.dvd_of_dvd_mul_left ?_ h1)
  rw [Int.gcd_eq_natAbs_gcd_natAbs, Nat.gcd_comm] at g
  exact g
theorem r12_den {z a b : Int} (h : R12 z a b) : b ∣ 12 ∧ 1 ≤ b := by
  obtain ⟨h1, h2⟩ := h
  have hv := validQ_bd h1
  have hd : b ∣ a * 12 := ⟨z, by rw [h2, Int.mul_comm]⟩
  exact ⟨int_cop hd hv.2.2.2.2, hv.1⟩
theorem r12_bd {z a b : Int} (h : R12 z a b) (hz : -3000000 ≤ z ∧ z ≤ 3000000) : (1 ≤ b ∧ b ≤ 12) ∧ -3000000 ≤ a ∧ a ≤ 3000000 := by
  obtain ⟨h1, h2⟩ := r12_den h
  have h3 := Int.le_of_dvd (by decide) h1
  have h4 := h.2
  refine ⟨⟨h2, h3⟩, ?_⟩
  have : b = 1 ∨ b = 2 ∨ b = 3 ∨ b = 4 ∨ b = 5 ∨ b = 6 ∨ b = 7 ∨ b = 8 ∨ b = 9 ∨ b = 10 ∨ b = 11 ∨ b = 12 := by omega
  rcases this with rfl | rfl | rfl | rfl | rfl | rfl | rfl | rfl | rfl | rfl | rfl | rfl <;> omega
theorem r12_whole (v : Int) (hv : -1000000000 ≤ v ∧ v ≤ 1000000000) : R12 (12 * v) v 1 := ⟨validQ_int hv, by omega⟩
theorem mul12 {a b : Int} (ha : -3000000 ≤ a ∧ a ≤ 3000000) (hb : 1 ≤ b ∧ b ≤ 12) : -36000000 ≤ a * b ∧ a * b ≤ 36000000 := by
  have : b = 1 ∨ b = 2 ∨ b = 3 ∨ b = 4 ∨ b = 5 ∨ b = 6 ∨ b = 7 ∨ b = 8 ∨ b = 9 ∨ b = 10 ∨ b = 11 ∨ b = 12 := by omega
  rcases this with rfl | rfl | rfl | rfl | rfl | rfl | rfl | rfl | rfl | rfl | rfl | rfl <;> omega
theorem den12 {a b : Int} (ha : 1 ≤ a ∧ a ≤ 12) (hb : 1 ≤ b ∧ b ≤ 12) : 1 ≤ a * b ∧ a * b ≤ 144 := by
  have : b = 1 ∨ b = 2 ∨ b = 3 ∨ b = 4 ∨ b = 5 ∨ b = 6 ∨ b = 7 ∨ b = 8 ∨ b = 9 ∨ b = 10 ∨ b = 11 ∨ b = 12 := by omega
  rcases this with rfl | rfl | rfl | rfl | rfl | rfl | rfl | rfl | rfl | rfl | rfl | rfl <;> omega
theorem r12_add {z1 z2 a b c d : Int} (h1 : R12 z1 a b) (h2 : R12 z2 c d) (hz1 : -3000000 ≤ z1 ∧ z1 ≤ 3000000) (hz2 : -3000000 ≤ z2 ∧ z2 ≤ 3000000) :
    ∃ x y, addQ a b c d = (x, y, true) ∧ R12 (z1 + z2) x y := by
  obtain ⟨p1, p2⟩ := r12_bd h1 hz1
  obtain ⟨q1, q2⟩ := r12_bd h2 hz2
  have m1 := mul12 p2 q1
  have m2 := mul12 q2 p1
  have m3 := den12 p1 q1
  obtain ⟨x, y, g, r1, r2, r3, r4, r5⟩ := ratOf_ok (a * d + c * b) (b * d) (by omega) (by omega)
  refine ⟨x, y, by unfold addQ; rw [if_pos ⟨h1.1, h2.1⟩, r1], r5, ?_⟩
  refine Int.eq_of_mul_eq_mul_right (a := g) (by omega) ?_
  have e1 := h1.2
  have e2 := h2.2
  grind
theorem r12_sub {z1 z2 a b c d : Int} (h1 : R12 z1 a b) (h2 : R12 z2 c d) (hz1 : -3000000 ≤ z1 ∧ z1 ≤ 3000000) (hz2 : -3000000 ≤ z2 ∧ z2 ≤ 3000000) :
    ∃ x y, subQ a b c d = (x, y, true) ∧ R12 (z1 - z2) x y := by
  obtain ⟨p1, p2⟩ := r12_bd h1 hz1
  obtain ⟨q1, q2⟩ := r12_bd h2 hz2
  have m1 := mul12 p2 q1
  have m2 := mul12 q2 p1
  have m3 := den12 p1 q1
  obtain ⟨x, y, g, r1, r2, r3, r4, r5⟩ := ratOf_ok (a * d - c * b) (b * d) (by omega) (by omega)
  refine ⟨x, y, by unfold subQ; rw [if_pos ⟨h1.1, h2.1⟩, r1], r5, ?_⟩
  refine Int.eq_of_mul_eq_mul_right (a := g) (by omega) ?_
  have e1 := h1.2
  have e2 := h2.2
  grind
theorem r12_div {z z' a b m : Int} (h1 : R12 z a b) (hm : 1 ≤ m ∧ m ≤ 5) (hz : z = m * z') (hz1 : -3000000 ≤ z ∧ z ≤ 3000000) : ∃ x y, divQ a b m 1 = (x, y, true) ∧ R12 z' x y := by
  obtain ⟨p1, p2⟩ := r12_bd h1 hz1
  have m3 := den12 p1 (show 1 ≤ m ∧ m ≤ 12 by omega)
  obtain ⟨x, y, g, r1, r2, r3, r4, r5⟩ := ratOf_ok (a * 1) (b * m) (by omega) (by omega)
  refine ⟨x, y, by unfold divQ; rw [if_pos ⟨h1.1, validQ_int (by omega)⟩, r1], r5, ?_⟩
  refine Int.eq_of_mul_eq_mul_right (a := g) (by omega) ?_
  have e1 := h1.2
  grind
theorem r12_uniq {z a b c d : Int} (h1 : R12 z a b) (h2 : R12 z c d) : a = c ∧ b = d := by
  have v1 := validQ_bd h1.1
  have v2 := validQ_bd h2.1
  have e1 := h1.2
  have e2 := h2.2
  have k1 : a * d = c * b := by
    refine Int.eq_of_mul_eq_mul_right (a := 12) (by decide) ?_
    grind
  have d1 : b ∣ d := int_cop (b := a) ⟨c, by rw [k1, Int.mul_comm]⟩ v1.2.2.2.2
  have d2 : d ∣ b := int_cop (b := c) ⟨a, by rw [← k1, Int.mul_comm]⟩ v2.2.2.2.2
  have l1 := Int.le_of_dvd (by omega) d1
  have l2 := Int.le_of_dvd (by omega) d2
  obtain rfl : b = d := by omega
  exact ⟨Int.eq_of_mul_eq_mul_right (by omega) k1, rfl⟩
/-- twelve times the potential -/
def zT (D : List Int) (s u : Nat) : Int := if u &&& s = u then D.getD u 0 * (12 / ((mems u).length : Nat)) else 0
def zP (D : List Int) (s : Nat) : Int := sm (zT D s) (s + 1)
def zSum (D : List Int) (s : Nat) : List Int → Int
  | [] => 0
  | m :: r => zP D (s - 2 ^ m.toNat) + zSum D s r
theorem mems16 : ∀ s : Fin 16, mems s.val = [[], [0], [1], [0, 1], [2], [0, 2], [1, 2], [0, 1, 2], [3], [0, 3], [1, 3], [0, 1, 3], [2, 3], [0, 2, 3], [1, 2, 3], [0, 1, 2, 3]].getD s.val [] := by decide +kernel
theorem pot_key (l D : List Int) (N s : Nat) (hs : s < 2 ^ N) (hN : N ≤ 4) (h : ∀ s, s < 2 ^ N → l.getD s 0 = sm (inD D s) (s + 1)) (h0 : l.getD 0 0 = 0) :
    12 * l.getD s 0 + zSum D s (mems s) = (if 1 > ((mems s).length : Int) then 1 else ((mems s).length : Int)) * zP D s := by
  have hp : 2 ^ N ≤ 16 := by
    have : N = 0 ∨ N = 1 ∨ N = 2 ∨ N = 3 ∨ N = 4 := by omega
    rcases this with rfl | rfl | rfl | rfl | rfl <;> decide
  have e := h s hs
  have d0 := h 0 (by omega)
  rw [h0] at d0
  have hs16 : s < 16 := by omega
  have hm : mems s = _ := mems16 ⟨s, hs16⟩
  simp only at hm
  clear h hs
  simp [sm, inD] at d0
  have : s = 0 ∨ s = 1 ∨ s = 2 ∨ s = 3 ∨ s = 4 ∨ s = 5 ∨ s = 6 ∨ s = 7 ∨ s = 8 ∨ s = 9 ∨ s = 10 ∨ s = 11 ∨ s = 12 ∨ s = 13 ∨ s = 14 ∨ s = 15 := by omega
  rcases this with rfl | rfl | rfl | rfl | rfl | rfl | rfl | rfl | rfl | rfl | rfl | rfl | rfl | rfl | rfl | rfl <;>
    (rw [hm, e]; simp [sm, inD, zSum, zP, zT, len16]; try omega)
theorem pot_shap (D : List Int) (N k : Nat) (h1 : 1 ≤ N) (h4 : N ≤ 4) (hk : k < N) : 5 * (zP D (2 ^ N - 1) - zP D (2 ^ N - 1 - 2 ^ k)) = sm (dvT D k) (2 ^ N) := by
  have : N = 1 ∨ N = 2 ∨ N = 3 ∨ N = 4 := by omega
  rcases this with rfl | rfl | rfl | rfl
  · obtain rfl : k = 0 := by omega
    simp [sm, zP, zT, dvT, len16, Nat.testBit]
    try omega
  · have hk' : k = 0 ∨ k = 1 := by omega
    rcases hk' with rfl | rfl
    all_goals
      simp [sm, zP, zT, dvT, len16, Nat.testBit]
      try omega
  · have hk' : k = 0 ∨ k = 1 ∨ k = 2 := by omega
    rcases hk' with rfl | rfl | rfl
    all_goals
      simp [sm, zP, zT, dvT, len16, Nat.testBit]
      try omega
  · have hk' : k = 0 ∨ k = 1 ∨ k = 2 ∨ k = 3 := by omega
    rcases hk' with rfl | rfl | rfl | rfl
    all_goals
      simp [sm, zP, zT, dvT, len16, Nat.testBit]
      try omega
def zBt (s u : Nat) : Int := if u &&& s = u then bB u * (12 / ((mems u).length : Nat)) else 0
theorem zB_tab : ∀ s : Fin 16, 0 ≤ sm (zBt s.val) (s.val + 1) ∧ sm (zBt s.val) (s.val + 1) ≤ 600000 := by decide +kernel
theorem q12_tab : ∀ u : Fin 16, (0 : Int) ≤ 12 / (((mems u.val).length : Nat) : Int) := by decide +kernel
theorem sm_le {f g : Nat → Int} : ∀ n, (∀ i, i < n → -g i ≤ f i ∧ f i ≤ g i) → -sm g n ≤ sm f n ∧ sm f n ≤ sm g n
  | 0, _ => ⟨Int.le_refl 0, Int.le_refl 0⟩
  | n + 1, h => by
    have h1 := sm_le n fun i hi => h i (by omega)
    have h2 := h n (by omega)
    simp only [sm]
    omega
theorem zP_bd (D : List Int) (hD : ∀ i, i < 16 → -bB i ≤ D.getD i 0 ∧ D.getD i 0 ≤ bB i) (s : Nat) (hs : s < 16) : -600000 ≤ zP D s ∧ zP D s ≤ 600000 := by
  have h1 := zB_tab ⟨s, hs⟩
  simp only at h1
  have h2 : -sm (zBt s) (s + 1) ≤ sm (zT D s) (s + 1) ∧ sm (zT D s) (s + 1) ≤ sm (zBt s) (s + 1) := sm_le (s + 1) fun i hi => by
    unfold zBt zT
    split
    · have h3 := hD i (by omega)
      have h4 := q12_tab ⟨i, by omega⟩
      simp only at h4
      have h5 := Int.mul_le_mul_of_nonneg_right h3.1 h4
      have h6 := Int.mul_le_mul_of_nonneg_right h3.2 h4
      rw [Int.neg_mul] at h5
      exact ⟨h5, h6⟩
    · omega
  unfold zP
  omega
theorem zSum_bd (D : List Int) (hD : ∀ i, i < 16 → -bB i ≤ D.getD i 0 ∧ D.getD i 0 ≤ bB i) (s : Nat) (hs : s < 16) : ∀ ms : List Int, -(600000 * (ms.length : Int)) ≤ zSum D s ms ∧ zSum D s ms ≤ 600000 * ms.length
  | [] => by simp [zSum]
  | m :: r => by
    have h1 := zSum_bd D hD s hs r
    have h2 := zP_bd D hD (s - 2 ^ m.toNat) (Nat.lt_of_le_of_lt (Nat.sub_le _ _) hs)
    simp only [zSum, List.length_cons]
    omega
theorem potIn_ok (D : List Int) (out : List Q) (hD : ∀ i, i < 16 → -bB i ≤ D.getD i 0 ∧ D.getD i 0 ≤ bB i) (s : Nat) (hs : s < 16) (ms : List Int) (z a b : Int) (ho : ∀ m ∈ ms, R12 (zP D (s - 2 ^ m.toNat)) (out.getD (s - 2 ^ m.toNat) ⟨0, 0⟩).num (out.getD (s - 2 ^ m.toNat) ⟨0, 0⟩).den)
    (h : R12 z a b) (hz : -3000000 + 600000 * (ms.length : Int) ≤ z ∧ z ≤ 3000000 - 600000 * (ms.length : Int)) : ∃ c d, potIn out s ms a b = some (c, d) ∧ R12 (z + zSum D s ms) c d := by
  induction ms generalizing z a b with
  | nil => exact ⟨a, b, rfl, by rw [show zSum D s [] = 0 from rfl, Int.add_zero]; exact h⟩
  | cons m r ih =>
    have h2 := zP_bd D hD (s - 2 ^ m.toNat) (Nat.lt_of_le_of_lt (Nat.sub_le _ _) hs)
    simp only [List.length_cons] at hz
    obtain ⟨x, y, e1, e2⟩ := r12_add h (ho m (by simp)) (by omega) (by omega)
    obtain ⟨c, d, e3, e4⟩ := ih _ x y (fun m hm => ho m (by simp [hm])) e2 (by omega)
    refine ⟨c, d, ?_, ?_⟩
    · simp only [potIn, e1, cond_true]
      exact e3
    · simp only [zSum]
      rwa [Int.add_assoc] at e4
theorem getQ_app (l r : List Q) (i : Nat) (h : i < l.length) : (l ++ r).getD i ⟨0, 0⟩ = l.getD i ⟨0, 0⟩ := by
  rw [List.getD_eq_getElem?_getD, List.getElem?_append_left h, ← List.getD_eq_getElem?_getD]
theorem getQ_last (l : List Q) (x : Q) (n : Nat) (h : l.length = n) : (l ++ [x]).getD n ⟨0, 0⟩ = x := by
  subst h
  simp [List.getD_eq_getElem?_getD]
theorem pot_all (l D : List Int) (N : Nat) (hN : N ≤ 4) (hv : ∀ i, -500 ≤ l.getD i 0 ∧ l.getD i 0 ≤ 500) (h : ∀ s, s < 2 ^ N → l.getD s 0 = sm (inD D s) (s + 1)) (h0 : l.getD 0 0 = 0)
    (hD : ∀ i, i < 16 → -bB i ≤ D.getD i 0 ∧ D.getD i 0 ≤ bB i) : ∀ n, n ≤ 2 ^ N → (∀ s, s < n → R12 (zP D s) ((pots l n).getD s ⟨0, 0⟩).num ((pots l n).getD s ⟨0, 0⟩).den) ∧ ∀ s, s < n → (potStep l (pots l s) s).isSome = true
  | 0, _ => ⟨fun s hs => by omega, fun s hs => by omega⟩
  | n + 1, hn => by
    obtain ⟨g1, g2⟩ := pot_all l D N hN hv h h0 hD n (by omega)
    have hp : 2 ^ N ≤ 16 := by
      have : N = 0 ∨ N = 1 ∨ N = 2 ∨ N = 3 ∨ N = 4 := by omega
      rcases this with rfl | rfl | rfl | rfl | rfl <;> decide
    have hvn := hv n
    have hlen := len16 n (by omega)
    have hl4 : (mems n).length ≤ 4 := by
      have : ∀ u : Fin 16, (mems u.val).length ≤ 4 := by decide +kernel
      exact this ⟨n, by omega⟩
    obtain ⟨a, b, e1, e2⟩ := potIn_ok D (pots l n) hD n (by omega) (mems n) (12 * l.getD n 0) (l.getD n 0) 1 (fun m hm => by
      obtain ⟨k, rfl, hk, hb⟩ := mems_mem hm
      have h3 := (sub_tab ⟨n, by omega⟩ ⟨k, hk⟩ hb).1
      simp only at h3
      have h4 : 0 < 2 ^ k := Nat.pow_pos (by decide)
      rw [Int.toNat_natCast]
      exact g1 _ (by omega)) (r12_whole _ (by omega)) (by omega)
    have hkey := pot_key l D N n (by omega) hN h h0
    have hzb := zSum_bd D hD n (by omega) (mems n)
    have hdv : ∃ x y, divQ a b (if 1 > ((mems n).length : Int) then 1 else ((mems n).length : Int)) 1 = (x, y, true) ∧ R12 (zP D n) x y := by
      refine r12_div e2 ?_ hkey (by omega)
      split <;> omega
    obtain ⟨x, y, f1, f2⟩ := hdv
    have hst : potStep l (pots l n) n = some ⟨x, y⟩ := by
      unfold potStep
      simp only [e1, f1, cond_true]
    have hpl := pots_length l n
    refine ⟨fun s hs => ?_, fun s hs => ?_⟩
    · rw [pots_succ, hst, Option.getD_some]
      by_cases e : s = n
      · subst e
        rw [getQ_last _ _ _ hpl]
        exact f2
      · rw [getQ_app _ _ _ (by omega)]
        exact g1 s (by omega)
    · by_cases e : s = n
      · subst e; rw [hst]; rfl
      · exact g2 s (by omega)
theorem spec_pot (N : Nat) (l : List Int) (hl : l.length ≤ 1048576) (hv : validB (N : Int) l = true) (hok : ∀ s, s < l.length → (potStep l (pots l s) s).isSome = true) : m_spec_PotentialOf (N : Int) l = some (pots l l.length) := by
  obtain ⟨M, hM, h1, h2, h3, h4⟩ := valid_nat ((validB_eq _ l).1 hv)
  unfold m_spec_PotentialOf
  have s1 := iter_up (step := l_spec_PotentialOf_0 (N : Int) l) (fun s => ((s : Int), pots l s)) l.length (a := .inl (pots l l.length)) (fun s hs => by
      rw [spec_potStep N l hv s hs]
      have := hok s hs
      cases hq : potStep l (pots l s) s with
      | none => rw [hq] at this; cases this
      | some q => rfl)
    (by unfold l_spec_PotentialOf_0; dsimp only; rw [decide_eq_false (by omega)]; rfl)
  have e0 : pots l 0 = [] := rfl
  simp only [Int.natCast_zero, e0] at s1
  rw [s1]
  rfl
theorem spec_pot0 (n : Int) (l : List Int) (hl : l.length ≤ 1048576) (hv : validB n l = false) : m_spec_PotentialOf n l = some [] := by
  unfold m_spec_PotentialOf
  rw [iter_done (a := (.inl [] : List Q ⊕ List Q))]
  · rfl
  · unfold l_spec_PotentialOf_0
    dsimp only
    rw [spec_valid n l hl, hv]
    cases decide ((0 : Int) < (l.length : Int)) <;> rfl
theorem draw_pot (c : List UInt8) (hc : c.length ≤ 1048576) : ∃ n l, m_spec_DrawPotentialOf c = some (n, l) ∧ l.length ≤ 17 ∧ (-1 ≤ n ∧ n ≤ 6) := by
  unfold m_spec_DrawPotentialOf
  obtain ⟨h, e⟩ := new2 0 [] c
  rw [e, Option.bind_some]
  dsimp only
  obtain ⟨n, l, i', h', b1, b2, b3, _⟩ := bent_ok c 0 h hc (Int.le_refl 0)
  rw [b1, Option.bind_some]
  exact ⟨_, _, rfl, b3.2, b2⟩
theorem pot_loop (l D : List Int) (P : List Q) (N : Nat) (h1 : 1 ≤ N) (h4 : N ≤ 4) (hlen : l.length = 2 ^ N) (hv : ∀ i, -500 ≤ l.getD i 0 ∧ l.getD i 0 ≤ 500) (hDe : D = divs l (2 ^ N))
    (hD : ∀ i, i < 16 → -bB i ≤ D.getD i 0 ∧ D.getD i 0 ≤ bB i) (hPl : P.length = 2 ^ N) (hP : ∀ s, s < 2 ^ N → R12 (zP D s) (P.getD s ⟨0, 0⟩).num (P.getD s ⟨0, 0⟩).den) :
    iter (l_laws_FnPotential_0 l P true (tab (shQ l N) N)) 0 = some (.inl ()) := by
  have hp : 2 ≤ 2 ^ N ∧ 2 ^ N ≤ 16 := by
    have : N = 1 ∨ N = 2 ∨ N = 3 ∨ N = 4 := by omega
    rcases this with rfl | rfl | rfl | rfl <;> decide
  have hfc : 1 ≤ fctI N ∧ fctI N ≤ 24 := by
    have : N = 1 ∨ N = 2 ∨ N = 3 ∨ N = 4 := by omega
    rcases this with rfl | rfl | rfl | rfl <;> decide
  have hit := iter_up (step := l_laws_FnPotential_0 l P true (tab (shQ l N) N)) (fun k => (k : Int)) N (a := .inl ()) (fun k hk => by
      obtain ⟨f1, f2, f3⟩ := shF_eq l N k h4 hv (2 ^ N) hp.2
      have key := shap_div l N k h1 h4 hk hv
      rw [← hDe, ← f1, ← pot_shap D N k h1 h4 hk] at key
      obtain ⟨a, b, g, r1, r2, r3, r4, r5⟩ := ratOf_ok (shF l N k (2 ^ N)) (fctI N) (by omega) (by omega)
      have hq : shQ l N k = ⟨a, b⟩ := by unfold shQ; rw [hlen, r1]
      have p2 : 1 ≤ 2 ^ k ∧ 2 ^ k ≤ 2 ^ N - 1 := by
        refine ⟨Nat.pow_pos (by decide), ?_⟩
        have : 2 ^ k < 2 ^ N := Nat.pow_lt_pow_right (by decide) hk
        omega
      have hR : R12 (zP D (2 ^ N - 1) - zP D (2 ^ N - 1 - 2 ^ k)) a b := by
        refine ⟨r5, Int.eq_of_mul_eq_mul_right (a := 5 * g) (by omega) ?_⟩
        rw [r2, r3] at key
        grind
      have z1 := zP_bd D hD (2 ^ N - 1) (by omega)
      have z2 := zP_bd D hD (2 ^ N - 1 - 2 ^ k) (by omega)
      obtain ⟨x, y, s1, s2⟩ := r12_sub (hP (2 ^ N - 1) (by omega)) (hP (2 ^ N - 1 - 2 ^ k) (by omega)) (by omega) (by omega)
      obtain ⟨u1, u2⟩ := r12_uniq s2 hR
      have w1 : IntKind.i64.wrap ((P.length : Int) - 1) = ((2 ^ N - 1 : Nat) : Int) := by rw [hPl, w64' (by omega) (by omega)]; omega
      have w2 : IntKind.i64.wrap (((2 ^ N - 1 : Nat) : Int) - ((2 ^ k : Nat) : Int)) = ((2 ^ N - 1 - 2 ^ k : Nat) : Int) := by rw [w64' (by omega) (by omega)]; omega
      have c2 : ((2 : Int) ^ k) = ((2 ^ k : Nat) : Int) := by push_cast; rfl
      unfold l_laws_FnPotential_0
      rw [tab_length, decide_eq_true (by omega), cond_true, cond_true, hPl, hlen, beq_self_eq_true, cond_true, ← hPl, w1, grd_pos (by omega), count0 k (by omega), Option.bind_some, c2, w2, grd_pos (by omega), Int.toNat_natCast, Int.toNat_natCast, impl_sub, s1, Option.bind_some]
      dsimp only
      rw [Bool.not_true, cond_false, grd_pos (by omega), Int.toNat_natCast, tab_getD (shQ l N) N ⟨0, 0⟩ k hk, hq, u1, u2, w64' (n := (k : Int) + 1) (by omega) (by omega)]
      simp)
    (by unfold l_laws_FnPotential_0; rw [tab_length, decide_eq_false (by omega)]; rfl)
  exact hit
theorem law_FnPotential (c : List UInt8) (_ : c.length ≤ maxLen) : m_laws_FnPotential c = some true := by
  unfold m_laws_FnPotential m_laws_big
  by_cases hb : (c.length : Int) > 1048576
  · rw [decide_eq_true hb]; rfl
  have hc : c.length ≤ 1048576 := by omega
  obtain ⟨n, l, e1, el, en⟩ := draw_pot c hc
  have hl : l.length ≤ 1048576 := by omega
  obtain ⟨r, hr, d1, d2⟩ := pot_both n l hl
  simp only [decide_eq_false hb, Option.bind_some, cond_false, e1, d1, d2, spec_eqv r r hr, decide_true, Bool.not_true]
  cases hv : validB n l with
  | false =>
    have hr0 : r = [] := by
      have := spec_pot0 n l hl hv
      rw [d1] at this
      exact Option.some.inj this
    subst hr0
    rw [spec_shap0 n l hl hv]
    have : iter (l_laws_FnPotential_0 l [] false []) 0 = some (.inl ()) := iter_done (by unfold l_laws_FnPotential_0; rfl)
    simp only [Option.bind_some, this]
    rfl
  | true =>
    have hV := (validB_eq n l).1 hv
    obtain ⟨N, rfl, h1, h2, h3, h4⟩ := valid_nat hV
    have hN4 : N ≤ 4 := by
      rcases Nat.lt_or_ge 4 N with h | h
      · obtain rfl : N = 5 := by omega
        omega
      · exact h
    have hp16 : 1 ≤ 2 ^ N ∧ 2 ^ N ≤ 16 := by
      have : N = 1 ∨ N = 2 ∨ N = 3 ∨ N = 4 := by omega
      rcases this with rfl | rfl | rfl | rfl <;> decide
    have hvb := val_bd hV
    have hlD := divs_length l (2 ^ N)
    have hD : ∀ i, i < 16 → -bB i ≤ (divs l (2 ^ N)).getD i 0 ∧ (divs l (2 ^ N)).getD i 0 ≤ bB i := fun i hi16 => by
      by_cases hi : i < 2 ^ N
      · exact (div_key l (2 ^ N) hp16.2 hvb i hi).1
      · have k2 := bB_pos ⟨i, hi16⟩
        simp only at k2
        rw [List.getD_eq_getElem?_getD, List.getElem?_eq_none (by omega), Option.getD_none]
        omega
    obtain ⟨k1, k2⟩ := pot_all l (divs l (2 ^ N)) N hN4 hvb (fun s hs => val_sum l (2 ^ N) hp16.2 hvb s hs) hV.2.2.1 hD (2 ^ N) (Nat.le_refl _)
    have hr0 : r = pots l (2 ^ N) := by
      have := spec_pot N l hl hv (by rw [h3]; exact k2)
      rw [d1, h3] at this
      exact Option.some.inj this
    subst hr0
    have hpl := pots_length l (2 ^ N)
    have hdec : decide (((pots l (2 ^ N)).length : Int) > 0) = true := decide_eq_true (by omega)
    simp only [spec_shap N l hl hv, Option.bind_some, pot_loop l (divs l (2 ^ N)) (pots l (2 ^ N)) N h1 hN4 h3 hvb rfl hD hpl k1, hdec, beq_self_eq_true]
end Go.Proofs.Ytmlfjoppaciknaa
