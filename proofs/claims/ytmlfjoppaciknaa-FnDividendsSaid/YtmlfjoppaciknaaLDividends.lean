/- The plain laws: what the models of FnDividends compute. No condition beyond those that each theorem names. -/
import Derived.Test.YtmlfjoppaciknaaGDividends
import Derived.Test.YtmlfjoppaciknaaAmC
namespace Go.Proofs.Ytmlfjoppaciknaa
open Go.AM
def Valid (n : Int) (l : List Int) : Prop := (1 ≤ n ∧ n ≤ 5) ∧ (l.length : Int) = 2 ^ n.toNat ∧ l.getD 0 0 = 0 ∧ ∀ i, i < l.length → -500 ≤ l.getD i 0 ∧ l.getD i 0 ≤ 500
open Classical in
noncomputable def validB (n : Int) (l : List Int) : Bool := decide (Valid n l)
theorem in_eq (a b c : Int) : m_spec_l1In a b c = some (decide (b ≤ a ∧ a ≤ c)) := by
  unfold m_spec_l1In
  by_cases h : a ≥ b
  · have h' : b ≤ a := h
    simp [h, h']
  · have h' : ¬ b ≤ a := h
    simp [h, h']
theorem within_eq (a b c : Int) : m_impl_within a b c = some (decide (b ≤ a ∧ a ≤ c)) := in_eq a b c
theorem count_eq (n : Int) (h1 : 1 ≤ n) (h2 : n ≤ 5) : m_spec_CountCoalitions n = some (2 ^ n.toNat) := by
  unfold m_spec_CountCoalitions
  rw [in_eq]
  have hb : decide ((0 : Int) ≤ n ∧ n ≤ 5) = true := by simp; omega
  rw [hb, Option.bind_some, Bool.not_true, cond_false]
  have hit := iter_up (step := l_spec_CountCoalitions_0 n) (fun i => ((2 : Int) ^ i, (i : Int))) n.toNat (a := 2 ^ n.toNat) (fun i hi => by
      have hlt : (i : Int) < n := by omega
      have hi5 : i < 5 := by omega
      unfold l_spec_CountCoalitions_0
      simp only [hlt, decide_true, cond_true]
      have hp : (2 : Int) ^ i ≤ 16 := by
        have : i = 0 ∨ i = 1 ∨ i = 2 ∨ i = 3 ∨ i = 4 := by omega
        rcases this with rfl | rfl | rfl | rfl | rfl <;> decide
      have hp0 : (0 : Int) < 2 ^ i := Int.pow_pos (by decide)
      rw [w64' (by omega) (by omega), w64' (by omega) (by omega)]
      simp [Int.pow_succ])
    (by
      unfold l_spec_CountCoalitions_0
      have : ¬ ((n.toNat : Int) < n) := by omega
      simp only [this, decide_false, cond_false])
  simp only [Int.pow_zero, Int.ofNat_eq_natCast, Int.natCast_zero] at hit
  rw [hit]
  rfl
theorem spec_valid (n : Int) (l : List Int) (hl : l.length ≤ 1048576) : m_spec_IsValidGame n l = some (validB n l) := by
  unfold m_spec_IsValidGame
  have hit := iter_first (step := l_spec_IsValidGame_0 l) (fun i => (i : Int)) l.length (fun i => decide (-500 ≤ l.getD i 0 ∧ l.getD i 0 ≤ 500)) (a := .inl ()) (fun _ => .inr false)
    (fun i hi hp => by
      have hi' : (i : Int) < l.length := by omega
      unfold l_spec_IsValidGame_0
      rw [decide_eq_true hi', cond_true, grd_pos ⟨by omega, hi'⟩, in_eq, Int.toNat_natCast, hp, Option.bind_some, Bool.not_true, cond_false, w64' (by omega) (by omega)]
      rfl)
    (fun i hi hp => by
      have hi' : (i : Int) < l.length := by omega
      unfold l_spec_IsValidGame_0
      rw [decide_eq_true hi', cond_true, grd_pos ⟨by omega, hi'⟩, in_eq, Int.toNat_natCast, hp]
      rfl)
    (by
      unfold l_spec_IsValidGame_0
      rw [decide_eq_false (by omega)]
      rfl)
  simp only [Int.ofNat_eq_natCast, Int.natCast_zero] at hit
  rcases hit with ⟨h1, h2⟩ | ⟨i, h1, h2, h3⟩
  · rw [h2]
    simp only [Option.bind_some]
    rw [in_eq]
    by_cases hn : 1 ≤ n ∧ n ≤ 5
    · rw [decide_eq_true hn, Option.bind_some, cond_true, count_eq n hn.1 hn.2, Option.bind_some]
      by_cases hlen : (l.length : Int) = 2 ^ n.toNat
      · have hpos : (0 : Int) < 2 ^ n.toNat := Int.pow_pos (by decide)
        have e1 : ((l.length : Int) == 2 ^ n.toNat) = true := by simpa using hlen
        rw [e1, cond_true, grd_pos ⟨by omega, by omega⟩]
        congr 1
        have h0 : (0 : Int).toNat = 0 := rfl
        rw [h0]
        by_cases hz : l.getD 0 0 = 0
        · have hv : Valid n l := ⟨hn, hlen, hz, fun i hi => by simpa using h1 i hi⟩
          rw [hz]
          simp [validB, hv]
        · have hv : ¬ Valid n l := fun h => hz h.2.2.1
          simp only [validB, hv, decide_false]
          simpa using hz
      · have e1 : ((l.length : Int) == 2 ^ n.toNat) = false := by simpa using hlen
        have hv : ¬ Valid n l := fun h => hlen h.2.1
        rw [e1, cond_false]
        simp [validB, hv]
    · have hv : ¬ Valid n l := fun h => hn h.1
      rw [decide_eq_false hn]
      simp [validB, hv]
  · rw [h3]
    have hv : ¬ Valid n l := fun h => by
      have := h.2.2.2 i h1
      simp only [decide_eq_false_iff_not] at h2
      exact h2 this
    simp [validB, hv]
theorem contains_eq (l : List Int) (hl : l.length ≤ 1048576) : ∃ r, m_slices_ContainsFunc_int_int_impl_IsValidGame_1 l = some r ∧ (r = false ↔ ∀ i, i < l.length → -500 ≤ l.getD i 0 ∧ l.getD i 0 ≤ 500) := by
  unfold m_slices_ContainsFunc_int_int_impl_IsValidGame_1 m_slices_IndexFunc_int_int_impl_IsValidGame_1
  have hm : ∀ x, m_impl_IsValidGame_1 x = some (!decide (-500 ≤ x ∧ x ≤ 500)) := fun x => by
    unfold m_impl_IsValidGame_1
    rw [within_eq]
    rfl
  have hit := iter_first (step := l_slices_IndexFunc_int_int_impl_IsValidGame_1_0 l) (fun i => (i : Int)) l.length (fun i => decide (-500 ≤ l.getD i 0 ∧ l.getD i 0 ≤ 500)) (a := .inl ()) (fun i => .inr (i : Int))
    (fun i hi hp => by
      have hi' : (i : Int) < l.length := by omega
      unfold l_slices_IndexFunc_int_int_impl_IsValidGame_1_0
      rw [decide_eq_true hi', cond_true, grd_pos ⟨by omega, hi'⟩, hm, Int.toNat_natCast, hp, Option.bind_some, Bool.not_true, cond_false, w64' (by omega) (by omega)]
      rfl)
    (fun i hi hp => by
      have hi' : (i : Int) < l.length := by omega
      unfold l_slices_IndexFunc_int_int_impl_IsValidGame_1_0
      rw [decide_eq_true hi', cond_true, grd_pos ⟨by omega, hi'⟩, hm, Int.toNat_natCast, hp]
      rfl)
    (by
      unfold l_slices_IndexFunc_int_int_impl_IsValidGame_1_0
      rw [decide_eq_false (by omega)]
      rfl)
  simp only [Int.ofNat_eq_natCast, Int.natCast_zero] at hit
  rcases hit with ⟨h1, h2⟩ | ⟨i, h1, h2, h3⟩
  · rw [h2]
    exact ⟨false, rfl, by simpa using h1⟩
  · rw [h3]
    refine ⟨true, by simp, ?_⟩
    simp only [reduceCtorEq, false_iff]
    intro h
    simp only [decide_eq_false_iff_not] at h2
    exact h2 (h i h1)
theorem impl_valid (n : Int) (l : List Int) (hl : l.length ≤ 1048576) : m_impl_IsValidGame n l = some (validB n l) := by
  unfold m_impl_IsValidGame
  rw [within_eq]
  by_cases hn : 1 ≤ n ∧ n ≤ 5
  · rw [decide_eq_true hn, Option.bind_some, Bool.not_true, cond_false, grd_pos (by omega)]
    have hw : IntKind.i64.wrap ((1 : Int) * 2 ^ (min n.toNat 64)) = 2 ^ n.toNat := by
      have : n = 1 ∨ n = 2 ∨ n = 3 ∨ n = 4 ∨ n = 5 := by omega
      rcases this with rfl | rfl | rfl | rfl | rfl <;> decide
    rw [hw]
    by_cases hlen : (l.length : Int) = 2 ^ n.toNat
    · have hpos : (0 : Int) < 2 ^ n.toNat := Int.pow_pos (by decide)
      have e1 : ((l.length : Int) != 2 ^ n.toNat) = false := by simpa using hlen
      rw [e1, cond_false, grd_pos ⟨by omega, by omega⟩]
      have h0 : (0 : Int).toNat = 0 := rfl
      rw [h0]
      by_cases hz : l.getD 0 0 = 0
      · have e2 : (l.getD 0 0 != 0) = false := by simpa using hz
        rw [e2, cond_false]
        obtain ⟨r, h1, h2⟩ := contains_eq l hl
        rw [h1, Option.bind_some]
        congr 1
        by_cases hr : r = false
        · have hv : Valid n l := ⟨hn, hlen, hz, h2.1 hr⟩
          simp [validB, hv, hr]
        · have hv : ¬ Valid n l := fun h => hr (h2.2 h.2.2.2)
          have hr' : r = true := by cases r <;> simp at hr ⊢
          simp [validB, hv, hr']
      · have e2 : (l.getD 0 0 != 0) = true := by simpa using hz
        have hv : ¬ Valid n l := fun h => hz h.2.2.1
        rw [e2]
        simp [validB, hv]
    · have e1 : ((l.length : Int) != 2 ^ n.toNat) = true := by simpa using hlen
      have hv : ¬ Valid n l := fun h => hlen h.2.1
      rw [e1]
      simp [validB, hv]
  · have hv : ¬ Valid n l := fun h => hn h.1
    rw [decide_eq_false hn]
    simp [validB, hv]
theorem iter_find {S A : Type} {step : S → Option (S ⊕ A)} (st : Nat → S) (n : Nat) (p : Nat → Bool) (a : A) (b : Nat → A)
    (hs : ∀ i, i < n → step (st i) = some (if p i = true then .inr (b i) else .inl (st (i + 1)))) (hd : step (st n) = some (.inr a)) :
    iter step (st 0) = some (match (List.range n).find? p with
      | some i => b i
      | none => a) := by
  have key : ∀ k, k ≤ n → iter step (st (n - k)) = some (match (List.range' (n - k) k).find? p with
      | some i => b i
      | none => a) := by
    intro k
    induction k with
    | zero => intro _; simpa using iter_done hd
    | succ k ih =>
      intro hk
      have h1 := hs (n - (k + 1)) (by omega)
      rw [List.range'_succ, List.find?_cons]
      cases hp : p (n - (k + 1)) with
      | true =>
        rw [if_pos hp] at h1
        exact iter_done h1
      | false =>
        rw [if_neg (by simp [hp])] at h1
        rw [iter_next h1, show n - (k + 1) + 1 = n - k by omega]
        exact ih (by omega)
  have := key n (Nat.le_refl _)
  rw [Nat.sub_self, ← List.range_eq_range'] at this
  exact this
def tab {α : Type} (f : Nat → α) (n : Nat) : List α := (List.range n).map f
theorem tab_succ {α : Type} (f : Nat → α) (n : Nat) : tab f (n + 1) = tab f n ++ [f n] := by simp [tab, List.range_succ]
theorem tab_length {α : Type} (f : Nat → α) (n : Nat) : (tab f n).length = n := by simp [tab]
theorem tab_getD {α : Type} (f : Nat → α) (n : Nat) (d : α) (i : Nat) (h : i < n) : (tab f n).getD i d = f i := by
  simp [tab, List.getD, List.getElem?_map, List.getElem?_range h]
theorem tab_self {α : Type} (l : List α) (d : α) : tab (fun i => l.getD i d) l.length = l := by
  apply List.ext_getElem (by simp [tab])
  intro i h1 h2
  simp [tab, List.getD, List.getElem?_eq_getElem h2]
theorem tab_ext {α : Type} {f g : Nat → α} {n : Nat} (h : ∀ i, i < n → f i = g i) : tab f n = tab g n := by
  apply List.ext_getElem (by simp [tab])
  intro i h1 h2
  simp only [tab, List.length_map, List.length_range] at h1
  simp [tab, h i h1]
def fil {α : Type} (p : Nat → Bool) (f : Nat → α) (n : Nat) : List α := ((List.range n).filter p).map f
theorem fil_succ {α : Type} (p : Nat → Bool) (f : Nat → α) (n : Nat) : fil p f (n + 1) = if p n = true then fil p f n ++ [f n] else fil p f n := by
  simp only [fil, List.range_succ, List.filter_append]
  by_cases h : p n = true
  · simp [h]
  · simp [h]
theorem fil_length {α : Type} (p : Nat → Bool) (f : Nat → α) (n : Nat) : (fil p f n).length ≤ n := by
  simp only [fil, List.length_map]
  exact Nat.le_trans (List.length_filter_le _ _) (by simp)
def sm (f : Nat → Int) : Nat → Int
  | 0 => 0
  | n + 1 => sm f n + f n
theorem sm_bd {f : Nat → Int} {B : Int} : ∀ {n : Nat}, (∀ i, i < n → -B ≤ f i ∧ f i ≤ B) → -(B * n) ≤ sm f n ∧ sm f n ≤ B * n
  | 0, _ => by simp [sm]
  | n + 1, h => by
    have h1 := sm_bd (n := n) fun i hi => h i (by omega)
    have h2 := h n (by omega)
    have h3 : B * ((n + 1 : Nat) : Int) = B * n + B := by rw [Int.natCast_add, Int.mul_add]; simp
    simp only [sm]
    omega
theorem getD_nat {α : Type} (l : List α) (i : Nat) (d : α) : l.getD (i : Int).toNat d = l.getD i d := by rw [Int.toNat_natCast]
def validQ (a b : Int) : Bool := decide (1 ≤ b ∧ b ≤ 1000000000 ∧ -1000000000 ≤ a ∧ a ≤ 1000000000 ∧ Int.gcd a b = 1)
theorem gcd_loop (m n : Nat) : iter l_spec_l3Gcd_0 ((m : Int), (n : Int)) = some ((Nat.gcd m n : Nat) : Int) := by
  induction n using Nat.strongRecOn generalizing m with
  | _ n ih =>
    by_cases h : n = 0
    · subst h
      rw [iter_done (a := (m : Int))]
      · simp
      · simp [l_spec_l3Gcd_0]
    · have hs : l_spec_l3Gcd_0 ((m : Int), (n : Int)) = some (.inl ((n : Int), ((m % n : Nat) : Int))) := by
        unfold l_spec_l3Gcd_0
        dsimp only
        rw [decide_eq_true (by omega), cond_true, grd_pos (by omega)]
        rfl
      rw [iter_next hs, ih (m % n) (Nat.mod_lt _ (by omega)) n, Nat.gcd_comm n (m % n), ← Nat.gcd_rec n m, Nat.gcd_comm n m]
theorem spec_gcd (a b : Int) (ha : -9223372036854775807 ≤ a ∧ a ≤ 9223372036854775807) (hb : -9223372036854775807 ≤ b ∧ b ≤ 9223372036854775807) : m_spec_l3Gcd a b = some ((Int.gcd a b : Nat) : Int) := by
  unfold m_spec_l3Gcd
  have e1 : l_spec_l3Gcd_1 = l_spec_l3Gcd_0 := rfl
  have e2 : l_spec_l3Gcd_2 = l_spec_l3Gcd_0 := rfl
  have e3 : l_spec_l3Gcd_3 = l_spec_l3Gcd_0 := rfl
  rw [e1, e2, e3]
  have ea : (if a < 0 then IntKind.i64.wrap (0 - a) else a) = (a.natAbs : Int) := by
    by_cases h : a < 0
    · rw [if_pos h, w64' (by omega) (by omega)]; omega
    · rw [if_neg h]; omega
  have eb : (if b < 0 then IntKind.i64.wrap (0 - b) else b) = (b.natAbs : Int) := by
    by_cases h : b < 0
    · rw [if_pos h, w64' (by omega) (by omega)]; omega
    · rw [if_neg h]; omega
  have key := gcd_loop a.natAbs b.natAbs
  rw [← ea, ← eb] at key
  have hg : Nat.gcd a.natAbs b.natAbs = Int.gcd a b := rfl
  rw [hg] at key
  by_cases h1 : a < 0 <;> by_cases h2 : b < 0 <;> simp only [h1, h2, if_true, if_false, decide_true, decide_false, cond_true, cond_false] at key ⊢ <;> rw [key] <;> rfl
theorem spec_validRat (a b : Int) : m_spec_IsValidRat a b = some (validQ a b) := by
  unfold m_spec_IsValidRat
  rw [in_eq, Option.bind_some]
  by_cases hb : 1 ≤ b ∧ b ≤ 1000000000
  · rw [decide_eq_true hb, cond_true, in_eq, Option.bind_some]
    by_cases ha : -1000000000 ≤ a ∧ a ≤ 1000000000
    · rw [decide_eq_true ha, cond_true, spec_gcd a b (by omega) (by omega), Option.bind_some]
      congr 1
      by_cases hg : Int.gcd a b = 1
      · simp [validQ, hg, ha, hb]
      · have : ¬ ((Int.gcd a b : Nat) : Int) = 1 := by omega
        simp [validQ, hg, this]
    · rw [decide_eq_false ha, cond_false]
      have : ¬ (1 ≤ b ∧ b ≤ 1000000000 ∧ -1000000000 ≤ a ∧ a ≤ 1000000000 ∧ Int.gcd a b = 1) := fun h => ha ⟨h.2.2.1, h.2.2.2.1⟩
      rw [validQ, decide_eq_false this]
  · rw [decide_eq_false hb, cond_false]
    have : ¬ (1 ≤ b ∧ b ≤ 1000000000 ∧ -1000000000 ≤ a ∧ a ≤ 1000000000 ∧ Int.gcd a b = 1) := fun h => hb ⟨h.1, h.2.1⟩
    rw [validQ, decide_eq_false this]
theorem validQ_bd {a b : Int} (h : validQ a b = true) : 1 ≤ b ∧ b ≤ 1000000000 ∧ -1000000000 ≤ a ∧ a ≤ 1000000000 ∧ Int.gcd a b = 1 := by simpa [validQ] using h
instance : DecidableEq Q := fun a b =>
  if h1 : a.num = b.num then
    if h2 : a.den = b.den then isTrue (by cases a; cases b; simp only at h1 h2; rw [h1, h2])
    else isFalse (fun h => h2 (by rw [h]))
  else isFalse (fun h => h1 (by rw [h]))
theorem count0 (n : Nat) (h : n ≤ 5) : m_spec_CountCoalitions (n : Int) = some (2 ^ n) := by
  rcases Nat.eq_zero_or_pos n with rfl | h1
  · unfold m_spec_CountCoalitions
    rw [in_eq, decide_eq_true (by omega), Option.bind_some, Bool.not_true, cond_false]
    rw [iter_done (a := (1 : Int)) (by simp [l_spec_CountCoalitions_0])]
    rfl
  · rw [count_eq (n : Int) (by omega) (by omega)]
    simp
theorem bit2 (k : Nat) (h : k < 5) : m_spec_l2Bit (k : Int) = some (2 ^ k) := by
  unfold m_spec_l2Bit
  rw [count0 k (by omega)]
  rfl
theorem has_tab : ∀ s : Fin 32, ∀ k : Fin 5, ((IntKind.i64.wrap (((s.val : Nat) : Int).tdiv (2 ^ k.val))).tmod 2 == 1) = s.val.testBit k.val := by decide +kernel
theorem shl_tab : ∀ k : Fin 6, IntKind.i64.wrap (1 * 2 ^ (min ((k.val : Nat) : Int).toNat 64)) = ((2 ^ k.val : Nat) : Int) := by decide +kernel
theorem andNot_tab : ∀ a : Fin 32, ∀ b : Fin 32, (bitsOf .andNot .i64 ((a.val : Nat) : Int) ((b.val : Nat) : Int) == 0) = decide (a.val &&& b.val = a.val) := by decide +kernel
theorem add_tab : ∀ s : Fin 32, ∀ k : Fin 5, s.val.testBit k.val = false → s.val + 2 ^ k.val = s.val ||| 2 ^ k.val := by decide +kernel
theorem shl_eq (k : Nat) (hk : k < 6) : IntKind.i64.wrap (1 * 2 ^ (min (k : Int).toNat 64)) = ((2 ^ k : Nat) : Int) := shl_tab ⟨k, hk⟩
theorem andNot_eq (a b : Nat) (ha : a < 32) (hb : b < 32) : (bitsOf .andNot .i64 (a : Int) (b : Int) == 0) = decide (a &&& b = a) := andNot_tab ⟨a, ha⟩ ⟨b, hb⟩
theorem add_eq (s k : Nat) (hs : s < 32) (hk : k < 5) (h : s.testBit k = false) : s + 2 ^ k = s ||| 2 ^ k := add_tab ⟨s, hs⟩ ⟨k, hk⟩ h
theorem spec_has (s k : Nat) (hs : s < 32) (hk : k < 5) : m_spec_HasPlayer (s : Int) (k : Int) = some (s.testBit k) := by
  unfold m_spec_HasPlayer
  have hp : (0 : Int) < 2 ^ k := Int.pow_pos (by decide)
  rw [in_eq, decide_eq_true (by omega), Option.bind_some, cond_true, decide_eq_true (by omega), cond_true, bit2 k hk, Option.bind_some, grd_pos (by omega), grd_pos (by decide)]
  rw [← has_tab ⟨s, hs⟩ ⟨k, hk⟩]
/-- a valid game, in natural numbers -/
theorem valid_nat {n : Int} {l : List Int} (h : Valid n l) : ∃ N : Nat, n = (N : Int) ∧ 1 ≤ N ∧ N ≤ 5 ∧ l.length = 2 ^ N ∧ l.length ≤ 32 := by
  obtain ⟨h1, h2, _⟩ := h
  have hn : n = 1 ∨ n = 2 ∨ n = 3 ∨ n = 4 ∨ n = 5 := by omega
  refine ⟨n.toNat, by omega, by omega, by omega, ?_, ?_⟩
  · rcases hn with rfl | rfl | rfl | rfl | rfl <;> simp at h2 ⊢ <;> omega
  · rcases hn with rfl | rfl | rfl | rfl | rfl <;> simp at h2 ⊢ <;> omega
theorem validB_eq (n : Int) (l : List Int) : validB n l = true ↔ Valid n l := by simp [validB]
theorem pow_le32 {N : Nat} (h : N ≤ 5) : 2 ^ N ≤ 32 := by
  have : N = 0 ∨ N = 1 ∨ N = 2 ∨ N = 3 ∨ N = 4 ∨ N = 5 := by omega
  rcases this with rfl | rfl | rfl | rfl | rfl | rfl <;> decide
def dv (v : Int) (o : List Int) (s : Nat) : Nat → Int
  | 0 => v
  | t + 1 => if t &&& s = t then IntKind.i64.wrap (dv v o s t - o.getD t 0) else dv v o s t
def divs (l : List Int) : Nat → List Int
  | 0 => []
  | s + 1 => divs l s ++ [dv (l.getD s 0) (divs l s) s s]
theorem divs_length (l : List Int) : ∀ s, (divs l s).length = s
  | 0 => rfl
  | s + 1 => by simp [divs, divs_length l s]
theorem spec_subset (a b : Nat) (ha : a < 32) (hb : b < 32) : m_spec_IsSubset (a : Int) (b : Int) = some (decide (a &&& b = a)) := by
  unfold m_spec_IsSubset
  have hit := iter_find (step := l_spec_IsSubset_0 (a : Int) (b : Int)) (fun k => (k : Int)) 5 (fun k => a.testBit k && !b.testBit k) (.inl ()) (fun _ => .inr false)
    (fun k hk => by
      unfold l_spec_IsSubset_0
      rw [decide_eq_true (by omega), cond_true, spec_has a k ha hk, spec_has b k hb hk, w64' (by omega) (by omega)]
      simp only [Option.bind_some]
      cases a.testBit k <;> cases b.testBit k <;> simp)
    (by unfold l_spec_IsSubset_0; rw [decide_eq_false (by omega)]; rfl)
  simp only [Int.natCast_zero] at hit
  rw [hit]
  have key : ∀ a : Fin 32, ∀ b : Fin 32, ((List.range 5).find? (fun k => a.val.testBit k && !b.val.testBit k)).isNone = decide (a.val &&& b.val = a.val) := by decide +kernel
  have hk := key ⟨a, ha⟩ ⟨b, hb⟩
  simp only at hk
  rw [← hk]
  cases (List.range 5).find? (fun k => a.testBit k && !b.testBit k) with
  | some _ => rfl
  | none =>
    simp only [Option.bind_some, m_spec_l2Good, in_eq]
    rw [decide_eq_true (by omega), decide_eq_true (by omega)]
    rfl
theorem spec_div1 (v : Int) (o : List Int) (s : Nat) (hs : s < 32) (ho : o.length = s) : iter (l_spec_DividendsOf_1 (s : Int) o) (v, (0 : Int)) = some (dv v o s s) := by
  have hit := iter_up (step := l_spec_DividendsOf_1 (s : Int) o) (fun t => (dv v o s t, (t : Int))) s (a := dv v o s s) (fun t ht => by
      unfold l_spec_DividendsOf_1
      dsimp only
      rw [decide_eq_true (by omega), cond_true, spec_subset t s (by omega) hs, Option.bind_some, w64' (n := (t : Int) + 1) (by omega) (by omega), grd_pos (by omega), getD_nat]
      simp only [dv]
      by_cases h : t &&& s = t <;> simp [h])
    (by unfold l_spec_DividendsOf_1; dsimp only; rw [decide_eq_false (by omega)]; rfl)
  simpa only [Int.natCast_zero, dv] using hit
theorem impl_div1 (v : Int) (o : List Int) (s m : Nat) (hs : s < 32) (ho : o.length = s) : iter (l_impl_DividendsOf_1 (s : Int)) ((0 : Int), o ++ v :: List.replicate m (0 : Int)) = some (o ++ dv v o s s :: List.replicate m (0 : Int)) := by
  have hit := iter_up (step := l_impl_DividendsOf_1 (s : Int)) (fun t => ((t : Int), o ++ dv v o s t :: List.replicate m (0 : Int))) s (a := o ++ dv v o s s :: List.replicate m (0 : Int)) (fun t ht => by
      have hlen : ∀ x : Int, (o ++ x :: List.replicate m (0 : Int)).length = s + 1 + m := fun x => by simp [ho]; omega
      have g1 : ∀ x : Int, (o ++ x :: List.replicate m (0 : Int)).getD s 0 = x := fun x => by simp [List.getD, List.getElem?_append_right, ho]
      have g2 : ∀ x : Int, (o ++ x :: List.replicate m (0 : Int)).getD t 0 = o.getD t 0 := fun x => by simp [List.getD, List.getElem?_append_left (show t < o.length by omega)]
      unfold l_impl_DividendsOf_1
      dsimp only
      rw [decide_eq_true (by omega), cond_true, andNot_eq t s (by omega) hs, w64' (n := (t : Int) + 1) (by omega) (by omega)]
      simp only [hlen, getD_nat, g1, g2]
      rw [grd_pos (by omega), grd_pos (by omega), grd_pos (by omega)]
      simp only [dv]
      by_cases h : t &&& s = t
      · simp [h, ho]
      · simp [h])
    (by unfold l_impl_DividendsOf_1; dsimp only; rw [decide_eq_false (by omega)]; rfl)
  simpa only [Int.natCast_zero, dv] using hit
theorem div_both (n : Int) (l : List Int) (hn : I64 n) (hl : l.length ≤ 1048576) : ∃ r, r.length ≤ 1048576 ∧ m_spec_DividendsOf n l = some r ∧ m_impl_DividendsOf n l = some r := by
  unfold m_spec_DividendsOf m_impl_DividendsOf
  rw [impl_valid n l hl]
  cases hv : validB n l with
  | false =>
    refine ⟨[], by simp, ?_, rfl⟩
    rw [iter_done (a := ([] : List Int))]
    · rfl
    · unfold l_spec_DividendsOf_0
      dsimp only
      rw [spec_valid n l hl, hv]
      cases decide ((0 : Int) < (l.length : Int)) <;> rfl
  | true =>
    obtain ⟨N, rfl, h1, h2, h3, h4⟩ := valid_nat ((validB_eq n l).1 hv)
    have s1 := iter_up (step := l_spec_DividendsOf_0 (N : Int) l) (fun s => ((s : Int), divs l s)) l.length (a := divs l l.length) (fun s hs => by
        have hb := divs_length l s
        unfold l_spec_DividendsOf_0
        dsimp only
        rw [decide_eq_true (by omega), cond_true, spec_valid _ l hl, hv, Option.bind_some, cond_true, getD_nat, spec_div1 _ _ s (by omega) hb, Option.bind_some, w64' (by omega) (by omega), grd_pos (by omega), grd_pos (by simp only [List.length_singleton, room]; omega)]
        rfl)
      (by unfold l_spec_DividendsOf_0; dsimp only; rw [decide_eq_false (by omega)]; rfl)
    have s2 := iter_up (step := l_impl_DividendsOf_0 l) (fun s => ((s : Int), divs l s ++ List.replicate (l.length - s) (0 : Int))) l.length (a := divs l l.length) (fun s hs => by
        have hb := divs_length l s
        have e : List.replicate (l.length - s) (0 : Int) = 0 :: List.replicate (l.length - (s + 1)) 0 := by
          rw [show l.length - s = (l.length - (s + 1)) + 1 by omega]
          rfl
        unfold l_impl_DividendsOf_0
        dsimp only
        rw [e]
        have e2 : (divs l s ++ 0 :: List.replicate (l.length - (s + 1)) (0 : Int)).set (s : Int).toNat (l.getD (s : Int).toNat 0) = divs l s ++ l.getD s 0 :: List.replicate (l.length - (s + 1)) (0 : Int) := by
          simp only [Int.toNat_natCast]
          rw [List.set_append, if_neg (by omega), hb, Nat.sub_self]
          rfl
        rw [e2, impl_div1 _ _ s _ (by omega) hb, decide_eq_true (by simp; omega), cond_true, w64' (by omega) (by omega), grd_pos (by omega), grd_pos ⟨by omega, by simp [hb]; omega⟩]
        simp [divs])
      (by unfold l_impl_DividendsOf_0; dsimp only; rw [decide_eq_false (by simp)]; simp)
    refine ⟨divs l l.length, by rw [divs_length]; omega, ?_, ?_⟩
    · simp only [Int.natCast_zero, divs] at s1
      rw [s1]
      rfl
    · simp only [Int.natCast_zero, divs, List.nil_append, Nat.sub_zero] at s2
      simp only [Option.bind_some, Bool.not_true, cond_false, Int.toNat_natCast]
      rw [s2, grd_pos ⟨by omega, trivial, by simp only [room]; omega⟩]
      rfl
theorem impl_count (n : Nat) (h : n ≤ 5) : m_impl_CountCoalitions (n : Int) = some ((2 ^ n : Nat) : Int) := by
  unfold m_impl_CountCoalitions
  rw [within_eq, decide_eq_true (by omega), Option.bind_some, Bool.not_true, cond_false, grd_pos (by omega), shl_eq n (by omega)]
theorem first_bad (n : Nat) (P : Nat → Prop) : (∀ i, i < n → P i) ∨ ∃ t, t < n ∧ ¬ P t ∧ ∀ i, i < t → P i := by
  by_cases h : ∀ i, i < n → P i
  · exact .inl h
  · have h' : ∃ t, t < n ∧ ¬ P t := by
      simp only [Classical.not_forall] at h
      obtain ⟨i, h1, h2⟩ := h
      exact ⟨i, h1, h2⟩
    obtain ⟨t, ⟨h1, h2⟩, h3⟩ := least h'
    refine .inr ⟨t, h1, h2, fun i hi => ?_⟩
    by_cases hp : P i
    · exact hp
    · have := h3 i ⟨by omega, hp⟩
      omega
theorem in_find (l : List Int) (lo hi : Int) {R : Type} (step : Int → Option (Int ⊕ (Unit ⊕ R))) (b : Nat → R)
    (hs : ∀ i : Nat, i < l.length → step (i : Int) = some (bif decide (lo ≤ l.getD i 0 ∧ l.getD i 0 ≤ hi) then .inl ((i + 1 : Nat) : Int) else .inr (.inr (b i)))) (hd : step (l.length : Int) = some (.inr (.inl ()))) :
    ((∀ i, i < l.length → lo ≤ l.getD i 0 ∧ l.getD i 0 ≤ hi) ∧ iter step 0 = some (.inl ())) ∨ ∃ t, t < l.length ∧ ¬ (lo ≤ l.getD t 0 ∧ l.getD t 0 ≤ hi) ∧ (∀ i, i < t → lo ≤ l.getD i 0 ∧ l.getD i 0 ≤ hi) ∧ iter step 0 = some (.inr (b t)) := by
  rcases first_bad l.length (fun i => lo ≤ l.getD i 0 ∧ l.getD i 0 ≤ hi) with h | ⟨t, h1, h2, h3⟩
  · refine .inl ⟨h, ?_⟩
    have := iter_up (step := step) (fun i => (i : Int)) l.length (a := .inl ()) (fun i hi => by rw [hs i hi, decide_eq_true (h i hi)]; rfl) hd
    simpa only [Int.natCast_zero] using this
  · refine .inr ⟨t, h1, h2, h3, ?_⟩
    have := iter_up (step := step) (fun i => (i : Int)) t (a := .inr (b t)) (fun i hi => by rw [hs i (by omega), decide_eq_true (h3 i hi)]; rfl) (by rw [hs t h1, decide_eq_false h2]; rfl)
    simpa only [Int.natCast_zero] using this
def gd (l : List Int) (s : Nat) : Nat → Int
  | 0 => 0
  | t + 1 => if t &&& s = t then IntKind.i64.wrap (gd l s t + l.getD t 0) else gd l s t
theorem gd_stop (l : List Int) (s : Nat) : ∀ k, gd l s (s + 1 + k) = gd l s (s + 1)
  | 0 => rfl
  | k + 1 => by
    have h : ¬ (s + 1 + k) &&& s = s + 1 + k := fun e => by
      have := Nat.and_le_right (n := s + 1 + k) (m := s)
      omega
    show (if (s + 1 + k) &&& s = s + 1 + k then _ else gd l s (s + 1 + k)) = _
    rw [if_neg h]
    exact gd_stop l s k
theorem len_pow {n : Int} {l : List Int} (h1 : 1 ≤ n) (h2 : n ≤ 5) (h : (l.length : Int) = 2 ^ n.toNat) : ∃ N : Nat, n = (N : Int) ∧ 1 ≤ N ∧ N ≤ 5 ∧ l.length = 2 ^ N ∧ l.length ≤ 32 := by
  have hn : n = 1 ∨ n = 2 ∨ n = 3 ∨ n = 4 ∨ n = 5 := by omega
  refine ⟨n.toNat, by omega, by omega, by omega, ?_, ?_⟩
  · rcases hn with rfl | rfl | rfl | rfl | rfl <;> simp at h ⊢ <;> omega
  · rcases hn with rfl | rfl | rfl | rfl | rfl <;> simp at h ⊢ <;> omega
theorem made_gd (N : Nat) (l : List Int) (h2 : N ≤ 5) (h3 : l.length = 2 ^ N) (hn : I64 (N : Int)) : m_impl_made_impl_GameOfDividends_1 (N : Int) l = some (if validB (N : Int) (tab (fun s => gd l s l.length) l.length) = true then ((N : Int), true, tab (fun s => gd l s l.length) l.length) else (0, false, [])) := by
  have h32 := pow_le32 h2
  have inner : ∀ s, s < l.length → m_impl_GameOfDividends_1 (s : Int) l = some (gd l s l.length) := by
    intro s hs
    unfold m_impl_GameOfDividends_1
    have hit := iter_up (step := l_impl_GameOfDividends_1_0 (s : Int) l) (fun t => (gd l s t, (t : Int))) l.length (a := gd l s l.length) (fun t ht => by
        unfold l_impl_GameOfDividends_1_0
        dsimp only
        rw [decide_eq_true (by omega), cond_true, andNot_eq t s (by omega) (by omega), grd_pos (by omega), w64' (n := (t : Int) + 1) (by omega) (by omega), getD_nat]
        simp only [gd]
        by_cases h : t &&& s = t <;> simp [h])
      (by unfold l_impl_GameOfDividends_1_0; dsimp only; rw [decide_eq_false (by omega)]; rfl)
    simp only [Int.natCast_zero, gd] at hit
    rw [hit]
    rfl
  unfold m_impl_made_impl_GameOfDividends_1
  have s2 := iter_up (step := l_impl_made_impl_GameOfDividends_1_0 l ((2 ^ N : Nat) : Int)) (fun i => ((i : Int), tab (fun s => gd l s l.length) i)) l.length (a := tab (fun s => gd l s l.length) l.length) (fun i hi => by
      unfold l_impl_made_impl_GameOfDividends_1_0
      dsimp only
      rw [decide_eq_true (by omega), cond_true, inner i hi, Option.bind_some, grd_pos (by simp only [tab_length, List.length_singleton, room]; omega), w64' (n := (i : Int) + 1) (by omega) (by omega), tab_succ]
      rfl)
    (by
      unfold l_impl_made_impl_GameOfDividends_1_0
      dsimp only
      rw [decide_eq_false (by omega)]
      rfl)
  have e0 : tab (fun s => gd l s l.length) 0 = [] := rfl
  simp only [Int.natCast_zero, e0] at s2
  have hb : (tab (fun s => gd l s l.length) l.length).length ≤ 1048576 := by rw [tab_length]; omega
  rw [impl_count N h2, Option.bind_some, s2, Option.bind_some]
  dsimp only
  rw [impl_valid _ _ hb]
  cases validB (N : Int) (tab (fun s => gd l s l.length) l.length) <;> rfl
theorem spec_gd (N : Nat) (l : List Int) (h1 : 1 ≤ N) (h2 : N ≤ 5) (h3 : l.length = 2 ^ N) (hok : ∀ i, i < l.length → -100000 ≤ l.getD i 0 ∧ l.getD i 0 ≤ 100000) :
    m_spec_GameOfDividends (N : Int) l = some (if validB (N : Int) (tab (fun s => gd l s l.length) l.length) = true then ((N : Int), true, tab (fun s => gd l s l.length) l.length) else (0, false, [])) := by
  have h32 := pow_le32 h2
  have inner : ∀ s, s < l.length → iter (l_spec_GameOfDividends_1 l (s : Int)) ((0 : Int), (0 : Int)) = some (.inl (gd l s l.length)) := by
    intro s hs
    have hit := iter_up (step := l_spec_GameOfDividends_1 l (s : Int)) (fun t => (gd l s t, (t : Int))) (s + 1) (a := .inl (gd l s (s + 1))) (fun t ht => by
        unfold l_spec_GameOfDividends_1
        dsimp only
        have hg : (0 : Int) ≤ (t : Int) ∧ (t : Int) < (l.length : Int) := by omega
        rw [decide_eq_true (by omega), cond_true, getD_nat, in_eq, decide_eq_true (hok t (by omega)), spec_subset t s (by omega) (by omega), w64' (n := (t : Int) + 1) (by omega) (by omega)]
        simp only [Option.bind_some, Bool.not_true, cond_false, gd, grd_pos hg]
        by_cases h : t &&& s = t <;> simp [h])
      (by unfold l_spec_GameOfDividends_1; dsimp only; rw [decide_eq_false (by omega)]; rfl)
    simp only [Int.natCast_zero, gd] at hit
    rw [hit]
    have e := gd_stop l s (l.length - (s + 1))
    rw [show s + 1 + (l.length - (s + 1)) = l.length by omega] at e
    rw [e]
    rfl
  have s1 := iter_up (step := l_spec_GameOfDividends_0 l) (fun i => ((i : Int), tab (fun s => gd l s l.length) i)) l.length (a := .inl (tab (fun s => gd l s l.length) l.length)) (fun i hi => by
      unfold l_spec_GameOfDividends_0
      dsimp only
      rw [decide_eq_true (by omega), cond_true, inner i hi, Option.bind_some]
      dsimp only
      rw [grd_pos (by simp only [tab_length, List.length_singleton, room]; omega), w64' (n := (i : Int) + 1) (by omega) (by omega), tab_succ]
      rfl)
    (by
      unfold l_spec_GameOfDividends_0
      dsimp only
      rw [decide_eq_false (by omega)]
      rfl)
  have e0 : tab (fun s => gd l s l.length) 0 = [] := rfl
  simp only [Int.natCast_zero, e0] at s1
  have hb : (tab (fun s => gd l s l.length) l.length).length ≤ 1048576 := by rw [tab_length]; omega
  have hne : ((l.length : Int) != 2 ^ N) = false := by
    rw [h3]
    simp
  unfold m_spec_GameOfDividends
  rw [in_eq, decide_eq_true (by omega), Option.bind_some, Bool.not_true, cond_false, count0 N h2, Option.bind_some, hne, cond_false, s1, Option.bind_some]
  dsimp only
  rw [spec_valid _ _ hb]
  cases validB (N : Int) (tab (fun s => gd l s l.length) l.length) <;> rfl
theorem spec_gd_bad (N : Nat) (l : List Int) (h1 : 1 ≤ N) (h2 : N ≤ 5) (h3 : l.length = 2 ^ N) (t0 : Nat) (ht0 : t0 < l.length) (hbad : ¬ (-100000 ≤ l.getD t0 0 ∧ l.getD t0 0 ≤ 100000)) (hok : ∀ i, i < t0 → -100000 ≤ l.getD i 0 ∧ l.getD i 0 ≤ 100000) :
    m_spec_GameOfDividends (N : Int) l = some (0, false, []) := by
  have h32 := pow_le32 h2
  have stp : ∀ s t, s < l.length → t < t0 → t ≤ s → l_spec_GameOfDividends_1 l (s : Int) (gd l s t, (t : Int)) = some (.inl (gd l s (t + 1), ((t + 1 : Nat) : Int))) := by
    intro s t hs ht hts
    unfold l_spec_GameOfDividends_1
    dsimp only
    have hg : (0 : Int) ≤ (t : Int) ∧ (t : Int) < (l.length : Int) := by omega
    rw [decide_eq_true (by omega), cond_true, getD_nat, in_eq, decide_eq_true (hok t (by omega)), spec_subset t s (by omega) (by omega), w64' (n := (t : Int) + 1) (by omega) (by omega)]
    simp only [Option.bind_some, Bool.not_true, cond_false, gd, grd_pos hg]
    by_cases h : t &&& s = t <;> simp [h]
  have inner : ∀ s, s < t0 → iter (l_spec_GameOfDividends_1 l (s : Int)) ((0 : Int), (0 : Int)) = some (.inl (gd l s (s + 1))) := by
    intro s hs
    have hit := iter_up (step := l_spec_GameOfDividends_1 l (s : Int)) (fun t => (gd l s t, (t : Int))) (s + 1) (a := .inl (gd l s (s + 1))) (fun t ht => stp s t (by omega) (by omega) (by omega))
      (by unfold l_spec_GameOfDividends_1; dsimp only; rw [decide_eq_false (by omega)]; rfl)
    simpa only [Int.natCast_zero, gd] using hit
  have innerb : iter (l_spec_GameOfDividends_1 l (t0 : Int)) ((0 : Int), (0 : Int)) = some (.inr (0, false, [])) := by
    have hit := iter_up (step := l_spec_GameOfDividends_1 l (t0 : Int)) (fun t => (gd l t0 t, (t : Int))) t0 (a := .inr (0, false, [])) (fun t ht => stp t0 t ht0 ht (by omega))
      (by
        unfold l_spec_GameOfDividends_1
        dsimp only
        rw [decide_eq_true (by omega), cond_true, grd_pos (by omega), getD_nat, in_eq, decide_eq_false hbad]
        rfl)
    simpa only [Int.natCast_zero, gd] using hit
  have s1 := iter_up (step := l_spec_GameOfDividends_0 l) (fun i => ((i : Int), tab (fun s => gd l s (s + 1)) i)) t0 (a := .inr (0, false, [])) (fun i hi => by
      unfold l_spec_GameOfDividends_0
      dsimp only
      rw [decide_eq_true (by omega), cond_true, inner i hi, Option.bind_some]
      dsimp only
      rw [grd_pos (by simp only [tab_length, List.length_singleton, room]; omega), w64' (n := (i : Int) + 1) (by omega) (by omega), tab_succ]
      rfl)
    (by
      unfold l_spec_GameOfDividends_0
      dsimp only
      rw [decide_eq_true (by omega), cond_true, innerb]
      rfl)
  have e0 : tab (fun s => gd l s (s + 1)) 0 = [] := rfl
  simp only [Int.natCast_zero, e0] at s1
  have hne : ((l.length : Int) != 2 ^ N) = false := by
    rw [h3]
    simp
  unfold m_spec_GameOfDividends
  rw [in_eq, decide_eq_true (by omega), Option.bind_some, Bool.not_true, cond_false, count0 N h2, Option.bind_some, hne, cond_false, s1]
  rfl
theorem gd_both (n : Int) (l : List Int) (hn : I64 n) (hl : l.length ≤ 1048576) : ∃ x b r, r.length ≤ 1048576 ∧ m_spec_GameOfDividends n l = some (x, b, r) ∧ m_impl_GameOfDividends n l = some (x, b, r) := by
  by_cases h : 1 ≤ n ∧ n ≤ 5
  · by_cases hlen : (l.length : Int) = 2 ^ n.toNat
    · obtain ⟨N, rfl, h1, h2, h3, h4⟩ := len_pow h.1 h.2 hlen
      have hck := in_find l (-100000) 100000 (l_impl_GameOfDividends_0 l) (fun _ => ((0 : Int), false, ([] : List Int)))
        (fun i hi => by
          unfold l_impl_GameOfDividends_0
          rw [decide_eq_true (by omega), cond_true, grd_pos (by omega), getD_nat, within_eq, Option.bind_some, w64' (by omega) (by omega)]
          cases decide (-100000 ≤ l.getD i 0 ∧ l.getD i 0 ≤ 100000) <;> rfl)
        (by unfold l_impl_GameOfDividends_0; rw [decide_eq_false (by omega)]; rfl)
      have hne : ((l.length : Int) != ((2 ^ N : Nat) : Int)) = false := by
        rw [h3]
        simp
      unfold m_impl_GameOfDividends
      rw [within_eq, decide_eq_true h, Option.bind_some, Bool.not_true, cond_false, impl_count N h2, Option.bind_some, hne, cond_false]
      rcases hck with ⟨hok, hit⟩ | ⟨t0, ht0, hbad, hok, hit⟩
      · rw [spec_gd N l h1 h2 h3 hok, hit, Option.bind_some, made_gd N l h2 h3 hn]
        cases validB (N : Int) (tab (fun s => gd l s l.length) l.length) with
        | false => exact ⟨0, false, [], by simp, rfl, rfl⟩
        | true => exact ⟨N, true, _, by rw [tab_length]; omega, rfl, rfl⟩
      · rw [spec_gd_bad N l h1 h2 h3 t0 ht0 hbad hok, hit]
        exact ⟨0, false, [], by simp, rfl, rfl⟩
    · obtain ⟨N, rfl⟩ := Int.eq_ofNat_of_zero_le (show 0 ≤ n by omega)
      have hne : ((l.length : Int) != 2 ^ N) = true := by simpa using hlen
      have hne' : ((l.length : Int) != ((2 ^ N : Nat) : Int)) = true := by
        rw [← hne]
        simp
      refine ⟨0, false, [], by simp, ?_, ?_⟩
      · unfold m_spec_GameOfDividends
        rw [in_eq, decide_eq_true h, Option.bind_some, Bool.not_true, cond_false, count0 N (by omega), Option.bind_some, hne]
        rfl
      · unfold m_impl_GameOfDividends
        rw [within_eq, decide_eq_true h, Option.bind_some, Bool.not_true, cond_false, impl_count N (by omega), Option.bind_some, hne']
        rfl
  · refine ⟨0, false, [], by simp, ?_, ?_⟩
    · unfold m_spec_GameOfDividends
      rw [in_eq, decide_eq_false h]
      rfl
    · unfold m_impl_GameOfDividends
      rw [within_eq, decide_eq_false h]
      rfl
def ratOf (n d : Int) : Int × Int × Bool :=
  if d = 0 ∨ ¬ (-1000000000000000000 ≤ n ∧ n ≤ 1000000000000000000) ∨ ¬ (-1000000000000000000 ≤ d ∧ d ≤ 1000000000000000000) then (0, 0, false)
  else if validQ ((if d < 0 then -n else n).tdiv (Int.gcd n d : Nat)) ((if d < 0 then -d else d).tdiv (Int.gcd n d : Nat)) = true then ((if d < 0 then -n else n).tdiv (Int.gcd n d : Nat), (if d < 0 then -d else d).tdiv (Int.gcd n d : Nat), true) else (0, 0, false)
theorem tdiv_bd (n : Int) (g : Nat) : -(n.natAbs : Int) ≤ n.tdiv g ∧ n.tdiv g ≤ n.natAbs := by
  have h : (n.tdiv g).natAbs ≤ n.natAbs := by
    rw [Int.natAbs_tdiv]
    exact Nat.div_le_self _ _
  omega
theorem gcd_pos' {n d : Int} (h : d ≠ 0) : 0 < Int.gcd n d := Int.gcd_pos_of_ne_zero_right n h
theorem spec_ratOf (n d : Int) : m_spec_RatOf n d = some (ratOf n d) := by
  unfold m_spec_RatOf ratOf
  by_cases h0 : d = 0
  · simp [h0]
  · have e0 : (d == 0) = false := by simpa using h0
    rw [e0, cond_false, in_eq, in_eq, Option.bind_some, Option.bind_some]
    by_cases h1 : -1000000000000000000 ≤ n ∧ n ≤ 1000000000000000000
    · by_cases h2 : -1000000000000000000 ≤ d ∧ d ≤ 1000000000000000000
      · have hc : ¬ (d = 0 ∨ ¬ (-1000000000000000000 ≤ n ∧ n ≤ 1000000000000000000) ∨ ¬ (-1000000000000000000 ≤ d ∧ d ≤ 1000000000000000000)) := fun h => by
          rcases h with h | h | h
          · exact h0 h
          · exact h h1
          · exact h h2
        have hg := gcd_pos' (n := n) h0
        rw [if_neg hc, decide_eq_true h1, decide_eq_true h2, Bool.not_true, cond_false, cond_false]
        by_cases h3 : d < 0
        · have b1 := tdiv_bd (-n) (Int.gcd n d)
          have b2 := tdiv_bd (-d) (Int.gcd n d)
          have z1 : IntKind.i64.wrap (0 - n) = -n := by rw [w64' (by omega) (by omega)]; omega
          have z2 : IntKind.i64.wrap (0 - d) = -d := by rw [w64' (by omega) (by omega)]; omega
          rw [decide_eq_true h3, cond_true, z1, z2, spec_gcd _ _ (by omega) (by omega), Int.neg_gcd, Int.gcd_neg, Option.bind_some, grd_pos (by omega), grd_pos (by omega), w64' (n := (-n).tdiv _) (by omega) (by omega), w64' (n := (-d).tdiv _) (by omega) (by omega), spec_validRat, Option.bind_some]
          simp only [if_pos h3]
          cases validQ ((-n).tdiv (Int.gcd n d : Nat)) ((-d).tdiv (Int.gcd n d : Nat)) <;> rfl
        · have b1 := tdiv_bd n (Int.gcd n d)
          have b2 := tdiv_bd d (Int.gcd n d)
          rw [decide_eq_false h3, cond_false, spec_gcd _ _ (by omega) (by omega), Option.bind_some, grd_pos (by omega), grd_pos (by omega), w64' (n := n.tdiv _) (by omega) (by omega), w64' (n := d.tdiv _) (by omega) (by omega), spec_validRat, Option.bind_some]
          simp only [if_neg h3]
          cases validQ (n.tdiv (Int.gcd n d : Nat)) (d.tdiv (Int.gcd n d : Nat)) <;> rfl
      · rw [if_pos (.inr (.inr h2)), decide_eq_true h1, decide_eq_false h2]
        rfl
    · rw [if_pos (.inr (.inl h1)), decide_eq_false h1]
      rfl
def mems (s : Nat) : List Int := fil s.testBit (fun k => (k : Int)) 5
theorem mems_length (s : Nat) : (mems s).length ≤ 5 := fil_length _ _ _
theorem mems_ne : ∀ s : Fin 32, s.val ≠ 0 → 1 ≤ (mems s.val).length := by decide +kernel
def fctN : Nat → Int
  | 0 => 1
  | k + 1 => fctN k * ((k : Int) + 2)
def fctI (m : Int) : Int := fctN (m - 1).toNat
theorem fctN_bd (k : Nat) (h : k ≤ 4) : 1 ≤ fctN k ∧ fctN k ≤ 120 := by
  have : k = 0 ∨ k = 1 ∨ k = 2 ∨ k = 3 ∨ k = 4 := by omega
  rcases this with rfl | rfl | rfl | rfl | rfl <;> decide
theorem spec_fact (m : Int) (h1 : -10 ≤ m) (h2 : m ≤ 5) : m_spec_l14Factorial m = some (fctI m) := by
  unfold m_spec_l14Factorial fctI
  have hit := iter_up (step := l_spec_l14Factorial_0 m) (fun k => (fctN k, (k : Int) + 2)) (m - 1).toNat (a := fctN (m - 1).toNat) (fun k hk => by
      have hb := fctN_bd (k + 1) (by omega)
      simp only [fctN] at hb
      unfold l_spec_l14Factorial_0
      dsimp only
      rw [decide_eq_true (by omega), cond_true, w64' (by omega) (by omega), w64' (by omega) (by omega)]
      simp only [fctN]
      have e : (k : Int) + 2 + 1 = ((k + 1 : Nat) : Int) + 2 := by omega
      rw [e])
    (by unfold l_spec_l14Factorial_0; dsimp only; rw [decide_eq_false (by omega)]; rfl)
  have e0 : ((0 : Nat) : Int) + 2 = 2 := rfl
  simp only [fctN, e0] at hit
  rw [hit]
  rfl
theorem spec_size (s : Nat) (hs : s < 32) : m_spec_SizeOf (s : Int) = some (((mems s).length : Nat) : Int) := by
  unfold m_spec_SizeOf
  have hit := iter_up (step := l_spec_SizeOf_0 (s : Int)) (fun k => ((((fil s.testBit (fun k => (k : Int)) k).length : Nat) : Int), (k : Int))) 5 (a := (((mems s).length : Nat) : Int)) (fun k hk => by
      have hb := fil_length s.testBit (fun k => (k : Int)) k
      unfold l_spec_SizeOf_0
      dsimp only
      rw [decide_eq_true (by omega), cond_true, spec_has s k hs hk, Option.bind_some, w64' (by omega) (by omega), w64' (by omega) (by omega), fil_succ]
      cases s.testBit k <;> simp)
    (by unfold l_spec_SizeOf_0; dsimp only; rw [decide_eq_false (by omega)]; rfl)
  have e0 : (fil s.testBit (fun k => (k : Int)) 0).length = 0 := rfl
  simp only [e0, Int.natCast_zero] at hit
  rw [hit]
  rfl
def shF (l : List Int) (N k : Nat) : Nat → Int
  | 0 => 0
  | s + 1 => if s.testBit k = true then shF l N k s else IntKind.i64.wrap (shF l N k s + IntKind.i64.wrap (IntKind.i64.wrap (fctI ((mems s).length : Nat) * fctI ((N : Int) - 1 - ((mems s).length : Nat))) * IntKind.i64.wrap (l.getD (s ||| 2 ^ k) 0 - l.getD s 0)))
theorem spec_shIn (l : List Int) (N k : Nat) (hN : N ≤ 5) (hl : l.length = 2 ^ N) (hk : k < N) : iter (l_spec_ShapleyValue_1 (N : Int) l (k : Int)) ((0 : Int), (0 : Int)) = some (shF l N k l.length) := by
  have h32 := pow_le32 hN
  have hit := iter_up (step := l_spec_ShapleyValue_1 (N : Int) l (k : Int)) (fun s => (shF l N k s, (s : Int))) l.length (a := shF l N k l.length) (fun s hs => by
      have b1 : s ||| 2 ^ k < 2 ^ N := Nat.or_lt_two_pow (by omega) (Nat.pow_lt_pow_right (by decide) hk)
      have hm := mems_length s
      unfold l_spec_ShapleyValue_1
      dsimp only
      rw [decide_eq_true (by omega), cond_true, spec_has s k (by omega) (by omega), Option.bind_some, w64' (n := (s : Int) + 1) (by omega) (by omega)]
      simp only [shF]
      cases h1 : s.testBit k with
      | true => rfl
      | false =>
        have e1 := add_eq s k (by omega) (by omega) h1
        have f1 : ((s : Int) + 2 ^ k) = ((s ||| 2 ^ k : Nat) : Int) := by rw [← e1]; simp
        have e2 : (N : Int) - (((mems s).length : Nat) : Int) - 1 = (N : Int) - 1 - (((mems s).length : Nat) : Int) := by omega
        rw [cond_false, spec_size s (by omega), Option.bind_some, spec_fact _ (by omega) (by omega), Option.bind_some, w64' (n := (N : Int) - _) (by omega) (by omega), e2, w64' (n := (N : Int) - 1 - _) (by omega) (by omega), spec_fact _ (by omega) (by omega), Option.bind_some, bit2 k (by omega), Option.bind_some, f1, w64' (n := ((s ||| 2 ^ k : Nat) : Int)) (by omega) (by omega), grd_pos (by omega), grd_pos (by omega), getD_nat, getD_nat, if_neg (by decide)]
        rfl)
    (by unfold l_spec_ShapleyValue_1; dsimp only; rw [decide_eq_false (by omega)]; rfl)
  exact hit
def shQ (l : List Int) (N k : Nat) : Q := ⟨(ratOf (shF l N k l.length) (fctI N)).1, (ratOf (shF l N k l.length) (fctI N)).2.1⟩
/-! ### draws -/
theorem iter_dec {S A : Type} {step : S → Option (S ⊕ A)} (I : Nat → S → Prop) (Post : A → Prop)
    (h : ∀ k s, I k s → (∃ a, step s = some (.inr a) ∧ Post a) ∨ ∃ s' k', k = k' + 1 ∧ step s = some (.inl s') ∧ I k' s') : ∀ k s, I k s → ∃ a, iter step s = some a ∧ Post a := by
  intro k
  induction k with
  | zero =>
    intro s hs
    rcases h 0 s hs with ⟨a, h1, h2⟩ | ⟨s', k', h1, _⟩
    · exact ⟨a, iter_done h1, h2⟩
    · omega
  | succ k ih =>
    intro s hs
    rcases h _ s hs with ⟨a, h1, h2⟩ | ⟨s', k', h1, h2, h3⟩
    · exact ⟨a, iter_done h1, h2⟩
    · obtain rfl : k' = k := by omega
      obtain ⟨a, h4, h5⟩ := ih s' h3
      exact ⟨a, by rw [iter_next h2]; exact h4, h5⟩
theorem and255 (x : Int) : 0 ≤ bitsOf .and .i64 x 255 ∧ bitsOf .and .i64 x 255 ≤ 255 := by
  have h : (BitVec.ofInt 64 x &&& BitVec.ofInt 64 255).toNat ≤ 255 := by
    rw [BitVec.toNat_and]
    exact Nat.le_trans Nat.and_le_right (by decide)
  show 0 ≤ IntKind.i64.wrap ((BitVec.ofInt 64 x &&& BitVec.ofInt 64 255).toNat : Int) ∧ IntKind.i64.wrap ((BitVec.ofInt 64 x &&& BitVec.ofInt 64 255).toNat : Int) ≤ 255
  rw [w64' (by omega) (by omega)]
  omega
theorem new_loop (c : List UInt8) (h0 : Int) : ∃ h, iter (l_spec_l1New_io2_0 c) (h0, 0) = some h := by
  obtain ⟨a, h1, _⟩ := iter_dec (step := l_spec_l1New_io2_0 c) (fun k s => s.2 + k = 4000 ∧ 0 ≤ s.2) (fun _ => True) (fun k ⟨v1, v2⟩ ⟨h1, h2⟩ => by
    simp only at h1 h2
    unfold l_spec_l1New_io2_0
    simp only
    by_cases e1 : v2 < (c.length : Int)
    · by_cases e2 : v2 < 4000
      · rw [decide_eq_true e1, decide_eq_true e2, cond_true, cond_true, grd_pos ⟨h2, e1⟩]
        exact .inr ⟨_, k - 1, by omega, rfl, by simp only; rw [w64' (by omega) (by omega)]; omega, by simp only; rw [w64' (by omega) (by omega)]; omega⟩
      · rw [decide_eq_true e1, decide_eq_false e2, cond_true, cond_false]
        exact .inl ⟨_, rfl, trivial⟩
    · rw [decide_eq_false e1, cond_false]
      exact .inl ⟨_, rfl, trivial⟩) 4000 (h0, 0) ⟨rfl, Int.le_refl 0⟩
  exact ⟨a, h1⟩
theorem new2 (a : Int) (b : List Int) (c : List UInt8) : ∃ h, m_spec_l1New_io2 a b c = some (c, 0, h, b, a) := by
  obtain ⟨h, e⟩ := new_loop c (IntKind.i64.wrap ((26583 : Int) + (c.length : Int)))
  exact ⟨h, by unfold m_spec_l1New_io2; rw [e]; rfl⟩
theorem byte_ok (c : List UInt8) (i h : Int) (hc : c.length ≤ 1048576) (hi : 0 ≤ i) : ∃ x i' h', m_spec_l1Byte_io1 c i h = some (x, i', h') ∧ (0 ≤ x ∧ x ≤ 255) ∧ 0 ≤ i' := by
  unfold m_spec_l1Byte_io1
  rw [grd_pos (by decide), grd_pos (by decide), Option.bind_some]
  by_cases hlt : i < (c.length : Int)
  · rw [decide_eq_true hlt, cond_true, grd_pos ⟨hi, hlt⟩]
    exact ⟨_, _, _, rfl, and255 _, by rw [w64' (by omega) (by omega)]; omega⟩
  · rw [decide_eq_false hlt, cond_false]
    exact ⟨_, _, _, rfl, and255 _, hi⟩
theorem below_ok (c : List UInt8) (i h n : Int) (hc : c.length ≤ 1048576) (hi : 0 ≤ i) (hn : n ≤ 256) : ∃ x i' h', m_spec_l1Below_io1 c i h n = some (x, i', h') ∧ (0 ≤ x ∧ (x < n ∨ x = 0)) ∧ 0 ≤ i' := by
  unfold m_spec_l1Below_io1
  by_cases h0 : n ≤ 0
  · rw [decide_eq_true h0, cond_true]
    exact ⟨_, _, _, rfl, ⟨Int.le_refl 0, .inr rfl⟩, hi⟩
  · rw [decide_eq_false h0, cond_false, decide_eq_true hn, cond_true]
    obtain ⟨x, i', h', e, hx, hi'⟩ := byte_ok c i h hc hi
    rw [e, Option.bind_some]
    dsimp only
    rw [grd_pos (by omega)]
    exact ⟨_, _, _, rfl, ⟨Int.tmod_nonneg _ hx.1, .inl (Int.tmod_lt_of_pos _ (by omega))⟩, hi'⟩
theorem pick_ok (c : List UInt8) (i h : Int) (l : List Int) (hc : c.length ≤ 1048576) (hi : 0 ≤ i) (h1 : 1 ≤ l.length) (h2 : l.length ≤ 256) : ∃ x i' h', m_spec_l1PickInt_io1 c i h l = some (x, i', h') ∧ x ∈ l ∧ 0 ≤ i' := by
  unfold m_spec_l1PickInt_io1
  obtain ⟨x, i', h', e, hx, hi'⟩ := below_ok c i h l.length hc hi (by omega)
  rw [e, Option.bind_some]
  dsimp only
  have hlt : x < (l.length : Int) := by omega
  rw [grd_pos ⟨hx.1, hlt⟩]
  refine ⟨_, _, _, rfl, ?_, hi'⟩
  have : x.toNat < l.length := by omega
  rw [List.getD_eq_getElem?_getD, List.getElem?_eq_getElem this, Option.getD_some]
  exact List.getElem_mem this
/-- the loops of l8Draw and l8Mate keep the length -/
def I8 (N : Nat) (k : Nat) (s : Int × List Int × Int × Int) : Prop := s.1 + k = N ∧ 1 ≤ s.1 ∧ s.2.1.length = N ∧ 0 ≤ s.2.2.1
def P8 (N : Nat) (a : List Int × Int × Int) : Prop := a.1.length = N ∧ 0 ≤ a.2.1
theorem bit_tot (b : Bool) : ∃ x, m_spec_l1Bit b = some x := by cases b <;> exact ⟨_, rfl⟩
theorem max_tot (a b : Int) : ∃ x, m_spec_l1Max a b = some x := by
  unfold m_spec_l1Max
  by_cases h : a > b
  · rw [decide_eq_true h]; exact ⟨_, rfl⟩
  · rw [decide_eq_false h]; exact ⟨_, rfl⟩
theorem draw8_step (c : List UInt8) (hc : c.length ≤ 1048576) (v1 v5 : Int) (N : Nat) (hN : N ≤ 32) (k : Nat) (s : Int × List Int × Int × Int) (hs : I8 N k s) :
    (∃ a, l_spec_l8Draw_io1_0 c v1 v5 s = some (.inr a) ∧ P8 N a) ∨ ∃ s' k', k = k' + 1 ∧ l_spec_l8Draw_io1_0 c v1 v5 s = some (.inl s') ∧ I8 N k' s' := by
  obtain ⟨s0, l, i, h⟩ := s
  obtain ⟨g1, g2, g3, g4⟩ := hs
  simp only at g1 g2 g3 g4
  unfold l_spec_l8Draw_io1_0
  simp only
  by_cases e1 : s0 < (l.length : Int)
  · rw [decide_eq_true e1, cond_true]
    obtain ⟨S, rfl⟩ : ∃ S : Nat, s0 = (S : Int) := ⟨s0.toNat, by omega⟩
    have hS : S < 32 := by omega
    have hw : IntKind.i64.wrap ((S : Int) + 1) = (S : Int) + 1 := w64' (by omega) (by omega)
    rw [spec_size S hS, hw]
    refine .inr ?_
    have fin : ∀ (x i' h' : Int), 0 ≤ i' → ∃ s' k', k = k' + 1 ∧ (some (.inl ((S : Int) + 1, l.set (S : Int).toNat x, i', h')) : Option ((Int × List Int × Int × Int) ⊕ (List Int × Int × Int))) = some (.inl s') ∧ I8 N k' s' :=
      fun x i' h' hi' => ⟨_, k - 1, by omega, rfl, by simp only; omega, by simp only; omega, by simp only; rw [List.length_set]; exact g3, hi'⟩
    obtain ⟨x1, i1, h1, b1, _, b3⟩ := below_ok c i h 2 hc g4 (by decide)
    obtain ⟨x2, i2, h2, b4, _, b6⟩ := pick_ok c i h [(0 : Int), (1 : Int), (2 : Int), (3 : Int), (5 : Int), (8 : Int), (-2 : Int), (4 : Int)] hc g4 (by decide) (by decide)
    simp only [b1, b4, Option.bind_some]
    have hg : (0 : Int) ≤ (S : Int) ∧ (S : Int) < (l.length : Int) := ⟨by omega, e1⟩
    cases hv0 : (v5 == (0 : Int)) with
    | true =>
      simp only [cond_true, grd_pos hg]
      exact fin _ _ _ b3
    | false =>
      cases hv1 : (v5 == (1 : Int)) with
      | true =>
        simp only [cond_true, cond_false, grd_pos hg]
        exact fin _ _ _ b6
      | false =>
        cases hv2 : (v5 == (2 : Int)) with
        | true =>
          obtain ⟨y, hy⟩ := max_tot (0 : Int) (IntKind.i64.wrap ((IntKind.i64.wrap ((IntKind.i64.wrap ((3 : Int) * (((mems S).length : Nat) : Int))) - (2 : Int))) - x1))
          simp only [cond_true, cond_false, hy, Option.bind_some, grd_pos hg]
          exact fin _ _ _ b3
        | false =>
          obtain ⟨y, hy⟩ := bit_tot (decide ((IntKind.i64.wrap ((((mems S).length : Nat) : Int) * (2 : Int))) > (IntKind.i64.wrap ((1 : Int) + v1))))
          simp only [cond_false, hy, Option.bind_some, grd_pos hg]
          exact fin _ _ _ b3
  · rw [decide_eq_false e1, cond_false]
    exact .inl ⟨_, rfl, g3, g4⟩
theorem draw8_ok (c : List UInt8) (i h : Int) (hc : c.length ≤ 1048576) (hi : 0 ≤ i) : ∃ n l i' h', m_spec_l8Draw_io1 c i h 4 = some (n, l, i', h') ∧ (1 ≤ n ∧ n ≤ 4) ∧ (2 ≤ l.length ∧ l.length ≤ 16) ∧ 0 ≤ i' := by
  unfold m_spec_l8Draw_io1
  obtain ⟨x, i1, h1, b1, b2, b3⟩ := below_ok c i h 4 hc hi (by decide)
  rw [b1, Option.bind_some]
  dsimp only
  obtain ⟨n, hn⟩ : ∃ n : Nat, (1 : Int) + x = (n : Int) := ⟨((1 : Int) + x).toNat, by omega⟩
  rw [w64' (by omega) (by omega), hn, count0 n (by omega), Option.bind_some]
  have hp : (2 : Nat) ≤ 2 ^ n ∧ 2 ^ n ≤ 16 := by
    have : n = 1 ∨ n = 2 ∨ n = 3 ∨ n = 4 := by omega
    rcases this with rfl | rfl | rfl | rfl <;> decide
  have hc2 : ((2 : Int) ^ n) = ((2 ^ n : Nat) : Int) := by push_cast; rfl
  rw [hc2, grd_pos ⟨by omega, rfl, by unfold room; omega⟩]
  obtain ⟨y, i2, h2, c1, c2, c3⟩ := below_ok c i1 h1 4 hc b3 (by decide)
  rw [c1, Option.bind_some]
  dsimp only
  rw [Int.toNat_natCast]
  obtain ⟨⟨l, i3, h3⟩, d1, d2, d3⟩ := iter_dec (I8 (2 ^ n)) (P8 (2 ^ n)) (fun k s hs => draw8_step c hc x y (2 ^ n) (by omega) k s hs) (2 ^ n - 1) (1, List.replicate (2 ^ n) 0, i2, h2)
    ⟨by simp only; omega, Int.le_refl 1, by simp, c3⟩
  rw [d1, Option.bind_some]
  replace d2 : l.length = 2 ^ n := d2
  replace d3 : 0 ≤ i3 := d3
  exact ⟨_, l, i3, h3, rfl, by omega, by omega, d3⟩
theorem bent_ok (c : List UInt8) (i h : Int) (hc : c.length ≤ 1048576) (hi : 0 ≤ i) : ∃ n l i' h', m_spec_l8Bent_io1 c i h = some (n, l, i', h') ∧ (-1 ≤ n ∧ n ≤ 6) ∧ (2 ≤ l.length ∧ l.length ≤ 17) ∧ 0 ≤ i' := by
  unfold m_spec_l8Bent_io1
  obtain ⟨n, l, i1, h1, b1, b2, b3, b4⟩ := draw8_ok c i h hc hi
  rw [b1, Option.bind_some]
  dsimp only
  obtain ⟨x, i2, h2, c1, c2, c3⟩ := below_ok c i1 h1 12 hc b4 (by decide)
  rw [c1, Option.bind_some]
  dsimp only
  obtain ⟨x2, i3, h3, d1, d2, d3⟩ := pick_ok c i2 h2 [(0 : Int), (6 : Int), (2 : Int), (-1 : Int)] hc c3 (by decide) (by decide)
  obtain ⟨x4, i4, h4, e1, _, e3⟩ := pick_ok c i2 h2 [(500 : Int), (501 : Int), (-501 : Int)] hc c3 (by decide) (by decide)
  have hd2 : -1 ≤ x2 ∧ x2 ≤ 6 := by
    simp only [List.mem_cons, List.not_mem_nil, or_false] at d2
    omega
  have hw : IntKind.i64.wrap ((l.length : Int) - 1) = (l.length : Int) - 1 := w64' (by omega) (by omega)
  simp only [d1, e1, Option.bind_some, hw]
  cases hv0 : (x == (0 : Int)) with
  | true =>
    simp only [cond_true]
    rw [grd_pos ⟨Int.le_refl 0, by omega⟩]
    exact ⟨_, _, _, _, rfl, by omega, by rw [List.length_set]; omega, c3⟩
  | false =>
    cases hv1 : (x == (1 : Int)) with
    | true =>
      simp only [cond_true, cond_false]
      exact ⟨_, _, _, _, rfl, hd2, by omega, d3⟩
    | false =>
      cases hv2 : (x == (2 : Int)) with
      | true =>
        simp only [cond_true, cond_false]
        rw [grd_pos (by show l.length + 1 ≤ room; unfold room; omega)]
        exact ⟨_, _, _, _, rfl, by omega, by simp only [List.length_append, List.length_cons, List.length_nil]; omega, c3⟩
      | false =>
        cases hv3 : (x == (3 : Int)) with
        | true =>
          simp only [cond_true, cond_false]
          rw [grd_pos ⟨by omega, by omega⟩]
          exact ⟨_, _, _, _, rfl, by omega, by rw [List.length_set]; omega, e3⟩
        | false =>
          simp only [cond_false]
          exact ⟨_, _, _, _, rfl, by omega, by omega, c3⟩
/-! ### FnProperties -/
theorem val_bd {n : Int} {l : List Int} (h : Valid n l) (i : Nat) : -500 ≤ l.getD i 0 ∧ l.getD i 0 ≤ 500 := by
  by_cases hi : i < l.length
  · exact h.2.2.2 i hi
  · rw [List.getD_eq_getElem?_getD, List.getElem?_eq_none (by omega)]; decide
/-! ### FnGames -/
theorem once_ok (c : List UInt8) (i h n : Int) (hc : c.length ≤ 1048576) (hi : 0 ≤ i) (hn : n ≤ 256) : ∃ x i' h', m_spec_l1Once_io1 c i h n = some (x, i', h') ∧ 0 ≤ i' := by
  unfold m_spec_l1Once_io1
  obtain ⟨x, i', h', e, _, hi'⟩ := below_ok c i h n hc hi hn
  rw [e, Option.bind_some]
  exact ⟨_, _, _, rfl, hi'⟩
/-! ### FnDividends: what a game is worth, from its dividends -/
def bB (s : Nat) : Int := [(500 : Int), 1000, 1000, 3000, 1000, 3000, 3000, 13000, 1000, 3000, 3000, 13000, 3000, 13000, 13000, 75000].getD s 0
def inB (s u : Nat) : Int := if u &&& s = u then bB u else 0
theorem bB_tab : ∀ s : Fin 16, 500 + sm (inB s.val) s.val ≤ bB s.val ∧ bB s.val ≤ 75000 ∧ ∀ t : Fin 17, 0 ≤ sm (inB s.val) t.val ∧ sm (inB s.val) t.val ≤ 200000 := by decide +kernel
/-- the sum of the dividends of the parts of s that are below t -/
def inD (D : List Int) (s u : Nat) : Int := if u &&& s = u then D.getD u 0 else 0
theorem getD_app (l r : List Int) (i : Nat) (h : i < l.length) : (l ++ r).getD i 0 = l.getD i 0 := by
  rw [List.getD_eq_getElem?_getD, List.getElem?_append_left h, ← List.getD_eq_getElem?_getD]
theorem getD_last (l : List Int) (x : Int) (n : Nat) (h : l.length = n) : (l ++ [x]).getD n 0 = x := by
  subst h
  simp [List.getD_eq_getElem?_getD]
theorem divs_pre (l : List Int) (t : Nat) : ∀ k, (divs l (t + 1 + k)).getD t 0 = (divs l (t + 1)).getD t 0
  | 0 => rfl
  | k + 1 => by
    rw [show t + 1 + (k + 1) = (t + 1 + k) + 1 by omega]
    show (divs l (t + 1 + k) ++ [_]).getD t 0 = _
    rw [getD_app _ _ _ (by rw [divs_length]; omega), divs_pre l t k]
theorem divs_at (l : List Int) (t n : Nat) (h : t < n) : (divs l n).getD t 0 = dv (l.getD t 0) (divs l t) t t := by
  obtain ⟨k, rfl⟩ : ∃ k, n = t + 1 + k := ⟨n - t - 1, by omega⟩
  rw [divs_pre]
  show (divs l t ++ [_]).getD t 0 = _
  exact getD_last _ _ _ (divs_length l t)
theorem divs_low (l : List Int) (u s n : Nat) (h : u < s) (hn : s ≤ n) : (divs l s).getD u 0 = (divs l n).getD u 0 := by rw [divs_at l u s h, divs_at l u n (by omega)]
theorem div_key (l : List Int) (n : Nat) (hn : n ≤ 16) (hv : ∀ i, -500 ≤ l.getD i 0 ∧ l.getD i 0 ≤ 500) : ∀ s, s < n → (-bB s ≤ (divs l n).getD s 0 ∧ (divs l n).getD s 0 ≤ bB s) ∧ (divs l n).getD s 0 = l.getD s 0 - sm (inD (divs l n) s) s := by
  intro s
  induction s using Nat.strongRecOn with
  | _ s ih =>
    intro hs
    have hb := bB_tab ⟨s, by omega⟩
    simp only at hb
    have hvs := hv s
    have key : ∀ t, t ≤ s → dv (l.getD s 0) (divs l s) s t = l.getD s 0 - sm (inD (divs l n) s) t ∧ -sm (inB s) t ≤ sm (inD (divs l n) s) t ∧ sm (inD (divs l n) s) t ≤ sm (inB s) t := by
      intro t
      induction t with
      | zero => intro _; exact ⟨by show l.getD s 0 = l.getD s 0 - 0; omega, by show -(0 : Int) ≤ 0; omega, by show (0 : Int) ≤ 0; omega⟩
      | succ t iht =>
        intro ht
        obtain ⟨k1, k2, k3⟩ := iht (by omega)
        have d1 := (ih t (by omega) (by omega)).1
        have d2 := divs_low l t s n (by omega) (by omega)
        have hbt := (hb.2.2 ⟨t, by omega⟩)
        simp only at hbt
        have hbp := bB_tab ⟨t, by omega⟩
        simp only at hbp
        simp only [dv, sm]
        by_cases e : t &&& s = t
        · have e1 : inD (divs l n) s t = (divs l n).getD t 0 := if_pos e
          have e2 : inB s t = bB t := if_pos e
          rw [if_pos e, e1, e2, k1, d2, w64' (by omega) (by omega)]
          omega
        · have e1 : inD (divs l n) s t = 0 := if_neg e
          have e2 : inB s t = 0 := if_neg e
          rw [if_neg e, e1, e2, k1]
          omega
    obtain ⟨k1, k2, k3⟩ := key s (Nat.le_refl s)
    rw [divs_at l s n hs, k1]
    omega
theorem gd_key (l : List Int) (n : Nat) (hn : n ≤ 16) (hv : ∀ i, -500 ≤ l.getD i 0 ∧ l.getD i 0 ≤ 500) (s : Nat) (hs : s < n) : gd (divs l n) s n = l.getD s 0 := by
  have hb := bB_tab ⟨s, by omega⟩
  simp only at hb
  have key : ∀ t, t ≤ s + 1 → gd (divs l n) s t = sm (inD (divs l n) s) t ∧ -sm (inB s) t ≤ sm (inD (divs l n) s) t ∧ sm (inD (divs l n) s) t ≤ sm (inB s) t := by
    intro t
    induction t with
    | zero => intro _; exact ⟨rfl, by show -(0 : Int) ≤ 0; omega, by show (0 : Int) ≤ 0; omega⟩
    | succ t iht =>
      intro ht
      obtain ⟨k1, k2, k3⟩ := iht (by omega)
      have d1 := (div_key l n hn hv t (by omega)).1
      have hbt := (hb.2.2 ⟨t, by omega⟩)
      have hbu := (hb.2.2 ⟨t + 1, by omega⟩)
      have hbp := bB_tab ⟨t, by omega⟩
      simp only [sm] at hbt hbp hbu
      simp only [gd, sm]
      by_cases e : t &&& s = t
      · have e1 : inD (divs l n) s t = (divs l n).getD t 0 := if_pos e
        have e2 : inB s t = bB t := if_pos e
        rw [if_pos e, e1, e2, k1, w64' (by omega) (by omega)]
        omega
      · have e1 : inD (divs l n) s t = 0 := if_neg e
        have e2 : inB s t = 0 := if_neg e
        rw [if_neg e, e1, e2, k1]
        omega
  obtain ⟨k, rfl⟩ : ∃ k, n = s + 1 + k := ⟨n - s - 1, by omega⟩
  rw [gd_stop, (key (s + 1) (Nat.le_refl _)).1]
  have h2 := (div_key l (s + 1 + k) hn hv s hs).2
  simp only [sm]
  have e1 : inD (divs l (s + 1 + k)) s s = (divs l (s + 1 + k)).getD s 0 := if_pos (Nat.and_self s)
  rw [e1]
  omega
/-- a game's values are the sums of its dividends -/
theorem val_sum (l : List Int) (n : Nat) (hn : n ≤ 16) (hv : ∀ i, -500 ≤ l.getD i 0 ∧ l.getD i 0 ≤ 500) (s : Nat) (hs : s < n) : l.getD s 0 = sm (inD (divs l n) s) (s + 1) := by
  have h2 := (div_key l n hn hv s hs).2
  have e1 : inD (divs l n) s s = (divs l n).getD s 0 := if_pos (Nat.and_self s)
  simp only [sm]
  rw [e1]
  omega
/-- the Shapley sums, without wrapping -/
def shW (N u : Nat) : Int := fctI ((mems u).length : Nat) * fctI ((N : Int) - 1 - ((mems u).length : Nat))
def shT (l : List Int) (N k u : Nat) : Int := if u.testBit k = true then 0 else shW N u * (l.getD (u ||| 2 ^ k) 0 - l.getD u 0)
theorem shW_tab : ∀ N : Fin 5, ∀ u : Fin 16, 0 ≤ shW N.val u.val ∧ shW N.val u.val ≤ 1000 := by decide +kernel
theorem shF_eq (l : List Int) (N k : Nat) (hN : N ≤ 4) (hv : ∀ i, -500 ≤ l.getD i 0 ∧ l.getD i 0 ≤ 500) : ∀ s, s ≤ 16 → shF l N k s = sm (shT l N k) s ∧ -(1000000 * (s : Int)) ≤ sm (shT l N k) s ∧ sm (shT l N k) s ≤ 1000000 * s
  | 0, _ => ⟨rfl, by show -(1000000 * ((0 : Nat) : Int)) ≤ 0; omega, by show (0 : Int) ≤ 1000000 * ((0 : Nat) : Int); omega⟩
  | s + 1, hs => by
    obtain ⟨k1, k2, k3⟩ := shF_eq l N k hN hv s (by omega)
    have hw := shW_tab ⟨N, by omega⟩ ⟨s, by omega⟩
    simp only at hw
    have b1 := hv s
    have b2 := hv (s ||| 2 ^ k)
    simp only [shF, sm]
    by_cases e : s.testBit k = true
    · have e1 : shT l N k s = 0 := if_pos e
      rw [if_pos e, e1, k1]
      omega
    · have e1 : shT l N k s = shW N s * (l.getD (s ||| 2 ^ k) 0 - l.getD s 0) := if_neg e
      have hp : -1000000 ≤ shW N s * (l.getD (s ||| 2 ^ k) 0 - l.getD s 0) ∧ shW N s * (l.getD (s ||| 2 ^ k) 0 - l.getD s 0) ≤ 1000000 := by
        have h1 : -1000 ≤ l.getD (s ||| 2 ^ k) 0 - l.getD s 0 ∧ l.getD (s ||| 2 ^ k) 0 - l.getD s 0 ≤ 1000 := by omega
        constructor
        · have := Int.mul_le_mul_of_nonneg_left h1.1 hw.1
          have h3 : shW N s * (-1000) = -(1000 * shW N s) := by omega
          omega
        · have := Int.mul_le_mul_of_nonneg_left h1.2 hw.1
          omega
      rw [if_neg e, e1, k1, w64' (n := l.getD (s ||| 2 ^ k) 0 - l.getD s 0) (by omega) (by omega)]
      have e2 : IntKind.i64.wrap (fctI ((mems s).length : Nat) * fctI ((N : Int) - 1 - ((mems s).length : Nat))) = shW N s := w64' (by show _ ≤ shW N s; omega) (by show shW N s ≤ _; omega)
      rw [e2, w64' (n := shW N s * _) (by omega) (by omega), w64' (by omega) (by omega)]
      omega
/-- what the law sums up -/
def dvT (D : List Int) (k u : Nat) : Int := if u.testBit k = true then D.getD u 0 * (60 / ((mems u).length : Nat)) else 0
theorem cells16 : ∀ u : Fin 16, (mems u.val).length = [0, 1, 1, 2, 1, 2, 2, 3, 1, 2, 2, 3, 2, 3, 3, 4].getD u.val 0 := by decide +kernel
theorem len16 (u : Nat) (h : u < 16) : (mems u).length = [0, 1, 1, 2, 1, 2, 2, 3, 1, 2, 2, 3, 2, 3, 3, 4].getD u 0 := cells16 ⟨u, h⟩
/-- the Shapley value divides the dividends equally -/
theorem shap_div (l : List Int) (N k : Nat) (h1 : 1 ≤ N) (h4 : N ≤ 4) (hk : k < N) (hv : ∀ i, -500 ≤ l.getD i 0 ∧ l.getD i 0 ≤ 500) :
    sm (shT l N k) (2 ^ N) * 60 = sm (dvT (divs l (2 ^ N)) k) (2 ^ N) * fctI N := by
  have hs : ∀ s, s < 2 ^ N → l.getD s 0 = sm (inD (divs l (2 ^ N)) s) (s + 1) := fun s hs => val_sum l (2 ^ N) (by
    have : N = 1 ∨ N = 2 ∨ N = 3 ∨ N = 4 := by omega
    rcases this with rfl | rfl | rfl | rfl <;> decide) hv s hs
  generalize divs l (2 ^ N) = D at hs
  have : N = 1 ∨ N = 2 ∨ N = 3 ∨ N = 4 := by omega
  rcases this with rfl | rfl | rfl | rfl
  · obtain rfl : k = 0 := by omega
    have e0 := hs 0 (by decide)
    have e1 := hs 1 (by decide)
    clear hs hk
    simp [sm, inD, shT, dvT, shW, len16, fctI, fctN] at *
    omega
  · have hk' : k = 0 ∨ k = 1 := by omega
    have e0 := hs 0 (by decide)
    have e1 := hs 1 (by decide)
    have e2 := hs 2 (by decide)
    have e3 := hs 3 (by decide)
    clear hs hk
    simp [sm, inD] at e0 e1 e2 e3
    rcases hk' with rfl | rfl
    all_goals
      simp [sm, shT, dvT, shW, len16, fctI, fctN, Nat.testBit]
      omega
  · have hk' : k = 0 ∨ k = 1 ∨ k = 2 := by omega
    have e0 := hs 0 (by decide)
    have e1 := hs 1 (by decide)
    have e2 := hs 2 (by decide)
    have e3 := hs 3 (by decide)
    have e4 := hs 4 (by decide)
    have e5 := hs 5 (by decide)
    have e6 := hs 6 (by decide)
    have e7 := hs 7 (by decide)
    clear hs hk
    simp [sm, inD] at e0 e1 e2 e3 e4 e5 e6 e7
    rcases hk' with rfl | rfl | rfl
    all_goals
      simp [sm, shT, dvT, shW, len16, fctI, fctN, Nat.testBit]
      omega
  · have hk' : k = 0 ∨ k = 1 ∨ k = 2 ∨ k = 3 := by omega
    have e0 := hs 0 (by decide)
    have e1 := hs 1 (by decide)
    have e2 := hs 2 (by decide)
    have e3 := hs 3 (by decide)
    have e4 := hs 4 (by decide)
    have e5 := hs 5 (by decide)
    have e6 := hs 6 (by decide)
    have e7 := hs 7 (by decide)
    have e8 := hs 8 (by decide)
    have e9 := hs 9 (by decide)
    have e10 := hs 10 (by decide)
    have e11 := hs 11 (by decide)
    have e12 := hs 12 (by decide)
    have e13 := hs 13 (by decide)
    have e14 := hs 14 (by decide)
    have e15 := hs 15 (by decide)
    clear hs hk
    simp [sm, inD] at e0 e1 e2 e3 e4 e5 e6 e7 e8 e9 e10 e11 e12 e13 e14 e15
    rcases hk' with rfl | rfl | rfl | rfl
    all_goals
      simp [sm, shT, dvT, shW, len16, fctI, fctN, Nat.testBit]
      omega
theorem ratOf_ok (n d : Int) (hn : -1000000000 ≤ n ∧ n ≤ 1000000000) (hd : 1 ≤ d ∧ d ≤ 1000000000) : ∃ a b g : Int, ratOf n d = (a, b, true) ∧ n = a * g ∧ d = b * g ∧ 1 ≤ g ∧ validQ a b = true := by
  have hg := gcd_pos' (n := n) (d := d) (by omega)
  have e1 : n.tdiv (Int.gcd n d : Nat) * (Int.gcd n d : Nat) = n := Int.tdiv_mul_cancel (Int.gcd_dvd_left ..)
  have e2 : d.tdiv (Int.gcd n d : Nat) * (Int.gcd n d : Nat) = d := Int.tdiv_mul_cancel (Int.gcd_dvd_right ..)
  have b1 := tdiv_bd n (Int.gcd n d)
  have b2 := tdiv_bd d (Int.gcd n d)
  have hv : validQ (n.tdiv (Int.gcd n d : Nat)) (d.tdiv (Int.gcd n d : Nat)) = true := by
    unfold validQ
    apply decide_eq_true
    have hb : 1 ≤ d.tdiv (Int.gcd n d : Nat) := by
      rcases Int.lt_or_le (d.tdiv (Int.gcd n d : Nat)) 1 with h | h
      · exfalso
        have h1 : d.tdiv (Int.gcd n d : Nat) ≤ 0 := by omega
        have h2 := Int.mul_nonpos_of_nonpos_of_nonneg h1 (Int.natCast_nonneg (Int.gcd n d))
        omega
      · exact h
    refine ⟨hb, by omega, by omega, by omega, ?_⟩
    have h3 : Int.gcd (n.tdiv (Int.gcd n d : Nat) * (Int.gcd n d : Nat)) (d.tdiv (Int.gcd n d : Nat) * (Int.gcd n d : Nat)) = Int.gcd n d := by rw [e1, e2]
    rw [Int.gcd_mul_right, Int.natAbs_natCast] at h3
    exact Nat.eq_of_mul_eq_mul_right hg (by rw [h3, Nat.one_mul])
  refine ⟨_, _, _, ?_, e1.symm, e2.symm, by omega, hv⟩
  unfold ratOf
  have hc : ¬ (d = 0 ∨ ¬ (-1000000000000000000 ≤ n ∧ n ≤ 1000000000000000000) ∨ ¬ (-1000000000000000000 ≤ d ∧ d ≤ 1000000000000000000)) := fun h => by
    rcases h with h | h | h
    · omega
    · exact h (by omega)
    · exact h (by omega)
  have h3 : ¬ d < 0 := by omega
  rw [if_neg hc]
  simp only [if_neg h3]
  rw [if_pos hv]
theorem spec_div (N : Nat) (l : List Int) (hv : validB (N : Int) l = true) (hl : l.length ≤ 1048576) : m_spec_DividendsOf (N : Int) l = some (divs l l.length) := by
  obtain ⟨_, _, h1, h2, h3, h4⟩ := valid_nat ((validB_eq _ l).1 hv)
  unfold m_spec_DividendsOf
  have s1 := iter_up (step := l_spec_DividendsOf_0 (N : Int) l) (fun s => ((s : Int), divs l s)) l.length (a := divs l l.length) (fun s hs => by
      have hb := divs_length l s
      unfold l_spec_DividendsOf_0
      dsimp only
      rw [decide_eq_true (by omega), cond_true, spec_valid _ l hl, hv, Option.bind_some, cond_true, getD_nat, spec_div1 _ _ s (by omega) hb, Option.bind_some, w64' (by omega) (by omega), grd_pos (by omega), grd_pos (by simp only [List.length_singleton, room]; omega)]
      rfl)
    (by unfold l_spec_DividendsOf_0; dsimp only; rw [decide_eq_false (by omega)]; rfl)
  have e0 : divs l 0 = [] := rfl
  simp only [Int.natCast_zero, e0] at s1
  rw [s1]
  rfl
theorem spec_div0 (n : Int) (l : List Int) (hv : validB n l = false) (hl : l.length ≤ 1048576) : m_spec_DividendsOf n l = some [] := by
  unfold m_spec_DividendsOf
  rw [iter_done (a := ([] : List Int))]
  · rfl
  · unfold l_spec_DividendsOf_0
    dsimp only
    rw [spec_valid n l hl, hv]
    cases decide ((0 : Int) < (l.length : Int)) <;> rfl
theorem impl_gd (N : Nat) (l : List Int) (h1 : 1 ≤ N) (h2 : N ≤ 5) (h3 : l.length = 2 ^ N) (hok : ∀ i, i < l.length → -100000 ≤ l.getD i 0 ∧ l.getD i 0 ≤ 100000) :
    m_impl_GameOfDividends (N : Int) l = some (if validB (N : Int) (tab (fun s => gd l s l.length) l.length) = true then ((N : Int), true, tab (fun s => gd l s l.length) l.length) else (0, false, [])) := by
  have h4 := pow_le32 h2
  have hck := in_find l (-100000) 100000 (l_impl_GameOfDividends_0 l) (fun _ => ((0 : Int), false, ([] : List Int)))
    (fun i hi => by
      unfold l_impl_GameOfDividends_0
      rw [decide_eq_true (by omega), cond_true, grd_pos (by omega), getD_nat, within_eq, Option.bind_some, w64' (by omega) (by omega)]
      cases decide (-100000 ≤ l.getD i 0 ∧ l.getD i 0 ≤ 100000) <;> rfl)
    (by unfold l_impl_GameOfDividends_0; rw [decide_eq_false (by omega)]; rfl)
  have hne : ((l.length : Int) != ((2 ^ N : Nat) : Int)) = false := by
    rw [h3]
    simp
  unfold m_impl_GameOfDividends
  rw [within_eq, decide_eq_true (by omega), Option.bind_some, Bool.not_true, cond_false, impl_count N h2, Option.bind_some, hne, cond_false]
  rcases hck with ⟨_, hit⟩ | ⟨t0, ht0, hbad, _, _⟩
  · rw [hit, Option.bind_some, made_gd N l h2 h3 ⟨by omega, by omega⟩]
    cases validB (N : Int) (tab (fun s => gd l s l.length) l.length) <;> rfl
  · exact absurd (hok t0 ht0) hbad
theorem impl_gd0 (n : Int) : m_impl_GameOfDividends n [] = some (0, false, []) := by
  unfold m_impl_GameOfDividends
  rw [within_eq]
  by_cases h : 1 ≤ n ∧ n ≤ 5
  · obtain ⟨N, rfl⟩ := Int.eq_ofNat_of_zero_le (show 0 ≤ n by omega)
    have hne : ((([] : List Int).length : Int) != ((2 ^ N : Nat) : Int)) = true := by
      rw [bne_iff_ne]
      have : 0 < 2 ^ N := Nat.pow_pos (by decide)
      show (0 : Int) ≠ _
      omega
    rw [decide_eq_true h, Option.bind_some, Bool.not_true, cond_false, impl_count N (by omega), Option.bind_some, hne]
    rfl
  · rw [decide_eq_false h]
    rfl
theorem spec_shap (N : Nat) (l : List Int) (hl : l.length ≤ 1048576) (hv : validB (N : Int) l = true) : m_spec_ShapleyValue (N : Int) l = some (true, tab (shQ l N) N) := by
  obtain ⟨M, hM, h1, h2, h3, h4⟩ := valid_nat ((validB_eq _ l).1 hv)
  obtain rfl : N = M := by omega
  unfold m_spec_ShapleyValue
  rw [spec_valid _ l hl, hv]
  have s1 := iter_up (step := l_spec_ShapleyValue_0 (N : Int) l) (fun k => ((k : Int), tab (shQ l N) k)) N (a := tab (shQ l N) N) (fun k hk => by
      unfold l_spec_ShapleyValue_0
      dsimp only
      rw [decide_eq_true (by omega), cond_true, spec_shIn l N k h2 h3 hk, Option.bind_some, spec_fact _ (by omega) (by omega), Option.bind_some, spec_ratOf, Option.bind_some]
      rw [grd_pos (by simp only [tab_length, List.length_singleton, room]; omega), w64' (by omega) (by omega), tab_succ]
      rfl)
    (by unfold l_spec_ShapleyValue_0; dsimp only; rw [decide_eq_false (by omega)]; rfl)
  have e0 : tab (shQ l N) 0 = [] := rfl
  simp only [e0, Int.natCast_zero] at s1
  simp only [Option.bind_some, Bool.not_true, cond_false]
  rw [s1]
  rfl
theorem spec_shap0 (n : Int) (l : List Int) (hl : l.length ≤ 1048576) (hv : validB n l = false) : m_spec_ShapleyValue n l = some (false, []) := by
  unfold m_spec_ShapleyValue
  rw [spec_valid _ l hl, hv]
  rfl
theorem same_self (l : List Int) (hl : l.length ≤ 1048576) : m_laws_sameInts l l = some true := by
  unfold m_laws_sameInts
  have hit := iter_up (step := l_laws_sameInts_0 l l) (fun i => (i : Int)) l.length (a := .inl ()) (fun i hi => by
      unfold l_laws_sameInts_0
      rw [decide_eq_true (by omega), cond_true, grd_pos (by omega), grd_pos (by omega), bne_self_eq_false, cond_false, w64' (by omega) (by omega)]
      rfl)
    (by unfold l_laws_sameInts_0; rw [decide_eq_false (by omega)]; rfl)
  simp only [Int.natCast_zero] at hit
  rw [bne_self_eq_false, cond_false, hit]
  rfl
theorem seqgame_self (n : Int) (l : List Int) (hl : l.length ≤ 1048576) : m_spec_EqualGame n l n l = some true := by
  have e : m_spec_l8Ints l l = some true := same_self l hl
  unfold m_spec_EqualGame
  rw [beq_self_eq_true, cond_true, e]
  rfl
theorem draw_div (c : List UInt8) (hc : c.length ≤ 1048576) : ∃ n l, m_spec_DrawDividendsOf c = some (n, l) ∧ l.length ≤ 17 ∧ (-1 ≤ n ∧ n ≤ 6) := by
  unfold m_spec_DrawDividendsOf
  obtain ⟨h, e⟩ := new2 0 [] c
  rw [e, Option.bind_some]
  dsimp only
  obtain ⟨n, l, i', h', b1, b2, b3, _⟩ := bent_ok c 0 h hc (Int.le_refl 0)
  rw [b1, Option.bind_some]
  exact ⟨_, _, rfl, b3.2, b2⟩
theorem draw_gd (c : List UInt8) (hc : c.length ≤ 1048576) : ∃ n l, m_spec_DrawGameOfDividends c = some (n, l) ∧ l.length ≤ 1048576 ∧ (-1 ≤ n ∧ n ≤ 6) := by
  unfold m_spec_DrawGameOfDividends m_spec_l1New
  obtain ⟨h, e⟩ := new_loop c (IntKind.i64.wrap ((26583 : Int) + (c.length : Int)))
  have e0 : l_spec_l1New_0 c = l_spec_l1New_io2_0 c := rfl
  rw [e0, e, Option.bind_some, Option.bind_some]
  dsimp only
  obtain ⟨n, l, i1, h1, b1, b2, b3, b4⟩ := bent_ok c 0 h hc (Int.le_refl 0)
  rw [b1, Option.bind_some]
  dsimp only
  have hl : l.length ≤ 1048576 := by omega
  obtain ⟨r, hr, k1, _⟩ := div_both n l ⟨by omega, by omega⟩ hl
  rw [k1, Option.bind_some]
  by_cases hr1 : (r.length : Int) > 1
  · rw [decide_eq_true hr1, cond_true]
    obtain ⟨x, i2, h2, c1, c2⟩ := once_ok c i1 h1 4 hc b4 (by decide)
    rw [c1, Option.bind_some]
    dsimp only
    cases x with
    | false => exact ⟨_, _, rfl, hr, b2⟩
    | true =>
      obtain ⟨y, i3, h3, d1, _, _⟩ := pick_ok c i2 h2 [(0 : Int), (100000 : Int), (100001 : Int), (-7 : Int)] hc c2 (by decide) (by decide)
      rw [cond_true, d1, Option.bind_some]
      dsimp only
      rw [grd_pos ⟨by decide, by omega⟩]
      exact ⟨_, _, rfl, by rw [List.length_set]; exact hr, b2⟩
  · rw [decide_eq_false hr1]
    exact ⟨_, _, rfl, hr, b2⟩
theorem quot_cell (x : Int) (m : Nat) (h1 : 1 ≤ m) (h2 : m ≤ 5) : (x * 60).tdiv (m : Int) = x * (60 / (m : Int)) := by
  have : m = 1 ∨ m = 2 ∨ m = 3 ∨ m = 4 ∨ m = 5 := by omega
  rcases this with rfl | rfl | rfl | rfl | rfl
  · rw [show x * 60 = (x * 60) * ((1 : Nat) : Int) by omega, Int.mul_tdiv_cancel _ (by decide)]; rfl
  · rw [show x * 60 = (x * 30) * ((2 : Nat) : Int) by omega, Int.mul_tdiv_cancel _ (by decide)]; rfl
  · rw [show x * 60 = (x * 20) * ((3 : Nat) : Int) by omega, Int.mul_tdiv_cancel _ (by decide)]; rfl
  · rw [show x * 60 = (x * 15) * ((4 : Nat) : Int) by omega, Int.mul_tdiv_cancel _ (by decide)]; rfl
  · rw [show x * 60 = (x * 12) * ((5 : Nat) : Int) by omega, Int.mul_tdiv_cancel _ (by decide)]; rfl
theorem dvT_bd (D : List Int) (k : Nat) (hD : ∀ i, -75000 ≤ D.getD i 0 ∧ D.getD i 0 ≤ 75000) (u : Nat) (hu : u < 32) : -4500000 ≤ dvT D k u ∧ dvT D k u ≤ 4500000 := by
  unfold dvT
  split
  · rename_i hb
    have hm := mems_length u
    have h1 : 1 ≤ (mems u).length := mems_ne ⟨u, hu⟩ (by
      intro h0
      simp only at h0
      subst h0
      simp at hb)
    have hd := hD u
    have hq : (0 : Int) ≤ 60 / ((mems u).length : Nat) ∧ 60 / (((mems u).length : Nat) : Int) ≤ 60 := by
      have : (mems u).length = 1 ∨ (mems u).length = 2 ∨ (mems u).length = 3 ∨ (mems u).length = 4 ∨ (mems u).length = 5 := by omega
      rcases this with h | h | h | h | h <;> rw [h] <;> decide
    constructor
    · have h3 := Int.mul_le_mul_of_nonneg_right hd.1 hq.1
      have h4 : -75000 * (60 : Int) ≤ -75000 * (60 / (((mems u).length : Nat) : Int)) := by omega
      omega
    · have h3 := Int.mul_le_mul_of_nonneg_right hd.2 hq.1
      omega
  · omega
theorem law_inner (D : List Int) (N k : Nat) (hN : N ≤ 4) (h1 : 1 ≤ N) (hk : k < N) (hl : D.length = 2 ^ N) (hD : ∀ i, -75000 ≤ D.getD i 0 ∧ D.getD i 0 ≤ 75000) :
    iter (l_laws_FnDividends_1 D (k : Int)) ((0 : Int), (1 : Int)) = some (sm (dvT D k) (2 ^ N)) ∧ -(4500000 * ((2 ^ N : Nat) : Int)) ≤ sm (dvT D k) (2 ^ N) ∧ sm (dvT D k) (2 ^ N) ≤ 4500000 * ((2 ^ N : Nat) : Int) := by
  have hp : 2 ≤ 2 ^ N ∧ 2 ^ N ≤ 16 := by
    have : N = 1 ∨ N = 2 ∨ N = 3 ∨ N = 4 := by omega
    rcases this with rfl | rfl | rfl | rfl <;> decide
  have hb : ∀ m : Nat, m ≤ 32 → -(4500000 * (m : Int)) ≤ sm (dvT D k) m ∧ sm (dvT D k) m ≤ 4500000 * m := fun m hm => sm_bd fun i hi => dvT_bd D k hD i (by omega)
  refine ⟨?_, hb _ (by omega)⟩
  have z : sm (dvT D k) 1 = 0 := by
    show (0 : Int) + dvT D k 0 = 0
    unfold dvT
    simp
  have hit := iter_up (step := l_laws_FnDividends_1 D (k : Int)) (fun i => (sm (dvT D k) (i + 1), ((i + 1 : Nat) : Int))) (2 ^ N - 1) (a := sm (dvT D k) (2 ^ N)) (fun i hi => by
      have b1 := hb (i + 1) (by omega)
      have b2 := dvT_bd D k hD (i + 1) (by omega)
      have hm := mems_length (i + 1)
      have hd := hD (i + 1)
      unfold l_laws_FnDividends_1
      dsimp only
      rw [hl, decide_eq_true (by omega), cond_true, spec_has (i + 1) k (by omega) (by omega), Option.bind_some, w64' (n := ((i + 1 : Nat) : Int) + 1) (by omega) (by omega)]
      have e1 : sm (dvT D k) (i + 1 + 1) = sm (dvT D k) (i + 1) + dvT D k (i + 1) := rfl
      cases hb2 : (i + 1).testBit k with
      | false =>
        have e2 : dvT D k (i + 1) = 0 := by unfold dvT; rw [hb2]; rfl
        rw [e1, e2, cond_false, Int.add_zero]
        rfl
      | true =>
        have h1m : 1 ≤ (mems (i + 1)).length := mems_ne ⟨i + 1, by omega⟩ (by show i + 1 ≠ 0; omega)
        have e2 : dvT D k (i + 1) = D.getD (i + 1) 0 * (60 / (((mems (i + 1)).length : Nat) : Int)) := by unfold dvT; rw [hb2]; rfl
        have b2' := b2
        rw [e2] at b2'
        rw [cond_true, grd_pos (by omega), spec_size (i + 1) (by omega), Option.bind_some, grd_pos (by omega), getD_nat, w64' (n := D.getD (i + 1) 0 * 60) (by omega) (by omega), quot_cell _ _ h1m hm, w64' (n := D.getD (i + 1) 0 * (60 / (((mems (i + 1)).length : Nat) : Int))) (by omega) (by omega), ← e2, w64' (by omega) (by omega), e1]
        rfl)
    (by
      unfold l_laws_FnDividends_1
      dsimp only
      rw [hl, decide_eq_false (by omega), show 2 ^ N - 1 + 1 = 2 ^ N by omega]
      rfl)
  simp only [Nat.zero_add, z] at hit
  exact hit
theorem law_loop (l D : List Int) (N : Nat) (h1 : 1 ≤ N) (h4 : N ≤ 4) (hlen : l.length = 2 ^ N) (hv : ∀ i, -500 ≤ l.getD i 0 ∧ l.getD i 0 ≤ 500) (hDe : D = divs l (2 ^ N)) (hD : ∀ i, -75000 ≤ D.getD i 0 ∧ D.getD i 0 ≤ 75000) :
    iter (l_laws_FnDividends_0 D (tab (shQ l N) N)) 0 = some (.inl ()) := by
  have hp : 2 ≤ 2 ^ N ∧ 2 ^ N ≤ 16 := by
    have : N = 1 ∨ N = 2 ∨ N = 3 ∨ N = 4 := by omega
    rcases this with rfl | rfl | rfl | rfl <;> decide
  have hfc : 1 ≤ fctI N ∧ fctI N ≤ 24 := by
    have : N = 1 ∨ N = 2 ∨ N = 3 ∨ N = 4 := by omega
    rcases this with rfl | rfl | rfl | rfl <;> decide
  have hDl : D.length = 2 ^ N := by rw [hDe, divs_length]
  have hit := iter_up (step := l_laws_FnDividends_0 D (tab (shQ l N) N)) (fun k => (k : Int)) N (a := .inl ()) (fun k hk => by
      obtain ⟨i1, i2, i3⟩ := law_inner D N k h4 h1 hk hDl hD
      obtain ⟨f1, f2, f3⟩ := shF_eq l N k h4 hv (2 ^ N) hp.2
      have key := shap_div l N k h1 h4 hk hv
      rw [← hDe, ← f1] at key
      obtain ⟨a, b, g, r1, r2, r3, r4, r5⟩ := ratOf_ok (shF l N k (2 ^ N)) (fctI N) (by omega) (by omega)
      have hq : shQ l N k = ⟨a, b⟩ := by unfold shQ; rw [hlen, r1]
      have vb := validQ_bd r5
      unfold l_laws_FnDividends_0
      rw [tab_length, decide_eq_true (by omega), cond_true, i1, Option.bind_some, grd_pos (by omega), grd_pos (by omega), Int.toNat_natCast, tab_getD (shQ l N) N ⟨0, 0⟩ k hk, hq, w64' (n := (k : Int) + 1) (by omega) (by omega)]
      have hb24 : b ≤ 24 := by
        have h5 := Int.mul_le_mul_of_nonneg_left r4 (show 0 ≤ b by omega)
        omega
      have e1 : a * 60 = sm (dvT D k) (2 ^ N) * b := by
        have h6 : a * 60 * g = sm (dvT D k) (2 ^ N) * b * g := by
          have c1 : a * 60 * g = a * g * 60 := by rw [Int.mul_assoc, Int.mul_comm 60 g, Int.mul_assoc]
          rw [c1, ← r2, key, r3, Int.mul_assoc]
        exact Int.eq_of_mul_eq_mul_right (by omega) h6
      dsimp only
      rw [e1, bne_self_eq_false]
      rfl)
    (by unfold l_laws_FnDividends_0; rw [tab_length, decide_eq_false (by omega)]; rfl)
  exact hit
theorem law_FnDividends (c : List UInt8) (_ : c.length ≤ maxLen) : m_laws_FnDividends c = some true := by
  unfold m_laws_FnDividends m_laws_big
  by_cases hb : (c.length : Int) > 1048576
  · rw [decide_eq_true hb]; rfl
  have hc : c.length ≤ 1048576 := by omega
  obtain ⟨n, l, e1, el, en⟩ := draw_div c hc
  obtain ⟨n2, l2, e2, el2, en2⟩ := draw_gd c hc
  have hl : l.length ≤ 1048576 := by omega
  obtain ⟨r, hr, d1, d2⟩ := div_both n l ⟨by omega, by omega⟩ hl
  obtain ⟨x, b, q, hq, g1, g2⟩ := gd_both n2 l2 ⟨by omega, by omega⟩ el2
  simp only [decide_eq_false hb, Option.bind_some, cond_false, e1, d1, d2, same_self r hr, Bool.not_true, spec_valid n l hl, e2, g1, g2, beq_self_eq_true, cond_true, seqgame_self x q hq]
  cases hv : validB n l with
  | false =>
    have hr0 : r = [] := by
      have := spec_div0 n l hv hl
      rw [d1] at this
      exact Option.some.inj this
    subst hr0
    rw [impl_gd0, spec_shap0 n l hl hv]
    have : iter (l_laws_FnDividends_2 [] []) 0 = some (.inl ()) := iter_done (by unfold l_laws_FnDividends_2; rfl)
    simp only [Option.bind_some, cond_false, bne_self_eq_false, this]
  | true =>
    have hV := (validB_eq n l).1 hv
    obtain ⟨N, rfl, h1, h2, h3, h4⟩ := valid_nat hV
    have hN4 : N ≤ 4 := by
      rcases Nat.lt_or_ge 4 N with h | h
      · obtain rfl : N = 5 := by omega
        omega
      · exact h
    have hp16 : 2 ^ N ≤ 16 := by
      have : N = 1 ∨ N = 2 ∨ N = 3 ∨ N = 4 := by omega
      rcases this with rfl | rfl | rfl | rfl <;> decide
    have hr0 : r = divs l (2 ^ N) := by
      have := spec_div N l hv hl
      rw [d1, h3] at this
      exact Option.some.inj this
    subst hr0
    have hvb := val_bd hV
    have hlD := divs_length l (2 ^ N)
    have hD : ∀ i, -75000 ≤ (divs l (2 ^ N)).getD i 0 ∧ (divs l (2 ^ N)).getD i 0 ≤ 75000 := fun i => by
      by_cases hi : i < 2 ^ N
      · have k1 := (div_key l (2 ^ N) hp16 hvb i hi).1
        have k2 := bB_tab ⟨i, by omega⟩
        simp only at k2
        omega
      · rw [List.getD_eq_getElem?_getD, List.getElem?_eq_none (by omega)]; decide
    have ht : tab (fun s => gd (divs l (2 ^ N)) s (divs l (2 ^ N)).length) (divs l (2 ^ N)).length = l := by
      have hself := tab_self l 0
      rw [hlD]
      rw [h3] at hself
      rw [← hself]
      refine tab_ext fun s hs => ?_
      rw [hself]
      exact gd_key l (2 ^ N) hp16 hvb s hs
    have hgd := impl_gd N (divs l (2 ^ N)) h1 h2 hlD (fun i _ => by have := hD i; omega)
    rw [ht, hv, if_pos rfl] at hgd
    simp only [hgd, Option.bind_some, cond_true, seqgame_self (N : Int) l hl, bne_self_eq_false, cond_false, spec_shap N l hl hv, law_loop l _ N h1 hN4 h3 hvb rfl hD]
end Go.Proofs.Ytmlfjoppaciknaa
