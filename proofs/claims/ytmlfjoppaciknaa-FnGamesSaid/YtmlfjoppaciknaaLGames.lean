/- The plain laws: what the models of FnGames compute. No condition beyond those that each theorem names. -/
import Derived.Test.YtmlfjoppaciknaaGGamesp
import Derived.Test.YtmlfjoppaciknaaAmC
namespace Go.Proofs.Ytmlfjoppaciknaa
open Go.AM
theorem spec_valueOf (n : Int) (l : List Int) (s : Int) (hl : l.length ≤ 1048576) : ∃ r, m_spec_ValueOf n l s = some r := by
  have hw : IntKind.i64.wrap ((l.length : Int) - 1) = (l.length : Int) - 1 := w64' (by omega) (by omega)
  unfold m_spec_ValueOf m_spec_l1In
  rw [hw]
  by_cases h1 : s ≥ 0
  · rw [decide_eq_true h1, cond_true, Option.bind_some]
    by_cases h2 : s ≤ (l.length : Int) - 1
    · rw [decide_eq_true h2, Bool.not_true, cond_false, grd_pos ⟨h1, by omega⟩]
      exact ⟨_, rfl⟩
    · rw [decide_eq_false h2]
      exact ⟨_, rfl⟩
  · rw [decide_eq_false h1]
    exact ⟨_, rfl⟩
def Valid (n : Int) (l : List Int) : Prop := (1 ≤ n ∧ n ≤ 5) ∧ (l.length : Int) = 2 ^ n.toNat ∧ l.getD 0 0 = 0 ∧ ∀ i, i < l.length → -500 ≤ l.getD i 0 ∧ l.getD i 0 ≤ 500
open Classical in
noncomputable def validB (n : Int) (l : List Int) : Bool := decide (Valid n l)
theorem in_eq (a b c : Int) : m_spec_l1In a b c = some (decide (b ≤ a ∧ a ≤ c)) := by
  unfold m_spec_l1In
  by_cases h : a ≥ b
  · have h' : b ≤ a := h
    simp [h, h']
  · have h' : ¬ b ≤ a := h
    simp [h, h']
theorem within_eq (a b c : Int) : m_impl_within a b c = some (decide (b ≤ a ∧ a ≤ c)) := in_eq a b c
theorem count_eq (n : Int) (h1 : 1 ≤ n) (h2 : n ≤ 5) : m_spec_CountCoalitions n = some (2 ^ n.toNat) := by
  unfold m_spec_CountCoalitions
  rw [in_eq]
  have hb : decide ((0 : Int) ≤ n ∧ n ≤ 5) = true := by simp; omega
  rw [hb, Option.bind_some, Bool.not_true, cond_false]
  have hit := iter_up (step := l_spec_CountCoalitions_0 n) (fun i => ((2 : Int) ^ i, (i : Int))) n.toNat (a := 2 ^ n.toNat) (fun i hi => by
      have hlt : (i : Int) < n := by omega
      have hi5 : i < 5 := by omega
      unfold l_spec_CountCoalitions_0
      simp only [hlt, decide_true, cond_true]
      have hp : (2 : Int) ^ i ≤ 16 := by
        have : i = 0 ∨ i = 1 ∨ i = 2 ∨ i = 3 ∨ i = 4 := by omega
        rcases this with rfl | rfl | rfl | rfl | rfl <;> decide
      have hp0 : (0 : Int) < 2 ^ i := Int.pow_pos (by decide)
      rw [w64' (by omega) (by omega), w64' (by omega) (by omega)]
      simp [Int.pow_succ])
    (by
      unfold l_spec_CountCoalitions_0
      have : ¬ ((n.toNat : Int) < n) := by omega
      simp only [this, decide_false, cond_false])
  simp only [Int.pow_zero, Int.ofNat_eq_natCast, Int.natCast_zero] at hit
  rw [hit]
  rfl
theorem spec_valid (n : Int) (l : List Int) (hl : l.length ≤ 1048576) : m_spec_IsValidGame n l = some (validB n l) := by
  unfold m_spec_IsValidGame
  have hit := iter_first (step := l_spec_IsValidGame_0 l) (fun i => (i : Int)) l.length (fun i => decide (-500 ≤ l.getD i 0 ∧ l.getD i 0 ≤ 500)) (a := .inl ()) (fun _ => .inr false)
    (fun i hi hp => by
      have hi' : (i : Int) < l.length := by omega
      unfold l_spec_IsValidGame_0
      rw [decide_eq_true hi', cond_true, grd_pos ⟨by omega, hi'⟩, in_eq, Int.toNat_natCast, hp, Option.bind_some, Bool.not_true, cond_false, w64' (by omega) (by omega)]
      rfl)
    (fun i hi hp => by
      have hi' : (i : Int) < l.length := by omega
      unfold l_spec_IsValidGame_0
      rw [decide_eq_true hi', cond_true, grd_pos ⟨by omega, hi'⟩, in_eq, Int.toNat_natCast, hp]
      rfl)
    (by
      unfold l_spec_IsValidGame_0
      rw [decide_eq_false (by omega)]
      rfl)
  simp only [Int.ofNat_eq_natCast, Int.natCast_zero] at hit
  rcases hit with ⟨h1, h2⟩ | ⟨i, h1, h2, h3⟩
  · rw [h2]
    simp only [Option.bind_some]
    rw [in_eq]
    by_cases hn : 1 ≤ n ∧ n ≤ 5
    · rw [decide_eq_true hn, Option.bind_some, cond_true, count_eq n hn.1 hn.2, Option.bind_some]
      by_cases hlen : (l.length : Int) = 2 ^ n.toNat
      · have hpos : (0 : Int) < 2 ^ n.toNat := Int.pow_pos (by decide)
        have e1 : ((l.length : Int) == 2 ^ n.toNat) = true := by simpa using hlen
        rw [e1, cond_true, grd_pos ⟨by omega, by omega⟩]
        congr 1
        have h0 : (0 : Int).toNat = 0 := rfl
        rw [h0]
        by_cases hz : l.getD 0 0 = 0
        · have hv : Valid n l := ⟨hn, hlen, hz, fun i hi => by simpa using h1 i hi⟩
          rw [hz]
          simp [validB, hv]
        · have hv : ¬ Valid n l := fun h => hz h.2.2.1
          simp only [validB, hv, decide_false]
          simpa using hz
      · have e1 : ((l.length : Int) == 2 ^ n.toNat) = false := by simpa using hlen
        have hv : ¬ Valid n l := fun h => hlen h.2.1
        rw [e1, cond_false]
        simp [validB, hv]
    · have hv : ¬ Valid n l := fun h => hn h.1
      rw [decide_eq_false hn]
      simp [validB, hv]
  · rw [h3]
    have hv : ¬ Valid n l := fun h => by
      have := h.2.2.2 i h1
      simp only [decide_eq_false_iff_not] at h2
      exact h2 this
    simp [validB, hv]
theorem contains_eq (l : List Int) (hl : l.length ≤ 1048576) : ∃ r, m_slices_ContainsFunc_int_int_impl_IsValidGame_1 l = some r ∧ (r = false ↔ ∀ i, i < l.length → -500 ≤ l.getD i 0 ∧ l.getD i 0 ≤ 500) := by
  unfold m_slices_ContainsFunc_int_int_impl_IsValidGame_1 m_slices_IndexFunc_int_int_impl_IsValidGame_1
  have hm : ∀ x, m_impl_IsValidGame_1 x = some (!decide (-500 ≤ x ∧ x ≤ 500)) := fun x => by
    unfold m_impl_IsValidGame_1
    rw [within_eq]
    rfl
  have hit := iter_first (step := l_slices_IndexFunc_int_int_impl_IsValidGame_1_0 l) (fun i => (i : Int)) l.length (fun i => decide (-500 ≤ l.getD i 0 ∧ l.getD i 0 ≤ 500)) (a := .inl ()) (fun i => .inr (i : Int))
    (fun i hi hp => by
      have hi' : (i : Int) < l.length := by omega
      unfold l_slices_IndexFunc_int_int_impl_IsValidGame_1_0
      rw [decide_eq_true hi', cond_true, grd_pos ⟨by omega, hi'⟩, hm, Int.toNat_natCast, hp, Option.bind_some, Bool.not_true, cond_false, w64' (by omega) (by omega)]
      rfl)
    (fun i hi hp => by
      have hi' : (i : Int) < l.length := by omega
      unfold l_slices_IndexFunc_int_int_impl_IsValidGame_1_0
      rw [decide_eq_true hi', cond_true, grd_pos ⟨by omega, hi'⟩, hm, Int.toNat_natCast, hp]
      rfl)
    (by
      unfold l_slices_IndexFunc_int_int_impl_IsValidGame_1_0
      rw [decide_eq_false (by omega)]
      rfl)
  simp only [Int.ofNat_eq_natCast, Int.natCast_zero] at hit
  rcases hit with ⟨h1, h2⟩ | ⟨i, h1, h2, h3⟩
  · rw [h2]
    exact ⟨false, rfl, by simpa using h1⟩
  · rw [h3]
    refine ⟨true, by simp, ?_⟩
    simp only [reduceCtorEq, false_iff]
    intro h
    simp only [decide_eq_false_iff_not] at h2
    exact h2 (h i h1)
theorem impl_valid (n : Int) (l : List Int) (hl : l.length ≤ 1048576) : m_impl_IsValidGame n l = some (validB n l) := by
  unfold m_impl_IsValidGame
  rw [within_eq]
  by_cases hn : 1 ≤ n ∧ n ≤ 5
  · rw [decide_eq_true hn, Option.bind_some, Bool.not_true, cond_false, grd_pos (by omega)]
    have hw : IntKind.i64.wrap ((1 : Int) * 2 ^ (min n.toNat 64)) = 2 ^ n.toNat := by
      have : n = 1 ∨ n = 2 ∨ n = 3 ∨ n = 4 ∨ n = 5 := by omega
      rcases this with rfl | rfl | rfl | rfl | rfl <;> decide
    rw [hw]
    by_cases hlen : (l.length : Int) = 2 ^ n.toNat
    · have hpos : (0 : Int) < 2 ^ n.toNat := Int.pow_pos (by decide)
      have e1 : ((l.length : Int) != 2 ^ n.toNat) = false := by simpa using hlen
      rw [e1, cond_false, grd_pos ⟨by omega, by omega⟩]
      have h0 : (0 : Int).toNat = 0 := rfl
      rw [h0]
      by_cases hz : l.getD 0 0 = 0
      · have e2 : (l.getD 0 0 != 0) = false := by simpa using hz
        rw [e2, cond_false]
        obtain ⟨r, h1, h2⟩ := contains_eq l hl
        rw [h1, Option.bind_some]
        congr 1
        by_cases hr : r = false
        · have hv : Valid n l := ⟨hn, hlen, hz, h2.1 hr⟩
          simp [validB, hv, hr]
        · have hv : ¬ Valid n l := fun h => hr (h2.2 h.2.2.2)
          have hr' : r = true := by cases r <;> simp at hr ⊢
          simp [validB, hv, hr']
      · have e2 : (l.getD 0 0 != 0) = true := by simpa using hz
        have hv : ¬ Valid n l := fun h => hz h.2.2.1
        rw [e2]
        simp [validB, hv]
    · have e1 : ((l.length : Int) != 2 ^ n.toNat) = true := by simpa using hlen
      have hv : ¬ Valid n l := fun h => hlen h.2.1
      rw [e1]
      simp [validB, hv]
  · have hv : ¬ Valid n l := fun h => hn h.1
    rw [decide_eq_false hn]
    simp [validB, hv]
def tab {α : Type} (f : Nat → α) (n : Nat) : List α := (List.range n).map f
theorem tab_succ {α : Type} (f : Nat → α) (n : Nat) : tab f (n + 1) = tab f n ++ [f n] := by simp [tab, List.range_succ]
theorem tab_length {α : Type} (f : Nat → α) (n : Nat) : (tab f n).length = n := by simp [tab]
theorem tab_getD {α : Type} (f : Nat → α) (n : Nat) (d : α) (i : Nat) (h : i < n) : (tab f n).getD i d = f i := by
  simp [tab, List.getD, List.getElem?_map, List.getElem?_range h]
def fil {α : Type} (p : Nat → Bool) (f : Nat → α) (n : Nat) : List α := ((List.range n).filter p).map f
theorem fil_succ {α : Type} (p : Nat → Bool) (f : Nat → α) (n : Nat) : fil p f (n + 1) = if p n = true then fil p f n ++ [f n] else fil p f n := by
  simp only [fil, List.range_succ, List.filter_append]
  by_cases h : p n = true
  · simp [h]
  · simp [h]
theorem fil_length {α : Type} (p : Nat → Bool) (f : Nat → α) (n : Nat) : (fil p f n).length ≤ n := by
  simp only [fil, List.length_map]
  exact Nat.le_trans (List.length_filter_le _ _) (by simp)
def sm (f : Nat → Int) : Nat → Int
  | 0 => 0
  | n + 1 => sm f n + f n
theorem sm_bd {f : Nat → Int} {B : Int} : ∀ {n : Nat}, (∀ i, i < n → -B ≤ f i ∧ f i ≤ B) → -(B * n) ≤ sm f n ∧ sm f n ≤ B * n
  | 0, _ => by simp [sm]
  | n + 1, h => by
    have h1 := sm_bd (n := n) fun i hi => h i (by omega)
    have h2 := h n (by omega)
    have h3 : B * ((n + 1 : Nat) : Int) = B * n + B := by rw [Int.natCast_add, Int.mul_add]; simp
    simp only [sm]
    omega
theorem set_tab {α : Type} (f : Nat → α) (l : List α) (i : Nat) (h : i < l.length) : (tab f i ++ l.drop i).set i (f i) = tab f (i + 1) ++ l.drop (i + 1) := by
  rw [List.set_append]
  have h1 : ¬ i < (tab f i).length := by rw [tab_length]; omega
  rw [if_neg h1, tab_length, Nat.sub_self, tab_succ, List.drop_eq_getElem_cons h]
  simp only [List.set_cons_zero, List.append_assoc, List.singleton_append]
theorem getD_nat {α : Type} (l : List α) (i : Nat) (d : α) : l.getD (i : Int).toNat d = l.getD i d := by rw [Int.toNat_natCast]
instance : DecidableEq Q := fun a b =>
  if h1 : a.num = b.num then
    if h2 : a.den = b.den then isTrue (by cases a; cases b; simp only at h1 h2; rw [h1, h2])
    else isFalse (fun h => h2 (by rw [h]))
  else isFalse (fun h => h1 (by rw [h]))
theorem count0 (n : Nat) (h : n ≤ 5) : m_spec_CountCoalitions (n : Int) = some (2 ^ n) := by
  rcases Nat.eq_zero_or_pos n with rfl | h1
  · unfold m_spec_CountCoalitions
    rw [in_eq, decide_eq_true (by omega), Option.bind_some, Bool.not_true, cond_false]
    rw [iter_done (a := (1 : Int)) (by simp [l_spec_CountCoalitions_0])]
    rfl
  · rw [count_eq (n : Int) (by omega) (by omega)]
    simp
theorem bit2 (k : Nat) (h : k < 5) : m_spec_l2Bit (k : Int) = some (2 ^ k) := by
  unfold m_spec_l2Bit
  rw [count0 k (by omega)]
  rfl
theorem and_tab : ∀ s : Fin 32, ∀ k : Fin 5, bitsOf .and .i64 (((s.val : Nat) : Int).fdiv (2 ^ (min ((k.val : Nat) : Int).toNat 64))) 1 = if s.val.testBit k.val then 1 else 0 := by decide +kernel
theorem has_tab : ∀ s : Fin 32, ∀ k : Fin 5, ((IntKind.i64.wrap (((s.val : Nat) : Int).tdiv (2 ^ k.val))).tmod 2 == 1) = s.val.testBit k.val := by decide +kernel
theorem shl_tab : ∀ k : Fin 6, IntKind.i64.wrap (1 * 2 ^ (min ((k.val : Nat) : Int).toNat 64)) = ((2 ^ k.val : Nat) : Int) := by decide +kernel
theorem or_tab : ∀ a : Fin 32, ∀ b : Fin 32, bitsOf .or .i64 ((a.val : Nat) : Int) ((b.val : Nat) : Int) = ((a.val ||| b.val : Nat) : Int) := by decide +kernel
theorem and_eq (s k : Nat) (hs : s < 32) (hk : k < 5) : bitsOf .and .i64 ((s : Int).fdiv (2 ^ (min (k : Int).toNat 64))) 1 = if s.testBit k then 1 else 0 := and_tab ⟨s, hs⟩ ⟨k, hk⟩
theorem shl_eq (k : Nat) (hk : k < 6) : IntKind.i64.wrap (1 * 2 ^ (min (k : Int).toNat 64)) = ((2 ^ k : Nat) : Int) := shl_tab ⟨k, hk⟩
theorem or_eq (a b : Nat) (ha : a < 32) (hb : b < 32) : bitsOf .or .i64 (a : Int) (b : Int) = ((a ||| b : Nat) : Int) := or_tab ⟨a, ha⟩ ⟨b, hb⟩
theorem pow_lt5 (k : Nat) (hk : k < 5) : 2 ^ k < 32 := by
  have : k = 0 ∨ k = 1 ∨ k = 2 ∨ k = 3 ∨ k = 4 := by omega
  rcases this with rfl | rfl | rfl | rfl | rfl <;> decide
theorem spec_has (s k : Nat) (hs : s < 32) (hk : k < 5) : m_spec_HasPlayer (s : Int) (k : Int) = some (s.testBit k) := by
  unfold m_spec_HasPlayer
  have hp : (0 : Int) < 2 ^ k := Int.pow_pos (by decide)
  rw [in_eq, decide_eq_true (by omega), Option.bind_some, cond_true, decide_eq_true (by omega), cond_true, bit2 k hk, Option.bind_some, grd_pos (by omega), grd_pos (by decide)]
  rw [← has_tab ⟨s, hs⟩ ⟨k, hk⟩]
/-- a valid game, in natural numbers -/
theorem valid_nat {n : Int} {l : List Int} (h : Valid n l) : ∃ N : Nat, n = (N : Int) ∧ 1 ≤ N ∧ N ≤ 5 ∧ l.length = 2 ^ N ∧ l.length ≤ 32 := by
  obtain ⟨h1, h2, _⟩ := h
  have hn : n = 1 ∨ n = 2 ∨ n = 3 ∨ n = 4 ∨ n = 5 := by omega
  refine ⟨n.toNat, by omega, by omega, by omega, ?_, ?_⟩
  · rcases hn with rfl | rfl | rfl | rfl | rfl <;> simp at h2 ⊢ <;> omega
  · rcases hn with rfl | rfl | rfl | rfl | rfl <;> simp at h2 ⊢ <;> omega
theorem validB_eq (n : Int) (l : List Int) : validB n l = true ↔ Valid n l := by simp [validB]
theorem pow_le32 {N : Nat} (h : N ≤ 5) : 2 ^ N ≤ 32 := by
  have : N = 0 ∨ N = 1 ∨ N = 2 ∨ N = 3 ∨ N = 4 ∨ N = 5 := by omega
  rcases this with rfl | rfl | rfl | rfl | rfl | rfl <;> decide
theorem tab_set_loop {α : Type} (f : Nat → α) (l : List α) : tab f l.length ++ l.drop l.length = tab f l.length := by simp
theorem impl_count (n : Nat) (h : n ≤ 5) : m_impl_CountCoalitions (n : Int) = some ((2 ^ n : Nat) : Int) := by
  unfold m_impl_CountCoalitions
  rw [within_eq, decide_eq_true (by omega), Option.bind_some, Bool.not_true, cond_false, grd_pos (by omega), shl_eq n (by omega)]
def addG (n : Int) (l : List Int) (m : Int) (k : List Int) (x : Int) (r : List Int) : Prop := ∃ N : Nat, x = N ∧ n = N ∧ m = N ∧ validB (N : Int) l = true ∧ validB (N : Int) k = true ∧ validB (N : Int) r = true ∧ r.length = l.length ∧ k.length = l.length ∧ 1 ≤ l.length ∧
  r.getD (l.length - 1) 0 = IntKind.i64.wrap (l.getD (l.length - 1) 0 + k.getD (l.length - 1) 0)
theorem add_bothS (n : Int) (l : List Int) (m : Int) (k : List Int) (hn : I64 n) (hl : l.length ≤ 1048576) (hk : k.length ≤ 1048576) : ∃ x b r, (r.length ≤ 1048576 ∧ (b = true → addG n l m k x r)) ∧ m_spec_AddGames n l m k = some (x, b, r) ∧ m_impl_AddGames n l m k = some (x, b, r) := by
  unfold m_spec_AddGames m_impl_AddGames
  rw [spec_valid n l hl, impl_valid n l hl, spec_valid m k hk, impl_valid m k hk]
  cases hv : validB n l with
  | false => exact ⟨0, false, [], ⟨by simp, nofun⟩, rfl, rfl⟩
  | true =>
    cases hw : validB m k with
    | false => exact ⟨0, false, [], ⟨by simp, nofun⟩, rfl, rfl⟩
    | true =>
      obtain ⟨N, rfl, h1, h2, h3, h4⟩ := valid_nat ((validB_eq n l).1 hv)
      obtain ⟨M, rfl, g1, g2, g3, g4⟩ := valid_nat ((validB_eq m k).1 hw)
      by_cases hNM : N = M
      · subst hNM
        let f : Nat → Int := fun s => IntKind.i64.wrap (l.getD s 0 + k.getD s 0)
        have s1 := iter_up (step := l_spec_AddGames_0 l k) (fun i => ((i : Int), tab f i ++ l.drop i)) l.length (a := tab f l.length) (fun i hi => by
            have hlen : (tab f i ++ l.drop i).length = l.length := by simp [tab_length]; omega
            unfold l_spec_AddGames_0
            dsimp only
            rw [hlen, decide_eq_true (by omega), cond_true, grd_pos (by omega), grd_pos (by omega), grd_pos (by omega), w64' (n := (i : Int) + 1) (by omega) (by omega), getD_nat, getD_nat, Int.toNat_natCast]
            rw [show IntKind.i64.wrap (l.getD i 0 + k.getD i 0) = f i from rfl, set_tab f l i hi]
            rfl)
          (by
            unfold l_spec_AddGames_0
            dsimp only
            rw [tab_set_loop, tab_length, decide_eq_false (by omega)]
            rfl)
        have s2 := iter_up (step := l_impl_made_impl_AddGames_1_0 (N : Int) l (N : Int) k ((2 ^ N : Nat) : Int)) (fun i => ((i : Int), tab f i)) l.length (a := tab f l.length) (fun i hi => by
            unfold l_impl_made_impl_AddGames_1_0 m_impl_AddGames_1
            dsimp only
            rw [decide_eq_true (by omega), cond_true, grd_pos (by omega), grd_pos (by omega), getD_nat, getD_nat, Option.bind_some, grd_pos (by simp only [tab_length, List.length_singleton, room]; omega), w64' (n := (i : Int) + 1) (by omega) (by omega), tab_succ]
            rfl)
          (by
            unfold l_impl_made_impl_AddGames_1_0
            dsimp only
            rw [decide_eq_false (by omega)]
            rfl)
        have e0 : tab f 0 = [] := rfl
        simp only [Int.natCast_zero, e0, List.nil_append, List.drop_zero] at s1 s2
        have hb : (tab f l.length).length ≤ 1048576 := by rw [tab_length]; omega
        have hne : ((N : Int) != (N : Int)) = false := by simp
        simp only [Option.bind_some, Bool.not_true, cond_false, hne, m_spec_l8Copy, List.nil_append, m_impl_made_impl_AddGames_1, impl_count N h2]
        rw [grd_pos (by simp only [List.length_nil, room]; omega), Option.bind_some]
        simp only
        rw [s1, s2]
        simp only [Option.bind_some]
        rw [spec_valid _ _ hb, impl_valid _ _ hb]
        cases hval : validB (N : Int) (tab f l.length) with
        | false => exact ⟨0, false, [], ⟨by simp, nofun⟩, rfl, rfl⟩
        | true =>
          have q1 : k.length = l.length := g3.trans h3.symm
          have q2 : 1 ≤ l.length := by rw [h3]; exact Nat.pow_pos (by decide)
          exact ⟨N, true, tab f l.length, ⟨hb, fun _ => ⟨N, rfl, rfl, rfl, hv, hw, hval, tab_length _ _, q1, q2, tab_getD f _ 0 _ (by omega)⟩⟩, rfl, rfl⟩
      · have hne : ((N : Int) != (M : Int)) = true := by
          rw [bne_iff_ne]
          omega
        simp only [Option.bind_some, Bool.not_true, cond_false, hne, cond_true]
        exact ⟨0, false, [], ⟨by simp, nofun⟩, rfl, rfl⟩
theorem pow_bd (i : Nat) (h : i < 5) : (0 : Int) < 2 ^ i ∧ (2 : Int) ^ i ≤ 16 := by
  have : i = 0 ∨ i = 1 ∨ i = 2 ∨ i = 3 ∨ i = 4 := by omega
  rcases this with rfl | rfl | rfl | rfl | rfl <;> decide
theorem good_eq (a : Nat) (ha : a < 32) : m_spec_l2Good (a : Int) = some true := by
  unfold m_spec_l2Good
  rw [in_eq, decide_eq_true (by omega)]
  rfl
theorem first_bad (n : Nat) (P : Nat → Prop) : (∀ i, i < n → P i) ∨ ∃ t, t < n ∧ ¬ P t ∧ ∀ i, i < t → P i := by
  by_cases h : ∀ i, i < n → P i
  · exact .inl h
  · have h' : ∃ t, t < n ∧ ¬ P t := by
      simp only [Classical.not_forall] at h
      obtain ⟨i, h1, h2⟩ := h
      exact ⟨i, h1, h2⟩
    obtain ⟨t, ⟨h1, h2⟩, h3⟩ := least h'
    refine .inr ⟨t, h1, h2, fun i hi => ?_⟩
    by_cases hp : P i
    · exact hp
    · have := h3 i ⟨by omega, hp⟩
      omega
theorem in_find (l : List Int) (lo hi : Int) {R : Type} (step : Int → Option (Int ⊕ (Unit ⊕ R))) (b : Nat → R)
    (hs : ∀ i : Nat, i < l.length → step (i : Int) = some (bif decide (lo ≤ l.getD i 0 ∧ l.getD i 0 ≤ hi) then .inl ((i + 1 : Nat) : Int) else .inr (.inr (b i)))) (hd : step (l.length : Int) = some (.inr (.inl ()))) :
    ((∀ i, i < l.length → lo ≤ l.getD i 0 ∧ l.getD i 0 ≤ hi) ∧ iter step 0 = some (.inl ())) ∨ ∃ t, t < l.length ∧ ¬ (lo ≤ l.getD t 0 ∧ l.getD t 0 ≤ hi) ∧ (∀ i, i < t → lo ≤ l.getD i 0 ∧ l.getD i 0 ≤ hi) ∧ iter step 0 = some (.inr (b t)) := by
  rcases first_bad l.length (fun i => lo ≤ l.getD i 0 ∧ l.getD i 0 ≤ hi) with h | ⟨t, h1, h2, h3⟩
  · refine .inl ⟨h, ?_⟩
    have := iter_up (step := step) (fun i => (i : Int)) l.length (a := .inl ()) (fun i hi => by rw [hs i hi, decide_eq_true (h i hi)]; rfl) hd
    simpa only [Int.natCast_zero] using this
  · refine .inr ⟨t, h1, h2, h3, ?_⟩
    have := iter_up (step := step) (fun i => (i : Int)) t (a := .inr (b t)) (fun i hi => by rw [hs i (by omega), decide_eq_true (h3 i hi)]; rfl) (by rw [hs t h1, decide_eq_false h2]; rfl)
    simpa only [Int.natCast_zero] using this
def mem (s : Nat) (x : List Int) (i : Nat) : Int := if s.testBit i = true then x.getD i 0 else 0
theorem mem_bd (s : Nat) (x : List Int) (m : Nat) (hm : m ≤ x.length) (hok : ∀ i, i < x.length → -500 ≤ x.getD i 0 ∧ x.getD i 0 ≤ 500) : -(500 * (m : Int)) ≤ sm (mem s x) m ∧ sm (mem s x) m ≤ 500 * m :=
  sm_bd fun i hi => by
    have := hok i (by omega)
    unfold mem
    split <;> omega
theorem mul_bd500 {x y : Int} (hx : -500 ≤ x ∧ x ≤ 500) (hy : -500 ≤ y ∧ y ≤ 500) : -250000 ≤ x * y ∧ x * y ≤ 250000 := by
  have h1 : (x * y).natAbs ≤ 500 * 500 := by
    rw [Int.natAbs_mul]
    exact Nat.mul_le_mul (by omega) (by omega)
  omega
theorem scale_both (n : Int) (l : List Int) (k : Int) (x : List Int) (hl : l.length ≤ 1048576) (hx : x.length ≤ 1048576) : ∃ a b r, r.length ≤ 1048576 ∧ m_spec_ScaleGame n l k x = some (a, b, r) ∧ m_impl_ScaleGame n l k x = some (a, b, r) := by
  unfold m_spec_ScaleGame m_impl_ScaleGame
  have hc1 : ∀ y, m_impl_ScaleGame_1 y = some (!decide (-500 ≤ y ∧ y ≤ 500)) := fun y => by
    unfold m_impl_ScaleGame_1
    rw [within_eq]
    rfl
  rw [spec_valid n l hl, impl_valid n l hl, in_eq, hc1]
  cases hv : validB n l with
  | false => exact ⟨0, false, [], by simp, rfl, rfl⟩
  | true =>
    have hV := (validB_eq n l).1 hv
    obtain ⟨N, rfl, h1, h2, h3, h4⟩ := valid_nat hV
    have h32 := pow_le32 h2
    have hpos : 0 < l.length := by rw [h3]; exact Nat.pow_pos (by decide)
    by_cases hlen : x.length = N
    · have hne : ((x.length : Int) != (N : Int)) = false := by simp [hlen]
      by_cases hk : -500 ≤ k ∧ k ≤ 500
      · simp only [Option.bind_some, Bool.not_true, cond_false, hne, decide_eq_true hk]
        have hck := in_find x (-500) 500 (l_slices_IndexFunc_int_int_impl_ScaleGame_1_0 x) (fun t => (t : Int))
          (fun i hi => by
            unfold l_slices_IndexFunc_int_int_impl_ScaleGame_1_0
            rw [decide_eq_true (by omega), cond_true, grd_pos (by omega), getD_nat, hc1, Option.bind_some, w64' (by omega) (by omega)]
            cases decide (-500 ≤ x.getD i 0 ∧ x.getD i 0 ≤ 500) <;> rfl)
          (by unfold l_slices_IndexFunc_int_int_impl_ScaleGame_1_0; rw [decide_eq_false (by omega)]; rfl)
        unfold m_spec_l8Copy m_slices_ContainsFunc_int_int_impl_ScaleGame_1 m_slices_IndexFunc_int_int_impl_ScaleGame_1
        rw [grd_pos (by simp only [List.length_nil, room]; omega)]
        simp only [Option.bind_some, List.nil_append]
        rcases hck with ⟨hok, hit⟩ | ⟨t0, ht0, hbad, hok, hit⟩
        · have hkl : ∀ s, s < l.length → -250000 ≤ k * l.getD s 0 ∧ k * l.getD s 0 ≤ 250000 := fun s hs => mul_bd500 hk (hV.2.2.2 s hs)
          let f : Nat → Int := fun s => k * l.getD s 0 + sm (mem s x) x.length
          have s1i : ∀ s, s < l.length → iter (l_spec_ScaleGame_1 x (s : Int)) (IntKind.i64.wrap (k * l.getD (s : Int).toNat 0), (0 : Int)) = some (.inl (f s)) := by
            intro s hs
            have b0 := hkl s hs
            rw [getD_nat, w64' (by omega) (by omega)]
            have hit := iter_up (step := l_spec_ScaleGame_1 x (s : Int)) (fun i => (k * l.getD s 0 + sm (mem s x) i, (i : Int))) x.length (a := .inl (f s)) (fun i hi => by
                have b1 := mem_bd s x i (by omega) hok
                have b2 := hok i hi
                have hg : (0 : Int) ≤ (i : Int) ∧ (i : Int) < (x.length : Int) := by omega
                unfold l_spec_ScaleGame_1
                dsimp only
                rw [decide_eq_true (by omega), cond_true, getD_nat, in_eq, decide_eq_true b2, spec_has s i (by omega) (by omega), w64' (n := (i : Int) + 1) (by omega) (by omega), w64' (by omega) (by omega)]
                simp only [Option.bind_some, Bool.not_true, cond_false, grd_pos hg, sm, mem]
                cases s.testBit i <;> simp [Int.add_assoc])
              (by unfold l_spec_ScaleGame_1; dsimp only; rw [decide_eq_false (by omega)]; rfl)
            simpa only [Int.natCast_zero, sm, Int.add_zero] using hit
          have s2i : ∀ s, s < l.length → m_impl_sumOver x (s : Int) = some (sm (mem s x) x.length) := by
            intro s hs
            unfold m_impl_sumOver
            have hit := iter_up (step := l_impl_sumOver_0 x (s : Int)) (fun i => (sm (mem s x) i, (i : Int))) x.length (a := sm (mem s x) x.length) (fun i hi => by
                have b1 := mem_bd s x i (by omega) hok
                have b2 := hok i hi
                have hg : (0 : Int) ≤ (i : Int) ∧ (i : Int) < (x.length : Int) := by omega
                have hg0 : (0 : Int) ≤ (i : Int) := by omega
                unfold l_impl_sumOver_0
                dsimp only
                rw [decide_eq_true (by omega), cond_true, getD_nat, and_eq s i (by omega) (by omega), w64' (n := (i : Int) + 1) (by omega) (by omega), w64' (by omega) (by omega)]
                simp only [grd_pos hg, grd_pos hg0, sm, mem]
                cases s.testBit i <;> simp)
              (by unfold l_impl_sumOver_0; dsimp only; rw [decide_eq_false (by omega)]; rfl)
            simp only [Int.natCast_zero, sm] at hit
            rw [hit]
            rfl
          have s1 := iter_up (step := l_spec_ScaleGame_0 l k x) (fun i => ((i : Int), tab f i ++ l.drop i)) l.length (a := .inl (tab f l.length)) (fun i hi => by
              have hlen' : (tab f i ++ l.drop i).length = l.length := by simp [tab_length]; omega
              unfold l_spec_ScaleGame_0
              dsimp only
              rw [hlen', decide_eq_true (by omega), cond_true, grd_pos (by omega), s1i i hi, Option.bind_some]
              dsimp only
              rw [grd_pos (by omega), w64' (n := (i : Int) + 1) (by omega) (by omega), Int.toNat_natCast, set_tab f l i hi]
              rfl)
            (by
              unfold l_spec_ScaleGame_0
              dsimp only
              rw [tab_set_loop, tab_length, decide_eq_false (by omega)]
              rfl)
          have s2 := iter_up (step := l_impl_made_impl_ScaleGame_2_0 k (N : Int) l x ((2 ^ N : Nat) : Int)) (fun i => ((i : Int), tab f i)) l.length (a := tab f l.length) (fun i hi => by
              have b0 := hkl i hi
              have b1 := mem_bd i x x.length (Nat.le_refl _) hok
              unfold l_impl_made_impl_ScaleGame_2_0 m_impl_ScaleGame_2
              dsimp only
              rw [decide_eq_true (by omega), cond_true, grd_pos (by omega), s2i i hi, Option.bind_some, getD_nat, w64' (n := k * l.getD i 0) (by omega) (by omega), w64' (n := k * l.getD i 0 + _) (by omega) (by omega), Option.bind_some, grd_pos (by simp only [tab_length, List.length_singleton, room]; omega), w64' (n := (i : Int) + 1) (by omega) (by omega), tab_succ]
              rfl)
            (by
              unfold l_impl_made_impl_ScaleGame_2_0
              dsimp only
              rw [decide_eq_false (by omega)]
              rfl)
          have e0 : tab f 0 = [] := rfl
          simp only [Int.natCast_zero, e0, List.nil_append, List.drop_zero] at s1 s2
          have hb : (tab f l.length).length ≤ 1048576 := by rw [tab_length]; omega
          rw [s1, hit]
          unfold m_impl_made_impl_ScaleGame_2
          rw [impl_count N h2]
          simp only [Option.bind_some]
          rw [s2]
          simp only [Option.bind_some]
          rw [spec_valid _ _ hb, impl_valid _ _ hb]
          cases validB (N : Int) (tab f l.length) with
          | false => exact ⟨0, false, [], by simp, rfl, rfl⟩
          | true => exact ⟨N, true, tab f l.length, hb, rfl, rfl⟩
        · have hf : iter (l_spec_ScaleGame_1 x ((0 : Nat) : Int)) (IntKind.i64.wrap (k * l.getD ((0 : Nat) : Int).toNat 0), (0 : Int)) = some (.inr (0, false, [])) := by
            have b0 := mul_bd500 hk (hV.2.2.2 0 hpos)
            rw [getD_nat, w64' (by omega) (by omega)]
            have hit := iter_up (step := l_spec_ScaleGame_1 x ((0 : Nat) : Int)) (fun i => (k * l.getD 0 0, (i : Int))) t0 (a := .inr (0, false, [])) (fun i hi => by
                have b2 := hok i hi
                have hg : (0 : Int) ≤ (i : Int) ∧ (i : Int) < (x.length : Int) := by omega
                unfold l_spec_ScaleGame_1
                dsimp only
                rw [decide_eq_true (by omega), cond_true, getD_nat, in_eq, decide_eq_true b2, spec_has 0 i (by omega) (by omega), w64' (n := (i : Int) + 1) (by omega) (by omega)]
                simp only [Option.bind_some, Bool.not_true, cond_false, grd_pos hg, Nat.zero_testBit]
                rfl)
              (by
                unfold l_spec_ScaleGame_1
                dsimp only
                rw [decide_eq_true (by omega), cond_true, grd_pos (by omega), getD_nat, in_eq, decide_eq_false hbad]
                rfl)
            simpa only [Int.natCast_zero] using hit
          have s1 : iter (l_spec_ScaleGame_0 l k x) ((0 : Int), l) = some (.inr (0, false, [])) := iter_done (by
            unfold l_spec_ScaleGame_0
            dsimp only
            simp only [Int.natCast_zero] at hf
            rw [decide_eq_true (by omega), cond_true, grd_pos (by omega), hf]
            rfl)
          rw [s1, hit]
          simp only [Option.bind_some, decide_eq_true (show ((t0 : Nat) : Int) ≥ 0 by omega), cond_true]
          exact ⟨0, false, [], by simp, rfl, rfl⟩
      · simp only [Option.bind_some, Bool.not_true, cond_false, hne, decide_eq_false hk]
        exact ⟨0, false, [], by simp, rfl, rfl⟩
    · have hne : ((x.length : Int) != (N : Int)) = true := by
        rw [bne_iff_ne]
        omega
      simp only [Option.bind_some, Bool.not_true, cond_false, hne, cond_true]
      cases decide (-500 ≤ k ∧ k ≤ 500) <;> exact ⟨0, false, [], by simp, rfl, rfl⟩
theorem impl_has (s k : Nat) (hs : s < 32) (hk : k < 5) : m_impl_HasPlayer (s : Int) (k : Int) = some (s.testBit k) := by
  unfold m_impl_HasPlayer
  rw [decide_eq_true (by omega), cond_true, within_eq, decide_eq_true (by omega), Option.bind_some, cond_true, grd_pos (by omega), and_eq s k hs hk]
  cases s.testBit k <;> rfl
def mems (s : Nat) : List Int := fil s.testBit (fun k => (k : Int)) 5
theorem spec_members (s : Nat) (hs : s < 32) : m_spec_MembersOf (s : Int) = some (mems s) := by
  unfold m_spec_MembersOf
  have hit := iter_up (step := l_spec_MembersOf_0 (s : Int)) (fun k => ((k : Int), fil s.testBit (fun k => (k : Int)) k)) 5 (a := mems s) (fun k hk => by
      have hb := fil_length s.testBit (fun k => (k : Int)) k
      unfold l_spec_MembersOf_0
      dsimp only
      rw [decide_eq_true (by omega), cond_true, good_eq s hs, Option.bind_some, cond_true, spec_has s k hs hk, Option.bind_some, w64' (by omega) (by omega), fil_succ, grd_pos (by simp only [List.length_singleton, room]; omega)]
      cases s.testBit k <;> rfl)
    (by unfold l_spec_MembersOf_0; dsimp only; rw [decide_eq_false (by omega)]; rfl)
  have e : fil s.testBit (fun k => (k : Int)) 0 = [] := rfl
  simp only [Int.natCast_zero, e] at hit
  rw [hit]
  rfl
theorem impl_members (s : Nat) (hs : s < 32) : m_impl_MembersOf (s : Int) = some (mems s) := by
  unfold m_impl_MembersOf
  have hit := iter_up (step := l_impl_MembersOf_0 (s : Int)) (fun k => ((k : Int), fil s.testBit (fun k => (k : Int)) k)) 5 (a := mems s) (fun k hk => by
      have hb := fil_length s.testBit (fun k => (k : Int)) k
      unfold l_impl_MembersOf_0
      dsimp only
      rw [decide_eq_true (by omega), cond_true, impl_has s k hs hk, Option.bind_some, w64' (by omega) (by omega), fil_succ, grd_pos (by simp only [List.length_singleton, room]; omega)]
      cases s.testBit k <;> rfl)
    (by unfold l_impl_MembersOf_0; dsimp only; rw [decide_eq_false (by omega)]; rfl)
  have e : fil s.testBit (fun k => (k : Int)) 0 = [] := rfl
  simp only [Int.natCast_zero, e] at hit
  rw [within_eq, decide_eq_true (by omega), Option.bind_some, Bool.not_true, cond_false, hit]
  rfl
theorem mems_mem {s : Nat} {m : Int} (h : m ∈ mems s) : ∃ k : Nat, m = (k : Int) ∧ k < 5 ∧ s.testBit k = true := by
  simp only [mems, fil, List.mem_map, List.mem_filter, List.mem_range] at h
  obtain ⟨k, ⟨h1, h2⟩, h3⟩ := h
  exact ⟨k, h3.symm, h1, h2⟩
theorem mems_length (s : Nat) : (mems s).length ≤ 5 := fil_length _ _ _
def wt (ms : List Int) (t k : Nat) : Int := if t.testBit k = true then 2 ^ (ms.getD k 0).toNat else 0
def wO (ms : List Int) (t : Nat) : Nat → Nat
  | 0 => 0
  | k + 1 => wO ms t k ||| (if t.testBit k = true then 2 ^ (ms.getD k 0).toNat else 0)
theorem mems_get (s k : Nat) (h : k < (mems s).length) : ∃ m : Nat, (mems s).getD k 0 = (m : Int) ∧ m < 5 := by
  have hm : (mems s).getD k 0 ∈ mems s := by
    simp [List.getD, List.getElem?_eq_getElem h]
  obtain ⟨m, h1, h2, _⟩ := mems_mem hm
  exact ⟨m, h1, h2⟩
theorem wt_bd (s t k : Nat) (hk : k ≤ (mems s).length) : -(16 * (k : Int)) ≤ sm (wt (mems s) t) k ∧ sm (wt (mems s) t) k ≤ 16 * k :=
  sm_bd fun i hi => by
    obtain ⟨m, h1, h2⟩ := mems_get s i (by omega)
    have := pow_bd m h2
    unfold wt
    rw [h1, Int.toNat_natCast]
    split <;> omega
theorem wO_lt (s t : Nat) : ∀ k, k ≤ (mems s).length → wO (mems s) t k < 32
  | 0, _ => by simp [wO]
  | k + 1, h => by
    obtain ⟨m, h1, h2⟩ := mems_get s k (by omega)
    have h3 := wO_lt s t k (by omega)
    have h4 := pow_lt5 m h2
    unfold wO
    rw [h1, Int.toNat_natCast]
    refine Nat.or_lt_two_pow (n := 5) h3 ?_
    split
    · exact h4
    · decide
theorem wide_tab : ∀ s : Fin 32, ∀ t : Fin 32, sm (wt (mems s.val) t.val) (mems s.val).length = ((wO (mems s.val) t.val (mems s.val).length : Nat) : Int) ∧ wO (mems s.val) t.val (mems s.val).length ≤ s.val := by decide +kernel
theorem mems_ne : ∀ s : Fin 32, s.val ≠ 0 → 1 ≤ (mems s.val).length := by decide +kernel
theorem wO_zero (ms : List Int) : ∀ k, wO ms 0 k = 0
  | 0 => rfl
  | k + 1 => by simp [wO, wO_zero ms k]
theorem spec_wide (s t : Nat) (hs : s < 32) (ht : t < 32) : m_spec_l8Wide (mems s) (t : Int) = some ((wO (mems s) t (mems s).length : Nat) : Int) := by
  unfold m_spec_l8Wide
  have hml := mems_length s
  have hit := iter_up (step := l_spec_l8Wide_0 (mems s) (t : Int)) (fun k => (sm (wt (mems s) t) k, (k : Int))) (mems s).length (a := sm (wt (mems s) t) (mems s).length) (fun k hk => by
      obtain ⟨m, h1, h2⟩ := mems_get s k hk
      have hb := wt_bd s t k (by omega)
      have hp := pow_bd m h2
      unfold l_spec_l8Wide_0
      dsimp only
      rw [decide_eq_true (by omega), cond_true, spec_has t k ht (by omega), Option.bind_some, grd_pos (by omega), getD_nat, h1, bit2 m h2, Option.bind_some, w64' (n := (k : Int) + 1) (by omega) (by omega), w64' (by omega) (by omega)]
      simp only [sm, wt, h1, Int.toNat_natCast]
      cases t.testBit k <;> simp)
    (by unfold l_spec_l8Wide_0; dsimp only; rw [decide_eq_false (by omega)]; rfl)
  simp only [Int.natCast_zero, sm] at hit
  rw [hit, (wide_tab ⟨s, hs⟩ ⟨t, ht⟩).1]
  rfl
theorem impl_wide (s t : Nat) (ht : t < 32) (y : Int) (l : List Int) (hlt : wO (mems s) t (mems s).length < l.length) : m_impl_Restrict_1 (t : Int) (mems s) y l = some (l.getD (wO (mems s) t (mems s).length) 0) := by
  unfold m_impl_Restrict_1
  have hml := mems_length s
  have hit := iter_up (step := l_impl_Restrict_1_0 (t : Int) (mems s)) (fun k => (((wO (mems s) t k : Nat) : Int), (k : Int))) (mems s).length (a := ((wO (mems s) t (mems s).length : Nat) : Int)) (fun k hk => by
      obtain ⟨m, h1, h2⟩ := mems_get s k hk
      have hb := wO_lt s t k (by omega)
      have h4 := pow_lt5 m h2
      unfold l_impl_Restrict_1_0
      dsimp only
      rw [decide_eq_true (by omega), cond_true, grd_pos (by omega), grd_pos (by omega), getD_nat, h1, grd_pos (by omega), and_eq t k ht (by omega), w64' (n := (k : Int) + 1) (by omega) (by omega)]
      simp only [wO, h1, Int.toNat_natCast]
      cases htb : t.testBit k with
      | true =>
        have e := shl_eq m (by omega)
        rw [Int.toNat_natCast] at e
        simp only [if_true]
        rw [e, or_eq _ _ hb h4]
        rfl
      | false =>
        have e : IntKind.i64.wrap ((if false = true then 1 else 0) * 2 ^ (min m 64)) = ((0 : Nat) : Int) := by
          simp only [Bool.false_eq_true, if_false, Int.zero_mul]
          decide
        rw [e, or_eq _ _ hb (by decide)]
        rfl)
    (by unfold l_impl_Restrict_1_0; dsimp only; rw [decide_eq_false (by omega)]; rfl)
  simp only [Int.natCast_zero, wO] at hit
  rw [hit, Option.bind_some]
  dsimp only
  rw [grd_pos (by omega), getD_nat]
theorem full_tab : ∀ s : Fin 32, wO (mems s.val) (2 ^ (mems s.val).length - 1) (mems s.val).length = s.val := by decide +kernel
def resG (n : Int) (l : List Int) (s a : Int) (r : List Int) : Prop := ∃ N S : Nat, n = N ∧ s = S ∧ S < 32 ∧ S < l.length ∧ validB (N : Int) l = true ∧ a = (((mems S).length : Nat) : Int) ∧ validB (((mems S).length : Nat) : Int) r = true ∧ r.getD (r.length - 1) 0 = l.getD S 0
theorem restrict_bothS (n : Int) (l : List Int) (s : Int) (hl : l.length ≤ 1048576) : ∃ a b r, (r.length ≤ 1048576 ∧ (b = true → resG n l s a r)) ∧ m_spec_Restrict n l s = some (a, b, r) ∧ m_impl_Restrict n l s = some (a, b, r) := by
  unfold m_spec_Restrict m_impl_Restrict
  rw [spec_valid n l hl, impl_valid n l hl]
  cases hv : validB n l with
  | false => exact ⟨0, false, [], ⟨by simp, nofun⟩, rfl, rfl⟩
  | true =>
    have hV := (validB_eq n l).1 hv
    obtain ⟨N, rfl, h1, h2, h3, h4⟩ := valid_nat hV
    have h32 := pow_le32 h2
    simp only [Option.bind_some, Bool.not_true, cond_false, in_eq, within_eq, w64' (n := (l.length : Int) - 1) (by omega) (by omega)]
    by_cases hs : 1 ≤ s ∧ s ≤ (l.length : Int) - 1
    · obtain ⟨S, rfl⟩ := Int.eq_ofNat_of_zero_le (show 0 ≤ s by omega)
      have hS : S < 32 := by omega
      have hm1 := mems_ne ⟨S, hS⟩ (by show S ≠ 0; omega)
      have hm5 := mems_length S
      simp only at hm1
      have hM := pow_le32 hm5
      rw [decide_eq_true hs, Bool.not_true, cond_false, cond_false, spec_members S hS, impl_members S hS, Option.bind_some, Option.bind_some, count0 _ hm5, Option.bind_some]
      let f : Nat → Int := fun t => l.getD (wO (mems S) t (mems S).length) 0
      have hw : ∀ t, t < 32 → wO (mems S) t (mems S).length < l.length := fun t ht => by
        have := (wide_tab ⟨S, hS⟩ ⟨t, ht⟩).2
        simp only at this
        omega
      have s1 := iter_up (step := l_spec_Restrict_0 l (mems S) (2 ^ (mems S).length)) (fun i => ((i : Int), tab f i)) (2 ^ (mems S).length) (a := tab f (2 ^ (mems S).length)) (fun i hi => by
          have h5 := hw i (by omega)
          unfold l_spec_Restrict_0
          dsimp only
          have hlt : (i : Int) < 2 ^ (mems S).length := by
            have : ((2 ^ (mems S).length : Nat) : Int) = 2 ^ (mems S).length := by simp
            omega
          rw [decide_eq_true hlt, cond_true, spec_wide S i hS (by omega), Option.bind_some, grd_pos (by omega), getD_nat, grd_pos (by simp only [tab_length, List.length_singleton, room]; omega), w64' (by omega) (by omega), tab_succ]
          rfl)
        (by
          unfold l_spec_Restrict_0
          dsimp only
          have hlt : ¬ (((2 ^ (mems S).length : Nat) : Int) < 2 ^ (mems S).length) := by simp
          rw [decide_eq_false hlt]
          rfl)
      have s2 := iter_up (step := l_impl_made_impl_Restrict_1_0 (mems S) (N : Int) l ((2 ^ (mems S).length : Nat) : Int)) (fun i => ((i : Int), tab f i)) (2 ^ (mems S).length) (a := tab f (2 ^ (mems S).length)) (fun i hi => by
          have h5 := hw i (by omega)
          unfold l_impl_made_impl_Restrict_1_0
          dsimp only
          rw [decide_eq_true (by omega), cond_true, impl_wide S i (by omega) _ l h5, Option.bind_some, grd_pos (by simp only [tab_length, List.length_singleton, room]; omega), w64' (by omega) (by omega), tab_succ]
          rfl)
        (by unfold l_impl_made_impl_Restrict_1_0; dsimp only; rw [decide_eq_false (by omega)]; rfl)
      have e0 : tab f 0 = [] := rfl
      simp only [Int.natCast_zero, e0] at s1 s2
      have hb : (tab f (2 ^ (mems S).length)).length ≤ 1048576 := by rw [tab_length]; omega
      have hval : validB (((mems S).length : Nat) : Int) (tab f (2 ^ (mems S).length)) = true := by
        rw [validB_eq]
        have hp : 0 < 2 ^ (mems S).length := Nat.pow_pos (by decide)
        refine ⟨by omega, by rw [tab_length]; simp, ?_, fun i hi => ?_⟩
        · rw [tab_getD f _ 0 0 hp]
          show l.getD (wO (mems S) 0 (mems S).length) 0 = 0
          rw [wO_zero]
          exact hV.2.2.1
        · rw [tab_length] at hi
          rw [tab_getD f _ 0 i hi]
          exact hV.2.2.2 _ (hw i (by omega))
      unfold m_impl_made_impl_Restrict_1
      rw [impl_count _ hm5, Option.bind_some, s1, s2]
      simp only [Option.bind_some]
      rw [impl_valid _ _ hb, hval]
      refine ⟨_, _, _, ⟨hb, fun _ => ⟨N, S, rfl, rfl, hS, by omega, hv, rfl, hval, ?_⟩⟩, rfl, rfl⟩
      have hp : 0 < 2 ^ (mems S).length := Nat.pow_pos (by decide)
      rw [tab_length, tab_getD f _ 0 _ (by omega)]
      show l.getD (wO (mems S) (2 ^ (mems S).length - 1) (mems S).length) 0 = l.getD S 0
      rw [full_tab ⟨S, hS⟩]
    · rw [decide_eq_false hs]
      exact ⟨0, false, [], ⟨by simp, nofun⟩, rfl, rfl⟩
theorem spec_val (n : Int) (l : List Int) (s : Nat) (hl : l.length ≤ 1048576) : m_spec_ValueOf n l (s : Int) = some (l.getD s 0) := by
  unfold m_spec_ValueOf
  rw [in_eq, w64' (by omega) (by omega), Option.bind_some]
  by_cases h : s < l.length
  · rw [decide_eq_true (by omega), Bool.not_true, cond_false, grd_pos (by omega), getD_nat]
  · rw [decide_eq_false (by omega), Bool.not_false, cond_true]
    simp [List.getD, List.getElem?_eq_none (show l.length ≤ s by omega)]
theorem spec_size (s : Nat) (hs : s < 32) : m_spec_SizeOf (s : Int) = some (((mems s).length : Nat) : Int) := by
  unfold m_spec_SizeOf
  have hit := iter_up (step := l_spec_SizeOf_0 (s : Int)) (fun k => ((((fil s.testBit (fun k => (k : Int)) k).length : Nat) : Int), (k : Int))) 5 (a := (((mems s).length : Nat) : Int)) (fun k hk => by
      have hb := fil_length s.testBit (fun k => (k : Int)) k
      unfold l_spec_SizeOf_0
      dsimp only
      rw [decide_eq_true (by omega), cond_true, spec_has s k hs hk, Option.bind_some, w64' (by omega) (by omega), w64' (by omega) (by omega), fil_succ]
      cases s.testBit k <;> simp)
    (by unfold l_spec_SizeOf_0; dsimp only; rw [decide_eq_false (by omega)]; rfl)
  have e0 : (fil s.testBit (fun k => (k : Int)) 0).length = 0 := rfl
  simp only [e0, Int.natCast_zero] at hit
  rw [hit]
  rfl
/-! ### draws -/
theorem iter_dec {S A : Type} {step : S → Option (S ⊕ A)} (I : Nat → S → Prop) (Post : A → Prop)
    (h : ∀ k s, I k s → (∃ a, step s = some (.inr a) ∧ Post a) ∨ ∃ s' k', k = k' + 1 ∧ step s = some (.inl s') ∧ I k' s') : ∀ k s, I k s → ∃ a, iter step s = some a ∧ Post a := by
  intro k
  induction k with
  | zero =>
    intro s hs
    rcases h 0 s hs with ⟨a, h1, h2⟩ | ⟨s', k', h1, _⟩
    · exact ⟨a, iter_done h1, h2⟩
    · omega
  | succ k ih =>
    intro s hs
    rcases h _ s hs with ⟨a, h1, h2⟩ | ⟨s', k', h1, h2, h3⟩
    · exact ⟨a, iter_done h1, h2⟩
    · obtain rfl : k' = k := by omega
      obtain ⟨a, h4, h5⟩ := ih s' h3
      exact ⟨a, by rw [iter_next h2]; exact h4, h5⟩
theorem and255 (x : Int) : 0 ≤ bitsOf .and .i64 x 255 ∧ bitsOf .and .i64 x 255 ≤ 255 := by
  have h : (BitVec.ofInt 64 x &&& BitVec.ofInt 64 255).toNat ≤ 255 := by
    rw [BitVec.toNat_and]
    exact Nat.le_trans Nat.and_le_right (by decide)
  show 0 ≤ IntKind.i64.wrap ((BitVec.ofInt 64 x &&& BitVec.ofInt 64 255).toNat : Int) ∧ IntKind.i64.wrap ((BitVec.ofInt 64 x &&& BitVec.ofInt 64 255).toNat : Int) ≤ 255
  rw [w64' (by omega) (by omega)]
  omega
theorem new_loop (c : List UInt8) (h0 : Int) : ∃ h, iter (l_spec_l1New_io2_0 c) (h0, 0) = some h := by
  obtain ⟨a, h1, _⟩ := iter_dec (step := l_spec_l1New_io2_0 c) (fun k s => s.2 + k = 4000 ∧ 0 ≤ s.2) (fun _ => True) (fun k ⟨v1, v2⟩ ⟨h1, h2⟩ => by
    simp only at h1 h2
    unfold l_spec_l1New_io2_0
    simp only
    by_cases e1 : v2 < (c.length : Int)
    · by_cases e2 : v2 < 4000
      · rw [decide_eq_true e1, decide_eq_true e2, cond_true, cond_true, grd_pos ⟨h2, e1⟩]
        exact .inr ⟨_, k - 1, by omega, rfl, by simp only; rw [w64' (by omega) (by omega)]; omega, by simp only; rw [w64' (by omega) (by omega)]; omega⟩
      · rw [decide_eq_true e1, decide_eq_false e2, cond_true, cond_false]
        exact .inl ⟨_, rfl, trivial⟩
    · rw [decide_eq_false e1, cond_false]
      exact .inl ⟨_, rfl, trivial⟩) 4000 (h0, 0) ⟨rfl, Int.le_refl 0⟩
  exact ⟨a, h1⟩
theorem new2 (a : Int) (b : List Int) (c : List UInt8) : ∃ h, m_spec_l1New_io2 a b c = some (c, 0, h, b, a) := by
  obtain ⟨h, e⟩ := new_loop c (IntKind.i64.wrap ((26583 : Int) + (c.length : Int)))
  exact ⟨h, by unfold m_spec_l1New_io2; rw [e]; rfl⟩
theorem byte_ok (c : List UInt8) (i h : Int) (hc : c.length ≤ 1048576) (hi : 0 ≤ i) : ∃ x i' h', m_spec_l1Byte_io1 c i h = some (x, i', h') ∧ (0 ≤ x ∧ x ≤ 255) ∧ 0 ≤ i' := by
  unfold m_spec_l1Byte_io1
  rw [grd_pos (by decide), grd_pos (by decide), Option.bind_some]
  by_cases hlt : i < (c.length : Int)
  · rw [decide_eq_true hlt, cond_true, grd_pos ⟨hi, hlt⟩]
    exact ⟨_, _, _, rfl, and255 _, by rw [w64' (by omega) (by omega)]; omega⟩
  · rw [decide_eq_false hlt, cond_false]
    exact ⟨_, _, _, rfl, and255 _, hi⟩
theorem below_ok (c : List UInt8) (i h n : Int) (hc : c.length ≤ 1048576) (hi : 0 ≤ i) (hn : n ≤ 256) : ∃ x i' h', m_spec_l1Below_io1 c i h n = some (x, i', h') ∧ (0 ≤ x ∧ (x < n ∨ x = 0)) ∧ 0 ≤ i' := by
  unfold m_spec_l1Below_io1
  by_cases h0 : n ≤ 0
  · rw [decide_eq_true h0, cond_true]
    exact ⟨_, _, _, rfl, ⟨Int.le_refl 0, .inr rfl⟩, hi⟩
  · rw [decide_eq_false h0, cond_false, decide_eq_true hn, cond_true]
    obtain ⟨x, i', h', e, hx, hi'⟩ := byte_ok c i h hc hi
    rw [e, Option.bind_some]
    dsimp only
    rw [grd_pos (by omega)]
    exact ⟨_, _, _, rfl, ⟨Int.tmod_nonneg _ hx.1, .inl (Int.tmod_lt_of_pos _ (by omega))⟩, hi'⟩
theorem pick_ok (c : List UInt8) (i h : Int) (l : List Int) (hc : c.length ≤ 1048576) (hi : 0 ≤ i) (h1 : 1 ≤ l.length) (h2 : l.length ≤ 256) : ∃ x i' h', m_spec_l1PickInt_io1 c i h l = some (x, i', h') ∧ x ∈ l ∧ 0 ≤ i' := by
  unfold m_spec_l1PickInt_io1
  obtain ⟨x, i', h', e, hx, hi'⟩ := below_ok c i h l.length hc hi (by omega)
  rw [e, Option.bind_some]
  dsimp only
  have hlt : x < (l.length : Int) := by omega
  rw [grd_pos ⟨hx.1, hlt⟩]
  refine ⟨_, _, _, rfl, ?_, hi'⟩
  have : x.toNat < l.length := by omega
  rw [List.getD_eq_getElem?_getD, List.getElem?_eq_getElem this, Option.getD_some]
  exact List.getElem_mem this
/-- the loops of l8Draw and l8Mate keep the length -/
def I8 (N : Nat) (k : Nat) (s : Int × List Int × Int × Int) : Prop := s.1 + k = N ∧ 1 ≤ s.1 ∧ s.2.1.length = N ∧ 0 ≤ s.2.2.1
def P8 (N : Nat) (a : List Int × Int × Int) : Prop := a.1.length = N ∧ 0 ≤ a.2.1
theorem bit_tot (b : Bool) : ∃ x, m_spec_l1Bit b = some x := by cases b <;> exact ⟨_, rfl⟩
theorem max_tot (a b : Int) : ∃ x, m_spec_l1Max a b = some x := by
  unfold m_spec_l1Max
  by_cases h : a > b
  · rw [decide_eq_true h]; exact ⟨_, rfl⟩
  · rw [decide_eq_false h]; exact ⟨_, rfl⟩
theorem draw8_step (c : List UInt8) (hc : c.length ≤ 1048576) (v1 v5 : Int) (N : Nat) (hN : N ≤ 32) (k : Nat) (s : Int × List Int × Int × Int) (hs : I8 N k s) :
    (∃ a, l_spec_l8Draw_io1_0 c v1 v5 s = some (.inr a) ∧ P8 N a) ∨ ∃ s' k', k = k' + 1 ∧ l_spec_l8Draw_io1_0 c v1 v5 s = some (.inl s') ∧ I8 N k' s' := by
  obtain ⟨s0, l, i, h⟩ := s
  obtain ⟨g1, g2, g3, g4⟩ := hs
  simp only at g1 g2 g3 g4
  unfold l_spec_l8Draw_io1_0
  simp only
  by_cases e1 : s0 < (l.length : Int)
  · rw [decide_eq_true e1, cond_true]
    obtain ⟨S, rfl⟩ : ∃ S : Nat, s0 = (S : Int) := ⟨s0.toNat, by omega⟩
    have hS : S < 32 := by omega
    have hw : IntKind.i64.wrap ((S : Int) + 1) = (S : Int) + 1 := w64' (by omega) (by omega)
    rw [spec_size S hS, hw]
    refine .inr ?_
    have fin : ∀ (x i' h' : Int), 0 ≤ i' → ∃ s' k', k = k' + 1 ∧ (some (.inl ((S : Int) + 1, l.set (S : Int).toNat x, i', h')) : Option ((Int × List Int × Int × Int) ⊕ (List Int × Int × Int))) = some (.inl s') ∧ I8 N k' s' :=
      fun x i' h' hi' => ⟨_, k - 1, by omega, rfl, by simp only; omega, by simp only; omega, by simp only; rw [List.length_set]; exact g3, hi'⟩
    obtain ⟨x1, i1, h1, b1, _, b3⟩ := below_ok c i h 2 hc g4 (by decide)
    obtain ⟨x2, i2, h2, b4, _, b6⟩ := pick_ok c i h [(0 : Int), (1 : Int), (2 : Int), (3 : Int), (5 : Int), (8 : Int), (-2 : Int), (4 : Int)] hc g4 (by decide) (by decide)
    simp only [b1, b4, Option.bind_some]
    have hg : (0 : Int) ≤ (S : Int) ∧ (S : Int) < (l.length : Int) := ⟨by omega, e1⟩
    cases hv0 : (v5 == (0 : Int)) with
    | true =>
      simp only [cond_true, grd_pos hg]
      exact fin _ _ _ b3
    | false =>
      cases hv1 : (v5 == (1 : Int)) with
      | true =>
        simp only [cond_true, cond_false, grd_pos hg]
        exact fin _ _ _ b6
      | false =>
        cases hv2 : (v5 == (2 : Int)) with
        | true =>
          obtain ⟨y, hy⟩ := max_tot (0 : Int) (IntKind.i64.wrap ((IntKind.i64.wrap ((IntKind.i64.wrap ((3 : Int) * (((mems S).length : Nat) : Int))) - (2 : Int))) - x1))
          simp only [cond_true, cond_false, hy, Option.bind_some, grd_pos hg]
          exact fin _ _ _ b3
        | false =>
          obtain ⟨y, hy⟩ := bit_tot (decide ((IntKind.i64.wrap ((((mems S).length : Nat) : Int) * (2 : Int))) > (IntKind.i64.wrap ((1 : Int) + v1))))
          simp only [cond_false, hy, Option.bind_some, grd_pos hg]
          exact fin _ _ _ b3
  · rw [decide_eq_false e1, cond_false]
    exact .inl ⟨_, rfl, g3, g4⟩
theorem draw8_ok (c : List UInt8) (i h : Int) (hc : c.length ≤ 1048576) (hi : 0 ≤ i) : ∃ n l i' h', m_spec_l8Draw_io1 c i h 4 = some (n, l, i', h') ∧ (1 ≤ n ∧ n ≤ 4) ∧ (2 ≤ l.length ∧ l.length ≤ 16) ∧ 0 ≤ i' := by
  unfold m_spec_l8Draw_io1
  obtain ⟨x, i1, h1, b1, b2, b3⟩ := below_ok c i h 4 hc hi (by decide)
  rw [b1, Option.bind_some]
  dsimp only
  obtain ⟨n, hn⟩ : ∃ n : Nat, (1 : Int) + x = (n : Int) := ⟨((1 : Int) + x).toNat, by omega⟩
  rw [w64' (by omega) (by omega), hn, count0 n (by omega), Option.bind_some]
  have hp : (2 : Nat) ≤ 2 ^ n ∧ 2 ^ n ≤ 16 := by
    have : n = 1 ∨ n = 2 ∨ n = 3 ∨ n = 4 := by omega
    rcases this with rfl | rfl | rfl | rfl <;> decide
  have hc2 : ((2 : Int) ^ n) = ((2 ^ n : Nat) : Int) := by push_cast; rfl
  rw [hc2, grd_pos ⟨by omega, rfl, by unfold room; omega⟩]
  obtain ⟨y, i2, h2, c1, c2, c3⟩ := below_ok c i1 h1 4 hc b3 (by decide)
  rw [c1, Option.bind_some]
  dsimp only
  rw [Int.toNat_natCast]
  obtain ⟨⟨l, i3, h3⟩, d1, d2, d3⟩ := iter_dec (I8 (2 ^ n)) (P8 (2 ^ n)) (fun k s hs => draw8_step c hc x y (2 ^ n) (by omega) k s hs) (2 ^ n - 1) (1, List.replicate (2 ^ n) 0, i2, h2)
    ⟨by simp only; omega, Int.le_refl 1, by simp, c3⟩
  rw [d1, Option.bind_some]
  replace d2 : l.length = 2 ^ n := d2
  replace d3 : 0 ≤ i3 := d3
  exact ⟨_, l, i3, h3, rfl, by omega, by omega, d3⟩
theorem bent_ok (c : List UInt8) (i h : Int) (hc : c.length ≤ 1048576) (hi : 0 ≤ i) : ∃ n l i' h', m_spec_l8Bent_io1 c i h = some (n, l, i', h') ∧ (-1 ≤ n ∧ n ≤ 6) ∧ (2 ≤ l.length ∧ l.length ≤ 17) ∧ 0 ≤ i' := by
  unfold m_spec_l8Bent_io1
  obtain ⟨n, l, i1, h1, b1, b2, b3, b4⟩ := draw8_ok c i h hc hi
  rw [b1, Option.bind_some]
  dsimp only
  obtain ⟨x, i2, h2, c1, c2, c3⟩ := below_ok c i1 h1 12 hc b4 (by decide)
  rw [c1, Option.bind_some]
  dsimp only
  obtain ⟨x2, i3, h3, d1, d2, d3⟩ := pick_ok c i2 h2 [(0 : Int), (6 : Int), (2 : Int), (-1 : Int)] hc c3 (by decide) (by decide)
  obtain ⟨x4, i4, h4, e1, _, e3⟩ := pick_ok c i2 h2 [(500 : Int), (501 : Int), (-501 : Int)] hc c3 (by decide) (by decide)
  have hd2 : -1 ≤ x2 ∧ x2 ≤ 6 := by
    simp only [List.mem_cons, List.not_mem_nil, or_false] at d2
    omega
  have hw : IntKind.i64.wrap ((l.length : Int) - 1) = (l.length : Int) - 1 := w64' (by omega) (by omega)
  simp only [d1, e1, Option.bind_some, hw]
  cases hv0 : (x == (0 : Int)) with
  | true =>
    simp only [cond_true]
    rw [grd_pos ⟨Int.le_refl 0, by omega⟩]
    exact ⟨_, _, _, _, rfl, by omega, by rw [List.length_set]; omega, c3⟩
  | false =>
    cases hv1 : (x == (1 : Int)) with
    | true =>
      simp only [cond_true, cond_false]
      exact ⟨_, _, _, _, rfl, hd2, by omega, d3⟩
    | false =>
      cases hv2 : (x == (2 : Int)) with
      | true =>
        simp only [cond_true, cond_false]
        rw [grd_pos (by show l.length + 1 ≤ room; unfold room; omega)]
        exact ⟨_, _, _, _, rfl, by omega, by simp only [List.length_append, List.length_cons, List.length_nil]; omega, c3⟩
      | false =>
        cases hv3 : (x == (3 : Int)) with
        | true =>
          simp only [cond_true, cond_false]
          rw [grd_pos ⟨by omega, by omega⟩]
          exact ⟨_, _, _, _, rfl, by omega, by rw [List.length_set]; omega, e3⟩
        | false =>
          simp only [cond_false]
          exact ⟨_, _, _, _, rfl, by omega, by omega, c3⟩
/-! ### FnProperties -/
/-! ### FnGames -/
theorem slices_self (l : List Int) (hl : l.length ≤ 1048576) : m_slices_Equal_int_int l l = some true := by
  unfold m_slices_Equal_int_int
  have hit := iter_up (step := l_slices_Equal_int_int_0 l l) (fun i => (i : Int)) l.length (a := .inl ()) (fun i hi => by
      unfold l_slices_Equal_int_int_0
      rw [decide_eq_true (by omega), cond_true, grd_pos (by omega), grd_pos (by omega), bne_self_eq_false, cond_false, w64' (by omega) (by omega)]
      rfl)
    (by unfold l_slices_Equal_int_int_0; rw [decide_eq_false (by omega)]; rfl)
  simp only [Int.natCast_zero] at hit
  rw [bne_self_eq_false, cond_false, hit]
  rfl
theorem eqgame_self (n : Int) (l : List Int) (hl : l.length ≤ 1048576) : m_impl_EqualGame n l n l = some true := by
  unfold m_impl_EqualGame
  rw [beq_self_eq_true, cond_true, slices_self l hl]
  rfl
theorem new4 (a : Int) (b : List Int) (a' : Int) (b' : List Int) (c : List UInt8) : ∃ h, m_spec_l1New_io4 a b a' b' c = some (c, 0, h, b, b', a, a') := by
  obtain ⟨h, e⟩ := new_loop c (IntKind.i64.wrap ((26583 : Int) + (c.length : Int)))
  have e0 : l_spec_l1New_io4_0 c = l_spec_l1New_io2_0 c := rfl
  exact ⟨h, by unfold m_spec_l1New_io4; rw [e0, e]; rfl⟩
theorem once_ok (c : List UInt8) (i h n : Int) (hc : c.length ≤ 1048576) (hi : 0 ≤ i) (hn : n ≤ 256) : ∃ x i' h', m_spec_l1Once_io1 c i h n = some (x, i', h') ∧ 0 ≤ i' := by
  unfold m_spec_l1Once_io1
  obtain ⟨x, i', h', e, _, hi'⟩ := below_ok c i h n hc hi hn
  rw [e, Option.bind_some]
  exact ⟨_, _, _, rfl, hi'⟩
theorem mate_ok (c : List UInt8) (i h n : Int) (l : List Int) (hc : c.length ≤ 1048576) (hi : 0 ≤ i) (h1 : 1 ≤ l.length) (hl : l.length ≤ 32) : ∃ l' i' h', m_spec_l8Mate_io1 c i h n l = some (n, l', i', h') ∧ l'.length = l.length ∧ 0 ≤ i' := by
  unfold m_spec_l8Mate_io1 m_spec_l8Copy
  rw [grd_pos (by show 0 + l.length ≤ room; unfold room; omega), Option.bind_some]
  dsimp only
  rw [List.nil_append]
  obtain ⟨⟨l', i', h'⟩, d1, d2, d3⟩ := iter_dec (step := l_spec_l8Mate_io1_0 c) (I8 l.length) (P8 l.length) (fun k s hs => by
      obtain ⟨s0, x, i, h⟩ := s
      obtain ⟨g1, g2, g3, g4⟩ := hs
      simp only at g1 g2 g3 g4
      unfold l_spec_l8Mate_io1_0
      simp only
      by_cases e1 : s0 < (x.length : Int)
      · rw [decide_eq_true e1, cond_true]
        obtain ⟨y, i2, h2, b4, _, b6⟩ := pick_ok c i h [(0 : Int), (1 : Int), (4 : Int), (-3 : Int), (7 : Int)] hc g4 (by decide) (by decide)
        rw [b4, Option.bind_some]
        dsimp only
        rw [grd_pos ⟨by omega, e1⟩, w64' (by omega) (by omega)]
        exact .inr ⟨_, k - 1, by omega, rfl, by simp only; omega, by simp only; omega, by simp only; rw [List.length_set]; exact g3, b6⟩
      · rw [decide_eq_false e1, cond_false]
        exact .inl ⟨_, rfl, g3, g4⟩) (l.length - 1) (1, l, i, h) ⟨by simp only; omega, Int.le_refl 1, rfl, hi⟩
  rw [d1, Option.bind_some]
  exact ⟨l', i', h', rfl, d2, d3⟩
theorem draw_add (c : List UInt8) (hc : c.length ≤ 1048576) : ∃ n m l k, m_spec_DrawAddGames c = some (n, m, l, k) ∧ (-1 ≤ n ∧ n ≤ 6) ∧ l.length ≤ 17 ∧ k.length ≤ 17 := by
  unfold m_spec_DrawAddGames
  obtain ⟨h, e⟩ := new4 0 [] 0 [] c
  rw [e, Option.bind_some]
  dsimp only
  obtain ⟨n, l, i1, h1, b1, b2, b3, b4⟩ := bent_ok c 0 h hc (Int.le_refl 0)
  rw [b1, Option.bind_some]
  dsimp only
  obtain ⟨x, i2, h2, c1, c2⟩ := once_ok c i1 h1 10 hc b4 (by decide)
  rw [c1, Option.bind_some]
  dsimp only
  cases x with
  | true =>
    obtain ⟨m, k, i3, h3, d1, d2, d3, d4⟩ := bent_ok c i2 h2 hc c2
    rw [d1, cond_true, Option.bind_some]
    exact ⟨_, _, _, _, rfl, b2, b3.2, d3.2⟩
  | false =>
    obtain ⟨k, i3, h3, d1, d2, d3⟩ := mate_ok c i2 h2 n l hc c2 (by omega) (by omega)
    rw [d1, cond_false, Option.bind_some]
    exact ⟨n, n, l, k, rfl, b2, b3.2, by omega⟩
theorem min_ok (a b : Int) : ∃ x, m_spec_l1Min a b = some x ∧ (x = a ∨ x = b) ∧ x ≤ a ∧ x ≤ b := by
  unfold m_spec_l1Min
  by_cases h : a < b
  · rw [decide_eq_true h]; exact ⟨_, rfl, .inl rfl, by omega, by omega⟩
  · rw [decide_eq_false h]; exact ⟨_, rfl, .inr rfl, by omega, by omega⟩
theorem max_ok (a b : Int) : ∃ x, m_spec_l1Max a b = some x ∧ (x = a ∨ x = b) ∧ a ≤ x ∧ b ≤ x := by
  unfold m_spec_l1Max
  by_cases h : a > b
  · rw [decide_eq_true h]; exact ⟨_, rfl, .inl rfl, by omega, by omega⟩
  · rw [decide_eq_false h]; exact ⟨_, rfl, .inr rfl, by omega, by omega⟩
theorem draw_scale (c : List UInt8) (hc : c.length ≤ 1048576) : ∃ n k l x, m_spec_DrawScaleGame c = some (n, k, l, x) ∧ l.length ≤ 17 ∧ x.length ≤ 7 := by
  unfold m_spec_DrawScaleGame
  obtain ⟨h, e⟩ := new2 0 [] c
  rw [e, Option.bind_some]
  dsimp only
  obtain ⟨n, l, i1, h1, b1, b2, b3, b4⟩ := bent_ok c 0 h hc (Int.le_refl 0)
  rw [b1, Option.bind_some]
  dsimp only
  obtain ⟨p, p1, p2, p3, p4⟩ := max_ok n 0
  obtain ⟨q, q1, q2, q3, q4⟩ := min_ok p 6
  rw [p1, Option.bind_some, q1, Option.bind_some]
  obtain ⟨r, i2, h2, c1, c2, c3⟩ := pick_ok c i1 h1 [(0 : Int), (0 : Int), (0 : Int), (0 : Int), (1 : Int)] hc b4 (by decide) (by decide)
  have hr : 0 ≤ r ∧ r ≤ 1 := by
    simp only [List.mem_cons, List.not_mem_nil, or_false] at c2
    omega
  rw [c1, Option.bind_some]
  dsimp only
  have hw : IntKind.i64.wrap (q + r) = q + r := w64' (by omega) (by omega)
  obtain ⟨⟨x, i3, h3⟩, d1, d2, d3⟩ := iter_dec (step := l_spec_DrawScaleGame_0 c q r) (fun k s => s.1 + k = q + r ∧ 0 ≤ s.1 ∧ (s.2.1.length : Int) = s.1 ∧ 0 ≤ s.2.2.1) (fun a => (a.1.length : Int) ≤ 7 ∧ 0 ≤ a.2.1) (fun k s hs => by
      obtain ⟨s0, x, i, h⟩ := s
      obtain ⟨g1, g2, g3, g4⟩ := hs
      simp only at g1 g2 g3 g4
      unfold l_spec_DrawScaleGame_0
      simp only [hw]
      by_cases e1 : s0 < q + r
      · rw [decide_eq_true e1, cond_true]
        obtain ⟨y, i2, h2, b4, _, b6⟩ := pick_ok c i h [(0 : Int), (2 : Int), (-5 : Int), (100 : Int)] hc g4 (by decide) (by decide)
        rw [b4, Option.bind_some]
        dsimp only
        rw [grd_pos (by simp only [List.length_singleton, room]; omega), w64' (by omega) (by omega)]
        exact .inr ⟨_, k - 1, by omega, rfl, by simp only; omega, by simp only; omega, by simp only [List.length_append, List.length_singleton]; omega, b6⟩
      · rw [decide_eq_false e1, cond_false]
        exact .inl ⟨_, rfl, by simp only; omega, g4⟩) (q + r).toNat (0, [], i2, h2) ⟨by simp only; omega, Int.le_refl 0, rfl, c3⟩
  rw [d1, Option.bind_some]
  dsimp only
  obtain ⟨y, i4, h4, f1, _, _⟩ := pick_ok c i3 h3 [(1 : Int), (2 : Int), (0 : Int), (-3 : Int), (501 : Int), (100 : Int)] hc d3 (by decide) (by decide)
  rw [f1, Option.bind_some]
  replace d2 : (x.length : Int) ≤ 7 := d2
  exact ⟨_, _, _, x, rfl, b3.2, by omega⟩
theorem draw_restrict (c : List UInt8) (hc : c.length ≤ 1048576) : ∃ n s l, m_spec_DrawRestrict c = some (n, s, l) ∧ l.length ≤ 17 := by
  unfold m_spec_DrawRestrict m_spec_DrawValueOf
  obtain ⟨h, e⟩ := new2 0 [] c
  rw [e, Option.bind_some]
  dsimp only
  obtain ⟨n, l, i1, h1, b1, b2, b3, b4⟩ := bent_ok c 0 h hc (Int.le_refl 0)
  rw [b1, Option.bind_some]
  dsimp only
  obtain ⟨x, i2, h2, c1, _, _⟩ := below_ok c i1 h1 (IntKind.i64.wrap ((l.length : Int) + (2 : Int))) hc b4 (by rw [w64' (by omega) (by omega)]; omega)
  rw [c1, Option.bind_some, Option.bind_some]
  exact ⟨_, _, _, rfl, b3.2⟩
theorem impl_size (s : Nat) (hs : s < 32) : m_impl_SizeOf (s : Int) = some (((mems s).length : Nat) : Int) := by
  unfold m_impl_SizeOf
  have hit := iter_up (step := l_impl_SizeOf_0 (s : Int)) (fun k => ((((fil s.testBit (fun k => (k : Int)) k).length : Nat) : Int), (k : Int))) 5 (a := (((mems s).length : Nat) : Int)) (fun k hk => by
      have hb := fil_length s.testBit (fun k => (k : Int)) k
      unfold l_impl_SizeOf_0
      dsimp only
      rw [decide_eq_true (by omega), cond_true, impl_has s k hs hk, Option.bind_some, w64' (by omega) (by omega), w64' (by omega) (by omega), fil_succ]
      cases s.testBit k <;> simp)
    (by unfold l_impl_SizeOf_0; dsimp only; rw [decide_eq_false (by omega)]; rfl)
  have e0 : (fil s.testBit (fun k => (k : Int)) 0).length = 0 := rfl
  simp only [e0, Int.natCast_zero] at hit
  rw [hit]
  rfl
theorem impl_grand (N : Nat) (l : List Int) (hv : validB (N : Int) l = true) : m_impl_GrandValue (N : Int) l = some (l.getD (l.length - 1) 0) := by
  obtain ⟨M, hM, h1, h2, h3, h4⟩ := valid_nat ((validB_eq _ l).1 hv)
  have hp : 1 ≤ l.length := by rw [h3]; exact Nat.pow_pos (by decide)
  have e : (IntKind.i64.wrap ((l.length : Int) - 1)).toNat = l.length - 1 := by
    rw [w64' (by omega) (by omega)]
    omega
  unfold m_impl_GrandValue
  rw [impl_valid _ l (by omega), hv, Option.bind_some, Bool.not_true, cond_false, grd_pos (by rw [w64' (by omega) (by omega)]; omega), e]
theorem law_FnGames (c : List UInt8) (_ : c.length ≤ maxLen) : m_laws_FnGames c = some true := by
  unfold m_laws_FnGames m_laws_big
  by_cases hb : (c.length : Int) > 1048576
  · rw [decide_eq_true hb]; rfl
  have hc : c.length ≤ 1048576 := by omega
  obtain ⟨n, m, l, k, e1, en, el, ek⟩ := draw_add c hc
  obtain ⟨n2, k2, l2, x2, e2, el2, ex2⟩ := draw_scale c hc
  obtain ⟨n3, s3, l3, e3, el3⟩ := draw_restrict c hc
  have hl3 : l3.length ≤ 1048576 := by omega
  obtain ⟨x, b, r, ⟨hr, hG⟩, a1, a2⟩ := add_bothS n l m k ⟨by omega, by omega⟩ (by omega) (by omega)
  obtain ⟨y, d, q, hq, b1, b2⟩ := scale_both n2 l2 k2 x2 (by omega) (by omega)
  obtain ⟨z, f, p, ⟨hp, hH⟩, c1, c2⟩ := restrict_bothS n3 l3 s3 hl3
  obtain ⟨v, hv⟩ := spec_valueOf n3 l3 s3 hl3
  have hv' : m_impl_ValueOf n3 l3 s3 = some v := by rw [← hv]; rfl
  have hA : b = true → ∃ u w, m_impl_GrandValue x r = some (IntKind.i64.wrap (u + w)) ∧ m_impl_GrandValue n l = some u ∧ m_impl_GrandValue m k = some w := by
    intro h
    obtain ⟨N, rfl, rfl, rfl, g1, g2, g3, g4, g5, g6, g7⟩ := hG h
    refine ⟨_, _, ?_, impl_grand N l g1, impl_grand N k g2⟩
    rw [impl_grand N r g3, g4, g5, g7]
  have hB : f = true → m_impl_GrandValue z p = some v ∧ m_impl_SizeOf s3 = some z := by
    intro h
    obtain ⟨N, S, rfl, rfl, g0, g1, g2, rfl, g3, g4⟩ := hH h
    have h1 : v = l3.getD S 0 := by
      rw [spec_val _ l3 S hl3] at hv
      exact (Option.some.inj hv).symm
    exact ⟨by rw [impl_grand _ p g3, g4, h1], impl_size S g0⟩
  simp only [decide_eq_false hb, Option.bind_some, cond_false, e1, e2, e3, a1, a2, b1, b2, c1, c2, bne_self_eq_false, eqgame_self x r hr, eqgame_self y q hq, eqgame_self z p hp, Bool.not_true, impl_valid n3 l3 hl3, spec_valid n3 l3 hl3, hv, hv', beq_self_eq_true, cond_true]
  cases b with
  | false =>
    cases f with
    | false => simp only [cond_false]
    | true =>
      obtain ⟨h1, h2⟩ := hB rfl
      simp only [cond_false, cond_true, h1, h2, Option.bind_some, bne_self_eq_false]
  | true =>
    obtain ⟨u, w, h3, h4, h5⟩ := hA rfl
    cases f with
    | false => simp only [cond_true, cond_false, h3, h4, h5, Option.bind_some, bne_self_eq_false]
    | true =>
      obtain ⟨h1, h2⟩ := hB rfl
      simp only [cond_true, cond_false, h1, h2, h3, h4, h5, Option.bind_some, bne_self_eq_false]
end Go.Proofs.Ytmlfjoppaciknaa
