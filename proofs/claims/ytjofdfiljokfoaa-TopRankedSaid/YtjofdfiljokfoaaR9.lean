/- What functions that the law reaches compute: one step of the proof of the law's statement; each theorem states its own conditions. -/
import Derived.Test.YtjofdfiljokfoaaR8
import Derived.Test.YtjofdfiljokfoaaTLC
namespace Go.Proofs.Ytjofdfiljokfoaa.R
open Go Go.RowKit Go.Proofs.Ytjofdfiljokfoaa.TL
set_option linter.unusedVariables false
set_option linter.unusedSimpArgs false

/-! ### The same, counted in another way -/
theorem nats_filter (L : List Nat) (s : Nat) : ((nats L).filter fun x => !decide (x = (s : Int))) = nats (L.filter fun t => !decide (t = s)) := by
  rw [nats, nats, List.filter_map]
  congr 1
  apply List.filter_congr
  intro t _
  simp
  omega
def rkStep (f : Nat → Nat) (p : Int × Int) (s : Nat) : Int × Int := if (f s : Int) ≤ p.2 then ((s : Int), (f s : Int)) else p
theorem rk_same (f : Nat → Nat) : ∀ (L : List Nat) (w : Nat), L.foldl (rkStep f) ((w : Int), (f w : Int)) = (L.foldl (stepMin f) (w : Int), (f (L.foldl (stepMin f) (w : Int)).toNat : Int))
  | [], w => by simp
  | s :: L, w => by
    rw [List.foldl_cons, List.foldl_cons, rkStep, stepMin]
    simp only [Int.toNat_natCast]
    by_cases h : f s ≤ f w
    · rw [if_pos (by omega), if_pos (.inr h)]; exact rk_same f L s
    · rw [if_neg (by omega), if_neg (by omega)]; exact rk_same f L w
theorem rk_last (f : Nat → Nat) (m : Nat) {L : List Nat} (hne : L ≠ []) (hm : ∀ s ∈ L, f s ≤ m) : L.foldl (rkStep f) (0, (m : Int) + 1) = (lastMin f L, (f (lastMin f L).toNat : Int)) := by
  match L, hne with
  | s :: L, _ =>
    have := hm s (by simp)
    rw [List.foldl_cons, rkStep, if_pos (by simp only; omega), rk_same, lastMin, List.foldl_cons, stepMin, if_pos (.inl (by omega))]
theorem rk_bounds (f : Nat → Nat) (m : Nat) : ∀ (L : List Nat) (p : Int × Int), (∀ s ∈ L, s < 1000 ∧ f s ≤ m) → 0 ≤ p.1 ∧ p.1 < 1000 ∧ 0 ≤ p.2 ∧ p.2 ≤ (m : Int) + 1 → 0 ≤ (L.foldl (rkStep f) p).1 ∧ (L.foldl (rkStep f) p).1 < 1000 ∧ 0 ≤ (L.foldl (rkStep f) p).2 ∧ (L.foldl (rkStep f) p).2 ≤ (m : Int) + 1
  | [], p, _, h => h
  | s :: L, p, hs, h => by
    rw [List.foldl_cons]
    refine rk_bounds f m L _ (fun x hx => hs x (by simp [hx])) ?_
    have := hs s (by simp)
    rw [rkStep]
    split
    · simp only; omega
    · exact h
theorem left_mem {songs : Nat} {o : List Nat} {t : Int} (h0 : 0 ≤ t) (h1 : t < songs) : decide (0 ≤ idxFrom t (nats (leftOf songs o)) 0) = !decide (t.toNat ∈ o) := by
  rw [idx_mem _ _ _ (by omega)]
  have : t ∈ nats (leftOf songs o) ↔ ¬ t.toNat ∈ o := by
    simp only [nats, leftOf, List.mem_map, List.mem_filter, List.mem_range, Bool.not_eq_true', decide_eq_false_iff_not]
    constructor
    · rintro ⟨x, ⟨_, hx⟩, rfl⟩; simpa using hx
    · intro h; exact ⟨t.toNat, ⟨by omega, h⟩, by omega⟩
  by_cases h : t.toNat ∈ o <;> simp [this, h]
def firstI (o : List Nat) (r : List Int) : Int := (firstOf o r).getD (-1)
theorem firstI_snoc (o : List Nat) (r : List Int) (t : Int) (hr : ∀ x ∈ r, 0 ≤ x) : firstI o (r ++ [t]) = if firstI o r < 0 ∧ ¬ t.toNat ∈ o then t else firstI o r := by
  rw [firstI, firstI, firstOf, firstOf, List.find?_append]
  cases h : r.find? fun t => !decide (t.toNat ∈ o) with
  | some x =>
    have := hr x (List.mem_of_find?_eq_some h)
    simp; omega
  | none =>
    by_cases ht : t.toNat ∈ o <;> simp [ht]
theorem firstI_eq (o : List Nat) (r : List Int) (s : Nat) : (firstI o r = (s : Int)) ↔ firstOf o r = some (s : Int) := by
  rw [firstI]
  cases firstOf o r with
  | none => simp <;> omega
  | some x => simp
theorem idxB_first (p : Nat → Bool) : ∀ (n s w : Nat) (r : List Nat), ((List.range' s n).filter fun t => !p t) = w :: r → idxB false ((List.range' s n).map p) s = (w : Int)
  | 0, s, w, r, h => by simp at h
  | n + 1, s, w, r, h => by
    rw [List.range'_succ] at h ⊢
    rw [List.map_cons, idxB]
    cases hp : p s with
    | false =>
      rw [List.filter_cons, hp] at h
      simp only [Bool.not_false, if_true, List.cons.injEq] at h
      rw [if_pos rfl, h.1]
    | true =>
      rw [List.filter_cons, hp] at h
      simp only [Bool.not_true, Bool.false_eq_true, if_false] at h
      rw [if_neg (by simp)]
      have := idxB_first p n (s + 1) w r h
      simpa using this
theorem winner_left (songs : Nat) (l : List (List Int)) (h1 : 1 ≤ songs) (h8 : songs ≤ 8) : nats (leftOf songs (elim songs l (songs - 1))) = [winner songs l] := by
  obtain ⟨e1, e2, e3⟩ := elim_left songs l (songs - 1) (by omega)
  obtain ⟨w, hw⟩ := List.length_eq_one_iff.1 (show (leftOf songs (elim songs l (songs - 1))).length = 1 by omega)
  have : winner songs l = (w : Int) := by
    rw [winner, gl, ← List.map_take, List.take_range, Nat.min_eq_left h8, List.range_eq_range']
    rw [leftOf, List.range_eq_range'] at hw
    have := idxB_first (fun t => decide (t ∈ elim songs l (songs - 1))) songs 0 w [] hw
    simpa using this
  rw [hw, this]
  rfl
theorem idx_take_mem (x y : Int) : ∀ (r : List Int) (k : Int), 0 ≤ k → x ≠ y → 0 ≤ idxFrom x r k → (¬ y ∈ r.take (idxFrom x r k - k).toNat ↔ (idxFrom y r k < 0 ∨ idxFrom x r k < idxFrom y r k))
  | [], k, _, _, h => by simp [idxFrom] at h
  | z :: r, k, hk, hxy, h => by
    by_cases hx : x = z
    · subst hx
      have hy : ¬ y = x := fun e => hxy e.symm
      simp only [idxFrom, if_true, if_neg hy, Int.sub_self, Int.toNat_zero, List.take_zero, List.not_mem_nil, not_false_eq_true, true_iff]
      rcases idx_lt y r (k + 1) with h | h <;> omega
    · rw [idxFrom, if_neg hx] at h ⊢
      have hge : k + 1 ≤ idxFrom x r (k + 1) := by rcases idx_lt x r (k + 1) with h' | h' <;> omega
      rw [show (idxFrom x r (k + 1) - k).toNat = (idxFrom x r (k + 1) - (k + 1)).toNat + 1 by omega, List.take_succ_cons]
      by_cases hy : y = z
      · subst hy
        simp only [idxFrom, if_true, List.mem_cons, true_or, not_true_eq_false, false_iff]
        omega
      · have := idx_take_mem x y r (k + 1) (by omega) hxy h
        simp only [idxFrom, if_neg hy, List.mem_cons, hy, false_or]
        exact this
theorem hit_eq (r : List Int) (a b : Nat) : hit r a b = (!decide ((a : Int) = (b : Int)) && (decide (0 ≤ idxFrom a r 0) && (decide (idxFrom b r 0 < 0) || decide (idxFrom a r 0 < idxFrom b r 0)))) := by
  rw [hit]
  by_cases hx : 0 ≤ idxFrom a r 0
  · by_cases hab : (b : Int) = (a : Int)
    · simp [hab]
    · have := idx_take_mem a b r 0 (by omega) (fun e => hab e.symm) hx
      rw [Int.sub_zero] at this
      rw [idx_mem (b : Int) (r.take (idxFrom a r 0).toNat) 0 (by omega)]
      by_cases hm : (b : Int) ∈ r.take (idxFrom a r 0).toNat
      · have hn : ¬ (idxFrom b r 0 < 0 ∨ idxFrom a r 0 < idxFrom b r 0) := fun h => this.2 h hm
        simp only [not_or] at hn
        simp [hm, hn.1, hn.2]
      · have hn := this.1 hm
        have hab' : ¬ (a : Int) = (b : Int) := fun e => hab e.symm
        rcases hn with hn | hn <;> simp [hm, hn, hx, hab, hab']
  · simp [hx]
theorem wins_once {songs : Nat} {over : List (List Int)} {a c : Nat} (ha : a < songs) (hc : c < songs) (h1 : wins songs over a = true) (h2 : wins songs over c = true) : a = c := by
  simp only [wins, List.all_eq_true, List.mem_range, Bool.or_eq_true, beq_iff_eq, decide_eq_true_eq] at h1 h2
  rcases h1 c hc with h | h
  · exact h.symm
  · rcases h2 a ha with h' | h'
    · exact h'
    · omega
def dueAt (songs : Nat) (over : List (List Int)) (k : Nat) : Int := (List.range k).foldl (fun d a => if wins songs over a = true then (a : Int) else d) (-1)
theorem dueAt_succ (songs : Nat) (over : List (List Int)) (k : Nat) : dueAt songs over (k + 1) = if wins songs over k = true then (k : Int) else dueAt songs over k := by rw [dueAt, List.range_succ, List.foldl_append]; rfl
theorem dueAt_cases (songs : Nat) (over : List (List Int)) : ∀ k, (dueAt songs over k = -1 ∧ ∀ a, a < k → wins songs over a = false) ∨ ∃ a, a < k ∧ wins songs over a = true ∧ dueAt songs over k = (a : Int)
  | 0 => .inl ⟨rfl, fun a ha => by omega⟩
  | k + 1 => by
    rw [dueAt_succ]
    cases hw : wins songs over k with
    | true => exact .inr ⟨k, by omega, hw, by simp⟩
    | false =>
      simp only [Bool.false_eq_true, if_false]
      rcases dueAt_cases songs over k with ⟨h1, h2⟩ | ⟨a, h1, h2, h3⟩
      · refine .inl ⟨h1, fun a ha => ?_⟩
        rcases Nat.lt_succ_iff_lt_or_eq.1 ha with h | rfl
        · exact h2 a h
        · exact hw
      · exact .inr ⟨a, by omega, h2, h3⟩
theorem best_due (songs : Nat) (over : List (List Int)) : best songs over = dueAt songs over songs := by
  rw [best]
  cases h : (List.range songs).find? (wins songs over) with
  | none =>
    have hn := List.find?_eq_none.1 h
    rcases dueAt_cases songs over songs with ⟨h1, _⟩ | ⟨a, h1, h2, _⟩
    · exact h1.symm
    · exact absurd h2 (hn a (List.mem_range.2 h1))
  | some b =>
    have hb := List.mem_range.1 (List.mem_of_find?_eq_some h)
    have hw := List.find?_some h
    rcases dueAt_cases songs over songs with ⟨_, h2⟩ | ⟨a, h1, h2, h3⟩
    · rw [h2 b hb] at hw; cases hw
    · rw [h3, wins_once h1 hb h2 hw]

end Go.Proofs.Ytjofdfiljokfoaa.R
