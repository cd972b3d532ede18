/- What functions that the law reaches compute: one step of the proof of the law's statement; each theorem states its own conditions. -/
import Derived.Test.YtjofdfiljokfoaaR6
import Derived.Test.YtjofdfiljokfoaaTLB
namespace Go.Proofs.Ytjofdfiljokfoaa.R
open Go Go.RowKit Go.Proofs.Ytjofdfiljokfoaa.TL
set_option linter.unusedVariables false
set_option linter.unusedSimpArgs false

/-! ### The count, by hand -/
def leftOf (songs : Nat) (o : List Nat) : List Nat := (List.range songs).filter fun t => !decide (t ∈ o)
def firstOf (o : List Nat) (r : List Int) : Option Int := r.find? fun t => !decide (t.toNat ∈ o)
def votes (o : List Nat) (l : List (List Int)) (s : Nat) : Nat := (l.filter fun r => decide (firstOf o r = some (s : Int))).length
def stepMin (f : Nat → Nat) (w : Int) (s : Nat) : Int := if w < 0 ∨ f s ≤ f w.toNat then (s : Int) else w
def lastMin (f : Nat → Nat) (L : List Nat) : Int := L.foldl (stepMin f) (-1)
def elim (songs : Nat) (l : List (List Int)) : Nat → List Nat
  | 0 => []
  | k + 1 => elim songs l k ++ [(lastMin (votes (elim songs l k) l) (leftOf songs (elim songs l k))).toNat]
theorem lastMin_mem (f : Nat → Nat) : ∀ (L : List Nat), (L = [] ∧ lastMin f L = -1) ∨ ∃ s ∈ L, lastMin f L = (s : Int) := by
  have key : ∀ (L : List Nat) (w : Int), (0 ≤ w ∧ (L.foldl (stepMin f) w = w)) ∨ (∃ s ∈ L, L.foldl (stepMin f) w = (s : Int)) ∨ (L = [] ∧ L.foldl (stepMin f) w = w) := by
    intro L
    induction L with
    | nil => intro w; exact .inr (.inr ⟨rfl, rfl⟩)
    | cons x L ih =>
      intro w
      rw [List.foldl_cons]
      by_cases hc : w < 0 ∨ f x ≤ f w.toNat
      · have hs : stepMin f w x = (x : Int) := by rw [stepMin, if_pos hc]
        rw [hs]
        rcases ih (x : Int) with ⟨_, h⟩ | ⟨s, hs, h⟩ | ⟨_, h⟩
        · exact .inr (.inl ⟨x, by simp, h⟩)
        · exact .inr (.inl ⟨s, by simp [hs], h⟩)
        · exact .inr (.inl ⟨x, by simp, h⟩)
      · have hs : stepMin f w x = w := by rw [stepMin, if_neg hc]
        rw [hs]
        rcases ih w with ⟨h0, h⟩ | ⟨s, hs, h⟩ | ⟨_, h⟩
        · exact .inl ⟨h0, h⟩
        · exact .inr (.inl ⟨s, by simp [hs], h⟩)
        · exact .inl ⟨by omega, h⟩
  intro L
  rcases key L (-1) with ⟨h, _⟩ | ⟨s, hs, h⟩ | ⟨h1, h⟩
  · omega
  · exact .inr ⟨s, hs, h⟩
  · exact .inl ⟨h1, h⟩
theorem filter_ne : ∀ {L : List Nat} {x : Nat}, L.Nodup → x ∈ L → (L.filter fun t => !decide (t = x)).length + 1 = L.length
  | [], x, _, h => by simp at h
  | y :: r, x, hn, h => by
    obtain ⟨h1, h2⟩ := List.nodup_cons.1 hn
    by_cases hy : y = x
    · subst hy
      have : (r.filter fun t => !decide (t = y)) = r := List.filter_eq_self.2 fun t ht => by simp; intro e; subst e; exact h1 ht
      simp [this]
    · have := filter_ne h2 ((List.mem_cons.1 h).resolve_left (fun e => hy e.symm))
      simp [hy]; omega
theorem left_snoc (songs : Nat) (o : List Nat) (x : Nat) : leftOf songs (o ++ [x]) = (leftOf songs o).filter fun t => !decide (t = x) := by
  simp only [leftOf, List.filter_filter]
  apply List.filter_congr
  intro t _
  by_cases h1 : t ∈ o <;> by_cases h2 : t = x <;> simp [h1, h2]
theorem left_nodup (songs : Nat) (o : List Nat) : (leftOf songs o).Nodup := List.Pairwise.filter _ List.nodup_range
theorem elim_left (songs : Nat) (l : List (List Int)) : ∀ k, k ≤ songs → (leftOf songs (elim songs l k)).length = songs - k ∧ (elim songs l k).length = k ∧ ∀ t ∈ elim songs l k, t < songs
  | 0, _ => by
    refine ⟨?_, rfl, fun t ht => by simp [elim] at ht⟩
    rw [leftOf, elim, List.filter_eq_self.2 (fun _ _ => by simp)]
    simp
  | k + 1, hk => by
    obtain ⟨h1, h2, h3⟩ := elim_left songs l k (by omega)
    rcases lastMin_mem (votes (elim songs l k) l) (leftOf songs (elim songs l k)) with ⟨h, _⟩ | ⟨s, hs, h⟩
    · rw [h] at h1; simp at h1; omega
    · rw [elim, h, Int.toNat_natCast, left_snoc]
      have := filter_ne (left_nodup _ _) hs
      refine ⟨by omega, by simp [h2], fun t ht => ?_⟩
      rcases List.mem_append.1 ht with ht | ht
      · exact h3 t ht
      · rw [List.mem_singleton.1 ht]
        exact List.mem_range.1 (List.mem_filter.1 hs).1
theorem elim_last (songs : Nat) (l : List (List Int)) {k : Nat} (hk : k < songs) : ∃ s, s < songs ∧ ¬ s ∈ elim songs l k ∧ lastMin (votes (elim songs l k) l) (leftOf songs (elim songs l k)) = (s : Int) ∧ elim songs l (k + 1) = elim songs l k ++ [s] := by
  obtain ⟨h1, h2, h3⟩ := elim_left songs l k (by omega)
  rcases lastMin_mem (votes (elim songs l k) l) (leftOf songs (elim songs l k)) with ⟨h, _⟩ | ⟨s, hs, h⟩
  · rw [h] at h1; simp at h1; omega
  · have hm := List.mem_filter.1 hs
    exact ⟨s, List.mem_range.1 hm.1, by simpa using hm.2, h, by rw [elim, h, Int.toNat_natCast]⟩
theorem votes_snoc (o : List Nat) (l : List (List Int)) (r : List Int) (s : Nat) : votes o (l ++ [r]) s = votes o l s + if firstOf o r = some (s : Int) then 1 else 0 := by
  simp only [votes, List.filter_append, List.length_append]
  congr 1
  by_cases h : firstOf o r = some (s : Int) <;> simp [h]
theorem votes_le (o : List Nat) (l : List (List Int)) (s : Nat) : votes o l s ≤ l.length := List.length_filter_le _ _

/-! ### Cells of booleans -/
def brow (l : List Bool) : List V := (bools l).flatten.map V.d
theorem brow_map (l : List Bool) : brow l = l.map V.b := by
  induction l with
  | nil => rfl
  | cons x r ih => simp only [brow, bools, List.map_cons, List.flatten_cons, List.map_append] at ih ⊢; rw [ih]; rfl
theorem brow_len (l : List Bool) : (brow l).length = l.length := by rw [brow_map]; simp
theorem brow_get {l : List Bool} {i : Nat} {x : Bool} (h : l[i]? = some x) : (brow l)[i]? = some (V.b x) := by rw [brow_map, List.getElem?_map, h]; rfl
theorem brow_set (l : List Bool) (i : Nat) (x : Bool) : (brow l).set i (V.b x) = brow (l.set i x) := by rw [brow_map, brow_map, List.map_set]
theorem ins_brow (S : Store) (l : List Bool) : V.insS S (brow l) = true := insS_ds S _
theorem bools_one (l : List Bool) : ∀ x ∈ bools l, x.length = 1 := fun x hx => by
  simp only [bools, List.mem_map] at hx
  obtain ⟨y, _, rfl⟩ := hx
  rfl
theorem rens_brow (π : Nat → Nat) (l : List Bool) : V.rens π (brow l) = brow l := by
  rw [brow_map]
  induction l with
  | nil => rfl
  | cons x r ih => rw [List.map_cons, V.rens, ih]; rfl
def gl (o : List Nat) : List Bool := (List.range 8).map fun t => decide (t ∈ o)
theorem gl_get (o : List Nat) {t : Nat} (h : t < 8) : (gl o)[t]? = some (decide (t ∈ o)) := by rw [gl, List.getElem?_map, List.getElem?_range h]; rfl
theorem gl_set (o : List Nat) {t : Nat} (h : t < 8) : (gl o).set t true = gl (o ++ [t]) := by
  apply List.ext_getElem?
  intro i
  rw [List.getElem?_set]
  by_cases hi : t = i
  · subst hi; simp [gl, h]
  · rw [if_neg hi, gl, gl, List.getElem?_map, List.getElem?_map]
    cases hr : (List.range 8)[i]? with
    | none => rfl
    | some k =>
      have : k = i := by
        have := List.getElem?_eq_some_iff.1 hr
        simp at this; omega
      subst this
      have : ¬ k = t := fun e => hi e.symm
      simp [this]
def mrow (f : Nat → Nat) : List Int := (List.range 8).map fun s => (f s : Int)
theorem mrow_get (f : Nat → Nat) {t : Nat} (h : t < 8) : (mrow f)[t]? = some (f t : Int) := by rw [mrow, List.getElem?_map, List.getElem?_range h]; rfl

instance a42 : ArrT Try.prog 42 8 4 1 := ArrT.of Try.underlying42 (by kernel_rfl)
instance a43 : ArrT Try.prog 43 8 3 1 := ArrT.of Try.underlying43 (by kernel_rfl)
instance zz42 : ZeroT Try.prog 42 (List.replicate 8 (.bool false)) := ZeroT.of (z := .agg (List.replicate 8 (Value.bool false)).toArray) (by kernel_rfl) rfl rfl
instance zz43 : ZeroT Try.prog 43 (List.replicate 8 (.int .i64 0)) := ZeroT.of (z := .agg (List.replicate 8 (Value.int .i64 0)).toArray) (by kernel_rfl) rfl rfl
theorem zero42 : vals (List.replicate 8 (.bool false)) = brow (gl []) := rfl
theorem zero43 : vals (List.replicate 8 (.int .i64 0)) = row (mrow fun _ => 0) := rfl

end Go.Proofs.Ytjofdfiljokfoaa.R
