/- A small logic for Go functions over the model: variables that are no longer written become deep. -/
import Derived.Test.YtjofdfiljokfoaaTLB
namespace Go.Proofs.Ytjofdfiljokfoaa.TL
open Go Go.RowKit
set_option linter.unusedVariables false
set_option linter.unusedSimpArgs false

theorem single_flat (ds : List D) : (ds.map fun x => [x]).flatten = ds := by
  induction ds with
  | nil => rfl
  | cons x r ih => simp [ih]
/-- A variable of one's own is never written again. -/
theorem Sub.freezeBox {P : Program} {C : Ctx P} {s : St} (id t : Nat) {ty : TypeId} (ds : List D) (ht : s.e.get t = .ptr id 0) (hid : s.s.get id = some (some ⟨ty, ds.map V.d⟩)) (hne : ds ≠ []) :
    Sub C s ⟨(t, V.d (.box ds)) :: s.e, (id, none) :: s.s, s.ds⟩ := fun φ a w hr => by
  obtain ⟨e, S, dd⟩ := s
  have hl1 : ∀ x ∈ ds.map (fun x => [x]), x.length = 1 := fun x hx => by
    obtain ⟨y, _, rfl⟩ := List.mem_map.1 hx
    rfl
  obtain ⟨h1, h2⟩ := hr.freezeR (id := id) (sz := 1) (t := ty) (es := ds.map fun x => [x]) (by rw [single_flat]; exact hid) hl1 (by decide)
  have g := hr.slots t
  simp only [ht] at g
  obtain ⟨b, hu, hφ⟩ := g.ptr_inv
  have h3 := h2 ds.length ds.length b (by simp) (Nat.le_refl _) hφ
  rw [List.take_of_length_le (by simp)] at h3
  obtain ⟨A, cap, xs, hs, hl, _, _, hA, hsz, hx⟩ := h3.d_inv.list_inv
  obtain ⟨b', o', hA', k1, k2, k3⟩ := hA (by simpa using hne)
  have hAe : A = some ⟨b, 0, none⟩ := by injection hs with h4; exact h4.symm
  rw [hAe] at hA'
  cases hA'
  refine ⟨φ, h1.slot ?_⟩
  rw [hu]
  have one : ∀ (i : Nat) (ve : List Value), xs[i]? = some ve → ∃ u, ve = [u] := fun i ve hi => by
    obtain ⟨e', he'⟩ := get_of_len hl.symm hi
    have := (hsz i e' ve he' hi).2
    match ve, this with
    | [u], _ => exact ⟨u, rfl⟩
  have hfl : xs.flatten.length = ds.length := by
    rw [flatten_length (sz := 1) fun e he => by
      obtain ⟨i, hi⟩ := List.mem_iff_getElem?.1 he
      obtain ⟨u, rfl⟩ := one i e hi
      rfl, hl]
    simp
  have hget : ∀ (j : Nat) (u : Value), xs.flatten[j]? = some u → xs[j]? = some [u] := fun j u hj => by
    have hlt := (List.getElem?_eq_some_iff.1 hj).1
    have hjx : j < xs.length := by rw [hfl] at hlt; rw [hl]; simpa using hlt
    obtain ⟨v, hv⟩ := one j _ (List.getElem?_eq_getElem hjx)
    have := chunks_get (sz := 1) (es := xs) (fun e he => by
      obtain ⟨i, hi⟩ := List.mem_iff_getElem?.1 he
      obtain ⟨u, rfl⟩ := one i e hi
      rfl) j [v] (by rw [List.getElem?_eq_getElem hjx, hv]) 0 v rfl
    simp only [Nat.mul_one, Nat.add_zero] at this
    rw [this] at hj
    cases hj
    rw [List.getElem?_eq_getElem hjx, hv]
  refine .d _ _ (.box ds b 0 xs.flatten hfl k1 k2 (fun j u hj => ?_) (fun j d u hj hu' => ?_))
  · have := k3 j [u] (hget j u hj) 0 u rfl
    simpa using this
  · exact hx j [d] [u] (by rw [List.getElem?_map, hj]; rfl) (hget j u hu') 0 d u rfl rfl

end Go.Proofs.Ytjofdfiljokfoaa.TL
