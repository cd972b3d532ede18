/- A small logic for Go functions over the model: slices of one's own arrays become deep; more rules. -/
import Derived.Test.YtjofdfiljokfoaaTLA
namespace Go.Proofs.Ytjofdfiljokfoaa.TL
open Go Go.RowKit
set_option linter.unusedVariables false
set_option linter.unusedSimpArgs false

/-- What one owns is given up: it is deep from now on. -/
theorem Rel.freezeR {P : Program} {C : Ctx P} {φ : Phi} {e : Env} {S : Store} {ds : List Deferred} {a : Act} {w : World} (h : Rel C φ ⟨e, S, ds⟩ a w) {id sz : Nat} {t : TypeId} {es : List (List D)} (hid : S.get id = some (some ⟨t, (es.flatten).map V.d⟩)) (hs : ∀ x ∈ es, x.length = sz) (hsz : 0 < sz) :
    Rel C φ ⟨e, (id, none) :: S, ds⟩ a w ∧ ∀ n cap b, n ≤ es.length → n ≤ cap → φ id = some (some b) → VVal (C.K φ ((id, none) :: S)) φ w (V.list sz (es.take n)) (.slice (some ⟨b, 0, none⟩) n cap) := by
  have hget : ∀ i o1, Store.get ((id, none) :: S) i = some (some o1) → i ≠ id ∧ S.get i = some (some o1) := fun i o1 hi => by
    rw [Store.get_cons] at hi
    split at hi
    · cases hi
    · rename_i hk; exact ⟨fun x => hk x.symm, hi⟩
  have hown : ∀ b, own φ ((id, none) :: S) b → own φ S b := by
    rintro b ⟨i, o1, g1, g2⟩
    exact ⟨i, o1, (hget i o1 g1).2, g2⟩
  have st : Still (C.K φ S) (C.K φ ((id, none) :: S)) w w := ⟨Nat.le_refl _, fun _ _ _ => rfl, fun b hb _ hk => hb (hk.imp (fun x => x) (hown b)), fun _ _ _ x => x⟩
  refine ⟨h.step st (fun _ _ x => x) (fun i o1 hi => ?_) (fun i i' o1 o2 b g1 g2 g3 g4 => h.inj i i' o1 o2 b (hget i o1 g1).2 (hget i' o2 g2).2 g3 g4) h.lt (fun i hi => ?_) h.keep, fun n cap b hn hnc hφ => ?_⟩
  · obtain ⟨_, hi'⟩ := hget i o1 hi
    refine (h.objs i o1 hi').imp (fun x => x) fun ⟨b, hb, ho⟩ => ⟨b, hb, ho.still st (fun _ _ x => x) rfl, h.ours i o1 b hi' hb⟩
  · rw [Store.get_cons]
    split
    · simp
    · exact h.used i hi
  · rcases h.objs id _ hid with ⟨k1, _⟩ | ⟨b', k1, arr, k2, k3, k4⟩
    · rw [hφ] at k1; cases k1
    · obtain rfl := Option.some.inj (Option.some.inj (hφ.symm.trans k1))
      have hlen : (es.take n).length = n := by simp; omega
      have hfl := flatten_length hs
      have hKb : ¬ C.K φ ((id, none) :: S) b := by
        rintro (hk | ⟨i, o1, g1, g2⟩)
        · exact (h.ours id _ b hid hφ).1 hk
        · obtain ⟨q1, q2⟩ := hget i o1 g1
          exact q1 (h.inj i id o1 _ b q2 hid g2 hφ)
      have hcell : ∀ j, w.cell? ⟨b, j, none⟩ = arr[j]? := fun j => cell_of_row w b j arr t (0, 0) k2
      have hat : ∀ i e, es[i]? = some e → ∀ j d, e[j]? = some d → ∃ u, arr[i * sz + j]? = some u ∧ DVal (C.K φ ((id, none) :: S)) w d u := fun i e hi j d hj => by
        obtain ⟨u, q1, _, q3⟩ := k4 (i * sz + j) (V.d d) (by simp only [List.getElem?_map]; rw [chunks_get hs i e hi j d hj]; rfl)
        exact ⟨u, q1, (q3.d_inv).still st⟩
      refine .d _ _ ?_
      have key := DVal.list (K := C.K φ ((id, none) :: S)) (w := w) sz (es.take n) (some ⟨b, 0, none⟩) cap ((List.range n).map fun i => (List.range sz).map fun j => arr.getD (i * sz + j) undef) (by simp [hlen]) (by omega) (fun h => by cases h)
        (fun _ => ⟨b, 0, rfl, hKb, h.lt id b hφ, fun i ve hi j u hj => ?_⟩) (fun i e ve hi hv => ?_) (fun i e ve hi hv j d u hj hu => ?_)
      · rw [hlen] at key; exact key
      · rw [List.getElem?_map] at hi
        cases hr : (List.range n)[i]? with
        | none => rw [hr] at hi; cases hi
        | some i' =>
          rw [hr] at hi; cases hi
          rw [List.getElem?_map] at hj
          cases hr2 : (List.range sz)[j]? with
          | none => rw [hr2] at hj; cases hj
          | some j' =>
            rw [hr2] at hj; cases hj
            obtain ⟨hl1, rfl⟩ := List.getElem?_eq_some_iff.1 hr
            obtain ⟨hl2, rfl⟩ := List.getElem?_eq_some_iff.1 hr2
            simp only [List.length_range, List.getElem_range] at *
            rw [Nat.zero_add, hcell]
            have hl1' : i < n := by simpa using hl1
            have hl2' : j < sz := by simpa using hl2
            have hie : i < es.length := by omega
            have h1 := hs es[i] (List.getElem_mem hie)
            have hje : j < es[i].length := by omega
            obtain ⟨u, q1, _⟩ := hat i es[i] (List.getElem?_eq_getElem hie) j es[i][j] (List.getElem?_eq_getElem hje)
            rw [q1, Array.getD_eq_getD_getElem?, q1]; rfl
      · rw [List.getElem?_take] at hi
        split at hi
        · refine ⟨hs e (List.mem_of_getElem? hi), ?_⟩
          rw [List.getElem?_map] at hv
          cases hr : (List.range n)[i]? with
          | none => rw [hr] at hv; cases hv
          | some i' => rw [hr] at hv; cases hv; simp
        · cases hi
      · rw [List.getElem?_take] at hi
        split at hi
        · obtain ⟨u', q1, q2⟩ := hat i e hi j d hj
          rw [List.getElem?_map] at hv
          cases hr : (List.range n)[i]? with
          | none => rw [hr] at hv; cases hv
          | some i' =>
            rw [hr] at hv; cases hv
            obtain ⟨_, rfl⟩ := List.getElem?_eq_some_iff.1 hr
            rw [List.getElem?_map] at hu
            cases hr2 : (List.range sz)[j]? with
            | none => rw [hr2] at hu; cases hu
            | some j' =>
              rw [hr2] at hu; cases hu
              obtain ⟨_, rfl⟩ := List.getElem?_eq_some_iff.1 hr2
              simp only [List.getElem_range, Array.getD_eq_getD_getElem?, q1]
              exact q2
        · cases hi


/-- A slice of one's own array becomes deep, with the array. -/
theorem Sub.freezeRef {P : Program} {C : Ctx P} {s : St} (id sz t : Nat) {n : Nat} {ty : TypeId} {es : List (List D)} (ht : s.e.get t = .ref id sz 0 n) (hid : s.s.get id = some (some ⟨ty, (es.flatten).map V.d⟩)) (hn : n ≤ es.length) (hs : ∀ x ∈ es, x.length = sz) (hsz : 0 < sz) :
    Sub C s ⟨(t, V.list sz (es.take n)) :: s.e, (id, none) :: s.s, s.ds⟩ := fun φ a w hr => by
  obtain ⟨e, S, ds⟩ := s
  obtain ⟨h1, h2⟩ := hr.freezeR hid hs hsz
  have g := hr.slots t
  simp only [ht] at g
  obtain ⟨b, cap, t', m, hu, hφ, _, _, hnc, _⟩ := g.ref_inv
  refine ⟨φ, h1.slot ?_⟩
  rw [hu]
  exact h2 n cap b hn hnc hφ
theorem Seq.sub {P : Program} {C : Ctx P} {ops0 : Array Oper} {l : List Oper} {s s' : St} {q : St → Prop} (hs : Sub C s s') (h : SeqT C ops0 l s' q) : SeqT C ops0 l s q := fun φ a w hr Q hQ => let ⟨φ', h1⟩ := hs φ a w hr; h φ' a w h1 Q hQ

end Go.Proofs.Ytjofdfiljokfoaa.TL
