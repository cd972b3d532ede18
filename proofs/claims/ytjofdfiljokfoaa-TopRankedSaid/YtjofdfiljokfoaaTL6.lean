/- A small logic for Go functions over the model: weaker states; deep values out of one's own; endings. -/
import Derived.Test.YtjofdfiljokfoaaTL5
namespace Go.Proofs.Ytjofdfiljokfoaa.TL
open Go Go.RowKit
set_option linter.unusedVariables false
set_option linter.unusedSimpArgs false

/-! ### Other names for one's own objects -/
mutual
def V.ren (π : Nat → Nat) : V → V
  | .any => .any
  | .d x => .d x
  | .agg cs => .agg (V.rens π cs)
  | .tup cs => .tup (V.rens π cs)
  | .ref id sz off n => .ref (π id) sz off n
  | .acc id sz n => .acc (π id) sz n
  | .ptr id off => .ptr (π id) off
  | .clo f cs => .clo f (V.rens π cs)
def V.rens (π : Nat → Nat) : List V → List V
  | [] => []
  | v :: r => V.ren π v :: V.rens π r
end
mutual
def V.inS (S : Store) : V → Bool
  | .any => true
  | .d _ => true
  | .agg cs => V.insS S cs
  | .tup cs => V.insS S cs
  | .ref id _ _ _ => liveB S id
  | .acc id _ _ => liveB S id
  | .ptr id _ => liveB S id
  | .clo _ cs => V.insS S cs
def V.insS (S : Store) : List V → Bool
  | [] => true
  | v :: r => V.inS S v && V.insS S r
def liveB (S : Store) (id : Nat) : Bool := match S.get id with | some (some _) => true | _ => false
end
theorem V.rens_get (π : Nat → Nat) : ∀ (cs : List V) (j : Nat), (V.rens π cs)[j]? = (cs[j]?).map (V.ren π)
  | [], j => by simp [V.rens]
  | v :: r, 0 => by simp [V.rens]
  | v :: r, j + 1 => by simp [V.rens, V.rens_get π r j]
theorem V.rens_length (π : Nat → Nat) : ∀ (cs : List V), (V.rens π cs).length = cs.length
  | [] => rfl
  | v :: r => by simp [V.rens, V.rens_length π r]
theorem V.insS_get {S : Store} : ∀ {cs : List V}, V.insS S cs = true → ∀ (j : Nat) (v : V), cs[j]? = some v → v.inS S = true
  | [], _, j, v, h => by simp at h
  | c :: r, h, 0, v, hj => by cases hj; simp only [V.insS, Bool.and_eq_true] at h; exact h.1
  | c :: r, h, j + 1, v, hj => by simp only [V.insS, Bool.and_eq_true] at h; exact V.insS_get h.2 j v (by simpa using hj)
theorem liveB_iff {S : Store} {id : Nat} (h : liveB S id = true) : ∃ o, S.get id = some (some o) := by
  simp only [liveB] at h
  split at h
  · rename_i o ho; exact ⟨o, ho⟩
  · cases h

theorem VVal.ren {K : Nat → Prop} {φ φ' : Phi} {w : World} {S : Store} {π : Nat → Nat} (hφ : ∀ id o, S.get id = some (some o) → φ' id = φ (π id)) {v : V} {u : Value} (h : VVal K φ w v u) : ∀ v', v = v'.ren π → v'.inS S = true → VVal K φ' w v' u := by
  induction h with
  | any v =>
    intro v' hv _
    cases v' <;> simp [V.ren] at hv
    exact .any _
  | d x v hx =>
    intro v' hv _
    cases v' <;> simp [V.ren] at hv
    subst hv; exact .d _ _ hx
  | agg cs xs hl hx ih =>
    intro v' hv hs
    cases v' <;> simp only [V.ren, V.agg.injEq, reduceCtorEq] at hv
    rename_i cs'
    subst hv
    simp only [V.inS] at hs
    refine .agg cs' xs (by rw [hl, V.rens_length]) fun j d u hj hu => ?_
    exact ih j (d.ren π) u (by rw [V.rens_get, hj]; rfl) hu d rfl (V.insS_get hs j d hj)
  | tup cs xs hl hx ih =>
    intro v' hv hs
    cases v' <;> simp only [V.ren, V.tup.injEq, reduceCtorEq] at hv
    rename_i cs'
    subst hv
    simp only [V.inS] at hs
    refine .tup cs' xs (by rw [hl, V.rens_length]) fun j d u hj hu => ?_
    exact ih j (d.ren π) u (by rw [V.rens_get, hj]; rfl) hu d rfl (V.insS_get hs j d hj)
  | clo f cs xs hl hx ih =>
    intro v' hv hs
    cases v' <;> simp only [V.ren, V.clo.injEq, reduceCtorEq] at hv
    rename_i f' cs'
    obtain ⟨rfl, rfl⟩ := hv
    simp only [V.inS] at hs
    refine .clo f cs' xs (by rw [hl, V.rens_length]) fun j d u hj hu => ?_
    exact ih j (d.ren π) u (by rw [V.rens_get, hj]; rfl) hu d rfl (V.insS_get hs j d hj)
  | ref id sz off n b cap t m h1 h2 h3 h4 h5 =>
    intro v' hv hs
    cases v' <;> simp only [V.ren, V.ref.injEq, reduceCtorEq] at hv
    obtain ⟨rfl, rfl, rfl, rfl⟩ := hv
    obtain ⟨o, ho⟩ := liveB_iff (by simpa [V.inS] using hs)
    exact .ref _ _ _ _ b cap t m (by rw [hφ _ o ho, h1]) h2 h3 h4 h5
  | accNil id sz h1 =>
    intro v' hv hs
    cases v' <;> simp only [V.ren, V.acc.injEq, reduceCtorEq] at hv
    obtain ⟨rfl, rfl, rfl⟩ := hv
    obtain ⟨o, ho⟩ := liveB_iff (by simpa [V.inS] using hs)
    exact .accNil _ _ (by rw [hφ _ o ho, h1])
  | accRow id sz n b cap t h1 h2 h3 h4 =>
    intro v' hv hs
    cases v' <;> simp only [V.ren, V.acc.injEq, reduceCtorEq] at hv
    obtain ⟨rfl, rfl, rfl⟩ := hv
    obtain ⟨o, ho⟩ := liveB_iff (by simpa [V.inS] using hs)
    exact .accRow _ _ _ b cap t (by rw [hφ _ o ho, h1]) h2 h3 h4
  | ptr id off b h1 =>
    intro v' hv hs
    cases v' <;> simp only [V.ren, V.ptr.injEq, reduceCtorEq] at hv
    obtain ⟨rfl, rfl⟩ := hv
    obtain ⟨o, ho⟩ := liveB_iff (by simpa [V.inS] using hs)
    exact .ptr _ _ b (by rw [hφ _ o ho, h1])

def EnvR (π : Nat → Nat) (e : Env) : Env → Prop
  | [] => True
  | (k, v) :: r => e.get k = v.ren π ∧ EnvR π e r
def envIn (S : Store) : Env → Bool
  | [] => true
  | (_, v) :: r => v.inS S && envIn S r
def StoreR (π : Nat → Nat) (S : Store) : Store → Prop
  | [] => True
  | (_, none) :: r => StoreR π S r
  | (k, some o) :: r => S.get (π k) = some (some ⟨o.t, V.rens π o.cs⟩) ∧ StoreR π S r
def storeIn (S : Store) : Store → Bool
  | [] => true
  | (_, none) :: r => storeIn S r
  | (_, some o) :: r => V.insS S o.cs && storeIn S r
def injOn (π : Nat → Nat) : Store → Bool
  | [] => true
  | (k, _) :: r => r.all (fun p => π k != π p.1 || k == p.1) && injOn π r

theorem EnvR.get {π : Nat → Nat} {e : Env} : ∀ {e' : Env}, EnvR π e e' → ∀ t, e'.get t = .any ∨ e.get t = (e'.get t).ren π
  | [], _, t => .inl rfl
  | (k, v) :: r, h, t => by
    rw [Env.get_cons]
    by_cases hk : k = t
    · subst hk; rw [if_pos rfl]; exact .inr h.1
    · rw [if_neg hk]; exact EnvR.get h.2 t
theorem envIn_get {S : Store} : ∀ {e : Env}, envIn S e = true → ∀ t, (e.get t).inS S = true
  | [], _, t => rfl
  | (k, v) :: r, h, t => by
    simp only [envIn, Bool.and_eq_true] at h
    rw [Env.get_cons]
    split
    · exact h.1
    · exact envIn_get h.2 t
theorem StoreR.get {π : Nat → Nat} {S : Store} : ∀ {S' : Store}, StoreR π S S' → ∀ id o, S'.get id = some (some o) → S.get (π id) = some (some ⟨o.t, V.rens π o.cs⟩)
  | [], _, id, o, h => by simp [Store.get] at h
  | (k, none) :: r, h, id, o, hg => by
    rw [Store.get_cons] at hg
    split at hg
    · cases hg
    · exact StoreR.get (S' := r) h id o hg
  | (k, some o') :: r, h, id, o, hg => by
    rw [Store.get_cons] at hg
    split at hg
    · rename_i hk; subst hk; cases hg; exact h.1
    · exact StoreR.get h.2 id o hg
theorem storeIn_get {S : Store} : ∀ {S' : Store}, storeIn S S' = true → ∀ id o, S'.get id = some (some o) → V.insS S o.cs = true
  | [], _, id, o, h => by simp [Store.get] at h
  | (k, none) :: r, h, id, o, hg => by
    rw [Store.get_cons] at hg
    split at hg
    · cases hg
    · exact storeIn_get (S' := r) h id o hg
  | (k, some o') :: r, h, id, o, hg => by
    simp only [storeIn, Bool.and_eq_true] at h
    rw [Store.get_cons] at hg
    split at hg
    · cases hg; exact h.1
    · exact storeIn_get h.2 id o hg
theorem mem_of_get : ∀ {S : Store} {id : Nat} {x : Option Obj}, S.get id = some x → ∃ y, (id, y) ∈ S
  | [], id, x, h => by simp [Store.get] at h
  | (k, v) :: r, id, x, h => by
    rw [Store.get_cons] at h
    split at h
    · rename_i hk; subst hk; exact ⟨v, by simp⟩
    · obtain ⟨y, hy⟩ := mem_of_get h; exact ⟨y, by simp [hy]⟩
theorem injOn_get {π : Nat → Nat} : ∀ {S : Store}, injOn π S = true → ∀ i j x y, (i, x) ∈ S → (j, y) ∈ S → π i = π j → i = j
  | [], _, i, j, x, y, h, _, _ => by simp at h
  | (k, v) :: r, h, i, j, x, y, hi, hj, hp => by
    simp only [injOn, Bool.and_eq_true, List.all_eq_true, Bool.or_eq_true, bne_iff_ne, beq_iff_eq] at h
    rcases List.mem_cons.1 hi with hi | hi <;> rcases List.mem_cons.1 hj with hj | hj
    · cases hi; cases hj; rfl
    · cases hi; exact (h.1 _ hj).resolve_left (fun g => g hp)
    · cases hj; exact ((h.1 _ hi).resolve_left (fun g => g hp.symm)).symm
    · exact injOn_get h.2 i j x y hi hj hp

/-- A weaker state: some slots, some objects, under other names. -/
theorem Sub.ren {P : Program} {C : Ctx P} {s : St} (π : Nat → Nat) {e' : Env} {S' : Store} (he : EnvR π s.e e') (hS : StoreR π s.s S') (hi : injOn π S' = true) (h1 : envIn S' e' = true) (h2 : storeIn S' S' = true) (hfx : ∀ id, C.fx id ≠ none → π id = id ∧ S'.get id ≠ none) : Sub C s ⟨e', S', s.ds⟩ := fun φ a w hr => by
  classical
  obtain ⟨φ', hφ'⟩ : ∃ φ' : Phi, φ' = fun id => if S'.get id ≠ none then φ (π id) else none := ⟨_, rfl⟩
  have hlive : ∀ id o, S'.get id = some (some o) → φ' id = φ (π id) := fun id o ho => by rw [hφ']; simp [ho]
  have hback : ∀ id x, φ' id = some x → S'.get id ≠ none ∧ φ (π id) = some x := fun id x hx => by
    rw [hφ'] at hx
    simp only at hx
    split at hx
    · rename_i hl; exact ⟨hl, hx⟩
    · cases hx
  have hown : ∀ b, own φ' S' b → own φ s.s b := by
    rintro b ⟨id, o, g1, g2⟩
    exact ⟨π id, _, hS.get id o g1, by rw [← hlive id o g1, g2]⟩
  have st : Still (C.K φ s.s) (C.K φ' S') w w := ⟨Nat.le_refl _, fun _ _ _ => rfl, fun b hb _ hk => hb (hk.imp (fun x => x) (hown b)), fun _ _ _ x => x⟩
  have hval : ∀ v u, VVal (C.K φ s.s) φ w (V.ren π v) u → v.inS S' = true → VVal (C.K φ' S') φ' w v u := fun v u hv hs => by
    have := VVal.still (K' := C.K φ' S') (φ' := φ) st (fun _ _ x => x) hv
    exact this.ren hlive v rfl hs
  refine ⟨φ', hr.size, fun t => ?_, fun id o hid => ?_, fun id id' o o' b g1 g2 g3 g4 => ?_, fun id o b hid hb => ?_, fun id b hb => ?_, fun id hid => ?_, hr.defs, hr.keep, fun id x hx => ?_⟩
  · rcases he.get t with h | h
    · show VVal _ _ _ (Env.get e' t) _
      rw [h]; exact .any _
    · have := hr.slots t
      rw [h] at this
      exact hval _ _ this (envIn_get h1 t)
  · have hg := hS.get id o hid
    rcases hr.objs _ _ hg with ⟨k1, k2⟩ | ⟨b, k1, arr, k2, k3, k4⟩
    · exact .inl ⟨by rw [hlive id o hid, k1], by have := congrArg List.length k2; rw [V.rens_length] at this; exact List.eq_nil_of_length_eq_zero this⟩
    · refine .inr ⟨b, by rw [hlive id o hid, k1], arr, k2, by simpa [V.rens_length] using k3, fun j v hj => ?_⟩
      obtain ⟨u, q1, q2, q3⟩ := k4 j (v.ren π) (by show (V.rens π o.cs)[j]? = _; rw [V.rens_get, hj]; rfl)
      exact ⟨u, q1, q2, hval v u q3 (V.insS_get (storeIn_get h2 id o hid) j v hj)⟩
  · have := hr.inj _ _ _ _ b (hS.get id o g1) (hS.get id' o' g2) (by rw [← hlive id o g1, g3]) (by rw [← hlive id' o' g2, g4])
    obtain ⟨y, hy⟩ := mem_of_get g1
    obtain ⟨y', hy'⟩ := mem_of_get g2
    exact injOn_get hi id id' y y' hy hy' this
  · exact hr.ours _ _ b (hS.get id o hid) (by rw [← hlive id o hid, hb])
  · exact hr.lt _ b (hback id _ hb).2
  · cases hx : φ' id with
    | none => exact absurd hx hid
    | some x => exact (hback id x hx).1
  · obtain ⟨g1, g2⟩ := hfx id (by rw [hx]; simp)
    rw [hφ']
    simp only [ne_eq, g2, not_false_eq_true, if_true, g1]
    exact hr.fixed id x hx

def EnvLe (e : Env) : Env → Prop
  | [] => True
  | (k, v) :: r => e.get k = v ∧ EnvLe e r
theorem EnvLe.get {e : Env} : ∀ {e' : Env}, EnvLe e e' → ∀ t, e'.get t = .any ∨ e.get t = e'.get t
  | [], _, t => .inl rfl
  | (k, v) :: r, h, t => by
    rw [Env.get_cons]
    by_cases hk : k = t
    · subst hk; rw [if_pos rfl]; exact .inr h.1
    · rw [if_neg hk]; exact EnvLe.get h.2 t
/-- Some slots are forgotten. -/
theorem Sub.env {P : Program} {C : Ctx P} {e e' : Env} {S : Store} {ds : List Deferred} (he : EnvLe e e') : Sub C ⟨e, S, ds⟩ ⟨e', S, ds⟩ := fun φ a w hr =>
  ⟨φ, hr.size, fun t => by
    rcases he.get t with h | h
    · show VVal _ _ _ (Env.get e' t) _
      rw [h]; exact .any _
    · have := hr.slots t
      rw [← h]; exact this, hr.objs, hr.inj, hr.ours, hr.lt, hr.used, hr.defs, hr.keep, hr.fixed⟩

/-! ### Deep values out of one's own -/
theorem chunks_get {α : Type} {sz : Nat} : ∀ {es : List (List α)}, (∀ e ∈ es, e.length = sz) → ∀ (i : Nat) (e : List α), es[i]? = some e → ∀ (j : Nat) (x : α), e[j]? = some x → es.flatten[i * sz + j]? = some x
  | [], _, i, e, h, j, x, _ => by simp at h
  | c :: r, hs, 0, e, h, j, x, hj => by
    cases h
    have := (List.getElem?_eq_some_iff.1 hj).1
    rw [List.flatten_cons, List.getElem?_append_left (by simpa using this)]
    simpa using hj
  | c :: r, hs, i + 1, e, h, j, x, hj => by
    have hc := hs c (by simp)
    rw [List.flatten_cons, List.getElem?_append_right (by rw [hc, Nat.succ_mul]; omega), hc, show (i + 1) * sz + j - sz = i * sz + j by rw [Nat.succ_mul]; omega]
    exact chunks_get (fun e he => hs e (by simp [he])) i e (by simpa using h) j x hj
theorem flatten_length {α : Type} {sz : Nat} : ∀ {es : List (List α)}, (∀ e ∈ es, e.length = sz) → es.flatten.length = es.length * sz
  | [], _ => by simp
  | c :: r, hs => by rw [List.flatten_cons, List.length_append, hs c (by simp), flatten_length (fun e he => hs e (by simp [he])), List.length_cons, Nat.succ_mul]; omega

/-- What one owns is given up: it is deep from now on. -/
theorem Rel.freeze {P : Program} {C : Ctx P} {φ : Phi} {e : Env} {S : Store} {ds : List Deferred} {a : Act} {w : World} (h : Rel C φ ⟨e, S, ds⟩ a w) {id sz : Nat} {t : TypeId} {es : List (List D)} (hid : S.get id = some (some ⟨t, (es.flatten).map V.d⟩)) (hs : ∀ x ∈ es, x.length = sz) (hsz : 0 < sz) :
    Rel C φ ⟨e, (id, none) :: S, ds⟩ a w ∧ ∀ n u, n ≤ es.length → VVal (C.K φ S) φ w (.acc id sz n) u → VVal (C.K φ ((id, none) :: S)) φ w (V.list sz (es.take n)) u := by
  have hget : ∀ i o1, Store.get ((id, none) :: S) i = some (some o1) → i ≠ id ∧ S.get i = some (some o1) := fun i o1 hi => by
    rw [Store.get_cons] at hi
    split at hi
    · cases hi
    · rename_i hk; exact ⟨fun x => hk x.symm, hi⟩
  have hown : ∀ b, own φ ((id, none) :: S) b → own φ S b := by
    rintro b ⟨i, o1, g1, g2⟩
    exact ⟨i, o1, (hget i o1 g1).2, g2⟩
  have st : Still (C.K φ S) (C.K φ ((id, none) :: S)) w w := ⟨Nat.le_refl _, fun _ _ _ => rfl, fun b hb _ hk => hb (hk.imp (fun x => x) (hown b)), fun _ _ _ x => x⟩
  refine ⟨h.step st (fun _ _ x => x) (fun i o1 hi => ?_) (fun i i' o1 o2 b g1 g2 g3 g4 => h.inj i i' o1 o2 b (hget i o1 g1).2 (hget i' o2 g2).2 g3 g4) h.lt (fun i hi => ?_) h.keep, fun n u hn hu => ?_⟩
  · obtain ⟨_, hi'⟩ := hget i o1 hi
    refine (h.objs i o1 hi').imp (fun x => x) fun ⟨b, hb, ho⟩ => ⟨b, hb, ho.still st (fun _ _ x => x) rfl, h.ours i o1 b hi' hb⟩
  · rw [Store.get_cons]
    split
    · simp
    · exact h.used i hi
  · rcases hu.acc_inv with ⟨rfl, rfl, _⟩ | ⟨b, cap, t', rfl, hφ, hsh, hnc, _⟩
    · refine .d _ _ ?_
      have := DVal.list (K := C.K φ ((id, none) :: S)) (w := w) sz [] none 0 [] rfl (Nat.le_refl _) (fun _ => rfl) (fun h => absurd rfl h) (fun i e ve h => by simp at h) (fun i e ve h => by simp at h)
      simpa using this
    · rcases h.objs id _ hid with ⟨k1, _⟩ | ⟨b', k1, arr, k2, k3, k4⟩
      · rw [hφ] at k1; cases k1
      · obtain rfl := Option.some.inj (Option.some.inj (hφ.symm.trans k1))
        have hlen : (es.take n).length = n := by simp; omega
        have hfl := flatten_length hs
        have hKb : ¬ C.K φ ((id, none) :: S) b := by
          rintro (hk | ⟨i, o1, g1, g2⟩)
          · exact (h.ours id _ b hid hφ).1 hk
          · obtain ⟨q1, q2⟩ := hget i o1 g1
            exact q1 (h.inj i id o1 _ b q2 hid g2 hφ)
        have hcell : ∀ j, w.cell? ⟨b, j, none⟩ = arr[j]? := fun j => cell_of_row w b j arr t (0, 0) k2
        have hat : ∀ i e, es[i]? = some e → ∀ j d, e[j]? = some d → ∃ u, arr[i * sz + j]? = some u ∧ DVal (C.K φ ((id, none) :: S)) w d u := fun i e hi j d hj => by
          obtain ⟨u, q1, _, q3⟩ := k4 (i * sz + j) (V.d d) (by simp only [List.getElem?_map]; rw [chunks_get hs i e hi j d hj]; rfl)
          exact ⟨u, q1, (q3.d_inv).still st⟩
        refine .d _ _ ?_
        have key := DVal.list (K := C.K φ ((id, none) :: S)) (w := w) sz (es.take n) (some ⟨b, 0, none⟩) cap ((List.range n).map fun i => (List.range sz).map fun j => arr.getD (i * sz + j) undef) (by simp [hlen]) (by omega) (fun h => by cases h)
          (fun _ => ⟨b, 0, rfl, hKb, h.lt id b hφ, fun i ve hi j u hj => ?_⟩) (fun i e ve hi hv => ?_) (fun i e ve hi hv j d u hj hu => ?_)
        · rw [hlen] at key; exact key
        · rw [List.getElem?_map] at hi
          cases hr : (List.range n)[i]? with
          | none => rw [hr] at hi; cases hi
          | some i' =>
            rw [hr] at hi; cases hi
            rw [List.getElem?_map] at hj
            cases hr2 : (List.range sz)[j]? with
            | none => rw [hr2] at hj; cases hj
            | some j' =>
              rw [hr2] at hj; cases hj
              obtain ⟨hl1, rfl⟩ := List.getElem?_eq_some_iff.1 hr
              obtain ⟨hl2, rfl⟩ := List.getElem?_eq_some_iff.1 hr2
              simp only [List.length_range, List.getElem_range] at *
              rw [Nat.zero_add, hcell]
              have hl1' : i < n := by simpa using hl1
              have hl2' : j < sz := by simpa using hl2
              have hie : i < es.length := by omega
              have h1 := hs es[i] (List.getElem_mem hie)
              have hje : j < es[i].length := by omega
              obtain ⟨u, q1, _⟩ := hat i es[i] (List.getElem?_eq_getElem hie) j es[i][j] (List.getElem?_eq_getElem hje)
              rw [q1, Array.getD_eq_getD_getElem?, q1]; rfl
        · rw [List.getElem?_take] at hi
          split at hi
          · refine ⟨hs e (List.mem_of_getElem? hi), ?_⟩
            rw [List.getElem?_map] at hv
            cases hr : (List.range n)[i]? with
            | none => rw [hr] at hv; cases hv
            | some i' => rw [hr] at hv; cases hv; simp
          · cases hi
        · rw [List.getElem?_take] at hi
          split at hi
          · obtain ⟨u', q1, q2⟩ := hat i e hi j d hj
            rw [List.getElem?_map] at hv
            cases hr : (List.range n)[i]? with
            | none => rw [hr] at hv; cases hv
            | some i' =>
              rw [hr] at hv; cases hv
              obtain ⟨_, rfl⟩ := List.getElem?_eq_some_iff.1 hr
              rw [List.getElem?_map] at hu
              cases hr2 : (List.range sz)[j]? with
              | none => rw [hr2] at hu; cases hu
              | some j' =>
                rw [hr2] at hu; cases hu
                obtain ⟨_, rfl⟩ := List.getElem?_eq_some_iff.1 hr2
                simp only [List.getElem_range, Array.getD_eq_getD_getElem?, q1]
                exact q2
          · cases hi

/-- A slot told otherwise. -/
theorem Rel.slot {P : Program} {C : Ctx P} {φ : Phi} {e : Env} {S : Store} {ds : List Deferred} {a : Act} {w : World} (h : Rel C φ ⟨e, S, ds⟩ a w) {t : Nat} {v : V} (hv : VVal (C.K φ S) φ w v (a.tmps.getD t undef)) : Rel C φ ⟨(t, v) :: e, S, ds⟩ a w where
  size := h.size
  slots := fun t' => by
    show VVal _ _ _ (Env.get ((t, v) :: e) t') _
    rw [Env.get_cons]
    split
    · rename_i ht; subst ht; exact hv
    · exact h.slots t'
  objs := h.objs
  inj := h.inj
  ours := h.ours
  lt := h.lt
  used := h.used
  defs := h.defs
  keep := h.keep
  fixed := h.fixed

/-- The row of some slots becomes deep. -/
theorem Sub.freeze {P : Program} {C : Ctx P} {s : St} (id sz : Nat) (ts : List (Nat × Nat)) {t : TypeId} {es : List (List D)} (hid : s.s.get id = some (some ⟨t, (es.flatten).map V.d⟩)) (hs : ∀ x ∈ es, x.length = sz) (hsz : 0 < sz)
    (ht : ∀ p ∈ ts, s.e.get p.1 = .acc id sz p.2 ∧ p.2 ≤ es.length) : Sub C s ⟨ts.map (fun p => (p.1, V.list sz (es.take p.2))) ++ s.e, (id, none) :: s.s, s.ds⟩ := fun φ a w hr => by
  obtain ⟨e, S, ds⟩ := s
  obtain ⟨h1, h2⟩ := hr.freeze hid hs hsz
  refine ⟨φ, ?_⟩
  induction ts with
  | nil => exact h1
  | cons p r ih =>
    have := ih (fun q hq => ht q (by simp [hq]))
    refine this.slot (h2 _ _ (ht p (by simp)).2 ?_)
    have := hr.slots p.1
    rw [(ht p (by simp)).1] at this
    exact this
/-- A nil slice is the begin of a row. -/
theorem Sub.begin {P : Program} {C : Ctx P} {s : St} (t id sz : Nat) (ty : TypeId) (ht : s.e.get t = V.nil) (hid : s.s.get id = none) : Sub C s ⟨(t, .acc id sz 0) :: s.e, (id, some ⟨ty, []⟩) :: s.s, s.ds⟩ := fun φ a w hr => by
  obtain ⟨e, S, ds⟩ := s
  have hφ := Phi.set_ext (hr.fresh hid) none
  have hown : ∀ b, own (φ.set id none) ((id, some ⟨ty, []⟩) :: S) b → own φ S b := by
    rintro b ⟨i, o1, g1, g2⟩
    by_cases hi : i = id
    · subst hi; rw [Phi.set_same] at g2; cases g2
    · rw [Store.get_cons, if_neg (fun x => hi x.symm)] at g1
      rw [Phi.set_other φ _ hi] at g2
      exact ⟨i, o1, g1, g2⟩
  have st : Still (C.K φ S) (C.K (φ.set id none) ((id, some ⟨ty, []⟩) :: S)) w w := ⟨Nat.le_refl _, fun _ _ _ => rfl, fun b hb _ hk => hb (hk.imp (fun x => x) (hown b)), fun _ _ _ x => x⟩
  have hb : ∀ i b, φ.set id none i = some (some b) → i ≠ id ∧ φ i = some (some b) := fun i b hb => by
    by_cases hi : i = id
    · subst hi; rw [Phi.set_same] at hb; cases hb
    · rw [Phi.set_other φ _ hi] at hb; exact ⟨hi, hb⟩
  have h1 := hr.step (φ' := φ.set id none) (S' := (id, some ⟨ty, []⟩) :: S) st hφ (fun i o1 hi => by
      by_cases hii : i = id
      · subst hii
        rw [Store.get_cons, if_pos rfl] at hi
        cases hi
        exact .inl ⟨Phi.set_same _ _ _, rfl⟩
      · rw [Store.get_cons, if_neg (fun x => hii x.symm)] at hi
        refine (hr.objs i o1 hi).imp (fun x => ⟨by rw [Phi.set_other φ _ hii]; exact x.1, x.2⟩) fun ⟨b, hb, ho⟩ => ⟨b, hφ i _ hb, ho.still st hφ rfl, hr.ours i o1 b hi hb⟩)
    (fun i i' o1 o2 b g1 g2 g3 g4 => by
      obtain ⟨q1, q2⟩ := hb i b g3
      obtain ⟨q3, q4⟩ := hb i' b g4
      rw [Store.get_cons, if_neg (fun x => q1 x.symm)] at g1
      rw [Store.get_cons, if_neg (fun x => q3 x.symm)] at g2
      exact hr.inj i i' o1 o2 b g1 g2 q2 q4)
    (fun i b hib => hr.lt i b (hb i b hib).2)
    (fun i hi => by
      rw [Store.get_cons]
      split
      · simp
      · rename_i hk
        rw [Phi.set_other φ _ (fun x => hk x.symm)] at hi
        exact hr.used i hi) hr.keep
  refine ⟨φ.set id none, h1.slot ?_⟩
  have := hr.slots t
  simp only [ht] at this
  rw [this.val_inv]
  exact .accNil _ _ (Phi.set_same _ _ _)

/-! ### Endings -/
theorem Fin.sub {P : Program} {C : Ctx P} {fn : Func} {res : V} {s s' : St} (hs : Sub C s s') (h : Fin C fn res s') : Fin C fn res s := fun φ a w hr => let ⟨φ', h1⟩ := hs φ a w hr; h φ' a w h1
theorem VVal.toK0 {P : Program} {C : Ctx P} {φ φ' : Phi} {S : Store} {w : World} {v : V} {u : Value} (h : VVal (C.K φ S) φ w v u) (hd : v.deep = true) : VVal C.K0 φ' w v u :=
  (VVal.still (K' := C.K0) (φ' := φ) ⟨Nat.le_refl _, fun _ _ _ => rfl, fun _ hb _ hk => hb (.inl hk), fun _ _ _ x => x⟩ (fun _ _ x => x) h).deep hd
theorem Fin.one {P : Program} {C : Ctx P} {fn : Func} {s : St} {t : Nat} {res : V} (hf : fn.results = #[.tmp t]) (hds : s.ds = []) (ht : s.e.get t = res) (hd : res.deep = true) : Fin C fn res s := fun φ a w hr => by
  refine ⟨by rw [hr.defs, hds], a.tmps.getD t undef, results_tmp hf _ _ _, ?_⟩
  have := hr.slots t
  rw [ht] at this
  exact this.toK0 hd
theorem Fin.two {P : Program} {C : Ctx P} {fn : Func} {s : St} {t t' : Nat} {v v' : V} (hf : fn.results = #[.tmp t, .tmp t']) (hds : s.ds = []) (ht : s.e.get t = v) (ht' : s.e.get t' = v') (hd : v.deep = true) (hd' : v'.deep = true) : Fin C fn (.tup [v, v']) s := fun φ a w hr => by
  refine ⟨by rw [hr.defs, hds], .tuple #[a.tmps.getD t undef, a.tmps.getD t' undef], results_tmp2 hf _ _ _, ?_⟩
  have h1 := hr.slots t
  rw [ht] at h1
  have h2 := hr.slots t'
  rw [ht'] at h2
  refine .tup [v, v'] [a.tmps.getD t undef, a.tmps.getD t' undef] rfl fun j d u hj hu => ?_
  match j with
  | 0 => cases hj; cases hu; exact h1.toK0 hd
  | 1 => cases hj; cases hu; exact h2.toK0 hd'
  | j + 2 => simp at hj
theorem Fin.three {P : Program} {C : Ctx P} {fn : Func} {s : St} {t t' t'' : Nat} {v v' v'' : V} (hf : fn.results = #[.tmp t, .tmp t', .tmp t'']) (hds : s.ds = []) (ht : s.e.get t = v) (ht' : s.e.get t' = v') (ht'' : s.e.get t'' = v'') (hd : v.deep = true) (hd' : v'.deep = true) (hd'' : v''.deep = true) : Fin C fn (.tup [v, v', v'']) s := fun φ a w hr => by
  refine ⟨by rw [hr.defs, hds], .tuple #[a.tmps.getD t undef, a.tmps.getD t' undef, a.tmps.getD t'' undef], results_tmp3 hf _ _ _, ?_⟩
  have h1 := hr.slots t
  rw [ht] at h1
  have h2 := hr.slots t'
  rw [ht'] at h2
  have h3 := hr.slots t''
  rw [ht''] at h3
  refine .tup [v, v', v''] [a.tmps.getD t undef, a.tmps.getD t' undef, a.tmps.getD t'' undef] rfl fun j d u hj hu => ?_
  match j with
  | 0 => cases hj; cases hu; exact h1.toK0 hd
  | 1 => cases hj; cases hu; exact h2.toK0 hd'
  | 2 => cases hj; cases hu; exact h3.toK0 hd''
  | j + 3 => simp at hj

end Go.Proofs.Ytjofdfiljokfoaa.TL
