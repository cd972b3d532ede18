/- A small logic for Go functions over the model: regions whose order is open. One walk in the text's order serves every order, where what touches the same is ordered. -/
import Derived.Test.YtjofdfiljokfoaaTL7
namespace Go.Proofs.Ytjofdfiljokfoaa.TL
open Go Go.RowKit
set_option linter.unusedVariables false
set_option linter.unusedSimpArgs false

/-! ### Updates, some of them -/
section
variable {α : Type}
def asc : List (Nat × α) → Nat → Option α
  | [], _ => none
  | (k, v) :: r, t => if k = t then some v else asc r t
def appG (u : List (Nat × α)) (G : Nat → α) : Nat → α := fun t => (asc u t).getD (G t)
def foldG (X : Nat → Bool) : Nat → List (List (Nat × α)) → (Nat → α) → Nat → α
  | _, [], G => G
  | k, u :: us, G => foldG X (k + 1) us (if X k = true then appG u G else G)
theorem foldG_congr {X Y : Nat → Bool} {t : Nat} : ∀ (us : List (List (Nat × α))) (k : Nat) (G H : Nat → α), (∀ (j : Nat) (u : List (Nat × α)), us[j]? = some u → asc u t ≠ none → X (k + j) = Y (k + j)) → G t = H t → foldG X k us G t = foldG Y k us H t
  | [], _, _, _, _, h => h
  | u :: us, k, G, H, hx, h => by
    simp only [foldG]
    refine foldG_congr us (k + 1) _ _ (fun j u' hj hu => by have := hx (j + 1) u' (by simpa using hj) hu; rwa [show k + (j + 1) = k + 1 + j by omega] at this) ?_
    by_cases hu : asc u t = none
    · by_cases h1 : X k = true <;> by_cases h2 : Y k = true <;> simp [h1, h2, appG, hu, h]
    · have := hx 0 u rfl hu
      simp only [Nat.add_zero] at this
      rw [this]
      split
      · simp [appG, h]
      · exact h
theorem foldG_last {X : Nat → Bool} {t : Nat} {v : α} : ∀ (us : List (List (Nat × α))) (k : Nat) (G : Nat → α) (i : Nat) (u : List (Nat × α)), us[i]? = some u → X (k + i) = true → asc u t = some v → (∀ (j : Nat) (u : List (Nat × α)), i < j → us[j]? = some u → asc u t ≠ none → X (k + j) = false) → foldG X k us G t = v
  | [], _, _, i, u, h, _, _, _ => by simp at h
  | u0 :: us, k, G, 0, u, h, hx, hu, hl => by
    cases h
    simp only [Nat.add_zero] at hx
    simp only [foldG, hx, if_true]
    have := foldG_congr (X := X) (Y := fun _ => false) (t := t) us (k + 1) (appG u0 G) (appG u0 G) (fun j u' hj hu' => by have := hl (j + 1) u' (by omega) (by simpa using hj) hu'; rwa [show k + (j + 1) = k + 1 + j by omega] at this) rfl
    rw [this]
    have none : ∀ (us : List (List (Nat × α))) (k : Nat) (G : Nat → α), foldG (fun _ => false) k us G = G := by
      intro us
      induction us with
      | nil => intros; rfl
      | cons u us ih => intro k G; simp only [foldG]; exact ih _ _
    rw [none, appG, hu]; rfl
  | u0 :: us, k, G, i + 1, u, h, hx, hu, hl => by
    simp only [foldG]
    exact foldG_last us (k + 1) _ i u (by simpa using h) (by rwa [show k + (i + 1) = k + 1 + i by omega] at hx) hu (fun j u' hij hj hu' => by have := hl (j + 1) u' (by omega) (by simpa using hj) hu'; rwa [show k + (j + 1) = k + 1 + j by omega] at this)
theorem foldG_none {X : Nat → Bool} {t : Nat} (us : List (List (Nat × α))) (k : Nat) (G : Nat → α) (h : ∀ (j : Nat) (u : List (Nat × α)), us[j]? = some u → asc u t ≠ none → X (k + j) = false) : foldG X k us G t = G t := by
  have none : ∀ (us : List (List (Nat × α))) (k : Nat) (G : Nat → α), foldG (fun _ => false) k us G = G := by
    intro us
    induction us with
    | nil => intros; rfl
    | cons u us ih => intro k G; simp only [foldG]; exact ih _ _
  rw [foldG_congr (Y := fun _ => false) us k G G h rfl, none]
end

/-! ### States -/
def envUp (o : Oper) (it : It) : List (Nat × V) := match o.dst with | none => [] | some d => [(d, it.res)]
def stUp (it : It) : List (Nat × Option (Option Obj)) := it.mw.map fun p => (p.1, some p.2)
def appS (o : Oper) (it : It) (s : St) : St := ⟨putE o.dst it.res s.e, it.mw ++ s.s, s.ds⟩
def foldS (X : Nat → Bool) : Nat → List (Oper × It) → St → St
  | _, [], s => s
  | k, p :: r, s => foldS X (k + 1) r (if X k = true then appS p.1 p.2 s else s)
theorem Store.get_append : ∀ (m : List (Nat × Option Obj)) (S : Store) (t : Nat), Store.get (m ++ S) t = ((asc (m.map fun p => (p.1, some p.2)) t).getD (Store.get S t))
  | [], S, t => rfl
  | (k, v) :: m, S, t => by
    rw [List.cons_append, Store.get_cons, List.map_cons, asc]
    split
    · rfl
    · exact Store.get_append m S t
theorem appS_e (o : Oper) (it : It) (s : St) : (appS o it s).e.get = appG (envUp o it) s.e.get := by
  funext t
  cases h : o.dst with
  | none => simp [appS, envUp, putE, h, appG, asc]
  | some d => simp only [appS, envUp, putE, h, appG, asc, Env.get_cons]; split <;> rfl
theorem appS_s (o : Oper) (it : It) (s : St) : (appS o it s).s.get = appG (stUp it) s.s.get := by
  funext t
  exact Store.get_append it.mw s.s t
theorem foldS_e {X : Nat → Bool} : ∀ (ps : List (Oper × It)) (k : Nat) (s : St), (foldS X k ps s).e.get = foldG X k (ps.map fun p => envUp p.1 p.2) s.e.get
  | [], _, _ => rfl
  | p :: ps, k, s => by
    simp only [foldS, List.map_cons, foldG]
    rw [foldS_e ps]
    split
    · rw [appS_e]
    · rfl
theorem foldS_s {X : Nat → Bool} : ∀ (ps : List (Oper × It)) (k : Nat) (s : St), (foldS X k ps s).s.get = foldG X k (ps.map fun p => stUp p.2) s.s.get
  | [], _, _ => rfl
  | p :: ps, k, s => by
    simp only [foldS, List.map_cons, foldG]
    rw [foldS_s ps]
    split
    · rw [appS_s]
    · rfl
theorem foldS_ds {X : Nat → Bool} : ∀ (ps : List (Oper × It)) (k : Nat) (s : St), (foldS X k ps s).ds = s.ds
  | [], _, _ => rfl
  | p :: ps, k, s => by simp only [foldS]; rw [foldS_ds ps]; split <;> rfl

theorem own_get {φ : Phi} {S S' : Store} (h : S.get = S'.get) : own φ S = own φ S' := by funext b; simp only [own, h]
/-- Only what the slots and the objects read counts. -/
theorem Rel.eqv {P : Program} {C : Ctx P} {φ : Phi} {s s' : St} {a : Act} {w : World} (h : Rel C φ s a w) (he : s.e.get = s'.e.get) (hs : s.s.get = s'.s.get) (hd : s.ds = s'.ds) : Rel C φ s' a w := by
  have hK : C.K φ s.s = C.K φ s'.s := by funext b; simp only [Ctx.K, own_get hs]
  exact ⟨h.size, fun t => by rw [← hK, ← he]; exact h.slots t, fun id o hid => by rw [← hK]; exact h.objs id o (by rw [hs]; exact hid), fun id id' o o' b h1 h2 => h.inj id id' o o' b (by rw [hs]; exact h1) (by rw [hs]; exact h2),
    fun id o b h1 => h.ours id o b (by rw [hs]; exact h1), h.lt, fun id h1 => by rw [← hs]; exact h.used id h1, by rw [h.defs, hd], h.keep, h.fixed⟩

/-! ### An operation with its guard -/
def guardTmp (ops0 : Array Oper) (o : Oper) : List Nat := match o.guard with | none => [] | some (g, _) => ((ops0[g]?).bind (·.dst)).toList
def looks (ops0 : Array Oper) (o : Oper) : List Nat := opTmps o ++ guardTmp ops0 o
def OkG {P : Program} (C : Ctx P) (ops0 : Array Oper) (o : Oper) (s : St) (it : It) : Prop :=
  ∀ e S, (∀ t ∈ looks ops0 o, Env.get e t = s.e.get t) → (∀ id, id ∈ it.mr ∨ id ∈ it.mw.map (·.1) → Store.get S id = s.s.get id) → ∀ φ a w K Q, Rel C φ ⟨e, S, s.ds⟩ a w →
    (∀ φ' u w', Rel C φ' ⟨putE o.dst it.res e, it.mw ++ S, s.ds⟩ (a.put o.dst u) w' → K (a.put o.dst u) w') →
    if Region.wanted o (yielded ops0 a.tmps) then o.wpIn C.F 0 P a w K Q else (∀ f, o.about P w a.eval = some f → C.F.fn f) ∧ K (a.put o.dst undef) w

/-- What an operation that was passed over leaves. -/
abbrev V.un : V := .d (.val undef)
section
variable {P : Program} {C : Ctx P} {ops0 : Array Oper} {o : Oper} {rest : List Oper} {s : St} {q : St → Prop}
theorem OkG.plain {it : It} (h : Ok C o s it) (hg : o.guard = none) : OkG C ops0 o s it := fun e S he hS φ a w K Q hr hK => by
  rw [if_pos (by simp [Region.wanted, hg])]
  exact h e S (fun t ht => he t (List.mem_append_left _ ht)) hS φ a w K Q hr hK
theorem OkG.want {it : It} {g t : Nat} {want : Bool} (h : Ok C o s it) (hg : o.guard = some (g, want)) (ht : (ops0[g]?).bind (·.dst) = some t) (hb : s.e.get t = V.b want) (hN : t < C.N) : OkG C ops0 o s it := fun e S he hS φ a w K Q hr hK => by
  have hy := yielded_of hr ht (show Env.get e t = V.b want by rw [he t (List.mem_append_right _ (by simp [guardTmp, hg, ht])), hb]) hN
  rw [if_pos (by simp [Region.wanted, hg, hy])]
  exact h e S (fun t ht => he t (List.mem_append_left _ ht)) hS φ a w K Q hr hK
theorem yielded_un {φ : Phi} {a : Act} {w : World} {g t : Nat} (hr : Rel C φ s a w) (ht : (ops0[g]?).bind (·.dst) = some t) (hb : s.e.get t = V.un) (hN : t < C.N) : yielded ops0 a.tmps g = none := by
  have h := hr.slots t
  rw [hb] at h
  have h := h.val_inv
  have hs : t < a.tmps.size := by rw [hr.size]; exact hN
  have h2 : a.tmps[t]? = some undef := by
    rw [Array.getElem?_eq_getElem hs]
    simpa [Array.getD, hs] using h
  simp only [yielded, ht, Option.bind_some, h2]
  rfl
/-- What hangs on an operation that was passed over is passed over. -/
theorem OkG.passU {g t : Nat} {want : Bool} (hg : o.guard = some (g, want)) (ht : (ops0[g]?).bind (·.dst) = some t) (hb : s.e.get t = V.un) (hN : t < C.N) (hd : ∀ d, o.dst = some d → d < C.N) : OkG C ops0 o s ⟨[], [], V.un⟩ := fun e S he hS φ a w K Q hr hK => by
  have hy := yielded_un hr ht (show Env.get e t = V.un by rw [he t (List.mem_append_right _ (by simp [guardTmp, hg, ht])), hb]) hN
  rw [if_neg (by simp [Region.wanted, hg, hy])]
  refine ⟨about_wide (C := C) _ _, hK φ _ w ?_⟩
  cases hdst : o.dst with
  | none => exact hr
  | some d => exact hr.put (hd d hdst) (.d _ _ (.val _))
theorem OkG.pass {g t : Nat} {want b : Bool} (hg : o.guard = some (g, want)) (ht : (ops0[g]?).bind (·.dst) = some t) (hb : s.e.get t = V.b b) (hbw : b ≠ want) (hN : t < C.N) (hd : ∀ d, o.dst = some d → d < C.N) : OkG C ops0 o s ⟨[], [], V.un⟩ := fun e S he hS φ a w K Q hr hK => by
  have hy := yielded_of hr ht (show Env.get e t = V.b b by rw [he t (List.mem_append_right _ (by simp [guardTmp, hg, ht])), hb]) hN
  rw [if_neg (by simp [Region.wanted, hg, hy, hbw])]
  refine ⟨about_wide (C := C) _ _, hK φ _ w ?_⟩
  cases hdst : o.dst with
  | none => exact hr
  | some d => exact hr.put (hd d hdst) (.d _ _ (.val _))

/-- A walk in the text's order. -/
inductive DL {P : Program} (C : Ctx P) (ops0 : Array Oper) : List (Oper × It) → St → St → Prop
  | nil (s : St) : DL C ops0 [] s s
  | cons {o : Oper} {it : It} {ps : List (Oper × It)} {s s' : St} (h : OkG C ops0 o s it) (r : DL C ops0 ps (appS o it s) s') : DL C ops0 ((o, it) :: ps) s s'
theorem DL.at {ps : List (Oper × It)} {s s' : St} (h : DL C ops0 ps s s') : ∀ (i : Nat) (p : Oper × It), ps[i]? = some p → OkG C ops0 p.1 (foldS (fun j => decide (j < i)) 0 ps s) p.2 := by
  have key : ∀ {ps : List (Oper × It)} {s s' : St}, DL C ops0 ps s s' → ∀ (k i : Nat) (p : Oper × It), ps[i]? = some p → OkG C ops0 p.1 (foldS (fun j => decide (j < k + i)) k ps s) p.2 := by
    intro ps s s' h
    induction h with
    | nil s => intro k i p hp; simp at hp
    | cons h r ih =>
      intro k i p hp
      cases i with
      | zero =>
        cases hp
        have none : ∀ (ps : List (Oper × It)) (k' : Nat) (s : St), k ≤ k' → foldS (fun j => decide (j < k + 0)) k' ps s = s := by
          intro ps
          induction ps with
          | nil => intros; rfl
          | cons p ps ih => intro k' s hk; simp only [foldS]; rw [if_neg (by simp; omega)]; exact ih _ _ (by omega)
        rw [none _ _ _ (Nat.le_refl _)]
        exact h
      | succ i =>
        simp only [foldS]
        rw [if_pos (by simp)]
        have := ih (k + 1) i p (by simpa using hp)
        rwa [show k + 1 + i = k + (i + 1) by omega] at this
  intro i p hp
  have := key h 0 i p hp
  simpa using this
theorem DL.end_ {ps : List (Oper × It)} {s s' : St} (h : DL C ops0 ps s s') : ∀ k, foldS (fun _ => true) k ps s = s' := by
  induction h with
  | nil s => intro k; rfl
  | cons h r ih => intro k; simp only [foldS, if_true]; exact ih (k + 1)
end

/-! ### What has to come first -/
def deps (o : Oper) : List Nat := (o.after.toList.filter (Region.binds .any)).map (·.on)
/-- Of each operation the bits of all that comes ahead of it. -/
def masks : List Oper → List Nat → List Nat
  | [], acc => acc
  | o :: r, acc => masks r (acc ++ [(deps o).foldl (fun m i => m ||| (2 ^ i ||| acc.getD i 0)) 0])
def backB : Nat → List Oper → Bool
  | _, [] => true
  | k, o :: r => (deps o).all (fun i => decide (i < k)) && backB (k + 1) r
def touch (ops0 : Array Oper) (p q : Oper × It) : Bool :=   -- do they touch the same, and one of them writes it?
  (match p.1.dst with | none => false | some d => (looks ops0 q.1).contains d || q.1.dst == some d) ||
  (match q.1.dst with | none => false | some d => (looks ops0 p.1).contains d) ||
  (p.2.mw.any fun x => (q.2.mr.contains x.1) || q.2.mw.any fun y => x.1 == y.1) || (q.2.mw.any fun x => p.2.mr.contains x.1)
def orderB (ops0 : Array Oper) (ms : List Nat) : Nat → List (Oper × It) → List (Oper × It) → Bool   -- done: reversed prefix is not kept; each later one against each earlier one
  | _, _, [] => true
  | k, done, q :: r => ((done.zipIdx).all fun p => !touch ops0 p.1 q || (ms.getD k 0).testBit p.2) && orderB ops0 ms (k + 1) (done ++ [q]) r

theorem masks_acc : ∀ (l : List Oper) (acc : List Nat), ∃ m, masks l acc = acc ++ m
  | [], acc => ⟨[], by simp [masks]⟩
  | o :: r, acc => by
    obtain ⟨m, hm⟩ := masks_acc r (acc ++ [(deps o).foldl (fun m i => m ||| (2 ^ i ||| acc.getD i 0)) 0])
    exact ⟨_ :: m, by rw [masks, hm, List.append_assoc]; rfl⟩
theorem fold_bits (acc : List Nat) : ∀ (ds : List Nat) (m : Nat) (i : Nat), (ds.foldl (fun m i => m ||| (2 ^ i ||| acc.getD i 0)) m).testBit i = true → m.testBit i = true ∨ ∃ k ∈ ds, k = i ∨ (acc.getD k 0).testBit i = true
  | [], m, i, h => .inl h
  | d :: ds, m, i, h => by
    rcases fold_bits acc ds _ i h with h | ⟨k, hk, h⟩
    · simp only [Nat.testBit_or, Bool.or_eq_true, Nat.testBit_two_pow, decide_eq_true_eq] at h
      rcases h with h | h | h
      · exact .inl h
      · exact .inr ⟨d, by simp, .inl h⟩
      · exact .inr ⟨d, by simp, .inr h⟩
    · exact .inr ⟨k, by simp [hk], h⟩
theorem masks_spec : ∀ (l : List Oper) (acc : List Nat) (pre : List Oper), pre.length = acc.length →
    (∀ (j : Nat) (o : Oper) (i : Nat), pre[j]? = some o → (acc.getD j 0).testBit i = true → ∃ k ∈ deps o, k = i ∨ (k < j ∧ (acc.getD k 0).testBit i = true)) → backB acc.length l = true →
    ∀ (j : Nat) (o : Oper) (i : Nat), (pre ++ l)[j]? = some o → ((masks l acc).getD j 0).testBit i = true → ∃ k ∈ deps o, k = i ∨ (k < j ∧ ((masks l acc).getD k 0).testBit i = true)
  | [], acc, pre, hl, h, _, j, o, i, hj, hb => h j o i (by simpa using hj) (by simpa [masks] using hb)
  | o0 :: r, acc, pre, hl, h, hback, j, o, i, hj, hb => by
    simp only [backB, Bool.and_eq_true, List.all_eq_true, decide_eq_true_eq] at hback
    rw [masks] at hb ⊢
    refine masks_spec r (acc ++ [(deps o0).foldl (fun m i => m ||| (2 ^ i ||| acc.getD i 0)) 0]) (pre ++ [o0]) (by simp [hl]) (fun j o i hj hb => ?_) (by simpa using hback.2) j o i (by simpa using hj) hb
    by_cases hjl : j < pre.length
    · rw [List.getElem?_append_left hjl] at hj
      rw [List.getD_eq_getElem?_getD, List.getElem?_append_left (by omega), ← List.getD_eq_getElem?_getD] at hb
      obtain ⟨k, hk, hki⟩ := h j o i hj hb
      refine ⟨k, hk, hki.imp (fun x => x) fun ⟨x, y⟩ => ⟨x, ?_⟩⟩
      rw [List.getD_eq_getElem?_getD, List.getElem?_append_left (by omega), ← List.getD_eq_getElem?_getD]; exact y
    · have hje : j = pre.length := by
        have := (List.getElem?_eq_some_iff.1 hj).1
        simp at this; omega
      subst hje
      simp at hj
      subst hj
      rw [List.getD_eq_getElem?_getD, List.getElem?_append_right (by omega)] at hb
      simp only [hl, Nat.sub_self, List.getElem?_cons_zero, Option.getD_some] at hb
      rcases fold_bits acc (deps o0) 0 i hb with h0 | ⟨k, hk, hki⟩
      · simp at h0
      · have hlt := hback.1 k hk
        refine ⟨k, hk, hki.imp (fun x => x) fun y => ⟨by omega, ?_⟩⟩
        rw [List.getD_eq_getElem?_getD, List.getElem?_append_left hlt, ← List.getD_eq_getElem?_getD]; exact y

theorem orderB_spec {ops0 : Array Oper} {ms : List Nat} : ∀ (r done : List (Oper × It)) (k : Nat), done.length = k → orderB ops0 ms k done r = true →
    ∀ (i j : Nat) (p q : Oper × It), (done ++ r)[i]? = some p → (done ++ r)[j]? = some q → i < j → k ≤ j → touch ops0 p q = true → (ms.getD j 0).testBit i = true
  | [], done, k, hl, _, i, j, p, q, _, hj, _, hk, _ => by
    have := (List.getElem?_eq_some_iff.1 hj).1
    simp at this; omega
  | x :: r, done, k, hl, h, i, j, p, q, hi, hj, hij, hk, ht => by
    simp only [orderB, Bool.and_eq_true, List.all_eq_true, Bool.or_eq_true, Bool.not_eq_true'] at h
    by_cases hjk : j = k
    · subst hjk
      have hx : x = q := by
        rw [List.getElem?_append_right (by omega), hl, Nat.sub_self] at hj
        simpa using hj
      subst hx
      have hd : done[i]? = some p := by rwa [List.getElem?_append_left (by omega)] at hi
      have := h.1 (p, i) (by rw [List.mem_zipIdx_iff_getElem?]; exact hd)
      rcases this with h1 | h1
      · rw [ht] at h1; cases h1
      · exact h1
    · exact orderB_spec r (done ++ [x]) (k + 1) (by simp [hl]) h.2 i j p q (by simpa using hi) (by simpa using hj) hij (by omega) ht

theorem asc_ne {α : Type} : ∀ {u : List (Nat × α)} {t : Nat}, asc u t ≠ none → t ∈ u.map (·.1)
  | [], t, h => absurd rfl h
  | (k, v) :: r, t, h => by
    rw [asc] at h
    split at h
    · rename_i hk; subst hk; simp
    · simp [asc_ne h]
theorem envUp_touch {ops0 : Array Oper} {p q : Oper × It} {t : Nat} (h : asc (envUp p.1 p.2) t ≠ none) (hq : t ∈ looks ops0 q.1 ∨ asc (envUp q.1 q.2) t ≠ none) : touch ops0 p q = true ∧ touch ops0 q p = true := by
  have hd : ∀ {p : Oper × It}, asc (envUp p.1 p.2) t ≠ none → p.1.dst = some t := fun {p} h => by
    have := asc_ne h
    simp only [envUp] at this
    cases hd : p.1.dst with
    | none => rw [hd] at this; simp at this
    | some d => rw [hd] at this; simp at this; rw [this]
  have hp := hd h
  rcases hq with hq | hq
  · simp [touch, hp, hq]
  · have hq := hd hq
    simp [touch, hp, hq]
theorem stUp_touch {ops0 : Array Oper} {p q : Oper × It} {t : Nat} (h : asc (stUp p.2) t ≠ none) (hq : (t ∈ q.2.mr ∨ t ∈ q.2.mw.map (·.1)) ∨ asc (stUp q.2) t ≠ none) : touch ops0 p q = true ∧ touch ops0 q p = true := by
  have hd : ∀ {p : Oper × It}, asc (stUp p.2) t ≠ none → t ∈ p.2.mw.map (·.1) := fun {p} h => by
    have := asc_ne h
    simpa [stUp] using this
  have hp := hd h
  obtain ⟨x, hx, rfl⟩ := List.mem_map.1 hp
  have key : (x.1 ∈ q.2.mr) ∨ x.1 ∈ q.2.mw.map (·.1) := by
    rcases hq with hq | hq
    · exact hq
    · exact .inr (hd hq)
  rcases key with hq | hq
  · constructor
    · simp only [touch, Bool.or_eq_true, List.any_eq_true]
      exact .inl (.inr ⟨x, hx, .inl (by simpa using hq)⟩)
    · simp only [touch, Bool.or_eq_true, List.any_eq_true]
      exact .inr ⟨x, hx, by simpa using hq⟩
  · obtain ⟨y, hy, hyx⟩ := List.mem_map.1 hq
    constructor
    · simp only [touch, Bool.or_eq_true, List.any_eq_true]
      exact .inl (.inr ⟨x, hx, .inr ⟨y, hy, by simp [hyx]⟩⟩)
    · simp only [touch, Bool.or_eq_true, List.any_eq_true]
      exact .inl (.inr ⟨y, hy, .inr ⟨x, hx, by simp [hyx]⟩⟩)

section
variable {P : Program} {C : Ctx P} {ops : List Oper} {ps : List (Oper × It)} {s0 s1 : St}

def closed (ops : List Oper) (X : Nat → Bool) : Prop := ∀ (j : Nat) (o : Oper), ops[j]? = some o → X j = true → ∀ i ∈ deps o, X i = true
theorem closed_mask {X : Nat → Bool} {ms : List Nat} (hms : ∀ (j : Nat) (o : Oper) (i : Nat), ops[j]? = some o → (ms.getD j 0).testBit i = true → ∃ k ∈ deps o, k = i ∨ (k < j ∧ (ms.getD k 0).testBit i = true)) (hlen : ∀ k, ops[k]? = none → ms.getD k 0 = 0)
    (hc : closed ops X) : ∀ (j i : Nat), X j = true → (ms.getD j 0).testBit i = true → X i = true := by
  intro j
  induction j using Nat.strongRecOn with
  | _ j ih =>
    intro i hj hb
    cases ho : ops[j]? with
    | none => rw [hlen j ho] at hb; simp at hb
    | some o =>
      obtain ⟨k, hk, hki⟩ := hms j o i ho hb
      have hXk := hc j o ho hj k hk
      rcases hki with rfl | ⟨hlt, hb⟩
      · exact hXk
      · exact ih k hlt i hXk hb

theorem any_step (hps : ps.map (·.1) = ops) (hDL : DL C ops.toArray ps s0 s1) {ms : List Nat}
    (hms : ∀ (j : Nat) (o : Oper) (i : Nat), ops[j]? = some o → (ms.getD j 0).testBit i = true → ∃ k ∈ deps o, k = i ∨ (k < j ∧ (ms.getD k 0).testBit i = true)) (hlen : ∀ k, ops[k]? = none → ms.getD k 0 = 0)
    (hord : ∀ (i j : Nat) (p q : Oper × It), ps[i]? = some p → ps[j]? = some q → i < j → touch ops.toArray p q = true → (ms.getD j 0).testBit i = true) {X : Nat → Bool} (hc : closed ops X) {i : Nat} {p : Oper × It} (hp : ps[i]? = some p) (hXi : X i = false)
    (hpre : ∀ k ∈ deps p.1, X k = true) : 
    OkG C ops.toArray p.1 (foldS X 0 ps s0) p.2 ∧ (appS p.1 p.2 (foldS X 0 ps s0)).e.get = (foldS (fun j => X j || j == i) 0 ps s0).e.get ∧ (appS p.1 p.2 (foldS X 0 ps s0)).s.get = (foldS (fun j => X j || j == i) 0 ps s0).s.get := by
  have hop : ops[i]? = some p.1 := by rw [← hps, List.getElem?_map, hp]; rfl
  -- all that comes ahead of i has been done
  have ahead : ∀ k, (ms.getD i 0).testBit k = true → X k = true := fun k hb => by
    obtain ⟨k', hk', h⟩ := hms i p.1 k hop hb
    rcases h with rfl | ⟨_, h⟩
    · exact hpre _ hk'
    · exact closed_mask hms hlen hc k' k (hpre _ hk') h
  have before : ∀ (j : Nat) (q : Oper × It), ps[j]? = some q → j < i → touch ops.toArray q p = true → X j = true := fun j q hq hj ht => ahead j (hord j i q p hq hp hj ht)
  have after : ∀ (j : Nat) (q : Oper × It), ps[j]? = some q → i < j → touch ops.toArray p q = true → X j = false := fun j q hq hj ht => by
    cases hX : X j with
    | false => rfl
    | true =>
      have := closed_mask hms hlen hc j i hX (hord i j p q hp hq hj ht)
      rw [hXi] at this; cases this
  have getp : ∀ {α : Type} (f : Oper × It → List (Nat × α)) (j : Nat) (u : List (Nat × α)), (ps.map f)[j]? = some u → ∃ q, ps[j]? = some q ∧ f q = u := fun f j u hu => by
    rw [List.getElem?_map] at hu
    cases hq : ps[j]? with
    | none => rw [hq] at hu; cases hu
    | some q => rw [hq] at hu; cases hu; exact ⟨q, rfl, rfl⟩
  have agree : ∀ (j : Nat) (q : Oper × It), ps[j]? = some q → (j < i → touch ops.toArray q p = true) → (i < j → touch ops.toArray p q = true) → X (0 + j) = decide (0 + j < i) := fun j q hq h1 h2 => by
    rw [Nat.zero_add]
    rcases Nat.lt_trichotomy j i with h | h | h
    · rw [before j q hq h (h1 h)]; simp [h]
    · subst h; rw [hXi]; simp
    · rw [after j q hq h (h2 h)]; simp; omega
  refine ⟨?_, ?_, ?_⟩
  · have h0 := hDL.at i p hp
    intro e S he hS φ a w K Q hr hK
    have hds : (foldS X 0 ps s0).ds = s0.ds := foldS_ds ps 0 s0
    have hds' : (foldS (fun j => decide (j < i)) 0 ps s0).ds = s0.ds := foldS_ds ps 0 s0
    rw [hds] at hr hK
    have := h0 e S (fun t ht => ?_) (fun id hid => ?_) φ a w K Q (by rw [hds']; exact hr) (by rw [hds']; exact hK)
    · exact this
    · rw [he t ht, foldS_e, foldS_e]
      refine foldG_congr _ 0 _ _ (fun j u hj hu => ?_) rfl
      obtain ⟨q, hq, rfl⟩ := getp _ j u hj
      have := envUp_touch (ops0 := ops.toArray) (q := p) hu (.inl ht)
      exact agree j q hq (fun _ => this.1) (fun _ => this.2)
    · rw [hS id hid, foldS_s, foldS_s]
      refine foldG_congr _ 0 _ _ (fun j u hj hu => ?_) rfl
      obtain ⟨q, hq, rfl⟩ := getp _ j u hj
      have := stUp_touch (ops0 := ops.toArray) (q := p) hu (.inl hid)
      exact agree j q hq (fun _ => this.1) (fun _ => this.2)
  · funext t
    rw [appS_e, foldS_e, foldS_e, appG]
    cases hu : asc (envUp p.1 p.2) t with
    | some v =>
      refine (foldG_last _ 0 _ i (envUp p.1 p.2) (by rw [List.getElem?_map, hp]; rfl) (by simp) hu (fun j u hij hj hne => ?_)).symm
      obtain ⟨q, hq, rfl⟩ := getp _ j u hj
      have := envUp_touch (ops0 := ops.toArray) (p := p) (q := q) (by rw [hu]; simp) (.inr hne)
      have h1 := after j q hq hij this.1
      simp [h1]; omega
    | none =>
      refine foldG_congr _ 0 _ _ (fun j u hj hne => ?_) rfl
      obtain ⟨q, hq, rfl⟩ := getp _ j u hj
      have : j ≠ i := fun e => by subst e; rw [hp] at hq; cases hq; exact hne hu
      simp [this]
  · funext t
    rw [appS_s, foldS_s, foldS_s, appG]
    cases hu : asc (stUp p.2) t with
    | some v =>
      refine (foldG_last _ 0 _ i (stUp p.2) (by rw [List.getElem?_map, hp]; rfl) (by simp) hu (fun j u hij hj hne => ?_)).symm
      obtain ⟨q, hq, rfl⟩ := getp _ j u hj
      have := stUp_touch (ops0 := ops.toArray) (p := p) (q := q) (by rw [hu]; simp) (.inr hne)
      have h1 := after j q hq hij this.1
      simp [h1]; omega
    | none =>
      refine foldG_congr _ 0 _ _ (fun j u hj hne => ?_) rfl
      obtain ⟨q, hq, rfl⟩ := getp _ j u hj
      have : j ≠ i := fun e => by subst e; rw [hp] at hq; cases hq; exact hne hu
      simp [this]

/-- How many are left. -/
def leftN (n : Nat) (listed : Array Bool) : Nat := ((List.range n).filter fun j => !listed.getD j false).length
theorem left_lt {n i : Nat} {listed : Array Bool} (hi : i < n) (hl : listed.getD i false = false) (hs : listed.size = n) : leftN n (listed.setIfInBounds i true) < leftN n listed := by
  have h1 : (listed.setIfInBounds i true).getD i false = true := by simp [hs, hi]
  have h2 : ∀ j, i ≠ j → (listed.setIfInBounds i true).getD j false = listed.getD j false := fun j hj => getD_set_ne false hj
  have key : ∀ (f g : Nat → Bool), f i = true → g i = false → (∀ j, i ≠ j → f j = g j) → ∀ (l : List Nat), ((l.filter fun j => !f j).length ≤ (l.filter fun j => !g j).length) ∧ (i ∈ l → (l.filter fun j => !f j).length < (l.filter fun j => !g j).length) := by
    intro f g hf hg hfg l
    induction l with
    | nil => exact ⟨Nat.le_refl _, fun h => by simp at h⟩
    | cons x l ih =>
      by_cases hx : i = x
      · subst hx
        have e1 : ((i :: l).filter fun j => !f j) = l.filter fun j => !f j := by rw [List.filter_cons, hf]; rfl
        have e2 : ((i :: l).filter fun j => !g j) = i :: l.filter fun j => !g j := by rw [List.filter_cons, hg]; rfl
        rw [e1, e2, List.length_cons]
        exact ⟨by omega, fun _ => by omega⟩
      · have e := hfg x hx
        cases hgx : g x with
        | false =>
          have e1 : ((x :: l).filter fun j => !f j) = x :: l.filter fun j => !f j := by rw [List.filter_cons, e, hgx]; rfl
          have e2 : ((x :: l).filter fun j => !g j) = x :: l.filter fun j => !g j := by rw [List.filter_cons, hgx]; rfl
          rw [e1, e2, List.length_cons, List.length_cons]
          exact ⟨by omega, fun hm' => by have := ih.2 ((List.mem_cons.1 hm').resolve_left hx); omega⟩
        | true =>
          have e1 : ((x :: l).filter fun j => !f j) = l.filter fun j => !f j := by rw [List.filter_cons, e, hgx]; rfl
          have e2 : ((x :: l).filter fun j => !g j) = l.filter fun j => !g j := by rw [List.filter_cons, hgx]; rfl
          rw [e1, e2]
          exact ⟨ih.1, fun hm' => ih.2 ((List.mem_cons.1 hm').resolve_left hx)⟩
  exact (key (fun j => (listed.setIfInBounds i true).getD j false) (fun j => listed.getD j false) h1 hl h2 (List.range n)).2 (List.mem_range.2 hi)
theorem T.draw {id : Nat} {q : Exit → St → Prop} (hm : P.follows .mixedOrders = true) (ps : List (Oper × It)) (hps : ps.map (·.1) = ops) (hDL : DL C ops.toArray ps s0 s1) (hback : backB 0 ops = true) (hord : orderB ops.toArray (masks ops []) 0 [] ps = true) (hq : q .normal s1) : T C (.region id ops.toArray true) s0 q := by
  obtain ⟨ms, hmse⟩ : ∃ ms, ms = masks ops [] := ⟨_, rfl⟩
  have hms : ∀ (j : Nat) (o : Oper) (i : Nat), ops[j]? = some o → (ms.getD j 0).testBit i = true → ∃ k ∈ deps o, k = i ∨ (k < j ∧ (ms.getD k 0).testBit i = true) := by
    rw [hmse]
    intro j o i hj hb
    exact masks_spec ops [] [] rfl (fun j o i hj => by simp at hj) hback j o i (by simpa using hj) hb
  have hlen : ∀ k, ops[k]? = none → ms.getD k 0 = 0 := fun k hk => by
    have hl : ∀ (l : List Oper) (acc : List Nat), (masks l acc).length = acc.length + l.length := by
      intro l
      induction l with
      | nil => intro acc; simp [masks]
      | cons o l ih => intro acc; rw [masks, ih]; simp; omega
    have := hl ops []
    rw [List.getD_eq_getElem?_getD, List.getElem?_eq_none (by rw [hmse, this]; simpa using hk)]
    rfl
  have hord' : ∀ (i j : Nat) (p q : Oper × It), ps[i]? = some p → ps[j]? = some q → i < j → touch ops.toArray p q = true → (ms.getD j 0).testBit i = true := by
    rw [hmse] 
    intro i j p q hi hj hij ht
    exact orderB_spec ps [] 0 rfl hord i j p q (by simpa using hi) (by simpa using hj) hij (Nat.zero_le _) ht
  have hpl : ps.length = ops.length := by rw [← hps]; simp
  intro φ a w hr
  refine wpIn_region_any hm ?_
  have main : ∀ (fuel : Nat) (listed : Array Bool) φ a w, listed.size = ops.length → leftN ops.length listed ≤ fuel → closed ops (fun j => listed.getD j false) → Rel C φ (foldS (fun j => listed.getD j false) 0 ps s0) a w →
      wpAnyIn C.F 0 P .any ops.toArray (QQ C q) fuel listed a w := by
    -- where nothing is ready, all is done
    have done : ∀ (listed : Array Bool) φ a w, listed.size = ops.length → closed ops (fun j => listed.getD j false) → Rel C φ (foldS (fun j => listed.getD j false) 0 ps s0) a w → Region.ready .any ops.toArray listed = [] → QQ C q .normal a w := by
      intro listed φ a w hs hc hr hrd
      have all : ∀ j, j < ops.length → listed.getD j false = true := by
        intro j
        induction j using Nat.strongRecOn with
        | _ j ih =>
          intro hj
          cases hX : listed.getD j false with
          | true => rfl
          | false =>
            have : j ∈ Region.ready .any ops.toArray listed := by
              rw [mem_ready]
              refine ⟨by simp only [Array.getD_eq_getD_getElem?] at hX ⊢; rw [Array.getElem?_eq_getElem (by omega)] at hX ⊢; exact hX, ops[j], by simp [hj], fun e he hb => ?_⟩
              have hk : e.on ∈ deps ops[j] := List.mem_map.2 ⟨e, List.mem_filter.2 ⟨by simpa using he, hb⟩, rfl⟩
              have hlt : e.on < j := by
                have back : ∀ (l : List Oper) (k : Nat), backB k l = true → ∀ (j : Nat) (o : Oper), l[j]? = some o → ∀ i ∈ deps o, i < k + j := by
                  intro l
                  induction l with
                  | nil => intro k _ j o hj; simp at hj
                  | cons o l ih2 =>
                    intro k h j o' hj i hi
                    simp only [backB, Bool.and_eq_true, List.all_eq_true, decide_eq_true_eq] at h
                    cases j with
                    | zero => cases hj; exact h.1 i hi
                    | succ j => have := ih2 (k + 1) h.2 j o' (by simpa using hj) i hi; omega
                have := back ops 0 hback j ops[j] (List.getElem?_eq_getElem hj) _ hk
                omega
              exact ih _ hlt (by omega)
            rw [hrd] at this; cases this
      refine ⟨φ, s1, hq, hr.eqv ?_ ?_ ?_⟩
      · rw [← hDL.end_ 0, foldS_e, foldS_e]
        funext t
        refine foldG_congr _ 0 _ _ (fun j u hj _ => ?_) rfl
        have := (List.getElem?_eq_some_iff.1 hj).1
        rw [Nat.zero_add]
        exact all j (by simp at this; omega)
      · rw [← hDL.end_ 0, foldS_s, foldS_s]
        funext t
        refine foldG_congr _ 0 _ _ (fun j u hj _ => ?_) rfl
        have := (List.getElem?_eq_some_iff.1 hj).1
        rw [Nat.zero_add]
        exact all j (by simp at this; omega)
      · rw [← hDL.end_ 0, foldS_ds, foldS_ds]
    intro fuel
    induction fuel with
    | zero =>
      intro listed φ a w hs hf hc hr
      have hrd : Region.ready .any ops.toArray listed = [] := by
        rw [List.eq_nil_iff_forall_not_mem]
        intro j hj
        rw [mem_ready] at hj
        obtain ⟨h1, o, ho, _⟩ := hj
        have hjl : j < ops.length := by simpa using (Array.getElem?_eq_some_iff.1 ho).1
        have h2 : listed.getD j false = false := by simp only [Array.getD_eq_getD_getElem?] at h1 ⊢; rw [Array.getElem?_eq_getElem (by omega)] at h1 ⊢; exact h1
        have := left_lt hjl h2 hs
        omega
      exact ⟨hrd, done listed φ a w hs hc hr hrd⟩
    | succ fuel ih =>
      intro listed φ a w hs hf hc hr
      refine ⟨fun hrd => done listed φ a w hs hc hr hrd, fun i hi => ?_⟩
      rw [mem_ready] at hi
      obtain ⟨h1, o, ho, hdep⟩ := hi
      have hil : i < ops.length := by simpa using (Array.getElem?_eq_some_iff.1 ho).1
      have h2 : listed.getD i false = false := by simp only [Array.getD_eq_getD_getElem?] at h1 ⊢; rw [Array.getElem?_eq_getElem (by omega)] at h1 ⊢; exact h1
      obtain ⟨p, hp⟩ : ∃ p, ps[i]? = some p := ⟨ps[i]'(by omega), List.getElem?_eq_getElem (by omega)⟩
      have ho2 : ops[i]? = some o := by simpa using ho
      have hpo : p.1 = o := by rw [← hps, List.getElem?_map, hp] at ho2; exact Option.some.inj ho2
      have hdep' : ∀ k ∈ deps p.1, listed.getD k false = true := fun k hk => by
        rw [hpo] at hk
        obtain ⟨e, he, rfl⟩ := List.mem_map.1 hk
        rw [List.mem_filter] at he
        exact hdep e (by simpa using he.1) he.2
      obtain ⟨g1, g2, g3⟩ := any_step hps hDL hms hlen hord' hc hp h2 hdep'
      have hset : ∀ j, (listed.setIfInBounds i true).getD j false = (listed.getD j false || j == i) := fun j => by
        by_cases hji : i = j
        · subst hji; simp [hs, hil]
        · rw [getD_set_ne false hji]; simp; intro h; exact absurd h.symm hji
      have := g1 _ _ (fun _ _ => rfl) (fun _ _ => rfl) φ a w (wpAnyIn C.F 0 P .any ops.toArray (QQ C q) fuel (listed.setIfInBounds i true)) (QQ C q) hr (fun φ' u w' hr' => ?_)
      · unfold wpOpIn
        rw [ho]
        rw [hpo] at this
        exact this
      · refine ih (listed.setIfInBounds i true) φ' _ w' (by simp [hs]) (by have := left_lt hil h2 hs; omega) (fun j o' hj hX k hk => ?_) ?_
        · simp only [hset] at hX ⊢
          simp only [Bool.or_eq_true, beq_iff_eq] at hX ⊢
          rcases hX with hX | rfl
          · exact .inl (hc j o' hj hX k hk)
          · rw [ho2] at hj; cases hj
            exact .inl (by rw [hpo] at hdep'; exact hdep' k hk)
        · refine hr'.eqv ?_ ?_ ?_
          · have e1 : (fun j => (listed.setIfInBounds i true).getD j false) = fun j => (listed.getD j false || j == i) := funext hset
            rw [e1]; exact g2
          · have e1 : (fun j => (listed.setIfInBounds i true).getD j false) = fun j => (listed.getD j false || j == i) := funext hset
            rw [e1]; exact g3
          · exact (foldS_ds ps 0 s0).trans (foldS_ds ps 0 s0).symm
  have h0 : (fun j => (Array.replicate ops.toArray.size false).getD j false) = fun _ => false := by
    funext j
    simp [Array.getD_eq_getD_getElem?, Array.getElem?_replicate]
    split <;> rfl
  have hz : foldS (fun _ => false) 0 ps s0 = s0 := by
    have : ∀ (ps : List (Oper × It)) (k : Nat) (s : St), foldS (fun _ => false) k ps s = s := by
      intro ps
      induction ps with
      | nil => intros; rfl
      | cons p ps ih => intro k s; simp only [foldS]; exact ih _ _
    exact this _ _ _
  refine main ops.toArray.size _ φ a _ (by simp) ?_ (fun j o hj hX => ?_) ?_
  · unfold leftN
    refine Nat.le_trans (List.length_filter_le _ _) (by simp)
  · have := congrFun h0 j
    replace hX : (Array.replicate ops.toArray.size false).getD j false = true := hX
    rw [this] at hX; cases hX
  · rw [h0, hz]
    exact hr.heap rfl rfl rfl rfl
end

end Go.Proofs.Ytjofdfiljokfoaa.TL
