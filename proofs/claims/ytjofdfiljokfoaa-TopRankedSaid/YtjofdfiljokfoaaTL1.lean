/- A small logic for Go functions over the model: abstract values, what they say of a world, and how they abide its steps. -/
import Derived.RangeFuncIn
import Derived.OrdersIn
import Derived.TacticsIn
import Derived.WalkKit
import Derived.OwnWalkIn
import Derived.Below
namespace Go.Proofs.Ytjofdfiljokfoaa.TL
open Go Go.RowKit
set_option linter.unusedVariables false
set_option linter.unusedSimpArgs false

/-- Deep values: what is never written again. -/
inductive D where
  | val (v : Value)
  | list (sz : Nat) (es : List (List D))
  | box (cs : List D)
  | clo (f : Nat) (caps : List D)

/-- The blocks of one's own objects: none: not used; some none: a row that is nil still; some (some b): block b. -/
abbrev Phi := Nat → Option (Option Nat)

/-- Abstract values: deep ones, and references to what is one's own. -/
inductive V where
  | any
  | d (x : D)
  | agg (cs : List V)
  | tup (cs : List V)
  | ref (id sz off n : Nat)
  | acc (id sz n : Nat)
  | ptr (id off : Nat)
  | clo (f : Nat) (caps : List V)

abbrev V.i (k : IntKind) (n : Int) : V := .d (.val (.int k n))
abbrev V.int (n : Int) : V := .d (.val (.int .i64 n))
abbrev V.b (b : Bool) : V := .d (.val (.bool b))
abbrev V.nil : V := .d (.val (.slice none 0 0))
abbrev V.list (sz : Nat) (es : List (List D)) : V := .d (.list sz es)

/-- An abstract object: a block of cells. -/
structure Obj where
  t : TypeId
  cs : List V

abbrev Env := List (Nat × V)
def Env.get : Env → Nat → V
  | [], _ => .any
  | (k, v) :: r, t => if k = t then v else Env.get r t
/-- none: never used; some none: gone; some (some o): it lives. -/
abbrev Store := List (Nat × Option Obj)
def Store.get : Store → Nat → Option (Option Obj)
  | [], _ => none
  | (k, v) :: r, t => if k = t then some v else Store.get r t

/-- What a deep value says of a real one: all that it reads lies outside K. -/
inductive DVal (K : Nat → Prop) (w : World) : D → Value → Prop
  | val (v : Value) : DVal K w (.val v) v
  | list (sz : Nat) (es : List (List D)) (A : Option Addr) (cap : Nat) (xs : List (List Value)) (hl : xs.length = es.length) (hc : es.length ≤ cap) (hn : A = none → cap = 0)
      (hA : es ≠ [] → ∃ b o, A = some ⟨b, o, none⟩ ∧ ¬ K b ∧ b < w.heap.size ∧ ∀ (i : Nat) (ve : List Value), xs[i]? = some ve → ∀ (j : Nat) (u : Value), ve[j]? = some u → w.cell? ⟨b, o + i * sz + j, none⟩ = some u)
      (hs : ∀ (i : Nat) (e : List D) (ve : List Value), es[i]? = some e → xs[i]? = some ve → e.length = sz ∧ ve.length = sz)
      (hx : ∀ (i : Nat) (e : List D) (ve : List Value), es[i]? = some e → xs[i]? = some ve → ∀ (j : Nat) (d : D) (u : Value), e[j]? = some d → ve[j]? = some u → DVal K w d u) : DVal K w (.list sz es) (.slice A es.length cap)
  | box (cs : List D) (b o : Nat) (xs : List Value) (hl : xs.length = cs.length) (hK : ¬ K b) (hb : b < w.heap.size) (hc : ∀ j u, xs[j]? = some u → w.cell? ⟨b, o + j, none⟩ = some u)
      (hx : ∀ (j : Nat) (d : D) (u : Value), cs[j]? = some d → xs[j]? = some u → DVal K w d u) : DVal K w (.box cs) (.pointer (some ⟨b, o, none⟩))
  | clo (f : Nat) (caps : List D) (xs : List Value) (hl : xs.length = caps.length) (hx : ∀ (j : Nat) (d : D) (u : Value), caps[j]? = some d → xs[j]? = some u → DVal K w d u) :
      DVal K w (.clo f caps) (.func (.func f) #[] xs.toArray)

/-- From w to w' nothing outside K has turned, and nothing that was outside K is in K'. -/
structure Still (K K' : Nat → Prop) (w w' : World) : Prop where
  size : w.heap.size ≤ w'.heap.size
  block : ∀ b, ¬ K b → b < w.heap.size → w'.heap[b]? = w.heap[b]?
  out : ∀ b, ¬ K b → b < w.heap.size → ¬ K' b
  shape : ∀ b t m, w.shape? b = some (t, m) → w'.shape? b = some (t, m)

theorem lt_of_cell {w : World} {b o : Nat} {u : Value} (h : w.cell? ⟨b, o, none⟩ = some u) : b < w.heap.size := World.block_lt_of_cell? w _ h

theorem Still.cell {K K' : Nat → Prop} {w w' : World} (h : Still K K' w w') {b o : Nat} {u : Value} (hK : ¬ K b) (hc : w.cell? ⟨b, o, none⟩ = some u) : w'.cell? ⟨b, o, none⟩ = some u :=
  (World.cell?_of_block (h.block b hK (lt_of_cell hc))).trans hc

theorem get_of_len {α β : Type} {xs : List α} {ys : List β} (h : xs.length = ys.length) {j : Nat} {y : β} (hy : ys[j]? = some y) : ∃ x, xs[j]? = some x := by
  have := (List.getElem?_eq_some_iff.1 hy).1
  exact ⟨xs[j]'(by omega), List.getElem?_eq_getElem (by omega)⟩

theorem DVal.still {K K' : Nat → Prop} {w w' : World} (h : Still K K' w w') {d : D} {v : Value} (hv : DVal K w d v) : DVal K' w' d v := by
  induction hv with
  | val v => exact .val v
  | list sz es A cap xs hl hc hn hA hs hx ih =>
    refine .list sz es A cap xs hl hc hn (fun hne => ?_) hs ih
    obtain ⟨b, o, rfl, hK, hb, hcell⟩ := hA hne
    exact ⟨b, o, rfl, h.out b hK hb, Nat.lt_of_lt_of_le hb h.size, fun i ve hi j u hj => h.cell hK (hcell i ve hi j u hj)⟩
  | box cs b o xs hl hK hb hc hx ih => exact .box cs b o xs hl (h.out b hK hb) (Nat.lt_of_lt_of_le hb h.size) (fun j u hj => h.cell hK (hc j u hj)) ih
  | clo f caps xs hl hx ih => exact .clo f caps xs hl ih

/-- What an abstract value says of a real one; φ: the blocks of one's own objects. -/
inductive VVal (K : Nat → Prop) (φ : Phi) (w : World) : V → Value → Prop
  | any (v : Value) : VVal K φ w .any v
  | d (x : D) (v : Value) (h : DVal K w x v) : VVal K φ w (.d x) v
  | agg (cs : List V) (xs : List Value) (hl : xs.length = cs.length) (hx : ∀ (j : Nat) (d : V) (u : Value), cs[j]? = some d → xs[j]? = some u → VVal K φ w d u) : VVal K φ w (.agg cs) (.agg xs.toArray)
  | tup (cs : List V) (xs : List Value) (hl : xs.length = cs.length) (hx : ∀ (j : Nat) (d : V) (u : Value), cs[j]? = some d → xs[j]? = some u → VVal K φ w d u) : VVal K φ w (.tup cs) (.tuple xs.toArray)
  | ref (id sz off n b cap t m : Nat) (hφ : φ id = some (some b)) (hs : w.shape? b = some (t, m)) (hm : off + cap * sz ≤ m) (hn : n ≤ cap) (hc : cap ≤ maxLen) : VVal K φ w (.ref id sz off n) (.slice (some ⟨b, off, none⟩) n cap)
  | accNil (id sz : Nat) (hφ : φ id = some none) : VVal K φ w (.acc id sz 0) (.slice none 0 0)
  | accRow (id sz n b cap t : Nat) (hφ : φ id = some (some b)) (hs : w.shape? b = some (t, cap * sz)) (hn : n ≤ cap) (hc : cap ≤ maxLen) : VVal K φ w (.acc id sz n) (.slice (some ⟨b, 0, none⟩) n cap)
  | ptr (id off b : Nat) (hφ : φ id = some (some b)) : VVal K φ w (.ptr id off) (.pointer (some ⟨b, off, none⟩))
  | clo (f : Nat) (caps : List V) (xs : List Value) (hl : xs.length = caps.length) (hx : ∀ (j : Nat) (d : V) (u : Value), caps[j]? = some d → xs[j]? = some u → VVal K φ w d u) :
      VVal K φ w (.clo f caps) (.func (.func f) #[] xs.toArray)

theorem VVal.still {K K' : Nat → Prop} {φ φ' : Phi} {w w' : World} (h : Still K K' w w') (hφ : ∀ id b, φ id = some b → φ' id = some b) {d : V} {v : Value} (hv : VVal K φ w d v) : VVal K' φ' w' d v := by
  induction hv with
  | any v => exact .any v
  | d x v hx => exact .d x v (hx.still h)
  | agg cs xs hl hx ih => exact .agg cs xs hl ih
  | tup cs xs hl hx ih => exact .tup cs xs hl ih
  | ref id sz off n b cap t m h1 hs hm hn hc => exact .ref id sz off n b cap t m (hφ _ _ h1) (h.shape _ _ _ hs) hm hn hc
  | accNil id sz h1 => exact .accNil id sz (hφ _ _ h1)
  | accRow id sz n b cap t h1 hs hn hc => exact .accRow id sz n b cap t (hφ _ _ h1) (h.shape _ _ _ hs) hn hc
  | ptr id off b h1 => exact .ptr id off b (hφ _ _ h1)
  | clo f caps xs hl hx ih => exact .clo f caps xs hl ih

/-- An object at block b. -/
def ObjAt (K : Nat → Prop) (φ : Phi) (w : World) (o : Obj) (b : Nat) : Prop :=
  ∃ arr, w.heap[b]? = some (.cells arr o.t (0, 0)) ∧ o.cs.length ≤ arr.size ∧ ∀ (j : Nat) (v : V), o.cs[j]? = some v → ∃ u : Value, arr[j]? = some u ∧ u.oneCell' = true ∧ VVal K φ w v u

structure Ctx (P : Program) where
  ro : Option Nat      -- the round's loop
  N : Nat              -- temporaries
  w0 : World           -- where it began
  K0 : Nat → Prop      -- blocks that are not ours and that deep values avoid
  W0 : Nat → Prop      -- blocks that were there and may be written
  fx : Phi             -- names that stay

def Ctx.F {P : Program} (C : Ctx P) : Fence := { Fence.wide with round := C.ro }

structure St where
  e : Env
  s : Store
  ds : List Deferred

def own (φ : Phi) (s : Store) (b : Nat) : Prop := ∃ id o, s.get id = some (some o) ∧ φ id = some (some b)
def Ctx.K {P : Program} (C : Ctx P) (φ : Phi) (s : Store) (b : Nat) : Prop := C.K0 b ∨ own φ s b

structure KeepW {P : Program} (C : Ctx P) (w : World) : Prop where
  os : w.os = C.w0.os
  tape : w.tape = C.w0.tape
  output : w.output = C.w0.output
  size : C.w0.heap.size ≤ w.heap.size
  block : ∀ b, b < C.w0.heap.size → ¬ C.W0 b → w.heap[b]? = C.w0.heap[b]?
  k0 : ∀ b, C.K0 b → b < C.w0.heap.size
  shape : ∀ b t m, C.w0.shape? b = some (t, m) → w.shape? b = some (t, m)

structure Rel {P : Program} (C : Ctx P) (φ : Phi) (s : St) (a : Act) (w : World) : Prop where
  size : a.tmps.size = C.N
  slots : ∀ t, VVal (C.K φ s.s) φ w (s.e.get t) (a.tmps.getD t undef)
  objs : ∀ id o, s.s.get id = some (some o) → (φ id = some none ∧ o.cs = []) ∨ ∃ b, φ id = some (some b) ∧ ObjAt (C.K φ s.s) φ w o b
  inj : ∀ id id' o o' b, s.s.get id = some (some o) → s.s.get id' = some (some o') → φ id = some (some b) → φ id' = some (some b) → id = id'
  ours : ∀ id o b, s.s.get id = some (some o) → φ id = some (some b) → ¬ C.K0 b ∧ (C.W0 b ∨ C.w0.heap.size ≤ b)
  lt : ∀ id b, φ id = some (some b) → b < w.heap.size
  used : ∀ id, φ id ≠ none → s.s.get id ≠ none
  defs : a.defers = s.ds
  keep : KeepW C w
  fixed : ∀ id x, C.fx id = some x → φ id = some x


theorem ObjAt.still {K K' : Nat → Prop} {φ φ' : Phi} {w w' : World} (h : Still K K' w w') (hφ : ∀ id b, φ id = some b → φ' id = some b) {o : Obj} {b : Nat} (ho : ObjAt K φ w o b) (hb : w'.heap[b]? = w.heap[b]?) : ObjAt K' φ' w' o b := by
  obtain ⟨arr, h1, h2, h3⟩ := ho
  exact ⟨arr, hb.trans h1, h2, fun j v hj => let ⟨u, g1, g2, g3⟩ := h3 j v hj; ⟨u, g1, g2, g3.still h hφ⟩⟩

theorem Rel.step {P : Program} {C : Ctx P} {φ : Phi} {e : Env} {S : Store} {ds : List Deferred} {a : Act} {w : World} (h : Rel C φ ⟨e, S, ds⟩ a w) {φ' : Phi} {S' : Store} {w' : World}
    (st : Still (C.K φ S) (C.K φ' S') w w') (hφ : ∀ id b, φ id = some b → φ' id = some b)
    (ho : ∀ id o, S'.get id = some (some o) → (φ' id = some none ∧ o.cs = []) ∨ ∃ b, φ' id = some (some b) ∧ ObjAt (C.K φ' S') φ' w' o b ∧ ¬ C.K0 b ∧ (C.W0 b ∨ C.w0.heap.size ≤ b))
    (hi : ∀ id id' o o' b, S'.get id = some (some o) → S'.get id' = some (some o') → φ' id = some (some b) → φ' id' = some (some b) → id = id')
    (hlt : ∀ id b, φ' id = some (some b) → b < w'.heap.size) (hus : ∀ id, φ' id ≠ none → S'.get id ≠ none) (hk : KeepW C w') : Rel C φ' ⟨e, S', ds⟩ a w' where
  size := h.size
  slots := fun t => (h.slots t).still st hφ
  objs := fun id o hid => (ho id o hid).imp (fun x => x) (fun ⟨b, h1, h2, _⟩ => ⟨b, h1, h2⟩)
  inj := hi
  ours := fun id o b hid hb => by
    rcases ho id o hid with ⟨h1, _⟩ | ⟨b', h1, _, h3⟩
    · rw [hb] at h1; cases h1
    · obtain rfl : b' = b := Option.some.inj (Option.some.inj (h1.symm.trans hb))
      exact h3
  lt := hlt
  used := hus
  defs := h.defs
  keep := hk
  fixed := fun id x hx => hφ id x (h.fixed id x hx)

theorem Store.get_cons (k : Nat) (v : Option Obj) (S : Store) (t : Nat) : Store.get ((k, v) :: S) t = if k = t then some v else S.get t := rfl
theorem Env.get_cons (k : Nat) (v : V) (e : Env) (t : Nat) : Env.get ((k, v) :: e) t = if k = t then v else e.get t := rfl

theorem Rel.put {P : Program} {C : Ctx P} {φ : Phi} {e : Env} {S : Store} {ds : List Deferred} {a : Act} {w : World} (h : Rel C φ ⟨e, S, ds⟩ a w) {d : Nat} (hd : d < C.N) {v : V} {u : Value} (hv : VVal (C.K φ S) φ w v u) :
    Rel C φ ⟨(d, v) :: e, S, ds⟩ (a.put (some d) u) w where
  size := by simp [Act.put, h.size]
  slots := fun t => by
    show VVal _ _ _ (Env.get ((d, v) :: e) t) _
    rw [Env.get_cons]
    have hs : d < a.tmps.size := by rw [h.size]; exact hd
    by_cases hdt : d = t
    · subst hdt
      simp only [if_true, Act.put]
      rw [show (a.tmps.setIfInBounds d u).getD d undef = u by simp [Array.getD, hs]]
      exact hv
    · simp only [if_neg hdt, Act.put]
      rw [show (a.tmps.setIfInBounds d u).getD t undef = a.tmps.getD t undef by simp [Array.getD_eq_getD_getElem?, Array.getElem?_setIfInBounds_ne hdt]]
      exact h.slots t
  objs := h.objs
  inj := h.inj
  ours := h.ours
  lt := h.lt
  used := h.used
  defs := h.defs
  keep := h.keep
  fixed := h.fixed

theorem KeepW.mono {P : Program} {C : Ctx P} {w w' : World} (h : KeepW C w) (h1 : w'.os = w.os) (h2 : w'.tape = w.tape) (h3 : w'.output = w.output) (h4 : w.heap.size ≤ w'.heap.size)
    (h5 : ∀ b, b < C.w0.heap.size → ¬ C.W0 b → w'.heap[b]? = w.heap[b]?) (h6 : ∀ b t m, w.shape? b = some (t, m) → w'.shape? b = some (t, m)) : KeepW C w' :=
  ⟨h1.trans h.os, h2.trans h.tape, h3.trans h.output, Nat.le_trans h.size h4, fun b hb hw => (h5 b hb hw).trans (h.block b hb hw), h.k0, fun b t m hm => h6 b t m (h.shape b t m hm)⟩

/-- The heap as it was: a draw, say. -/
theorem Rel.heap {P : Program} {C : Ctx P} {φ : Phi} {s : St} {a : Act} {w w' : World} (h : Rel C φ s a w) (hh : w'.heap = w.heap) (h1 : w'.os = w.os) (h2 : w'.tape = w.tape) (h3 : w'.output = w.output) : Rel C φ s a w' := by
  obtain ⟨e, S, ds⟩ := s
  have st : Still (C.K φ S) (C.K φ S) w w' := ⟨by rw [hh]; exact Nat.le_refl _, fun b _ _ => by rw [hh], fun b hb _ => hb, fun b t m hm => by simpa [World.shape?, hh] using hm⟩
  refine h.step st (fun _ _ hb => hb) (fun id o hid => ?_) h.inj (fun id b hb => by rw [hh]; exact h.lt id b hb) h.used (h.keep.mono h1 h2 h3 (by rw [hh]; exact Nat.le_refl _) (fun b _ _ => by rw [hh]) st.shape)
  refine (h.objs id o hid).imp (fun x => x) fun ⟨b, hb, ho⟩ => ?_
  exact ⟨b, hb, ho.still st (fun _ _ hb => hb) (by rw [hh]), h.ours id o b hid hb⟩

theorem shape_of {w : World} {b : Nat} {arr : Array Value} {t : TypeId} {fr : Nat × Nat} (h : w.heap[b]? = some (.cells arr t fr)) : w.shape? b = some (t, arr.size) := by simp [World.shape?, h]

theorem Still.of {P : Program} {C : Ctx P} {φ φ' : Phi} {S S' : Store} {w w' : World} (hsz : w.heap.size ≤ w'.heap.size) (hb : ∀ b, ¬ own φ S b → b < w.heap.size → w'.heap[b]? = w.heap[b]?)
    (ho : ∀ b, own φ' S' b → own φ S b ∨ w.heap.size ≤ b) (hsh : ∀ b t m, own φ S b → w.shape? b = some (t, m) → w'.shape? b = some (t, m)) : Still (C.K φ S) (C.K φ' S') w w' where
  size := hsz
  block := fun b hK hlt => hb b (fun h => hK (.inr h)) hlt
  out := fun b hK hlt h => by
    rcases h with h | h
    · exact hK (.inl h)
    · rcases ho b h with h | h
      · exact hK (.inr h)
      · omega
  shape := fun b t m hm => by
    by_cases h : own φ S b
    · exact hsh b t m h hm
    · have hlt : b < w.heap.size := by
        simp only [World.shape?] at hm
        split at hm
        · rename_i heq; exact (Array.getElem?_eq_some_iff.1 heq).1
        · cases hm
      simpa [World.shape?, hb b h hlt] using hm

def Phi.set (φ : Phi) (id : Nat) (x : Option Nat) : Phi := fun i => if i = id then some x else φ i
theorem Phi.set_same (φ : Phi) (id : Nat) (x : Option Nat) : φ.set id x id = some x := by simp [Phi.set]
theorem Phi.set_other (φ : Phi) {id i : Nat} (x : Option Nat) (h : i ≠ id) : φ.set id x i = φ i := by simp [Phi.set, h]
theorem Rel.fresh {P : Program} {C : Ctx P} {φ : Phi} {s : St} {a : Act} {w : World} (h : Rel C φ s a w) {id : Nat} (hid : s.s.get id = none) : φ id = none := by
  cases hp : φ id with
  | none => rfl
  | some b => exact absurd hid (h.used id (by simp [hp]))
theorem Phi.set_ext {φ : Phi} {id : Nat} (hid : φ id = none) (x : Option Nat) : ∀ i b, φ i = some b → φ.set id x i = some b := fun i b hb => by
  by_cases hi : i = id
  · subst hi; rw [hid] at hb; cases hb
  · rw [Phi.set_other φ x hi]; exact hb

/-- A new object. -/
theorem Rel.alloc {P : Program} {C : Ctx P} {φ : Phi} {e : Env} {S : Store} {ds : List Deferred} {a : Act} {w : World} (h : Rel C φ ⟨e, S, ds⟩ a w) (id : Nat) (hid : S.get id = none) (o : Obj) (arr : Array Value)
    (hl : o.cs.length ≤ arr.size) (hc : ∀ (j : Nat) (v : V), o.cs[j]? = some v → ∃ u : Value, arr[j]? = some u ∧ u.oneCell' = true ∧ VVal (C.K φ S) φ w v u) :
    Rel C (φ.set id (some w.heap.size)) ⟨e, (id, some o) :: S, ds⟩ a (w.alloc (.cells arr o.t)) := by
  have hφ := Phi.set_ext (h.fresh hid) (some w.heap.size)
  have hown : ∀ b, own (φ.set id (some w.heap.size)) ((id, some o) :: S) b → own φ S b ∨ w.heap.size ≤ b := by
    rintro b ⟨i, o', h1, h2⟩
    by_cases hi : i = id
    · subst hi; rw [Phi.set_same] at h2; have := Option.some.inj (Option.some.inj h2); exact .inr (by omega)
    · rw [Store.get_cons, if_neg (fun x => hi x.symm)] at h1
      rw [Phi.set_other φ _ hi] at h2
      exact .inl ⟨i, o', h1, h2⟩
  have st : Still (C.K φ S) (C.K (φ.set id (some w.heap.size)) ((id, some o) :: S)) w (w.alloc (.cells arr o.t)) :=
    Still.of (by simp) (fun b _ hlt => Below.heap_alloc w _ b hlt) hown (fun b t m hb hm => by
      obtain ⟨i, o', h1, h2⟩ := hb
      have hlt := h.lt i b h2
      simpa [World.shape?, Below.heap_alloc w _ b hlt] using hm)
  refine h.step st hφ (fun i o' hi => ?_) (fun i i' o1 o2 b h1 h2 h3 h4 => ?_) (fun i b hb => ?_) (fun i hi => ?_) (h.keep.mono rfl rfl rfl (by simp) (fun b hb _ => Below.heap_alloc w _ b (Nat.lt_of_lt_of_le hb h.keep.size)) st.shape)
  · by_cases hii : i = id
    · subst hii
      rw [Store.get_cons, if_pos rfl] at hi
      obtain rfl := Option.some.inj (Option.some.inj hi)
      refine .inr ⟨w.heap.size, Phi.set_same _ _ _, ⟨arr, heap_alloc_new w _, hl, fun j v hj => ?_⟩, fun hk => ?_, .inr h.keep.size⟩
      · obtain ⟨u, g1, g2, g3⟩ := hc j v hj
        exact ⟨u, g1, g2, g3.still st hφ⟩
      · have := h.keep.k0 _ hk; have := h.keep.size; omega
    · rw [Store.get_cons, if_neg (fun x => hii x.symm)] at hi
      refine (h.objs i o' hi).imp (fun x => ⟨by rw [Phi.set_other φ _ hii]; exact x.1, x.2⟩) fun ⟨b, hb, ho⟩ => ?_
      exact ⟨b, hφ i _ hb, ho.still st hφ (Below.heap_alloc w _ b (h.lt i b hb)), h.ours i o' b hi hb⟩
  · by_cases hi : i = id <;> by_cases hi' : i' = id
    · rw [hi, hi']
    · subst hi; rw [Phi.set_same] at h3; rw [Phi.set_other φ _ hi'] at h4
      have := h.lt i' b h4; have := Option.some.inj (Option.some.inj h3); omega
    · subst hi'; rw [Phi.set_same] at h4; rw [Phi.set_other φ _ hi] at h3
      have := h.lt i b h3; have := Option.some.inj (Option.some.inj h4); omega
    · rw [Phi.set_other φ _ hi] at h3; rw [Phi.set_other φ _ hi'] at h4
      rw [Store.get_cons, if_neg (fun x => hi x.symm)] at h1
      rw [Store.get_cons, if_neg (fun x => hi' x.symm)] at h2
      exact h.inj i i' o1 o2 b h1 h2 h3 h4
  · by_cases hi : i = id
    · subst hi; rw [Phi.set_same] at hb; have := Option.some.inj (Option.some.inj hb); simp; omega
    · rw [Phi.set_other φ _ hi] at hb
      have := h.lt i b hb
      simp; omega
  · rw [Store.get_cons]
    by_cases hii : id = i
    · simp [hii]
    · rw [if_neg hii]
      rw [Phi.set_other φ _ (fun x => hii x.symm)] at hi
      exact h.used i hi

/-- What an object holds turns. -/
theorem Rel.set {P : Program} {C : Ctx P} {φ : Phi} {e : Env} {S : Store} {ds : List Deferred} {a : Act} {w w' : World} (h : Rel C φ ⟨e, S, ds⟩ a w) (id : Nat) (o o' : Obj) (hid : S.get id = some (some o)) {b : Nat} (hb : φ id = some (some b))
    {arr arr' : Array Value} (harr : w.heap[b]? = some (.cells arr o.t (0, 0))) (harr' : w'.heap[b]? = some (.cells arr' o'.t (0, 0))) (hsz : arr'.size = arr.size) (ht : o'.t = o.t)
    (hoth : ∀ k, k ≠ b → w'.heap[k]? = w.heap[k]?) (hh : w'.heap.size = w.heap.size) (h1 : w'.os = w.os) (h2 : w'.tape = w.tape) (h3 : w'.output = w.output)
    (hl : o'.cs.length ≤ arr'.size) (hc : ∀ (j : Nat) (v : V), o'.cs[j]? = some v → ∃ u : Value, arr'[j]? = some u ∧ u.oneCell' = true ∧ VVal (C.K φ S) φ w v u) :
    Rel C φ ⟨e, (id, some o') :: S, ds⟩ a w' := by
  have hown : ∀ k, own φ ((id, some o') :: S) k → own φ S k ∨ w.heap.size ≤ k := by
    rintro k ⟨i, o1, g1, g2⟩
    by_cases hi : i = id
    · subst hi; exact .inl ⟨i, o, hid, g2⟩
    · rw [Store.get_cons, if_neg (fun x => hi x.symm)] at g1
      exact .inl ⟨i, o1, g1, g2⟩
  have st : Still (C.K φ S) (C.K φ ((id, some o') :: S)) w w' :=
    Still.of (by omega) (fun k hk _ => hoth k (fun e => hk ⟨id, o, hid, e ▸ hb⟩)) hown (fun k t m hk hm => by
      by_cases hkb : k = b
      · subst hkb
        rw [shape_of harr] at hm
        rw [shape_of harr', hsz, ht]; exact hm
      · simpa [World.shape?, hoth k hkb] using hm)
  refine h.step st (fun _ _ x => x) (fun i o1 hi => ?_) (fun i i' o1 o2 k g1 g2 g3 g4 => ?_) (fun i k hk => ?_) (fun i hi => ?_) (h.keep.mono h1 h2 h3 (by omega) (fun k hk hw => hoth k (fun e => ?_)) st.shape)
  · by_cases hii : i = id
    · subst hii
      rw [Store.get_cons, if_pos rfl] at hi
      obtain rfl := Option.some.inj (Option.some.inj hi)
      refine .inr ⟨b, hb, ⟨arr', harr', hl, fun j v hj => ?_⟩, h.ours i o b hid hb⟩
      obtain ⟨u, g1, g2, g3⟩ := hc j v hj
      exact ⟨u, g1, g2, g3.still st (fun _ _ x => x)⟩
    · rw [Store.get_cons, if_neg (fun x => hii x.symm)] at hi
      refine (h.objs i o1 hi).imp (fun x => x) fun ⟨k, hk, ho⟩ => ?_
      refine ⟨k, hk, ho.still st (fun _ _ x => x) (hoth k (fun e => hii ?_)), h.ours i o1 k hi hk⟩
      exact h.inj i id o1 o k hi hid hk (e ▸ hb)
  · have u : ∀ i o1, Store.get ((id, some o') :: S) i = some (some o1) → ∃ o3, S.get i = some (some o3) := fun i o1 hi => by
      by_cases hii : i = id
      · subst hii; exact ⟨o, hid⟩
      · rw [Store.get_cons, if_neg (fun x => hii x.symm)] at hi; exact ⟨o1, hi⟩
    obtain ⟨o3, x3⟩ := u i o1 g1
    obtain ⟨o4, x4⟩ := u i' o2 g2
    exact h.inj i i' o3 o4 k x3 x4 g3 g4
  · have := h.lt i k hk; omega
  · rw [Store.get_cons]; split
    · simp
    · exact h.used i hi
  · subst e
    rcases (h.ours id o k hid hb).2 with g | g
    · exact hw g
    · omega

/-- An object gives way to another one: in the same block, or in a new one. -/
theorem Rel.replace {P : Program} {C : Ctx P} {φ : Phi} {e : Env} {S : Store} {ds : List Deferred} {a : Act} {w w' : World} (h : Rel C φ ⟨e, S, ds⟩ a w) (id : Nat) (o o' : Obj) (hid : S.get id = some (some o)) (id' : Nat) (hid' : S.get id' = none)
    {x x' : Option Nat} (hx : φ id = some x) (hg : w.grownBy w' x) (hx' : x' = x ∨ x' = some w.heap.size) (hsh : ∀ b, x = some b → ∀ t m, w.shape? b = some (t, m) → w'.shape? b = some (t, m))
    (hlt : ∀ b, x' = some b → b < w'.heap.size) (hn : x' = none → o'.cs = [])
    (hc : ∀ b, x' = some b → ∃ arr : Array Value, w'.heap[b]? = some (.cells arr o'.t (0, 0)) ∧ o'.cs.length ≤ arr.size ∧ ∀ (j : Nat) (v : V), o'.cs[j]? = some v → ∃ u : Value, arr[j]? = some u ∧ u.oneCell' = true ∧ VVal (C.K φ S) φ w v u) :
    Rel C (φ.set id' x') ⟨e, (id, none) :: (id', some o') :: S, ds⟩ a w' := by
  have hne : id ≠ id' := fun e => by rw [e, hid'] at hid; cases hid
  have hφ := Phi.set_ext (h.fresh hid') x'
  have hget : ∀ i o1, Store.get ((id, none) :: (id', some o') :: S) i = some (some o1) → (i = id' ∧ o1 = o') ∨ (i ≠ id ∧ i ≠ id' ∧ S.get i = some (some o1)) := fun i o1 hi => by
    rw [Store.get_cons] at hi
    split at hi
    · cases hi
    · rename_i h1
      rw [Store.get_cons] at hi
      split at hi
      · rename_i h2; exact .inl ⟨h2.symm, (Option.some.inj (Option.some.inj hi)).symm⟩
      · rename_i h2; exact .inr ⟨fun x => h1 x.symm, fun x => h2 x.symm, hi⟩
  have hown : ∀ b, own (φ.set id' x') ((id, none) :: (id', some o') :: S) b → own φ S b ∨ w.heap.size ≤ b := by
    rintro b ⟨i, o1, h1, h2⟩
    rcases hget i o1 h1 with ⟨rfl, rfl⟩ | ⟨_, h4, h5⟩
    · rw [Phi.set_same] at h2
      have h2 := Option.some.inj h2
      subst h2
      rcases hx' with hx' | hx'
      · exact .inl ⟨id, o, hid, by rw [hx, ← hx']⟩
      · have := Option.some.inj hx'; exact .inr (by omega)
    · rw [Phi.set_other φ _ h4] at h2
      exact .inl ⟨i, o1, h5, h2⟩
  have hblk : ∀ b, ¬ own φ S b → b < w.heap.size → w'.heap[b]? = w.heap[b]? := fun b hb hl => hg.block b hl (fun e => hb ⟨id, o, hid, by rw [hx, ← e]⟩)
  have hoth : ∀ i o1 b, i ≠ id → S.get i = some (some o1) → φ i = some (some b) → w'.heap[b]? = w.heap[b]? := fun i o1 b hi h1 h2 =>
    hg.block b (h.lt i b h2) (fun e => hi (h.inj i id o1 o b h1 hid h2 (by rw [hx, ← e])))
  have st : Still (C.K φ S) (C.K (φ.set id' x') ((id, none) :: (id', some o') :: S)) w w' :=
    Still.of hg.size hblk hown (fun b t m hb hm => by
      obtain ⟨i, o1, h1, h2⟩ := hb
      by_cases hi : i = id
      · subst hi
        rw [hx] at h2
        exact hsh b (Option.some.inj h2) t m hm
      · simpa [World.shape?, hoth i o1 b hi h1 h2] using hm)
  refine h.step st hφ (fun i o1 hi => ?_) (fun i i' o1 o2 b h1 h2 h3 h4 => ?_) (fun i b hb => ?_) (fun i hi => ?_) (h.keep.mono hg.os hg.tape hg.output hg.size (fun b hb hw => ?_) st.shape)
  · rcases hget i o1 hi with ⟨rfl, rfl⟩ | ⟨h3, h4, h5⟩
    · cases hxx : x' with
      | none => exact .inl ⟨by rw [Phi.set_same], hn hxx⟩
      | some b =>
        obtain ⟨arr, g1, g2, g3⟩ := hc b hxx
        refine .inr ⟨b, by rw [Phi.set_same], ⟨arr, g1, g2, fun j v hj => let ⟨u, k1, k2, k3⟩ := g3 j v hj; ⟨u, k1, k2, by rw [← hxx]; exact k3.still st hφ⟩⟩, ?_⟩
        rcases hx' with hx' | hx'
        · exact h.ours id o b hid (by rw [hx, ← hx', hxx])
        · rw [hxx] at hx'
          obtain rfl := Option.some.inj hx'
          exact ⟨fun hk => by have := h.keep.k0 _ hk; have := h.keep.size; omega, .inr h.keep.size⟩
    · refine (h.objs i o1 h5).imp (fun y => ⟨by rw [Phi.set_other φ _ h4]; exact y.1, y.2⟩) fun ⟨b, hb, ho⟩ => ?_
      exact ⟨b, hφ i _ hb, ho.still st hφ (hoth i o1 b h3 h5 hb), h.ours i o1 b h5 hb⟩
  · have new : ∀ i o1, i ≠ id → i ≠ id' → S.get i = some (some o1) → φ.set id' x' i = some (some b) → φ.set id' x' id' = some (some b) → False := fun i o1 g1 g2 g3 g4 g5 => by
      rw [Phi.set_other φ _ g2] at g4
      rw [Phi.set_same] at g5
      have g5 := Option.some.inj g5
      rcases hx' with hx' | hx'
      · exact g1 (h.inj i id o1 o b g3 hid g4 (by rw [hx, ← hx', g5]))
      · have := h.lt i b g4
        rw [g5] at hx'
        have := Option.some.inj hx'; omega
    rcases hget i o1 h1 with ⟨rfl, rfl⟩ | ⟨g3, g4, g5⟩ <;> rcases hget i' o2 h2 with ⟨rfl, rfl⟩ | ⟨k3, k4, k5⟩
    · rfl
    · exact (new i' o2 k3 k4 k5 h4 h3).elim
    · exact (new i o1 g3 g4 g5 h3 h4).elim
    · rw [Phi.set_other φ _ g4] at h3
      rw [Phi.set_other φ _ k4] at h4
      exact h.inj i i' o1 o2 b g5 k5 h3 h4
  · by_cases hi : i = id'
    · subst hi; rw [Phi.set_same] at hb; exact hlt b (Option.some.inj hb)
    · rw [Phi.set_other φ _ hi] at hb
      have := h.lt i b hb
      have := hg.size
      omega
  · rw [Store.get_cons]
    split
    · simp
    · rw [Store.get_cons]
      split
      · simp
      · rename_i h2
        rw [Phi.set_other φ _ (fun x => h2 x.symm)] at hi
        exact h.used i hi
  · refine hg.block b (Nat.lt_of_lt_of_le hb h.keep.size) (fun e => ?_)
    rcases (h.ours id o b hid (by rw [hx, ← e])).2 with g | g
    · exact hw g
    · omega

end Go.Proofs.Ytjofdfiljokfoaa.TL
