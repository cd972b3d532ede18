/- A small logic for Go functions over the model: its judgements on code, and the rules of the plain operations. -/
import Derived.Test.YtjofdfiljokfoaaTL1
namespace Go.Proofs.Ytjofdfiljokfoaa.TL
open Go Go.RowKit
set_option linter.unusedVariables false
set_option linter.unusedSimpArgs false

def ev (e : Env) : Operand → V
  | .tmp t => e.get t
  | .const c => .d (.val c)
  | .func f => .d (.val (.func (.func f) #[] #[]))
  | .global _ => .any

def putE : Option Nat → V → Env → Env
  | none, _, e => e
  | some d, v, e => (d, v) :: e

theorem Rel.ev {P : Program} {C : Ctx P} {φ : Phi} {s : St} {a : Act} {w : World} (h : Rel C φ s a w) (x : Operand) : VVal (C.K φ s.s) φ w (ev s.e x) (a.eval x) := by
  cases x with
  | tmp t => exact h.slots t
  | const c => exact .d _ _ (.val c)
  | func f => exact .d _ _ (.val _)
  | global g => exact .any _

theorem VVal.val_inv {K : Nat → Prop} {φ : Phi} {w : World} {v u : Value} (h : VVal K φ w (.d (.val v)) u) : u = v := by
  cases h with
  | d _ _ h => cases h; rfl

/-! ### Judgements on code -/
def QQ {P : Program} (C : Ctx P) (q : Exit → St → Prop) : Exit → Act → World → Prop := fun ex a w => ∃ φ s, q ex s ∧ Rel C φ s a w
def T {P : Program} (C : Ctx P) (c : Code) (s : St) (q : Exit → St → Prop) : Prop := ∀ φ a w, Rel C φ s a w → c.wpIn C.F 0 P (QQ C q) a w
def Sub {P : Program} (C : Ctx P) (s s' : St) : Prop := ∀ φ a w, Rel C φ s a w → ∃ φ', Rel C φ' s' a w
def thenQ (q : Exit → St → Prop) (k : St → Prop) : Exit → St → Prop
  | .normal, s => k s
  | ex, s => q ex s
def blockQ (id : Nat) (q : Exit → St → Prop) : Exit → St → Prop
  | .exit i, s => if i = id then q .normal s else q (.exit i) s
  | ex, s => q ex s

theorem Sub.refl {P : Program} (C : Ctx P) (s : St) : Sub C s s := fun φ _ _ h => ⟨φ, h⟩
theorem Sub.trans {P : Program} {C : Ctx P} {s s' s'' : St} (h : Sub C s s') (k : Sub C s' s'') : Sub C s s'' := fun φ a w hr => let ⟨_, h1⟩ := h φ a w hr; k _ a w h1
theorem T.sub {P : Program} {C : Ctx P} {c : Code} {s s' : St} {q : Exit → St → Prop} (hs : Sub C s s') (h : T C c s' q) : T C c s q := fun φ a w hr => let ⟨φ', h1⟩ := hs φ a w hr; h φ' a w h1
theorem T.mono {P : Program} {C : Ctx P} {c : Code} {s : St} {q q' : Exit → St → Prop} (h : T C c s q) (hq : ∀ ex s', q ex s' → q' ex s') : T C c s q' :=
  fun φ a w hr => wpIn_mono (h φ a w hr) fun _ _ _ ⟨φ', s', h1, h2⟩ => ⟨φ', s', hq _ _ h1, h2⟩
theorem T.seq {P : Program} {C : Ctx P} {x y : Code} {s : St} {q : Exit → St → Prop} (h : T C x s (thenQ q fun s' => T C y s' q)) : T C (.seq x y) s q := fun φ a w hr => by
  refine wpIn_seq (wpIn_mono (h φ a w hr) ?_)
  rintro ex a' w' ⟨φ', s', h1, h2⟩
  cases ex with
  | normal => exact h1 φ' a' w' h2
  | exit id => exact ⟨φ', s', h1, h2⟩
  | goto id => exact ⟨φ', s', h1, h2⟩
  | ret => exact ⟨φ', s', h1, h2⟩
  | panic c => exact ⟨φ', s', h1, h2⟩
  | outgrown => exact ⟨φ', s', h1, h2⟩
theorem T.skip {P : Program} {C : Ctx P} {s : St} {q : Exit → St → Prop} (h : q .normal s) : T C .skip s q := fun φ _ _ hr => wpIn_skip ⟨φ, s, h, hr⟩
theorem T.ret {P : Program} {C : Ctx P} {s : St} {q : Exit → St → Prop} (h : q .ret s) : T C .ret s q := fun φ _ _ hr => wpIn_ret ⟨φ, s, h, hr⟩
theorem T.exit {P : Program} {C : Ctx P} {id : Nat} {s : St} {q : Exit → St → Prop} (h : q (.exit id) s) : T C (.exit id) s q := fun φ _ _ hr => wpIn_exit ⟨φ, s, h, hr⟩
theorem T.cond {P : Program} {C : Ctx P} {c : Operand} {x y : Code} {s : St} {q : Exit → St → Prop} {b : Bool} (hc : ev s.e c = V.b b) (ht : b = true → T C x s q) (hf : b = false → T C y s q) : T C (.cond c x y) s q := fun φ a w hr => by
  have he := hr.ev c
  rw [hc] at he
  have he := he.val_inv
  exact wpIn_cond_split he (fun h => ht h φ a w hr) (fun h => hf h φ a w hr)
theorem T.block {P : Program} {C : Ctx P} {id : Nat} {c : Code} {s : St} {q : Exit → St → Prop} (h : T C c s (blockQ id q)) : T C (.block id c) s q := fun φ a w hr => by
  refine wpIn_block (wpIn_mono (h φ a w hr) ?_)
  rintro ex a' w' ⟨φ', s', h1, h2⟩
  cases ex with
  | exit i =>
    simp only [blockQ] at h1
    simp only [Exit.inBlock]
    split at h1
    · rename_i hi; subst hi; simp only [↓reduceIte]; exact ⟨φ', s', h1, h2⟩
    · rename_i hi; rw [if_neg (by first | exact hi | exact fun e => hi e.symm)]; exact ⟨φ', s', h1, h2⟩
  | normal => exact ⟨φ', s', h1, h2⟩
  | goto id => exact ⟨φ', s', h1, h2⟩
  | ret => exact ⟨φ', s', h1, h2⟩
  | panic c => exact ⟨φ', s', h1, h2⟩
  | outgrown => exact ⟨φ', s', h1, h2⟩
theorem least_ex (p : Nat → Prop) (h : ∃ n, p n) : ∃ n, p n ∧ ∀ m, p m → n ≤ m := by
  obtain ⟨n, hn⟩ := h
  induction n using Nat.strongRecOn with
  | _ n ih =>
    by_cases hm : ∃ m, m < n ∧ p m
    · obtain ⟨m, h1, h2⟩ := hm; exact ih m h1 h2
    · exact ⟨n, hn, fun m hpm => Nat.le_of_not_lt fun hlt => hm ⟨m, hlt, hpm⟩⟩
open Classical in
noncomputable def least (p : Nat → Prop) : Nat := if h : ∃ n, p n then Classical.choose (least_ex p h) else 0
theorem least_spec {p : Nat → Prop} {n : Nat} (h : p n) : p (least p) ∧ least p ≤ n := by
  have hex : ∃ n, p n := ⟨n, h⟩
  have := Classical.choose_spec (least_ex p hex)
  simp only [least, dif_pos hex]
  exact ⟨this.1, this.2 n h⟩
/-- A loop: I tells the state at each round's head; μ falls. -/
theorem T.loop {ι : Type} {P : Program} {C : Ctx P} {c : Code} {s : St} {q : Exit → St → Prop} (I : ι → St) (μ : ι → Nat) (i0 : ι) (h0 : Sub C s (I i0))
    (hr : ∀ i, T C c (I i) (thenQ q fun s' => ∃ j, μ j < μ i ∧ Sub C s' (I j))) : T C (.loop c) s q := fun φ a w hrel => by
  obtain ⟨φ', h1⟩ := h0 φ a w hrel
  refine wpIn_loop (fun a w => ∃ i φ, Rel C φ (I i) a w) (fun a w => least fun m => ∃ i φ, Rel C φ (I i) a w ∧ μ i = m) ⟨i0, φ', h1⟩ ?_
  rintro a w ⟨i1, φ1, hrl⟩
  obtain ⟨⟨i, φ2, hr2, he⟩, _⟩ := least_spec (p := fun m => ∃ i φ, Rel C φ (I i) a w ∧ μ i = m) ⟨i1, φ1, hrl, rfl⟩
  refine wpIn_mono (hr i φ2 a w hr2) ?_
  rintro ex a' w' ⟨φ3, s', g1, g2⟩
  cases ex with
  | normal =>
    obtain ⟨j, hj, hsub⟩ := g1
    obtain ⟨φ4, g4⟩ := hsub φ3 a' w' g2
    refine ⟨⟨j, φ4, g4⟩, ?_⟩
    have := (least_spec (p := fun m => ∃ i φ, Rel C φ (I i) a' w' ∧ μ i = m) ⟨j, φ4, g4, rfl⟩).2
    rw [← he]
    exact Nat.lt_of_le_of_lt this hj
  | exit id => exact ⟨φ3, s', g1, g2⟩
  | goto id => exact ⟨φ3, s', g1, g2⟩
  | ret => exact ⟨φ3, s', g1, g2⟩
  | panic c => exact ⟨φ3, s', g1, g2⟩
  | outgrown => exact ⟨φ3, s', g1, g2⟩

theorem T.loopP {ι : Type} {P : Program} {C : Ctx P} {c : Code} {s : St} {q : Exit → St → Prop} (I : ι → St) (p : ι → Prop) (μ : ι → Nat) (i0 : ι) (hp : p i0) (h0 : Sub C s (I i0))
    (hr : ∀ i, p i → T C c (I i) (thenQ q fun s' => ∃ j, p j ∧ μ j < μ i ∧ Sub C s' (I j))) : T C (.loop c) s q :=
  T.loop (ι := { i // p i }) (fun i => I i.1) (fun i => μ i.1) ⟨i0, hp⟩ h0 fun i => (hr i.1 i.2).mono fun ex s' hq => by
    cases ex with
    | normal => obtain ⟨j, h1, h2, h3⟩ := hq; exact ⟨⟨j, h1⟩, h2, h3⟩
    | exit id => exact hq
    | goto id => exact hq
    | ret => exact hq
    | panic c => exact hq
    | outgrown => exact hq

/-! ### Single operations -/
/-- What an operation does: the objects that it reads; those that it turns; what it yields. -/
structure It where
  mr : List Nat
  mw : List (Nat × Option Obj)
  res : V

def opTmps (o : Oper) : List Nat := o.op.operands.toList.filterMap fun | .tmp t => some t | _ => none

def Ok1 {P : Program} (C : Ctx P) (o : Oper) (s : St) (it : It) : Prop :=
  ∀ φ a w K Q, Rel C φ s a w → (∀ φ' u w', Rel C φ' ⟨putE o.dst it.res s.e, it.mw ++ s.s, s.ds⟩ (a.put o.dst u) w' → K (a.put o.dst u) w') → o.wpIn C.F 0 P a w K Q
/-- It does so wherever the slots and the objects that it looks at are as in s. -/
def Ok {P : Program} (C : Ctx P) (o : Oper) (s : St) (it : It) : Prop :=
  ∀ e S, (∀ t ∈ opTmps o, e.get t = s.e.get t) → (∀ id, id ∈ it.mr ∨ id ∈ it.mw.map (·.1) → Store.get S id = s.s.get id) → Ok1 C o ⟨e, S, s.ds⟩ it

theorem semAt_eq {r : Option Nat} {ρ : Operand → Value} {o : Oper} (h : ∀ c, o.op ≠ .defer c) : Oper.semAt r ρ o = execOp ρ o := by
  cases r with
  | none => exact Oper.semAt_none ρ o
  | some l => exact Oper.semAt_some l ρ o h

theorem wpIn_value {P : Program} {C : Ctx P} {o : Oper} {a : Act} {w w' : World} {u : Value} {K : Act → World → Prop} {Q : Exit → Act → World → Prop} (hnd : ∀ c, o.op ≠ .defer c) (h : (execOp a.eval o).run P w = .ok (.value u) w') (hk : K (a.put o.dst u) w') : o.wpIn C.F 0 P a w K Q := by
  refine ⟨fun _ _ => trivial, ?_⟩
  rw [semAt_eq hnd, h]
  exact hk
theorem wpIn_skip_ {P : Program} {C : Ctx P} {o : Oper} {a : Act} {w w' : World} {K : Act → World → Prop} {Q : Exit → Act → World → Prop} (hnd : ∀ c, o.op ≠ .defer c) (h : (execOp a.eval o).run P w = .ok .skip w') (hk : K (a.put o.dst undef) w') : o.wpIn C.F 0 P a w K Q := by
  refine ⟨fun _ _ => trivial, ?_⟩
  rw [semAt_eq hnd, h]
  exact hk

theorem ev_same {o : Oper} {e e' : Env} (h : ∀ t ∈ opTmps o, e'.get t = e.get t) {x : Operand} (hx : x ∈ o.op.operands) : ev e' x = ev e x := by
  cases x with
  | tmp t => exact h t (List.mem_filterMap.2 ⟨.tmp t, by simpa using hx, rfl⟩)
  | const c => rfl
  | func f => rfl
  | global g => rfl

/-- An operation that leaves the world alone. -/
theorem Ok.pure {P : Program} {C : Ctx P} {o : Oper} {s : St} {v : V} {d : Nat} (hd : o.dst = some d) (hN : d < C.N) (hnd : ∀ c, o.op ≠ .defer c)
    (h : ∀ (K : Nat → Prop) φ (a : Act) w, (∀ x ∈ o.op.operands, VVal K φ w (ev s.e x) (a.eval x)) → ∃ u, (execOp a.eval o).run P w = .ok (.value u) w ∧ VVal K φ w v u) : Ok C o s ⟨[], [], v⟩ := by
  intro e S he _ φ a w K Q hr hK
  obtain ⟨u, h1, h2⟩ := h (C.K φ S) φ a w (fun x hx => by rw [← ev_same he hx]; exact hr.ev x)
  refine wpIn_value hnd h1 ?_
  rw [hd] at hK ⊢
  exact hK φ u w (hr.put hN h2)

/-- An operation that reads objects and leaves the world alone. -/
theorem Ok.reads {P : Program} {C : Ctx P} {o : Oper} {s : St} {v : V} {d : Nat} (ids : List Nat) (hd : o.dst = some d) (hN : d < C.N) (hnd : ∀ c, o.op ≠ .defer c)
    (h : ∀ (K : Nat → Prop) φ (a : Act) w, (∀ x ∈ o.op.operands, VVal K φ w (ev s.e x) (a.eval x)) → (∀ id ∈ ids, ∀ ob, s.s.get id = some (some ob) → (φ id = some none ∧ ob.cs = []) ∨ ∃ b, φ id = some (some b) ∧ ObjAt K φ w ob b) →
      ∃ u, (execOp a.eval o).run P w = .ok (.value u) w ∧ VVal K φ w v u) : Ok C o s ⟨ids, [], v⟩ := by
  intro e S he hid φ a w K Q hr hK
  obtain ⟨u, h1, h2⟩ := h (C.K φ S) φ a w (fun x hx => by rw [← ev_same he hx]; exact hr.ev x) (fun id hm ob hob => hr.objs id ob (by rw [← hob]; exact hid id (.inl hm)))
  refine wpIn_value hnd h1 ?_
  rw [hd] at hK ⊢
  exact hK φ u w (hr.put hN h2)

/-! ### Facts on types -/
def aggD : TypeDesc → Bool
  | .struct _ => true
  | .array _ _ => true
  | _ => false
class CellT (P : Program) (t : Nat) : Prop where
  fact : (∃ d, P.underlying t = some d ∧ aggD d = false) ∧ ∃ i, P.info? t = some i ∧ i.size = 1
class AggT (P : Program) (t : Nat) (n : outParam Nat) : Prop where
  fact : (∃ d, P.underlying t = some d ∧ aggD d = true) ∧ ∃ i, P.info? t = some i ∧ i.size = n
class SzT (P : Program) (t : Nat) (n : outParam Nat) : Prop where
  fact : ∃ i, P.info? t = some i ∧ i.size = n
class SliceT (P : Program) (t : Nat) (e sz bytes : outParam Nat) (z : outParam Value) : Prop where
  fact : P.underlying t = some (.slice e) ∧ ∃ i, P.info? e = some i ∧ i.size = sz ∧ i.bytes = bytes ∧ i.zero = some z ∧ z.cells.size = sz ∧ 0 < sz
class ZeroT (P : Program) (t : Nat) (zs : outParam (List Value)) : Prop where
  fact : ∃ i z, P.info? t = some i ∧ i.zero = some z ∧ z.cells.toList = zs ∧ zs.all Value.oneCell' = true
class ArrT (P : Program) (t : Nat) (n e sz : outParam Nat) : Prop where
  fact : P.underlying t = some (.array n e) ∧ ∃ i, P.info? e = some i ∧ i.size = sz
class FieldT (P : Program) (t f : Nat) (off ft : outParam Nat) : Prop where
  fact : ∃ fs fd, P.underlying t = some (.struct fs) ∧ fs[f]? = some fd ∧ fd.offset = off ∧ fd.type = ft ∧ ∃ i, P.info? ft = some i ∧ i.size ≠ 0
class IntT (P : Program) (t : Nat) (k : outParam IntKind) : Prop where
  fact : P.underlying t = some (.int k)

theorem info_of {α : Type} {P : Program} {t : Nat} {f : TypeInfo → α} {x : α} (h : (P.info? t).map f = some x) : ∃ i, P.info? t = some i ∧ f i = x := by
  cases hi : P.info? t with
  | none => rw [hi] at h; cases h
  | some i => rw [hi] at h; exact ⟨i, rfl, Option.some.inj h⟩
theorem SliceT.of {P : Program} {t e sz bytes : Nat} {z : Value} (hu : P.underlying t = some (.slice e)) (hi : (P.info? e).map (fun i => (i.size, i.bytes, i.zero)) = some (sz, bytes, some z)) (h1 : z.cells.size = sz) (h2 : 0 < sz) : SliceT P t e sz bytes z := by
  obtain ⟨i, g1, g2⟩ := info_of hi
  simp only [Prod.mk.injEq] at g2
  exact ⟨hu, i, g1, g2.1, g2.2.1, g2.2.2, h1, h2⟩
theorem ZeroT.of {P : Program} {t : Nat} {zs : List Value} {z : Value} (hi : (P.info? t).map (fun i => i.zero) = some (some z)) (h1 : z.cells.toList = zs) (h2 : zs.all Value.oneCell' = true) : ZeroT P t zs := by
  obtain ⟨i, g1, g2⟩ := info_of hi
  exact ⟨i, z, g1, g2, h1, h2⟩
theorem CellT.of {P : Program} {t : Nat} {d : TypeDesc} (hu : P.underlying t = some d) (hd : aggD d = false) (hi : (P.info? t).map (fun i => i.size) = some 1) : CellT P t := by
  obtain ⟨i, g1, g2⟩ := info_of hi
  exact ⟨⟨d, hu, hd⟩, i, g1, g2⟩
theorem AggT.of {P : Program} {t n : Nat} {d : TypeDesc} (hu : P.underlying t = some d) (hd : aggD d = true) (hi : (P.info? t).map (fun i => i.size) = some n) : AggT P t n := by
  obtain ⟨i, g1, g2⟩ := info_of hi
  exact ⟨⟨d, hu, hd⟩, i, g1, g2⟩
theorem ArrT.of {P : Program} {t n e sz : Nat} (hu : P.underlying t = some (.array n e)) (hi : (P.info? e).map (fun i => i.size) = some sz) : ArrT P t n e sz := by
  obtain ⟨i, g1, g2⟩ := info_of hi
  exact ⟨hu, i, g1, g2⟩
theorem FieldT.of {P : Program} {t f off ft : Nat} {fs : Array Field} {fd : Field} (hu : P.underlying t = some (.struct fs)) (hf : fs[f]? = some fd) (h1 : fd.offset = off) (h2 : fd.type = ft) {n : Nat} (hi : (P.info? ft).map (fun i => i.size) = some (n + 1)) : FieldT P t f off ft := by
  obtain ⟨i, g1, g2⟩ := info_of hi
  exact ⟨fs, fd, hu, hf, h1, h2, i, g1, by omega⟩

section ops
variable {P : Program} {C : Ctx P} {o : Oper} {s : St} {d : Nat}

theorem ok_move {x : Operand} (ho : o.op = .move x) (hd : o.dst = some d) (hN : d < C.N) {v : V} (hx : ev s.e x = v) : Ok C o s ⟨[], [], v⟩ :=
  Ok.pure hd hN (by simp [ho]) fun K φ a w he => ⟨a.eval x, by simp [execOp, ho], hx ▸ he x (by simp [ho, Op.operands])⟩
theorem ok_assign {x : Operand} (ho : o.op = .assign x) (hd : o.dst = some d) (hN : d < C.N) {v : V} (hx : ev s.e x = v) : Ok C o s ⟨[], [], v⟩ :=
  Ok.pure hd hN (by simp [ho]) fun K φ a w he => ⟨a.eval x, by simp [execOp, ho], hx ▸ he x (by simp [ho, Op.operands])⟩
theorem ok_move_d {x : Operand} (ho : o.op = .move x) (hd : o.dst = some d) (hN : d < C.N) {y : D} (hx : ev s.e x = V.d y) : Ok C o s ⟨[], [], V.d y⟩ := ok_move ho hd hN hx
theorem ok_assign_d {x : Operand} (ho : o.op = .assign x) (hd : o.dst = some d) (hN : d < C.N) {y : D} (hx : ev s.e x = V.d y) : Ok C o s ⟨[], [], V.d y⟩ := ok_assign ho hd hN hx
theorem ok_move_acc {x : Operand} (ho : o.op = .move x) (hd : o.dst = some d) (hN : d < C.N) {id sz n : Nat} (hx : ev s.e x = V.acc id sz n) : Ok C o s ⟨[], [], V.acc id sz n⟩ := ok_move ho hd hN hx
theorem ok_assign_acc {x : Operand} (ho : o.op = .assign x) (hd : o.dst = some d) (hN : d < C.N) {id sz n : Nat} (hx : ev s.e x = V.acc id sz n) : Ok C o s ⟨[], [], V.acc id sz n⟩ := ok_assign ho hd hN hx
theorem ok_move_ref {x : Operand} (ho : o.op = .move x) (hd : o.dst = some d) (hN : d < C.N) {id sz of n : Nat} (hx : ev s.e x = V.ref id sz of n) : Ok C o s ⟨[], [], V.ref id sz of n⟩ := ok_move ho hd hN hx
theorem ok_assign_ref {x : Operand} (ho : o.op = .assign x) (hd : o.dst = some d) (hN : d < C.N) {id sz of n : Nat} (hx : ev s.e x = V.ref id sz of n) : Ok C o s ⟨[], [], V.ref id sz of n⟩ := ok_assign ho hd hN hx
theorem ok_move_ptr {x : Operand} (ho : o.op = .move x) (hd : o.dst = some d) (hN : d < C.N) {id of : Nat} (hx : ev s.e x = V.ptr id of) : Ok C o s ⟨[], [], V.ptr id of⟩ := ok_move ho hd hN hx
theorem ok_assign_ptr {x : Operand} (ho : o.op = .assign x) (hd : o.dst = some d) (hN : d < C.N) {id of : Nat} (hx : ev s.e x = V.ptr id of) : Ok C o s ⟨[], [], V.ptr id of⟩ := ok_assign ho hd hN hx
theorem ok_move_agg {x : Operand} (ho : o.op = .move x) (hd : o.dst = some d) (hN : d < C.N) {cs : List V} (hx : ev s.e x = V.agg cs) : Ok C o s ⟨[], [], V.agg cs⟩ := ok_move ho hd hN hx
theorem ok_assign_agg {x : Operand} (ho : o.op = .assign x) (hd : o.dst = some d) (hN : d < C.N) {cs : List V} (hx : ev s.e x = V.agg cs) : Ok C o s ⟨[], [], V.agg cs⟩ := ok_assign ho hd hN hx
theorem ok_move_tup {x : Operand} (ho : o.op = .move x) (hd : o.dst = some d) (hN : d < C.N) {cs : List V} (hx : ev s.e x = V.tup cs) : Ok C o s ⟨[], [], V.tup cs⟩ := ok_move ho hd hN hx
theorem ok_assign_tup {x : Operand} (ho : o.op = .assign x) (hd : o.dst = some d) (hN : d < C.N) {cs : List V} (hx : ev s.e x = V.tup cs) : Ok C o s ⟨[], [], V.tup cs⟩ := ok_assign ho hd hN hx
theorem ok_move_clo {x : Operand} (ho : o.op = .move x) (hd : o.dst = some d) (hN : d < C.N) {f : Nat} {cs : List V} (hx : ev s.e x = V.clo f cs) : Ok C o s ⟨[], [], V.clo f cs⟩ := ok_move ho hd hN hx
theorem ok_assign_clo {x : Operand} (ho : o.op = .assign x) (hd : o.dst = some d) (hN : d < C.N) {f : Nat} {cs : List V} (hx : ev s.e x = V.clo f cs) : Ok C o s ⟨[], [], V.clo f cs⟩ := ok_assign ho hd hN hx
theorem ok_pick {c x y : Operand} (ho : o.op = .pick c x y) (hd : o.dst = some d) (hN : d < C.N) {b : Bool} {v : V} (hc : ev s.e c = V.b b) (hx : (if b = true then ev s.e x else ev s.e y) = v) : Ok C o s ⟨[], [], v⟩ :=
  Ok.pure hd hN (by simp [ho]) fun K φ a w he => by
    have h0 := he c (by simp [ho, Op.operands])
    rw [hc] at h0
    have h0 := h0.val_inv
    refine ⟨if b = true then a.eval x else a.eval y, by simp [execOp, ho, h0, asBool], ?_⟩
    subst hx
    split
    · exact he x (by simp [ho, Op.operands])
    · exact he y (by simp [ho, Op.operands])
/-- Two boolean operands of '&&', '||' behind a pick, told without a branch. -/
theorem ok_pick_b {c x y : Operand} (ho : o.op = .pick c x y) (hd : o.dst = some d) (hN : d < C.N) {b p q : Bool} (hc : ev s.e c = V.b b) (hx : ev s.e x = V.b p) (hy : ev s.e y = V.b q) : Ok C o s ⟨[], [], V.b (if b = true then p else q)⟩ :=
  ok_pick ho hd hN hc (by rw [hx, hy]; split <;> rfl)
theorem ok_bin {op : BinOp} {x y : Operand} {t t' : Nat} (ho : o.op = .binOp op t x y t') (hd : o.dst = some d) (hN : d < C.N) {u v r : Value} (hx : ev s.e x = .d (.val u)) (hy : ev s.e y = .d (.val v))
    (hr : ∀ w, (do eqGuard op t x y u v; binOp op t u v : Sem Value).run P w = .ok r w) : Ok C o s ⟨[], [], .d (.val r)⟩ :=
  Ok.pure hd hN (by simp [ho]) fun K φ a w he => by
    have h0 := he x (by simp [ho, Op.operands])
    have h1 := he y (by simp [ho, Op.operands])
    rw [hx] at h0
    rw [hy] at h1
    have h0 := h0.val_inv
    have h1 := h1.val_inv
    refine ⟨r, ?_, .d _ _ (.val r)⟩
    have := hr w
    simp only [execOp, ho, h0, h1]
    rw [Sem.run_bind, this]
    rfl
theorem ok_add {x y : Operand} {t t' : Nat} (ho : o.op = .binOp .add t x y t') (hd : o.dst = some d) (hN : d < C.N) {k : IntKind} {a b : Int} (hx : ev s.e x = V.i k a) (hy : ev s.e y = V.i k b) : Ok C o s ⟨[], [], V.i k (k.wrap (a + b))⟩ :=
  ok_bin ho hd hN hx hy fun w => by simp [go_sem, Op.intArith, Go.binOp]
theorem ok_sub {x y : Operand} {t t' : Nat} (ho : o.op = .binOp .sub t x y t') (hd : o.dst = some d) (hN : d < C.N) {k : IntKind} {a b : Int} (hx : ev s.e x = V.i k a) (hy : ev s.e y = V.i k b) : Ok C o s ⟨[], [], V.i k (k.wrap (a - b))⟩ :=
  ok_bin ho hd hN hx hy fun w => by simp [go_sem, Op.intArith, Go.binOp]
theorem ok_mul {x y : Operand} {t t' : Nat} (ho : o.op = .binOp .mul t x y t') (hd : o.dst = some d) (hN : d < C.N) {k : IntKind} {a b : Int} (hx : ev s.e x = V.i k a) (hy : ev s.e y = V.i k b) : Ok C o s ⟨[], [], V.i k (k.wrap (a * b))⟩ :=
  ok_bin ho hd hN hx hy fun w => by simp [go_sem, Op.intArith, Go.binOp]
theorem ok_lss {x y : Operand} {t t' : Nat} (ho : o.op = .binOp .lss t x y t') (hd : o.dst = some d) (hN : d < C.N) {k : IntKind} {a b : Int} (hx : ev s.e x = V.i k a) (hy : ev s.e y = V.i k b) : Ok C o s ⟨[], [], V.b (decide (a < b))⟩ :=
  ok_bin ho hd hN hx hy fun w => by simp [go_sem, Op.intCmp, Go.binOp]
theorem ok_leq {x y : Operand} {t t' : Nat} (ho : o.op = .binOp .leq t x y t') (hd : o.dst = some d) (hN : d < C.N) {k : IntKind} {a b : Int} (hx : ev s.e x = V.i k a) (hy : ev s.e y = V.i k b) : Ok C o s ⟨[], [], V.b (decide (a ≤ b))⟩ :=
  ok_bin ho hd hN hx hy fun w => by simp [go_sem, Op.intCmp, Go.binOp]
theorem ok_gtr {x y : Operand} {t t' : Nat} (ho : o.op = .binOp .gtr t x y t') (hd : o.dst = some d) (hN : d < C.N) {k : IntKind} {a b : Int} (hx : ev s.e x = V.i k a) (hy : ev s.e y = V.i k b) : Ok C o s ⟨[], [], V.b (decide (b < a))⟩ :=
  ok_bin ho hd hN hx hy fun w => by simp [go_sem, Op.intCmp, Go.binOp]
theorem ok_geq {x y : Operand} {t t' : Nat} (ho : o.op = .binOp .geq t x y t') (hd : o.dst = some d) (hN : d < C.N) {k : IntKind} {a b : Int} (hx : ev s.e x = V.i k a) (hy : ev s.e y = V.i k b) : Ok C o s ⟨[], [], V.b (decide (b ≤ a))⟩ :=
  ok_bin ho hd hN hx hy fun w => by simp [go_sem, Op.intCmp, Go.binOp]
theorem ok_eql {x y : Operand} {t t' : Nat} (ho : o.op = .binOp .eql t x y t') (hd : o.dst = some d) (hN : d < C.N) {k : IntKind} {a b : Int} (hx : ev s.e x = V.i k a) (hy : ev s.e y = V.i k b) : Ok C o s ⟨[], [], V.b (decide (a = b))⟩ :=
  ok_bin ho hd hN hx hy fun w => by simp [go_sem, Op.intCmp, Go.binOp]; rfl
theorem ok_neq {x y : Operand} {t t' : Nat} (ho : o.op = .binOp .neq t x y t') (hd : o.dst = some d) (hN : d < C.N) {k : IntKind} {a b : Int} (hx : ev s.e x = V.i k a) (hy : ev s.e y = V.i k b) : Ok C o s ⟨[], [], V.b (!decide (a = b))⟩ :=
  ok_bin ho hd hN hx hy fun w => by simp [go_sem, Op.intCmp, Go.binOp]; rfl
theorem ok_not {x : Operand} {t : Nat} (ho : o.op = .unOp .not t x) (hd : o.dst = some d) (hN : d < C.N) {b : Bool} (hx : ev s.e x = V.b b) : Ok C o s ⟨[], [], V.b (!b)⟩ :=
  Ok.pure hd hN (by simp [ho]) fun K φ a w he => by
    have h0 := he x (by simp [ho, Op.operands])
    rw [hx] at h0
    exact ⟨.bool (!b), by simp [execOp, ho, h0.val_inv, Op.unary], .d _ _ (.val _)⟩
end ops

end Go.Proofs.Ytjofdfiljokfoaa.TL
