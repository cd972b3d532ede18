/- A small logic for Go functions over the model: guards, regions that draw their order told step by step, more operations, weaker states. -/
import Derived.Test.YtjofdfiljokfoaaTL9
import Derived.Scope
namespace Go.Proofs.Ytjofdfiljokfoaa.TL
open Go Go.RowKit
set_option linter.unusedVariables false
set_option linter.unusedSimpArgs false

/-! ### Guards -/
def GuardOk {P : Program} (C : Ctx P) (ops0 : Array Oper) (o : Oper) (e : Env) : Prop :=
  o.guard = none ∨ ∃ g want t, o.guard = some (g, want) ∧ (ops0[g]?).bind (·.dst) = some t ∧ e.get t = V.b want ∧ t < C.N
section
variable {P : Program} {C : Ctx P} {ops0 : Array Oper} {o : Oper} {rest : List Oper} {e : Env} {S : Store} {ds : List Deferred} {q : St → Prop} {dq : List (Oper × It) → St → Prop}
theorem GuardOk.none (h : o.guard = .none) : GuardOk C ops0 o e := .inl h
theorem GuardOk.want {g t : Nat} {want b : Bool} (hg : o.guard = some (g, want)) (ht : (ops0[g]?).bind (·.dst) = some t) (hb : e.get t = V.b b) (hN : t < C.N) (hw : b = want) : GuardOk C ops0 o e := .inr ⟨g, want, t, hg, ht, by rw [hb, hw], hN⟩
theorem GuardOk.okG {it : It} (h : GuardOk C ops0 o e) (hk : Ok C o ⟨e, S, ds⟩ it) : OkG C ops0 o ⟨e, S, ds⟩ it := by
  rcases h with h | ⟨g, want, t, h1, h2, h3, h4⟩
  · exact .plain hk h
  · exact .want hk h1 h2 h3 h4
theorem Seq.consG {it : It} (h : OkG C ops0 o ⟨e, S, ds⟩ it) (hn : SeqT C ops0 rest ⟨putE o.dst it.res e, it.mw ++ S, ds⟩ q) : SeqT C ops0 (o :: rest) ⟨e, S, ds⟩ q := fun φ a w hr Q hQ => by
  refine wpListIn_step fun K hK => ?_
  exact h e S (fun _ _ => rfl) (fun _ _ => rfl) φ a w K Q hr (fun φ' u w' hr' => hK _ _ (hn φ' _ w' hr' Q hQ))
theorem Seq.pureG {mr : List Nat} {v : V} {d : Nat} (h : Ok C o ⟨e, S, ds⟩ ⟨mr, [], v⟩) (hd : o.dst = some d) (hg : GuardOk C ops0 o e) (hn : SeqT C ops0 rest ⟨(d, v) :: e, S, ds⟩ q) : SeqT C ops0 (o :: rest) ⟨e, S, ds⟩ q :=
  Seq.consG (hg.okG h) (by rw [hd]; exact hn)
theorem Seq.updG {mr : List Nat} {id : Nat} {x : Option Obj} {v : V} (h : Ok C o ⟨e, S, ds⟩ ⟨mr, [(id, x)], v⟩) (hd : o.dst = .none) (hg : GuardOk C ops0 o e) (hn : SeqT C ops0 rest ⟨e, (id, x) :: S, ds⟩ q) : SeqT C ops0 (o :: rest) ⟨e, S, ds⟩ q :=
  Seq.consG (hg.okG h) (by rw [hd]; exact hn)
theorem Seq.makeG {mr : List Nat} {id d : Nat} {x : Option Obj} {v : V} (h : Ok C o ⟨e, S, ds⟩ ⟨mr, [(id, x)], v⟩) (hd : o.dst = some d) (hg : GuardOk C ops0 o e) (hn : SeqT C ops0 rest ⟨(d, v) :: e, (id, x) :: S, ds⟩ q) : SeqT C ops0 (o :: rest) ⟨e, S, ds⟩ q :=
  Seq.consG (hg.okG h) (by rw [hd]; exact hn)
theorem Seq.appG {mr : List Nat} {id id' d : Nat} {x x' : Option Obj} {v : V} (h : Ok C o ⟨e, S, ds⟩ ⟨mr, [(id, x), (id', x')], v⟩) (hd : o.dst = some d) (hg : GuardOk C ops0 o e) (hn : SeqT C ops0 rest ⟨(d, v) :: e, (id, x) :: (id', x') :: S, ds⟩ q) : SeqT C ops0 (o :: rest) ⟨e, S, ds⟩ q :=
  Seq.consG (hg.okG h) (by rw [hd]; exact hn)
theorem passG {g t d : Nat} {want w' b : Bool} (hg : o.guard = some (g, want)) (hw : (!want) = w') (ht : (ops0[g]?).bind (·.dst) = some t) (hb : e.get t = V.b b) (hN : t < C.N) (hb' : b = w') (hd : o.dst = some d) (hdN : d < C.N) : OkG C ops0 o ⟨e, S, ds⟩ ⟨[], [], V.un⟩ :=
  .pass hg ht (by exact hb) (by subst hb'; subst hw; cases want <;> simp) hN (fun d' h => by rw [hd] at h; cases h; exact hdN)
theorem passG0 {g t : Nat} {want w' b : Bool} (hg : o.guard = some (g, want)) (hw : (!want) = w') (ht : (ops0[g]?).bind (·.dst) = some t) (hb : e.get t = V.b b) (hN : t < C.N) (hb' : b = w') (hd : o.dst = .none) : OkG C ops0 o ⟨e, S, ds⟩ ⟨[], [], V.un⟩ :=
  .pass hg ht (by exact hb) (by subst hb'; subst hw; cases want <;> simp) hN (fun d' h => by rw [hd] at h; cases h)
theorem Seq.passC {g t d : Nat} {want w' b : Bool} (hg : o.guard = some (g, want)) (hw : (!want) = w') (ht : (ops0[g]?).bind (·.dst) = some t) (hb : e.get t = V.b b) (hN : t < C.N) (hb' : b = w') (hd : o.dst = some d) (hdN : d < C.N) (hn : SeqT C ops0 rest ⟨(d, V.un) :: e, S, ds⟩ q) : SeqT C ops0 (o :: rest) ⟨e, S, ds⟩ q :=
  Seq.consG (passG hg hw ht hb hN hb' hd hdN) (by rw [hd]; exact hn)
theorem Seq.passC0 {g t : Nat} {want w' b : Bool} (hg : o.guard = some (g, want)) (hw : (!want) = w') (ht : (ops0[g]?).bind (·.dst) = some t) (hb : e.get t = V.b b) (hN : t < C.N) (hb' : b = w') (hd : o.dst = .none) (hn : SeqT C ops0 rest ⟨e, S, ds⟩ q) : SeqT C ops0 (o :: rest) ⟨e, S, ds⟩ q :=
  Seq.consG (passG0 hg hw ht hb hN hb' hd) (by rw [hd]; exact hn)
theorem Seq.passU {g t d : Nat} {want : Bool} (hg : o.guard = some (g, want)) (ht : (ops0[g]?).bind (·.dst) = some t) (hb : e.get t = V.un) (hN : t < C.N) (hd : o.dst = some d) (hdN : d < C.N) (hn : SeqT C ops0 rest ⟨(d, V.un) :: e, S, ds⟩ q) : SeqT C ops0 (o :: rest) ⟨e, S, ds⟩ q :=
  Seq.consG (OkG.passU hg ht (by exact hb) hN (fun d' h => by rw [hd] at h; cases h; exact hdN)) (by rw [hd]; exact hn)
theorem Seq.split {g t : Nat} {want w' b : Bool} (hg : o.guard = some (g, want)) (hw : (!want) = w') (ht : (ops0[g]?).bind (·.dst) = some t) (hb : e.get t = V.b b) (h1 : b = want → SeqT C ops0 (o :: rest) ⟨e, S, ds⟩ q) (h2 : b = w' → SeqT C ops0 (o :: rest) ⟨e, S, ds⟩ q) : SeqT C ops0 (o :: rest) ⟨e, S, ds⟩ q := by
  subst hw
  by_cases h : b = want
  · exact h1 h
  · exact h2 (by cases b <;> cases want <;> simp_all)

/-! ### Regions that draw, step by step -/
def DrawT {P : Program} (C : Ctx P) (ops0 : Array Oper) (l : List Oper) (s : St) (q : List (Oper × It) → St → Prop) : Prop := ∃ ps s', ps.map (·.1) = l ∧ DL C ops0 ps s s' ∧ q ps s'
theorem Draw.nil {s : St} (h : dq [] s) : DrawT C ops0 [] s dq := ⟨[], s, rfl, .nil s, h⟩
theorem Draw.consG {it : It} (h : OkG C ops0 o ⟨e, S, ds⟩ it) (hn : DrawT C ops0 rest ⟨putE o.dst it.res e, it.mw ++ S, ds⟩ (fun ps s' => dq ((o, it) :: ps) s')) : DrawT C ops0 (o :: rest) ⟨e, S, ds⟩ dq := by
  obtain ⟨ps, s', h1, h2, h3⟩ := hn
  exact ⟨(o, it) :: ps, s', by simp [h1], .cons h h2, h3⟩
theorem Draw.pureG {mr : List Nat} {v : V} {d : Nat} (h : Ok C o ⟨e, S, ds⟩ ⟨mr, [], v⟩) (hd : o.dst = some d) (hg : GuardOk C ops0 o e) (hn : DrawT C ops0 rest ⟨(d, v) :: e, S, ds⟩ (fun ps s' => dq ((o, ⟨mr, [], v⟩) :: ps) s')) : DrawT C ops0 (o :: rest) ⟨e, S, ds⟩ dq :=
  Draw.consG (hg.okG h) (by rw [hd]; exact hn)
theorem Draw.updG {mr : List Nat} {id : Nat} {x : Option Obj} {v : V} (h : Ok C o ⟨e, S, ds⟩ ⟨mr, [(id, x)], v⟩) (hd : o.dst = .none) (hg : GuardOk C ops0 o e) (hn : DrawT C ops0 rest ⟨e, (id, x) :: S, ds⟩ (fun ps s' => dq ((o, ⟨mr, [(id, x)], v⟩) :: ps) s')) : DrawT C ops0 (o :: rest) ⟨e, S, ds⟩ dq :=
  Draw.consG (hg.okG h) (by rw [hd]; exact hn)
theorem Draw.makeG {mr : List Nat} {id d : Nat} {x : Option Obj} {v : V} (h : Ok C o ⟨e, S, ds⟩ ⟨mr, [(id, x)], v⟩) (hd : o.dst = some d) (hg : GuardOk C ops0 o e) (hn : DrawT C ops0 rest ⟨(d, v) :: e, (id, x) :: S, ds⟩ (fun ps s' => dq ((o, ⟨mr, [(id, x)], v⟩) :: ps) s')) : DrawT C ops0 (o :: rest) ⟨e, S, ds⟩ dq :=
  Draw.consG (hg.okG h) (by rw [hd]; exact hn)
theorem Draw.appG {mr : List Nat} {id id' d : Nat} {x x' : Option Obj} {v : V} (h : Ok C o ⟨e, S, ds⟩ ⟨mr, [(id, x), (id', x')], v⟩) (hd : o.dst = some d) (hg : GuardOk C ops0 o e) (hn : DrawT C ops0 rest ⟨(d, v) :: e, (id, x) :: (id', x') :: S, ds⟩ (fun ps s' => dq ((o, ⟨mr, [(id, x), (id', x')], v⟩) :: ps) s')) : DrawT C ops0 (o :: rest) ⟨e, S, ds⟩ dq :=
  Draw.consG (hg.okG h) (by rw [hd]; exact hn)
theorem Draw.passC {g t d : Nat} {want w' b : Bool} (hg : o.guard = some (g, want)) (hw : (!want) = w') (ht : (ops0[g]?).bind (·.dst) = some t) (hb : e.get t = V.b b) (hN : t < C.N) (hb' : b = w') (hd : o.dst = some d) (hdN : d < C.N) (hn : DrawT C ops0 rest ⟨(d, V.un) :: e, S, ds⟩ (fun ps s' => dq ((o, ⟨[], [], V.un⟩) :: ps) s')) : DrawT C ops0 (o :: rest) ⟨e, S, ds⟩ dq :=
  Draw.consG (passG hg hw ht hb hN hb' hd hdN) (by rw [hd]; exact hn)
theorem Draw.passU {g t d : Nat} {want : Bool} (hg : o.guard = some (g, want)) (ht : (ops0[g]?).bind (·.dst) = some t) (hb : e.get t = V.un) (hN : t < C.N) (hd : o.dst = some d) (hdN : d < C.N) (hn : DrawT C ops0 rest ⟨(d, V.un) :: e, S, ds⟩ (fun ps s' => dq ((o, ⟨[], [], V.un⟩) :: ps) s')) : DrawT C ops0 (o :: rest) ⟨e, S, ds⟩ dq :=
  Draw.consG (OkG.passU hg ht (by exact hb) hN (fun d' h => by rw [hd] at h; cases h; exact hdN)) (by rw [hd]; exact hn)
theorem Draw.split {g t : Nat} {want w' b : Bool} (hg : o.guard = some (g, want)) (hw : (!want) = w') (ht : (ops0[g]?).bind (·.dst) = some t) (hb : e.get t = V.b b) (h1 : b = want → DrawT C ops0 (o :: rest) ⟨e, S, ds⟩ dq) (h2 : b = w' → DrawT C ops0 (o :: rest) ⟨e, S, ds⟩ dq) : DrawT C ops0 (o :: rest) ⟨e, S, ds⟩ dq := by
  subst hw
  by_cases h : b = want
  · exact h1 h
  · exact h2 (by cases b <;> cases want <;> simp_all)
theorem T.drawn {id : Nat} {l : List Oper} {s : St} {q : Exit → St → Prop} (hm : P.follows .mixedOrders = true) (hback : backB 0 l = true) (h : DrawT C l.toArray l s (fun ps s' => orderB l.toArray (masks l []) 0 [] ps = true ∧ q .normal s')) : T C (.region id l.toArray true) s q := by
  obtain ⟨ps, s', h1, h2, h3, h4⟩ := h
  exact T.draw hm ps h1 h2 hback h3 h4

/-! ### Scopes, labels -/
theorem T.label {l : Nat} {s : St} {q : Exit → St → Prop} (h : q .normal s) : T C (.label l) s q := fun φ _ _ hr => wpIn_label ⟨φ, s, h, hr⟩
theorem T.scope {c : Code} {s : St} {q : Exit → St → Prop} (hro : C.ro = Option.none) (hq : ∀ l s, ¬ q (.goto l) s) (h : T C c s q) : T C (.scope c) s q := fun φ a w hr => by
  have hF : C.F = Fence.wide := by simp [Ctx.F, hro, Fence.wide]
  have h1 := h φ a w hr
  rw [hF, wpIn_wide] at h1 ⊢
  refine wp_scope_straight (Code.wp_mono ?_ h1)
  rintro ex a' w' ⟨φ', s', g1, g2⟩
  cases ex with
  | goto l => exact (hq l s' g1).elim
  | normal => exact ⟨φ', s', g1, g2⟩
  | exit id => exact ⟨φ', s', g1, g2⟩
  | ret => exact ⟨φ', s', g1, g2⟩
  | panic c => exact ⟨φ', s', g1, g2⟩
  | outgrown => exact ⟨φ', s', g1, g2⟩
/-- Whatever way through x: the state is told again. -/
theorem T.to {x y : Code} {s s1 : St} {q : Exit → St → Prop} (h : T C x s (thenQ q fun s' => Sub C s' s1)) (hn : T C y s1 q) : T C (.seq x y) s q :=
  T.seq (h.mono fun ex s' hs => by
    cases ex with
    | normal => exact T.sub hs hn
    | exit id => exact hs
    | goto id => exact hs
    | ret => exact hs
    | panic c => exact hs
    | outgrown => exact hs)
end

/-! ### More operations -/
section
variable {P : Program} {C : Ctx P} {o : Oper} {s : St} {d : Nat}
theorem ok_pick_t {c x y : Operand} (ho : o.op = .pick c x y) (hd : o.dst = some d) (hN : d < C.N) {b p : Bool} (hc : ev s.e c = V.b b) (hb : b = true) (hx : ev s.e x = V.b p) : Ok C o s ⟨[], [], V.b p⟩ :=
  ok_pick ho hd hN hc (by rw [if_pos hb, hx])
theorem ok_pick_f {c x y : Operand} (ho : o.op = .pick c x y) (hd : o.dst = some d) (hN : d < C.N) {b p : Bool} (hc : ev s.e c = V.b b) (hb : b = false) (hy : ev s.e y = V.b p) : Ok C o s ⟨[], [], V.b p⟩ :=
  ok_pick ho hd hN hc (by rw [if_neg (by rw [hb]; simp), hy])
theorem IntT.of {t : Nat} {k : IntKind} (h : P.underlying t = some (.int k)) : IntT P t k := ⟨h⟩
theorem ok_convert {src dst : Nat} {k k' : IntKind} {x : Operand} [h1 : IntT P src k] [h2 : IntT P dst k'] (ho : o.op = .convert src dst x) (hd : o.dst = some d) (hN : d < C.N) {kk : IntKind} {n : Int} (hx : ev s.e x = V.i kk n) : Ok C o s ⟨[], [], V.i k' (k'.wrap n)⟩ :=
  Ok.pure hd hN (by simp [ho]) fun K φ a w he => by
    have g0 := he x (by simp [ho, Op.operands])
    rw [hx] at g0
    refine ⟨.int k' (k'.wrap n), ?_, .d _ _ (.val _)⟩
    simp [execOp, ho, g0.val_inv, Go.convert, run_underlying h1.fact, run_underlying h2.fact, Conv.intToInt]
theorem ok_rem {x y : Operand} {t t' : Nat} (ho : o.op = .binOp .rem t x y t') (hd : o.dst = some d) (hN : d < C.N) {k : IntKind} {a b : Int} (hx : ev s.e x = V.i k a) (hy : ev s.e y = V.i k b) (h0 : b ≠ 0) : Ok C o s ⟨[], [], V.i k (a.tmod b)⟩ :=
  ok_bin ho hd hN hx hy fun w => by simp [go_sem, Op.intDiv, Go.binOp, h0]
theorem ok_quo {x y : Operand} {t t' : Nat} (ho : o.op = .binOp .quo t x y t') (hd : o.dst = some d) (hN : d < C.N) {k : IntKind} {a b : Int} (hx : ev s.e x = V.i k a) (hy : ev s.e y = V.i k b) (h0 : b ≠ 0) : Ok C o s ⟨[], [], V.i k (k.wrap (a.tdiv b))⟩ :=
  ok_bin ho hd hN hx hy fun w => by simp [go_sem, Op.intDiv, Go.binOp, h0]
class BoolT (P : Program) (t : Nat) : Prop where
  fact : P.underlying t = some .bool
theorem BoolT.of {t : Nat} (h : P.underlying t = some .bool) : BoolT P t := ⟨h⟩
theorem run_equal_b {t : Nat} [h : BoolT P t] {a b : Bool} {w : World} : (Op.equal t (.bool a) (.bool b)).run P w = .ok (a == b) w := by
  have key : ∀ dd, (Op.equalIn (dd + 1) t (.bool a) (.bool b)).run P w = .ok (a == b) w := fun dd => by
    simp only [Op.equalIn, Sem.run_bind, run_underlying h.fact, Result.andThen_ok]
    rfl
  exact key 9999
theorem ok_eql_b {x y : Operand} {t t' : Nat} [BoolT P t] (ho : o.op = .binOp .eql t x y t') (hd : o.dst = some d) (hN : d < C.N) {a b : Bool} (hx : ev s.e x = V.b a) (hy : ev s.e y = V.b b) : Ok C o s ⟨[], [], V.b (a == b)⟩ :=
  ok_bin ho hd hN hx hy fun w => by simp [go_sem, Go.binOp, run_equal_b]
theorem ok_neq_b {x y : Operand} {t t' : Nat} [BoolT P t] (ho : o.op = .binOp .neq t x y t') (hd : o.dst = some d) (hN : d < C.N) {a b : Bool} (hx : ev s.e x = V.b a) (hy : ev s.e y = V.b b) : Ok C o s ⟨[], [], V.b (!(a == b))⟩ :=
  ok_bin ho hd hN hx hy fun w => by simp [go_sem, Go.binOp, run_equal_b]
/-- One's own row, cut: its head. -/
theorem ok_slice_acc_h {t e sz bytes : Nat} {z : Value} {x y : Operand} [h : SliceT P t e sz bytes z] (ho : o.op = .slice t x none (some y) none) (hd : o.dst = some d) (hN : d < C.N) {id n : Nat} {k : IntKind} {i : Int} (hx : ev s.e x = .acc id sz n) (hy : ev s.e y = V.i k i) (h0 : 0 ≤ i) (h1 : i ≤ n) : Ok C o s ⟨[], [], .acc id sz i.toNat⟩ :=
  Ok.pure hd hN (by simp [ho]) fun K φ a w he => by
    have g0 := he x (by simp [ho, Op.operands])
    have g1 := he y (by simp [ho, Op.operands])
    rw [hx] at g0
    rw [hy] at g1
    obtain ⟨ht, hz⟩ := SliceT.elem (P := P) (t := t)
    rcases g0.acc_inv with ⟨hu, rfl, hφ⟩ | ⟨b, cap, t', hu, hφ, hsh, hn, hc⟩
    · obtain rfl : i = 0 := by omega
      refine ⟨.slice none 0 0, ?_, .accNil _ _ hφ⟩
      simp only [execOp, ho, hu, g1.val_inv, Option.map_some, Option.map_none, Sem.run_bind, run_sliceAt_slice _ _ _ _ _ _ ht, run_slice_h _ _ _ _ _ ht k 0 (by omega) (show (0 : Int) ≤ ((0 : Nat) : Int) by omega), hz, Result.andThen, sliced]
      simp
    · refine ⟨.slice (some ⟨b, 0, none⟩) i.toNat cap, ?_, .accRow _ _ _ b cap t' hφ hsh (by omega) hc⟩
      simp only [execOp, ho, hu, g1.val_inv, Option.map_some, Option.map_none, Sem.run_bind, run_sliceAt_slice _ _ _ _ _ _ ht, run_slice_h _ _ _ _ _ ht k i h0 (show i ≤ (cap : Int) by omega), hz, Result.andThen, sliced]
      simp [Addr.add_lit]
/-- One's own row, cut: its tail. -/
theorem ok_slice_acc_l {t e sz bytes : Nat} {z : Value} {x y : Operand} [h : SliceT P t e sz bytes z] (ho : o.op = .slice t x (some y) none none) (hd : o.dst = some d) (hN : d < C.N) {id n : Nat} {k : IntKind} {i : Int} (hx : ev s.e x = .acc id sz n) (hy : ev s.e y = V.i k i) (h0 : 0 ≤ i) (h1 : i < n) : Ok C o s ⟨[], [], .ref id sz (i.toNat * sz) (n - i.toNat)⟩ :=
  Ok.pure hd hN (by simp [ho]) fun K φ a w he => by
    have g0 := he x (by simp [ho, Op.operands])
    have g1 := he y (by simp [ho, Op.operands])
    rw [hx] at g0
    rw [hy] at g1
    obtain ⟨ht, hz⟩ := SliceT.elem (P := P) (t := t)
    rcases g0.acc_inv with ⟨hu, rfl, hφ⟩ | ⟨b, cap, t', hu, hφ, hsh, hn, hc⟩
    · omega
    · refine ⟨.slice (some ⟨b, i.toNat * sz, none⟩) (n - i.toNat) (cap - i.toNat), ?_, .ref _ _ _ _ b _ t' (cap * sz) hφ hsh ?_ (by omega) (by omega)⟩
      · simp only [execOp, ho, hu, g1.val_inv, Option.map_some, Option.map_none, Sem.run_bind, run_sliceAt_slice _ _ _ _ _ _ ht, run_slice_l _ _ _ _ _ ht k i h0 (show i ≤ (n : Int) by omega), hz, Result.andThen, sliced]
        rw [if_neg (by omega)]
        simp [Addr.add_lit]
      · rw [← Nat.add_mul, show i.toNat + (cap - i.toNat) = cap by omega]
        exact Nat.le_refl _
/-- A slice of one's own array. -/
theorem ok_slice_arr_h {t e n sz : Nat} {x y : Operand} [h : ArrT P t n e sz] (ho : o.op = .slice t x none (some y) none) (hd : o.dst = some d) (hN : d < C.N) {id : Nat} {ob : Obj} {k : IntKind} {i : Int} (hx : ev s.e x = .ptr id 0) (hy : ev s.e y = V.i k i) (h0 : 0 ≤ i) (h1 : i ≤ n)
    (hs : s.s.get id = some (some ob)) (hl : n * sz ≤ ob.cs.length) (hm : n ≤ maxLen) (hn0 : ob.cs ≠ []) : Ok C o s ⟨[id], [], .ref id sz 0 i.toNat⟩ :=
  Ok.reads [id] hd hN (by simp [ho]) fun K φ a w he hid => by
    have g0 := he x (by simp [ho, Op.operands])
    have g1 := he y (by simp [ho, Op.operands])
    rw [hx] at g0
    rw [hy] at g1
    obtain ⟨hu, ii, k1, k2⟩ := h.fact
    have he' : P.elem t = e := by simp [Program.elem, hu]
    have hal : P.arrayLen t = n := by simp [Program.arrayLen, hu]
    obtain ⟨b, hu0, hb⟩ := g0.ptr_inv
    rcases hid id (by simp) ob hs with ⟨_, h2⟩ | ⟨b', h2, arr, q1, q2, q3⟩
    · exact absurd h2 hn0
    · obtain rfl := Option.some.inj (Option.some.inj (hb.symm.trans h2))
      refine ⟨.slice (some ⟨b, 0, none⟩) i.toNat n, ?_, .ref _ _ _ _ b n ob.t arr.size hb (shape_of q1) (by omega) (by omega) hm⟩
      have ht : P.underlying t = some (.array (P.arrayLen t) (P.elem t)) := by rw [hu, hal, he']
      simp only [execOp, ho, hu0, g1.val_inv, Option.map_some, Option.map_none, Sem.run_bind, run_sliceAt_array_h w t ⟨b, 0, none⟩ ht k i h0 (by rw [hal]; exact h1), he', sizeOf, typeInfo, slicedAt, hal]
      simp [k1, k2, Addr.add_lit]
theorem Ok.writesV {id : Nat} {ob ob' : Obj} (hd : o.dst = none) (hnd : ∀ c, o.op ≠ .defer c) (hs : s.s.get id = some (some ob)) (ht : ob'.t = ob.t)
    (h : ∀ (K : Nat → Prop) φ (a : Act) w b (arr : Array Value), (∀ x ∈ o.op.operands, VVal K φ w (ev s.e x) (a.eval x)) → φ id = some (some b) → w.heap[b]? = some (.cells arr ob.t (0, 0)) → ob.cs.length ≤ arr.size →
      (∀ (j : Nat) (v : V), ob.cs[j]? = some v → ∃ u : Value, arr[j]? = some u ∧ u.oneCell' = true ∧ VVal K φ w v u) →
      ∃ (arr' : Array Value) (u : Value), (execOp a.eval o).run P w = .ok (.value u) (w.setRow b arr') ∧ arr'.size = arr.size ∧ ob'.cs.length ≤ arr'.size ∧ ∀ (j : Nat) (v : V), ob'.cs[j]? = some v → ∃ u : Value, arr'[j]? = some u ∧ u.oneCell' = true ∧ VVal K φ w v u)
    (hnil : ob.cs ≠ []) : Ok C o s ⟨[id], [(id, some ob')], .any⟩ := by
  intro e S he hid φ a w K Q hr hK
  have hs' : S.get id = some (some ob) := by rw [← hs]; exact hid id (.inl (by simp))
  rcases hr.objs id ob hs' with ⟨_, hn⟩ | ⟨b, hb, arr, h1, h2, h3⟩
  · exact absurd hn hnil
  · obtain ⟨arr', u, g1, g2, g3, g4⟩ := h (C.K φ S) φ a w b arr (fun x hx => by rw [← ev_same he hx]; exact hr.ev x) hb h1 h2 h3
    refine wpIn_value hnd g1 ?_
    rw [hd]
    rw [hd] at hK
    refine hK φ u _ ?_
    exact hr.set id ob ob' hs' hb h1 (by rw [ht]; exact setRow_heap w b arr arr' ob.t (0, 0) h1) g2 ht (fun k hk => setRow_other w b k arr' hk) (by simp [World.setRow]) rfl rfl rfl g3 g4
/-- 'clear' of a part of one's own row. -/
theorem ok_clear_ref {t e bytes : Nat} {z : Value} {x : Operand} [h : SliceT P t e 1 bytes z] (ho : o.op = .call { callee := .builtin .clear, args := #[x], argTypes := #[t] }) (hd : o.dst = none) {id of n : Nat} {ob : Obj} (hx : ev s.e x = .ref id 1 of n) (hs : s.s.get id = some (some ob)) (hz : z.oneCell' = true) (hn : 0 < n) (hf : of + n ≤ ob.cs.length) :
    Ok C o s ⟨[id], [(id, some ⟨ob.t, ob.cs.take of ++ List.replicate n (V.d (.val z)) ++ ob.cs.drop (of + n)⟩)], .any⟩ :=
  Ok.writesV hd (by simp [ho]) hs rfl (fun K φ a w b arr he hb h1 h2 h3 => by
    have g0 := he x (by simp [ho, Op.operands, Call.operands])
    rw [hx] at g0
    obtain ⟨hu, i, k1, k2, k3, k4, k5, k6⟩ := h.fact
    obtain ⟨b', cap, t', m, hu0, hb', hsh, hm, hnc, hc⟩ := g0.ref_inv
    obtain rfl := Option.some.inj (Option.some.inj (hb.symm.trans hb'))
    have hzc : z.cells = #[z] := cells_one hz
    have hzs : (Go.Builtin.zeroCells z.cells n).toList = List.replicate n z := by
      rw [hzc]
      apply List.ext_getElem?
      intro j
      simp only [Builtin.zeroCells, Array.toList_map, List.getElem?_map, Array.toList_range, List.size_toArray, List.length_singleton, Nat.mul_one, Nat.mod_one]
      by_cases hj : j < n
      · rw [List.getElem?_range hj, List.getElem?_replicate, if_pos hj]; rfl
      · rw [List.getElem?_eq_none (by simpa using hj), List.getElem?_replicate, if_neg hj]; rfl
    refine ⟨(arr.toList.take of ++ List.replicate n z ++ arr.toList.drop (of + n)).toArray, .tuple #[], ?_, by simp; omega, by simp; omega, fun j v hj => ?_⟩
    · have hr := run_storeCells_at P b of ob.t (List.replicate n z) 0 arr w h1 (by simp; omega) (fun v hv => by rw [List.eq_of_mem_replicate hv]; exact hz)
      simp only [Nat.add_zero, List.length_replicate] at hr
      obtain ⟨n', rfl⟩ : ∃ n', n = n' + 1 := ⟨n - 1, by omega⟩
      have hcl : (Builtin.clear_ #[t] o.type #[.slice (some ⟨b, of, none⟩) (n' + 1) cap]).run P w = .ok (.tuple #[]) (w.setRow b (arr.toList.take of ++ List.replicate (n' + 1) z ++ arr.toList.drop (of + (n' + 1))).toArray) := by
        simp [Builtin.clear_, run_underlying hu, zeroValue, typeInfo, k1, k4, hzs, hr]
      simp only [execOp, ho, resolve, invoke, Go.builtin, Sem.run_bind, Sem.run_pure, Result.andThen_ok, List.map_toArray, List.map_cons, List.map_nil, hu0, hcl]
    · rw [splice_get _ _ _ _ (by simp) hf] at hj
      have hg := splice_get arr.toList (List.replicate n z) of n (by simp) (by simp; omega) j
      rw [List.getElem?_toArray, hg]
      split at hj
      · rename_i q; rw [if_pos q]; simpa using h3 j v hj
      · rename_i q
        rw [if_neg q]
        split at hj
        · rename_i q2
          rw [if_pos q2, List.getElem?_replicate, if_pos (by omega)]
          rw [List.getElem?_replicate, if_pos (by omega)] at hj
          cases hj
          exact ⟨z, rfl, hz, .d _ _ (.val z)⟩
        · rename_i q2; rw [if_neg q2]; simpa using h3 j v hj)
    (fun e => by rw [e] at hf; simp at hf; omega)
end

section
variable {P : Program} {C : Ctx P} {o : Oper} {s : St} {d : Nat}
theorem ok_store_d {t : Nat} {x y : Operand} [ht : CellT P t] (ho : o.op = .store t x y) (hd : o.dst = none) {id off : Nat} {ob : Obj} {v : D} (hx : ev s.e x = .ptr id off) (hy : ev s.e y = V.d v) (hs : s.s.get id = some (some ob)) (hv : (V.d v).one = true) (hf : off < ob.cs.length) : Ok C o s ⟨[id], [(id, some ⟨ob.t, ob.cs.set off (V.d v)⟩)], .any⟩ := ok_store ho hd hx hy hs hv hf
theorem ok_store_acc {t : Nat} {x y : Operand} [ht : CellT P t] (ho : o.op = .store t x y) (hd : o.dst = none) {id off : Nat} {ob : Obj} {i sz n : Nat} (hx : ev s.e x = .ptr id off) (hy : ev s.e y = V.acc i sz n) (hs : s.s.get id = some (some ob)) (hf : off < ob.cs.length) : Ok C o s ⟨[id], [(id, some ⟨ob.t, ob.cs.set off (V.acc i sz n)⟩)], .any⟩ := ok_store ho hd hx hy hs rfl hf
theorem ok_build1 {t e bytes : Nat} {z : Value} {x : Operand} [h : SliceT P t e 1 bytes z] (ho : o.op = .buildSlice t 1 #[(0, x)]) (hd : o.dst = some d) (hN : d < C.N) {c : D} (hx : ev s.e x = V.d c) (h1 : (V.d c).one = true) : Ok C o s ⟨[], [], V.list 1 [[c]]⟩ :=
  ok_buildSlice ho hd hN [x] [c] rfl rfl (by decide) (by rw [List.map_cons, List.map_nil, hx]; rfl) (fun y hy => by rw [List.mem_singleton.1 hy]; exact h1)
theorem ok_append1 {t e bytes : Nat} {z : Value} [h : SliceT P t e 1 bytes z] {x y : Operand} {id : Nat} (id' : Nat) {n : Nat} {ob : Obj} {c : D}
    (ho : o.op = .call { callee := .builtin .append, args := #[x, y], argTypes := #[t, t] }) (hd : o.dst = some d) (hN : d < C.N) (hx : ev s.e x = .acc id 1 n) (hy : ev s.e y = V.list 1 [[c]]) (hs : s.s.get id = some (some ob)) (hot : ob.t = e) (hs' : s.s.get id' = none)
    (h1 : (V.d c).one = true) (hl : ob.cs.length = n) (hb : (n + 1) * bytes ≤ 140737488355328) (hm : n + 1 ≤ maxLen) :
    Ok C o s ⟨[], [(id, none), (id', some ⟨e, ob.cs ++ [V.d c]⟩)], .acc id' 1 (n + 1)⟩ :=
  ok_append_list id' ho hd hN hx hy hs hot hs' (by omega) hb hm (fun e he x hx => by
    rw [List.mem_singleton.1 he] at hx
    rw [List.mem_singleton.1 hx]; exact h1)
def lendV (id sz : Nat) (es : List (List D)) : V → V
  | .acc i sz' n => if i = id then V.list sz es else .acc i sz' n
  | v => v
/-- A call by a contract for deep arguments, one of which is one's own row for the time of the call. -/
theorem Ok.lend {f id sz t : Nat} {es : List (List D)} {vs : List V} {r : Value} (hd : ∀ d, o.dst = some d → d < C.N) (hnd : ∀ c, o.op ≠ .defer c) (he : Enters P o s f vs) (hid : s.s.get id = some (some ⟨t, (es.flatten).map V.d⟩)) (hs : ∀ x ∈ es, x.length = sz) (hsz : 0 < sz)
    (hvn : ∀ v ∈ vs, ∀ sz' n, v = .acc id sz' n → sz' = sz ∧ n = es.length) (hdeep : V.deeps (vs.map (lendV id sz es)) = true) (hf : Does P f (vs.map (lendV id sz es)) (.d (.val r))) : Ok C o s ⟨[id], [], .d (.val r)⟩ := by
  intro E S hE hS φ a w K Q hr hK
  refine ⟨fun _ _ => trivial, ?_⟩
  rw [semAt_eq hnd]
  obtain ⟨us, hrun, hlen, hval⟩ := he (C.K φ S) φ a w (fun x hx => by rw [← ev_same hE hx]; exact hr.ev x)
  rw [hrun]
  have hid' : S.get id = some (some ⟨t, (es.flatten).map V.d⟩) := by rw [← hid]; exact hS id (.inl (by simp))
  obtain ⟨hr2, hfz⟩ := hr.freeze hid' hs hsz
  have st : Still (C.K φ S) (C.K φ ((id, none) :: S)) w w := ⟨Nat.le_refl _, fun _ _ _ => rfl, fun b hb _ hk => hb (hk.imp (fun x => x) (by
    rintro ⟨i, o1, g1, g2⟩
    rw [Store.get_cons] at g1
    split at g1
    · cases g1
    · exact ⟨i, o1, g1, g2⟩)), fun _ _ _ x => x⟩
  have hcalls := hf.calls (C.K φ ((id, none) :: S)) w us hr2.Klt (by simp [hlen]) (fun j v u hj hu => by
    rw [List.getElem?_map] at hj
    cases hv : vs[j]? with
    | none => rw [hv] at hj; cases hj
    | some v0 =>
      rw [hv] at hj
      cases hj
      have g := hval j v0 u hv hu
      have hdv := V.deeps_get hdeep j (lendV id sz es v0) (by rw [List.getElem?_map, hv]; rfl)
      cases v0 with
      | acc i sz' n' =>
        by_cases hi : i = id
        · subst hi
          obtain ⟨rfl, rfl⟩ := hvn _ (List.mem_of_getElem? hv) sz' n' rfl
          simp only [lendV, if_true]
          have := hfz es.length u (Nat.le_refl _) g
          rw [List.take_length] at this
          exact this.deep rfl
        · simp only [lendV, if_neg hi, V.deep] at hdv
          cases hdv
      | any => exact .any _
      | d x => exact (g.still st (fun _ _ x => x)).deep hdv
      | agg cs => exact (g.still st (fun _ _ x => x)).deep hdv
      | tup cs => exact (g.still st (fun _ _ x => x)).deep hdv
      | ref _ _ _ _ => cases hdv
      | ptr _ _ => cases hdv
      | clo _ _ => exact (g.still st (fun _ _ x => x)).deep hdv)
  refine ⟨(fun h => by cases h), callsIn_of (hcalls.mono ?_)⟩
  rintro e w' ⟨u, rfl, hu, hb⟩
  exact hK φ u w' ((hr.below hb).putO hd (by rw [hu.val_inv]; exact .d _ _ (.val r)))
theorem ok_call_lend {f : Nat} {args : Array Operand} {ts : Array Nat} {r : Value} (id sz : Nat) (es : List (List D)) {t : Nat} (ho : o.op = .call { callee := .value (.func f), args, argTypes := ts }) (hd : o.dst = some d) (hN : d < C.N) (vs : List V) (hvs : argVs s.e args = vs)
    (hid : s.s.get id = some (some ⟨t, (es.flatten).map V.d⟩)) (hs : ∀ x ∈ es, x.length = sz) (hsz : 0 < sz) (hvn : ∀ v ∈ vs, ∀ sz' n, v = .acc id sz' n → sz' = sz ∧ n = es.length) (hdeep : V.deeps (vs.map (lendV id sz es)) = true) (hf : Does P f (vs.map (lendV id sz es)) (.d (.val r))) : Ok C o s ⟨[id], [], .d (.val r)⟩ :=
  Ok.lend (fun d' h => by rw [hd] at h; cases h; exact hN) (by simp [ho]) (enters_func ho hf.enter hvs) hid hs hsz hvn hdeep hf
end

/-! ### Weaker states -/
/-- A row of one's own becomes deep, all of it. -/
theorem Sub.freeze1 {P : Program} {C : Ctx P} {s : St} (id sz t : Nat) {n : Nat} {ty : TypeId} {es : List (List D)} (ht : s.e.get t = .acc id sz n) (hid : s.s.get id = some (some ⟨ty, (es.flatten).map V.d⟩)) (hn : n = es.length) (hs : ∀ x ∈ es, x.length = sz) (hsz : 0 < sz) :
    Sub C s ⟨(t, V.list sz es) :: s.e, (id, none) :: s.s, s.ds⟩ := by
  have := Sub.freeze (C := C) (s := s) id sz [(t, n)] hid hs hsz (fun p hp => by rw [List.mem_singleton.1 hp]; exact ⟨ht, by omega⟩)
  rw [hn] at this
  simpa using this
theorem V.ren_id : ∀ v : V, v.ren id = v := by
  intro v
  refine V.rec (motive_1 := fun v => v.ren id = v) (motive_2 := fun l => V.rens id l = l) rfl (fun x => rfl) (fun cs h => ?_) (fun cs h => ?_) (fun _ _ _ _ => rfl) (fun _ _ _ => rfl) (fun _ _ => rfl) (fun f cs h => ?_) rfl (fun v r h1 h2 => ?_) v
  · rw [V.ren, h]
  · rw [V.ren, h]
  · rw [V.ren, h]
  · rw [V.rens, h1, h2]
theorem V.rens_id : ∀ l : List V, V.rens id l = l
  | [] => rfl
  | v :: r => by rw [V.rens, V.ren_id, V.rens_id r]
def StoreLe (S : Store) : Store → Prop
  | [] => True
  | (_, none) :: r => StoreLe S r
  | (k, some o) :: r => S.get k = some (some o) ∧ StoreLe S r
theorem EnvR.id_ {e : Env} : ∀ {e' : Env}, EnvLe e e' → EnvR id e e'
  | [], _ => trivial
  | (k, v) :: r, h => ⟨by rw [V.ren_id]; exact h.1, EnvR.id_ h.2⟩
theorem StoreR.id_ {S : Store} : ∀ {S' : Store}, StoreLe S S' → StoreR id S S'
  | [], _ => trivial
  | (_, none) :: r, h => StoreR.id_ (S' := r) h
  | (k, some o) :: r, h => ⟨by rw [V.rens_id]; exact h.1, StoreR.id_ h.2⟩
theorem injOn_id : ∀ S : Store, injOn id S = true
  | [] => rfl
  | (k, x) :: r => by
    simp only [injOn, Bool.and_eq_true, List.all_eq_true, Bool.or_eq_true, bne_iff_ne, beq_iff_eq, injOn_id r, and_true, id]
    intro p _
    by_cases h : k = p.1
    · exact .inr h
    · exact .inl h
/-- Some slots and some objects are forgotten. -/
theorem Sub.drop {P : Program} {C : Ctx P} {e e' : Env} {S S' : Store} {ds : List Deferred} (he : EnvLe e e') (hS : StoreLe S S') (h1 : envIn S' e' = true) (h2 : storeIn S' S' = true) (hfx : ∀ id, C.fx id ≠ none → S'.get id ≠ none) : Sub C ⟨e, S, ds⟩ ⟨e', S', ds⟩ :=
  Sub.ren (s := ⟨e, S, ds⟩) id (EnvR.id_ he) (StoreR.id_ hS) (injOn_id S') h1 h2 fun i hi => ⟨rfl, hfx i hi⟩
theorem insS_ds (S : Store) : ∀ l : List D, V.insS S (l.map V.d) = true
  | [] => rfl
  | x :: r => by simp only [List.map_cons, V.insS, V.inS, insS_ds S r, Bool.and_self]
theorem fx0 {P : Program} {C : Ctx P} (h : C.fx = noPhi) {p : Nat → Prop} : ∀ id, C.fx id ≠ none → p id := fun id hid => by rw [h] at hid; exact absurd rfl hid

theorem Rel.own_keep {φ : Phi} {S : Store} {id : Nat} {o o' : Obj} (hid : S.get id = some (some o)) (b : Nat) : own φ ((id, some o') :: S) b ↔ own φ S b := by
  constructor
  · rintro ⟨i, o1, h1, h2⟩
    rw [Store.get_cons] at h1
    split at h1
    · rename_i hi; subst hi; exact ⟨_, o, hid, h2⟩
    · exact ⟨i, o1, h1, h2⟩
  · rintro ⟨i, o1, h1, h2⟩
    by_cases hi : id = i
    · subst hi; exact ⟨id, o', by rw [Store.get_cons, if_pos rfl], h2⟩
    · exact ⟨i, o1, by rw [Store.get_cons, if_neg hi]; exact h1, h2⟩
/-- What an object holds told otherwise. -/
theorem Rel.obj {P : Program} {C : Ctx P} {φ : Phi} {e : Env} {S : Store} {ds : List Deferred} {a : Act} {w : World} (h : Rel C φ ⟨e, S, ds⟩ a w) {id : Nat} {o o' : Obj} (hid : S.get id = some (some o)) (ht : o'.t = o.t)
    (hc : φ id = some none → o.cs = [] → o'.cs = []) (hv : ∀ b, φ id = some (some b) → ObjAt (C.K φ S) φ w o b → ObjAt (C.K φ S) φ w o' b) : Rel C φ ⟨e, (id, some o') :: S, ds⟩ a w := by
  have hown := Rel.own_keep (φ := φ) (o' := o') hid
  have hK : ∀ b, C.K φ ((id, some o') :: S) b ↔ C.K φ S b := fun b => by simp only [Ctx.K, hown]
  have hKe : C.K φ ((id, some o') :: S) = C.K φ S := funext fun b => propext (hK b)
  have hget : ∀ i o1, Store.get ((id, some o') :: S) i = some (some o1) → ∃ o2, S.get i = some (some o2) := fun i o1 hi => by
    rw [Store.get_cons] at hi
    split at hi
    · rename_i hk; subst hk; exact ⟨o, hid⟩
    · exact ⟨o1, hi⟩
  refine ⟨h.size, fun t => by rw [hKe]; exact h.slots t, fun i o1 hi => ?_, fun i i' o1 o2 b g1 g2 g3 g4 => ?_, fun i o1 b g1 g2 => ?_, h.lt, fun i hi => ?_, h.defs, h.keep, h.fixed⟩
  · rw [Store.get_cons] at hi
    show _ ∨ ∃ b, φ i = some (some b) ∧ ObjAt (C.K φ ((id, some o') :: S)) φ w o1 b
    rw [hKe]
    split at hi
    · rename_i hk
      subst hk
      cases hi
      exact (h.objs _ o hid).imp (fun x => ⟨x.1, hc x.1 x.2⟩) fun ⟨b, hb, ho⟩ => ⟨b, hb, hv b hb ho⟩
    · exact h.objs i o1 hi
  · obtain ⟨o3, x3⟩ := hget i o1 g1
    obtain ⟨o4, x4⟩ := hget i' o2 g2
    exact h.inj i i' o3 o4 b x3 x4 g3 g4
  · obtain ⟨o3, x3⟩ := hget i o1 g1
    exact h.ours i o3 b x3 g2
  · rw [Store.get_cons]; split
    · simp
    · exact h.used i hi
/-- A cell told otherwise. -/
theorem Rel.cell {P : Program} {C : Ctx P} {φ : Phi} {e : Env} {S : Store} {ds : List Deferred} {a : Act} {w : World} (h : Rel C φ ⟨e, S, ds⟩ a w) {id j : Nat} {o : Obj} {v v' : V} (hid : S.get id = some (some o)) (hj : o.cs[j]? = some v)
    (hv : ∀ u, VVal (C.K φ S) φ w v u → VVal (C.K φ S) φ w v' u) : Rel C φ ⟨e, (id, some ⟨o.t, o.cs.set j v'⟩) :: S, ds⟩ a w := by
  refine h.obj hid rfl (fun _ hc => by rw [hc] at hj; simp at hj) fun b _ ho => ?_
  obtain ⟨arr, h1, h2, h3⟩ := ho
  refine ⟨arr, h1, by simpa using h2, fun k x hk => ?_⟩
  simp only [List.getElem?_set] at hk
  split at hk
  · rename_i hjk
    subst hjk
    split at hk
    · cases hk
      obtain ⟨u, g1, g2, g3⟩ := h3 j v hj
      exact ⟨u, g1, g2, hv u g3⟩
    · cases hk
  · exact h3 k x hk
/-- An object's tail is forgotten. -/
theorem Sub.cut {P : Program} {C : Ctx P} {e : Env} {S : Store} {ds : List Deferred} (id k : Nat) {o : Obj} (hid : S.get id = some (some o)) : Sub C ⟨e, S, ds⟩ ⟨e, (id, some ⟨o.t, o.cs.take k⟩) :: S, ds⟩ := fun φ a w h => by
  refine ⟨φ, h.obj hid rfl (fun _ hc => by simp [hc]) fun b _ ho => ?_⟩
  obtain ⟨arr, h1, h2, h3⟩ := ho
  refine ⟨arr, h1, by simp; omega, fun j x hj => ?_⟩
  simp only [List.getElem?_take] at hj
  split at hj
  · exact h3 j x hj
  · cases hj
/-- The row that a cell holds becomes deep. -/
theorem Sub.freezeAt {P : Program} {C : Ctx P} {s : St} (oid j id sz : Nat) {o : Obj} {n : Nat} {t : TypeId} {es : List (List D)} (ho : s.s.get oid = some (some o)) (hj : o.cs[j]? = some (.acc id sz n)) (hid : s.s.get id = some (some ⟨t, (es.flatten).map V.d⟩)) (hne : oid ≠ id) (hs : ∀ x ∈ es, x.length = sz) (hsz : 0 < sz) (hn : n ≤ es.length) :
    Sub C s ⟨s.e, (oid, some ⟨o.t, o.cs.set j (V.list sz (es.take n))⟩) :: (id, none) :: s.s, s.ds⟩ := fun φ a w hr => by
  obtain ⟨e, S, ds⟩ := s
  obtain ⟨h1, h2⟩ := hr.freeze hid hs hsz
  refine ⟨φ, h1.cell (by rw [Store.get_cons, if_neg (fun x => hne x.symm)]; exact ho) hj fun u hu => ?_⟩
  have g : VVal (C.K φ S) φ w (.acc id sz n) u := by
    rcases hu.acc_inv with ⟨rfl, rfl, k⟩ | ⟨b, cap, t', rfl, k1, k2, k3, k4⟩
    · exact .accNil _ _ k
    · exact .accRow _ _ _ b cap t' k1 k2 k3 k4
  exact h2 n u hn g
/-- A nil slice in a cell is the begin of a row. -/
theorem Sub.beginAt {P : Program} {C : Ctx P} {s : St} (oid j id sz : Nat) (ty : TypeId) {o : Obj} (ho : s.s.get oid = some (some o)) (hj : o.cs[j]? = some V.nil) (hid : s.s.get id = none) :
    Sub C s ⟨s.e, (oid, some ⟨o.t, o.cs.set j (.acc id sz 0)⟩) :: (id, some ⟨ty, []⟩) :: s.s, s.ds⟩ := fun φ a w hr => by
  obtain ⟨e, S, ds⟩ := s
  have hne : oid ≠ id := fun x => by subst x; rw [hid] at ho; cases ho
  have hφ := Phi.set_ext (hr.fresh hid) none
  have hown : ∀ b, own (φ.set id none) ((id, some ⟨ty, []⟩) :: S) b → own φ S b := by
    rintro b ⟨i, o1, g1, g2⟩
    by_cases hi : i = id
    · subst hi; rw [Phi.set_same] at g2; cases g2
    · rw [Store.get_cons, if_neg (fun x => hi x.symm)] at g1
      rw [Phi.set_other φ _ hi] at g2
      exact ⟨i, o1, g1, g2⟩
  have st : Still (C.K φ S) (C.K (φ.set id none) ((id, some ⟨ty, []⟩) :: S)) w w := ⟨Nat.le_refl _, fun _ _ _ => rfl, fun b hb _ hk => hb (hk.imp (fun x => x) (hown b)), fun _ _ _ x => x⟩
  have hb : ∀ i b, φ.set id none i = some (some b) → i ≠ id ∧ φ i = some (some b) := fun i b hb => by
    by_cases hi : i = id
    · subst hi; rw [Phi.set_same] at hb; cases hb
    · rw [Phi.set_other φ _ hi] at hb; exact ⟨hi, hb⟩
  have h1 := hr.step (φ' := φ.set id none) (S' := (id, some ⟨ty, []⟩) :: S) st hφ (fun i o1 hi => by
      by_cases hii : i = id
      · subst hii
        rw [Store.get_cons, if_pos rfl] at hi
        cases hi
        exact .inl ⟨Phi.set_same _ _ _, rfl⟩
      · rw [Store.get_cons, if_neg (fun x => hii x.symm)] at hi
        refine (hr.objs i o1 hi).imp (fun x => ⟨by rw [Phi.set_other φ _ hii]; exact x.1, x.2⟩) fun ⟨b, hb, ho⟩ => ⟨b, hφ i _ hb, ho.still st hφ rfl, hr.ours i o1 b hi hb⟩)
    (fun i i' o1 o2 b g1 g2 g3 g4 => by
      obtain ⟨q1, q2⟩ := hb i b g3
      obtain ⟨q3, q4⟩ := hb i' b g4
      rw [Store.get_cons, if_neg (fun x => q1 x.symm)] at g1
      rw [Store.get_cons, if_neg (fun x => q3 x.symm)] at g2
      exact hr.inj i i' o1 o2 b g1 g2 q2 q4)
    (fun i b hib => hr.lt i b (hb i b hib).2)
    (fun i hi => by
      rw [Store.get_cons]
      split
      · simp
      · rename_i hk
        rw [Phi.set_other φ _ (fun x => hk x.symm)] at hi
        exact hr.used i hi) hr.keep
  refine ⟨φ.set id none, h1.cell (by rw [Store.get_cons, if_neg (fun x => hne x.symm)]; exact ho) hj fun u hu => ?_⟩
  rw [hu.val_inv]
  exact .accNil _ _ (Phi.set_same _ _ _)

end Go.Proofs.Ytjofdfiljokfoaa.TL
