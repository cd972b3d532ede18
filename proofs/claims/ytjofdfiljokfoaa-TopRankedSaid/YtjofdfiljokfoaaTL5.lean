/- A small logic for Go functions over the model: regions, calls, contracts. -/
import Derived.Test.YtjofdfiljokfoaaTL4
namespace Go.Proofs.Ytjofdfiljokfoaa.TL
open Go Go.RowKit
set_option linter.unusedVariables false
set_option linter.unusedSimpArgs false

/-! ### Regions in the text's order -/
def SeqT {P : Program} (C : Ctx P) (ops0 : Array Oper) (l : List Oper) (s : St) (q : St → Prop) : Prop :=
  ∀ φ a w, Rel C φ s a w → ∀ Q : Exit → Act → World → Prop, (∀ φ s a w, q s → Rel C φ s a w → Q .normal a w) → wpListIn C.F 0 P ops0 Q l a w

section
variable {P : Program} {C : Ctx P} {ops0 : Array Oper} {o : Oper} {rest : List Oper} {s : St} {q : St → Prop}
theorem Seq.nil (h : q s) : SeqT C ops0 [] s q := fun φ a w hr _ hQ => hQ φ s a w h hr
theorem Seq.cons {it : It} (h : Ok C o s it) (hg : o.guard = none) (hn : SeqT C ops0 rest ⟨putE o.dst it.res s.e, it.mw ++ s.s, s.ds⟩ q) : SeqT C ops0 (o :: rest) s q := fun φ a w hr Q hQ => by
  refine wpListIn_plain hg fun K hK => ?_
  exact h s.e s.s (fun _ _ => rfl) (fun _ _ => rfl) φ a w K Q hr (fun φ' u w' hr' => hK _ _ (hn φ' _ w' hr' Q hQ))
theorem Seq.pure {e : Env} {S : Store} {ds : List Deferred} {mr : List Nat} {v : V} {d : Nat} (h : Ok C o ⟨e, S, ds⟩ ⟨mr, [], v⟩) (hd : o.dst = some d) (hg : o.guard = none) (hn : SeqT C ops0 rest ⟨(d, v) :: e, S, ds⟩ q) : SeqT C ops0 (o :: rest) ⟨e, S, ds⟩ q :=
  Seq.cons h hg (by rw [hd]; exact hn)
theorem Seq.upd {e : Env} {S : Store} {ds : List Deferred} {mr : List Nat} {id : Nat} {x : Option Obj} {v : V} (h : Ok C o ⟨e, S, ds⟩ ⟨mr, [(id, x)], v⟩) (hd : o.dst = none) (hg : o.guard = none) (hn : SeqT C ops0 rest ⟨e, (id, x) :: S, ds⟩ q) : SeqT C ops0 (o :: rest) ⟨e, S, ds⟩ q :=
  Seq.cons h hg (by rw [hd]; exact hn)
theorem Seq.make {e : Env} {S : Store} {ds : List Deferred} {mr : List Nat} {id d : Nat} {x : Option Obj} {v : V} (h : Ok C o ⟨e, S, ds⟩ ⟨mr, [(id, x)], v⟩) (hd : o.dst = some d) (hg : o.guard = none) (hn : SeqT C ops0 rest ⟨(d, v) :: e, (id, x) :: S, ds⟩ q) : SeqT C ops0 (o :: rest) ⟨e, S, ds⟩ q :=
  Seq.cons h hg (by rw [hd]; exact hn)
theorem Seq.app {e : Env} {S : Store} {ds : List Deferred} {mr : List Nat} {id id' d : Nat} {x x' : Option Obj} {v : V} (h : Ok C o ⟨e, S, ds⟩ ⟨mr, [(id, x), (id', x')], v⟩) (hd : o.dst = some d) (hg : o.guard = none) (hn : SeqT C ops0 rest ⟨(d, v) :: e, (id, x) :: (id', x') :: S, ds⟩ q) : SeqT C ops0 (o :: rest) ⟨e, S, ds⟩ q :=
  Seq.cons h hg (by rw [hd]; exact hn)
theorem about_wide (a : Act) (w : World) : ∀ f, o.about P w a.eval = some f → C.F.fn f := fun _ _ => trivial
theorem yielded_of {φ : Phi} {a : Act} {w : World} {g t : Nat} {b : Bool} (hr : Rel C φ s a w) (ht : (ops0[g]?).bind (·.dst) = some t) (hb : s.e.get t = V.b b) (hN : t < C.N) : yielded ops0 a.tmps g = some b := by
  have h := hr.slots t
  rw [hb] at h
  have h := h.val_inv
  have hs : t < a.tmps.size := by rw [hr.size]; exact hN
  have h2 : a.tmps[t]? = some (.bool b) := by
    rw [Array.getElem?_eq_getElem hs]
    simpa [Array.getD, hs] using h
  simp only [yielded, ht, Option.bind_some, h2]
theorem Seq.guard {it : It} {g t : Nat} {want b : Bool} (hg : o.guard = some (g, want)) (ht : (ops0[g]?).bind (·.dst) = some t) (hb : s.e.get t = V.b b) (hN : t < C.N) (hd : ∀ d, o.dst = some d → d < C.N)
    (h1 : b = want → Ok C o s it ∧ SeqT C ops0 rest ⟨putE o.dst it.res s.e, it.mw ++ s.s, s.ds⟩ q) (h2 : b ≠ want → SeqT C ops0 rest ⟨putE o.dst .any s.e, s.s, s.ds⟩ q) : SeqT C ops0 (o :: rest) s q := fun φ a w hr Q hQ => by
  have hy := yielded_of hr ht hb hN
  refine wpListIn_step fun K hK => ?_
  simp only [Region.wanted, hg, hy]
  by_cases hbw : b = want
  · obtain ⟨k1, k2⟩ := h1 hbw
    rw [if_pos (by simp [hbw])]
    exact k1 s.e s.s (fun _ _ => rfl) (fun _ _ => rfl) φ a w K Q hr (fun φ' u w' hr' => hK _ _ (k2 φ' _ w' hr' Q hQ))
  · rw [if_neg (by simp [hbw])]
    refine ⟨about_wide (C := C) _ _, hK _ _ (h2 hbw φ _ w ?_ Q hQ)⟩
    cases hdst : o.dst with
    | none => exact hr
    | some d => exact hr.put (hd d hdst) (.any _)
theorem T.region {id : Nat} {l : List Oper} {q : Exit → St → Prop} (h : SeqT C l.toArray l s (fun s' => q .normal s')) : T C (.region id l.toArray false) s q := fun φ a w hr =>
  wpIn_region_lit (h φ a w hr _ fun φ s a w h1 h2 => ⟨φ, s, h1, h2⟩)
end

/-! ### Calls -/
def noPhi : Phi := fun _ => none
/-- What a function does with deep arguments. -/
structure Does (P : Program) (f : Nat) (args : List V) (res : V) : Prop where
  enter : ∀ vs w, (callFunc f vs).run P w = .ok (.enter f vs) w
  calls : ∀ (K : Nat → Prop) (w : World) (vs : List Value), (∀ b, K b → b < w.heap.size) → vs.length = args.length → (∀ (j : Nat) (v : V) (u : Value), args[j]? = some v → vs[j]? = some u → VVal K noPhi w v u) →
    Calls P f vs.toArray w fun e w' => ∃ u, e = .returned u ∧ VVal K noPhi w' res u ∧ Below w.heap.size w w'

mutual
def V.deep : V → Bool
  | .any => true
  | .d _ => true
  | .agg cs => V.deeps cs
  | .tup cs => V.deeps cs
  | .clo _ cs => V.deeps cs
  | _ => false
def V.deeps : List V → Bool
  | [] => true
  | v :: r => V.deep v && V.deeps r
end
theorem V.deeps_get {cs : List V} (h : V.deeps cs = true) : ∀ (j : Nat) (v : V), cs[j]? = some v → v.deep = true := by
  induction cs with
  | nil => intro j v hj; simp at hj
  | cons c r ih =>
    simp only [V.deeps, Bool.and_eq_true] at h
    intro j v hj
    cases j with
    | zero => cases hj; exact h.1
    | succ j => exact ih h.2 j v (by simpa using hj)
theorem V.deeps_of {cs : List V} (h : ∀ v ∈ cs, v.deep = true) : V.deeps cs = true := by
  induction cs with
  | nil => rfl
  | cons c r ih => simp only [V.deeps, Bool.and_eq_true]; exact ⟨h c (by simp), ih fun v hv => h v (by simp [hv])⟩
/-- A deep value says the same whatever one owns. -/
theorem VVal.deep {K : Nat → Prop} {φ φ' : Phi} {w : World} {v : V} {u : Value} (h : VVal K φ w v u) (hd : v.deep = true) : VVal K φ' w v u := by
  induction h with
  | any v => exact .any v
  | d x v hx => exact .d x v hx
  | agg cs xs hl hx ih => exact .agg cs xs hl fun j d u hj hu => ih j d u hj hu (V.deeps_get (by simpa [V.deep] using hd) j d hj)
  | tup cs xs hl hx ih => exact .tup cs xs hl fun j d u hj hu => ih j d u hj hu (V.deeps_get (by simpa [V.deep] using hd) j d hj)
  | clo f caps xs hl hx ih => exact .clo f caps xs hl fun j d u hj hu => ih j d u hj hu (V.deeps_get (by simpa [V.deep] using hd) j d hj)
  | ref => cases hd
  | accNil => cases hd
  | accRow => cases hd
  | ptr => cases hd

theorem Rel.below {P : Program} {C : Ctx P} {φ : Phi} {s : St} {a : Act} {w w' : World} (h : Rel C φ s a w) (hb : Below w.heap.size w w') : Rel C φ s a w' := by
  obtain ⟨e, S, ds⟩ := s
  have st : Still (C.K φ S) (C.K φ S) w w' := Still.of hb.size (fun b _ hlt => hb.block b hlt) (fun b h => .inl h) (fun b t m ho hm => by
    obtain ⟨i, o1, _, h2⟩ := ho
    simpa [World.shape?, hb.block b (h.lt i b h2)] using hm)
  refine h.step st (fun _ _ x => x) (fun id o hid => ?_) h.inj (fun id b hid => Nat.lt_of_lt_of_le (h.lt id b hid) hb.size) h.used (h.keep.mono hb.os hb.tape hb.output hb.size (fun b hlt _ => hb.block b (Nat.lt_of_lt_of_le hlt h.keep.size)) st.shape)
  refine (h.objs id o hid).imp (fun x => x) fun ⟨b, hb1, ho⟩ => ?_
  exact ⟨b, hb1, ho.still st (fun _ _ x => x) (hb.block b (h.lt id b hb1)), h.ours id o b hid hb1⟩

theorem Rel.still_below {P : Program} {C : Ctx P} {φ : Phi} {s : St} {a : Act} {w w' : World} (h : Rel C φ s a w) (hb : Below w.heap.size w w') : Still (C.K φ s.s) (C.K φ s.s) w w' :=
  Still.of hb.size (fun b _ hlt => hb.block b hlt) (fun b h => .inl h) (fun b t m ho hm => by
    obtain ⟨i, o1, _, h2⟩ := ho
    simpa [World.shape?, hb.block b (h.lt i b h2)] using hm)

theorem callsIn_of {P : Program} {C : Ctx P} {n f : Nat} {args : Array Value} {w : World} {R : Ending → World → Prop} (h : Calls P f args w R) : CallsIn C.F n P f args w R :=
  ⟨trivial, fun cs _ => let ⟨e, w', fr, r, s, x⟩ := h cs; ⟨e, w', fr, r, comesIn_wide.2 s, x⟩⟩

theorem Rel.Klt {P : Program} {C : Ctx P} {φ : Phi} {s : St} {a : Act} {w : World} (h : Rel C φ s a w) : ∀ b, C.K φ s.s b → b < w.heap.size := by
  rintro b (hb | ⟨i, o, _, hb⟩)
  · have := h.keep.k0 b hb; have := h.keep.size; omega
  · exact h.lt i b hb

section
variable {P : Program} {C : Ctx P} {o : Oper} {s : St} {d : Nat}
def argVs (e : Env) (args : Array Operand) : List V := args.toList.map (ev e)
/-- A call of a function, by its contract; the arguments are deep. -/
theorem ok_call {f : Nat} {args : Array Operand} {ts : Array Nat} {res : V} (ho : o.op = .call { callee := .value (.func f), args, argTypes := ts }) (hd : o.dst = some d) (hN : d < C.N) (vs : List V) (hvs : argVs s.e args = vs) (hdeep : V.deeps vs = true) (hf : Does P f vs res) (hres : res.deep = true) :
    Ok C o s ⟨[], [], res⟩ := by
  intro E S he _ φ a w K Q hr hK
  have hops : ∀ x ∈ args.toList, x ∈ o.op.operands := fun x hx => by simp [ho, Op.operands, Call.operands]; exact .inr (by simpa using hx)
  refine ⟨fun _ _ => trivial, ?_⟩
  rw [semAt_eq (by simp [ho])]
  have hrun : (execOp a.eval o).run P w = .ok (.enter f (args.map a.eval)) w := by
    have := hf.enter (args.map a.eval) w
    simp [execOp, ho, resolve, Deferred.ofValue, Act.eval, invoke, this]
  have hargs : args.map a.eval = (args.toList.map a.eval).toArray := by apply Array.ext'; simp
  rw [hrun, hargs]
  have hlen : (args.toList.map a.eval).length = vs.length := by subst hvs; simp [argVs]
  have hcalls := hf.calls (C.K φ S) w (args.toList.map a.eval) hr.Klt hlen (fun j v u hj hu => by
    rw [← hvs, argVs, List.getElem?_map] at hj
    rw [List.getElem?_map] at hu
    cases hx : args.toList[j]? with
    | none => rw [hx] at hj; cases hj
    | some x =>
      rw [hx] at hj hu
      cases hj; cases hu
      have h0 := hr.ev x
      have e0 : ev E x = ev s.e x := ev_same he (hops x (List.mem_of_getElem? hx))
      replace h0 : VVal (C.K φ S) φ w (ev E x) (a.eval x) := h0
      rw [e0] at h0
      exact h0.deep (V.deeps_get hdeep j _ (by rw [← hvs, argVs, List.getElem?_map, hx]; rfl)))
  refine ⟨(fun h => by cases h), callsIn_of (hcalls.mono ?_)⟩
  rintro e w' ⟨u, rfl, hu, hb⟩
  rw [hd] at hK ⊢
  exact hK φ u w' ((hr.below hb).put hN (hu.deep hres))
end

/-! ### A function's contract out of its body -/
def argEnv : Nat → List V → Env
  | _, [] => []
  | k, v :: r => (k, v) :: argEnv (k + 1) r
theorem argEnv_get : ∀ (args : List V) (k t : Nat), (argEnv k args).get t = if k ≤ t then args.getD (t - k) .any else .any
  | [], k, t => by simp [argEnv, Env.get]
  | v :: r, k, t => by
    rw [argEnv, Env.get_cons, argEnv_get r (k + 1) t]
    by_cases h : k = t
    · subst h; simp
    · rw [if_neg h]
      by_cases h2 : k ≤ t
      · rw [if_pos (by omega), if_pos h2, show t - k = (t - (k + 1)) + 1 by omega]; rfl
      · rw [if_neg (by omega), if_neg h2]

def Fin {P : Program} (C : Ctx P) (fn : Func) (res : V) (s : St) : Prop := ∀ φ a w, Rel C φ s a w → a.defers = [] ∧ ∃ u, (results fn a.tmps).run P w = .ok u w ∧ VVal C.K0 noPhi w res u
def finQ {P : Program} (C : Ctx P) (fn : Func) (res : V) : Exit → St → Prop
  | .normal, s => Fin C fn res s
  | .ret, s => Fin C fn res s
  | _, _ => False

theorem Does.of {P : Program} {f : Nat} {fn : Func} {c : Code} {args : List V} {res : V} (hf : P.funcs[f]? = some fn) (hb : fn.body = some c) (henter : ∀ vs w, (callFunc f vs).run P w = .ok (.enter f vs) w) (hn : args.length ≤ fn.ntmps)
    (h : ∀ C : Ctx P, C.ro = none → C.N = fn.ntmps → C.fx = noPhi → T C c ⟨argEnv 0 args, [], []⟩ (finQ C fn res)) : Does P f args res := ⟨henter, fun K w vs hK hl hv => by
  obtain ⟨C, hC⟩ : ∃ C : Ctx P, C = { ro := none, N := fn.ntmps, w0 := w, K0 := K, W0 := fun _ => False, fx := noPhi } := ⟨_, rfl⟩
  have hN : C.N = fn.ntmps := by rw [hC]
  have hro : C.ro = none := by rw [hC]
  have hW : C.fx = noPhi := by rw [hC]
  have hF : C.F = Fence.wide := by simp [Ctx.F, hro, Fence.wide]
  have hrel : Rel C noPhi ⟨argEnv 0 args, [], []⟩ { tmps := vs.toArray ++ Array.replicate (fn.ntmps - vs.toArray.size) undef, defers := [] } w := by
    refine ⟨by simp [hN]; omega, fun t => ?_, (fun id o hid => by simp [Store.get] at hid), (fun id id' o o' b hid => by simp [Store.get] at hid), (fun id o b hid => by simp [Store.get] at hid), (fun id b hid => by cases hid), fun id hid => absurd rfl hid, rfl, ?_, fun id x hx => by rw [hW] at hx; cases hx⟩
    · show VVal _ _ _ (Env.get (argEnv 0 args) t) _
      rw [argEnv_get, if_pos (Nat.zero_le _), Nat.sub_zero]
      cases ht : args[t]? with
      | none => rw [List.getD, ht]; exact .any _
      | some v =>
        obtain ⟨u, hu⟩ := get_of_len hl ht
        have hlt := (List.getElem?_eq_some_iff.1 hu).1
        have : (vs.toArray ++ Array.replicate (fn.ntmps - vs.toArray.size) undef).getD t undef = u := by
          have hu2 := (List.getElem?_eq_some_iff.1 hu).2
          simp [Array.getD_eq_getD_getElem?, Array.getElem?_append, hlt, hu2]
        rw [List.getD, ht, this]
        refine (hv t v u ht hu).still ⟨Nat.le_refl _, fun _ _ _ => rfl, fun b hb _ hk => ?_, fun _ _ _ x => x⟩ (fun _ _ x => x)
        rcases hk with hk | ⟨i, o, h1, _⟩
        · rw [hC] at hk; exact hb hk
        · simp [Store.get] at h1
    · rw [hC]; exact ⟨rfl, rfl, rfl, Nat.le_refl _, fun _ _ _ => rfl, fun b hb => hK b hb, fun _ _ _ x => x⟩
  have hwp := h C hro hN hW noPhi _ w hrel
  rw [hF, wpIn_wide] at hwp
  refine calls_of_wp hf hb ?_
  refine Code.wp_mono ?_ hwp
  rintro ex a' w' ⟨φ, s', hq, hr'⟩
  have fin : Fin C fn res s' → a'.defers = [] ∧ ∃ v, (results fn a'.tmps).run P w' = .ok v w' ∧ ∃ u, Ending.returned v = .returned u ∧ VVal K noPhi w' res u ∧ Below w.heap.size w w' := fun hfin => by
    obtain ⟨h1, u, h2, h3⟩ := hfin φ a' w' hr'
    refine ⟨h1, u, h2, u, rfl, by rw [hC] at h3; exact h3, ?_⟩
    have hk := hr'.keep
    rw [hC] at hk
    exact ⟨hk.os, hk.tape, hk.output, hk.size, fun b hb => hk.block b hb (fun x => x)⟩
  cases ex with
  | normal => exact fin hq
  | ret => exact fin hq
  | exit id => exact hq.elim
  | goto id => exact hq.elim
  | panic c => exact hq.elim
  | outgrown => exact hq.elim⟩

end Go.Proofs.Ytjofdfiljokfoaa.TL
