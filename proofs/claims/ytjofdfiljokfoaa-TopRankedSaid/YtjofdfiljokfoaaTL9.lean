/- A small logic for Go functions over the model: contracts of functions that read or write what the caller owns; calls of closures; results of any shape. -/
import Derived.Test.YtjofdfiljokfoaaTL8
namespace Go.Proofs.Ytjofdfiljokfoaa.TL
open Go Go.RowKit
set_option linter.unusedVariables false
set_option linter.unusedSimpArgs false

/-! ### What a call enters -/
def Enters (P : Program) (o : Oper) (s : St) (f : Nat) (vs : List V) : Prop :=
  ∀ (K : Nat → Prop) φ (a : Act) w, (∀ x ∈ o.op.operands, VVal K φ w (ev s.e x) (a.eval x)) → ∃ us : List Value, (execOp a.eval o).run P w = .ok (.enter f us.toArray) w ∧ us.length = vs.length ∧ ∀ (j : Nat) (v : V) (u : Value), vs[j]? = some v → us[j]? = some u → VVal K φ w v u

section
variable {P : Program} {C : Ctx P} {o : Oper} {s : St} {d : Nat}
theorem args_rel {K : Nat → Prop} {φ : Phi} {a : Act} {w : World} {e : Env} {l : List Operand} (he : ∀ x ∈ l, VVal K φ w (ev e x) (a.eval x)) : ∀ (j : Nat) (v : V) (u : Value), (l.map (ev e))[j]? = some v → (l.map a.eval)[j]? = some u → VVal K φ w v u := fun j v u hj hu => by
  rw [List.getElem?_map] at hj hu
  cases hx : l[j]? with
  | none => rw [hx] at hj; cases hj
  | some x =>
    rw [hx] at hj hu
    cases hj; cases hu
    exact he x (List.mem_of_getElem? hx)
theorem enters_func {f : Nat} {args : Array Operand} {ts : Array Nat} (ho : o.op = .call { callee := .value (.func f), args, argTypes := ts }) (hf : ∀ vs w, (callFunc f vs).run P w = .ok (.enter f vs) w) {vs : List V} (hvs : argVs s.e args = vs) : Enters P o s f vs := fun K φ a w he => by
  refine ⟨args.toList.map a.eval, ?_, by subst hvs; simp [argVs], by subst hvs; exact args_rel fun x hx => he x (by simp [ho, Op.operands, Call.operands]; exact .inr (by simpa using hx))⟩
  have := hf (args.map a.eval) w
  have hargs : args.map a.eval = (args.toList.map a.eval).toArray := by apply Array.ext'; simp
  rw [← hargs]
  simp [execOp, ho, resolve, Deferred.ofValue, Act.eval, invoke, this]
theorem enters_clo {f : Nat} {x : Operand} {caps : List V} {args : Array Operand} {ts : Array Nat} (ho : o.op = .call { callee := .value x, args, argTypes := ts }) (hx : ev s.e x = V.clo f caps) (hf : ∀ vs w, (callFunc f vs).run P w = .ok (.enter f vs) w) {vs : List V} (hvs : argVs s.e args ++ caps = vs) : Enters P o s f vs := fun K φ a w he => by
  have g0 := he x (by simp [ho, Op.operands, Call.operands])
  rw [hx] at g0
  generalize hu : a.eval x = ux at g0
  cases g0 with
  | clo _ _ xs hl hxs =>
    refine ⟨args.toList.map a.eval ++ xs, ?_, by subst hvs; simp [argVs, hl], ?_⟩
    · have := hf (args.map a.eval ++ xs.toArray) w
      have hargs : args.map a.eval ++ xs.toArray = (args.toList.map a.eval ++ xs).toArray := by apply Array.ext'; simp
      rw [← hargs]
      simp [execOp, ho, resolve, Deferred.ofValue, hu, invoke, this]
    · subst hvs
      intro j v u hj hu2
      have hlen : (argVs s.e args).length = (args.toList.map a.eval).length := by simp [argVs]
      by_cases h : j < (argVs s.e args).length
      · rw [List.getElem?_append_left h] at hj
        rw [List.getElem?_append_left (by omega)] at hu2
        exact args_rel (fun x hx => he x (by simp [ho, Op.operands, Call.operands]; exact .inr (by simpa using hx))) j v u hj hu2
      · rw [List.getElem?_append_right (by omega)] at hj
        rw [List.getElem?_append_right (by omega), ← hlen] at hu2
        exact hxs _ v u hj hu2
theorem enters_dclo {f : Nat} {x : Operand} {caps : List D} {args : Array Operand} {ts : Array Nat} (ho : o.op = .call { callee := .value x, args, argTypes := ts }) (hx : ev s.e x = V.d (.clo f caps)) (hf : ∀ vs w, (callFunc f vs).run P w = .ok (.enter f vs) w) {vs : List V} (hvs : argVs s.e args ++ caps.map V.d = vs) : Enters P o s f vs := fun K φ a w he => by
  have g0 := he x (by simp [ho, Op.operands, Call.operands])
  rw [hx] at g0
  generalize hu : a.eval x = ux at g0
  cases g0 with
  | d _ _ g0 =>
    cases g0 with
    | clo _ _ xs hl hxs =>
      refine ⟨args.toList.map a.eval ++ xs, ?_, by subst hvs; simp [argVs, hl], ?_⟩
      · have := hf (args.map a.eval ++ xs.toArray) w
        have hargs : args.map a.eval ++ xs.toArray = (args.toList.map a.eval ++ xs).toArray := by apply Array.ext'; simp
        rw [← hargs]
        simp [execOp, ho, resolve, Deferred.ofValue, hu, invoke, this]
      · subst hvs
        intro j v u hj hu2
        have hlen : (argVs s.e args).length = (args.toList.map a.eval).length := by simp [argVs]
        by_cases h : j < (argVs s.e args).length
        · rw [List.getElem?_append_left h] at hj
          rw [List.getElem?_append_left (by omega)] at hu2
          exact args_rel (fun x hx => he x (by simp [ho, Op.operands, Call.operands]; exact .inr (by simpa using hx))) j v u hj hu2
        · rw [List.getElem?_append_right (by omega)] at hj
          rw [List.getElem?_append_right (by omega), ← hlen] at hu2
          rw [List.getElem?_map] at hj
          cases hc : caps[j - (argVs s.e args).length]? with
          | none => rw [hc] at hj; cases hj
          | some c => rw [hc] at hj; cases hj; exact .d _ _ (hxs _ c u hc hu2)
theorem Rel.putO {φ : Phi} {e : Env} {S : Store} {ds : List Deferred} {a : Act} {w : World} (h : Rel C φ ⟨e, S, ds⟩ a w) {dst : Option Nat} (hd : ∀ d, dst = some d → d < C.N) {v : V} {u : Value} (hv : VVal (C.K φ S) φ w v u) :
    Rel C φ ⟨putE dst v e, S, ds⟩ (a.put dst u) w := by
  cases dst with
  | none => exact h
  | some d => exact h.put (hd d rfl) hv

theorem Ok.enters {f : Nat} {vs : List V} {res : V} (hd : ∀ d, o.dst = some d → d < C.N) (hnd : ∀ c, o.op ≠ .defer c) (he : Enters P o s f vs) (hdeep : V.deeps vs = true) (hf : Does P f vs res) (hres : res.deep = true) : Ok C o s ⟨[], [], res⟩ := by
  intro E S hE _ φ a w K Q hr hK
  refine ⟨fun _ _ => trivial, ?_⟩
  rw [semAt_eq hnd]
  obtain ⟨us, hrun, hlen, hval⟩ := he (C.K φ S) φ a w (fun x hx => by rw [← ev_same hE hx]; exact hr.ev x)
  rw [hrun]
  have hcalls := hf.calls (C.K φ S) w us hr.Klt hlen (fun j v u hj hu => (hval j v u hj hu).deep (V.deeps_get hdeep j v hj))
  refine ⟨(fun h => by cases h), callsIn_of (hcalls.mono ?_)⟩
  rintro e w' ⟨u, rfl, hu, hb⟩
  exact hK φ u w' ((hr.below hb).putO hd (hu.deep hres))
theorem ok_call_clo {f : Nat} {x : Operand} {caps : List V} {args : Array Operand} {ts : Array Nat} {res : V} (ho : o.op = .call { callee := .value x, args, argTypes := ts }) (hd : o.dst = some d) (hN : d < C.N) (hx : ev s.e x = V.clo f caps) (vs : List V) (hvs : argVs s.e args ++ caps = vs) (hdeep : V.deeps vs = true) (hf : Does P f vs res) (hres : res.deep = true) : Ok C o s ⟨[], [], res⟩ :=
  Ok.enters (fun d' h => by rw [hd] at h; cases h; exact hN) (by simp [ho]) (enters_clo ho hx hf.enter hvs) hdeep hf hres
theorem ok_call_dclo {f : Nat} {x : Operand} {caps : List D} {args : Array Operand} {ts : Array Nat} {res : V} (ho : o.op = .call { callee := .value x, args, argTypes := ts }) (hd : o.dst = some d) (hN : d < C.N) (hx : ev s.e x = V.d (.clo f caps)) (vs : List V) (hvs : argVs s.e args ++ caps.map V.d = vs) (hdeep : V.deeps vs = true) (hf : Does P f vs res) (hres : res.deep = true) : Ok C o s ⟨[], [], res⟩ :=
  Ok.enters (fun d' h => by rw [hd] at h; cases h; exact hN) (by simp [ho]) (enters_dclo ho hx hf.enter hvs) hdeep hf hres
/-- A closure is made. -/
theorem ok_makeFunc {f : Nat} {caps : Array Operand} (ho : o.op = .makeFunc (.func f) #[] caps) (hd : o.dst = some d) (hN : d < C.N) {cs : List V} (hc : argVs s.e caps = cs) : Ok C o s ⟨[], [], .clo f cs⟩ :=
  Ok.pure hd hN (by simp [ho]) fun K φ a w he => by
    refine ⟨.func (.func f) #[] (caps.toList.map a.eval).toArray, ?_, .clo f cs _ (by subst hc; simp [argVs]) (by subst hc; exact args_rel fun x hx => he x (by simp [ho, Op.operands]; simpa using hx))⟩
    have hargs : caps.map a.eval = (caps.toList.map a.eval).toArray := by apply Array.ext'; simp
    rw [← hargs]
    simp [execOp, ho, Instr.makeFunc]
theorem ok_makeFunc_d {f : Nat} {caps : Array Operand} (ho : o.op = .makeFunc (.func f) #[] caps) (hd : o.dst = some d) (hN : d < C.N) (cs : List D) (hc : argVs s.e caps = cs.map V.d) : Ok C o s ⟨[], [], .d (.clo f cs)⟩ :=
  Ok.pure hd hN (by simp [ho]) fun K φ a w he => by
    have hr := args_rel (e := s.e) (l := caps.toList) (fun x hx => he x (by simp [ho, Op.operands]; simpa using hx))
    refine ⟨.func (.func f) #[] (caps.toList.map a.eval).toArray, ?_, .d _ _ (.clo f cs _ ?_ fun j dd u hj hu => ?_)⟩
    · have hargs : caps.map a.eval = (caps.toList.map a.eval).toArray := by apply Array.ext'; simp
      rw [← hargs]
      simp [execOp, ho, Instr.makeFunc]
    · have := congrArg List.length hc; simp [argVs] at this; simpa using this
    · exact (hr j (V.d dd) u (by have := congrArg (·[j]?) hc; simp only [argVs] at this; rw [this, List.getElem?_map, hj]; rfl) hu).d_inv
end

/-! ### Contracts with a store -/
structure Mem (K0 : Nat → Prop) (φ : Phi) (S : Store) (w : World) : Prop where
  objs : ∀ id o, S.get id = some (some o) → (φ id = some none ∧ o.cs = []) ∨ ∃ b, φ id = some (some b) ∧ ObjAt (fun b => K0 b ∨ own φ S b) φ w o b
  inj : ∀ id id' o o' b, S.get id = some (some o) → S.get id' = some (some o') → φ id = some (some b) → φ id' = some (some b) → id = id'
  out : ∀ id o b, S.get id = some (some o) → φ id = some (some b) → ¬ K0 b
  lt : ∀ id b, φ id = some (some b) → b < w.heap.size
  used : ∀ id, φ id ≠ none → S.get id ≠ none
  k0 : ∀ b, K0 b → b < w.heap.size
structure Went (φ : Phi) (S : Store) (φ' : Phi) (S' : Store) (w w' : World) : Prop where
  os : w'.os = w.os
  tape : w'.tape = w.tape
  output : w'.output = w.output
  size : w.heap.size ≤ w'.heap.size
  block : ∀ b, b < w.heap.size → ¬ own φ S b → w'.heap[b]? = w.heap[b]?
  owns : ∀ b, own φ' S' b → own φ S b ∨ w.heap.size ≤ b
  shape : ∀ b t m, w.shape? b = some (t, m) → w'.shape? b = some (t, m)
  names : ∀ id x, φ id = some x → φ' id = some x
/-- What a function does with arguments that may refer to objects of S: it yields res, and S' then. -/
structure DoesS (P : Program) (f : Nat) (args : List V) (S : Store) (res : V) (S' : Store) : Prop where
  enter : ∀ vs w, (callFunc f vs).run P w = .ok (.enter f vs) w
  calls : ∀ (K0 : Nat → Prop) (φ : Phi) (w : World) (vs : List Value), Mem K0 φ S w → vs.length = args.length → (∀ (j : Nat) (v : V) (u : Value), args[j]? = some v → vs[j]? = some u → VVal (fun b => K0 b ∨ own φ S b) φ w v u) →
    Calls P f vs.toArray w fun e w' => ∃ u φ', e = .returned u ∧ Mem K0 φ' S' w' ∧ VVal (fun b => K0 b ∨ own φ' S' b) φ' w' res u ∧ Went φ S φ' S' w w'

def FinS {P : Program} (C : Ctx P) (fn : Func) (res : V) (S' : Store) (s : St) : Prop :=
  ∀ φ a w, Rel C φ s a w → a.defers = [] ∧ ∃ u, (results fn a.tmps).run P w = .ok u w ∧ VVal (C.K φ s.s) φ w res u ∧ s.s = S'
def finSQ {P : Program} (C : Ctx P) (fn : Func) (res : V) (S' : Store) : Exit → St → Prop
  | .normal, s => FinS C fn res S' s
  | .ret, s => FinS C fn res S' s
  | _, _ => False

theorem DoesS.of {P : Program} {f : Nat} {fn : Func} {c : Code} {args : List V} {S S' : Store} {res : V} (hf : P.funcs[f]? = some fn) (hb : fn.body = some c) (henter : ∀ vs w, (callFunc f vs).run P w = .ok (.enter f vs) w) (hn : args.length ≤ fn.ntmps)
    (h : ∀ C : Ctx P, C.ro = none → C.N = fn.ntmps → (∀ id, C.fx id ≠ none → S.get id ≠ none) → T C c ⟨argEnv 0 args, S, []⟩ (finSQ C fn res S')) : DoesS P f args S res S' := ⟨henter, fun K0 φ w vs hm hl hv => by
  obtain ⟨C, hC⟩ : ∃ C : Ctx P, C = { ro := none, N := fn.ntmps, w0 := w, K0 := K0, W0 := fun b => own φ S b, fx := φ } := ⟨_, rfl⟩
  have hN : C.N = fn.ntmps := by rw [hC]
  have hro : C.ro = none := by rw [hC]
  have hW : ∀ id, C.fx id ≠ none → S.get id ≠ none := by rw [hC]; exact hm.used
  have hF : C.F = Fence.wide := by simp [Ctx.F, hro, Fence.wide]
  have hrel : Rel C φ ⟨argEnv 0 args, S, []⟩ { tmps := vs.toArray ++ Array.replicate (fn.ntmps - vs.toArray.size) undef, defers := [] } w := by
    subst hC
    refine ⟨by simp; omega, fun t => ?_, hm.objs, hm.inj, fun id o b h1 h2 => ⟨hm.out id o b h1 h2, .inl ⟨id, o, h1, h2⟩⟩, hm.lt, hm.used, rfl, ⟨rfl, rfl, rfl, Nat.le_refl _, fun _ _ _ => rfl, hm.k0, fun _ _ _ x => x⟩, fun _ _ x => x⟩
    show VVal _ _ _ (Env.get (argEnv 0 args) t) _
    rw [argEnv_get, if_pos (Nat.zero_le _), Nat.sub_zero]
    cases ht : args[t]? with
    | none => rw [List.getD, ht]; exact .any _
    | some v =>
      obtain ⟨u, hu⟩ := get_of_len hl ht
      have hlt := (List.getElem?_eq_some_iff.1 hu).1
      have : (vs.toArray ++ Array.replicate (fn.ntmps - vs.toArray.size) undef).getD t undef = u := by
        have hu2 := (List.getElem?_eq_some_iff.1 hu).2
        simp [Array.getD_eq_getD_getElem?, Array.getElem?_append, hlt, hu2]
      rw [List.getD, ht, this]
      exact hv t v u ht hu
  have hwp := h C hro hN hW φ _ w hrel
  rw [hF, wpIn_wide] at hwp
  refine calls_of_wp hf hb ?_
  refine Code.wp_mono ?_ hwp
  rintro ex a' w' ⟨φ', s', hq, hr'⟩
  have fin : FinS C fn res S' s' → a'.defers = [] ∧ ∃ v, (results fn a'.tmps).run P w' = .ok v w' ∧ ∃ u φ', Ending.returned v = .returned u ∧ Mem K0 φ' S' w' ∧ VVal (fun b => K0 b ∨ own φ' S' b) φ' w' res u ∧ Went φ S φ' S' w w' := fun hfin => by
    obtain ⟨h1, u, h2, h3, h4⟩ := hfin φ' a' w' hr'
    subst h4
    refine ⟨h1, u, h2, u, φ', rfl, ?_⟩
    have hk := hr'.keep
    have hfx := hr'.fixed
    have hobj := hr'.objs
    have hours := hr'.ours
    subst hC
    refine ⟨⟨hobj, hr'.inj, fun id o b g1 g2 => (hours id o b g1 g2).1, hr'.lt, hr'.used, fun b hb => Nat.lt_of_lt_of_le (hm.k0 b hb) hk.size⟩, h3, ⟨hk.os, hk.tape, hk.output, hk.size, fun b hb hw => hk.block b hb hw, ?_, hk.shape, hfx⟩⟩
    rintro b ⟨id, o, g1, g2⟩
    exact (hours id o b g1 g2).2
  cases ex with
  | normal => exact fin hq
  | ret => exact fin hq
  | exit id => exact hq.elim
  | goto id => exact hq.elim
  | panic c => exact hq.elim
  | outgrown => exact hq.elim⟩

/-! ### Calls by such contracts -/
def renO (ρ : Nat → Nat) : Option Obj → Option Obj
  | none => none
  | some o => some ⟨o.t, V.rens ρ o.cs⟩
def renS (ρ : Nat → Nat) : Store → Store
  | [] => []
  | (k, x) :: r => (ρ k, renO ρ x) :: renS ρ r
theorem VVal.map {K : Nat → Prop} {φ φ' : Phi} {w : World} {S : Store} {ρ : Nat → Nat} (hφ : ∀ id o, S.get id = some (some o) → φ' (ρ id) = φ id) {v : V} {u : Value} (h : VVal K φ w v u) : v.inS S = true → VVal K φ' w (v.ren ρ) u := by
  induction h with
  | any v => exact fun _ => .any _
  | d x v hx => exact fun _ => .d _ _ hx
  | agg cs xs hl hx ih =>
    intro hs
    refine .agg _ xs (by rw [hl, V.rens_length]) fun j d u hj hu => ?_
    rw [V.rens_get] at hj
    cases hc : cs[j]? with
    | none => rw [hc] at hj; cases hj
    | some c => rw [hc] at hj; cases hj; exact ih j c u hc hu (V.insS_get (by simpa [V.inS] using hs) j c hc)
  | tup cs xs hl hx ih =>
    intro hs
    refine .tup _ xs (by rw [hl, V.rens_length]) fun j d u hj hu => ?_
    rw [V.rens_get] at hj
    cases hc : cs[j]? with
    | none => rw [hc] at hj; cases hj
    | some c => rw [hc] at hj; cases hj; exact ih j c u hc hu (V.insS_get (by simpa [V.inS] using hs) j c hc)
  | clo f cs xs hl hx ih =>
    intro hs
    refine .clo f _ xs (by rw [hl, V.rens_length]) fun j d u hj hu => ?_
    rw [V.rens_get] at hj
    cases hc : cs[j]? with
    | none => rw [hc] at hj; cases hj
    | some c => rw [hc] at hj; cases hj; exact ih j c u hc hu (V.insS_get (by simpa [V.inS] using hs) j c hc)
  | ref id sz off n b cap t m h1 h2 h3 h4 h5 =>
    intro hs
    obtain ⟨o, ho⟩ := liveB_iff (by simpa [V.inS] using hs)
    exact .ref _ _ _ _ b cap t m (by rw [hφ _ o ho, h1]) h2 h3 h4 h5
  | accNil id sz h1 =>
    intro hs
    obtain ⟨o, ho⟩ := liveB_iff (by simpa [V.inS] using hs)
    exact .accNil _ _ (by rw [hφ _ o ho, h1])
  | accRow id sz n b cap t h1 h2 h3 h4 =>
    intro hs
    obtain ⟨o, ho⟩ := liveB_iff (by simpa [V.inS] using hs)
    exact .accRow _ _ _ b cap t (by rw [hφ _ o ho, h1]) h2 h3 h4
  | ptr id off b h1 =>
    intro hs
    obtain ⟨o, ho⟩ := liveB_iff (by simpa [V.inS] using hs)
    exact .ptr _ _ b (by rw [hφ _ o ho, h1])
theorem renS_get {ρ : Nat → Nat} {S : Store} {id : Nat} : ∀ {L : Store} {y : Option Obj}, Store.get (renS ρ L ++ S) id = some y → (∃ i x, L.get i = some x ∧ ρ i = id ∧ y = renO ρ x) ∨ (S.get id = some y ∧ ∀ i, L.get i ≠ none → ρ i ≠ id)
  | [], y, h => .inr ⟨h, fun i hi => absurd rfl hi⟩
  | (k, x) :: r, y, h => by
    rw [renS, List.cons_append, Store.get_cons] at h
    split at h
    · rename_i hk; exact .inl ⟨k, x, by rw [Store.get_cons, if_pos rfl], hk, (Option.some.inj h).symm⟩
    · rename_i hk
      rcases renS_get h with ⟨i, x', h1, h2, h3⟩ | ⟨h1, h2⟩
      · exact .inl ⟨i, x', by rw [Store.get_cons, if_neg (fun e => hk (by rw [e, h2])), h1], h2, h3⟩
      · refine .inr ⟨h1, fun i hi => ?_⟩
        rw [Store.get_cons] at hi
        split at hi
        · rename_i hki; subst hki; exact hk
        · exact h2 i hi
theorem renS_none {ρ : Nat → Nat} {S : Store} {id : Nat} : ∀ {L : Store}, Store.get (renS ρ L ++ S) id = none → S.get id = none ∧ ∀ i, L.get i ≠ none → ρ i ≠ id
  | [], h => ⟨h, fun i hi => absurd rfl hi⟩
  | (k, x) :: r, h => by
    rw [renS, List.cons_append, Store.get_cons] at h
    split at h
    · cases h
    · rename_i hk
      obtain ⟨h1, h2⟩ := renS_none h
      refine ⟨h1, fun i hi => ?_⟩
      rw [Store.get_cons] at hi
      split at hi
      · rename_i hki; subst hki; exact hk
      · exact h2 i hi
theorem renS_mem {ρ : Nat → Nat} : ∀ {L : Store} {i : Nat}, L.get i ≠ none → ρ i ∈ (renS ρ L).map (·.1)
  | [], i, h => absurd rfl h
  | (k, x) :: r, i, h => by
    rw [Store.get_cons] at h
    rw [renS, List.map_cons, List.mem_cons]
    split at h
    · rename_i hk; subst hk; exact .inl rfl
    · exact .inr (renS_mem h)

section
variable {P : Program} {C : Ctx P} {o : Oper} {s : St} {d : Nat}
def allLive (S : Store) : Bool := S.all fun p => p.2.isSome
def hasAll (S S' : Store) : Bool := S.all fun p => (S'.get p.1).isSome
def newOk (ρ : Nat → Nat) (S S0 : Store) : Store → Bool
  | [] => true
  | (k, _) :: r => ((S.get k).isSome || (S0.get (ρ k)).isNone) && newOk ρ S S0 r
theorem newOk_get {ρ : Nat → Nat} {S S0 : Store} : ∀ {L : Store}, newOk ρ S S0 L = true → ∀ i, L.get i ≠ none → S.get i = none → S0.get (ρ i) = none
  | [], _, i, h, _ => absurd rfl h
  | (k, x) :: r, h, i, hi, hn => by
    simp only [newOk, Bool.and_eq_true, Bool.or_eq_true] at h
    rw [Store.get_cons] at hi
    split at hi
    · rename_i hk
      subst hk
      rcases h.1 with h1 | h1
      · rw [hn] at h1; cases h1
      · simpa using h1
    · exact newOk_get h.2 i hi hn
theorem allLive_get {S : Store} (h : allLive S = true) {id : Nat} {x : Option Obj} (hg : S.get id = some x) : ∃ o, x = some o := by
  have key : ∀ {S : Store}, allLive S = true → S.get id = some x → x.isSome = true := by
    intro S
    induction S with
    | nil => intro _ hg; cases hg
    | cons p r ih =>
      intro h hg
      simp only [allLive, List.all_cons, Bool.and_eq_true] at h
      rw [Store.get_cons] at hg
      split at hg
      · cases hg; exact h.1
      · exact ih h.2 hg
  exact Option.isSome_iff_exists.1 (key h hg)
theorem hasAll_get {S S' : Store} (h : hasAll S S' = true) {id : Nat} {x : Option Obj} (hg : S.get id = some x) : S'.get id ≠ none := by
  obtain ⟨y, hy⟩ := mem_of_get hg
  have := List.all_eq_true.1 h _ hy
  intro hn
  rw [hn] at this
  cases this

theorem Ok.entersS {f : Nat} {cargs : List V} {cres : V} {Sc Sc' : Store} (ρ : Nat → Nat) (hd : ∀ d, o.dst = some d → d < C.N) (hnd : ∀ c, o.op ≠ .defer c) (he : Enters P o s f (V.rens ρ cargs)) (hf : DoesS P f cargs Sc cres Sc')
    (h1 : StoreR ρ s.s Sc) (hi : injOn ρ (Sc ++ Sc') = true) (hlv : allLive Sc = true) (hall : hasAll Sc Sc' = true) (hnew : newOk ρ Sc s.s Sc' = true)
    (ha : V.insS Sc cargs = true) (hc : storeIn Sc Sc = true) (hc' : storeIn Sc' Sc' = true) (hr' : cres.inS Sc' = true) : Ok C o s ⟨Sc.map fun p => ρ p.1, renS ρ Sc', cres.ren ρ⟩ := by
  classical
  intro E S hE hS φ a w K Q hr hK
  refine ⟨fun _ _ => trivial, ?_⟩
  rw [semAt_eq hnd]
  obtain ⟨us, hrun, hlen, hval⟩ := he (C.K φ S) φ a w (fun x hx => by rw [← ev_same hE hx]; exact hr.ev x)
  rw [hrun]
  have hinj : ∀ i j x y, Store.get (Sc ++ Sc') i = some x → Store.get (Sc ++ Sc') j = some y → ρ i = ρ j → i = j := fun i j x y hi' hj' hp => by
    obtain ⟨x', hx⟩ := mem_of_get hi'
    obtain ⟨y', hy⟩ := mem_of_get hj'
    exact injOn_get hi i j _ _ hx hy hp
  have getA : ∀ {L : Store} (i : Nat), (Sc.get i ≠ none ∨ Sc'.get i ≠ none) → ∃ x, Store.get (Sc ++ Sc') i = some x := fun {L} i h => by
    have : ∀ (A B : Store), (A.get i ≠ none ∨ B.get i ≠ none) → Store.get (A ++ B) i ≠ none := by
      intro A B
      induction A with
      | nil => intro h; exact h.elim (fun x => absurd rfl x) (fun x => x)
      | cons p r ih =>
        intro h
        obtain ⟨k, v⟩ := p
        rw [List.cons_append, Store.get_cons]
        split
        · simp
        · rename_i hk
          refine ih (h.imp (fun x => ?_) (fun x => x))
          rwa [Store.get_cons, if_neg hk] at x
    exact Option.ne_none_iff_exists'.1 (this Sc Sc' h)
  have hinj' : ∀ i j, (Sc.get i ≠ none ∨ Sc'.get i ≠ none) → (Sc.get j ≠ none ∨ Sc'.get j ≠ none) → ρ i = ρ j → i = j := fun i j h1 h2 hp => by
    obtain ⟨x, hx⟩ := getA (L := []) i h1
    obtain ⟨y, hy⟩ := getA (L := []) j h2
    exact hinj i j x y hx hy hp
  have hgetS : ∀ id ob, Sc.get id = some (some ob) → S.get (ρ id) = some (some ⟨ob.t, V.rens ρ ob.cs⟩) := fun id ob hg => by
    rw [hS (ρ id) (.inl (by obtain ⟨y, hy⟩ := mem_of_get hg; exact List.mem_map.2 ⟨_, hy, rfl⟩))]
    exact h1.get id ob hg
  have hScl : ∀ id, Sc.get id ≠ none → ∃ ob, Sc.get id = some (some ob) := fun id hg => by
    obtain ⟨x, hx⟩ := Option.ne_none_iff_exists'.1 hg
    obtain ⟨ob, rfl⟩ := allLive_get hlv hx
    exact ⟨ob, hx⟩
  have hSn : ∀ i, Sc'.get i ≠ none → Sc.get i = none → S.get (ρ i) = none := fun i h1 h2 => by
    rw [hS (ρ i) (.inr (renS_mem h1))]
    exact newOk_get hnew i h1 h2
  obtain ⟨φc, hφc⟩ : ∃ φc : Phi, φc = fun id => if Sc.get id ≠ none then φ (ρ id) else none := ⟨_, rfl⟩
  have hin : ∀ id, Sc.get id ≠ none → φc id = φ (ρ id) := fun id hg => by rw [hφc]; simp [hg]
  have hlive : ∀ id ob, Sc.get id = some (some ob) → φc id = φ (ρ id) := fun id ob hg => hin id (by rw [hg]; simp)
  have hback : ∀ id x, φc id = some x → Sc.get id ≠ none ∧ φ (ρ id) = some x := fun id x hx => by
    rw [hφc] at hx
    simp only at hx
    split at hx
    · rename_i hg; exact ⟨hg, hx⟩
    · cases hx
  have hown : ∀ b, own φc Sc b → own φ S b := by
    rintro b ⟨id, ob, g1, g2⟩
    exact ⟨ρ id, _, hgetS id ob g1, by rw [← hlive id ob g1, g2]⟩
  obtain ⟨K0c, hK0c⟩ : ∃ K0c : Nat → Prop, K0c = fun b => C.K φ S b ∧ ¬ own φc Sc b := ⟨_, rfl⟩
  have hKin : ∀ b, K0c b ∨ own φc Sc b → C.K φ S b := fun b h => by
    rw [hK0c] at h
    exact h.elim (fun x => x.1) (fun x => .inr (hown b x))
  have stA : Still (C.K φ S) (fun b => K0c b ∨ own φc Sc b) w w := ⟨Nat.le_refl _, fun _ _ _ => rfl, fun b hb _ hk => hb (hKin b hk), fun _ _ _ x => x⟩
  have hvalA : ∀ v u, VVal (C.K φ S) φ w (V.ren ρ v) u → v.inS Sc = true → VVal (fun b => K0c b ∨ own φc Sc b) φc w v u := fun v u hv hs => by
    have := VVal.still (φ' := φ) stA (fun _ _ x => x) hv
    exact this.ren hlive v rfl hs
  have hmem : Mem K0c φc Sc w := by
    refine ⟨fun id ob hid => ?_, fun id id' o1 o2 b g1 g2 g3 g4 => ?_, fun id ob b g1 g2 => by rw [hK0c]; exact fun hk => hk.2 ⟨id, ob, g1, g2⟩, fun id b hb => hr.lt _ b (hback id _ hb).2, fun id hid => ?_, fun b hb => hr.Klt b (hKin b (.inl hb))⟩
    · rcases hr.objs _ _ (hgetS id ob hid) with ⟨k1, k2⟩ | ⟨b, k1, arr, k2, k3, k4⟩
      · exact .inl ⟨by rw [hlive id ob hid, k1], by have := congrArg List.length k2; rw [V.rens_length] at this; exact List.eq_nil_of_length_eq_zero this⟩
      · refine .inr ⟨b, by rw [hlive id ob hid, k1], arr, k2, by simpa [V.rens_length] using k3, fun j v hj => ?_⟩
        obtain ⟨u, q1, q2, q3⟩ := k4 j (v.ren ρ) (by show (V.rens ρ ob.cs)[j]? = _; rw [V.rens_get, hj]; rfl)
        exact ⟨u, q1, q2, hvalA v u q3 (V.insS_get (storeIn_get hc id ob hid) j v hj)⟩
    · have := hr.inj _ _ _ _ b (hgetS id o1 g1) (hgetS id' o2 g2) (by rw [← hlive id o1 g1, g3]) (by rw [← hlive id' o2 g2, g4])
      exact hinj' id id' (.inl (by rw [g1]; simp)) (.inl (by rw [g2]; simp)) this
    · cases hx : φc id with
      | none => exact absurd hx hid
      | some x => exact (hback id x hx).1
  have hcalls := hf.calls K0c φc w us hmem (by rw [hlen, V.rens_length]) (fun j v u hj hu => hvalA v u (hval j (v.ren ρ) u (by rw [V.rens_get, hj]; rfl) hu) (V.insS_get ha j v hj))
  refine ⟨(fun h => by cases h), callsIn_of (hcalls.mono ?_)⟩
  rintro e w' ⟨u, φc', rfl, hm, hu, hw⟩
  -- the caller's names from now on
  obtain ⟨φ', hφ'⟩ : ∃ φ' : Phi, φ' = fun id => if h : ∃ i, Sc'.get i ≠ none ∧ Sc.get i = none ∧ ρ i = id then φc' (Classical.choose h) else φ id := ⟨_, rfl⟩
  have hnewφ : ∀ i, Sc'.get i ≠ none → Sc.get i = none → φ' (ρ i) = φc' i := fun i g1 g2 => by
    have h : ∃ j, Sc'.get j ≠ none ∧ Sc.get j = none ∧ ρ j = ρ i := ⟨i, g1, g2, rfl⟩
    rw [hφ']
    simp only
    rw [dif_pos h]
    have := Classical.choose_spec h
    rw [hinj' _ i (.inr this.1) (.inr g1) this.2.2]
  have holdφ : ∀ id, (∀ i, Sc'.get i ≠ none → Sc.get i = none → ρ i ≠ id) → φ' id = φ id := fun id h => by
    rw [hφ']
    simp only
    rw [dif_neg]
    rintro ⟨i, g1, g2, g3⟩
    exact h i g1 g2 g3
  have F1 : ∀ i, Sc'.get i ≠ none → φ' (ρ i) = φc' i := fun i g1 => by
    by_cases g2 : Sc.get i = none
    · exact hnewφ i g1 g2
    · rw [holdφ (ρ i) (fun j k1 k2 k3 => g2 (by rw [← hinj' j i (.inr k1) (.inr g1) k3]; exact k2)), ← hin i g2]
      obtain ⟨ob, hob⟩ := hScl i g2
      rcases hmem.objs i ob hob with ⟨k, _⟩ | ⟨b, k, _⟩
      · rw [k, hw.names i _ k]
      · rw [k, hw.names i _ k]
  have F2 : ∀ id x, φ id = some x → φ' id = some x := fun id x hx => by
    rw [holdφ id (fun i g1 g2 g3 => ?_), hx]
    have := hr.fresh (hSn i g1 g2)
    rw [g3, hx] at this
    cases this
  obtain ⟨S2, hS2⟩ : ∃ S2 : Store, S2 = renS ρ Sc' ++ S := ⟨_, rfl⟩
  have G1 : ∀ id ob, S2.get id = some (some ob) → (∃ i oc, Sc'.get i = some (some oc) ∧ ρ i = id ∧ ob = ⟨oc.t, V.rens ρ oc.cs⟩) ∨ (S.get id = some (some ob) ∧ ∀ i, Sc'.get i ≠ none → ρ i ≠ id) := fun id ob hg => by
    rw [hS2] at hg
    rcases renS_get hg with ⟨i, x, k1, k2, k3⟩ | h
    · cases x with
      | none => cases k3
      | some oc => exact .inl ⟨i, oc, k1, k2, Option.some.inj k3⟩
    · exact .inr h
  have other : ∀ id ob b, S.get id = some (some ob) → (∀ i, Sc'.get i ≠ none → ρ i ≠ id) → φ id = some (some b) → ¬ own φc Sc b := by
    rintro id ob b g1 g2 g3 ⟨i, oc, k1, k2⟩
    have := hr.inj id (ρ i) ob _ b g1 (hgetS i oc k1) g3 (by rw [← hlive i oc k1, k2])
    exact g2 i (hasAll_get hall k1) this.symm
  have hownB : ∀ b, own φ' S2 b → own φc' Sc' b ∨ (∃ id ob, S.get id = some (some ob) ∧ (∀ i, Sc'.get i ≠ none → ρ i ≠ id) ∧ φ id = some (some b)) := by
    rintro b ⟨id, ob, g1, g2⟩
    rcases G1 id ob g1 with ⟨i, oc, k1, rfl, _⟩ | ⟨k1, k2⟩
    · rw [F1 i (by rw [k1]; simp)] at g2; exact .inl ⟨i, oc, k1, g2⟩
    · rw [holdφ id (fun i q1 _ => k2 i q1)] at g2; exact .inr ⟨id, ob, k1, k2, g2⟩
  have hKc : ∀ b, C.K φ' S2 b → K0c b ∨ own φc' Sc' b := by
    rintro b (hb | hb)
    · left
      rw [hK0c]
      refine ⟨.inl hb, ?_⟩
      rintro ⟨i, oc, k1, k2⟩
      exact (hr.ours _ _ b (hgetS i oc k1) (by rw [← hlive i oc k1, k2])).1 hb
    · rcases hownB b hb with h | ⟨id, ob, k1, k2, k3⟩
      · exact .inr h
      · left; rw [hK0c]; exact ⟨.inr ⟨id, ob, k1, k3⟩, other id ob b k1 k2 k3⟩
  have stB : Still (fun b => K0c b ∨ own φc' Sc' b) (C.K φ' S2) w' w' := ⟨Nat.le_refl _, fun _ _ _ => rfl, fun b hb _ hk => hb (hKc b hk), fun _ _ _ x => x⟩
  have hvalB : ∀ v u, VVal (fun b => K0c b ∨ own φc' Sc' b) φc' w' v u → v.inS Sc' = true → VVal (C.K φ' S2) φ' w' (v.ren ρ) u := fun v u hv hs =>
    (VVal.map (S := Sc') (φ' := φ') (fun id ob hg => F1 id (by rw [hg]; simp)) hv hs).still stB (fun _ _ x => x)
  have st : Still (C.K φ S) (C.K φ' S2) w w' := by
    refine ⟨hw.size, fun b hb hl => hw.block b hl (fun h => hb (hKin b (.inr h))), fun b hb hl hk => ?_, hw.shape⟩
    rcases hk with hk | hk
    · exact hb (.inl hk)
    · rcases hownB b hk with h | ⟨id, ob, k1, k2, k3⟩
      · rcases hw.owns b h with h | h
        · exact hb (.inr (hown b h))
        · omega
      · exact hb (.inr ⟨id, ob, k1, k3⟩)
  have hrel : Rel C φ' ⟨E, S2, s.ds⟩ a w' := by
    refine hr.step st F2 (fun id ob hid => ?_) (fun id id' o1 o2 b g1 g2 g3 g4 => ?_) (fun id b hb => ?_) (fun id hid hn => ?_) (hr.keep.mono hw.os hw.tape hw.output hw.size (fun b hb hnw => hw.block b (Nat.lt_of_lt_of_le hb hr.keep.size) fun h => ?_) hw.shape)
    · rcases G1 id ob hid with ⟨i, oc, k1, rfl, rfl⟩ | ⟨k1, k2⟩
      · rw [F1 i (by rw [k1]; simp)]
        rcases hm.objs i oc k1 with ⟨q1, q2⟩ | ⟨b, q1, arr, q2, q3, q4⟩
        · exact .inl ⟨q1, by simp [q2, V.rens]⟩
        · refine .inr ⟨b, q1, ⟨arr, q2, by simpa [V.rens_length] using q3, fun j v hj => ?_⟩, fun hk => ?_, ?_⟩
          · rw [V.rens_get] at hj
            cases hcj : oc.cs[j]? with
            | none => rw [hcj] at hj; cases hj
            | some c =>
              rw [hcj] at hj; cases hj
              obtain ⟨u', r1, r2, r3⟩ := q4 j c hcj
              exact ⟨u', r1, r2, hvalB c u' r3 (V.insS_get (storeIn_get hc' i oc k1) j c hcj)⟩
          · refine hm.out i oc b k1 q1 ?_
            rw [hK0c]
            refine ⟨.inl hk, ?_⟩
            rintro ⟨i', oc', r1, r2⟩
            exact (hr.ours _ _ b (hgetS i' oc' r1) (by rw [← hlive i' oc' r1, r2])).1 hk
          · rcases hw.owns b ⟨i, oc, k1, q1⟩ with ⟨i', oc', r1, r2⟩ | h
            · exact (hr.ours _ _ b (hgetS i' oc' r1) (by rw [← hlive i' oc' r1, r2])).2
            · have := hr.keep.size; exact .inr (by omega)
      · rw [holdφ id (fun i q1 _ => k2 i q1)]
        refine (hr.objs id ob k1).imp (fun x => x) fun ⟨b, hb, ho⟩ => ⟨b, hb, ho.still st F2 (hw.block b (hr.lt id b hb) (other id ob b k1 k2 hb)), hr.ours id ob b k1 hb⟩
    · have mix : ∀ i oc id ob, Sc'.get i = some (some oc) → φ' (ρ i) = some (some b) → S.get id = some (some ob) → (∀ i, Sc'.get i ≠ none → ρ i ≠ id) → φ' id = some (some b) → False := fun i oc id ob k1 k2 k3 k4 k5 => by
        rw [F1 i (by rw [k1]; simp)] at k2
        rw [holdφ id (fun i q1 _ => k4 i q1)] at k5
        rcases hw.owns b ⟨i, oc, k1, k2⟩ with h | h
        · exact other id ob b k3 k4 k5 h
        · have := hr.lt id b k5; omega
      rcases G1 id o1 g1 with ⟨i, oc, k1, rfl, rfl⟩ | ⟨k1, k2⟩ <;> rcases G1 id' o2 g2 with ⟨i', oc', q1, rfl, rfl⟩ | ⟨q1, q2⟩
      · rw [F1 i (by rw [k1]; simp)] at g3
        rw [F1 i' (by rw [q1]; simp)] at g4
        rw [hm.inj i i' oc oc' b k1 q1 g3 g4]
      · exact (mix i oc id' _ k1 g3 q1 q2 g4).elim
      · exact (mix i' oc' id _ q1 g4 k1 k2 g3).elim
      · rw [holdφ id (fun i r1 _ => k2 i r1)] at g3
        rw [holdφ id' (fun i r1 _ => q2 i r1)] at g4
        exact hr.inj id id' o1 o2 b k1 q1 g3 g4
    · by_cases h : ∃ i, Sc'.get i ≠ none ∧ Sc.get i = none ∧ ρ i = id
      · obtain ⟨i, k1, k2, rfl⟩ := h
        rw [hnewφ i k1 k2] at hb
        exact hm.lt i b hb
      · rw [holdφ id (fun i k1 k2 k3 => h ⟨i, k1, k2, k3⟩)] at hb
        exact Nat.lt_of_lt_of_le (hr.lt id b hb) hw.size
    · rw [hS2] at hn
      obtain ⟨k1, k2⟩ := renS_none hn
      by_cases h : ∃ i, Sc'.get i ≠ none ∧ Sc.get i = none ∧ ρ i = id
      · obtain ⟨i, q1, _, q3⟩ := h
        exact k2 i q1 q3
      · rw [holdφ id (fun i q1 q2 q3 => h ⟨i, q1, q2, q3⟩)] at hid
        exact hr.used id hid k1
    · obtain ⟨i, oc, k1, k2⟩ := h
      rcases (hr.ours _ _ b (hgetS i oc k1) (by rw [← hlive i oc k1, k2])).2 with h | h
      · exact hnw h
      · omega
  have hfin := hrel.putO hd (v := cres.ren ρ) (u := u) (hvalB cres u hu hr')
  rw [hS2] at hfin
  exact hK φ' u w' hfin

/-! ### Results of any shape -/
inductive RVs (P : Program) (e : Env) (S : Store) : List ResultVar → List V → Prop
  | nil : RVs P e S [] []
  | tmp {t : Nat} {v : V} {rs : List ResultVar} {vs : List V} (he : e.get t = v) (r : RVs P e S rs vs) : RVs P e S (.tmp t :: rs) (v :: vs)
  | cell {t ty id off : Nat} {ob : Obj} {v : V} {rs : List ResultVar} {vs : List V} (hc : CellT P ty) (he : e.get t = .ptr id off) (hs : S.get id = some (some ob)) (hv : ob.cs[off]? = some v) (r : RVs P e S rs vs) : RVs P e S (.cell t ty :: rs) (v :: vs)
theorem rvs_run {φ : Phi} {a : Act} {w : World} (hr : Rel C φ s a w) {rs : List ResultVar} {vs : List V} (hv : RVs P s.e s.s rs vs) :
    ∃ us : List Value, (∀ f : ResultVar → Sem Value, (∀ u, f (.tmp u) = pure (a.tmps.getD u undef)) → (∀ x t, f (.cell x t) = (do loadVar t (← asAddr (a.tmps.getD x undef)))) → (rs.mapM f).run P w = .ok us w) ∧ us.length = vs.length ∧
      ∀ (j : Nat) (v : V) (u : Value), vs[j]? = some v → us[j]? = some u → VVal (C.K φ s.s) φ w v u := by
  induction hv with
  | nil => exact ⟨[], fun f _ _ => by simp, rfl, fun j v u h => by simp at h⟩
  | @tmp t v rs vs he r ih =>
    obtain ⟨us, h1, h2, h3⟩ := ih
    refine ⟨a.tmps.getD t undef :: us, fun f hf hc => by simp [List.mapM_cons, hf, h1 f hf hc], by simp [h2], fun j v' u hj hu => ?_⟩
    cases j with
    | zero => cases hj; cases hu; have := hr.slots t; rwa [he] at this
    | succ j => exact h3 j v' u (by simpa using hj) (by simpa using hu)
  | @cell t ty id off ob v rs vs hct he hs hv r ih =>
    obtain ⟨us, h1, h2, h3⟩ := ih
    have g0 := hr.slots t
    rw [he] at g0
    obtain ⟨b, hu, hb⟩ := g0.ptr_inv
    rcases hr.objs id ob hs with ⟨k1, _⟩ | ⟨b', k1, ho⟩
    · rw [hb] at k1; cases k1
    · obtain rfl := Option.some.inj (Option.some.inj (hb.symm.trans k1))
      obtain ⟨u, g1, _, g3⟩ := ho.cell hv
      have hl : (loadVar ty ⟨b, off, none⟩).run P w = .ok u w := by
        have := run_loadAt_cell (P := P) (t := ty) g1
        simpa [Instr.loadAt, Instr.sureAddr] using this
      refine ⟨u :: us, fun f hf hc => by simp [List.mapM_cons, hc, hu, asAddr, hl, h1 f hf hc], by simp [h2], fun j v' u' hj hu' => ?_⟩
      cases j with
      | zero => cases hj; cases hu'; exact g3
      | succ j => exact h3 j v' u' (by simpa using hj) (by simpa using hu')
theorem results_run {fn : Func} {φ : Phi} {a : Act} {w : World} (hr : Rel C φ s a w) {rs : List ResultVar} {vs : List V} (h : fn.results = rs.toArray) (hv : RVs P s.e s.s rs vs) :
    ∃ us : List Value, (results fn a.tmps).run P w = .ok (if h : us.length = 1 then us[0]'(by omega) else .tuple us.toArray) w ∧ us.length = vs.length ∧ ∀ (j : Nat) (v : V) (u : Value), vs[j]? = some v → us[j]? = some u → VVal (C.K φ s.s) φ w v u := by
  obtain ⟨us, h1, h2, h3⟩ := rvs_run hr hv
  refine ⟨us, ?_, h2, h3⟩
  unfold results
  rw [h, List.mapM_toArray]
  simp only [Sem.run_bind, Sem.run_map]
  rw [h1 _ (fun _ => rfl) (fun _ _ => rfl)]
  simp
/-- The ending of a function with a store. -/
theorem FinS.one {fn : Func} {res : V} {S' : Store} {r : ResultVar} (h : fn.results = #[r]) (hds : s.ds = []) (hS : s.s = S') (hv : RVs P s.e s.s [r] [res]) : FinS C fn res S' s := fun φ a w hr => by
  obtain ⟨us, h1, h2, h3⟩ := results_run hr (rs := [r]) h hv
  have hl : us.length = 1 := h2
  rw [dif_pos hl] at h1
  exact ⟨by rw [hr.defs, hds], _, h1, h3 0 res _ rfl (List.getElem?_eq_getElem (by omega)), hS⟩
theorem FinS.many {fn : Func} {vs : List V} {S' : Store} {rs : List ResultVar} (h : fn.results = rs.toArray) (hds : s.ds = []) (hS : s.s = S') (hl : vs.length ≠ 1) (hv : RVs P s.e s.s rs vs) : FinS C fn (.tup vs) S' s := fun φ a w hr => by
  obtain ⟨us, h1, h2, h3⟩ := results_run hr (rs := rs) h hv
  rw [dif_neg (by omega)] at h1
  exact ⟨by rw [hr.defs, hds], _, h1, .tup vs us h2 h3, hS⟩
theorem Fin.ones {fn : Func} {res : V} {r : ResultVar} (h : fn.results = #[r]) (hds : s.ds = []) (hv : RVs P s.e s.s [r] [res]) (hd : res.deep = true) : Fin C fn res s := fun φ a w hr => by
  obtain ⟨us, h1, h2, h3⟩ := results_run hr (rs := [r]) h hv
  have hl : us.length = 1 := h2
  rw [dif_pos hl] at h1
  exact ⟨by rw [hr.defs, hds], _, h1, (h3 0 res _ rfl (List.getElem?_eq_getElem (by omega))).toK0 hd⟩
theorem Fin.many {fn : Func} {vs : List V} {rs : List ResultVar} (h : fn.results = rs.toArray) (hds : s.ds = []) (hl : vs.length ≠ 1) (hv : RVs P s.e s.s rs vs) (hd : V.deeps vs = true) : Fin C fn (.tup vs) s := fun φ a w hr => by
  obtain ⟨us, h1, h2, h3⟩ := results_run hr (rs := rs) h hv
  rw [dif_neg (by omega)] at h1
  exact ⟨by rw [hr.defs, hds], _, h1, .tup vs us h2 fun j v u hj hu => (h3 j v u hj hu).toK0 (V.deeps_get hd j v hj)⟩
end

end Go.Proofs.Ytjofdfiljokfoaa.TL
