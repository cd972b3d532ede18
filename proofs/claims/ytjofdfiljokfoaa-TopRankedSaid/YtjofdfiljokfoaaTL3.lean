/- A small logic for Go functions over the model: the rules of the operations on memory. -/
import Derived.Test.YtjofdfiljokfoaaTL2
import Derived.Maps.AppendAt
namespace Go.Proofs.Ytjofdfiljokfoaa.TL
open Go Go.RowKit
set_option linter.unusedVariables false
set_option linter.unusedSimpArgs false

def V.one : V → Bool
  | .d (.val v) => v.oneCell'
  | .d _ => true
  | .ref .. => true
  | .acc .. => true
  | .ptr .. => true
  | .clo .. => true
  | _ => false

theorem V.one_cell {K : Nat → Prop} {φ : Phi} {w : World} {v : V} {u : Value} (h : VVal K φ w v u) (ho : v.one = true) : u.oneCell' = true := by
  cases h with
  | any v => cases ho
  | d x v h => cases h with
    | val v => exact ho
    | list => rfl
    | box => rfl
    | clo => rfl
  | agg => cases ho
  | tup => cases ho
  | ref => rfl
  | accNil => rfl
  | accRow => rfl
  | ptr => rfl
  | clo => rfl

theorem cells_one {u : Value} (h : u.oneCell' = true) : u.cells = #[u] := by cases u <;> first | rfl | cases h

section inv
variable {K : Nat → Prop} {φ : Phi} {w : World} {u : Value}
theorem VVal.ptr_inv {id off : Nat} (h : VVal K φ w (.ptr id off) u) : ∃ b, u = .pointer (some ⟨b, off, none⟩) ∧ φ id = some (some b) := by cases h with | ptr _ _ b hb => exact ⟨b, rfl, hb⟩
theorem VVal.ref_inv {id sz off n : Nat} (h : VVal K φ w (.ref id sz off n) u) : ∃ b cap t m, u = .slice (some ⟨b, off, none⟩) n cap ∧ φ id = some (some b) ∧ w.shape? b = some (t, m) ∧ off + cap * sz ≤ m ∧ n ≤ cap ∧ cap ≤ maxLen := by
  cases h with | ref _ _ _ _ b cap t m h1 h2 h3 h4 h5 => exact ⟨b, cap, t, m, rfl, h1, h2, h3, h4, h5⟩
theorem VVal.acc_inv {id sz n : Nat} (h : VVal K φ w (.acc id sz n) u) : (u = .slice none 0 0 ∧ n = 0 ∧ φ id = some none) ∨ ∃ b cap t, u = .slice (some ⟨b, 0, none⟩) n cap ∧ φ id = some (some b) ∧ w.shape? b = some (t, cap * sz) ∧ n ≤ cap ∧ cap ≤ maxLen := by
  cases h with
  | accNil _ _ h => exact .inl ⟨rfl, rfl, h⟩
  | accRow _ _ _ b cap t h1 h2 h3 h4 => exact .inr ⟨b, cap, t, rfl, h1, h2, h3, h4⟩
theorem VVal.agg_inv {cs : List V} (h : VVal K φ w (.agg cs) u) : ∃ xs : List Value, u = .agg xs.toArray ∧ xs.length = cs.length ∧ ∀ (j : Nat) (d : V) (u : Value), cs[j]? = some d → xs[j]? = some u → VVal K φ w d u := by
  cases h with | agg _ xs h1 h2 => exact ⟨xs, rfl, h1, h2⟩
theorem VVal.tup_inv {cs : List V} (h : VVal K φ w (.tup cs) u) : ∃ xs : List Value, u = .tuple xs.toArray ∧ xs.length = cs.length ∧ ∀ (j : Nat) (d : V) (u : Value), cs[j]? = some d → xs[j]? = some u → VVal K φ w d u := by
  cases h with | tup _ xs h1 h2 => exact ⟨xs, rfl, h1, h2⟩
theorem VVal.d_inv {x : D} (h : VVal K φ w (.d x) u) : DVal K w x u := by cases h with | d _ _ h => exact h
theorem DVal.list_inv {sz : Nat} {es : List (List D)} (h : DVal K w (.list sz es) u) : ∃ A cap, ∃ xs : List (List Value), u = .slice A es.length cap ∧ xs.length = es.length ∧ es.length ≤ cap ∧ (A = none → cap = 0) ∧
    (es ≠ [] → ∃ b o, A = some ⟨b, o, none⟩ ∧ ¬ K b ∧ b < w.heap.size ∧ ∀ (i : Nat) (ve : List Value), xs[i]? = some ve → ∀ (j : Nat) (u : Value), ve[j]? = some u → w.cell? ⟨b, o + i * sz + j, none⟩ = some u) ∧
    (∀ (i : Nat) (e : List D) (ve : List Value), es[i]? = some e → xs[i]? = some ve → e.length = sz ∧ ve.length = sz) ∧
    (∀ (i : Nat) (e : List D) (ve : List Value), es[i]? = some e → xs[i]? = some ve → ∀ (j : Nat) (d : D) (u : Value), e[j]? = some d → ve[j]? = some u → DVal K w d u) := by
  cases h with | list _ _ A cap xs h1 h2 h0 h3 h4 h5 => exact ⟨A, cap, xs, rfl, h1, h2, h0, h3, h4, h5⟩
theorem DVal.box_inv {cs : List D} (h : DVal K w (.box cs) u) : ∃ b o, ∃ xs : List Value, u = .pointer (some ⟨b, o, none⟩) ∧ xs.length = cs.length ∧ ¬ K b ∧ b < w.heap.size ∧ (∀ (j : Nat) (u : Value), xs[j]? = some u → w.cell? ⟨b, o + j, none⟩ = some u) ∧
    ∀ (j : Nat) (d : D) (u : Value), cs[j]? = some d → xs[j]? = some u → DVal K w d u := by
  cases h with | box _ b o xs h1 h2 h3 h4 h5 => exact ⟨b, o, xs, rfl, h1, h2, h3, h4, h5⟩
end inv

theorem ObjAt.cell {K : Nat → Prop} {φ : Phi} {w : World} {ob : Obj} {b : Nat} (h : ObjAt K φ w ob b) {j : Nat} {v : V} (hj : ob.cs[j]? = some v) : ∃ u, w.cell? ⟨b, j, none⟩ = some u ∧ u.oneCell' = true ∧ VVal K φ w v u := by
  obtain ⟨arr, h1, _, h3⟩ := h
  obtain ⟨u, g1, g2, g3⟩ := h3 j v hj
  exact ⟨u, by rw [cell_of_row w b j arr ob.t (0, 0) h1]; exact g1, g2, g3⟩

section runs
variable {P : Program} {w : World}
theorem run_loadAt_cell {t : Nat} [h : CellT P t] {a : Addr} {u : Value} (hc : w.cell? a = some u) : (Instr.loadAt t (.pointer (some a))).run P w = .ok u w := by
  obtain ⟨⟨d, hd, hm⟩, _⟩ := h.fact
  simp only [Instr.loadAt, Instr.sureAddr, loadVar, isAgg]
  cases d <;> first | (cases hm; done) | simp [run_underlying hd, hc]
theorem run_loadAt_agg {t n : Nat} [h : AggT P t n] {a : Addr} {us : List Value} (hl : us.length = n) (hc : ∀ (j : Nat) (u : Value), us[j]? = some u → w.cell? (a.add j) = some u) : (Instr.loadAt t (.pointer (some a))).run P w = .ok (.agg us.toArray) w := by
  obtain ⟨⟨d, hd, hm⟩, i, hi, hs⟩ := h.fact
  have hr := run_loadCells_list (P := P) w a us hc
  rw [hl] at hr
  simp only [Instr.loadAt, Instr.sureAddr, loadVar, isAgg]
  cases d <;> first | (cases hm; done) | simp [run_underlying hd, sizeOf, typeInfo, hi, hs, hr]
end runs

section ops
variable {P : Program} {C : Ctx P} {o : Oper} {s : St} {d : Nat}

theorem ok_load_box {t : Nat} {x : Operand} [CellT P t] (ho : o.op = .load t x) (hd : o.dst = some d) (hN : d < C.N) {c : D} {r : List D} (hx : ev s.e x = .d (.box (c :: r))) : Ok C o s ⟨[], [], .d c⟩ :=
  Ok.pure hd hN (by simp [ho]) fun K φ a w he => by
    have h0 := he x (by simp [ho, Op.operands])
    rw [hx] at h0
    obtain ⟨b, of, xs, hu, hl, _, _, h4, h5⟩ := h0.d_inv.box_inv
    obtain ⟨u, hu0⟩ := get_of_len hl (j := 0) (y := c) rfl
    refine ⟨u, ?_, .d _ _ (h5 0 c u rfl hu0)⟩
    have := run_loadAt_cell (P := P) (t := t) (h4 0 u hu0)
    simp only [Nat.add_zero] at this
    simp [execOp, ho, hu, this]
theorem ok_load_box_agg {t n : Nat} {x : Operand} [AggT P t n] (ho : o.op = .load t x) (hd : o.dst = some d) (hN : d < C.N) {cs : List D} (hx : ev s.e x = .d (.box cs)) (hn : n ≤ cs.length) : Ok C o s ⟨[], [], .agg ((cs.take n).map V.d)⟩ :=
  Ok.pure hd hN (by simp [ho]) fun K φ a w he => by
    have h0 := he x (by simp [ho, Op.operands])
    rw [hx] at h0
    obtain ⟨b, of, xs, hu, hl, _, _, h4, h5⟩ := h0.d_inv.box_inv
    refine ⟨.agg (xs.take n).toArray, ?_, .agg _ (xs.take n) (by simp [hl]) fun j v u hj hu => ?_⟩
    · have := run_loadAt_agg (P := P) (t := t) (w := w) (a := ⟨b, of, none⟩) (us := xs.take n) (by simp; omega) (fun j u hj => by
        rw [List.getElem?_take] at hj
        split at hj
        · rw [Addr.add_lit]; exact h4 j u hj
        · cases hj)
      simp [execOp, ho, hu, this]
    · rw [List.getElem?_map] at hj
      cases hc : (cs.take n)[j]? with
      | none => rw [hc] at hj; cases hj
      | some c =>
        rw [hc] at hj
        cases hj
        rw [List.getElem?_take] at hc hu
        split at hc
        · rename_i hlt; rw [if_pos hlt] at hu; exact .d _ _ (h5 j c u hc hu)
        · cases hc
theorem ok_load_ptr {t : Nat} {x : Operand} [CellT P t] (ho : o.op = .load t x) (hd : o.dst = some d) (hN : d < C.N) {id off : Nat} {ob : Obj} {v : V} (hx : ev s.e x = .ptr id off) (hs : s.s.get id = some (some ob)) (hv : ob.cs[off]? = some v) : Ok C o s ⟨[id], [], v⟩ :=
  Ok.reads [id] hd hN (by simp [ho]) fun K φ a w he hid => by
    have h0 := he x (by simp [ho, Op.operands])
    rw [hx] at h0
    obtain ⟨b, hu, hb⟩ := h0.ptr_inv
    rcases hid id (by simp) ob hs with ⟨h1, _⟩ | ⟨b', h1, h2⟩
    · rw [hb] at h1; cases h1
    · obtain rfl := Option.some.inj (Option.some.inj (hb.symm.trans h1))
      obtain ⟨u, g1, _, g3⟩ := h2.cell hv
      exact ⟨u, by simp [execOp, ho, hu, run_loadAt_cell (P := P) (t := t) g1], g3⟩
theorem ok_load_ptr_agg {t n : Nat} {x : Operand} [AggT P t n] (ho : o.op = .load t x) (hd : o.dst = some d) (hN : d < C.N) {id off : Nat} {ob : Obj} (hx : ev s.e x = .ptr id off) (hs : s.s.get id = some (some ob)) (hn : off + n ≤ ob.cs.length) : Ok C o s ⟨[id], [], .agg ((ob.cs.drop off).take n)⟩ :=
  Ok.reads [id] hd hN (by simp [ho]) fun K φ a w he hid => by
    have h0 := he x (by simp [ho, Op.operands])
    rw [hx] at h0
    obtain ⟨b, hu, hb⟩ := h0.ptr_inv
    rcases hid id (by simp) ob hs with ⟨h1, _⟩ | ⟨b', h1, h2⟩
    · rw [hb] at h1; cases h1
    · obtain rfl := Option.some.inj (Option.some.inj (hb.symm.trans h1))
      obtain ⟨arr, k1, k2, k3⟩ := h2
      have hcell : ∀ j, w.cell? ⟨b, j, none⟩ = arr[j]? := fun j => cell_of_row w b j arr ob.t (0, 0) k1
      refine ⟨.agg ((arr.toList.drop off).take n).toArray, ?_, .agg _ ((arr.toList.drop off).take n) (by simp; omega) fun j v u hj hju => ?_⟩
      · have := run_loadAt_agg (P := P) (t := t) (w := w) (a := ⟨b, off, none⟩) (us := (arr.toList.drop off).take n) (by simp; omega) (fun j u hj => by
          rw [List.getElem?_take] at hj
          split at hj
          · rw [Addr.add_lit, hcell, ← hj, List.getElem?_drop, Array.getElem?_toList]
          · cases hj)
        simp [execOp, ho, hu, this]
      · rw [List.getElem?_take] at hj hju
        split at hj
        · rename_i hlt
          rw [if_pos hlt] at hju
          rw [List.getElem?_drop] at hj hju
          obtain ⟨u', g1, _, g3⟩ := k3 _ v hj
          rw [Array.getElem?_toList, g1] at hju
          cases hju
          exact g3
        · cases hj

/-! ### Addresses -/
theorem ok_fieldAddr_ptr {t f off ft : Nat} {x : Operand} [hf : FieldT P t f off ft] (ho : o.op = .fieldAddr t x f) (hd : o.dst = some d) (hN : d < C.N) {id of : Nat} (hx : ev s.e x = .ptr id of) : Ok C o s ⟨[], [], .ptr id (of + off)⟩ :=
  Ok.pure hd hN (by simp [ho]) fun K φ a w he => by
    have h0 := he x (by simp [ho, Op.operands])
    rw [hx] at h0
    obtain ⟨b, hu, hb⟩ := h0.ptr_inv
    obtain ⟨fs, fd, h1, h2, h3, h4, i, h5, h6⟩ := hf.fact
    refine ⟨.pointer (some ⟨b, of + off, none⟩), ?_, .ptr _ _ b hb⟩
    simp [execOp, ho, hu, Instr.fieldAt, run_underlying h1, h2, Instr.sureAddr, fieldPlace, sizeOf, typeInfo, h4, h5, h6, h3, Addr.add_lit]
theorem ok_fieldAddr_box {t f off ft : Nat} {x : Operand} [hf : FieldT P t f off ft] (ho : o.op = .fieldAddr t x f) (hd : o.dst = some d) (hN : d < C.N) {cs : List D} (hx : ev s.e x = .d (.box cs)) : Ok C o s ⟨[], [], .d (.box (cs.drop off))⟩ :=
  Ok.pure hd hN (by simp [ho]) fun K φ a w he => by
    have h0 := he x (by simp [ho, Op.operands])
    rw [hx] at h0
    obtain ⟨b, of, xs, hu, hl, k1, k2, k4, k5⟩ := h0.d_inv.box_inv
    obtain ⟨fs, fd, h1, h2, h3, h4, i, h5, h6⟩ := hf.fact
    refine ⟨.pointer (some ⟨b, of + off, none⟩), ?_, .d _ _ (.box _ b (of + off) (xs.drop off) (by simp [hl]) k1 k2 (fun j u hj => ?_) (fun j dd u hj hju => ?_))⟩
    · simp [execOp, ho, hu, Instr.fieldAt, run_underlying h1, h2, Instr.sureAddr, fieldPlace, sizeOf, typeInfo, h4, h5, h6, h3, Addr.add_lit]
    · rw [List.getElem?_drop] at hj
      rw [Nat.add_assoc]; exact k4 _ u hj
    · rw [List.getElem?_drop] at hj hju
      exact k5 _ dd u hj hju
theorem run_indexAt_arr {t n e sz : Nat} [h : ArrT P t n e sz] {w : World} {ad : Addr} {k : IntKind} {i : Int} (h0 : 0 ≤ i) (h1 : i < n) : (Instr.indexAt t (.pointer (some ad)) (.int k i)).run P w = .ok (.pointer (some (ad.add (i.toNat * sz)))) w := by
  obtain ⟨hu, i', hi, hs⟩ := h.fact
  simp [Instr.indexAt, asIntOf, run_underlying hu, Instr.sureAddr, h0, h1, sizeOf, typeInfo, hi, hs]
theorem run_indexAt_sl {t e sz bytes : Nat} {z : Value} [h : SliceT P t e sz bytes z] {w : World} {ad : Addr} {l c : Nat} {k : IntKind} {i : Int} (h0 : 0 ≤ i) (h1 : i < l) : (Instr.indexAt t (.slice (some ad) l c) (.int k i)).run P w = .ok (.pointer (some (ad.add (i.toNat * sz)))) w := by
  obtain ⟨hu, i', hi, hs, _⟩ := h.fact
  simp [Instr.indexAt, asIntOf, run_underlying hu, h0, h1, sizeOf, typeInfo, hi, hs]
theorem ok_index_arr {t n e sz : Nat} {x ix : Operand} [ArrT P t n e sz] (ho : o.op = .indexAddr t x ix) (hd : o.dst = some d) (hN : d < C.N) {id of : Nat} {k : IntKind} {i : Int} (hx : ev s.e x = .ptr id of) (hi : ev s.e ix = V.i k i) (h0 : 0 ≤ i) (h1 : i < n) : Ok C o s ⟨[], [], .ptr id (of + i.toNat * sz)⟩ :=
  Ok.pure hd hN (by simp [ho]) fun K φ a w he => by
    have g0 := he x (by simp [ho, Op.operands])
    have g1 := he ix (by simp [ho, Op.operands])
    rw [hx] at g0
    rw [hi] at g1
    obtain ⟨b, hu, hb⟩ := g0.ptr_inv
    refine ⟨.pointer (some ⟨b, of + i.toNat * sz, none⟩), ?_, .ptr _ _ b hb⟩
    simp only [execOp, ho, hu, g1.val_inv]
    rw [Sem.run_bind, run_indexAt_arr (n := n) (e := e) (sz := sz) h0 h1, Addr.add_lit]
    rfl
theorem ok_index_list {t e sz bytes : Nat} {z : Value} {x ix : Operand} [SliceT P t e sz bytes z] (ho : o.op = .indexAddr t x ix) (hd : o.dst = some d) (hN : d < C.N) {es : List (List D)} {cs : List D} {k : IntKind} {i : Int} (hx : ev s.e x = V.list sz es) (hi : ev s.e ix = V.i k i) (h0 : 0 ≤ i) (h1 : es[i.toNat]? = some cs) : Ok C o s ⟨[], [], .d (.box cs)⟩ :=
  Ok.pure hd hN (by simp [ho]) fun K φ a w he => by
    have g0 := he x (by simp [ho, Op.operands])
    have g1 := he ix (by simp [ho, Op.operands])
    rw [hx] at g0
    rw [hi] at g1
    obtain ⟨A, cap, xs, hu, hl, hc, _, hA, hs, hv⟩ := g0.d_inv.list_inv
    have hlt := (List.getElem?_eq_some_iff.1 h1).1
    obtain ⟨b, of, rfl, k1, k2, k3⟩ := hA (fun e => by rw [e] at hlt; cases hlt)
    obtain ⟨ve, hve⟩ := get_of_len hl h1
    obtain ⟨s1, s2⟩ := hs _ _ _ h1 hve
    refine ⟨.pointer (some ⟨b, of + i.toNat * sz, none⟩), ?_, .d _ _ (.box cs b _ ve (by omega) k1 k2 (fun j u hj => k3 _ _ hve j u hj) (fun j dd u hj hju => hv _ _ _ h1 hve j dd u hj hju))⟩
    simp only [execOp, ho, hu, g1.val_inv]
    rw [Sem.run_bind, run_indexAt_sl (sz := sz) h0 (by omega), Addr.add_lit]
    rfl
theorem ok_index_acc {t e sz bytes : Nat} {z : Value} {x ix : Operand} [SliceT P t e sz bytes z] (ho : o.op = .indexAddr t x ix) (hd : o.dst = some d) (hN : d < C.N) {id n : Nat} {k : IntKind} {i : Int} (hx : ev s.e x = .acc id sz n) (hi : ev s.e ix = V.i k i) (h0 : 0 ≤ i) (h1 : i < n) : Ok C o s ⟨[], [], .ptr id (i.toNat * sz)⟩ :=
  Ok.pure hd hN (by simp [ho]) fun K φ a w he => by
    have g0 := he x (by simp [ho, Op.operands])
    have g1 := he ix (by simp [ho, Op.operands])
    rw [hx] at g0
    rw [hi] at g1
    rcases g0.acc_inv with ⟨_, rfl, _⟩ | ⟨b, cap, t', hu, hb, _⟩
    · omega
    · refine ⟨.pointer (some ⟨b, 0 + i.toNat * sz, none⟩), ?_, by rw [Nat.zero_add]; exact .ptr _ _ b hb⟩
      simp only [execOp, ho, hu, g1.val_inv]
      rw [Sem.run_bind, run_indexAt_sl (sz := sz) h0 h1, Addr.add_lit]
      rfl
theorem ok_index_ref {t e sz bytes : Nat} {z : Value} {x ix : Operand} [SliceT P t e sz bytes z] (ho : o.op = .indexAddr t x ix) (hd : o.dst = some d) (hN : d < C.N) {id of n : Nat} {k : IntKind} {i : Int} (hx : ev s.e x = .ref id sz of n) (hi : ev s.e ix = V.i k i) (h0 : 0 ≤ i) (h1 : i < n) : Ok C o s ⟨[], [], .ptr id (of + i.toNat * sz)⟩ :=
  Ok.pure hd hN (by simp [ho]) fun K φ a w he => by
    have g0 := he x (by simp [ho, Op.operands])
    have g1 := he ix (by simp [ho, Op.operands])
    rw [hx] at g0
    rw [hi] at g1
    obtain ⟨b, cap, t', m, hu, hb, _⟩ := g0.ref_inv
    refine ⟨.pointer (some ⟨b, of + i.toNat * sz, none⟩), ?_, .ptr _ _ b hb⟩
    simp only [execOp, ho, hu, g1.val_inv]
    rw [Sem.run_bind, run_indexAt_sl (sz := sz) h0 h1, Addr.add_lit]
    rfl

/-! ### len, min, max, extract, makeFunc -/
theorem run_len_sl {t e sz bytes : Nat} {z : Value} [h : SliceT P t e sz bytes z] {w : World} {A : Option Addr} {n c ty : Nat} : (Builtin.len_ #[t] ty #[.slice A n c]).run P w = .ok (.int .i64 n) w := by
  obtain ⟨hu, _⟩ := h.fact
  simp [Builtin.len_, run_underlying hu, goInt]
theorem ok_len {t e sz bytes : Nat} {z : Value} {x : Operand} [SliceT P t e sz bytes z] (ho : o.op = .call { callee := .builtin .len, args := #[x], argTypes := #[t] }) (hd : o.dst = some d) (hN : d < C.N) {n : Nat}
    (hx : ∀ (K : Nat → Prop) φ w u, VVal K φ w (ev s.e x) u → ∃ A c, u = .slice A n c) : Ok C o s ⟨[], [], V.int n⟩ :=
  Ok.pure hd hN (by simp [ho]) fun K φ a w he => by
    have g0 := he x (by simp [ho, Op.operands, Call.operands])
    obtain ⟨A, c, hu⟩ := hx K φ w _ g0
    refine ⟨.int .i64 n, ?_, .d _ _ (.val _)⟩
    simp [execOp, ho, resolve, invoke, Go.builtin, hu, run_len_sl (P := P) (t := t)]
theorem ok_len_list {t e sz bytes : Nat} {z : Value} {x : Operand} [SliceT P t e sz bytes z] (ho : o.op = .call { callee := .builtin .len, args := #[x], argTypes := #[t] }) (hd : o.dst = some d) (hN : d < C.N) {sz' : Nat} {es : List (List D)} (hx : ev s.e x = V.list sz' es) : Ok C o s ⟨[], [], V.int es.length⟩ :=
  ok_len ho hd hN fun K φ w u h => by rw [hx] at h; obtain ⟨A, c, _, h, _⟩ := h.d_inv.list_inv; exact ⟨A, c, h⟩
theorem ok_len_acc {t e sz bytes : Nat} {z : Value} {x : Operand} [SliceT P t e sz bytes z] (ho : o.op = .call { callee := .builtin .len, args := #[x], argTypes := #[t] }) (hd : o.dst = some d) (hN : d < C.N) {id sz' n : Nat} (hx : ev s.e x = .acc id sz' n) : Ok C o s ⟨[], [], V.int n⟩ :=
  ok_len ho hd hN fun K φ w u h => by rw [hx] at h; exact h.acc_inv.elim (fun ⟨h, h', _⟩ => ⟨none, 0, by rw [h, h']⟩) (fun ⟨b, c, _, h, _⟩ => ⟨_, c, h⟩)
theorem ok_len_ref {t e sz bytes : Nat} {z : Value} {x : Operand} [SliceT P t e sz bytes z] (ho : o.op = .call { callee := .builtin .len, args := #[x], argTypes := #[t] }) (hd : o.dst = some d) (hN : d < C.N) {id sz' of n : Nat} (hx : ev s.e x = .ref id sz' of n) : Ok C o s ⟨[], [], V.int n⟩ :=
  ok_len ho hd hN fun K φ w u h => by rw [hx] at h; obtain ⟨b, c, _, _, h, _⟩ := h.ref_inv; exact ⟨_, c, h⟩
theorem ok_len_nil {t e sz bytes : Nat} {z : Value} {x : Operand} [SliceT P t e sz bytes z] (ho : o.op = .call { callee := .builtin .len, args := #[x], argTypes := #[t] }) (hd : o.dst = some d) (hN : d < C.N) (hx : ev s.e x = V.nil) : Ok C o s ⟨[], [], V.int (0 : Nat)⟩ :=
  ok_len ho hd hN fun K φ w u h => by rw [hx] at h; exact ⟨none, 0, h.val_inv⟩
theorem ok_min {ts : Array Nat} {x y : Operand} (ho : o.op = .call { callee := .builtin .min, args := #[x, y], argTypes := ts }) (hd : o.dst = some d) (hN : d < C.N) {k : IntKind} {a b : Int} (hx : ev s.e x = V.i k a) (hy : ev s.e y = V.i k b) : Ok C o s ⟨[], [], V.i k (min a b)⟩ :=
  Ok.pure hd hN (by simp [ho]) fun K φ ac w he => by
    have g0 := he x (by simp [ho, Op.operands, Call.operands])
    have g1 := he y (by simp [ho, Op.operands, Call.operands])
    rw [hx] at g0
    rw [hy] at g1
    refine ⟨.int k (min a b), ?_, .d _ _ (.val _)⟩
    have : (if b < a then b else a) = min a b := by omega
    simp [execOp, ho, resolve, invoke, Go.builtin, g0.val_inv, g1.val_inv, Builtin.min_, Builtin.min2, this]
theorem ok_max {ts : Array Nat} {x y : Operand} (ho : o.op = .call { callee := .builtin .max, args := #[x, y], argTypes := ts }) (hd : o.dst = some d) (hN : d < C.N) {k : IntKind} {a b : Int} (hx : ev s.e x = V.i k a) (hy : ev s.e y = V.i k b) : Ok C o s ⟨[], [], V.i k (max a b)⟩ :=
  Ok.pure hd hN (by simp [ho]) fun K φ ac w he => by
    have g0 := he x (by simp [ho, Op.operands, Call.operands])
    have g1 := he y (by simp [ho, Op.operands, Call.operands])
    rw [hx] at g0
    rw [hy] at g1
    refine ⟨.int k (max a b), ?_, .d _ _ (.val _)⟩
    have : (if a < b then b else a) = max a b := by omega
    simp [execOp, ho, resolve, invoke, Go.builtin, g0.val_inv, g1.val_inv, Builtin.max_, Builtin.max2, this]
theorem ok_extract {x : Operand} {i : Nat} (ho : o.op = .extract x i) (hd : o.dst = some d) (hN : d < C.N) {cs : List V} {v : V} (hx : ev s.e x = .tup cs) (hv : cs[i]? = some v) : Ok C o s ⟨[], [], v⟩ :=
  Ok.pure hd hN (by simp [ho]) fun K φ a w he => by
    have g0 := he x (by simp [ho, Op.operands])
    rw [hx] at g0
    obtain ⟨xs, hu, hl, h⟩ := g0.tup_inv
    obtain ⟨u, hu'⟩ := get_of_len hl hv
    refine ⟨u, ?_, h i v u hv hu'⟩
    simp [execOp, ho, hu, Instr.extract, hu']
end ops

end Go.Proofs.Ytjofdfiljokfoaa.TL
