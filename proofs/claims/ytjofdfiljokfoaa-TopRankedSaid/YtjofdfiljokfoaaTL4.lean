/- A small logic for Go functions over the model: the rules of the operations that write memory or make it. -/
import Derived.Test.YtjofdfiljokfoaaTL3
namespace Go.Proofs.Ytjofdfiljokfoaa.TL
open Go Go.RowKit
set_option linter.unusedVariables false
set_option linter.unusedSimpArgs false

section ops
variable {P : Program} {C : Ctx P} {o : Oper} {s : St} {d : Nat}

theorem put_none {a : Act} {v : Value} : a.put none v = a := rfl

/-- A store into one's own object. -/
theorem Ok.writes {id : Nat} {ob ob' : Obj} (hd : o.dst = none) (hnd : ∀ c, o.op ≠ .defer c) (hs : s.s.get id = some (some ob)) (ht : ob'.t = ob.t)
    (h : ∀ (K : Nat → Prop) φ (a : Act) w b (arr : Array Value), (∀ x ∈ o.op.operands, VVal K φ w (ev s.e x) (a.eval x)) → φ id = some (some b) → w.heap[b]? = some (.cells arr ob.t (0, 0)) → ob.cs.length ≤ arr.size →
      (∀ (j : Nat) (v : V), ob.cs[j]? = some v → ∃ u : Value, arr[j]? = some u ∧ u.oneCell' = true ∧ VVal K φ w v u) →
      ∃ arr' : Array Value, (execOp a.eval o).run P w = .ok .skip (w.setRow b arr') ∧ arr'.size = arr.size ∧ ob'.cs.length ≤ arr'.size ∧ ∀ (j : Nat) (v : V), ob'.cs[j]? = some v → ∃ u : Value, arr'[j]? = some u ∧ u.oneCell' = true ∧ VVal K φ w v u)
    (hnil : ob.cs ≠ []) : Ok C o s ⟨[id], [(id, some ob')], .any⟩ := by
  intro e S he hid φ a w K Q hr hK
  have hs' : S.get id = some (some ob) := by rw [← hs]; exact hid id (.inl (by simp))
  rcases hr.objs id ob hs' with ⟨_, hn⟩ | ⟨b, hb, arr, h1, h2, h3⟩
  · exact absurd hn hnil
  · obtain ⟨arr', g1, g2, g3, g4⟩ := h (C.K φ S) φ a w b arr (fun x hx => by rw [← ev_same he hx]; exact hr.ev x) hb h1 h2 h3
    refine wpIn_skip_ hnd g1 (hK φ undef _ ?_)
    rw [hd]
    exact hr.set id ob ob' hs' hb h1 (by rw [ht]; exact setRow_heap w b arr arr' ob.t (0, 0) h1) g2 ht (fun k hk => setRow_other w b k arr' hk) (by simp [World.setRow]) rfl rfl rfl g3 g4

theorem run_storeAt {t n b off : Nat} {arr : Array Value} {tt : TypeId} {w : World} {u : Value} {us : List Value} (hsz : ∃ i, P.info? t = some i ∧ i.size = n) (hu : u.cells.toList = us) (hl : us.length = n) (h1 : us.all Value.oneCell' = true)
    (hb : w.heap[b]? = some (.cells arr tt (0, 0))) (hf : off + n ≤ arr.size) :
    (Instr.storeAt t (.pointer (some ⟨b, off, none⟩)) u).run P w = .ok () (w.setRow b (arr.toList.take off ++ us ++ arr.toList.drop (off + n)).toArray) := by
  obtain ⟨i, hi, hs⟩ := hsz
  have hr := run_storeCells_at P b off tt us 0 arr w hb (by simp; omega) (fun v hv => by simpa using List.all_eq_true.1 h1 v hv)
  simp only [Nat.add_zero, hl] at hr
  have hcs : u.cells.size = n := by rw [← Array.length_toList, hu, hl]
  simp [Instr.storeAt, Instr.sureAddr, storeVar, sizeOf, typeInfo, hi, hs, hcs, hu, hr]

theorem splice_get {α : Type} (l : List α) (us : List α) (off n : Nat) (hl : us.length = n) (hf : off + n ≤ l.length) (j : Nat) :
    (l.take off ++ us ++ l.drop (off + n))[j]? = if j < off then l[j]? else if j < off + n then us[j - off]? else l[j]? := by
  by_cases h1 : j < off
  · rw [if_pos h1, List.append_assoc, List.getElem?_append_left (by simp; omega), List.getElem?_take, if_pos h1]
  · rw [if_neg h1, List.append_assoc, List.getElem?_append_right (by simp; omega)]
    have ht : (l.take off).length = off := by simp; omega
    rw [ht]
    by_cases h2 : j < off + n
    · rw [if_pos h2, List.getElem?_append_left (by omega)]
    · rw [if_neg h2, List.getElem?_append_right (by omega), List.getElem?_drop]
      congr 1
      omega

theorem ok_store_cells {t n : Nat} {x y : Operand} (ho : o.op = .store t x y) (hd : o.dst = none) {id off : Nat} {ob : Obj} {cs : List V} (hsz : ∃ i, P.info? t = some i ∧ i.size = n) (hx : ev s.e x = .ptr id off) (hs : s.s.get id = some (some ob))
    (hl : cs.length = n) (hf : off + n ≤ ob.cs.length) (hn : 0 < n)
    (hy : ∀ (K : Nat → Prop) φ w u, VVal K φ w (ev s.e y) u → ∃ us : List Value, u.cells.toList = us ∧ us.length = n ∧ us.all Value.oneCell' = true ∧ ∀ (j : Nat) (v : V) (u : Value), cs[j]? = some v → us[j]? = some u → VVal K φ w v u) :
    Ok C o s ⟨[id], [(id, some ⟨ob.t, ob.cs.take off ++ cs ++ ob.cs.drop (off + n)⟩)], .any⟩ :=
  Ok.writes hd (by simp [ho]) hs rfl (fun K φ a w b arr he hb h1 h2 h3 => by
    have g0 := he x (by simp [ho, Op.operands])
    have g1 := he y (by simp [ho, Op.operands])
    rw [hx] at g0
    obtain ⟨b', hu, hb'⟩ := g0.ptr_inv
    obtain rfl := Option.some.inj (Option.some.inj (hb.symm.trans hb'))
    obtain ⟨us, k1, k2, k3, k4⟩ := hy K φ w _ g1
    refine ⟨(arr.toList.take off ++ us ++ arr.toList.drop (off + n)).toArray, ?_, by simp; omega, by simp; omega, fun j v hj => ?_⟩
    · have := run_storeAt (P := P) hsz k1 k2 k3 h1 (off := off) (by omega)
      simp [execOp, ho, hu, this]
    · rw [splice_get _ _ _ _ hl hf] at hj
      have hg := splice_get arr.toList us off n k2 (by simp; omega) j
      rw [List.getElem?_toArray, hg]
      split at hj
      · rename_i q; rw [if_pos q]; simpa using h3 j v hj
      · rename_i q
        rw [if_neg q]
        split at hj
        · rename_i q2
          rw [if_pos q2]
          obtain ⟨u, hu2⟩ := get_of_len (xs := us) (ys := cs) (by omega) hj
          exact ⟨u, hu2, by simpa using List.all_eq_true.1 k3 u (List.mem_of_getElem? hu2), k4 _ v u hj hu2⟩
        · rename_i q2; rw [if_neg q2]; simpa using h3 j v hj)
    (fun e => by rw [e] at hf; simp at hf; omega)

theorem one_cells {K : Nat → Prop} {φ : Phi} {w : World} {v : V} {u : Value} (ho : v.one = true) (h : VVal K φ w v u) : ∃ us : List Value, u.cells.toList = us ∧ us.length = 1 ∧ us.all Value.oneCell' = true ∧ ∀ (j : Nat) (x : V) (u : Value), [v][j]? = some x → us[j]? = some u → VVal K φ w x u := by
  have h1 := V.one_cell h ho
  refine ⟨[u], by simp [cells_one h1], rfl, by simp [h1], fun j x u' hj hu => ?_⟩
  cases j with
  | zero => cases hj; cases hu; exact h
  | succ j => simp at hj
theorem agg_cells {K : Nat → Prop} {φ : Phi} {w : World} {cs : List V} {u : Value} (ho : cs.all V.one = true) (h : VVal K φ w (.agg cs) u) : ∃ us : List Value, u.cells.toList = us ∧ us.length = cs.length ∧ us.all Value.oneCell' = true ∧ ∀ (j : Nat) (x : V) (u : Value), cs[j]? = some x → us[j]? = some u → VVal K φ w x u := by
  obtain ⟨xs, rfl, hl, hx⟩ := h.agg_inv
  refine ⟨xs, by simp [Value.cells], hl, List.all_eq_true.2 fun u hu => ?_, hx⟩
  obtain ⟨j, hj⟩ := List.mem_iff_getElem?.1 hu
  obtain ⟨v, hv⟩ := get_of_len hl.symm hj
  exact V.one_cell (hx j v u hv hj) (List.all_eq_true.1 ho v (List.mem_of_getElem? hv))

theorem set_splice {α : Type} (l : List α) (off : Nat) (v : α) (h : off < l.length) : l.take off ++ [v] ++ l.drop (off + 1) = l.set off v := by
  rw [List.set_eq_take_append_cons_drop, if_pos h]; simp

theorem ok_store {t : Nat} {x y : Operand} [ht : CellT P t] (ho : o.op = .store t x y) (hd : o.dst = none) {id off : Nat} {ob : Obj} {v : V} (hx : ev s.e x = .ptr id off) (hy : ev s.e y = v) (hs : s.s.get id = some (some ob)) (hv : v.one = true) (hf : off < ob.cs.length) :
    Ok C o s ⟨[id], [(id, some ⟨ob.t, ob.cs.set off v⟩)], .any⟩ := by
  have := ok_store_cells (C := C) (cs := [v]) (n := 1) ho hd ht.fact.2 hx hs rfl (by omega) (by omega) (fun K φ w u h => by rw [hy] at h; exact one_cells hv h)
  rwa [set_splice _ _ _ hf] at this
theorem ok_store_agg {t n : Nat} {x y : Operand} [ht : AggT P t n] (ho : o.op = .store t x y) (hd : o.dst = none) {id off : Nat} {ob : Obj} {cs : List V} (hx : ev s.e x = .ptr id off) (hy : ev s.e y = .agg cs) (hs : s.s.get id = some (some ob)) (hv : cs.all V.one = true) (hl : cs.length = n) (hn : 0 < n) (hf : off + n ≤ ob.cs.length) :
    Ok C o s ⟨[id], [(id, some ⟨ob.t, ob.cs.take off ++ cs ++ ob.cs.drop (off + n)⟩)], .any⟩ :=
  ok_store_cells ho hd ht.fact.2 hx hs hl hf hn (fun K φ w u h => by rw [hy] at h; obtain ⟨us, h1, h2, h3, h4⟩ := agg_cells hv h; exact ⟨us, h1, by omega, h3, h4⟩)

/-- A new object of one's own. -/
theorem Ok.makes {id : Nat} {ob : Obj} {v : V} (hd : o.dst = some d) (hN : d < C.N) (hnd : ∀ c, o.op ≠ .defer c) (hs : s.s.get id = none)
    (h : ∀ (K : Nat → Prop) φ (a : Act) w, (∀ x ∈ o.op.operands, VVal K φ w (ev s.e x) (a.eval x)) → 
      ∃ (u : Value) (arr : Array Value), (execOp a.eval o).run P w = .ok (.value u) (w.alloc (.cells arr ob.t)) ∧ ob.cs.length ≤ arr.size ∧ (∀ (j : Nat) (v : V), ob.cs[j]? = some v → ∃ u : Value, arr[j]? = some u ∧ u.oneCell' = true ∧ VVal K φ w v u) ∧
        ∀ (K' : Nat → Prop) φ', φ' id = some (some w.heap.size) → VVal K' φ' (w.alloc (.cells arr ob.t)) v u) : Ok C o s ⟨[], [(id, some ob)], v⟩ := by
  intro e S he hid φ a w K Q hr hK
  have hs' : S.get id = none := by rw [← hs]; exact hid id (.inr (by simp))
  obtain ⟨u, arr, g1, g2, g3, g4⟩ := h (C.K φ S) φ a w (fun x hx => by rw [← ev_same he hx]; exact hr.ev x)
  have hr' := hr.alloc id hs' ob arr g2 g3
  refine wpIn_value hnd g1 ?_
  rw [hd] at hK ⊢
  exact hK _ u _ (hr'.put hN (g4 _ _ (Phi.set_same _ _ _)))

def vals (zs : List Value) : List V := zs.map fun z => .d (.val z)
theorem vals_get {K : Nat → Prop} {φ : Phi} {w : World} {zs : List Value} (hz : zs.all Value.oneCell' = true) (arr : Array Value) (harr : arr.toList = zs) : ∀ (j : Nat) (v : V), (vals zs)[j]? = some v → ∃ u : Value, arr[j]? = some u ∧ u.oneCell' = true ∧ VVal K φ w v u := by
  intro j v hj
  rw [vals, List.getElem?_map] at hj
  cases hc : zs[j]? with
  | none => rw [hc] at hj; cases hj
  | some c =>
    rw [hc] at hj
    cases hj
    exact ⟨c, by rw [← Array.getElem?_toList, harr, hc], List.all_eq_true.1 hz c (List.mem_of_getElem? hc), .d _ _ (.val c)⟩

theorem ok_alloc {t : Nat} {zs : List Value} [hz : ZeroT P t zs] (id : Nat) (ho : o.op = .alloc t) (hd : o.dst = some d) (hN : d < C.N) (hs : s.s.get id = none) : Ok C o s ⟨[], [(id, some ⟨t, vals zs⟩)], .ptr id 0⟩ :=
  Ok.makes hd hN (by simp [ho]) hs fun K φ a w he => by
    obtain ⟨i, z, h1, h2, h3, h4⟩ := hz.fact
    refine ⟨.pointer (some ⟨w.heap.size, 0, none⟩), z.cells, ?_, by simp [vals, ← h3], vals_get h4 _ h3, fun K' φ' hφ => .ptr _ _ _ hφ⟩
    simp [execOp, ho, Instr.alloc, zeroValue, typeInfo, h1, h2, newVar, newRow]
theorem ok_box {t : Nat} {x : Operand} (id : Nat) (ho : o.op = .box t x) (hd : o.dst = some d) (hN : d < C.N) (hs : s.s.get id = none) {v : V} (hx : ev s.e x = v) (hv : v.one = true) : Ok C o s ⟨[], [(id, some ⟨t, [v]⟩)], .ptr id 0⟩ :=
  Ok.makes hd hN (by simp [ho]) hs fun K φ a w he => by
    have g0 := he x (by simp [ho, Op.operands])
    rw [hx] at g0
    have h1 := V.one_cell g0 hv
    refine ⟨.pointer (some ⟨w.heap.size, 0, none⟩), #[a.eval x], ?_, by simp, fun j y hj => ?_, fun K' φ' hφ => .ptr _ _ _ hφ⟩
    · simp [execOp, ho, Instr.box, newVar, newRow, cells_one h1]
    · cases j with
      | zero => cases hj; exact ⟨_, rfl, h1, g0⟩
      | succ j => simp at hj
theorem ok_box_agg {t : Nat} {x : Operand} (id : Nat) (ho : o.op = .box t x) (hd : o.dst = some d) (hN : d < C.N) (hs : s.s.get id = none) {cs : List V} (hx : ev s.e x = .agg cs) (hv : cs.all V.one = true) : Ok C o s ⟨[], [(id, some ⟨t, cs⟩)], .ptr id 0⟩ :=
  Ok.makes hd hN (by simp [ho]) hs fun K φ a w he => by
    have g0 := he x (by simp [ho, Op.operands])
    rw [hx] at g0
    obtain ⟨us, h1, h2, h3, h4⟩ := agg_cells hv g0
    refine ⟨.pointer (some ⟨w.heap.size, 0, none⟩), (a.eval x).cells, ?_, by rw [← Array.length_toList, h1]; show cs.length ≤ _; omega, fun j y hj => ?_, fun K' φ' hφ => .ptr _ _ _ hφ⟩
    · simp [execOp, ho, Instr.box, newVar, newRow]
    · obtain ⟨u, hu⟩ := get_of_len h2 hj
      exact ⟨u, by rw [← Array.getElem?_toList, h1, hu], List.all_eq_true.1 h3 u (List.mem_of_getElem? hu), h4 j y u hj hu⟩

/-! ### make -/
theorem madeCells_get (z : Array Value) (m j : Nat) (hj : j < m) : (madeCells z m)[j]? = some (z[j % z.size]!) := by simp [madeCells, hj]
def zeros (z : Value) (n : Nat) : List V := (List.replicate n (vals z.cells.toList)).flatten
theorem ok_make {t e sz bytes : Nat} {z : Value} {x y : Operand} (id : Nat) [h : SliceT P t e sz bytes z] (ho : o.op = .makeSlice t x y) (hd : o.dst = some d) (hN : d < C.N) (hs : s.s.get id = none) (hz : z.oneCell' = true) {k : IntKind} {n : Nat} (hx : ev s.e x = V.i k n) (hy : ev s.e y = V.i k n) (hb : bytes * n ≤ 281474976710656) (hm : n ≤ maxLen) :
    Ok C o s ⟨[], [(id, some ⟨e, List.replicate n (V.d (.val z))⟩)], .acc id sz n⟩ :=
  Ok.makes hd hN (by simp [ho]) hs fun K φ a w he => by
    have g0 := he x (by simp [ho, Op.operands])
    have g1 := he y (by simp [ho, Op.operands])
    rw [hx] at g0
    rw [hy] at g1
    obtain ⟨hu, i, h1, h2, h3, h4, h5, h6⟩ := h.fact
    have hzc : z.cells = #[z] := cells_one hz
    have hs1 : sz = 1 := by rw [← h5, hzc]; rfl
    subst hs1
    have hm' : (n : Int) ≤ 9223372036854775807 := by simp only [maxLen] at hm; omega
    have hb' : (i.bytes : Int) * (n : Int) ≤ 281474976710656 := by
      have h7 : ((bytes * n : Nat) : Int) ≤ 281474976710656 := by omega
      rw [h3]
      rwa [Int.natCast_mul] at h7
    have hr := run_make (P := P) w t e i z hu h1 h4 k k n n (by omega) (Int.le_refl _) hb' hm'
    simp only [Int.toNat_natCast, h2, Nat.mul_one] at hr
    refine ⟨.slice (some ⟨w.heap.size, 0, none⟩) n n, madeCells z.cells n, ?_, ?_, fun j v hj => ?_, fun K' φ' hφ => .accRow id 1 n w.heap.size n e hφ ?_ (Nat.le_refl _) hm⟩
    · simp only [execOp, ho, g0.val_inv, g1.val_inv, Sem.run_bind, hr]; rfl
    · simp [size_madeCells]
    · rw [List.getElem?_replicate] at hj
      split at hj
      · rename_i hlt
        cases hj
        refine ⟨z, ?_, hz, .d _ _ (.val z)⟩
        rw [madeCells_get _ _ _ hlt, hzc]
        simp [Nat.mod_one]
      · cases hj
    · rw [shape_of (heap_alloc_new w _), size_madeCells, Nat.mul_one]

/-! ### append -/
/-- The cells of what is appended. -/
def Src (K : Nat → Prop) (φ : Phi) (w : World) (sz : Nat) (u : Value) (new : List V) (m : Nat) : Prop :=
  ∃ A c, ∃ us : List Value, u = .slice A m c ∧ us.length = m * sz ∧ us.length = new.length ∧ (A = none → m = 0 ∧ c = 0) ∧ (∀ ad, A = some ad → ∀ (j : Nat) (u : Value), us[j]? = some u → w.cell? (ad.add j) = some u) ∧
    us.all Value.oneCell' = true ∧ ∀ (j : Nat) (v : V) (u : Value), new[j]? = some v → us[j]? = some u → VVal K φ w v u

/-- What append comes to. -/
inductive Apd (w : World) (e sz n m : Nat) (xs us : List Value) : Value → Value → World → Prop
  | same (v : Value) (hm : m = 0) : Apd w e sz n m xs us v v w
  | room (b cap : Nat) (arr arr' : Array Value) (hb : w.heap[b]? = some (.cells arr e (0, 0))) (hn : n + m ≤ cap) (hs : arr'.size = arr.size) (ht : arr'.toList.take ((n + m) * sz) = xs ++ us) :
      Apd w e sz n m xs us (.slice (some ⟨b, 0, none⟩) n cap) (.slice (some ⟨b, 0, none⟩) (n + m) cap) (w.setRow b arr')
  | new (v : Value) (arr' : Array Value) (cap' : Nat) (hs : arr'.size = cap' * sz) (hn : n + m ≤ cap') (hc : cap' ≤ maxLen) (ht : arr'.toList.take ((n + m) * sz) = xs ++ us) :
      Apd w e sz n m xs us v (.slice (some ⟨w.heap.size, 0, none⟩) (n + m) cap') (w.drew.alloc (.cells arr' e))

theorem grown_arr {z : Value} {sz n m c : Nat} {xs us : List Value} (hz : z.cells.size = sz) (hx : xs.length = n * sz) (hu : us.length = m * sz) (hc : n + m ≤ c) :
    (xs.toArray ++ us.toArray ++ Builtin.zeroCells z.cells (c - (n + m))).size = c * sz ∧ (xs.toArray ++ us.toArray ++ Builtin.zeroCells z.cells (c - (n + m))).toList.take ((n + m) * sz) = xs ++ us := by
  constructor
  · simp only [Array.size_append, List.size_toArray, size_zeroCells, hz, hx, hu]
    rw [← Nat.add_mul, ← Nat.add_mul]
    congr 1; omega
  · have hl : (xs ++ us).length = (n + m) * sz := by rw [List.length_append, hx, hu, Nat.add_mul]
    simp only [Array.toList_append, List.append_assoc]
    rw [← List.append_assoc, ← hl]
    exact List.take_left

theorem run_append_acc {t ty e sz bytes : Nat} {z : Value} [h : SliceT P t e sz bytes z] {K : Nat → Prop} {φ : Phi} {w : World} {v u : Value} {new : List V} {n m : Nat} {xs : List Value}
    (hv : (v = .slice none 0 0 ∧ n = 0 ∧ xs = []) ∨ ∃ b cap arr, v = .slice (some ⟨b, 0, none⟩) n cap ∧ w.heap[b]? = some (.cells arr e (0, 0)) ∧ arr.size = cap * sz ∧ n ≤ cap ∧ cap ≤ maxLen ∧ xs = arr.toList.take (n * sz))
    (hsrc : Src K φ w sz u new m) (hb : (n + m) * bytes ≤ 140737488355328) (hm : n + m ≤ maxLen) :
    ∃ v' w' us, (Builtin.append_ #[t, t] ty #[v, u]).run P w = .ok v' w' ∧ Apd w e sz n m xs us v v' w' ∧ us.length = m * sz ∧
      us.length = new.length ∧ us.all Value.oneCell' = true ∧ ∀ (j : Nat) (v : V) (u : Value), new[j]? = some v → us[j]? = some u → VVal K φ w v u := by
  obtain ⟨hu, i, h1, h2, h3, h4, h5, h6⟩ := h.fact
  obtain ⟨A, c, us, rfl, k1, k2, k3, k4, k5, k6⟩ := hsrc
  have hm' : ((n + m : Nat) : Int) ≤ 9223372036854775807 := by simp only [maxLen] at hm; omega
  subst h2
  cases A with
  | none =>
    obtain ⟨rfl, rfl⟩ := k3 rfl
    have hus : us = [] := List.eq_nil_of_length_eq_zero (by simpa using k1)
    subst hus
    refine ⟨v, w, [], ?_, .same v rfl, k1, k2, rfl, k6⟩
    rcases hv with ⟨rfl, rfl, _⟩ | ⟨b, cap, arr, rfl, _, _, hn, _⟩
    · simp [Builtin.append_, run_underlying hu, sizeOf, typeInfo, h1, Builtin.lenOf, Builtin.firstCells]
    · simp [Builtin.append_, run_underlying hu, sizeOf, typeInfo, h1, Builtin.lenOf, Builtin.firstCells, hn, storeCells]
  | some ad =>
    rcases hv with ⟨rfl, rfl, rfl⟩ | ⟨b, cap, arr, rfl, q1, q2, q3, q4, rfl⟩
    · by_cases hm0 : m = 0
      · subst hm0
        have hus : us = [] := List.eq_nil_of_length_eq_zero (by simpa using k1)
        subst hus
        refine ⟨_, w, [], ?_, .same _ rfl, k1, k2, rfl, k6⟩
        simp [Builtin.append_, run_underlying hu, sizeOf, typeInfo, h1, Builtin.lenOf, Builtin.firstCells, loadCells, loadCellsFrom]
      · rw [Nat.zero_add] at hm hm' hb
        have hr := run_append_nil (P := P) w t ty e i z hu h1 h4 ad m c us k1 (k4 ad rfl) (by omega) hm' (by rw [h3]; omega)
        have hge := grownCap_ge w m 0 e
        have hg := grown_arr (z := z) (sz := i.size) (n := 0) (m := m) (c := grownCap w m 0 e) (xs := []) (us := us) h5 (by simp) k1 (by omega)
        simp only [Nat.zero_add, List.nil_append, Array.empty_append] at hg
        refine ⟨_, _, us, hr, ?_, k1, k2, k5, k6⟩
        have := Apd.new (w := w) (e := e) (sz := i.size) (n := 0) (m := m) (xs := []) (us := us) (.slice none 0 0) (us.toArray ++ Builtin.zeroCells z.cells (grownCap w m 0 e - m)) (grownCap w m 0 e) hg.1 (by omega) (grownCap_le_maxLen w m 0 e hm) (by simpa using hg.2)
        simpa using this
    · have hle : n * i.size ≤ cap * i.size := Nat.mul_le_mul_right _ q3
      have hlen : (arr.toList.take (n * i.size)).length = n * i.size := by simp; omega
      by_cases hroom : n + m ≤ cap
      · have hfit : n * i.size + us.length ≤ arr.size := by rw [k1, q2, ← Nat.add_mul]; exact Nat.mul_le_mul_right _ hroom
        have hr := run_append_room (P := P) w t ty e i hu h1 b n cap arr q1 ad m c us k1 (k4 ad rfl) (fun x hx => List.all_eq_true.1 k5 x hx) hroom hfit
        refine ⟨_, _, us, hr, .room b cap arr _ q1 hroom (by simp; omega) ?_, k1, k2, k5, k6⟩
        have hl2 : (arr.toList.take (n * i.size) ++ us).length = (n + m) * i.size := by rw [List.length_append, hlen, k1, Nat.add_mul]
        rw [← hl2]
        exact List.take_left
      · have hr := run_append_grow (P := P) w t ty e i z hu h1 h4 ⟨b, 0, none⟩ n cap (arr.toList.take (n * i.size)) hlen (fun j x hj => by
          rw [List.getElem?_take] at hj
          split at hj
          · rw [Addr.add_lit, Nat.zero_add, cell_of_row w b j arr e (0, 0) q1, ← hj, Array.getElem?_toList]
          · cases hj) ad m c us k1 (k4 ad rfl) (by omega) hm' (growslice_fits (by omega) (by rw [h3]; exact hb))
        have hge := grownCap_ge w (n + m) cap e
        have hg := grown_arr (z := z) (sz := i.size) (n := n) (m := m) (c := grownCap w (n + m) cap e) h5 hlen k1 hge
        exact ⟨_, _, us, hr, .new _ _ _ hg.1 hge (grownCap_le_maxLen w (n + m) cap e hm) hg.2, k1, k2, k5, k6⟩

theorem ok_append {t e sz bytes : Nat} {z : Value} [h : SliceT P t e sz bytes z] {x y : Operand} {id : Nat} (id' : Nat) {n m : Nat} {ob : Obj} {new : List V} (mr : List Nat)
    (ho : o.op = .call { callee := .builtin .append, args := #[x, y], argTypes := #[t, t] }) (hd : o.dst = some d) (hN : d < C.N) (hx : ev s.e x = .acc id sz n) (hs : s.s.get id = some (some ob)) (hot : ob.t = e) (hs' : s.s.get id' = none)
    (hl : ob.cs.length = n * sz) (hb : (n + m) * bytes ≤ 140737488355328) (hm : n + m ≤ maxLen)
    (hsrc : ∀ (K : Nat → Prop) φ w u, VVal K φ w (ev s.e y) u → (∀ i ∈ mr, ∀ ob, s.s.get i = some (some ob) → (φ i = some none ∧ ob.cs = []) ∨ ∃ b, φ i = some (some b) ∧ ObjAt K φ w ob b) → Src K φ w sz u new m) :
    Ok C o s ⟨mr, [(id, none), (id', some ⟨e, ob.cs ++ new⟩)], .acc id' sz (n + m)⟩ := by
  intro E S he hid φ a w K Q hr hK
  have hx' : ev E x = .acc id sz n := by rw [ev_same he (by simp [ho, Op.operands, Call.operands]), hx]
  have hS : S.get id = some (some ob) := by rw [← hs]; exact hid id (.inr (by simp))
  have hS' : S.get id' = none := by rw [← hs']; exact hid id' (.inr (by simp))
  have g0 := hr.ev x
  have hsrc := hsrc (C.K φ S) φ w _ (by rw [← ev_same he (by simp [ho, Op.operands, Call.operands])]; exact hr.ev y) (fun i hi ob hob => hr.objs i ob (by rw [← hob]; exact hid i (.inl hi)))
  simp only [hx'] at g0
  subst hot
  obtain ⟨xs, bo, hv, hφ, hbo, hxl, hxs⟩ : ∃ xs bo, ((a.eval x = .slice none 0 0 ∧ n = 0 ∧ xs = []) ∨ ∃ b cap arr, a.eval x = .slice (some ⟨b, 0, none⟩) n cap ∧ w.heap[b]? = some (.cells arr ob.t (0, 0)) ∧ arr.size = cap * sz ∧ n ≤ cap ∧ cap ≤ maxLen ∧ xs = arr.toList.take (n * sz)) ∧
      φ id = some bo ∧ (a.eval x).ownBlock = bo ∧ xs.length = ob.cs.length ∧ ∀ (j : Nat) (v : V), ob.cs[j]? = some v → ∃ u : Value, xs[j]? = some u ∧ u.oneCell' = true ∧ VVal (C.K φ S) φ w v u := by
    rcases g0.acc_inv with ⟨hu, rfl, hφ⟩ | ⟨b, cap, t', hu, hφ, hsh, hn, hc⟩
    · refine ⟨[], none, .inl ⟨hu, rfl, rfl⟩, hφ, by rw [hu]; rfl, by simp [hl], fun j v hj => ?_⟩
      have : ob.cs = [] := List.eq_nil_of_length_eq_zero (by simpa using hl)
      rw [this] at hj; simp at hj
    · rcases hr.objs id ob hS with ⟨h1, _⟩ | ⟨b', hb', arr, k1, k2, k3⟩
      · rw [hφ] at h1; cases h1
      · obtain rfl := Option.some.inj (Option.some.inj (hφ.symm.trans hb'))
        rw [shape_of k1] at hsh
        have hsz : arr.size = cap * sz := (Prod.mk.inj (Option.some.inj hsh)).2
        refine ⟨arr.toList.take (n * sz), some b, .inr ⟨b, cap, arr, hu, k1, hsz, hn, hc, rfl⟩, hφ, by rw [hu]; rfl, by simp; omega, fun j v hj => ?_⟩
        obtain ⟨u, q1, q2, q3⟩ := k3 j v hj
        have hlt := (List.getElem?_eq_some_iff.1 hj).1
        exact ⟨u, by rw [List.getElem?_take, if_pos (by omega), Array.getElem?_toList, q1], q2, q3⟩
  obtain ⟨v', w', us, g1, g2, g5, g6, g7, g8⟩ := run_append_acc (P := P) (t := t) (ty := o.type) hv hsrc hb hm
  have hcells : ∀ (arr' : Array Value), arr'.toList.take ((n + m) * sz) = xs ++ us → ob.cs.length + new.length ≤ arr'.size ∧ ∀ (j : Nat) (v : V), (ob.cs ++ new)[j]? = some v → ∃ u : Value, arr'[j]? = some u ∧ u.oneCell' = true ∧ VVal (C.K φ S) φ w v u := fun arr' ht => by
    have hl1 : (xs ++ us).length ≤ arr'.size := by rw [← ht]; simp; omega
    refine ⟨by simp [hxl, g6] at hl1; omega, fun j v hj => ?_⟩
    have key : ∀ u, (xs ++ us)[j]? = some u → arr'[j]? = some u := fun u hu => by
      rw [← ht, List.getElem?_take] at hu
      split at hu
      · simpa using hu
      · cases hu
    by_cases hjx : j < xs.length
    · rw [List.getElem?_append_left (by omega)] at hj
      obtain ⟨u, q1, q2, q3⟩ := hxs j v hj
      exact ⟨u, key u (by rw [List.getElem?_append_left hjx]; exact q1), q2, q3⟩
    · rw [List.getElem?_append_right (by omega)] at hj
      obtain ⟨u, hu⟩ := get_of_len g6 hj
      refine ⟨u, key u (by rw [List.getElem?_append_right (by omega), hxl]; exact hu), List.all_eq_true.1 g7 u (List.mem_of_getElem? hu), g8 _ v u hj hu⟩
  have hrun : (execOp a.eval o).run P w = .ok (.value v') w' := by
    simp only [execOp, ho, resolve, invoke, Go.builtin, Sem.run_bind, Sem.run_pure, Result.andThen_ok, List.map_toArray, List.map_cons, List.map_nil, g1]
  refine wpIn_value (by simp [ho]) hrun ?_
  rw [hd] at hK ⊢
  clear hrun g1 hsrc g0
  generalize a.eval x = vx at *
  have hacc : ∀ (Kx : Nat → Prop) (φx : Phi), φx id' = some v'.ownBlock → VVal Kx φx w' (.acc id' sz (n + m)) v' := fun Kx φx hφx => by
    cases g2 with
    | same v hm0 =>
      subst hm0
      rcases hv with ⟨hu, rfl, _⟩ | ⟨b, cap, arr, hu, q1, q2, q3, q4, _⟩
      · rw [hu] at hφx ⊢; exact .accNil _ _ hφx
      · rw [hu] at hφx ⊢; exact .accRow _ _ _ b cap _ hφx (by rw [shape_of q1, q2]) q3 q4
    | room b cap arr arr' q1 q2 q3 q4 =>
      rcases hv with ⟨hu, _⟩ | ⟨b2, cap2, arr2, hu, r1, r2, r3, r4, _⟩
      · cases hu
      · cases hu
        rw [q1] at r1
        cases r1
        exact .accRow _ _ _ b cap ob.t hφx (by rw [shape_of (setRow_heap w b arr arr' ob.t (0, 0) q1), q3, r2]) q2 r4
    | new v arr' cap' q1 q2 q3 q4 => exact .accRow _ _ _ w.heap.size cap' ob.t hφx ((shape_of (b := w.heap.size) (heap_alloc_new w.drew _)).trans (by rw [q1])) q2 q3
  have hrel := hr.replace id ob ⟨ob.t, ob.cs ++ new⟩ hS id' hS' (x := bo) (x' := v'.ownBlock) (w' := w') hφ
    (by
      rw [← hbo]
      cases g2 with
      | same v hm0 => exact World.grownBy.refl _ _
      | room b cap arr arr' q1 q2 q3 q4 => exact ⟨rfl, rfl, rfl, by simp [World.setRow], fun k _ hk => setRow_other w b k arr' (fun e => hk (by simp [Value.ownBlock, e]))⟩
      | new v arr' cap' q1 q2 q3 q4 => exact ⟨rfl, rfl, rfl, by simp, fun k hk _ => Below.heap_alloc w.drew _ k hk⟩)
    (by
      rw [← hbo]
      cases g2 with
      | same v hm0 => exact .inl rfl
      | room b cap arr arr' q1 q2 q3 q4 => exact .inl rfl
      | new v arr' cap' q1 q2 q3 q4 => exact .inr rfl)
    (fun b hb tt mm hsh => by
      rw [← hbo] at hb
      cases g2 with
      | same v hm0 => exact hsh
      | room b' cap arr arr' q1 q2 q3 q4 =>
        obtain rfl := Option.some.inj hb
        rw [shape_of q1] at hsh
        rw [shape_of (setRow_heap w _ arr arr' ob.t (0, 0) q1), q3]; exact hsh
      | new v arr' cap' q1 q2 q3 q4 =>
        have hlt : b < w.heap.size := by
          simp only [World.shape?] at hsh
          split at hsh
          · rename_i heq; exact (Array.getElem?_eq_some_iff.1 heq).1
          · cases hsh
        have e : (w.drew.alloc (.cells arr' ob.t)).heap[b]? = w.heap[b]? := Below.heap_alloc w.drew _ b hlt
        simpa only [World.shape?, e] using hsh)
    (fun b hb => by
      cases g2 with
      | same v hm0 => exact hr.lt id b (by rw [hφ, ← hbo, hb])
      | room b' cap arr arr' q1 q2 q3 q4 =>
        cases hb
        have := (Array.getElem?_eq_some_iff.1 q1).1
        simpa [World.setRow] using this
      | new v arr' cap' q1 q2 q3 q4 => cases hb; simp)
    (fun hn => by
      cases g2 with
      | same v hm0 =>
        subst hm0
        rcases hv with ⟨hu, rfl, rfl⟩ | ⟨b, cap, arr, hu, _⟩
        · have h1 : ob.cs = [] := List.eq_nil_of_length_eq_zero (by simpa using hxl.symm)
          have h2 : new = [] := List.eq_nil_of_length_eq_zero (by simp at g5; subst g5; simpa using g6.symm)
          simp [h1, h2]
        · subst hu; cases hn
      | room b' cap arr arr' q1 q2 q3 q4 => cases hn
      | new v arr' cap' q1 q2 q3 q4 => cases hn)
    (fun b hb => by
      cases g2 with
      | same v hm0 =>
        subst hm0
        rcases hv with ⟨hu, rfl, rfl⟩ | ⟨b2, cap, arr, hu, q1, q2, q3, q4, rfl⟩
        · subst hu; cases hb
        · subst hu
          cases hb
          have h2 : us = [] := List.eq_nil_of_length_eq_zero (by simpa using g5)
          have := hcells arr (by rw [h2]; simp)
          exact ⟨arr, q1, by simpa using this.1, this.2⟩
      | room b' cap arr arr' q1 q2 q3 q4 =>
        obtain rfl := Option.some.inj hb
        have := hcells arr' q4
        exact ⟨arr', setRow_heap w _ arr arr' ob.t (0, 0) q1, by simpa using this.1, this.2⟩
      | new v arr' cap' q1 q2 q3 q4 =>
        cases hb
        have := hcells arr' q4
        exact ⟨arr', heap_alloc_new w.drew _, by simpa using this.1, this.2⟩)
  exact hK _ v' w' (hrel.put hN (hacc _ _ (Phi.set_same _ _ _)))

end ops

end Go.Proofs.Ytjofdfiljokfoaa.TL
