/- A small logic for Go functions over the model: literals of slices; what is appended; slicing. -/
import Derived.Test.YtjofdfiljokfoaaTL6
namespace Go.Proofs.Ytjofdfiljokfoaa.TL
open Go Go.RowKit
set_option linter.unusedVariables false
set_option linter.unusedSimpArgs false

section ops
variable {P : Program} {C : Ctx P} {o : Oper} {s : St} {d : Nat}

/-- A new deep value. -/
theorem Ok.lays {v : D} (hd : o.dst = some d) (hN : d < C.N) (hnd : ∀ c, o.op ≠ .defer c)
    (h : ∀ (K : Nat → Prop) φ (a : Act) w, (∀ b, K b → b < w.heap.size) → (∀ x ∈ o.op.operands, VVal K φ w (ev s.e x) (a.eval x)) → 
      ∃ (u : Value) (w' : World), (execOp a.eval o).run P w = .ok (.value u) w' ∧ Below w.heap.size w w' ∧ DVal K w' v u) : Ok C o s ⟨[], [], .d v⟩ := by
  intro e S he _ φ a w K Q hr hK
  obtain ⟨u, w', g1, g2, g3⟩ := h (C.K φ S) φ a w hr.Klt (fun x hx => by rw [← ev_same he hx]; exact hr.ev x)
  refine wpIn_value hnd g1 ?_
  rw [hd] at hK ⊢
  exact hK _ u _ ((hr.below g2).put hN (.d _ _ g3))

theorem fill_cells : ∀ (us : List Value) (k : Nat) (cells : Array Value), (∀ u ∈ us, u.oneCell' = true) → k + us.length ≤ cells.size →
    Instr.fill (fun i => some (i * 1, 1)) cells ((us.zipIdx k).map fun p => (p.2, p.1)) = some (cells.toList.take k ++ us ++ cells.toList.drop (k + us.length)).toArray
  | [], k, cells, _, _ => by simp [Instr.fill]
  | u :: us, k, cells, h1, hl => by
    have hu := cells_one (h1 u (by simp))
    have hk : k < cells.size := by simp at hl; omega
    simp only [List.zipIdx_cons, List.map_cons, Instr.fill, hu]
    rw [Nat.mul_one, if_neg (by simp; omega)]
    have e : (#[u].zipIdx.foldl (fun cs (c, j) => cs.setIfInBounds (k + j) c) cells) = cells.setIfInBounds k u := by simp [Array.zipIdx]
    rw [e, fill_cells us (k + 1) (cells.setIfInBounds k u) (fun x hx => h1 x (by simp [hx])) (by simp at hl ⊢; omega)]
    congr 2
    apply List.ext_getElem?
    intro j
    have hsz : (cells.setIfInBounds k u).size = cells.size := by simp
    have hL := splice_get (cells.setIfInBounds k u).toList us (k + 1) us.length rfl (by simp at hl ⊢; omega) j
    have hR := splice_get cells.toList (u :: us) k (us.length + 1) rfl (by simp at hl ⊢; omega) j
    rw [hL, List.length_cons, hR]
    by_cases q1 : j < k
    · rw [if_pos (by omega), if_pos q1]; simp [List.getElem?_set_ne (show k ≠ j by omega)]
    · by_cases q2 : j = k
      · subst q2; rw [if_pos (by omega), if_neg (by omega), if_pos (by omega)]; simp [hk]
      · rw [if_neg (by omega), if_neg q1]
        by_cases q3 : j < k + 1 + us.length
        · rw [if_pos q3, if_pos (by omega), show j - k = (j - (k + 1)) + 1 by omega]; simp
        · rw [if_neg q3, if_neg (by omega)]; simp [List.getElem?_set_ne (show k ≠ j by omega)]

theorem zeros_arr (z : Array Value) (n : Nat) : ((Array.range n).map fun i => z[i % z.size]!).size = n := by simp

/-- 'buildSlice' of cells: a deep list. -/
theorem ok_buildSlice {t e bytes n : Nat} {z : Value} {parts : Array (Nat × Operand)} [h : SliceT P t e 1 bytes z] (ho : o.op = .buildSlice t n parts) (hd : o.dst = some d) (hN : d < C.N) (xs : List Operand) (ds : List D) (hp : parts = ((xs.zipIdx 0).map fun p => (p.2, p.1)).toArray) (hn : xs.length = n) (hn0 : n ≤ 1000)
    (hev : xs.map (ev s.e) = ds.map V.d) (h1 : ∀ x ∈ ds, (V.d x).one = true) : Ok C o s ⟨[], [], V.list 1 (ds.map fun x => [x])⟩ :=
  Ok.lays hd hN (by simp [ho]) fun K φ a w hKw he => by
    obtain ⟨hu, i, g1, g2, g3, g4, g5, g6⟩ := h.fact
    have hlen : ds.length = n := by have := congrArg List.length hev; simp at this; omega
    have hops : ∀ x ∈ xs, x ∈ o.op.operands := fun x hx => by
      rw [ho, hp]
      simp only [Op.operands, List.toList_toArray, List.mem_toArray, List.map_map, List.mem_map]
      obtain ⟨j, hj⟩ := List.mem_iff_getElem?.1 hx
      exact ⟨(x, j), by rw [List.mem_zipIdx_iff_getElem?]; simpa using hj, rfl⟩
    have hval : ∀ (j : Nat) (x : D) (u : Value), ds[j]? = some x → (xs.map a.eval)[j]? = some u → DVal K w x u := fun j x u hj hu => by
      rw [List.getElem?_map] at hu
      cases hx : xs[j]? with
      | none => rw [hx] at hu; cases hu
      | some y =>
        rw [hx] at hu; cases hu
        have hy := he y (hops y (List.mem_of_getElem? hx))
        have e1 : (xs.map (ev s.e))[j]? = some (ev s.e y) := by rw [List.getElem?_map, hx]; rfl
        rw [hev, List.getElem?_map, hj] at e1
        have e1 := Option.some.inj e1
        rw [← e1] at hy
        exact hy.d_inv
    have hone : ∀ u ∈ xs.map a.eval, u.oneCell' = true := fun u hu => by
      obtain ⟨j, hj⟩ := List.mem_iff_getElem?.1 hu
      obtain ⟨x, hx⟩ := get_of_len (xs := ds) (ys := xs.map a.eval) (by simp; omega) hj
      exact V.one_cell (φ := φ) (.d _ _ (hval j x u hx hj)) (h1 x (List.mem_of_getElem? hx))
    have hpm : (parts.map fun p => (p.1, a.eval p.2)).toList = ((xs.map a.eval).zipIdx 0).map fun p => (p.2, p.1) := by
      rw [hp]
      simp only [Array.toList_map, List.toList_toArray, List.map_map, List.zipIdx_map]
      rfl
    have hz1 : z.cells.size = 1 := g5
    refine ⟨.slice (some ⟨w.heap.size, 0, none⟩) n n, w.alloc (.cells (xs.map a.eval).toArray e), ?_, (Below.refl _ w).alloc (Nat.le_refl _) _, ?_⟩
    · by_cases hn1 : n = 0
      · subst hn1
        have hx : xs = [] := List.eq_nil_of_length_eq_zero hn
        subst hx
        simp [execOp, ho, Instr.buildSlice, run_underlying hu, sizeOf, typeInfo, g1, hpm, hp, Instr.fill, newRow, Array.range_zero']
      · have hf := fill_cells (xs.map a.eval) 0 ((Array.range (n * 1)).map fun i => z.cells[i % z.cells.size]!) hone (by simp; omega)
        have hf2 : Instr.fill (fun i => some (i * 1, 1)) ((Array.range (n * 1)).map fun i => z.cells[i % z.cells.size]!) (parts.map fun p => (p.1, a.eval p.2)).toList = some (xs.map a.eval).toArray := by
          rw [hpm, hf]
          simp [hn]
        have hbig : ¬ (16777216 < n) := by omega
        have hfn : (fun i => some (i * 1, 1) : Nat → Option (Nat × Nat)) = fun i => some (i, 1) := by funext i; simp
        rw [hfn, Nat.mul_one, Array.toList_map] at hf2
        simp [execOp, ho, Instr.buildSlice, run_underlying hu, sizeOf, typeInfo, zeroValue, g1, g2, g4, hbig, hn1, newRow, hf2]
    · have key := DVal.list (K := K) (w := w.alloc (.cells (xs.map a.eval).toArray e)) 1 (ds.map fun x => [x]) (some ⟨w.heap.size, 0, none⟩) n ((xs.map a.eval).map fun u => [u]) (by simp; omega) (by simp; omega) (fun h => by cases h)
        (fun _ => ⟨w.heap.size, 0, rfl, fun hk => by have := hKw _ hk; omega, by simp, fun i ve hi j u hj => ?_⟩) (fun i e' ve hi hv => ?_) (fun i e' ve hi hv j x u hj hu => ?_)
      · simpa [hlen] using key
      · rw [List.getElem?_map] at hi
        cases hx : (xs.map a.eval)[i]? with
        | none => rw [hx] at hi; cases hi
        | some y =>
          rw [hx] at hi; cases hi
          cases j with
          | zero =>
            cases hj
            rw [cell_of_row _ _ _ _ _ _ (heap_alloc_new w _)]
            simpa using hx
          | succ j => simp at hj
      · rw [List.getElem?_map] at hi hv
        cases hx : ds[i]? with
        | none => rw [hx] at hi; cases hi
        | some y =>
          cases hx' : (xs.map a.eval)[i]? with
          | none => rw [hx'] at hv; cases hv
          | some y' => rw [hx] at hi; rw [hx'] at hv; cases hi; cases hv; exact ⟨rfl, rfl⟩
      · rw [List.getElem?_map] at hi hv
        cases hx : ds[i]? with
        | none => rw [hx] at hi; cases hi
        | some y =>
          cases hx' : (xs.map a.eval)[i]? with
          | none => rw [hx'] at hv; cases hv
          | some y' =>
            rw [hx] at hi; rw [hx'] at hv; cases hi; cases hv
            cases j with
            | zero =>
              cases hj; cases hu
              exact (hval i x u hx hx').still ⟨by simp, fun b _ hb => Below.heap_alloc w _ b hb, fun _ hb _ => hb, fun b t m hm => by
                have hlt : b < w.heap.size := by
                  simp only [World.shape?] at hm
                  split at hm
                  · rename_i heq; exact (Array.getElem?_eq_some_iff.1 heq).1
                  · cases hm
                simpa only [World.shape?, Below.heap_alloc w _ b hlt] using hm⟩
            | succ j => simp at hj

theorem src_list {K : Nat → Prop} {φ : Phi} {w : World} {sz : Nat} {es : List (List D)} {u : Value} (h : VVal K φ w (V.list sz es) u) (h1 : ∀ e ∈ es, ∀ x ∈ e, (V.d x).one = true) : Src K φ w sz u (es.flatten.map V.d) es.length := by
  obtain ⟨A, cap, xs, rfl, hl, hc, hN, hA, hs, hx⟩ := h.d_inv.list_inv
  have hse : ∀ e ∈ es, e.length = sz := fun e he => by
    obtain ⟨i, hi⟩ := List.mem_iff_getElem?.1 he
    obtain ⟨v, hv⟩ := get_of_len hl hi
    exact (hs i e v hi hv).1
  have hsx : ∀ e ∈ xs, e.length = sz := fun e he => by
    obtain ⟨i, hi⟩ := List.mem_iff_getElem?.1 he
    obtain ⟨v, hv⟩ := get_of_len hl.symm hi
    exact (hs i v e hv hi).2
  have hfx := flatten_length hsx
  have hfe := flatten_length hse
  have split : ∀ (j : Nat) (u : Value), xs.flatten[j]? = some u → 0 < sz ∧ ∃ ve, xs[j / sz]? = some ve ∧ ve[j % sz]? = some u := fun j u hj => by
    have hlt := (List.getElem?_eq_some_iff.1 hj).1
    rw [hfx] at hlt
    have hz : 0 < sz := Nat.pos_of_ne_zero fun e => by subst e; simp at hlt
    have hq : j / sz < xs.length := Nat.div_lt_of_lt_mul (by rw [Nat.mul_comm]; exact hlt)
    have hm : j % sz < sz := Nat.mod_lt _ hz
    have he := hsx xs[j / sz] (List.getElem_mem hq)
    refine ⟨hz, xs[j / sz], List.getElem?_eq_getElem hq, ?_⟩
    have := chunks_get hsx (j / sz) _ (List.getElem?_eq_getElem hq) (j % sz) _ (List.getElem?_eq_getElem (by omega))
    rw [show j / sz * sz + j % sz = j by rw [Nat.mul_comm]; exact Nat.div_add_mod j sz] at this
    rw [List.getElem?_eq_getElem (by omega), ← this, hj]
  have hfm : (es.flatten.map V.d).length = es.length * sz := by rw [List.length_map, hfe]
  refine ⟨A, cap, xs.flatten, rfl, by rw [hfx, hl], by rw [hfx, hfm, hl], fun hn => ?_, fun ad had j u hj => ?_, List.all_eq_true.2 fun u hu => ?_, fun j v u hj hu => ?_⟩
  · have := hN hn
    exact ⟨by omega, this⟩
  · obtain ⟨hz, ve, k1, k2⟩ := split j u hj
    obtain ⟨b, o, hA', _, _, hcell⟩ := hA (fun e => by subst e; rw [List.eq_nil_of_length_eq_zero hl] at k1; simp at k1)
    rw [hA'] at had
    cases had
    have := hcell _ ve k1 _ u k2
    rw [Addr.add_lit, ← this]
    congr 2
    have h3 := Nat.div_add_mod j sz
    rw [Nat.mul_comm] at h3
    omega
  · obtain ⟨j, hj⟩ := List.mem_iff_getElem?.1 hu
    obtain ⟨hz, ve, k1, k2⟩ := split j u hj
    obtain ⟨e, he⟩ := get_of_len hl.symm k1
    obtain ⟨s1, s2⟩ := hs _ e ve he k1
    obtain ⟨x, hx'⟩ := get_of_len (show e.length = ve.length by omega) k2
    exact V.one_cell (φ := φ) (.d _ _ (hx _ e ve he k1 _ x u hx' k2)) (h1 e (List.mem_of_getElem? he) x (List.mem_of_getElem? hx'))
  · obtain ⟨hz, ve, k1, k2⟩ := split j u hu
    obtain ⟨e, he⟩ := get_of_len hl.symm k1
    obtain ⟨s1, s2⟩ := hs _ e ve he k1
    obtain ⟨x, hx'⟩ := get_of_len (show e.length = ve.length by omega) k2
    have := chunks_get hse _ e he _ x hx'
    rw [show j / sz * sz + j % sz = j by rw [Nat.mul_comm]; exact Nat.div_add_mod j sz] at this
    rw [List.getElem?_map, this] at hj
    cases hj
    exact .d _ _ (hx _ e ve he k1 _ x u hx' k2)
theorem src_acc {K : Nat → Prop} {φ : Phi} {w : World} {id sz m : Nat} {ob : Obj} {u : Value} (h : VVal K φ w (.acc id sz m) u) (hl : ob.cs.length = m * sz) (hob : (φ id = some none ∧ ob.cs = []) ∨ ∃ b, φ id = some (some b) ∧ ObjAt K φ w ob b) : Src K φ w sz u ob.cs m := by
  rcases h.acc_inv with ⟨rfl, rfl, _⟩ | ⟨b, cap, t', rfl, hφ, hsh, hn, hc⟩
  · have h0 : ob.cs = [] := List.eq_nil_of_length_eq_zero (by simpa using hl)
    exact ⟨none, 0, [], rfl, by simp, by simp [h0], (fun _ => ⟨rfl, rfl⟩), (fun ad h => by cases h), rfl, (fun j v u hj hu => by simp at hu)⟩
  · rcases hob with ⟨h1, _⟩ | ⟨b', h1, arr, k1, k2, k3⟩
    · rw [hφ] at h1; cases h1
    · obtain rfl := Option.some.inj (Option.some.inj (hφ.symm.trans h1))
      have hlen : (arr.toList.take (m * sz)).length = m * sz := by simp; omega
      refine ⟨some ⟨b, 0, none⟩, cap, arr.toList.take (m * sz), rfl, hlen, by omega, (fun h => by cases h), fun ad had j u hj => ?_, List.all_eq_true.2 fun u hu => ?_, fun j v u hj hu => ?_⟩
      · cases had
        rw [List.getElem?_take] at hj
        split at hj
        · rw [Addr.add_lit, Nat.zero_add, cell_of_row w b j arr ob.t (0, 0) k1, ← hj, Array.getElem?_toList]
        · cases hj
      · obtain ⟨j, hj⟩ := List.mem_iff_getElem?.1 hu
        have hlt := (List.getElem?_eq_some_iff.1 hj).1
        rw [List.getElem?_take, if_pos (by omega), Array.getElem?_toList] at hj
        obtain ⟨v, hv⟩ := get_of_len (xs := ob.cs) (ys := arr.toList.take (m * sz)) (by omega) (j := j) (y := u) (by rw [List.getElem?_take, if_pos (by omega), Array.getElem?_toList, hj])
        obtain ⟨u', q1, q2, _⟩ := k3 j v hv
        rw [hj] at q1; cases q1; exact q2
      · have hlt := (List.getElem?_eq_some_iff.1 hu).1
        rw [List.getElem?_take, if_pos (by omega), Array.getElem?_toList] at hu
        obtain ⟨u', q1, _, q3⟩ := k3 j v hj
        rw [hu] at q1; cases q1; exact q3

/-- A deep list put behind one's own row. -/
theorem ok_append_list {t e sz bytes : Nat} {z : Value} [h : SliceT P t e sz bytes z] {x y : Operand} {id : Nat} (id' : Nat) {n : Nat} {ob : Obj} {es : List (List D)}
    (ho : o.op = .call { callee := .builtin .append, args := #[x, y], argTypes := #[t, t] }) (hd : o.dst = some d) (hN : d < C.N) (hx : ev s.e x = .acc id sz n) (hy : ev s.e y = V.list sz es) (hs : s.s.get id = some (some ob)) (hot : ob.t = e) (hs' : s.s.get id' = none)
    (hl : ob.cs.length = n * sz) (hb : (n + es.length) * bytes ≤ 140737488355328) (hm : n + es.length ≤ maxLen) (h1 : ∀ e ∈ es, ∀ x ∈ e, (V.d x).one = true) :
    Ok C o s ⟨[], [(id, none), (id', some ⟨e, ob.cs ++ es.flatten.map V.d⟩)], .acc id' sz (n + es.length)⟩ :=
  ok_append id' [] ho hd hN hx hs hot hs' hl hb hm fun K φ w u hu _ => by rw [hy] at hu; exact src_list hu h1

/-! ### Slicing -/
theorem DVal.slice {K : Nat → Prop} {w : World} {sz : Nat} {es : List (List D)} {A : Option Addr} {n cap l hh : Nat} (h : DVal K w (.list sz es) (.slice A n cap)) (hl : l ≤ hh) (hh' : hh ≤ es.length) :
    DVal K w (.list sz ((es.take hh).drop l)) (.slice (if cap = l then A else A.map (·.add (l * sz))) (hh - l) (cap - l)) := by
  obtain ⟨A', cap', xs, hau, hxl, hc, hN', hA, hs, hv⟩ := h.list_inv
  cases hau
  have hlen : ((es.take hh).drop l).length = hh - l := by simp; omega
  have get : ∀ {α : Type} (ys : List α) (i : Nat) (y : α), ((ys.take hh).drop l)[i]? = some y → ys[l + i]? = some y := fun ys i y hy => by
    rw [List.getElem?_drop, List.getElem?_take] at hy
    split at hy
    · exact hy
    · cases hy
  have key := DVal.list (K := K) (w := w) sz ((es.take hh).drop l) (if cap = l then A else A.map (·.add (l * sz))) (cap - l) ((xs.take hh).drop l) (by simp [hxl]) (by omega) (fun hn => ?_) (fun hne => ?_) (fun i e ve hi hv' => hs _ e ve (get es i e hi) (get xs i ve hv')) (fun i e ve hi hv' => hv _ e ve (get es i e hi) (get xs i ve hv'))
  · rw [hlen] at key; exact key
  · split at hn
    · omega
    · cases A with
      | none => have := hN' rfl; omega
      | some ad => cases hn
  · obtain ⟨b, of, rfl, q2, q3, q4⟩ := hA (fun e => hne (by simp [e]))
    have hlt : l < hh := by
      rcases Nat.lt_or_ge l hh with h | h
      · exact h
      · exact absurd (List.eq_nil_of_length_eq_zero (by omega)) hne
    rw [if_neg (by omega)]
    refine ⟨b, of + l * sz, by simp [Addr.add_lit], q2, q3, fun i ve hi j u hj => ?_⟩
    have := q4 _ ve (get xs i ve hi) j u hj
    rw [Nat.add_mul] at this
    rw [show of + l * sz + i * sz + j = of + (l * sz + i * sz) + j by omega]
    exact this

theorem SliceT.elem {t e sz bytes : Nat} {z : Value} [h : SliceT P t e sz bytes z] : P.underlying t = some (.slice (P.elem t)) ∧ ∀ w, (sizeOf (P.elem t)).run P w = .ok sz w := by
  obtain ⟨hu, ii, k1, k2, _⟩ := h.fact
  have he' : P.elem t = e := by simp [Program.elem, hu]
  exact ⟨by rw [he', hu], fun w => by simp [he', sizeOf, typeInfo, k1, k2]⟩

theorem ok_slice_h {t e sz bytes : Nat} {z : Value} {x y : Operand} [h : SliceT P t e sz bytes z] (ho : o.op = .slice t x none (some y) none) (hd : o.dst = some d) (hN : d < C.N) {es : List (List D)} {k : IntKind} {i : Int} (hx : ev s.e x = V.list sz es) (hy : ev s.e y = V.i k i) (h0 : 0 ≤ i) (h1 : i ≤ es.length) : Ok C o s ⟨[], [], V.list sz (es.take i.toNat)⟩ :=
  Ok.pure hd hN (by simp [ho]) fun K φ a w he => by
    have g0 := he x (by simp [ho, Op.operands])
    have g1 := he y (by simp [ho, Op.operands])
    rw [hx] at g0
    rw [hy] at g1
    obtain ⟨ht, hz⟩ := SliceT.elem (P := P) (t := t)
    obtain ⟨A, cap, xs, hau, _, hc, _⟩ := g0.d_inv.list_inv
    rw [hau] at g0
    have key := g0.d_inv.slice (l := 0) (hh := i.toNat) (Nat.zero_le _) (by omega)
    refine ⟨_, ?_, .d _ _ (by simpa using key)⟩
    simp only [execOp, ho, hau, g1.val_inv, Option.map_some, Option.map_none, Sem.run_bind, run_sliceAt_slice _ _ _ _ _ _ ht, run_slice_h _ _ _ _ _ ht k i h0 (show i ≤ (cap : Int) by omega), hz, Result.andThen, sliced]
    simp
theorem ok_slice_l {t e sz bytes : Nat} {z : Value} {x y : Operand} [h : SliceT P t e sz bytes z] (ho : o.op = .slice t x (some y) none none) (hd : o.dst = some d) (hN : d < C.N) {es : List (List D)} {k : IntKind} {i : Int} (hx : ev s.e x = V.list sz es) (hy : ev s.e y = V.i k i) (h0 : 0 ≤ i) (h1 : i ≤ es.length) : Ok C o s ⟨[], [], V.list sz (es.drop i.toNat)⟩ :=
  Ok.pure hd hN (by simp [ho]) fun K φ a w he => by
    have g0 := he x (by simp [ho, Op.operands])
    have g1 := he y (by simp [ho, Op.operands])
    rw [hx] at g0
    rw [hy] at g1
    obtain ⟨ht, hz⟩ := SliceT.elem (P := P) (t := t)
    obtain ⟨A, cap, xs, hau, _, hc, _⟩ := g0.d_inv.list_inv
    rw [hau] at g0
    have key := g0.d_inv.slice (l := i.toNat) (hh := es.length) (by omega) (Nat.le_refl _)
    refine ⟨_, ?_, .d _ _ (by simpa using key)⟩
    simp only [execOp, ho, hau, g1.val_inv, Option.map_some, Option.map_none, Sem.run_bind, run_sliceAt_slice _ _ _ _ _ _ ht, run_slice_l _ _ _ _ _ ht k i h0 h1, hz, Result.andThen, sliced]
    rfl
end ops

end Go.Proofs.Ytjofdfiljokfoaa.TL
