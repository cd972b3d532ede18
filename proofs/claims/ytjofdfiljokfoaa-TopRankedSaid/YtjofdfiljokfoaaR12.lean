/- The statement TopRankedSaid, proved: for whatever number and lists the law returns true, and its arguments read as they did. The conditions are the row's own: none is added. -/
import Derived.Test.YtjofdfiljokfoaaR11
import Derived.Test.YtjofdfiljokfoaaRows
import Derived.ProofKit
import Derived.Deep.Matrix
import Derived.Carry
namespace Go.Proofs.YtjofdfiljokfoaaRanked
open Go.Proofs Go.Proofs.Ytjofdfiljokfoaa Go.ChangeShapes Go.WideShapes Go.ChangeAt Go.RowKit Go.Deep Go.Proofs.Ytjofdfiljokfoaa.TL Go.Proofs.Ytjofdfiljokfoaa.R
set_option linter.unusedVariables false
set_option linter.unusedSimpArgs false

theorem own : ownKnob Try.prog.godebug = none := by kernel_rfl
theorem laidOut : laidOutB Try.prog = true := by kernel_rfl
theorem cells39 : Try.prog.cellsOf 39 = 1 := by kernel_rfl
theorem cells5 : Try.prog.cellsOf 5 = 1 := by kernel_rfl

theorem wf_u8 {n : Int} (h : (Lit.int .u8 n).wf = true) : 0 ≤ n ∧ n < 256 := by
  simp only [Lit.wf, Bool.and_eq_true, decide_eq_true_eq] at h
  have h1 : (0 : Int) ≤ n := h.1
  have h2 : n ≤ 255 := h.2
  omega
theorem spot_none {w : World} {a : Addr} {v : Value} (h : w.cell? a = some v) : a = ⟨a.block, a.off, none⟩ ∧ a.block < w.heap.size := by
  refine ⟨?_, World.block_lt_of_cell? w a h⟩
  obtain ⟨b, o, s⟩ := a
  cases s with
  | none => rfl
  | some s =>
    simp only [World.cell?] at h
    split at h
    · simp at h
    · cases h
theorem cell_at {w : World} {a : Addr} {v : Value} {n : Nat} (ha : a = ⟨a.block, a.off, none⟩) (h : w.cell? (a.add n) = some v) : w.cell? ⟨a.block, a.off + n, none⟩ = some v := by
  rw [ha, Addr.add_lit] at h
  exact h
theorem bytes_val {w : World} {A : Option Addr} {L C : Nat} {Z : List Int} (h1 : L ≤ C) (h2 : C ≤ maxLen) (h3 : Z.length = C) (h4 : A = none → C = 0) (h5 : ∀ a', A = some a' → ∀ c, c < C → w.cell? (a'.add c) = some (.int .u8 (Z.getD c 0))) :
    DVal (fun _ => False) w (.list 1 (Go.Proofs.Ytjofdfiljokfoaa.R.bytes (Z.take L))) (.slice A L C) := by
  have hlen : (Z.take L).length = L := by simp; omega
  have key := DVal.list (K := fun _ => False) (w := w) 1 (Go.Proofs.Ytjofdfiljokfoaa.R.bytes (Z.take L)) A C ((Z.take L).map fun n => [Value.int .u8 n]) (by simp [Go.Proofs.Ytjofdfiljokfoaa.R.bytes]) (by simp [Go.Proofs.Ytjofdfiljokfoaa.R.bytes]; omega) h4 (fun hne => ?_) (fun i e ve hi hv => ?_) (fun i e ve hi hv j d u hj hu => ?_)
  · rw [show (Go.Proofs.Ytjofdfiljokfoaa.R.bytes (Z.take L)).length = L by simp [Go.Proofs.Ytjofdfiljokfoaa.R.bytes]; omega] at key
    exact key
  · have hL : 0 < L := Nat.pos_of_ne_zero fun e => hne (by simp [Go.Proofs.Ytjofdfiljokfoaa.R.bytes, e])
    cases A with
    | none => have := h4 rfl; omega
    | some a =>
      have h0 := h5 a rfl 0 (by omega)
      obtain ⟨ha, hb⟩ := spot_none (a := a) (by simpa [Addr.add] using h0)
      refine ⟨a.block, a.off, by rw [← ha], fun h => h, hb, fun i ve hi j u hj => ?_⟩
      rw [List.getElem?_map] at hi
      cases hz : (Z.take L)[i]? with
      | none => rw [hz] at hi; cases hi
      | some n =>
        rw [hz] at hi; cases hi
        cases j with
        | zero =>
          cases hj
          rw [List.getElem?_take] at hz
          split at hz
          · have := cell_at ha (h5 a rfl i (by omega))
            rw [List.getD_eq_getElem?_getD, hz] at this
            simpa using this
          · cases hz
        | succ j => simp at hj
  · rw [Go.Proofs.Ytjofdfiljokfoaa.R.bytes, List.getElem?_map] at hi
    rw [List.getElem?_map] at hv
    cases hz : (Z.take L)[i]? with
    | none => rw [hz] at hi; cases hi
    | some n => rw [hz] at hi hv; cases hi; cases hv; exact ⟨rfl, rfl⟩
  · rw [Go.Proofs.Ytjofdfiljokfoaa.R.bytes, List.getElem?_map] at hi
    rw [List.getElem?_map] at hv
    cases hz : (Z.take L)[i]? with
    | none => rw [hz] at hi; cases hi
    | some n =>
      rw [hz] at hi hv; cases hi; cases hv
      cases j with
      | zero => cases hj; cases hu; exact .val _
      | succ j => simp at hj

theorem reads {H : Type} {enc : TypeId × Value → H} {W : World} {v : Value} {d : DataW H} {p : List MemPlace} {base : Nat} (hv : Value.okWide Try.prog W .any base 22 v) (h : DataW.Trod enc Try.prog W 0 (fun _ => true) true 22 v d p) :
    ∃ l : List (List Int), (∀ r ∈ l, ∀ n ∈ r, 0 ≤ n ∧ n < 256) ∧ VVal (fun _ => False) noPhi W (V.list 1 (brows l)) v := by
  obtain ⟨a0, len0, cap0, rfl⟩ := okWide_slice Try.underlying22 hv
  obtain ⟨fuel, hf⟩ := h
  rcases open_int_rows Try.underlying22 Try.underlying39 Try.underlying5 cells39 cells5 hf with ⟨hcs, _⟩ | ⟨a, len, cap, A, L, C, Z, hcs, _, hl, hm, _, hr⟩
  · simp [Value.cells] at hcs
    obtain ⟨rfl, rfl, rfl⟩ := hcs
    refine ⟨[], by simp, .d _ _ ?_⟩
    exact DVal.list (K := fun _ => False) (w := W) 1 [] none 0 [] rfl (Nat.le_refl _) (fun _ => rfl) (fun h => absurd rfl h) (fun i e ve h => by simp at h) (fun i e ve h => by simp at h)
  · simp [Value.cells] at hcs
    obtain ⟨rfl, rfl, rfl⟩ := hcs
    refine ⟨(List.range len0).map fun r => (Z r).take (L r), fun r hr' n hn => ?_, .d _ _ ?_⟩
    · obtain ⟨i, hi, rfl⟩ := List.mem_map.1 hr'
      have hi := List.mem_range.1 hi
      exact wf_u8 ((hr i (by omega)).2.2.2.2.1 n (List.mem_of_mem_take hn))
    · have key := DVal.list (K := fun _ => False) (w := W) 1 (brows ((List.range len0).map fun r => (Z r).take (L r))) (some a) cap0 ((List.range len0).map fun r => [Value.slice (A r) (L r) (C r)]) (by simp [brows]) (by simp [brows]; omega) (fun h => by cases h) (fun hne => ?_) (fun i e ve hi hv => ?_) (fun i e ve hi hv j d u hj hu => ?_)
      · rw [show (brows ((List.range len0).map fun r => (Z r).take (L r))).length = len0 by simp [brows]] at key
        exact key
      · have hL : 0 < len0 := Nat.pos_of_ne_zero fun e => hne (by simp [brows, e])
        have h0 := (hr 0 (by omega)).1
        obtain ⟨ha, hb⟩ := spot_none (a := a) (by simpa [Addr.add] using h0)
        refine ⟨a.block, a.off, by rw [← ha], fun h => h, hb, fun i ve hi j u hj => ?_⟩
        rw [List.getElem?_map] at hi
        cases hz : (List.range len0)[i]? with
        | none => rw [hz] at hi; cases hi
        | some n =>
          rw [hz] at hi; cases hi
          have hni : n = i := by
            obtain ⟨hlt, hh⟩ := List.getElem?_eq_some_iff.1 hz
            rw [List.getElem_range] at hh
            exact hh.symm
          have hlt : n < len0 := List.mem_range.1 (List.mem_of_getElem? hz)
          subst hni
          cases j with
          | zero =>
            cases hj
            rw [Nat.mul_one, Nat.add_zero]
            exact cell_at ha (hr n (by omega)).1
          | succ j => simp at hj
      · rw [brows, List.map_map, List.getElem?_map] at hi
        rw [List.getElem?_map] at hv
        cases hz : (List.range len0)[i]? with
        | none => rw [hz] at hi; cases hi
        | some n => rw [hz] at hi hv; cases hi; cases hv; exact ⟨rfl, rfl⟩
      · rw [brows, List.map_map, List.getElem?_map] at hi
        rw [List.getElem?_map] at hv
        cases hz : (List.range len0)[i]? with
        | none => rw [hz] at hi; cases hi
        | some n =>
          rw [hz] at hi hv; cases hi; cases hv
          have hn : n < len0 := List.mem_range.1 (List.mem_of_getElem? hz)
          cases j with
          | zero =>
            cases hj; cases hu
            obtain ⟨_, r1, r2, r3, _, r5, r6⟩ := hr n (by omega)
            exact bytes_val r1 r2 r3 r5 fun a' ha' => (r6 a' ha').2
          | succ j => simp at hj

set_option maxRecDepth 100000 in
theorem lifted (os : Os) (started : os.Started) (H : Type) (enc : TypeId × Value → H) :
    ReturnsInHanded {} Try.checked os 3 .any (Rows.topRankedSpec.pre6 enc Try.prog Try.f3 Rows.topRankedRow.domain false) (Rows.topRankedSpec.post enc Try.prog Try.f3 false true false false) := by
  refine returnsInHanded_of_change (C := Try.checked) own started (by kernel_rfl) Try.func3
    (ChangeSpec.witness6 (enc := enc) (C := Try.checked) false ⟨#[], #[.int .u8 0, .slice none 0 0], []⟩ 8 (by kernel_rfl) (by kernel_rfl) (by kernel_rfl) (by kernel_rfl)) ?_
  intro W base args ds gs before hval0 hW hcnd _
  have hval : ∀ (j : Nat) t v, Try.f3.params[j]? = some t → args[j]? = some v → Value.okWide Try.prog W .any base t v := hval0
  have hW' := hW
  obtain ⟨p, q, hA0, hV, rfl, hfz, hnd⟩ := hW
  have hA : DataW.TrodAll enc Try.prog W 0 (fun _ => true) true Try.f3.params.toList args.toList ds p := hA0
  rw [Try.params3] at hA hval
  obtain ⟨v0, v1, d0, d1, p0, p1, rfl, rfl, rfl, h0, h1⟩ := trodAll_two hA
  obtain ⟨rfl, rfl⟩ := trodVars_none hV
  obtain ⟨n, rfl, rfl, rfl, wn⟩ := open_int Try.underlying5 (hval 0 5 v0 rfl rfl) h0
  have k1 := h1
  have lt1 : ∀ x ∈ p1, x.block < W.heap.size := by
    obtain ⟨m, hm⟩ := k1
    exact DataW.trod_lt m _ _ _ hm
  obtain ⟨l, hb, hl⟩ := reads (hval 1 22 v1 rfl rfl) h1
  clear hA0 hval0
  simp only [List.append_nil] at hW'
  have hn : 0 ≤ n ∧ n < 256 := wf_u8 wn
  have hcalls := (top_fn n l hn hb).calls (fun _ => False) W [.int .u8 n, v1] (fun b h => h.elim) rfl (fun j v u hj hu => by
    match j with
    | 0 => cases hj; cases hu; exact .d _ _ (.val _)
    | 1 => cases hj; cases hu; exact hl
    | j + 2 => simp at hj)
  refine hcalls.mono fun e W' ⟨u, he, hu, bel⟩ => ?_
  subst he
  rw [hu.val_inv]
  exact ⟨_, rfl, _, _, _, [], _, [], hW', trodAll_mk1 (shut_bool Try.underlying4 _), trodAll_mk2 (shut_int Try.underlying5 wn) (Below.trod laidOut (by kernel_rfl) (of_decide_eq_true (by kernel_rfl)) k1 bel lt1), rfl, bel.frame _, fun h => by cases h⟩

theorem over : Rows.topRankedRow.holds Try.pinned (OpenSpec.ofChange Rows.topRankedSpec) :=
  OpenClaim.holds_of_wide 3 Try.f3 rfl rfl rfl rfl rfl rfl rfl ⟨rfl, rfl, rfl, rfl, rfl⟩ rfl rfl rfl rfl rfl (by kernel_rfl) Try.func3 (by kernel_rfl)
    (of_decide_eq_true (by kernel_rfl)) (by unfold Func.isWrapper; first | (rw [if_pos (by decide +kernel)]; kernel_rfl) | (rw [if_neg (by decide +kernel)]; exact ⟨rfl, rfl⟩))
    (fun os started H enc _ => lifted os started H enc)
end Go.Proofs.YtjofdfiljokfoaaRanked
namespace Go.Proofs.Ytjofdfiljokfoaa
/-- The row, under a short name, for the claim. -/
theorem topRanked_holds : Rows.TopRankedSaid := Go.Proofs.YtjofdfiljokfoaaRanked.over
end Go.Proofs.Ytjofdfiljokfoaa
#print axioms Go.Proofs.Ytjofdfiljokfoaa.topRanked_holds
