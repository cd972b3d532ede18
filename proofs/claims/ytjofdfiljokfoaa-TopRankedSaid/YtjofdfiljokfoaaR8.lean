/- What functions that the law reaches compute: one step of the proof of the law's statement; each theorem states its own conditions. -/
import Derived.Test.YtjofdfiljokfoaaR7
namespace Go.Proofs.Ytjofdfiljokfoaa.R
open Go Go.RowKit Go.Proofs.Ytjofdfiljokfoaa.TL
set_option linter.unusedVariables false
set_option linter.unusedSimpArgs false
set_option maxHeartbeats 4000000

def nats (o : List Nat) : List Int := o.map fun (t : Nat) => (t : Int)
theorem mrow_set (f f' : Nat → Nat) {s : Nat} (hs : s < 8) (h1 : f' s = f s + 1) (h2 : ∀ b, b ≠ s → f' b = f b) : (mrow f).set s ((f s : Int) + 1) = mrow f' := by
  rw [mrow, mrow, ← range_set (fun s => (f s : Int)) (fun s => (f' s : Int)) hs (fun b hb => by rw [h2 b hb])]
  congr 1
  rw [h1]; simp
theorem firstOf_some {o : List Nat} {r : List Int} {j : Nat} (hj : j < r.length) (hp : ∀ t ∈ r.take j, t.toNat ∈ o) (hn : ¬ r[j].toNat ∈ o) : firstOf o r = some r[j] := by
  rw [firstOf, List.find?_eq_some_iff_append]
  exact ⟨by simpa using hn, r.take j, r.drop (j + 1), by rw [← drop_at hj, List.take_append_drop], fun t ht => by simpa using hp t ht⟩
theorem firstOf_none {o : List Nat} {r : List Int} (hp : ∀ t ∈ r, t.toNat ∈ o) : firstOf o r = none := by
  rw [firstOf, List.find?_eq_none]
  intro t ht
  simpa using hp t ht
theorem stay (f : Nat → Nat) (o : List Nat) : ∀ n w, (List.range n).foldl (fun w s => if (!decide (s ∈ o)) = true then stepMin f w s else w) w = ((List.range n).filter fun s => !decide (s ∈ o)).foldl (stepMin f) w := fun n w => (List.foldl_filter ..).symm
def lastAt (f : Nat → Nat) (o : List Nat) (n : Nat) : Int := lastMin f (leftOf n o)
theorem lastAt_succ (f : Nat → Nat) (o : List Nat) (n : Nat) : lastAt f o (n + 1) = if n ∈ o then lastAt f o n else stepMin f (lastAt f o n) n := by
  rw [lastAt, lastAt, leftOf, leftOf, List.range_succ, List.filter_append, lastMin, lastMin, List.foldl_append]
  by_cases h : n ∈ o <;> simp [h]
theorem lastAt_lt (f : Nat → Nat) (o : List Nat) (n : Nat) : lastAt f o n = -1 ∨ ∃ s, s < n ∧ lastAt f o n = (s : Int) := by
  rcases lastMin_mem f (leftOf n o) with ⟨_, h⟩ | ⟨s, hs, h⟩
  · exact .inl h
  · exact .inr ⟨s, List.mem_range.1 (List.mem_filter.1 hs).1, h⟩

/-- Who is left in the end. -/
def winner (songs : Nat) (l : List (List Int)) : Int := idxB false ((gl (elim songs l (songs - 1))).take songs) 0

theorem runoff_fn (songs : Nat) (l : List (List Int)) (h : Valid songs l) : Does Try.prog 10 [V.int songs, V.list 1 (rows l)] (.tup [V.list 1 (ints (nats (elim songs l (songs - 1)))), V.int (winner songs l), V.int 0]) := by
  have hcheck := check_fn songs l h
  obtain ⟨g1, g2, g3, g4⟩ := h
  refine Does.of Try.func10 rfl Try.call10 (by rw [Try.ntmps10]; simp) fun C hro hN hfx => ?_
  have hN' : ∀ k, k < 83 → k < C.N := fun k hk => by rw [hN]; exact hk
  dsimp only [argEnv, Nat.zero_add, Nat.reduceAdd]
  have hrl : (rows l).length = l.length := rows_len l
  have hw1 : IntKind.i64.wrap ((songs : Int) - 1) = ((songs - 1 : Nat) : Int) := by rw [wrap_i64 (by omega) (by omega)]; omega
  repeat' (first
    | refine Seq.pureG (ok_call rfl rfl (hN' _ (by decide)) [V.int songs, V.list 1 (rows l)] rfl rfl hcheck rfl) rfl (by first | exact .none rfl | exact .want rfl rfl rfl (hN' _ (by decide)) rfl | exact .want rfl rfl rfl (hN' _ (by decide)) (by assumption)) ?_
    | refine T.seq ?_
    | refine T.region ?_
    | refine Seq.nil ?_
    | refine Seq.pureG (ok_move_d rfl rfl (hN' _ (by decide)) rfl) rfl (by first | exact .none rfl | exact .want rfl rfl rfl (hN' _ (by decide)) rfl | exact .want rfl rfl rfl (hN' _ (by decide)) (by assumption)) ?_
    | refine Seq.pureG (ok_assign_d rfl rfl (hN' _ (by decide)) rfl) rfl (by first | exact .none rfl | exact .want rfl rfl rfl (hN' _ (by decide)) rfl | exact .want rfl rfl rfl (hN' _ (by decide)) (by assumption)) ?_
    | refine Seq.pureG (ok_neq rfl rfl (hN' _ (by decide)) rfl rfl) rfl (by first | exact .none rfl | exact .want rfl rfl rfl (hN' _ (by decide)) rfl | exact .want rfl rfl rfl (hN' _ (by decide)) (by assumption)) ?_)
  refine T.cond rfl (fun h => ?_) (fun h => ?_)
  · simp at h
  repeat' (first
    | refine Seq.makeG (ok_alloc 0 rfl rfl (hN' _ (by decide)) rfl) rfl (by first | exact .none rfl | exact .want rfl rfl rfl (hN' _ (by decide)) rfl | exact .want rfl rfl rfl (hN' _ (by decide)) (by assumption)) ?_
    | refine T.seq ?_
    | refine T.region ?_
    | refine T.block ?_
    | refine T.skip ?_
    | refine Seq.nil ?_)
  refine T.sub (Sub.begin 4 1 1 3 rfl rfl) ?_
  refine T.loopP (fun k : Nat => ⟨[(8, .ptr 0 0), (4, .acc 1 1 k), (0, V.int songs), (1, V.list 1 (rows l))], [(0, some ⟨42, brow (gl (elim songs l k))⟩), (1, some ⟨3, row (nats (elim songs l k))⟩)], []⟩) (fun k => k ≤ songs - 1) (fun k => songs - k) 0 (Nat.zero_le _) (Sub.drop ⟨rfl, rfl, rfl, rfl, trivial⟩ ⟨rfl, rfl, trivial⟩ rfl (by simp [storeIn, ins_row, ins_brow]) (fx0 hfx)) ?_
  intro k hk
  obtain ⟨o, ho⟩ : ∃ o, o = elim songs l k := ⟨_, rfl⟩
  obtain ⟨e1, e2, e3⟩ := elim_left songs l k (by omega)
  rw [← ho] at e1 e2 e3
  rw [← ho]
  repeat' (first
    | refine T.seq ?_
    | refine T.region ?_
    | refine Seq.nil ?_
    | refine Seq.pureG (ok_move_d rfl rfl (hN' _ (by decide)) rfl) rfl (by first | exact .none rfl | exact .want rfl rfl rfl (hN' _ (by decide)) rfl | exact .want rfl rfl rfl (hN' _ (by decide)) (by assumption)) ?_
    | refine Seq.pureG (ok_move_acc rfl rfl (hN' _ (by decide)) rfl) rfl (by first | exact .none rfl | exact .want rfl rfl rfl (hN' _ (by decide)) rfl | exact .want rfl rfl rfl (hN' _ (by decide)) (by assumption)) ?_
    | refine Seq.pureG (ok_len_acc rfl rfl (hN' _ (by decide)) rfl) rfl (by first | exact .none rfl | exact .want rfl rfl rfl (hN' _ (by decide)) rfl | exact .want rfl rfl rfl (hN' _ (by decide)) (by assumption)) ?_
    | refine Seq.pureG (ok_lss rfl rfl (hN' _ (by decide)) rfl rfl) rfl (by first | exact .none rfl | exact .want rfl rfl rfl (hN' _ (by decide)) rfl | exact .want rfl rfl rfl (hN' _ (by decide)) (by assumption)) ?_
    | refine Seq.pureG (ok_sub rfl rfl (hN' _ (by decide)) rfl rfl) rfl (by first | exact .none rfl | exact .want rfl rfl rfl (hN' _ (by decide)) rfl | exact .want rfl rfl rfl (hN' _ (by decide)) (by assumption)) ?_)
  refine T.cond rfl (fun h => ?_) (fun h => ?_)
  · have hlt : k < songs - 1 := by rw [hw1] at h; simpa using h
    repeat' (first
      | refine T.block ?_
      | refine T.skip ?_)
    refine T.scope hro (fun _ _ h => h) ?_
    repeat' (first
      | refine Seq.makeG (ok_alloc 2 rfl rfl (hN' _ (by decide)) rfl) rfl (by first | exact .none rfl | exact .want rfl rfl rfl (hN' _ (by decide)) rfl | exact .want rfl rfl rfl (hN' _ (by decide)) (by assumption)) ?_
      | refine T.seq ?_
      | refine T.region ?_
      | refine T.block ?_
      | refine T.label ?_
      | refine Seq.nil ?_
      | refine Seq.pureG (ok_move_d rfl rfl (hN' _ (by decide)) rfl) rfl (by first | exact .none rfl | exact .want rfl rfl rfl (hN' _ (by decide)) rfl | exact .want rfl rfl rfl (hN' _ (by decide)) (by assumption)) ?_
      | refine Seq.pureG (ok_len_list rfl rfl (hN' _ (by decide)) rfl) rfl (by first | exact .none rfl | exact .want rfl rfl rfl (hN' _ (by decide)) rfl | exact .want rfl rfl rfl (hN' _ (by decide)) (by assumption)) ?_)
    refine T.loopP (fun j : Nat => ⟨[(29, V.int j), (28, V.int l.length), (27, V.list 1 (rows l)), (9, .ptr 2 0), (8, .ptr 0 0), (4, .acc 1 1 k), (0, V.int songs), (1, V.list 1 (rows l))], [(2, some ⟨43, row (mrow (votes o (l.take j)))⟩), (0, some ⟨42, brow (gl o)⟩), (1, some ⟨3, row (nats o)⟩)], []⟩) (fun j => j ≤ l.length) (fun j => l.length - j) 0 (Nat.zero_le _) (Sub.env ⟨rfl, by simp [Env.get, hrl], rfl, rfl, rfl, rfl, rfl, rfl, trivial⟩) ?_
    intro j hj
    repeat' (first
      | refine T.seq ?_
      | refine T.region ?_
      | refine Seq.nil ?_
      | refine Seq.pureG (ok_lss rfl rfl (hN' _ (by decide)) rfl rfl) rfl (by first | exact .none rfl | exact .want rfl rfl rfl (hN' _ (by decide)) rfl | exact .want rfl rfl rfl (hN' _ (by decide)) (by assumption)) ?_)
    refine T.cond rfl (fun h => ?_) (fun h => ?_)
    · have hltj : j < l.length := by simpa using h
      have hat := rows_at hltj
      obtain ⟨hr1, hr2, hr3⟩ := g4 l[j] (List.getElem_mem hltj)
      have htk : l.take (j + 1) = l.take j ++ [l[j]] := List.take_succ_eq_append_getElem hltj
      obtain ⟨R, hR⟩ : ∃ R, R = l[j] := ⟨_, rfl⟩
      rw [← hR] at hat hr1 hr2 hr3 htk
      have hRl := ints_len R
      have hvle : ∀ s, votes o (l.take j) s ≤ 200 := fun s => by have := votes_le o (l.take j) s; simp at this; omega
      repeat' (first
        | refine Seq.pureG (ok_index_list rfl rfl (hN' _ (by decide)) rfl rfl (by omega) (by simpa using hat)) rfl (by first | exact .none rfl | exact .want rfl rfl rfl (hN' _ (by decide)) rfl | exact .want rfl rfl rfl (hN' _ (by decide)) (by assumption)) ?_
        | refine T.seq ?_
        | refine T.region ?_
        | refine T.block ?_
        | refine T.skip ?_
        | refine Seq.nil ?_
        | refine Seq.pureG (ok_move_d rfl rfl (hN' _ (by decide)) rfl) rfl (by first | exact .none rfl | exact .want rfl rfl rfl (hN' _ (by decide)) rfl | exact .want rfl rfl rfl (hN' _ (by decide)) (by assumption)) ?_
        | refine Seq.pureG (ok_assign_d rfl rfl (hN' _ (by decide)) rfl) rfl (by first | exact .none rfl | exact .want rfl rfl rfl (hN' _ (by decide)) rfl | exact .want rfl rfl rfl (hN' _ (by decide)) (by assumption)) ?_
        | refine Seq.pureG (ok_len_list rfl rfl (hN' _ (by decide)) rfl) rfl (by first | exact .none rfl | exact .want rfl rfl rfl (hN' _ (by decide)) rfl | exact .want rfl rfl rfl (hN' _ (by decide)) (by assumption)) ?_
        | refine Seq.pureG (ok_load_box rfl rfl (hN' _ (by decide)) rfl) rfl (by first | exact .none rfl | exact .want rfl rfl rfl (hN' _ (by decide)) rfl | exact .want rfl rfl rfl (hN' _ (by decide)) (by assumption)) ?_)
      refine T.loopP (fun i : Nat => ⟨[(35, V.int i), (34, V.int R.length), (33, V.list 1 (ints R)), (29, V.int j), (28, V.int l.length), (27, V.list 1 (rows l)), (9, .ptr 2 0), (8, .ptr 0 0), (4, .acc 1 1 k), (0, V.int songs), (1, V.list 1 (rows l))], [(2, some ⟨43, row (mrow (votes o (l.take j)))⟩), (0, some ⟨42, brow (gl o)⟩), (1, some ⟨3, row (nats o)⟩)], []⟩) (fun i => i ≤ R.length ∧ ∀ t ∈ R.take i, t.toNat ∈ o) (fun i => R.length - i) 0 ⟨Nat.zero_le _, fun t ht => by simp at ht⟩ (Sub.env ⟨rfl, by simp [Env.get, hRl], rfl, rfl, rfl, rfl, rfl, rfl, rfl, rfl, rfl, trivial⟩) ?_
      rintro i ⟨hi, hgone⟩
      repeat' (first
        | refine T.seq ?_
        | refine T.region ?_
        | refine Seq.nil ?_
        | refine Seq.pureG (ok_lss rfl rfl (hN' _ (by decide)) rfl rfl) rfl (by first | exact .none rfl | exact .want rfl rfl rfl (hN' _ (by decide)) rfl | exact .want rfl rfl rfl (hN' _ (by decide)) (by assumption)) ?_)
      refine T.cond rfl (fun h => ?_) (fun h => ?_)
      · have hlti : i < R.length := by simpa using h
        have hat2 := ints_at hlti
        obtain ⟨ht1, ht2⟩ := hr3 R[i] (List.getElem_mem hlti)
        obtain ⟨t, hte⟩ : ∃ t : Nat, R[i] = (t : Int) := ⟨R[i].toNat, by omega⟩
        have ht8 : t < 8 := by omega
        rw [hte] at hat2
        have hgc : (brow (gl o))[0 + (t : Int).toNat * 1]? = some (V.b (decide (t ∈ o))) := by simpa using brow_get (gl_get o ht8)
        have hmc : (row (mrow (votes o (l.take j))))[0 + (t : Int).toNat * 1]? = some (V.int (votes o (l.take j) t : Int)) := by simpa using row_get (mrow_get (votes o (l.take j)) ht8)
        repeat' (first
          | refine Seq.pureG (ok_index_list rfl rfl (hN' _ (by decide)) rfl rfl (by omega) (by simpa using hat2)) rfl (by first | exact .none rfl | exact .want rfl rfl rfl (hN' _ (by decide)) rfl | exact .want rfl rfl rfl (hN' _ (by decide)) (by assumption)) ?_
          | refine Seq.pureG (ok_index_arr rfl rfl (hN' _ (by decide)) rfl rfl (by omega) (by omega)) rfl (by first | exact .none rfl | exact .want rfl rfl rfl (hN' _ (by decide)) rfl | exact .want rfl rfl rfl (hN' _ (by decide)) (by assumption)) ?_
          | refine Seq.pureG (ok_load_ptr rfl rfl (hN' _ (by decide)) rfl rfl hgc) rfl (by first | exact .none rfl | exact .want rfl rfl rfl (hN' _ (by decide)) rfl | exact .want rfl rfl rfl (hN' _ (by decide)) (by assumption)) ?_
          | refine T.seq ?_
          | refine T.region ?_
          | refine T.block ?_
          | refine T.skip ?_
          | refine Seq.nil ?_
          | refine Seq.pureG (ok_move_d rfl rfl (hN' _ (by decide)) rfl) rfl (by first | exact .none rfl | exact .want rfl rfl rfl (hN' _ (by decide)) rfl | exact .want rfl rfl rfl (hN' _ (by decide)) (by assumption)) ?_
          | refine Seq.pureG (ok_assign_d rfl rfl (hN' _ (by decide)) rfl) rfl (by first | exact .none rfl | exact .want rfl rfl rfl (hN' _ (by decide)) rfl | exact .want rfl rfl rfl (hN' _ (by decide)) (by assumption)) ?_
          | refine Seq.pureG (ok_not rfl rfl (hN' _ (by decide)) rfl) rfl (by first | exact .none rfl | exact .want rfl rfl rfl (hN' _ (by decide)) rfl | exact .want rfl rfl rfl (hN' _ (by decide)) (by assumption)) ?_
          | refine Seq.pureG (ok_load_box rfl rfl (hN' _ (by decide)) rfl) rfl (by first | exact .none rfl | exact .want rfl rfl rfl (hN' _ (by decide)) rfl | exact .want rfl rfl rfl (hN' _ (by decide)) (by assumption)) ?_)
        refine T.cond rfl (fun h2 => ?_) (fun h2 => ?_)
        · have hn : ¬ t ∈ o := by simpa using h2
          have hfst : firstOf o R = some (t : Int) := by rw [← hte]; exact firstOf_some hlti hgone (by rw [hte]; simpa using hn)
          have hw : IntKind.i64.wrap ((votes o (l.take j) t : Int) + 1) = (votes o (l.take j) t : Int) + 1 := wrap_i64 (by have := hvle t; omega) (by have := hvle t; omega)
          repeat' (first
            | refine Seq.pureG (ok_index_arr rfl rfl (hN' _ (by decide)) rfl rfl (by omega) (by omega)) rfl (by first | exact .none rfl | exact .want rfl rfl rfl (hN' _ (by decide)) rfl | exact .want rfl rfl rfl (hN' _ (by decide)) (by assumption)) ?_
            | refine Seq.pureG (ok_load_ptr rfl rfl (hN' _ (by decide)) rfl rfl hmc) rfl (by first | exact .none rfl | exact .want rfl rfl rfl (hN' _ (by decide)) rfl | exact .want rfl rfl rfl (hN' _ (by decide)) (by assumption)) ?_
            | refine Seq.updG (ok_store_d rfl rfl rfl rfl rfl rfl (by rw [row_len]; simp [mrow]; omega)) rfl (by first | exact .none rfl | exact .want rfl rfl rfl (hN' _ (by decide)) rfl | exact .want rfl rfl rfl (hN' _ (by decide)) (by assumption)) ?_
            | refine T.seq ?_
            | refine T.region ?_
            | refine Seq.nil ?_
            | refine Seq.pureG (ok_move_d rfl rfl (hN' _ (by decide)) rfl) rfl (by first | exact .none rfl | exact .want rfl rfl rfl (hN' _ (by decide)) rfl | exact .want rfl rfl rfl (hN' _ (by decide)) (by assumption)) ?_
            | refine Seq.pureG (ok_add rfl rfl (hN' _ (by decide)) rfl rfl) rfl (by first | exact .none rfl | exact .want rfl rfl rfl (hN' _ (by decide)) rfl | exact .want rfl rfl rfl (hN' _ (by decide)) (by assumption)) ?_)
          refine T.exit ?_
          show T C _ _ _
          repeat' (first
            | refine T.region ?_
            | refine Seq.nil ?_
            | refine Seq.pureG (ok_move_d rfl rfl (hN' _ (by decide)) rfl) rfl (by first | exact .none rfl | exact .want rfl rfl rfl (hN' _ (by decide)) rfl | exact .want rfl rfl rfl (hN' _ (by decide)) (by assumption)) ?_
            | refine Seq.pureG (ok_add rfl rfl (hN' _ (by decide)) rfl rfl) rfl (by first | exact .none rfl | exact .want rfl rfl rfl (hN' _ (by decide)) rfl | exact .want rfl rfl rfl (hN' _ (by decide)) (by assumption)) ?_)
          refine ⟨j + 1, by omega, by omega, Sub.drop ⟨by rw [← next_i64 hltj (by omega)]; rfl, rfl, rfl, rfl, rfl, rfl, rfl, rfl, trivial⟩ ⟨?_, rfl, rfl, trivial⟩ rfl (by simp [storeIn, ins_row, ins_brow]) (fx0 hfx)⟩
          simp only [Store.get, if_true, Option.some.injEq, Obj.mk.injEq, true_and]
          rw [show 0 + ((t : Int)).toNat * 1 = t by simp, row_set, hw, mrow_set (votes o (l.take j)) (votes o (l.take (j + 1))) ht8 (by rw [htk, votes_snoc, if_pos hfst]) (fun b hb => by rw [htk, votes_snoc, if_neg (by rw [hfst]; simp; omega)]; rfl)]
        · have hn : t ∈ o := by simpa using h2
          repeat' (first
            | refine T.region ?_
            | refine T.skip ?_
            | refine Seq.nil ?_
            | refine Seq.pureG (ok_move_d rfl rfl (hN' _ (by decide)) rfl) rfl (by first | exact .none rfl | exact .want rfl rfl rfl (hN' _ (by decide)) rfl | exact .want rfl rfl rfl (hN' _ (by decide)) (by assumption)) ?_
            | refine Seq.pureG (ok_add rfl rfl (hN' _ (by decide)) rfl rfl) rfl (by first | exact .none rfl | exact .want rfl rfl rfl (hN' _ (by decide)) rfl | exact .want rfl rfl rfl (hN' _ (by decide)) (by assumption)) ?_)
          refine ⟨i + 1, ⟨by omega, fun x hx => ?_⟩, by omega, Sub.env ⟨by rw [← next_i64 hlti (by omega)]; rfl, rfl, rfl, rfl, rfl, rfl, rfl, rfl, rfl, rfl, rfl, trivial⟩⟩
          rw [List.take_succ_eq_append_getElem hlti] at hx
          rcases List.mem_append.1 hx with hx | hx
          · exact hgone x hx
          · rw [List.mem_singleton.1 hx, hte]; simpa using hn
      · obtain rfl := loop_end hi h
        rw [List.take_length] at hgone
        have hfst := firstOf_none hgone
        refine T.exit ?_
        show T C _ _ _
        repeat' (first
          | refine T.region ?_
          | refine Seq.nil ?_
          | refine Seq.pureG (ok_move_d rfl rfl (hN' _ (by decide)) rfl) rfl (by first | exact .none rfl | exact .want rfl rfl rfl (hN' _ (by decide)) rfl | exact .want rfl rfl rfl (hN' _ (by decide)) (by assumption)) ?_
          | refine Seq.pureG (ok_add rfl rfl (hN' _ (by decide)) rfl rfl) rfl (by first | exact .none rfl | exact .want rfl rfl rfl (hN' _ (by decide)) rfl | exact .want rfl rfl rfl (hN' _ (by decide)) (by assumption)) ?_)
        refine ⟨j + 1, by omega, by omega, Sub.drop ⟨by rw [← next_i64 hltj (by omega)]; rfl, rfl, rfl, rfl, rfl, rfl, rfl, rfl, trivial⟩ ⟨?_, rfl, rfl, trivial⟩ rfl (by simp [storeIn, ins_row, ins_brow]) (fx0 hfx)⟩
        rw [show votes o (l.take (j + 1)) = votes o (l.take j) from funext fun b => by rw [htk, votes_snoc, hfst, if_neg (by simp)]; rfl]
        rfl
    · obtain rfl := loop_end hj h
      refine T.exit ?_
      show T C _ _ _
      rw [List.take_length]
      obtain ⟨f, hf⟩ : ∃ f, f = votes o l := ⟨_, rfl⟩
      rw [← hf]
      repeat' (first
        | refine T.seq ?_
        | refine T.region ?_
        | refine T.block ?_
        | refine Seq.nil ?_
        | refine Seq.pureG (ok_move_d rfl rfl (hN' _ (by decide)) rfl) rfl (by first | exact .none rfl | exact .want rfl rfl rfl (hN' _ (by decide)) rfl | exact .want rfl rfl rfl (hN' _ (by decide)) (by assumption)) ?_
        | refine Seq.pureG (ok_assign_d rfl rfl (hN' _ (by decide)) rfl) rfl (by first | exact .none rfl | exact .want rfl rfl rfl (hN' _ (by decide)) rfl | exact .want rfl rfl rfl (hN' _ (by decide)) (by assumption)) ?_)
      refine T.loopP (fun j : Nat => ⟨[(51, V.int j), (50, V.int songs), (14, V.int (lastAt f o j)), (9, .ptr 2 0), (8, .ptr 0 0), (4, .acc 1 1 k), (0, V.int songs), (1, V.list 1 (rows l))], [(2, some ⟨43, row (mrow f)⟩), (0, some ⟨42, brow (gl o)⟩), (1, some ⟨3, row (nats o)⟩)], []⟩) (fun j => j ≤ songs) (fun j => songs - j) 0 (Nat.zero_le _) (Sub.env ⟨rfl, rfl, rfl, rfl, rfl, rfl, rfl, rfl, trivial⟩) ?_
      intro j hj
      repeat' (first
        | refine T.seq ?_
        | refine T.region ?_
        | refine Seq.nil ?_
        | refine Seq.pureG (ok_lss rfl rfl (hN' _ (by decide)) rfl rfl) rfl (by first | exact .none rfl | exact .want rfl rfl rfl (hN' _ (by decide)) rfl | exact .want rfl rfl rfl (hN' _ (by decide)) (by assumption)) ?_)
      refine T.cond rfl (fun h => ?_) (fun h => ?_)
      · have hltj : j < songs := by simpa using h
        obtain ⟨w, hw⟩ : ∃ w, w = lastAt f o j := ⟨_, rfl⟩
        have hwb : -1 ≤ w ∧ w < 8 := by rw [hw]; rcases lastAt_lt f o j with h | ⟨s, h1, h2⟩ <;> omega
        have hsucc : lastAt f o (j + 1) = if j ∈ o then w else stepMin f w j := by rw [hw, lastAt_succ]
        rw [← hw]
        have hgc : (brow (gl o))[0 + (j : Int).toNat * 1]? = some (V.b (decide (j ∈ o))) := by simpa using brow_get (gl_get o (show j < 8 by omega))
        have hmc : (row (mrow f))[0 + (j : Int).toNat * 1]? = some (V.int (f j : Int)) := by simpa using row_get (mrow_get f (show j < 8 by omega))
        have hml : (row (mrow f))[0 + w.toNat * 1]? = some (V.int (f w.toNat : Int)) := by simpa using row_get (mrow_get f (show w.toNat < 8 by omega))
        repeat' (first
          | refine T.seq ?_
          | refine T.region ?_
          | refine T.block ?_
          | refine T.skip ?_
          | refine Seq.nil ?_
          | refine Seq.pureG (ok_move_d rfl rfl (hN' _ (by decide)) rfl) rfl (by first | exact .none rfl | exact .want rfl rfl rfl (hN' _ (by decide)) rfl | exact .want rfl rfl rfl (hN' _ (by decide)) (by assumption)) ?_
          | refine Seq.pureG (ok_assign_d rfl rfl (hN' _ (by decide)) rfl) rfl (by first | exact .none rfl | exact .want rfl rfl rfl (hN' _ (by decide)) rfl | exact .want rfl rfl rfl (hN' _ (by decide)) (by assumption)) ?_)
        refine T.drawn mixed rfl ?_
        repeat' (first
          | refine Draw.pureG (ok_index_arr rfl rfl (hN' _ (by decide)) rfl rfl (by omega) (by omega)) rfl (by first | exact .none rfl | exact .want rfl rfl rfl (hN' _ (by decide)) rfl | exact .want rfl rfl rfl (hN' _ (by decide)) (by assumption)) ?_
          | refine Draw.pureG (ok_index_arr rfl rfl (hN' _ (by decide)) rfl rfl (by have := of_decide_eq_false (by assumption : decide (w < 0) = false); omega) (by omega)) rfl (by first | exact .none rfl | exact .want rfl rfl rfl (hN' _ (by decide)) rfl | exact .want rfl rfl rfl (hN' _ (by decide)) (by assumption)) ?_
          | refine Draw.pureG (ok_load_ptr rfl rfl (hN' _ (by decide)) rfl rfl hgc) rfl (by first | exact .none rfl | exact .want rfl rfl rfl (hN' _ (by decide)) rfl | exact .want rfl rfl rfl (hN' _ (by decide)) (by assumption)) ?_
          | refine Draw.pureG (ok_load_ptr rfl rfl (hN' _ (by decide)) rfl rfl hmc) rfl (by first | exact .none rfl | exact .want rfl rfl rfl (hN' _ (by decide)) rfl | exact .want rfl rfl rfl (hN' _ (by decide)) (by assumption)) ?_
          | refine Draw.pureG (ok_load_ptr rfl rfl (hN' _ (by decide)) rfl rfl hml) rfl (by first | exact .none rfl | exact .want rfl rfl rfl (hN' _ (by decide)) rfl | exact .want rfl rfl rfl (hN' _ (by decide)) (by assumption)) ?_
          | refine Draw.passC rfl rfl rfl rfl (hN' _ (by decide)) (by assumption) rfl (hN' _ (by decide)) ?_
          | refine Draw.passU rfl rfl rfl (hN' _ (by decide)) rfl (hN' _ (by decide)) ?_
          | refine Draw.pureG (ok_move_d rfl rfl (hN' _ (by decide)) rfl) rfl (by first | exact .none rfl | exact .want rfl rfl rfl (hN' _ (by decide)) rfl | exact .want rfl rfl rfl (hN' _ (by decide)) (by assumption)) ?_
          | refine Draw.pureG (ok_lss rfl rfl (hN' _ (by decide)) rfl rfl) rfl (by first | exact .none rfl | exact .want rfl rfl rfl (hN' _ (by decide)) rfl | exact .want rfl rfl rfl (hN' _ (by decide)) (by assumption)) ?_
          | refine Draw.pureG (ok_leq rfl rfl (hN' _ (by decide)) rfl rfl) rfl (by first | exact .none rfl | exact .want rfl rfl rfl (hN' _ (by decide)) rfl | exact .want rfl rfl rfl (hN' _ (by decide)) (by assumption)) ?_
          | refine Draw.pureG (ok_not rfl rfl (hN' _ (by decide)) rfl) rfl (by first | exact .none rfl | exact .want rfl rfl rfl (hN' _ (by decide)) rfl | exact .want rfl rfl rfl (hN' _ (by decide)) (by assumption)) ?_
          | refine Draw.pureG (ok_pick_t rfl rfl (hN' _ (by decide)) rfl (by assumption) rfl) rfl (by first | exact .none rfl | exact .want rfl rfl rfl (hN' _ (by decide)) rfl | exact .want rfl rfl rfl (hN' _ (by decide)) (by assumption)) ?_
          | refine Draw.pureG (ok_pick_f rfl rfl (hN' _ (by decide)) rfl (by assumption) rfl) rfl (by first | exact .none rfl | exact .want rfl rfl rfl (hN' _ (by decide)) rfl | exact .want rfl rfl rfl (hN' _ (by decide)) (by assumption)) ?_
          | refine Draw.split rfl rfl rfl rfl (fun hgd => ?_) (fun hgd => ?_))
        all_goals refine Draw.nil ⟨by kernel_rfl, ?_⟩
        all_goals show T C _ _ _
        · have q1 : ¬ j ∈ o := by
            have : (!decide (j ∈ o)) = true := by assumption
            simpa using this
          have q2 : ¬ w < 0 := by simpa using hgd
          refine T.cond rfl (fun h2 => ?_) (fun h2 => ?_)
          · repeat' (first
              | refine T.region ?_
              | refine Seq.nil ?_
              | refine Seq.pureG (ok_move_d rfl rfl (hN' _ (by decide)) rfl) rfl (by first | exact .none rfl | exact .want rfl rfl rfl (hN' _ (by decide)) rfl | exact .want rfl rfl rfl (hN' _ (by decide)) (by assumption)) ?_
              | refine Seq.pureG (ok_assign_d rfl rfl (hN' _ (by decide)) rfl) rfl (by first | exact .none rfl | exact .want rfl rfl rfl (hN' _ (by decide)) rfl | exact .want rfl rfl rfl (hN' _ (by decide)) (by assumption)) ?_
              | refine Seq.pureG (ok_add rfl rfl (hN' _ (by decide)) rfl rfl) rfl (by first | exact .none rfl | exact .want rfl rfl rfl (hN' _ (by decide)) rfl | exact .want rfl rfl rfl (hN' _ (by decide)) (by assumption)) ?_)
            refine ⟨j + 1, by omega, by omega, ?_⟩
            rw [hsucc, if_neg q1, stepMin, if_pos (.inr (by simpa using h2))]
            exact Sub.env ⟨by rw [← next_i64 hltj (by omega)]; rfl, rfl, rfl, rfl, rfl, rfl, rfl, rfl, trivial⟩
          · repeat' (first
              | refine T.region ?_
              | refine T.skip ?_
              | refine Seq.nil ?_
              | refine Seq.pureG (ok_move_d rfl rfl (hN' _ (by decide)) rfl) rfl (by first | exact .none rfl | exact .want rfl rfl rfl (hN' _ (by decide)) rfl | exact .want rfl rfl rfl (hN' _ (by decide)) (by assumption)) ?_
              | refine Seq.pureG (ok_add rfl rfl (hN' _ (by decide)) rfl rfl) rfl (by first | exact .none rfl | exact .want rfl rfl rfl (hN' _ (by decide)) rfl | exact .want rfl rfl rfl (hN' _ (by decide)) (by assumption)) ?_)
            refine ⟨j + 1, by omega, by omega, ?_⟩
            rw [hsucc, if_neg q1, stepMin, if_neg (fun h => h.elim q2 (by simpa using h2))]
            exact Sub.env ⟨by rw [← next_i64 hltj (by omega)]; rfl, rfl, rfl, rfl, rfl, rfl, rfl, rfl, trivial⟩
        · have q1 : ¬ j ∈ o := by
            have : (!decide (j ∈ o)) = true := by assumption
            simpa using this
          have q2 : w < 0 := by simpa using hgd
          refine T.cond rfl (fun h2 => ?_) (fun h2 => by cases h2)
          repeat' (first
            | refine T.region ?_
            | refine Seq.nil ?_
            | refine Seq.pureG (ok_move_d rfl rfl (hN' _ (by decide)) rfl) rfl (by first | exact .none rfl | exact .want rfl rfl rfl (hN' _ (by decide)) rfl | exact .want rfl rfl rfl (hN' _ (by decide)) (by assumption)) ?_
            | refine Seq.pureG (ok_assign_d rfl rfl (hN' _ (by decide)) rfl) rfl (by first | exact .none rfl | exact .want rfl rfl rfl (hN' _ (by decide)) rfl | exact .want rfl rfl rfl (hN' _ (by decide)) (by assumption)) ?_
            | refine Seq.pureG (ok_add rfl rfl (hN' _ (by decide)) rfl rfl) rfl (by first | exact .none rfl | exact .want rfl rfl rfl (hN' _ (by decide)) rfl | exact .want rfl rfl rfl (hN' _ (by decide)) (by assumption)) ?_)
          refine ⟨j + 1, by omega, by omega, ?_⟩
          rw [hsucc, if_neg q1, stepMin, if_pos (.inl q2)]
          exact Sub.env ⟨by rw [← next_i64 hltj (by omega)]; rfl, rfl, rfl, rfl, rfl, rfl, rfl, rfl, trivial⟩
        · have q1 : j ∈ o := by
            have : (!decide (j ∈ o)) = false := by assumption
            simpa using this
          refine T.cond rfl (fun h2 => by cases h2) (fun h2 => ?_)
          repeat' (first
            | refine T.region ?_
            | refine T.skip ?_
            | refine Seq.nil ?_
            | refine Seq.pureG (ok_move_d rfl rfl (hN' _ (by decide)) rfl) rfl (by first | exact .none rfl | exact .want rfl rfl rfl (hN' _ (by decide)) rfl | exact .want rfl rfl rfl (hN' _ (by decide)) (by assumption)) ?_
            | refine Seq.pureG (ok_add rfl rfl (hN' _ (by decide)) rfl rfl) rfl (by first | exact .none rfl | exact .want rfl rfl rfl (hN' _ (by decide)) rfl | exact .want rfl rfl rfl (hN' _ (by decide)) (by assumption)) ?_)
          refine ⟨j + 1, by omega, by omega, ?_⟩
          rw [hsucc, if_pos q1]
          exact Sub.env ⟨by rw [← next_i64 hltj (by omega)]; rfl, rfl, rfl, rfl, rfl, rfl, rfl, rfl, trivial⟩
      · obtain rfl := loop_end hj h
        refine T.exit ?_
        show T C _ _ _
        obtain ⟨s, hs1, hs2, hs3, hs4⟩ := elim_last j l (k := k) (by omega)
        rw [← ho] at hs2 hs3 hs4
        rw [lastAt, hf, hs3]
        have hol : (nats o).length = k := by simp [nats, e2]
        repeat' (first
          | refine Seq.pureG (ok_index_arr rfl rfl (hN' _ (by decide)) rfl rfl (by omega) (by omega)) rfl (by first | exact .none rfl | exact .want rfl rfl rfl (hN' _ (by decide)) rfl | exact .want rfl rfl rfl (hN' _ (by decide)) (by assumption)) ?_
          | refine Seq.updG (ok_store_d rfl rfl rfl rfl rfl rfl (by rw [brow_len]; simp [gl]; omega)) rfl (by first | exact .none rfl | exact .want rfl rfl rfl (hN' _ (by decide)) rfl | exact .want rfl rfl rfl (hN' _ (by decide)) (by assumption)) ?_
          | refine Seq.pureG (ok_build1 rfl rfl (hN' _ (by decide)) rfl rfl) rfl (by first | exact .none rfl | exact .want rfl rfl rfl (hN' _ (by decide)) rfl | exact .want rfl rfl rfl (hN' _ (by decide)) (by assumption)) ?_
          | refine Seq.appG (ok_append1 3 rfl rfl (hN' _ (by decide)) rfl rfl rfl rfl rfl rfl (by rw [row_len, hol]) (by omega) (by simp [maxLen]; omega)) rfl (by first | exact .none rfl | exact .want rfl rfl rfl (hN' _ (by decide)) rfl | exact .want rfl rfl rfl (hN' _ (by decide)) (by assumption)) ?_
          | refine T.seq ?_
          | refine T.region ?_
          | refine Seq.nil ?_
          | refine Seq.pureG (ok_move_d rfl rfl (hN' _ (by decide)) rfl) rfl (by first | exact .none rfl | exact .want rfl rfl rfl (hN' _ (by decide)) rfl | exact .want rfl rfl rfl (hN' _ (by decide)) (by assumption)) ?_
          | refine Seq.pureG (ok_move_acc rfl rfl (hN' _ (by decide)) rfl) rfl (by first | exact .none rfl | exact .want rfl rfl rfl (hN' _ (by decide)) rfl | exact .want rfl rfl rfl (hN' _ (by decide)) (by assumption)) ?_
          | refine Seq.pureG (ok_assign_acc rfl rfl (hN' _ (by decide)) rfl) rfl (by first | exact .none rfl | exact .want rfl rfl rfl (hN' _ (by decide)) rfl | exact .want rfl rfl rfl (hN' _ (by decide)) (by assumption)) ?_)
        refine ⟨k + 1, by omega, by omega, ?_⟩
        rw [hs4]
        refine Sub.ren (nm [0, 3]) ⟨rfl, rfl, rfl, rfl, trivial⟩ ⟨?_, ?_, trivial⟩ rfl rfl (by simp [storeIn, ins_row, ins_brow]) (fx0 hfx)
        · rw [rens_brow, ← gl_set o (show s < 8 by omega), ← brow_set]
          simp only [nm, List.getD_cons_zero, Store.get]
          rw [show 0 + ((s : Int)).toNat * 1 = s by simp]
          rfl
        · rw [rens_row, show nats (o ++ [s]) = nats o ++ [(s : Int)] by simp [nats], row_snoc]
          rfl
  · have hke : k = songs - 1 := by
      rw [hw1] at h
      have : ¬ k < songs - 1 := by simpa using h
      omega
    refine T.exit ?_
    show T C _ _ _
    rw [hke] at ho
    rw [← ho]
    have hlen : (nats o).length = k := by simp [nats, e2]
    refine T.sub (Sub.freeze1 1 1 4 (es := ints (nats o)) rfl rfl (by rw [ints_len, hlen]) (ints_one _) (by decide)) ?_
    repeat' (first
      | refine Seq.pureG (ok_slice_arr_h rfl rfl (hN' _ (by decide)) rfl rfl (by omega) (by omega) rfl (by rw [brow_len]; simp [gl]) (by simp [maxLen]) (by rw [brow_map, gl]; simp)) rfl (by first | exact .none rfl | exact .want rfl rfl rfl (hN' _ (by decide)) rfl | exact .want rfl rfl rfl (hN' _ (by decide)) (by assumption)) ?_
      | refine T.seq ?_
      | refine T.region ?_
      | refine Seq.pureG (ok_move_d rfl rfl (hN' _ (by decide)) rfl) rfl (by first | exact .none rfl | exact .want rfl rfl rfl (hN' _ (by decide)) rfl | exact .want rfl rfl rfl (hN' _ (by decide)) (by assumption)) ?_)
    refine Seq.sub (Sub.freezeRef 0 1 81 (es := bools (gl o)) rfl rfl (by simp [bools, gl]; omega) (bools_one _) (by decide)) ?_
    rw [show (bools (gl o)).take ((songs : Int)).toNat = bools ((gl o).take songs) by simp [bools]]
    repeat' (first
      | refine Seq.pureG (ok_call rfl rfl (hN' _ (by decide)) [V.list 1 (bools ((gl o).take songs)), V.b false] rfl rfl (indexB_fn ((gl o).take songs) false (by simp [gl]; omega)) rfl) rfl (by first | exact .none rfl | exact .want rfl rfl rfl (hN' _ (by decide)) rfl | exact .want rfl rfl rfl (hN' _ (by decide)) (by assumption)) ?_
      | refine Seq.nil ?_
      | refine Seq.pureG (ok_assign_d rfl rfl (hN' _ (by decide)) rfl) rfl (by first | exact .none rfl | exact .want rfl rfl rfl (hN' _ (by decide)) rfl | exact .want rfl rfl rfl (hN' _ (by decide)) (by assumption)) ?_)
    refine T.ret (Fin.many (rs := [.tmp 4, .tmp 5, .tmp 6]) rfl rfl (by simp) (.tmp rfl (.tmp ?_ (.tmp rfl .nil))) rfl)
    rw [winner, ← ho]
    rfl

end Go.Proofs.Ytjofdfiljokfoaa.R
