/- What functions that the law reaches compute: one step of the proof of the law's statement; each theorem states its own conditions. -/
import Derived.Test.YtjofdfiljokfoaaR5
namespace Go.Proofs.Ytjofdfiljokfoaa.R
open Go Go.RowKit Go.Proofs.Ytjofdfiljokfoaa.TL
set_option linter.unusedVariables false
set_option linter.unusedSimpArgs false
set_option maxHeartbeats 4000000

instance z25 : ZeroT Try.prog 25 [.slice none 0 0] := ZeroT.of (z := .slice none 0 0) (by kernel_rfl) rfl rfl

theorem idx_lt (x : Int) : ∀ (l : List Int) (k : Int), idxFrom x l k = -1 ∨ (k ≤ idxFrom x l k ∧ idxFrom x l k < k + l.length)
  | [], k => .inl rfl
  | y :: r, k => by
    rw [idxFrom]
    by_cases h : x = y
    · rw [if_pos h, List.length_cons]; right; omega
    · rw [if_neg h, List.length_cons]
      rcases idx_lt x r (k + 1) with h | h
      · exact .inl h
      · right; omega

/-- In a list, does a stand ahead of b, or alone? -/
def hit (r : List Int) (a b : Nat) : Bool := decide (0 ≤ idxFrom a r 0) && (!decide ((b : Int) = (a : Int)) && !decide (0 ≤ idxFrom b (r.take (idxFrom a r 0).toNat) 0))
def cnt (l : List (List Int)) (a b : Nat) : Nat := (l.filter fun r => hit r a b).length
theorem cnt_snoc (l : List (List Int)) (r : List Int) (a b : Nat) : cnt (l ++ [r]) a b = cnt l a b + if hit r a b = true then 1 else 0 := by
  simp only [cnt, List.filter_append, List.length_append]
  congr 1
  by_cases h : hit r a b = true <;> simp [h]
theorem cnt_le (l : List (List Int)) (a b : Nat) : cnt l a b ≤ l.length := List.length_filter_le _ _
def overOf (songs : Nat) (l : List (List Int)) : List (List Int) := (List.range songs).map fun a => (List.range songs).map fun b => (cnt l a b : Int)
theorem overOf_square (songs : Nat) (l : List (List Int)) : Square songs (overOf songs l) := ⟨by simp [overOf], fun r hr => by
  simp only [overOf, List.mem_map] at hr
  obtain ⟨a, _, rfl⟩ := hr
  simp⟩
def best (songs : Nat) (over : List (List Int)) : Int := match (List.range songs).find? (wins songs over) with | some a => (a : Int) | none => -1

theorem range_set {n j : Nat} (g g' : Nat → Int) (hj : j < n) (h : ∀ b, b ≠ j → g' b = g b) : ((List.range n).map g).set j (g' j) = (List.range n).map g' := by
  apply List.ext_getElem?
  intro i
  rw [List.getElem?_set]
  by_cases hi : j = i
  · subst hi; simp [hj]
  · rw [if_neg hi, List.getElem?_map, List.getElem?_map]
    cases hr : (List.range n)[i]? with
    | none => rfl
    | some k =>
      have : k = i := by
        have := List.getElem?_eq_some_iff.1 hr
        simp at this; omega
      subst this
      simp [h k (fun e => hi e.symm)]
theorem replicate_row (n : Nat) : List.replicate n (V.d (.val (.int .i64 0))) = row ((List.range n).map fun _ => (0 : Int)) := by
  rw [row_map, List.map_map]
  apply List.ext_getElem?
  intro i
  rw [List.getElem?_replicate, List.getElem?_map]
  by_cases h : i < n
  · simp [h]
  · simp [h]
theorem rrow_range_succ (f : Nat → List Int) (n : Nat) : rrow ((List.range (n + 1)).map f) = rrow ((List.range n).map f) ++ [V.list 1 (ints (f n))] := by rw [List.range_succ, List.map_append]; exact rrow_snoc _ _

theorem duels_fn (songs : Nat) (l : List (List Int)) (h : Valid songs l) : Does Try.prog 11 [V.int songs, V.list 1 (rows l)] (.tup [V.list 1 (rows (overOf songs l)), V.int (best songs (overOf songs l)), V.int 0]) := by
  have hcheck := check_fn songs l h
  obtain ⟨g1, g2, g3, g4⟩ := h
  refine Does.of Try.func11 rfl Try.call11 (by rw [Try.ntmps11]; simp) fun C hro hN hfx => ?_
  have hN' : ∀ k, k < 81 → k < C.N := fun k hk => by rw [hN]; exact hk
  dsimp only [argEnv, Nat.zero_add, Nat.reduceAdd]
  have hrl : (rows l).length = l.length := rows_len l
  repeat' (first
    | refine Seq.makeG (ok_box 0 rfl rfl (hN' _ (by decide)) rfl rfl rfl) rfl (by first | exact .none rfl | exact .want rfl rfl rfl (hN' _ (by decide)) rfl | exact .want rfl rfl rfl (hN' _ (by decide)) (by assumption)) ?_
    | refine Seq.makeG (ok_alloc 1 rfl rfl (hN' _ (by decide)) rfl) rfl (by first | exact .none rfl | exact .want rfl rfl rfl (hN' _ (by decide)) rfl | exact .want rfl rfl rfl (hN' _ (by decide)) (by assumption)) ?_
    | refine Seq.pureG (ok_call rfl rfl (hN' _ (by decide)) [V.int songs, V.list 1 (rows l)] rfl rfl hcheck rfl) rfl (by first | exact .none rfl | exact .want rfl rfl rfl (hN' _ (by decide)) rfl | exact .want rfl rfl rfl (hN' _ (by decide)) (by assumption)) ?_
    | refine T.seq ?_
    | refine T.region ?_
    | refine Seq.nil ?_
    | refine Seq.pureG (ok_move_d rfl rfl (hN' _ (by decide)) rfl) rfl (by first | exact .none rfl | exact .want rfl rfl rfl (hN' _ (by decide)) rfl | exact .want rfl rfl rfl (hN' _ (by decide)) (by assumption)) ?_
    | refine Seq.pureG (ok_assign_d rfl rfl (hN' _ (by decide)) rfl) rfl (by first | exact .none rfl | exact .want rfl rfl rfl (hN' _ (by decide)) rfl | exact .want rfl rfl rfl (hN' _ (by decide)) (by assumption)) ?_
    | refine Seq.pureG (ok_neq rfl rfl (hN' _ (by decide)) rfl rfl) rfl (by first | exact .none rfl | exact .want rfl rfl rfl (hN' _ (by decide)) rfl | exact .want rfl rfl rfl (hN' _ (by decide)) (by assumption)) ?_
    | refine Seq.pureG (ok_load_ptr rfl rfl (hN' _ (by decide)) rfl rfl rfl) rfl (by first | exact .none rfl | exact .want rfl rfl rfl (hN' _ (by decide)) rfl | exact .want rfl rfl rfl (hN' _ (by decide)) (by assumption)) ?_)
  refine T.cond rfl (fun h => ?_) (fun h => ?_)
  · simp at h
  repeat' (first
    | refine T.seq ?_
    | refine T.region ?_
    | refine T.block ?_
    | refine T.skip ?_
    | refine Seq.nil ?_
    | refine Seq.pureG (ok_move_d rfl rfl (hN' _ (by decide)) rfl) rfl (by first | exact .none rfl | exact .want rfl rfl rfl (hN' _ (by decide)) rfl | exact .want rfl rfl rfl (hN' _ (by decide)) (by assumption)) ?_
    | refine Seq.pureG (ok_load_ptr rfl rfl (hN' _ (by decide)) rfl rfl rfl) rfl (by first | exact .none rfl | exact .want rfl rfl rfl (hN' _ (by decide)) rfl | exact .want rfl rfl rfl (hN' _ (by decide)) (by assumption)) ?_)
  refine T.sub (Sub.beginAt 1 0 2 1 24 rfl rfl rfl) ?_
  obtain ⟨ov, hov⟩ : ∃ ov : Nat → List Int, ov = fun a => (List.range songs).map fun b => (cnt l a b : Int) := ⟨_, rfl⟩
  refine T.loopP (fun a : Nat => ⟨[(23, V.int a), (22, V.int songs), (2, .ptr 0 0), (4, .ptr 1 0), (1, V.list 1 (rows l))], [(0, some ⟨3, [V.int songs]⟩), (1, some ⟨25, [.acc 2 1 a]⟩), (2, some ⟨24, rrow ((List.range a).map ov)⟩)], []⟩) (fun a => a ≤ songs) (fun a => songs - a) 0 (Nat.zero_le _) (Sub.drop ⟨rfl, rfl, rfl, rfl, rfl, trivial⟩ ⟨rfl, rfl, rfl, trivial⟩ rfl rfl (fx0 hfx)) ?_
  intro a ha
  repeat' (first
    | refine T.seq ?_
    | refine T.region ?_
    | refine Seq.nil ?_
    | refine Seq.pureG (ok_lss rfl rfl (hN' _ (by decide)) rfl rfl) rfl (by first | exact .none rfl | exact .want rfl rfl rfl (hN' _ (by decide)) rfl | exact .want rfl rfl rfl (hN' _ (by decide)) (by assumption)) ?_)
  refine T.cond rfl (fun h => ?_) (fun h => ?_)
  · have hlt : a < songs := by simpa using h
    repeat' (first
      | refine Seq.makeG (ok_make 3 rfl rfl (hN' _ (by decide)) rfl rfl rfl rfl (by omega) (by simp [maxLen]; omega)) rfl (by first | exact .none rfl | exact .want rfl rfl rfl (hN' _ (by decide)) rfl | exact .want rfl rfl rfl (hN' _ (by decide)) (by assumption)) ?_
      | refine T.seq ?_
      | refine T.region ?_
      | refine T.block ?_
      | refine T.skip ?_
      | refine Seq.nil ?_
      | refine Seq.pureG (ok_move_d rfl rfl (hN' _ (by decide)) rfl) rfl (by first | exact .none rfl | exact .want rfl rfl rfl (hN' _ (by decide)) rfl | exact .want rfl rfl rfl (hN' _ (by decide)) (by assumption)) ?_
      | refine Seq.pureG (ok_assign_d rfl rfl (hN' _ (by decide)) rfl) rfl (by first | exact .none rfl | exact .want rfl rfl rfl (hN' _ (by decide)) rfl | exact .want rfl rfl rfl (hN' _ (by decide)) (by assumption)) ?_
      | refine Seq.pureG (ok_assign_acc rfl rfl (hN' _ (by decide)) rfl) rfl (by first | exact .none rfl | exact .want rfl rfl rfl (hN' _ (by decide)) rfl | exact .want rfl rfl rfl (hN' _ (by decide)) (by assumption)) ?_
      | refine Seq.pureG (ok_len_list rfl rfl (hN' _ (by decide)) rfl) rfl (by first | exact .none rfl | exact .want rfl rfl rfl (hN' _ (by decide)) rfl | exact .want rfl rfl rfl (hN' _ (by decide)) (by assumption)) ?_
      | refine Seq.pureG (ok_load_ptr rfl rfl (hN' _ (by decide)) rfl rfl rfl) rfl (by first | exact .none rfl | exact .want rfl rfl rfl (hN' _ (by decide)) rfl | exact .want rfl rfl rfl (hN' _ (by decide)) (by assumption)) ?_)
    refine T.loopP (fun k : Nat => ⟨[(30, V.int k), (29, V.int l.length), (28, V.list 1 (rows l)), (9, .acc 3 1 songs), (8, V.int a), (23, V.int a), (22, V.int songs), (2, .ptr 0 0), (4, .ptr 1 0), (1, V.list 1 (rows l))], [(3, some ⟨3, row ((List.range songs).map fun b => (cnt (l.take k) a b : Int))⟩), (0, some ⟨3, [V.int songs]⟩), (1, some ⟨25, [.acc 2 1 a]⟩), (2, some ⟨24, rrow ((List.range a).map ov)⟩)], []⟩) (fun k => k ≤ l.length) (fun k => l.length - k) 0 (Nat.zero_le _) (Sub.drop ⟨rfl, by simp [Env.get, hrl], rfl, rfl, rfl, rfl, rfl, rfl, rfl, rfl, trivial⟩ ⟨?_, rfl, rfl, rfl, trivial⟩ rfl (by simp [storeIn, ins_row, ins_rrow, V.insS, V.inS, liveB, Store.get]) (fx0 hfx)) ?_
    · simp only [Store.get, if_true, replicate_row]
      rfl
    intro k hk
    repeat' (first
      | refine T.seq ?_
      | refine T.region ?_
      | refine Seq.nil ?_
      | refine Seq.pureG (ok_lss rfl rfl (hN' _ (by decide)) rfl rfl) rfl (by first | exact .none rfl | exact .want rfl rfl rfl (hN' _ (by decide)) rfl | exact .want rfl rfl rfl (hN' _ (by decide)) (by assumption)) ?_)
    refine T.cond rfl (fun h => ?_) (fun h => ?_)
    · have hltk : k < l.length := by simpa using h
      have hat := rows_at hltk
      obtain ⟨hr1, hr2, hr3⟩ := g4 l[k] (List.getElem_mem hltk)
      have htk : l.take (k + 1) = l.take k ++ [l[k]] := List.take_succ_eq_append_getElem hltk
      obtain ⟨R, hR⟩ : ∃ R, R = l[k] := ⟨_, rfl⟩
      rw [← hR] at hat hr1 hr2 hr3 htk
      obtain ⟨at_, hat_⟩ : ∃ i, i = idxFrom a R 0 := ⟨_, rfl⟩
      have hle : at_.toNat ≤ R.length := by rw [hat_]; rcases idx_lt a R 0 with h | h <;> omega
      have hlen : ∀ j, cnt (l.take k) a j ≤ 200 := fun j => by have := cnt_le (l.take k) a j; simp at this; omega
      repeat' (first
        | refine Seq.pureG (ok_index_list rfl rfl (hN' _ (by decide)) rfl rfl (by omega) (by simpa using hat)) rfl (by first | exact .none rfl | exact .want rfl rfl rfl (hN' _ (by decide)) rfl | exact .want rfl rfl rfl (hN' _ (by decide)) (by assumption)) ?_
        | refine Seq.pureG (ok_call rfl rfl (hN' _ (by decide)) [V.list 1 (ints R), V.int a] rfl rfl (index_fn R a (by omega)) rfl) rfl (by first | exact .none rfl | exact .want rfl rfl rfl (hN' _ (by decide)) rfl | exact .want rfl rfl rfl (hN' _ (by decide)) (by assumption)) ?_
        | refine T.seq ?_
        | refine T.region ?_
        | refine T.block ?_
        | refine T.skip ?_
        | refine Seq.nil ?_
        | refine Seq.pureG (ok_move_d rfl rfl (hN' _ (by decide)) rfl) rfl (by first | exact .none rfl | exact .want rfl rfl rfl (hN' _ (by decide)) rfl | exact .want rfl rfl rfl (hN' _ (by decide)) (by assumption)) ?_
        | refine Seq.pureG (ok_assign_d rfl rfl (hN' _ (by decide)) rfl) rfl (by first | exact .none rfl | exact .want rfl rfl rfl (hN' _ (by decide)) rfl | exact .want rfl rfl rfl (hN' _ (by decide)) (by assumption)) ?_
        | refine Seq.pureG (ok_load_box rfl rfl (hN' _ (by decide)) rfl) rfl (by first | exact .none rfl | exact .want rfl rfl rfl (hN' _ (by decide)) rfl | exact .want rfl rfl rfl (hN' _ (by decide)) (by assumption)) ?_
        | refine Seq.pureG (ok_load_ptr rfl rfl (hN' _ (by decide)) rfl rfl rfl) rfl (by first | exact .none rfl | exact .want rfl rfl rfl (hN' _ (by decide)) rfl | exact .want rfl rfl rfl (hN' _ (by decide)) (by assumption)) ?_)
      rw [← hat_]
      obtain ⟨g, hg⟩ : ∃ g : Nat → Nat → Int, g = fun j b => (cnt (l.take k) a b : Int) + if b < j ∧ hit R a b = true then 1 else 0 := ⟨_, rfl⟩
      refine T.loopP (fun j : Nat => ⟨[(38, V.int j), (37, V.int songs), (12, V.int at_), (11, V.list 1 (ints R)), (30, V.int k), (29, V.int l.length), (28, V.list 1 (rows l)), (9, .acc 3 1 songs), (8, V.int a), (23, V.int a), (22, V.int songs), (2, .ptr 0 0), (4, .ptr 1 0), (1, V.list 1 (rows l))], [(3, some ⟨3, row ((List.range songs).map (g j))⟩), (0, some ⟨3, [V.int songs]⟩), (1, some ⟨25, [.acc 2 1 a]⟩), (2, some ⟨24, rrow ((List.range a).map ov)⟩)], []⟩) (fun j => j ≤ songs) (fun j => songs - j) 0 (Nat.zero_le _) (Sub.drop ⟨rfl, rfl, rfl, rfl, rfl, rfl, rfl, rfl, rfl, rfl, rfl, rfl, rfl, rfl, trivial⟩ ⟨?_, rfl, rfl, rfl, trivial⟩ rfl (by simp [storeIn, ins_row, ins_rrow, V.insS, V.inS, liveB, Store.get]) (fx0 hfx)) ?_
      · simp only [Store.get, if_true]
        rw [show g 0 = fun b => (cnt (l.take k) a b : Int) by rw [hg]; funext b; simp]
      intro j hj
      repeat' (first
        | refine T.seq ?_
        | refine T.region ?_
        | refine Seq.nil ?_
        | refine Seq.pureG (ok_lss rfl rfl (hN' _ (by decide)) rfl rfl) rfl (by first | exact .none rfl | exact .want rfl rfl rfl (hN' _ (by decide)) rfl | exact .want rfl rfl rfl (hN' _ (by decide)) (by assumption)) ?_)
      refine T.cond rfl (fun h => ?_) (fun h => ?_)
      · have hltj : j < songs := by simpa using h
        have hgj : ((List.range songs).map (g j))[j]? = some (cnt (l.take k) a j : Int) := by
          rw [List.getElem?_map, List.getElem?_range hltj, hg]; simp
        have hcell : (row ((List.range songs).map (g j)))[(j : Int).toNat * 1]? = some (V.int (cnt (l.take k) a j : Int)) := by simpa using row_get hgj
        have hoff : ∀ b, b ≠ j → g (j + 1) b = g j b := fun b hb => by rw [hg]; simp only; congr 1; simp only [show (b < j + 1) = (b < j) from propext ⟨fun h => by omega, fun h => by omega⟩]
        have hyes : hit R a j = true → ((List.range songs).map (g j)).set j ((cnt (l.take k) a j : Int) + 1) = (List.range songs).map (g (j + 1)) := fun hh => by
          rw [← range_set (g j) (g (j + 1)) hltj hoff]
          congr 1
          rw [hg]; simp [hh]
        have hno : hit R a j = false → (List.range songs).map (g (j + 1)) = (List.range songs).map (g j) := fun hh => by
          apply List.map_congr_left
          intro b _
          by_cases hb : b = j
          · subst hb; rw [hg]; simp [hh]
          · exact hoff b hb
        repeat' (first
          | refine Seq.pureG (ok_head rfl rfl (hN' _ (by decide)) (fun x => [D.val (.int .i64 x)]) R at_.toNat rfl rfl (by have := of_decide_eq_true (by assumption : decide (0 ≤ at_) = true); omega) hle) rfl (by first | exact .none rfl | exact .want rfl rfl rfl (hN' _ (by decide)) rfl | exact .want rfl rfl rfl (hN' _ (by decide)) (by assumption)) ?_
          | refine Seq.pureG (ok_call rfl rfl (hN' _ (by decide)) [V.list 1 (ints (R.take at_.toNat)), V.int j] rfl rfl (contains_fn (R.take at_.toNat) j (by simp; omega)) rfl) rfl (by first | exact .none rfl | exact .want rfl rfl rfl (hN' _ (by decide)) rfl | exact .want rfl rfl rfl (hN' _ (by decide)) (by assumption)) ?_
          | refine T.seq ?_
          | refine T.region ?_
          | refine T.block ?_
          | refine T.skip ?_
          | refine Seq.nil ?_
          | refine Seq.passC rfl rfl rfl rfl (hN' _ (by decide)) rfl rfl (hN' _ (by decide)) ?_
          | refine Seq.passC rfl rfl rfl rfl (hN' _ (by decide)) (by assumption) rfl (hN' _ (by decide)) ?_
          | refine Seq.pureG (ok_move_d rfl rfl (hN' _ (by decide)) rfl) rfl (by first | exact .none rfl | exact .want rfl rfl rfl (hN' _ (by decide)) rfl | exact .want rfl rfl rfl (hN' _ (by decide)) (by assumption)) ?_
          | refine Seq.pureG (ok_assign_d rfl rfl (hN' _ (by decide)) rfl) rfl (by first | exact .none rfl | exact .want rfl rfl rfl (hN' _ (by decide)) rfl | exact .want rfl rfl rfl (hN' _ (by decide)) (by assumption)) ?_
          | refine Seq.pureG (ok_geq rfl rfl (hN' _ (by decide)) rfl rfl) rfl (by first | exact .none rfl | exact .want rfl rfl rfl (hN' _ (by decide)) rfl | exact .want rfl rfl rfl (hN' _ (by decide)) (by assumption)) ?_
          | refine Seq.pureG (ok_neq rfl rfl (hN' _ (by decide)) rfl rfl) rfl (by first | exact .none rfl | exact .want rfl rfl rfl (hN' _ (by decide)) rfl | exact .want rfl rfl rfl (hN' _ (by decide)) (by assumption)) ?_
          | refine Seq.pureG (ok_not rfl rfl (hN' _ (by decide)) rfl) rfl (by first | exact .none rfl | exact .want rfl rfl rfl (hN' _ (by decide)) rfl | exact .want rfl rfl rfl (hN' _ (by decide)) (by assumption)) ?_
          | refine Seq.pureG (ok_pick_f rfl rfl (hN' _ (by decide)) rfl rfl rfl) rfl (by first | exact .none rfl | exact .want rfl rfl rfl (hN' _ (by decide)) rfl | exact .want rfl rfl rfl (hN' _ (by decide)) (by assumption)) ?_
          | refine Seq.pureG (ok_pick_t rfl rfl (hN' _ (by decide)) rfl (by assumption) rfl) rfl (by first | exact .none rfl | exact .want rfl rfl rfl (hN' _ (by decide)) rfl | exact .want rfl rfl rfl (hN' _ (by decide)) (by assumption)) ?_
          | refine Seq.pureG (ok_pick_f rfl rfl (hN' _ (by decide)) rfl (by assumption) rfl) rfl (by first | exact .none rfl | exact .want rfl rfl rfl (hN' _ (by decide)) rfl | exact .want rfl rfl rfl (hN' _ (by decide)) (by assumption)) ?_
          | refine Seq.split rfl rfl rfl rfl (fun hgd => ?_) (fun hgd => ?_))
        · have q1 : decide (0 ≤ at_) = true := by assumption
          refine T.cond rfl (fun h2 => ?_) (fun h2 => ?_)
          · have hh : hit R a j = true := by rw [hit, ← hat_, q1, hgd, h2]; rfl
            have hw : IntKind.i64.wrap ((cnt (l.take k) a j : Int) + 1) = (cnt (l.take k) a j : Int) + 1 := wrap_i64 (by have := hlen j; omega) (by have := hlen j; omega)
            repeat' (first
              | refine Seq.pureG (ok_index_acc rfl rfl (hN' _ (by decide)) rfl rfl (by omega) (by omega)) rfl (by first | exact .none rfl | exact .want rfl rfl rfl (hN' _ (by decide)) rfl | exact .want rfl rfl rfl (hN' _ (by decide)) (by assumption)) ?_
              | refine Seq.pureG (ok_load_ptr rfl rfl (hN' _ (by decide)) rfl rfl hcell) rfl (by first | exact .none rfl | exact .want rfl rfl rfl (hN' _ (by decide)) rfl | exact .want rfl rfl rfl (hN' _ (by decide)) (by assumption)) ?_
              | refine Seq.updG (ok_store_d rfl rfl rfl rfl rfl rfl (by rw [row_len]; simp; omega)) rfl (by first | exact .none rfl | exact .want rfl rfl rfl (hN' _ (by decide)) rfl | exact .want rfl rfl rfl (hN' _ (by decide)) (by assumption)) ?_
              | refine T.region ?_
              | refine Seq.nil ?_
              | refine Seq.pureG (ok_move_d rfl rfl (hN' _ (by decide)) rfl) rfl (by first | exact .none rfl | exact .want rfl rfl rfl (hN' _ (by decide)) rfl | exact .want rfl rfl rfl (hN' _ (by decide)) (by assumption)) ?_
              | refine Seq.pureG (ok_move_acc rfl rfl (hN' _ (by decide)) rfl) rfl (by first | exact .none rfl | exact .want rfl rfl rfl (hN' _ (by decide)) rfl | exact .want rfl rfl rfl (hN' _ (by decide)) (by assumption)) ?_
              | refine Seq.pureG (ok_add rfl rfl (hN' _ (by decide)) rfl rfl) rfl (by first | exact .none rfl | exact .want rfl rfl rfl (hN' _ (by decide)) rfl | exact .want rfl rfl rfl (hN' _ (by decide)) (by assumption)) ?_)
            refine ⟨j + 1, by omega, by omega, Sub.drop ⟨by rw [← next_i64 hltj (by omega)]; rfl, rfl, rfl, rfl, rfl, rfl, rfl, rfl, rfl, rfl, rfl, rfl, rfl, rfl, trivial⟩ ⟨?_, rfl, rfl, rfl, trivial⟩ rfl (by simp [storeIn, ins_row, ins_rrow, V.insS, V.inS, liveB, Store.get]) (fx0 hfx)⟩
            simp only [Store.get, if_true, Option.some.injEq, Obj.mk.injEq, true_and]
            rw [show ((j : Int)).toNat * 1 = j by simp, row_set, hw, hyes hh]
          · have hh : hit R a j = false := by rw [hit, ← hat_, q1, hgd, h2]; rfl
            repeat' (first
              | refine T.region ?_
              | refine T.skip ?_
              | refine Seq.nil ?_
              | refine Seq.pureG (ok_move_d rfl rfl (hN' _ (by decide)) rfl) rfl (by first | exact .none rfl | exact .want rfl rfl rfl (hN' _ (by decide)) rfl | exact .want rfl rfl rfl (hN' _ (by decide)) (by assumption)) ?_
              | refine Seq.pureG (ok_add rfl rfl (hN' _ (by decide)) rfl rfl) rfl (by first | exact .none rfl | exact .want rfl rfl rfl (hN' _ (by decide)) rfl | exact .want rfl rfl rfl (hN' _ (by decide)) (by assumption)) ?_)
            refine ⟨j + 1, by omega, by omega, ?_⟩
            rw [hno hh]
            exact Sub.env ⟨by rw [← next_i64 hltj (by omega)]; rfl, rfl, rfl, rfl, rfl, rfl, rfl, rfl, rfl, rfl, rfl, rfl, rfl, rfl, trivial⟩
        · have hh : hit R a j = false := by rw [hit, hgd]; simp
          refine T.cond rfl (fun h2 => by cases h2) (fun h2 => ?_)
          repeat' (first
            | refine T.region ?_
            | refine T.skip ?_
            | refine Seq.nil ?_
            | refine Seq.pureG (ok_move_d rfl rfl (hN' _ (by decide)) rfl) rfl (by first | exact .none rfl | exact .want rfl rfl rfl (hN' _ (by decide)) rfl | exact .want rfl rfl rfl (hN' _ (by decide)) (by assumption)) ?_
            | refine Seq.pureG (ok_add rfl rfl (hN' _ (by decide)) rfl rfl) rfl (by first | exact .none rfl | exact .want rfl rfl rfl (hN' _ (by decide)) rfl | exact .want rfl rfl rfl (hN' _ (by decide)) (by assumption)) ?_)
          refine ⟨j + 1, by omega, by omega, ?_⟩
          rw [hno hh]
          exact Sub.env ⟨by rw [← next_i64 hltj (by omega)]; rfl, rfl, rfl, rfl, rfl, rfl, rfl, rfl, rfl, rfl, rfl, rfl, rfl, rfl, trivial⟩
        · have hh : hit R a j = false := by rw [hit, ← hat_, hgd]; rfl
          refine T.cond rfl (fun h2 => by cases h2) (fun h2 => ?_)
          repeat' (first
            | refine T.region ?_
            | refine T.skip ?_
            | refine Seq.nil ?_
            | refine Seq.pureG (ok_move_d rfl rfl (hN' _ (by decide)) rfl) rfl (by first | exact .none rfl | exact .want rfl rfl rfl (hN' _ (by decide)) rfl | exact .want rfl rfl rfl (hN' _ (by decide)) (by assumption)) ?_
            | refine Seq.pureG (ok_add rfl rfl (hN' _ (by decide)) rfl rfl) rfl (by first | exact .none rfl | exact .want rfl rfl rfl (hN' _ (by decide)) rfl | exact .want rfl rfl rfl (hN' _ (by decide)) (by assumption)) ?_)
          refine ⟨j + 1, by omega, by omega, ?_⟩
          rw [hno hh]
          exact Sub.env ⟨by rw [← next_i64 hltj (by omega)]; rfl, rfl, rfl, rfl, rfl, rfl, rfl, rfl, rfl, rfl, rfl, rfl, rfl, rfl, trivial⟩
      · obtain rfl := loop_end hj h
        refine T.exit ?_
        show T C _ _ _
        repeat' (first
          | refine T.region ?_
          | refine Seq.nil ?_
          | refine Seq.pureG (ok_move_d rfl rfl (hN' _ (by decide)) rfl) rfl (by first | exact .none rfl | exact .want rfl rfl rfl (hN' _ (by decide)) rfl | exact .want rfl rfl rfl (hN' _ (by decide)) (by assumption)) ?_
          | refine Seq.pureG (ok_add rfl rfl (hN' _ (by decide)) rfl rfl) rfl (by first | exact .none rfl | exact .want rfl rfl rfl (hN' _ (by decide)) rfl | exact .want rfl rfl rfl (hN' _ (by decide)) (by assumption)) ?_)
        refine ⟨k + 1, by omega, by omega, Sub.drop ⟨by rw [← next_i64 hltk (by omega)]; rfl, rfl, rfl, rfl, rfl, rfl, rfl, rfl, rfl, rfl, trivial⟩ ⟨?_, rfl, rfl, rfl, trivial⟩ rfl (by simp [storeIn, ins_row, ins_rrow, V.insS, V.inS, liveB, Store.get]) (fx0 hfx)⟩
        have : (List.range j).map (g j) = (List.range j).map fun b => (cnt (l.take (k + 1)) a b : Int) := by
          apply List.map_congr_left
          intro b hb
          rw [hg, htk, cnt_snoc]
          have hb : b < j := List.mem_range.1 hb
          by_cases hh : hit R a b = true <;> simp [hb, hh]
        rw [← this]
        rfl
    · obtain rfl := loop_end hk h
      refine T.exit ?_
      show T C _ _ _
      rw [List.take_length]
      refine T.sub (Sub.freeze1 3 1 9 (es := ints ((List.range songs).map fun b => (cnt l a b : Int))) rfl rfl (by simp [ints]) (ints_one _) (by decide)) ?_
      repeat' (first
        | refine Seq.pureG (ok_load_ptr rfl rfl (hN' _ (by decide)) rfl rfl rfl) rfl (by first | exact .none rfl | exact .want rfl rfl rfl (hN' _ (by decide)) rfl | exact .want rfl rfl rfl (hN' _ (by decide)) (by assumption)) ?_
        | refine Seq.pureG (ok_build1 rfl rfl (hN' _ (by decide)) rfl rfl) rfl (by first | exact .none rfl | exact .want rfl rfl rfl (hN' _ (by decide)) rfl | exact .want rfl rfl rfl (hN' _ (by decide)) (by assumption)) ?_
        | refine Seq.appG (ok_append1 4 rfl rfl (hN' _ (by decide)) rfl rfl rfl rfl rfl rfl (by rw [rrow_len]; simp) (by omega) (by simp [maxLen]; omega)) rfl (by first | exact .none rfl | exact .want rfl rfl rfl (hN' _ (by decide)) rfl | exact .want rfl rfl rfl (hN' _ (by decide)) (by assumption)) ?_
        | refine Seq.updG (ok_store_acc rfl rfl rfl rfl rfl (by simp)) rfl (by first | exact .none rfl | exact .want rfl rfl rfl (hN' _ (by decide)) rfl | exact .want rfl rfl rfl (hN' _ (by decide)) (by assumption)) ?_
        | refine T.region ?_
        | refine Seq.nil ?_
        | refine Seq.pureG (ok_move_d rfl rfl (hN' _ (by decide)) rfl) rfl (by first | exact .none rfl | exact .want rfl rfl rfl (hN' _ (by decide)) rfl | exact .want rfl rfl rfl (hN' _ (by decide)) (by assumption)) ?_
        | refine Seq.pureG (ok_add rfl rfl (hN' _ (by decide)) rfl rfl) rfl (by first | exact .none rfl | exact .want rfl rfl rfl (hN' _ (by decide)) rfl | exact .want rfl rfl rfl (hN' _ (by decide)) (by assumption)) ?_)
      refine ⟨a + 1, by omega, by omega, Sub.ren (nm [0, 1, 4]) ⟨by rw [← next_i64 hlt (by omega)]; rfl, rfl, rfl, rfl, rfl, trivial⟩ ⟨rfl, rfl, ?_, trivial⟩ rfl rfl (by simp [storeIn, ins_rrow, V.insS, V.inS, liveB, Store.get]) (fx0 hfx)⟩
      rw [rens_rrow, rrow_range_succ, hov]
      rfl
  · obtain rfl := loop_end ha h
    refine T.exit ?_
    show T C _ _ _
    obtain ⟨over, hover⟩ : ∃ over, over = overOf a l := ⟨_, rfl⟩
    have hsq : Square a over := by rw [hover]; exact overOf_square a l
    have hrow : rrow ((List.range a).map ov) = rrow over := by rw [hover, overOf, hov]
    rw [hrow, ← hover]
    have hol : over.length = a := hsq.len
    refine T.sub (Sub.freezeAt 1 0 2 1 (es := rows over) rfl rfl rfl (by decide) (rows_one _) (by decide) (by rw [rows_len]; omega)) ?_
    rw [show (rows over).take a = rows over from List.take_of_length_le (by rw [rows_len]; omega)]
    refine T.sub (Sub.drop (e' := [(2, .ptr 0 0), (4, .ptr 1 0)]) (S' := duelS a over) ⟨rfl, rfl, trivial⟩ ⟨rfl, rfl, trivial⟩ rfl rfl (fx0 hfx)) ?_
    dsimp only [duelS]
    repeat' (first
      | refine Seq.pureG (ok_makeFunc rfl rfl (hN' _ (by decide)) rfl) rfl (by first | exact .none rfl | exact .want rfl rfl rfl (hN' _ (by decide)) rfl | exact .want rfl rfl rfl (hN' _ (by decide)) (by assumption)) ?_
      | refine Seq.pureG (ok_load_ptr rfl rfl (hN' _ (by decide)) rfl rfl rfl) rfl (by first | exact .none rfl | exact .want rfl rfl rfl (hN' _ (by decide)) rfl | exact .want rfl rfl rfl (hN' _ (by decide)) (by assumption)) ?_
      | refine T.seq ?_
      | refine T.region ?_
      | refine T.block ?_
      | refine Seq.nil ?_
      | refine Seq.pureG (ok_move_d rfl rfl (hN' _ (by decide)) rfl) rfl (by first | exact .none rfl | exact .want rfl rfl rfl (hN' _ (by decide)) rfl | exact .want rfl rfl rfl (hN' _ (by decide)) (by assumption)) ?_
      | refine Seq.pureG (ok_assign_clo rfl rfl (hN' _ (by decide)) rfl) rfl (by first | exact .none rfl | exact .want rfl rfl rfl (hN' _ (by decide)) rfl | exact .want rfl rfl rfl (hN' _ (by decide)) (by assumption)) ?_)
    refine T.loopP (fun k : Nat => ⟨[(71, V.int k), (70, V.int a), (14, .clo 17 [.ptr 0 0, .ptr 1 0]), (2, .ptr 0 0), (4, .ptr 1 0)], duelS a over, []⟩) (fun k => k ≤ a ∧ ∀ b, b < k → wins a over b = false) (fun k => a - k) 0 ⟨Nat.zero_le _, fun b hb => by omega⟩ (Sub.env ⟨rfl, rfl, rfl, rfl, rfl, trivial⟩) ?_
    rintro k ⟨hk, hi⟩
    dsimp only [duelS]
    repeat' (first
      | refine T.seq ?_
      | refine T.region ?_
      | refine Seq.nil ?_
      | refine Seq.pureG (ok_lss rfl rfl (hN' _ (by decide)) rfl rfl) rfl (by first | exact .none rfl | exact .want rfl rfl rfl (hN' _ (by decide)) rfl | exact .want rfl rfl rfl (hN' _ (by decide)) (by assumption)) ?_)
    refine T.cond rfl (fun h => ?_) (fun h => ?_)
    · have hltk : k < a := by simpa using h
      repeat' (first
        | refine Seq.consG (.plain (Ok.entersS (Sc := duelS a over) (Sc' := duelS a over) (cres := V.b (wins a over k)) (nm [0, 1]) (fun d hd => by cases hd; exact hN' _ (by decide)) (by simp) (enters_clo rfl rfl (wins_fn a over k g2 hsq hltk).enter (vs := V.rens (nm [0, 1]) [V.int k, .ptr 0 0, .ptr 1 0]) rfl) (wins_fn a over k g2 hsq hltk) ⟨rfl, rfl, trivial⟩ rfl rfl rfl rfl rfl rfl rfl rfl) rfl) ?_
        | refine T.seq ?_
        | refine T.region ?_
        | refine T.block ?_
        | refine T.skip ?_
        | refine Seq.nil ?_
        | refine Seq.pureG (ok_move_d rfl rfl (hN' _ (by decide)) rfl) rfl (by first | exact .none rfl | exact .want rfl rfl rfl (hN' _ (by decide)) rfl | exact .want rfl rfl rfl (hN' _ (by decide)) (by assumption)) ?_
        | refine Seq.pureG (ok_assign_d rfl rfl (hN' _ (by decide)) rfl) rfl (by first | exact .none rfl | exact .want rfl rfl rfl (hN' _ (by decide)) rfl | exact .want rfl rfl rfl (hN' _ (by decide)) (by assumption)) ?_
        | refine Seq.pureG (ok_move_clo rfl rfl (hN' _ (by decide)) rfl) rfl (by first | exact .none rfl | exact .want rfl rfl rfl (hN' _ (by decide)) rfl | exact .want rfl rfl rfl (hN' _ (by decide)) (by assumption)) ?_)
      refine T.cond rfl (fun h2 => ?_) (fun h2 => ?_)
      · have hb : best a over = k := by
          have : (List.range a).find? (wins a over) = some k := by
            rw [List.find?_eq_some_iff_append]
            refine ⟨h2, List.range k, (List.range a).drop (k + 1), ?_, fun b hb => by rw [hi b (List.mem_range.1 hb)]; rfl⟩
            apply List.ext_getElem?
            intro i
            rw [List.getElem?_append]
            simp only [List.length_range]
            split
            · rw [List.getElem?_range (by omega), List.getElem?_range (by omega)]
            · rename_i hik
              cases hd : i - k with
              | zero => have : i = k := by omega
                        subst this; simp [hltk]
              | succ m => simp only [List.getElem?_cons_succ, List.getElem?_drop]; congr 1; omega
          rw [best, this]
        repeat' (first
          | refine Seq.pureG (ok_load_ptr rfl rfl (hN' _ (by decide)) rfl rfl rfl) rfl (by first | exact .none rfl | exact .want rfl rfl rfl (hN' _ (by decide)) rfl | exact .want rfl rfl rfl (hN' _ (by decide)) (by assumption)) ?_
          | refine Seq.updG (ok_store_d rfl rfl rfl rfl rfl rfl Nat.zero_lt_one) rfl (by first | exact .none rfl | exact .want rfl rfl rfl (hN' _ (by decide)) rfl | exact .want rfl rfl rfl (hN' _ (by decide)) (by assumption)) ?_
          | refine T.seq ?_
          | refine T.region ?_
          | refine Seq.nil ?_
          | refine Seq.pureG (ok_move_d rfl rfl (hN' _ (by decide)) rfl) rfl (by first | exact .none rfl | exact .want rfl rfl rfl (hN' _ (by decide)) rfl | exact .want rfl rfl rfl (hN' _ (by decide)) (by assumption)) ?_
          | refine Seq.pureG (ok_assign_d rfl rfl (hN' _ (by decide)) rfl) rfl (by first | exact .none rfl | exact .want rfl rfl rfl (hN' _ (by decide)) rfl | exact .want rfl rfl rfl (hN' _ (by decide)) (by assumption)) ?_)
        rw [hb]
        refine T.ret (Fin.many (rs := [.cell 4 25, .tmp 5, .tmp 6]) rfl rfl (by simp) (.cell c25 rfl rfl rfl (.tmp rfl (.tmp rfl .nil))) rfl)
      · repeat' (first
          | refine T.region ?_
          | refine T.skip ?_
          | refine Seq.nil ?_
          | refine Seq.pureG (ok_move_d rfl rfl (hN' _ (by decide)) rfl) rfl (by first | exact .none rfl | exact .want rfl rfl rfl (hN' _ (by decide)) rfl | exact .want rfl rfl rfl (hN' _ (by decide)) (by assumption)) ?_
          | refine Seq.pureG (ok_add rfl rfl (hN' _ (by decide)) rfl rfl) rfl (by first | exact .none rfl | exact .want rfl rfl rfl (hN' _ (by decide)) rfl | exact .want rfl rfl rfl (hN' _ (by decide)) (by assumption)) ?_)
        refine ⟨k + 1, ⟨by omega, fun b hb => by rcases Nat.lt_succ_iff_lt_or_eq.1 hb with h | rfl; exact hi b h; exact h2⟩, by omega, Sub.drop ⟨by rw [← next_i64 hltk (by omega)]; rfl, rfl, rfl, rfl, rfl, trivial⟩ ⟨rfl, rfl, trivial⟩ rfl rfl (fx0 hfx)⟩
    · obtain rfl := loop_end hk h
      refine T.exit ?_
      show T C _ _ _
      have hb : best k over = -1 := by
        have : (List.range k).find? (wins k over) = none := List.find?_eq_none.2 fun b hb => by rw [hi b (List.mem_range.1 hb)]; simp
        rw [best, this]
      repeat' (first
        | refine Seq.pureG (ok_load_ptr rfl rfl (hN' _ (by decide)) rfl rfl rfl) rfl (by first | exact .none rfl | exact .want rfl rfl rfl (hN' _ (by decide)) rfl | exact .want rfl rfl rfl (hN' _ (by decide)) (by assumption)) ?_
        | refine Seq.updG (ok_store_d rfl rfl rfl rfl rfl rfl (by simp)) rfl (by first | exact .none rfl | exact .want rfl rfl rfl (hN' _ (by decide)) rfl | exact .want rfl rfl rfl (hN' _ (by decide)) (by assumption)) ?_
        | refine T.seq ?_
        | refine T.region ?_
        | refine Seq.nil ?_
        | refine Seq.pureG (ok_assign_d rfl rfl (hN' _ (by decide)) rfl) rfl (by first | exact .none rfl | exact .want rfl rfl rfl (hN' _ (by decide)) rfl | exact .want rfl rfl rfl (hN' _ (by decide)) (by assumption)) ?_)
      rw [hb]
      refine T.ret (Fin.many (rs := [.cell 4 25, .tmp 5, .tmp 6]) rfl rfl (by simp) (.cell c25 rfl rfl rfl (.tmp rfl (.tmp rfl .nil))) rfl)

end Go.Proofs.Ytjofdfiljokfoaa.R
