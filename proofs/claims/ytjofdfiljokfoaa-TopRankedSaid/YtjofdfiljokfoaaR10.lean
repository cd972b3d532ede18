/- What functions that the law reaches compute: one step of the proof of the law's statement; each theorem states its own conditions. -/
import Derived.Test.YtjofdfiljokfoaaR9
namespace Go.Proofs.Ytjofdfiljokfoaa.R
open Go Go.RowKit Go.Proofs.Ytjofdfiljokfoaa.TL
set_option linter.unusedVariables false
set_option linter.unusedSimpArgs false
set_option maxHeartbeats 4000000

instance z3 : ZeroT Try.prog 3 [.int .i64 0] := ZeroT.of (z := .int .i64 0) (by kernel_rfl) rfl rfl
theorem equal_self (l : List Int) (hl : l.length ≤ 1000000) : Does Try.prog 12 [V.list 1 (ints l), V.list 1 (ints l)] (V.b true) := by
  have := equal_fn l l hl
  rwa [beq_self_eq_true] at this
theorem upto_left (n : Nat) : upto n = nats (leftOf n []) := by
  rw [upto, nats, leftOf, List.filter_eq_self.2 (fun _ _ => by simp)]

/-- The cells of the own count: rows that are told, and rows to come. -/
def oc (n : Nat) (ov : Nat → List Int) (a : Nat) : List V := (List.range n).map fun x => if x < a then V.list 1 (ints (ov x)) else V.nil
theorem oc_zero (n : Nat) (ov : Nat → List Int) : oc n ov 0 = List.replicate n V.nil := by
  apply List.ext_getElem?
  intro i
  rw [oc, List.getElem?_map, List.getElem?_replicate]
  by_cases h : i < n
  · simp [h]
  · simp [h]
theorem oc_at {n : Nat} {ov : Nat → List Int} {a : Nat} (h : a < n) : (oc n ov a)[a]? = some V.nil := by rw [oc, List.getElem?_map, List.getElem?_range h]; simp
theorem oc_at' {n : Nat} {ov : Nat → List Int} {a : Nat} (h : a < n) : (oc n ov (a + 1))[a]? = some (V.list 1 (ints (ov a))) := by rw [oc, List.getElem?_map, List.getElem?_range h]; simp
theorem oc_set {n : Nat} {ov : Nat → List Int} {a : Nat} (h : a < n) : (oc n ov a).set a (V.list 1 (ints (ov a))) = oc n ov (a + 1) := by
  apply List.ext_getElem?
  intro i
  rw [List.getElem?_set]
  by_cases hi : a = i
  · subst hi; rw [oc_at' h]; simp [oc, h]
  · rw [if_neg hi, oc, oc, List.getElem?_map, List.getElem?_map]
    cases hr : (List.range n)[i]? with
    | none => rfl
    | some k =>
      have : k = i := by
        have := List.getElem?_eq_some_iff.1 hr
        simp at this; omega
      subst this
      have : (k < a + 1) = (k < a) := propext ⟨fun h => by omega, fun h => by omega⟩
      simp only [Option.map_some, this]
theorem oc_all (n : Nat) (ov : Nat → List Int) : oc n ov n = rrow ((List.range n).map ov) := by
  rw [oc, rrow_map, List.map_map]
  apply List.map_congr_left
  intro a ha
  rw [if_pos (List.mem_range.1 ha)]; rfl
theorem rens_deep (π : Nat → Nat) : ∀ (l : List V), (∀ v ∈ l, ∃ x, v = V.d x) → V.rens π l = l
  | [], _ => rfl
  | v :: r, h => by
    obtain ⟨x, rfl⟩ := h v (by simp)
    rw [V.rens, rens_deep π r fun v hv => h v (by simp [hv])]; rfl
theorem ins_deep (S : Store) : ∀ (l : List V), (∀ v ∈ l, ∃ x, v = V.d x) → V.insS S l = true
  | [], _ => rfl
  | v :: r, h => by
    obtain ⟨x, rfl⟩ := h v (by simp)
    simp only [V.insS, V.inS, ins_deep S r fun v hv => h v (by simp [hv]), Bool.and_self]
theorem oc_deep (n : Nat) (ov : Nat → List Int) (a : Nat) : ∀ v ∈ oc n ov a, ∃ x, v = V.d x := fun v hv => by
  obtain ⟨x, _, rfl⟩ := List.mem_map.1 hv
  split
  · exact ⟨_, rfl⟩
  · exact ⟨_, rfl⟩
theorem rens_oc (π : Nat → Nat) (n : Nat) (ov : Nat → List Int) (a : Nat) : V.rens π (oc n ov a) = oc n ov a := rens_deep π _ (oc_deep n ov a)
theorem ins_oc (S : Store) (n : Nat) (ov : Nat → List Int) (a : Nat) : V.insS S (oc n ov a) = true := ins_deep S _ (oc_deep n ov a)
theorem ins_set {S : Store} : ∀ {l : List V} {i : Nat} {v : V}, V.insS S l = true → v.inS S = true → V.insS S (l.set i v) = true
  | [], _, _, _, _ => rfl
  | x :: r, 0, v, h, hv => by simp only [V.insS, Bool.and_eq_true, List.set_cons_zero] at h ⊢; exact ⟨hv, h.2⟩
  | x :: r, i + 1, v, h, hv => by simp only [V.insS, Bool.and_eq_true, List.set_cons_succ] at h ⊢; exact ⟨h.1, ins_set h.2 hv⟩
theorem rens_set (π : Nat → Nat) : ∀ (l : List V) (i : Nat) (v : V), V.rens π (l.set i v) = (V.rens π l).set i (v.ren π)
  | [], _, _ => rfl
  | x :: r, 0, v => rfl
  | x :: r, i + 1, v => by simp only [List.set_cons_succ, V.rens, rens_set π r i v]

theorem ranked_fn (songs : Nat) (l : List (List Int)) (hv : Valid songs l) : Does Try.prog 4 [V.int songs, V.list 1 (rows l)] (V.b true) := by
  have hrun := runoff_fn songs l hv
  have hduel := duels_fn songs l hv
  obtain ⟨g1, g2, g3, g4⟩ := hv
  refine Does.of Try.func4 rfl Try.call4 (by rw [Try.ntmps4]; simp) fun C hro hN hfx => ?_
  have hN' : ∀ k, k < 229 → k < C.N := fun k hk => by rw [hN]; exact hk
  dsimp only [argEnv, Nat.zero_add, Nat.reduceAdd]
  have hrl : (rows l).length = l.length := rows_len l
  repeat' (first
    | refine Seq.consG (.plain (Ok.entersS (Sc := []) (Sc' := [(0, some ⟨3, row (upto songs)⟩)]) (cargs := [V.int songs]) (cres := .acc 0 1 songs) (nm [0]) (fun d hd => by cases hd; exact hN' _ (by decide)) (by simp) (enters_func rfl (below4_fn songs (by omega)).enter (vs := V.rens (nm [0]) [V.int songs]) rfl) (below4_fn songs (by omega)) trivial rfl rfl rfl rfl rfl rfl (by simp [storeIn, ins_row]) rfl) rfl) ?_
    | refine T.seq ?_
    | refine T.region ?_
    | refine T.block ?_
    | refine Seq.nil ?_
    | refine Seq.pureG (ok_move_d rfl rfl (hN' _ (by decide)) rfl) rfl (by first | exact .none rfl | exact .want rfl rfl rfl (hN' _ (by decide)) rfl | exact .want rfl rfl rfl (hN' _ (by decide)) (by assumption)) ?_
    | refine Seq.pureG (ok_assign_d rfl rfl (hN' _ (by decide)) rfl) rfl (by first | exact .none rfl | exact .want rfl rfl rfl (hN' _ (by decide)) rfl | exact .want rfl rfl rfl (hN' _ (by decide)) (by assumption)) ?_
    | refine Seq.pureG (ok_assign_acc rfl rfl (hN' _ (by decide)) rfl) rfl (by first | exact .none rfl | exact .want rfl rfl rfl (hN' _ (by decide)) rfl | exact .want rfl rfl rfl (hN' _ (by decide)) (by assumption)) ?_)
  refine T.sub (Sub.begin 6 1 1 3 rfl rfl) ?_
  refine T.loopP (fun k : Nat => ⟨[(5, .acc 0 1 (songs - k)), (6, .acc 1 1 k), (0, V.int songs), (1, V.list 1 (rows l))], [(0, some ⟨3, row (nats (leftOf songs (elim songs l k)))⟩), (1, some ⟨3, row (nats (elim songs l k))⟩)], []⟩) (fun k => k ≤ songs - 1) (fun k => songs - k) 0 (Nat.zero_le _) (Sub.drop ⟨rfl, rfl, rfl, rfl, trivial⟩ ⟨?_, rfl, trivial⟩ rfl (by simp [storeIn, ins_row]) (fx0 hfx)) ?_
  · rw [elim, ← upto_left]
    simp only [renS, renO, rens_row]
    rfl
  intro k hk
  obtain ⟨o, ho⟩ : ∃ o, o = elim songs l k := ⟨_, rfl⟩
  obtain ⟨e1, e2, e3⟩ := elim_left songs l k (by omega)
  rw [← ho] at e1 e2 e3
  rw [← ho]
  obtain ⟨L, hL⟩ : ∃ L, L = leftOf songs o := ⟨_, rfl⟩
  rw [← hL]
  rw [← hL] at e1
  repeat' (first
    | refine T.seq ?_
    | refine T.region ?_
    | refine Seq.nil ?_
    | refine Seq.pureG (ok_move_acc rfl rfl (hN' _ (by decide)) rfl) rfl (by first | exact .none rfl | exact .want rfl rfl rfl (hN' _ (by decide)) rfl | exact .want rfl rfl rfl (hN' _ (by decide)) (by assumption)) ?_
    | refine Seq.pureG (ok_len_acc rfl rfl (hN' _ (by decide)) rfl) rfl (by first | exact .none rfl | exact .want rfl rfl rfl (hN' _ (by decide)) rfl | exact .want rfl rfl rfl (hN' _ (by decide)) (by assumption)) ?_
    | refine Seq.pureG (ok_gtr rfl rfl (hN' _ (by decide)) rfl rfl) rfl (by first | exact .none rfl | exact .want rfl rfl rfl (hN' _ (by decide)) rfl | exact .want rfl rfl rfl (hN' _ (by decide)) (by assumption)) ?_)
  refine T.cond rfl (fun h => ?_) (fun h => ?_)
  · have hlt : k < songs - 1 := by simp at h; omega
    have hw1 : IntKind.i64.wrap ((l.length : Int) + 1) = (l.length : Int) + 1 := wrap_i64 (by omega) (by omega)
    repeat' (first
      | refine Seq.makeG (ok_alloc 2 rfl rfl (hN' _ (by decide)) rfl) rfl (by first | exact .none rfl | exact .want rfl rfl rfl (hN' _ (by decide)) rfl | exact .want rfl rfl rfl (hN' _ (by decide)) (by assumption)) ?_
      | refine Seq.updG (ok_store_d rfl rfl rfl rfl rfl rfl Nat.zero_lt_one) rfl (by first | exact .none rfl | exact .want rfl rfl rfl (hN' _ (by decide)) rfl | exact .want rfl rfl rfl (hN' _ (by decide)) (by assumption)) ?_
      | refine T.seq ?_
      | refine T.region ?_
      | refine T.block ?_
      | refine T.skip ?_
      | refine Seq.nil ?_
      | refine Seq.pureG (ok_move_d rfl rfl (hN' _ (by decide)) rfl) rfl (by first | exact .none rfl | exact .want rfl rfl rfl (hN' _ (by decide)) rfl | exact .want rfl rfl rfl (hN' _ (by decide)) (by assumption)) ?_
      | refine Seq.pureG (ok_assign_d rfl rfl (hN' _ (by decide)) rfl) rfl (by first | exact .none rfl | exact .want rfl rfl rfl (hN' _ (by decide)) rfl | exact .want rfl rfl rfl (hN' _ (by decide)) (by assumption)) ?_
      | refine Seq.pureG (ok_move_acc rfl rfl (hN' _ (by decide)) rfl) rfl (by first | exact .none rfl | exact .want rfl rfl rfl (hN' _ (by decide)) rfl | exact .want rfl rfl rfl (hN' _ (by decide)) (by assumption)) ?_
      | refine Seq.pureG (ok_len_list rfl rfl (hN' _ (by decide)) rfl) rfl (by first | exact .none rfl | exact .want rfl rfl rfl (hN' _ (by decide)) rfl | exact .want rfl rfl rfl (hN' _ (by decide)) (by assumption)) ?_
      | refine Seq.pureG (ok_len_acc rfl rfl (hN' _ (by decide)) rfl) rfl (by first | exact .none rfl | exact .want rfl rfl rfl (hN' _ (by decide)) rfl | exact .want rfl rfl rfl (hN' _ (by decide)) (by assumption)) ?_
      | refine Seq.pureG (ok_add rfl rfl (hN' _ (by decide)) rfl rfl) rfl (by first | exact .none rfl | exact .want rfl rfl rfl (hN' _ (by decide)) rfl | exact .want rfl rfl rfl (hN' _ (by decide)) (by assumption)) ?_)
    refine T.loopP (fun i : Nat => ⟨[(45, V.int i), (44, V.int L.length), (43, .acc 0 1 L.length), (7, .ptr 2 0), (8, V.int ((L.take i).foldl (rkStep (votes o l)) (0, (l.length : Int) + 1)).2), (5, .acc 0 1 L.length), (6, .acc 1 1 k), (0, V.int songs), (1, V.list 1 (rows l))], [(2, some ⟨3, [V.int ((L.take i).foldl (rkStep (votes o l)) (0, (l.length : Int) + 1)).1]⟩), (0, some ⟨3, row (nats L)⟩), (1, some ⟨3, row (nats o)⟩)], []⟩) (fun i => i ≤ L.length) (fun i => L.length - i) 0 (Nat.zero_le _) (Sub.drop ⟨rfl, by rw [e1]; rfl, by rw [e1]; rfl, rfl, ?_, by rw [e1]; rfl, rfl, rfl, rfl, trivial⟩ ⟨rfl, rfl, rfl, trivial⟩ rfl (by simp [storeIn, ins_row, V.insS, V.inS]) (fx0 hfx)) ?_
    · simp [Env.get, hrl, hw1]
    intro i hi
    obtain ⟨p, hp⟩ : ∃ p, p = (L.take i).foldl (rkStep (votes o l)) (0, (l.length : Int) + 1) := ⟨_, rfl⟩
    have hLs : ∀ s ∈ L, s < 8 ∧ votes o l s ≤ l.length := fun s hs => by
      rw [hL] at hs
      have := List.mem_range.1 (List.mem_filter.1 hs).1
      exact ⟨by omega, votes_le o l s⟩
    have hpb := rk_bounds (votes o l) l.length (L.take i) (0, (l.length : Int) + 1) (fun s hs => by have := hLs s (List.mem_of_mem_take hs); omega) (by simp only; omega)
    rw [← hp] at hpb
    rw [← hp]
    repeat' (first
      | refine T.seq ?_
      | refine T.region ?_
      | refine Seq.nil ?_
      | refine Seq.pureG (ok_lss rfl rfl (hN' _ (by decide)) rfl rfl) rfl (by first | exact .none rfl | exact .want rfl rfl rfl (hN' _ (by decide)) rfl | exact .want rfl rfl rfl (hN' _ (by decide)) (by assumption)) ?_)
    refine T.cond rfl (fun h => ?_) (fun h => ?_)
    · have hlti : i < L.length := by simpa using h
      have htki : L.take (i + 1) = L.take i ++ [L[i]] := List.take_succ_eq_append_getElem hlti
      have hsn : (L.take (i + 1)).foldl (rkStep (votes o l)) (0, (l.length : Int) + 1) = rkStep (votes o l) p L[i] := by rw [htki, List.foldl_append, ← hp]; rfl
      obtain ⟨s, hs⟩ : ∃ s, s = L[i] := ⟨_, rfl⟩
      have hs8 := hLs L[i] (List.getElem_mem hlti)
      have hcell : (row (nats L))[(i : Int).toNat * 1]? = some (V.int (s : Int)) := by
        have : (nats L)[i]? = some (s : Int) := by rw [nats, List.getElem?_map, List.getElem?_eq_getElem hlti, hs]; rfl
        simpa using row_get this
      rw [← hs] at hsn hs8
      repeat' (first
        | refine Seq.pureG (ok_index_acc rfl rfl (hN' _ (by decide)) rfl rfl (by omega) (by omega)) rfl (by first | exact .none rfl | exact .want rfl rfl rfl (hN' _ (by decide)) rfl | exact .want rfl rfl rfl (hN' _ (by decide)) (by assumption)) ?_
        | refine Seq.pureG (ok_load_ptr rfl rfl (hN' _ (by decide)) rfl rfl hcell) rfl (by first | exact .none rfl | exact .want rfl rfl rfl (hN' _ (by decide)) rfl | exact .want rfl rfl rfl (hN' _ (by decide)) (by assumption)) ?_
        | refine T.seq ?_
        | refine T.region ?_
        | refine T.block ?_
        | refine T.skip ?_
        | refine Seq.nil ?_
        | refine Seq.pureG (ok_move_d rfl rfl (hN' _ (by decide)) rfl) rfl (by first | exact .none rfl | exact .want rfl rfl rfl (hN' _ (by decide)) rfl | exact .want rfl rfl rfl (hN' _ (by decide)) (by assumption)) ?_
        | refine Seq.pureG (ok_assign_d rfl rfl (hN' _ (by decide)) rfl) rfl (by first | exact .none rfl | exact .want rfl rfl rfl (hN' _ (by decide)) rfl | exact .want rfl rfl rfl (hN' _ (by decide)) (by assumption)) ?_
        | refine Seq.pureG (ok_len_list rfl rfl (hN' _ (by decide)) rfl) rfl (by first | exact .none rfl | exact .want rfl rfl rfl (hN' _ (by decide)) rfl | exact .want rfl rfl rfl (hN' _ (by decide)) (by assumption)) ?_)
      refine T.loopP (fun j : Nat => ⟨[(51, V.int j), (50, V.int l.length), (49, V.list 1 (rows l)), (11, V.int (votes o (l.take j) s)), (10, V.int s), (45, V.int i), (44, V.int L.length), (43, .acc 0 1 L.length), (7, .ptr 2 0), (8, V.int p.2), (5, .acc 0 1 L.length), (6, .acc 1 1 k), (0, V.int songs), (1, V.list 1 (rows l))], [(2, some ⟨3, [V.int p.1]⟩), (0, some ⟨3, row (nats L)⟩), (1, some ⟨3, row (nats o)⟩)], []⟩) (fun j => j ≤ l.length) (fun j => l.length - j) 0 (Nat.zero_le _) (Sub.env ⟨rfl, by simp [Env.get, hrl], rfl, rfl, rfl, rfl, rfl, rfl, rfl, rfl, rfl, rfl, rfl, rfl, trivial⟩) ?_
      intro j hj
      repeat' (first
        | refine T.seq ?_
        | refine T.region ?_
        | refine Seq.nil ?_
        | refine Seq.pureG (ok_lss rfl rfl (hN' _ (by decide)) rfl rfl) rfl (by first | exact .none rfl | exact .want rfl rfl rfl (hN' _ (by decide)) rfl | exact .want rfl rfl rfl (hN' _ (by decide)) (by assumption)) ?_)
      refine T.cond rfl (fun h => ?_) (fun h => ?_)
      · have hltj : j < l.length := by simpa using h
        have hat := rows_at hltj
        obtain ⟨hr1, hr2, hr3⟩ := g4 l[j] (List.getElem_mem hltj)
        have htk : l.take (j + 1) = l.take j ++ [l[j]] := List.take_succ_eq_append_getElem hltj
        obtain ⟨R, hR⟩ : ∃ R, R = l[j] := ⟨_, rfl⟩
        rw [← hR] at hat hr1 hr2 hr3 htk
        have hRl := ints_len R
        have hvle : votes o (l.take j) s ≤ 200 := by have := votes_le o (l.take j) s; simp at this; omega
        repeat' (first
          | refine Seq.pureG (ok_index_list rfl rfl (hN' _ (by decide)) rfl rfl (by omega) (by simpa using hat)) rfl (by first | exact .none rfl | exact .want rfl rfl rfl (hN' _ (by decide)) rfl | exact .want rfl rfl rfl (hN' _ (by decide)) (by assumption)) ?_
          | refine T.seq ?_
          | refine T.region ?_
          | refine T.block ?_
          | refine T.skip ?_
          | refine Seq.nil ?_
          | refine Seq.pureG (ok_move_d rfl rfl (hN' _ (by decide)) rfl) rfl (by first | exact .none rfl | exact .want rfl rfl rfl (hN' _ (by decide)) rfl | exact .want rfl rfl rfl (hN' _ (by decide)) (by assumption)) ?_
          | refine Seq.pureG (ok_assign_d rfl rfl (hN' _ (by decide)) rfl) rfl (by first | exact .none rfl | exact .want rfl rfl rfl (hN' _ (by decide)) rfl | exact .want rfl rfl rfl (hN' _ (by decide)) (by assumption)) ?_
          | refine Seq.pureG (ok_len_list rfl rfl (hN' _ (by decide)) rfl) rfl (by first | exact .none rfl | exact .want rfl rfl rfl (hN' _ (by decide)) rfl | exact .want rfl rfl rfl (hN' _ (by decide)) (by assumption)) ?_
          | refine Seq.pureG (ok_load_box rfl rfl (hN' _ (by decide)) rfl) rfl (by first | exact .none rfl | exact .want rfl rfl rfl (hN' _ (by decide)) rfl | exact .want rfl rfl rfl (hN' _ (by decide)) (by assumption)) ?_)
        refine T.loopP (fun q : Nat => ⟨[(57, V.int q), (56, V.int R.length), (55, V.list 1 (ints R)), (14, V.int (firstI o (R.take q))), (51, V.int j), (50, V.int l.length), (49, V.list 1 (rows l)), (11, V.int (votes o (l.take j) s)), (10, V.int s), (45, V.int i), (44, V.int L.length), (43, .acc 0 1 L.length), (7, .ptr 2 0), (8, V.int p.2), (5, .acc 0 1 L.length), (6, .acc 1 1 k), (0, V.int songs), (1, V.list 1 (rows l))], [(2, some ⟨3, [V.int p.1]⟩), (0, some ⟨3, row (nats L)⟩), (1, some ⟨3, row (nats o)⟩)], []⟩) (fun q => q ≤ R.length) (fun q => R.length - q) 0 (Nat.zero_le _) (Sub.env ⟨rfl, by simp [Env.get, hRl], rfl, rfl, rfl, rfl, rfl, rfl, rfl, rfl, rfl, rfl, rfl, rfl, rfl, rfl, rfl, rfl, trivial⟩) ?_
        intro q hq
        repeat' (first
          | refine T.seq ?_
          | refine T.region ?_
          | refine Seq.nil ?_
          | refine Seq.pureG (ok_lss rfl rfl (hN' _ (by decide)) rfl rfl) rfl (by first | exact .none rfl | exact .want rfl rfl rfl (hN' _ (by decide)) rfl | exact .want rfl rfl rfl (hN' _ (by decide)) (by assumption)) ?_)
        refine T.cond rfl (fun h => ?_) (fun h => ?_)
        · have hltq : q < R.length := by simpa using h
          have hat2 := ints_at hltq
          obtain ⟨ht1, ht2⟩ := hr3 R[q] (List.getElem_mem hltq)
          have hsnq : firstI o (R.take (q + 1)) = if firstI o (R.take q) < 0 ∧ ¬ R[q].toNat ∈ o then R[q] else firstI o (R.take q) := by
            rw [List.take_succ_eq_append_getElem hltq]
            exact firstI_snoc o _ _ fun x hx => (hr3 x (List.mem_of_mem_take hx)).1
          have hmem : decide (0 ≤ idxFrom R[q] (nats L) 0) = !decide (R[q].toNat ∈ o) := by rw [hL]; exact left_mem ht1 ht2
          have hLl : (nats L).length = L.length := by simp [nats]
          repeat' (first
            | refine Seq.pureG (ok_index_list rfl rfl (hN' _ (by decide)) rfl rfl (by omega) (by simpa using hat2)) rfl (by first | exact .none rfl | exact .want rfl rfl rfl (hN' _ (by decide)) rfl | exact .want rfl rfl rfl (hN' _ (by decide)) (by assumption)) ?_
            | refine Seq.pureG (ok_call_lend 0 1 (ints (nats L)) rfl rfl (hN' _ (by decide)) [.acc 0 1 L.length, V.int R[q]] rfl rfl (ints_one _) (by decide) (by rw [← hLl]; exact lend_ok (by simp [V.deep])) rfl (contains_fn (nats L) R[q] (by omega))) rfl (by first | exact .none rfl | exact .want rfl rfl rfl (hN' _ (by decide)) rfl | exact .want rfl rfl rfl (hN' _ (by decide)) (by assumption)) ?_
            | refine T.seq ?_
            | refine T.region ?_
            | refine T.block ?_
            | refine T.skip ?_
            | refine Seq.nil ?_
            | refine Seq.passC rfl rfl rfl rfl (hN' _ (by decide)) (by assumption) rfl (hN' _ (by decide)) ?_
            | refine Seq.pureG (ok_move_d rfl rfl (hN' _ (by decide)) rfl) rfl (by first | exact .none rfl | exact .want rfl rfl rfl (hN' _ (by decide)) rfl | exact .want rfl rfl rfl (hN' _ (by decide)) (by assumption)) ?_
            | refine Seq.pureG (ok_assign_d rfl rfl (hN' _ (by decide)) rfl) rfl (by first | exact .none rfl | exact .want rfl rfl rfl (hN' _ (by decide)) rfl | exact .want rfl rfl rfl (hN' _ (by decide)) (by assumption)) ?_
            | refine Seq.pureG (ok_move_acc rfl rfl (hN' _ (by decide)) rfl) rfl (by first | exact .none rfl | exact .want rfl rfl rfl (hN' _ (by decide)) rfl | exact .want rfl rfl rfl (hN' _ (by decide)) (by assumption)) ?_
            | refine Seq.pureG (ok_lss rfl rfl (hN' _ (by decide)) rfl rfl) rfl (by first | exact .none rfl | exact .want rfl rfl rfl (hN' _ (by decide)) rfl | exact .want rfl rfl rfl (hN' _ (by decide)) (by assumption)) ?_
            | refine Seq.pureG (ok_load_box rfl rfl (hN' _ (by decide)) rfl) rfl (by first | exact .none rfl | exact .want rfl rfl rfl (hN' _ (by decide)) rfl | exact .want rfl rfl rfl (hN' _ (by decide)) (by assumption)) ?_
            | refine Seq.pureG (ok_pick_t rfl rfl (hN' _ (by decide)) rfl (by assumption) rfl) rfl (by first | exact .none rfl | exact .want rfl rfl rfl (hN' _ (by decide)) rfl | exact .want rfl rfl rfl (hN' _ (by decide)) (by assumption)) ?_
            | refine Seq.pureG (ok_pick_f rfl rfl (hN' _ (by decide)) rfl (by assumption) rfl) rfl (by first | exact .none rfl | exact .want rfl rfl rfl (hN' _ (by decide)) rfl | exact .want rfl rfl rfl (hN' _ (by decide)) (by assumption)) ?_
            | refine Seq.split rfl rfl rfl rfl (fun hgd => ?_) (fun hgd => ?_))
          · have q1 : firstI o (R.take q) < 0 := by simpa using hgd
            refine T.cond rfl (fun h2 => ?_) (fun h2 => ?_)
            · rw [hmem] at h2
              have h2 : ¬ R[q].toNat ∈ o := by simpa using h2
              repeat' (first
                | refine T.region ?_
                | refine Seq.nil ?_
                | refine Seq.pureG (ok_move_d rfl rfl (hN' _ (by decide)) rfl) rfl (by first | exact .none rfl | exact .want rfl rfl rfl (hN' _ (by decide)) rfl | exact .want rfl rfl rfl (hN' _ (by decide)) (by assumption)) ?_
                | refine Seq.pureG (ok_assign_d rfl rfl (hN' _ (by decide)) rfl) rfl (by first | exact .none rfl | exact .want rfl rfl rfl (hN' _ (by decide)) rfl | exact .want rfl rfl rfl (hN' _ (by decide)) (by assumption)) ?_
                | refine Seq.pureG (ok_add rfl rfl (hN' _ (by decide)) rfl rfl) rfl (by first | exact .none rfl | exact .want rfl rfl rfl (hN' _ (by decide)) rfl | exact .want rfl rfl rfl (hN' _ (by decide)) (by assumption)) ?_)
              refine ⟨q + 1, by omega, by omega, ?_⟩
              rw [hsnq, if_pos ⟨q1, h2⟩]
              exact Sub.env ⟨by rw [← next_i64 hltq (by omega)]; rfl, rfl, rfl, rfl, rfl, rfl, rfl, rfl, rfl, rfl, rfl, rfl, rfl, rfl, rfl, rfl, rfl, rfl, trivial⟩
            · rw [hmem] at h2
              have h2 : R[q].toNat ∈ o := by simpa using h2
              repeat' (first
                | refine T.region ?_
                | refine T.skip ?_
                | refine Seq.nil ?_
                | refine Seq.pureG (ok_move_d rfl rfl (hN' _ (by decide)) rfl) rfl (by first | exact .none rfl | exact .want rfl rfl rfl (hN' _ (by decide)) rfl | exact .want rfl rfl rfl (hN' _ (by decide)) (by assumption)) ?_
                | refine Seq.pureG (ok_add rfl rfl (hN' _ (by decide)) rfl rfl) rfl (by first | exact .none rfl | exact .want rfl rfl rfl (hN' _ (by decide)) rfl | exact .want rfl rfl rfl (hN' _ (by decide)) (by assumption)) ?_)
              refine ⟨q + 1, by omega, by omega, ?_⟩
              rw [hsnq, if_neg (fun hh => hh.2 h2)]
              exact Sub.env ⟨by rw [← next_i64 hltq (by omega)]; rfl, rfl, rfl, rfl, rfl, rfl, rfl, rfl, rfl, rfl, rfl, rfl, rfl, rfl, rfl, rfl, rfl, rfl, trivial⟩
          · have q1 : ¬ firstI o (R.take q) < 0 := by simpa using hgd
            refine T.cond rfl (fun h2 => by cases h2) (fun h2 => ?_)
            repeat' (first
              | refine T.region ?_
              | refine T.skip ?_
              | refine Seq.nil ?_
              | refine Seq.pureG (ok_move_d rfl rfl (hN' _ (by decide)) rfl) rfl (by first | exact .none rfl | exact .want rfl rfl rfl (hN' _ (by decide)) rfl | exact .want rfl rfl rfl (hN' _ (by decide)) (by assumption)) ?_
              | refine Seq.pureG (ok_add rfl rfl (hN' _ (by decide)) rfl rfl) rfl (by first | exact .none rfl | exact .want rfl rfl rfl (hN' _ (by decide)) rfl | exact .want rfl rfl rfl (hN' _ (by decide)) (by assumption)) ?_)
            refine ⟨q + 1, by omega, by omega, ?_⟩
            rw [hsnq, if_neg (fun hh => q1 hh.1)]
            exact Sub.env ⟨by rw [← next_i64 hltq (by omega)]; rfl, rfl, rfl, rfl, rfl, rfl, rfl, rfl, rfl, rfl, rfl, rfl, rfl, rfl, rfl, rfl, rfl, rfl, trivial⟩
        · obtain rfl := loop_end hq h
          rw [List.take_length]
          refine T.exit ?_
          show T C _ _ _
          repeat' (first
            | refine T.seq ?_
            | refine T.region ?_
            | refine Seq.nil ?_
            | refine Seq.pureG (ok_move_d rfl rfl (hN' _ (by decide)) rfl) rfl (by first | exact .none rfl | exact .want rfl rfl rfl (hN' _ (by decide)) rfl | exact .want rfl rfl rfl (hN' _ (by decide)) (by assumption)) ?_
            | refine Seq.pureG (ok_eql rfl rfl (hN' _ (by decide)) rfl rfl) rfl (by first | exact .none rfl | exact .want rfl rfl rfl (hN' _ (by decide)) rfl | exact .want rfl rfl rfl (hN' _ (by decide)) (by assumption)) ?_)
          have hvs := votes_snoc o (l.take j) R s
          rw [← htk] at hvs
          refine T.cond rfl (fun h2 => ?_) (fun h2 => ?_)
          · have h2 : firstI o R = (s : Int) := by simpa using h2
            have hw : IntKind.i64.wrap ((votes o (l.take j) s : Int) + 1) = ((votes o (l.take (j + 1)) s : Nat) : Int) := by
              rw [wrap_i64 (by omega) (by omega), hvs, if_pos ((firstI_eq o R s).1 h2)]; simp
            repeat' (first
              | refine T.region ?_
              | refine Seq.nil ?_
              | refine Seq.pureG (ok_move_d rfl rfl (hN' _ (by decide)) rfl) rfl (by first | exact .none rfl | exact .want rfl rfl rfl (hN' _ (by decide)) rfl | exact .want rfl rfl rfl (hN' _ (by decide)) (by assumption)) ?_
              | refine Seq.pureG (ok_assign_d rfl rfl (hN' _ (by decide)) rfl) rfl (by first | exact .none rfl | exact .want rfl rfl rfl (hN' _ (by decide)) rfl | exact .want rfl rfl rfl (hN' _ (by decide)) (by assumption)) ?_
              | refine Seq.pureG (ok_add rfl rfl (hN' _ (by decide)) rfl rfl) rfl (by first | exact .none rfl | exact .want rfl rfl rfl (hN' _ (by decide)) rfl | exact .want rfl rfl rfl (hN' _ (by decide)) (by assumption)) ?_)
            refine ⟨j + 1, by omega, by omega, ?_⟩
            exact Sub.env ⟨by rw [← next_i64 hltj (by omega)]; rfl, rfl, rfl, by rw [← hw]; rfl, rfl, rfl, rfl, rfl, rfl, rfl, rfl, rfl, rfl, rfl, trivial⟩
          · have h2 : ¬ firstI o R = (s : Int) := by simpa using h2
            have hw : votes o (l.take (j + 1)) s = votes o (l.take j) s := by rw [hvs, if_neg (fun hh => h2 ((firstI_eq o R s).2 hh))]; rfl
            repeat' (first
              | refine T.region ?_
              | refine T.skip ?_
              | refine Seq.nil ?_
              | refine Seq.pureG (ok_move_d rfl rfl (hN' _ (by decide)) rfl) rfl (by first | exact .none rfl | exact .want rfl rfl rfl (hN' _ (by decide)) rfl | exact .want rfl rfl rfl (hN' _ (by decide)) (by assumption)) ?_
              | refine Seq.pureG (ok_add rfl rfl (hN' _ (by decide)) rfl rfl) rfl (by first | exact .none rfl | exact .want rfl rfl rfl (hN' _ (by decide)) rfl | exact .want rfl rfl rfl (hN' _ (by decide)) (by assumption)) ?_)
            refine ⟨j + 1, by omega, by omega, ?_⟩
            rw [hw]
            exact Sub.env ⟨by rw [← next_i64 hltj (by omega)]; rfl, rfl, rfl, rfl, rfl, rfl, rfl, rfl, rfl, rfl, rfl, rfl, rfl, rfl, trivial⟩
      · obtain rfl := loop_end hj h
        rw [List.take_length]
        refine T.exit ?_
        show T C _ _ _
        repeat' (first
          | refine T.seq ?_
          | refine T.region ?_
          | refine Seq.nil ?_
          | refine Seq.pureG (ok_move_d rfl rfl (hN' _ (by decide)) rfl) rfl (by first | exact .none rfl | exact .want rfl rfl rfl (hN' _ (by decide)) rfl | exact .want rfl rfl rfl (hN' _ (by decide)) (by assumption)) ?_
          | refine Seq.pureG (ok_leq rfl rfl (hN' _ (by decide)) rfl rfl) rfl (by first | exact .none rfl | exact .want rfl rfl rfl (hN' _ (by decide)) rfl | exact .want rfl rfl rfl (hN' _ (by decide)) (by assumption)) ?_)
        refine T.cond rfl (fun h2 => ?_) (fun h2 => ?_)
        · have h2 : (votes o l s : Int) ≤ p.2 := by simpa using h2
          repeat' (first
            | refine Seq.updG (ok_store_d rfl rfl rfl rfl rfl rfl Nat.zero_lt_one) rfl (by first | exact .none rfl | exact .want rfl rfl rfl (hN' _ (by decide)) rfl | exact .want rfl rfl rfl (hN' _ (by decide)) (by assumption)) ?_
            | refine T.region ?_
            | refine Seq.nil ?_
            | refine Seq.pureG (ok_move_d rfl rfl (hN' _ (by decide)) rfl) rfl (by first | exact .none rfl | exact .want rfl rfl rfl (hN' _ (by decide)) rfl | exact .want rfl rfl rfl (hN' _ (by decide)) (by assumption)) ?_
            | refine Seq.pureG (ok_assign_d rfl rfl (hN' _ (by decide)) rfl) rfl (by first | exact .none rfl | exact .want rfl rfl rfl (hN' _ (by decide)) rfl | exact .want rfl rfl rfl (hN' _ (by decide)) (by assumption)) ?_
            | refine Seq.pureG (ok_add rfl rfl (hN' _ (by decide)) rfl rfl) rfl (by first | exact .none rfl | exact .want rfl rfl rfl (hN' _ (by decide)) rfl | exact .want rfl rfl rfl (hN' _ (by decide)) (by assumption)) ?_)
          refine ⟨i + 1, by omega, by omega, ?_⟩
          rw [hsn, rkStep, if_pos h2]
          exact Sub.drop ⟨by rw [← next_i64 hlti (by omega)]; rfl, rfl, rfl, rfl, rfl, rfl, rfl, rfl, rfl, trivial⟩ ⟨rfl, rfl, rfl, trivial⟩ rfl (by simp [storeIn, ins_row, V.insS, V.inS]) (fx0 hfx)
        · have h2 : ¬ (votes o l s : Int) ≤ p.2 := by simpa using h2
          repeat' (first
            | refine T.region ?_
            | refine T.skip ?_
            | refine Seq.nil ?_
            | refine Seq.pureG (ok_move_d rfl rfl (hN' _ (by decide)) rfl) rfl (by first | exact .none rfl | exact .want rfl rfl rfl (hN' _ (by decide)) rfl | exact .want rfl rfl rfl (hN' _ (by decide)) (by assumption)) ?_
            | refine Seq.pureG (ok_add rfl rfl (hN' _ (by decide)) rfl rfl) rfl (by first | exact .none rfl | exact .want rfl rfl rfl (hN' _ (by decide)) rfl | exact .want rfl rfl rfl (hN' _ (by decide)) (by assumption)) ?_)
          refine ⟨i + 1, by omega, by omega, ?_⟩
          rw [hsn, rkStep, if_neg h2]
          exact Sub.env ⟨by rw [← next_i64 hlti (by omega)]; rfl, rfl, rfl, rfl, rfl, rfl, rfl, rfl, rfl, trivial⟩
    · obtain rfl := loop_end hi h
      refine T.exit ?_
      show T C _ _ _
      obtain ⟨s, hs1, hs2, hs3, hs4⟩ := elim_last songs l (k := k) (by omega)
      rw [← ho] at hs2 hs3 hs4
      obtain ⟨x1, x2, x3⟩ := elim_left songs l (k + 1) (by omega)
      rw [hs4] at x1
      have hp1 : p.1 = (s : Int) := by
        rw [hp, List.take_length, rk_last (votes o l) l.length (fun e => by rw [e] at e1; simp at e1; omega) (fun s hs => (hLs s hs).2)]
        rw [← hL] at hs3
        exact hs3
      have hdel : DoesS Try.prog 8 [.acc 0 1 L.length, V.d (.clo 9 [.box [.val (.int .i64 s)]])] [(0, some ⟨3, row (nats L)⟩)] (.acc 0 1 (songs - (k + 1))) [(0, some ⟨3, row (nats (leftOf songs (o ++ [s])))⟩)] := by
        have := delete_fn (nats L) 9 [.box [.val (.int .i64 s)]] (fun x => decide (x = (s : Int))) (fun x => ranked1_fn x s) (by simp [nats]; omega)
        rw [nats_filter, hL, ← left_snoc] at this
        rw [hL, ← x1]
        simpa [nats] using this
      rw [hp1]
      refine T.sub (Sub.freezeBox 2 7 [.val (.int .i64 s)] rfl rfl (by simp)) ?_
      have hol : (nats o).length = k := by simp [nats, e2]
      repeat' (first
        | refine Seq.pureG (ok_build1 rfl rfl (hN' _ (by decide)) rfl rfl) rfl (by first | exact .none rfl | exact .want rfl rfl rfl (hN' _ (by decide)) rfl | exact .want rfl rfl rfl (hN' _ (by decide)) (by assumption)) ?_
        | refine Seq.appG (ok_append1 3 rfl rfl (hN' _ (by decide)) rfl rfl rfl rfl rfl rfl (by rw [row_len, hol]) (by omega) (by simp [maxLen]; omega)) rfl (by first | exact .none rfl | exact .want rfl rfl rfl (hN' _ (by decide)) rfl | exact .want rfl rfl rfl (hN' _ (by decide)) (by assumption)) ?_
        | refine Seq.pureG (ok_makeFunc_d rfl rfl (hN' _ (by decide)) [.box [.val (.int .i64 s)]] rfl) rfl (by first | exact .none rfl | exact .want rfl rfl rfl (hN' _ (by decide)) rfl | exact .want rfl rfl rfl (hN' _ (by decide)) (by assumption)) ?_
        | refine Seq.consG (.plain (Ok.entersS (nm [0]) (fun d hd => by cases hd; exact hN' _ (by decide)) (by simp) (enters_func rfl hdel.enter (vs := V.rens (nm [0]) [.acc 0 1 L.length, V.d (.clo 9 [.box [.val (.int .i64 s)]])]) rfl) hdel ⟨by rw [rens_row]; rfl, trivial⟩ rfl rfl rfl rfl rfl (by simp [storeIn, ins_row]) (by simp [storeIn, ins_row]) rfl) rfl) ?_
        | refine T.seq ?_
        | refine T.region ?_
        | refine Seq.nil ?_
        | refine Seq.pureG (ok_move_acc rfl rfl (hN' _ (by decide)) rfl) rfl (by first | exact .none rfl | exact .want rfl rfl rfl (hN' _ (by decide)) rfl | exact .want rfl rfl rfl (hN' _ (by decide)) (by assumption)) ?_
        | refine Seq.pureG (ok_assign_acc rfl rfl (hN' _ (by decide)) rfl) rfl (by first | exact .none rfl | exact .want rfl rfl rfl (hN' _ (by decide)) rfl | exact .want rfl rfl rfl (hN' _ (by decide)) (by assumption)) ?_
        | refine Seq.pureG (ok_load_box rfl rfl (hN' _ (by decide)) rfl) rfl (by first | exact .none rfl | exact .want rfl rfl rfl (hN' _ (by decide)) rfl | exact .want rfl rfl rfl (hN' _ (by decide)) (by assumption)) ?_)
      refine ⟨k + 1, by omega, by omega, ?_⟩
      rw [hs4]
      refine Sub.ren (nm [0, 3]) ⟨rfl, rfl, rfl, rfl, trivial⟩ ⟨?_, ?_, trivial⟩ rfl rfl (by simp [storeIn, ins_row]) (fx0 hfx)
      · simp only [renS, renO, rens_row]; rfl
      · rw [rens_row, show nats (o ++ [s]) = nats o ++ [(s : Int)] by simp [nats], row_snoc]
        rfl
  · have hke : k = songs - 1 := by
      have : ¬ 1 < L.length := by have := of_decide_eq_false h; omega
      omega
    rw [hke] at ho
    have hwin := winner_left songs l g1 g2
    rw [← ho, ← hL] at hwin
    rw [← ho] at hrun
    have hol : (nats o).length = k := by simp [nats, e2]
    have heq2 : Does Try.prog 12 [V.list 1 (ints (nats L)), V.list 1 (ints [winner songs l])] (V.b true) := by rw [hwin]; exact equal_self _ (by simp)
    have hLl : (nats L).length = L.length := by simp [nats]
    refine T.exit ?_
    show T C _ _ _
    obtain ⟨over, hover⟩ : ∃ over, over = overOf songs l := ⟨_, rfl⟩
    rw [← hover] at hduel
    have hsq : Square songs over := by rw [hover]; exact overOf_square songs l
    have hol2 : (rows over).length = songs := by rw [rows_len]; exact hsq.len
    rw [← e1]
    repeat' (first
      | refine Seq.pureG (ok_call rfl rfl (hN' _ (by decide)) [V.int songs, V.list 1 (rows l)] rfl rfl hrun rfl) rfl (by first | exact .none rfl | exact .want rfl rfl rfl (hN' _ (by decide)) rfl | exact .want rfl rfl rfl (hN' _ (by decide)) (by assumption)) ?_
      | refine Seq.pureG (ok_call rfl rfl (hN' _ (by decide)) [V.int songs, V.list 1 (rows l)] rfl rfl hduel rfl) rfl (by first | exact .none rfl | exact .want rfl rfl rfl (hN' _ (by decide)) rfl | exact .want rfl rfl rfl (hN' _ (by decide)) (by assumption)) ?_
      | refine Seq.pureG (ok_call_lend 1 1 (ints (nats o)) rfl rfl (hN' _ (by decide)) [V.list 1 (ints (nats o)), .acc 1 1 k] rfl rfl (ints_one _) (by decide) (by rw [← hol]; exact lend_ok (by simp [V.deep])) rfl (equal_self (nats o) (by omega))) rfl (by first | exact .none rfl | exact .want rfl rfl rfl (hN' _ (by decide)) rfl | exact .want rfl rfl rfl (hN' _ (by decide)) (by assumption)) ?_
      | refine Seq.pureG (ok_build1 rfl rfl (hN' _ (by decide)) rfl rfl) rfl (by first | exact .none rfl | exact .want rfl rfl rfl (hN' _ (by decide)) rfl | exact .want rfl rfl rfl (hN' _ (by decide)) (by assumption)) ?_
      | refine Seq.pureG (ok_call_lend 0 1 (ints (nats L)) rfl rfl (hN' _ (by decide)) [.acc 0 1 L.length, V.list 1 (ints [winner songs l])] rfl rfl (ints_one _) (by decide) (by rw [← hLl]; exact lend_ok (by simp [V.deep])) rfl heq2) rfl (by first | exact .none rfl | exact .want rfl rfl rfl (hN' _ (by decide)) rfl | exact .want rfl rfl rfl (hN' _ (by decide)) (by assumption)) ?_
      | refine T.seq ?_
      | refine T.region ?_
      | refine Seq.nil ?_
      | refine Seq.pureG (ok_move_d rfl rfl (hN' _ (by decide)) rfl) rfl (by first | exact .none rfl | exact .want rfl rfl rfl (hN' _ (by decide)) rfl | exact .want rfl rfl rfl (hN' _ (by decide)) (by assumption)) ?_
      | refine Seq.pureG (ok_assign_d rfl rfl (hN' _ (by decide)) rfl) rfl (by first | exact .none rfl | exact .want rfl rfl rfl (hN' _ (by decide)) rfl | exact .want rfl rfl rfl (hN' _ (by decide)) (by assumption)) ?_
      | refine Seq.pureG (ok_move_acc rfl rfl (hN' _ (by decide)) rfl) rfl (by first | exact .none rfl | exact .want rfl rfl rfl (hN' _ (by decide)) rfl | exact .want rfl rfl rfl (hN' _ (by decide)) (by assumption)) ?_
      | refine Seq.pureG (ok_move_tup rfl rfl (hN' _ (by decide)) rfl) rfl (by first | exact .none rfl | exact .want rfl rfl rfl (hN' _ (by decide)) rfl | exact .want rfl rfl rfl (hN' _ (by decide)) (by assumption)) ?_
      | refine Seq.pureG (ok_len_list rfl rfl (hN' _ (by decide)) rfl) rfl (by first | exact .none rfl | exact .want rfl rfl rfl (hN' _ (by decide)) rfl | exact .want rfl rfl rfl (hN' _ (by decide)) (by assumption)) ?_
      | refine Seq.pureG (ok_neq rfl rfl (hN' _ (by decide)) rfl rfl) rfl (by first | exact .none rfl | exact .want rfl rfl rfl (hN' _ (by decide)) rfl | exact .want rfl rfl rfl (hN' _ (by decide)) (by assumption)) ?_
      | refine Seq.pureG (ok_not rfl rfl (hN' _ (by decide)) rfl) rfl (by first | exact .none rfl | exact .want rfl rfl rfl (hN' _ (by decide)) rfl | exact .want rfl rfl rfl (hN' _ (by decide)) (by assumption)) ?_
      | refine Seq.pureG (ok_extract rfl rfl (hN' _ (by decide)) rfl rfl) rfl (by first | exact .none rfl | exact .want rfl rfl rfl (hN' _ (by decide)) rfl | exact .want rfl rfl rfl (hN' _ (by decide)) (by assumption)) ?_
      | refine Seq.pureG (ok_pick_f rfl rfl (hN' _ (by decide)) rfl rfl rfl) rfl (by first | exact .none rfl | exact .want rfl rfl rfl (hN' _ (by decide)) rfl | exact .want rfl rfl rfl (hN' _ (by decide)) (by assumption)) ?_)
    refine T.cond rfl (fun h => ?_) (fun h => ?_)
    · simp [hol2] at h
    repeat' (first
      | refine Seq.makeG (ok_make 2 rfl rfl (hN' _ (by decide)) rfl rfl rfl rfl (by omega) (by simp [maxLen]; omega)) rfl (by first | exact .none rfl | exact .want rfl rfl rfl (hN' _ (by decide)) rfl | exact .want rfl rfl rfl (hN' _ (by decide)) (by assumption)) ?_
      | refine T.seq ?_
      | refine T.region ?_
      | refine T.block ?_
      | refine T.skip ?_
      | refine Seq.nil ?_
      | refine Seq.pureG (ok_move_d rfl rfl (hN' _ (by decide)) rfl) rfl (by first | exact .none rfl | exact .want rfl rfl rfl (hN' _ (by decide)) rfl | exact .want rfl rfl rfl (hN' _ (by decide)) (by assumption)) ?_
      | refine Seq.pureG (ok_assign_acc rfl rfl (hN' _ (by decide)) rfl) rfl (by first | exact .none rfl | exact .want rfl rfl rfl (hN' _ (by decide)) rfl | exact .want rfl rfl rfl (hN' _ (by decide)) (by assumption)) ?_)
    obtain ⟨ov, hov⟩ : ∃ ov : Nat → List Int, ov = fun a => (List.range songs).map fun b => (cnt l a b : Int) := ⟨_, rfl⟩
    have hovl : ∀ a, (ov a).length = songs := fun a => by rw [hov]; simp
    have hcl : ∀ a, (oc songs ov a).length = songs := fun a => by simp [oc]
    refine T.loopP (fun a : Nat => ⟨[(131, V.int a), (130, V.int songs), (23, .acc 0 1 songs), (20, V.list 1 (rows over)), (21, V.int (best songs over)), (0, V.int songs), (1, V.list 1 (rows l))], [(0, some ⟨24, oc songs ov a⟩)], []⟩) (fun a => a ≤ songs) (fun a => songs - a) 0 (Nat.zero_le _) (Sub.ren (nm [2]) ⟨rfl, rfl, rfl, rfl, rfl, rfl, rfl, trivial⟩ ⟨?_, trivial⟩ rfl rfl (by simp [storeIn, ins_oc]) (fx0 hfx)) ?_
    · rw [rens_oc, oc_zero]; rfl
    intro a ha
    repeat' (first
      | refine T.seq ?_
      | refine T.region ?_
      | refine Seq.nil ?_
      | refine Seq.pureG (ok_lss rfl rfl (hN' _ (by decide)) rfl rfl) rfl (by first | exact .none rfl | exact .want rfl rfl rfl (hN' _ (by decide)) rfl | exact .want rfl rfl rfl (hN' _ (by decide)) (by assumption)) ?_)
    refine T.cond rfl (fun h => ?_) (fun h => ?_)
    · have hlta : a < songs := by simpa using h
      have hca : (oc songs ov a)[a]? = some V.nil := oc_at hlta
      repeat' (first
        | refine T.seq ?_
        | refine T.region ?_
        | refine T.block ?_
        | refine T.skip ?_
        | refine Seq.nil ?_
        | refine Seq.pureG (ok_move_d rfl rfl (hN' _ (by decide)) rfl) rfl (by first | exact .none rfl | exact .want rfl rfl rfl (hN' _ (by decide)) rfl | exact .want rfl rfl rfl (hN' _ (by decide)) (by assumption)) ?_
        | refine Seq.pureG (ok_assign_d rfl rfl (hN' _ (by decide)) rfl) rfl (by first | exact .none rfl | exact .want rfl rfl rfl (hN' _ (by decide)) rfl | exact .want rfl rfl rfl (hN' _ (by decide)) (by assumption)) ?_)
      refine T.sub (Sub.beginAt 0 a 1 1 3 rfl hca rfl) ?_
      refine T.loopP (fun b : Nat => ⟨[(135, V.int b), (134, V.int songs), (24, V.int a), (131, V.int a), (130, V.int songs), (23, .acc 0 1 songs), (20, V.list 1 (rows over)), (21, V.int (best songs over)), (0, V.int songs), (1, V.list 1 (rows l))], [(0, some ⟨24, (oc songs ov a).set a (.acc 1 1 b)⟩), (1, some ⟨3, row ((List.range b).map fun b => (cnt l a b : Int))⟩)], []⟩) (fun b => b ≤ songs) (fun b => songs - b) 0 (Nat.zero_le _) (Sub.drop ⟨rfl, rfl, rfl, rfl, rfl, rfl, rfl, rfl, rfl, rfl, trivial⟩ ⟨rfl, rfl, trivial⟩ rfl (by simp only [storeIn, ins_row, Bool.and_true]; exact ins_set (ins_oc _ _ _ _) rfl) (fx0 hfx)) ?_
      intro b hb
      repeat' (first
        | refine T.seq ?_
        | refine T.region ?_
        | refine Seq.nil ?_
        | refine Seq.pureG (ok_lss rfl rfl (hN' _ (by decide)) rfl rfl) rfl (by first | exact .none rfl | exact .want rfl rfl rfl (hN' _ (by decide)) rfl | exact .want rfl rfl rfl (hN' _ (by decide)) (by assumption)) ?_)
      refine T.cond rfl (fun h => ?_) (fun h => ?_)
      · have hltb : b < songs := by simpa using h
        have hset : ((oc songs ov a).set a (.acc 1 1 b))[(a : Int).toNat * 1]? = some (.acc 1 1 b) := by
          rw [List.getElem?_set]; simp [hcl, hlta]
        repeat' (first
          | refine T.seq ?_
          | refine T.region ?_
          | refine T.block ?_
          | refine T.skip ?_
          | refine Seq.nil ?_
          | refine Seq.pureG (ok_move_d rfl rfl (hN' _ (by decide)) rfl) rfl (by first | exact .none rfl | exact .want rfl rfl rfl (hN' _ (by decide)) rfl | exact .want rfl rfl rfl (hN' _ (by decide)) (by assumption)) ?_
          | refine Seq.pureG (ok_assign_d rfl rfl (hN' _ (by decide)) rfl) rfl (by first | exact .none rfl | exact .want rfl rfl rfl (hN' _ (by decide)) rfl | exact .want rfl rfl rfl (hN' _ (by decide)) (by assumption)) ?_
          | refine Seq.pureG (ok_len_list rfl rfl (hN' _ (by decide)) rfl) rfl (by first | exact .none rfl | exact .want rfl rfl rfl (hN' _ (by decide)) rfl | exact .want rfl rfl rfl (hN' _ (by decide)) (by assumption)) ?_)
        refine T.loopP (fun j : Nat => ⟨[(140, V.int j), (139, V.int l.length), (138, V.list 1 (rows l)), (26, V.int (cnt (l.take j) a b)), (25, V.int b), (135, V.int b), (134, V.int songs), (24, V.int a), (131, V.int a), (130, V.int songs), (23, .acc 0 1 songs), (20, V.list 1 (rows over)), (21, V.int (best songs over)), (0, V.int songs), (1, V.list 1 (rows l))], [(0, some ⟨24, (oc songs ov a).set a (.acc 1 1 b)⟩), (1, some ⟨3, row ((List.range b).map fun b => (cnt l a b : Int))⟩)], []⟩) (fun j => j ≤ l.length) (fun j => l.length - j) 0 (Nat.zero_le _) (Sub.env ⟨rfl, by simp [Env.get, hrl], rfl, rfl, rfl, rfl, rfl, rfl, rfl, rfl, rfl, rfl, rfl, rfl, rfl, trivial⟩) ?_
        intro j hj
        repeat' (first
          | refine T.seq ?_
          | refine T.region ?_
          | refine Seq.nil ?_
          | refine Seq.pureG (ok_lss rfl rfl (hN' _ (by decide)) rfl rfl) rfl (by first | exact .none rfl | exact .want rfl rfl rfl (hN' _ (by decide)) rfl | exact .want rfl rfl rfl (hN' _ (by decide)) (by assumption)) ?_)
        refine T.cond rfl (fun h => ?_) (fun h => ?_)
        · have hltj : j < l.length := by simpa using h
          have hat := rows_at hltj
          obtain ⟨hr1, hr2, hr3⟩ := g4 l[j] (List.getElem_mem hltj)
          have htk : l.take (j + 1) = l.take j ++ [l[j]] := List.take_succ_eq_append_getElem hltj
          obtain ⟨R, hR⟩ : ∃ R, R = l[j] := ⟨_, rfl⟩
          rw [← hR] at hat hr1 hr2 hr3 htk
          have hcle : cnt (l.take j) a b ≤ 200 := by have := cnt_le (l.take j) a b; simp at this; omega
          have hH := hit_eq R a b
          have hsn := cnt_snoc (l.take j) R a b
          rw [← htk] at hsn
          obtain ⟨x, hx⟩ : ∃ x, x = idxFrom a R 0 := ⟨_, rfl⟩
          obtain ⟨y, hy⟩ : ∃ y, y = idxFrom b R 0 := ⟨_, rfl⟩
          have hfx1 : Does Try.prog 13 [V.list 1 (ints R), V.int a] (V.int x) := by rw [hx]; exact index_fn R a (by omega)
          have hfy1 : Does Try.prog 13 [V.list 1 (ints R), V.int b] (V.int y) := by rw [hy]; exact index_fn R b (by omega)
          rw [← hx, ← hy] at hH
          have hyes : hit R a b = true → IntKind.i64.wrap ((cnt (l.take j) a b : Int) + 1) = ((cnt (l.take (j + 1)) a b : Nat) : Int) := fun hh => by
            rw [wrap_i64 (by omega) (by omega), hsn, if_pos hh]; simp
          have hno : hit R a b = false → cnt (l.take (j + 1)) a b = cnt (l.take j) a b := fun hh => by rw [hsn, if_neg (by rw [hh]; simp)]; rfl
          repeat' (first
            | refine Seq.pureG (ok_index_list rfl rfl (hN' _ (by decide)) rfl rfl (by omega) (by simpa using hat)) rfl (by first | exact .none rfl | exact .want rfl rfl rfl (hN' _ (by decide)) rfl | exact .want rfl rfl rfl (hN' _ (by decide)) (by assumption)) ?_
            | refine Seq.pureG (ok_call rfl rfl (hN' _ (by decide)) [V.list 1 (ints R), V.int a] rfl rfl hfx1 rfl) rfl (by first | exact .none rfl | exact .want rfl rfl rfl (hN' _ (by decide)) rfl | exact .want rfl rfl rfl (hN' _ (by decide)) (by assumption)) ?_
            | refine Seq.pureG (ok_call rfl rfl (hN' _ (by decide)) [V.list 1 (ints R), V.int b] rfl rfl hfy1 rfl) rfl (by first | exact .none rfl | exact .want rfl rfl rfl (hN' _ (by decide)) rfl | exact .want rfl rfl rfl (hN' _ (by decide)) (by assumption)) ?_
            | refine T.seq ?_
            | refine T.region ?_
            | refine T.block ?_
            | refine T.skip ?_
            | refine Seq.nil ?_
            | refine Seq.passC rfl rfl rfl rfl (hN' _ (by decide)) rfl rfl (hN' _ (by decide)) ?_
            | refine Seq.passC rfl rfl rfl rfl (hN' _ (by decide)) (by assumption) rfl (hN' _ (by decide)) ?_
            | refine Seq.passU rfl rfl rfl (hN' _ (by decide)) rfl (hN' _ (by decide)) ?_
            | refine Seq.pureG (ok_move_d rfl rfl (hN' _ (by decide)) rfl) rfl (by first | exact .none rfl | exact .want rfl rfl rfl (hN' _ (by decide)) rfl | exact .want rfl rfl rfl (hN' _ (by decide)) (by assumption)) ?_
            | refine Seq.pureG (ok_assign_d rfl rfl (hN' _ (by decide)) rfl) rfl (by first | exact .none rfl | exact .want rfl rfl rfl (hN' _ (by decide)) rfl | exact .want rfl rfl rfl (hN' _ (by decide)) (by assumption)) ?_
            | refine Seq.pureG (ok_lss rfl rfl (hN' _ (by decide)) rfl rfl) rfl (by first | exact .none rfl | exact .want rfl rfl rfl (hN' _ (by decide)) rfl | exact .want rfl rfl rfl (hN' _ (by decide)) (by assumption)) ?_
            | refine Seq.pureG (ok_geq rfl rfl (hN' _ (by decide)) rfl rfl) rfl (by first | exact .none rfl | exact .want rfl rfl rfl (hN' _ (by decide)) rfl | exact .want rfl rfl rfl (hN' _ (by decide)) (by assumption)) ?_
            | refine Seq.pureG (ok_neq rfl rfl (hN' _ (by decide)) rfl rfl) rfl (by first | exact .none rfl | exact .want rfl rfl rfl (hN' _ (by decide)) rfl | exact .want rfl rfl rfl (hN' _ (by decide)) (by assumption)) ?_
            | refine Seq.pureG (ok_load_box rfl rfl (hN' _ (by decide)) rfl) rfl (by first | exact .none rfl | exact .want rfl rfl rfl (hN' _ (by decide)) rfl | exact .want rfl rfl rfl (hN' _ (by decide)) (by assumption)) ?_
            | refine Seq.pureG (ok_pick_f rfl rfl (hN' _ (by decide)) rfl rfl rfl) rfl (by first | exact .none rfl | exact .want rfl rfl rfl (hN' _ (by decide)) rfl | exact .want rfl rfl rfl (hN' _ (by decide)) (by assumption)) ?_
            | refine Seq.pureG (ok_pick_t rfl rfl (hN' _ (by decide)) rfl (by assumption) rfl) rfl (by first | exact .none rfl | exact .want rfl rfl rfl (hN' _ (by decide)) rfl | exact .want rfl rfl rfl (hN' _ (by decide)) (by assumption)) ?_
            | refine Seq.pureG (ok_pick_f rfl rfl (hN' _ (by decide)) rfl (by assumption) rfl) rfl (by first | exact .none rfl | exact .want rfl rfl rfl (hN' _ (by decide)) rfl | exact .want rfl rfl rfl (hN' _ (by decide)) (by assumption)) ?_
            | refine Seq.split rfl rfl rfl rfl (fun hgd => ?_) (fun hgd => ?_))
          · refine T.cond rfl (fun h2 => ?_) (fun h2 => ?_)
            · have hh : hit R a b = true := by rw [hH, (by assumption : (!decide ((a : Int) = (b : Int))) = true), (by assumption : decide (0 ≤ x) = true), hgd, h2]; rfl
              repeat' (first
                | refine T.region ?_
                | refine Seq.nil ?_
                | refine Seq.pureG (ok_move_d rfl rfl (hN' _ (by decide)) rfl) rfl (by first | exact .none rfl | exact .want rfl rfl rfl (hN' _ (by decide)) rfl | exact .want rfl rfl rfl (hN' _ (by decide)) (by assumption)) ?_
                | refine Seq.pureG (ok_assign_d rfl rfl (hN' _ (by decide)) rfl) rfl (by first | exact .none rfl | exact .want rfl rfl rfl (hN' _ (by decide)) rfl | exact .want rfl rfl rfl (hN' _ (by decide)) (by assumption)) ?_
                | refine Seq.pureG (ok_add rfl rfl (hN' _ (by decide)) rfl rfl) rfl (by first | exact .none rfl | exact .want rfl rfl rfl (hN' _ (by decide)) rfl | exact .want rfl rfl rfl (hN' _ (by decide)) (by assumption)) ?_)
              refine ⟨j + 1, by omega, by omega, Sub.env ⟨by rw [← next_i64 hltj (by omega)]; rfl, rfl, rfl, by rw [← hyes hh]; rfl, rfl, rfl, rfl, rfl, rfl, rfl, rfl, rfl, rfl, rfl, rfl, trivial⟩⟩
            · have hh : hit R a b = false := by rw [hH, (by assumption : (!decide ((a : Int) = (b : Int))) = true), (by assumption : decide (0 ≤ x) = true), hgd, h2]; rfl
              repeat' (first
                | refine T.region ?_
                | refine T.skip ?_
                | refine Seq.nil ?_
                | refine Seq.pureG (ok_move_d rfl rfl (hN' _ (by decide)) rfl) rfl (by first | exact .none rfl | exact .want rfl rfl rfl (hN' _ (by decide)) rfl | exact .want rfl rfl rfl (hN' _ (by decide)) (by assumption)) ?_
                | refine Seq.pureG (ok_add rfl rfl (hN' _ (by decide)) rfl rfl) rfl (by first | exact .none rfl | exact .want rfl rfl rfl (hN' _ (by decide)) rfl | exact .want rfl rfl rfl (hN' _ (by decide)) (by assumption)) ?_)
              refine ⟨j + 1, by omega, by omega, ?_⟩
              rw [hno hh]
              exact Sub.env ⟨by rw [← next_i64 hltj (by omega)]; rfl, rfl, rfl, rfl, rfl, rfl, rfl, rfl, rfl, rfl, rfl, rfl, rfl, rfl, rfl, trivial⟩
          · have hh : hit R a b = true := by rw [hH, (by assumption : (!decide ((a : Int) = (b : Int))) = true), (by assumption : decide (0 ≤ x) = true), hgd]; rfl
            refine T.cond rfl (fun h2 => ?_) (fun h2 => by cases h2)
            repeat' (first
              | refine T.region ?_
              | refine Seq.nil ?_
              | refine Seq.pureG (ok_move_d rfl rfl (hN' _ (by decide)) rfl) rfl (by first | exact .none rfl | exact .want rfl rfl rfl (hN' _ (by decide)) rfl | exact .want rfl rfl rfl (hN' _ (by decide)) (by assumption)) ?_
              | refine Seq.pureG (ok_assign_d rfl rfl (hN' _ (by decide)) rfl) rfl (by first | exact .none rfl | exact .want rfl rfl rfl (hN' _ (by decide)) rfl | exact .want rfl rfl rfl (hN' _ (by decide)) (by assumption)) ?_
              | refine Seq.pureG (ok_add rfl rfl (hN' _ (by decide)) rfl rfl) rfl (by first | exact .none rfl | exact .want rfl rfl rfl (hN' _ (by decide)) rfl | exact .want rfl rfl rfl (hN' _ (by decide)) (by assumption)) ?_)
            refine ⟨j + 1, by omega, by omega, Sub.env ⟨by rw [← next_i64 hltj (by omega)]; rfl, rfl, rfl, by rw [← hyes hh]; rfl, rfl, rfl, rfl, rfl, rfl, rfl, rfl, rfl, rfl, rfl, rfl, trivial⟩⟩
          · have hh : hit R a b = false := by rw [hH, (by assumption : (!decide ((a : Int) = (b : Int))) = true), hgd]; rfl
            refine T.cond rfl (fun h2 => by cases h2) (fun h2 => ?_)
            repeat' (first
              | refine T.region ?_
              | refine T.skip ?_
              | refine Seq.nil ?_
              | refine Seq.pureG (ok_move_d rfl rfl (hN' _ (by decide)) rfl) rfl (by first | exact .none rfl | exact .want rfl rfl rfl (hN' _ (by decide)) rfl | exact .want rfl rfl rfl (hN' _ (by decide)) (by assumption)) ?_
              | refine Seq.pureG (ok_add rfl rfl (hN' _ (by decide)) rfl rfl) rfl (by first | exact .none rfl | exact .want rfl rfl rfl (hN' _ (by decide)) rfl | exact .want rfl rfl rfl (hN' _ (by decide)) (by assumption)) ?_)
            refine ⟨j + 1, by omega, by omega, ?_⟩
            rw [hno hh]
            exact Sub.env ⟨by rw [← next_i64 hltj (by omega)]; rfl, rfl, rfl, rfl, rfl, rfl, rfl, rfl, rfl, rfl, rfl, rfl, rfl, rfl, rfl, trivial⟩
          · have hh : hit R a b = false := by rw [hH, hgd]; rfl
            refine T.cond rfl (fun h2 => by cases h2) (fun h2 => ?_)
            repeat' (first
              | refine T.region ?_
              | refine T.skip ?_
              | refine Seq.nil ?_
              | refine Seq.pureG (ok_move_d rfl rfl (hN' _ (by decide)) rfl) rfl (by first | exact .none rfl | exact .want rfl rfl rfl (hN' _ (by decide)) rfl | exact .want rfl rfl rfl (hN' _ (by decide)) (by assumption)) ?_
              | refine Seq.pureG (ok_add rfl rfl (hN' _ (by decide)) rfl rfl) rfl (by first | exact .none rfl | exact .want rfl rfl rfl (hN' _ (by decide)) rfl | exact .want rfl rfl rfl (hN' _ (by decide)) (by assumption)) ?_)
            refine ⟨j + 1, by omega, by omega, ?_⟩
            rw [hno hh]
            exact Sub.env ⟨by rw [← next_i64 hltj (by omega)]; rfl, rfl, rfl, rfl, rfl, rfl, rfl, rfl, rfl, rfl, rfl, rfl, rfl, rfl, rfl, trivial⟩
        · obtain rfl := loop_end hj h
          rw [List.take_length]
          refine T.exit ?_
          show T C _ _ _
          repeat' (first
            | refine Seq.pureG (ok_index_acc rfl rfl (hN' _ (by decide)) rfl rfl (by omega) (by omega)) rfl (by first | exact .none rfl | exact .want rfl rfl rfl (hN' _ (by decide)) rfl | exact .want rfl rfl rfl (hN' _ (by decide)) (by assumption)) ?_
            | refine Seq.pureG (ok_load_ptr rfl rfl (hN' _ (by decide)) rfl rfl hset) rfl (by first | exact .none rfl | exact .want rfl rfl rfl (hN' _ (by decide)) rfl | exact .want rfl rfl rfl (hN' _ (by decide)) (by assumption)) ?_
            | refine Seq.pureG (ok_build1 rfl rfl (hN' _ (by decide)) rfl rfl) rfl (by first | exact .none rfl | exact .want rfl rfl rfl (hN' _ (by decide)) rfl | exact .want rfl rfl rfl (hN' _ (by decide)) (by assumption)) ?_
            | refine Seq.appG (ok_append1 2 rfl rfl (hN' _ (by decide)) rfl rfl rfl rfl rfl rfl (by rw [row_len]; simp) (by omega) (by simp [maxLen]; omega)) rfl (by first | exact .none rfl | exact .want rfl rfl rfl (hN' _ (by decide)) rfl | exact .want rfl rfl rfl (hN' _ (by decide)) (by assumption)) ?_
            | refine Seq.updG (ok_store_acc rfl rfl rfl rfl rfl (by simp [hcl]; omega)) rfl (by first | exact .none rfl | exact .want rfl rfl rfl (hN' _ (by decide)) rfl | exact .want rfl rfl rfl (hN' _ (by decide)) (by assumption)) ?_
            | refine T.region ?_
            | refine Seq.nil ?_
            | refine Seq.pureG (ok_move_d rfl rfl (hN' _ (by decide)) rfl) rfl (by first | exact .none rfl | exact .want rfl rfl rfl (hN' _ (by decide)) rfl | exact .want rfl rfl rfl (hN' _ (by decide)) (by assumption)) ?_
            | refine Seq.pureG (ok_move_acc rfl rfl (hN' _ (by decide)) rfl) rfl (by first | exact .none rfl | exact .want rfl rfl rfl (hN' _ (by decide)) rfl | exact .want rfl rfl rfl (hN' _ (by decide)) (by assumption)) ?_
            | refine Seq.pureG (ok_add rfl rfl (hN' _ (by decide)) rfl rfl) rfl (by first | exact .none rfl | exact .want rfl rfl rfl (hN' _ (by decide)) rfl | exact .want rfl rfl rfl (hN' _ (by decide)) (by assumption)) ?_)
          refine ⟨b + 1, by omega, by omega, Sub.ren (nm [0, 2]) ⟨by rw [← next_i64 hltb (by omega)]; rfl, rfl, rfl, rfl, rfl, rfl, rfl, rfl, rfl, rfl, trivial⟩ ⟨?_, ?_, trivial⟩ rfl rfl (by simp only [storeIn, ins_row, Bool.and_true]; exact ins_set (ins_oc _ _ _ _) rfl) (fx0 hfx)⟩
          · rw [rens_set, rens_oc]
            simp only [Store.get, nm, List.getD_cons_zero]
            rw [show ((a : Int)).toNat * 1 = a by simp, List.set_set]
            rfl
          · rw [rens_row, List.range_succ, List.map_append, List.map_cons, List.map_nil, row_snoc]
            rfl
      · obtain rfl := loop_end hb h
        refine T.exit ?_
        show T C _ _ _
        refine T.sub (Sub.freezeAt 0 a 1 1 (n := b) (es := ints (ov a)) rfl (by simp [hcl, hlta]) (by rw [hov]; rfl) (by decide) (ints_one _) (by decide) (by rw [ints_len, hovl]; omega)) ?_
        rw [show (ints (ov a)).take b = ints (ov a) from List.take_of_length_le (by rw [ints_len, hovl]; omega)]
        rw [List.set_set, oc_set (by omega)]
        have hoa : (rows over)[a]? = some [D.list 1 (ints (ov a))] := by
          have : over[a]? = some (ov a) := by rw [hover, overOf, hov, List.getElem?_map, List.getElem?_range (by omega)]; rfl
          rw [rows, List.getElem?_map, this]; rfl
        have hga : (oc b ov (a + 1))[(a : Int).toNat * 1]? = some (V.list 1 (ints (ov a))) := by simpa using oc_at' (by omega)
        repeat' (first
          | refine T.seq ?_)
        refine T.drawn mixed rfl ?_
        repeat' (first
          | refine Draw.pureG (ok_index_list rfl rfl (hN' _ (by decide)) rfl rfl (by omega) (by simpa using hoa)) rfl (by first | exact .none rfl | exact .want rfl rfl rfl (hN' _ (by decide)) rfl | exact .want rfl rfl rfl (hN' _ (by decide)) (by assumption)) ?_
          | refine Draw.pureG (ok_index_acc rfl rfl (hN' _ (by decide)) rfl rfl (by omega) (by omega)) rfl (by first | exact .none rfl | exact .want rfl rfl rfl (hN' _ (by decide)) rfl | exact .want rfl rfl rfl (hN' _ (by decide)) (by assumption)) ?_
          | refine Draw.pureG (ok_load_ptr rfl rfl (hN' _ (by decide)) rfl rfl hga) rfl (by first | exact .none rfl | exact .want rfl rfl rfl (hN' _ (by decide)) rfl | exact .want rfl rfl rfl (hN' _ (by decide)) (by assumption)) ?_
          | refine Draw.pureG (ok_call rfl rfl (hN' _ (by decide)) [V.list 1 (ints (ov a)), V.list 1 (ints (ov a))] rfl rfl (equal_self (ov a) (by rw [hovl]; omega)) rfl) rfl (by first | exact .none rfl | exact .want rfl rfl rfl (hN' _ (by decide)) rfl | exact .want rfl rfl rfl (hN' _ (by decide)) (by assumption)) ?_
          | refine Draw.pureG (ok_move_d rfl rfl (hN' _ (by decide)) rfl) rfl (by first | exact .none rfl | exact .want rfl rfl rfl (hN' _ (by decide)) rfl | exact .want rfl rfl rfl (hN' _ (by decide)) (by assumption)) ?_
          | refine Draw.pureG (ok_move_acc rfl rfl (hN' _ (by decide)) rfl) rfl (by first | exact .none rfl | exact .want rfl rfl rfl (hN' _ (by decide)) rfl | exact .want rfl rfl rfl (hN' _ (by decide)) (by assumption)) ?_
          | refine Draw.pureG (ok_not rfl rfl (hN' _ (by decide)) rfl) rfl (by first | exact .none rfl | exact .want rfl rfl rfl (hN' _ (by decide)) rfl | exact .want rfl rfl rfl (hN' _ (by decide)) (by assumption)) ?_
          | refine Draw.pureG (ok_load_box rfl rfl (hN' _ (by decide)) rfl) rfl (by first | exact .none rfl | exact .want rfl rfl rfl (hN' _ (by decide)) rfl | exact .want rfl rfl rfl (hN' _ (by decide)) (by assumption)) ?_)
        refine Draw.nil ⟨by kernel_rfl, ?_⟩
        show T C _ _ _
        refine T.cond rfl (fun h2 => by cases h2) (fun h2 => ?_)
        repeat' (first
          | refine T.region ?_
          | refine T.skip ?_
          | refine Seq.nil ?_
          | refine Seq.pureG (ok_move_d rfl rfl (hN' _ (by decide)) rfl) rfl (by first | exact .none rfl | exact .want rfl rfl rfl (hN' _ (by decide)) rfl | exact .want rfl rfl rfl (hN' _ (by decide)) (by assumption)) ?_
          | refine Seq.pureG (ok_add rfl rfl (hN' _ (by decide)) rfl rfl) rfl (by first | exact .none rfl | exact .want rfl rfl rfl (hN' _ (by decide)) rfl | exact .want rfl rfl rfl (hN' _ (by decide)) (by assumption)) ?_)
        exact ⟨a + 1, by omega, by omega, Sub.drop ⟨by rw [← next_i64 hlta (by omega)]; rfl, rfl, rfl, rfl, rfl, rfl, rfl, trivial⟩ ⟨rfl, trivial⟩ rfl (by simp [storeIn, ins_oc]) (fx0 hfx)⟩
    · obtain rfl := loop_end ha h
      refine T.exit ?_
      show T C _ _ _
      have hocr : oc a ov a = rrow over := by rw [oc_all, hover, overOf, hov]
      rw [hocr]
      have hol3 := hsq.len
      refine T.sub (Sub.freeze1 0 1 23 (es := rows over) rfl rfl hol2.symm (rows_one _) (by decide)) ?_
      repeat' (first
        | refine T.seq ?_
        | refine T.region ?_
        | refine T.block ?_
        | refine Seq.nil ?_
        | refine Seq.pureG (ok_move_d rfl rfl (hN' _ (by decide)) rfl) rfl (by first | exact .none rfl | exact .want rfl rfl rfl (hN' _ (by decide)) rfl | exact .want rfl rfl rfl (hN' _ (by decide)) (by assumption)) ?_
        | refine Seq.pureG (ok_assign_d rfl rfl (hN' _ (by decide)) rfl) rfl (by first | exact .none rfl | exact .want rfl rfl rfl (hN' _ (by decide)) rfl | exact .want rfl rfl rfl (hN' _ (by decide)) (by assumption)) ?_)
      refine T.loopP (fun c : Nat => ⟨[(192, V.int c), (191, V.int a), (31, V.int (dueAt a over c)), (23, V.list 1 (rows over)), (21, V.int (best a over)), (0, V.int a)], [], []⟩) (fun c => c ≤ a) (fun c => a - c) 0 (Nat.zero_le _) (Sub.drop ⟨rfl, rfl, rfl, rfl, rfl, rfl, trivial⟩ trivial rfl rfl (fx0 hfx)) ?_
      intro c hc
      repeat' (first
        | refine T.seq ?_
        | refine T.region ?_
        | refine Seq.nil ?_
        | refine Seq.pureG (ok_lss rfl rfl (hN' _ (by decide)) rfl rfl) rfl (by first | exact .none rfl | exact .want rfl rfl rfl (hN' _ (by decide)) rfl | exact .want rfl rfl rfl (hN' _ (by decide)) (by assumption)) ?_)
      refine T.cond rfl (fun h => ?_) (fun h => ?_)
      · have hltc : c < a := by simpa using h
        obtain ⟨f, hf⟩ : ∃ f : Nat → Bool, f = fun b => b == c || decide ((over.getD b []).getD c 0 < (over.getD c []).getD b 0) := ⟨_, rfl⟩
        have hw : wins a over c = (List.range a).all f := by rw [hf]; rfl
        repeat' (first
          | refine T.seq ?_
          | refine T.region ?_
          | refine T.block ?_
          | refine T.skip ?_
          | refine Seq.nil ?_
          | refine Seq.pureG (ok_move_d rfl rfl (hN' _ (by decide)) rfl) rfl (by first | exact .none rfl | exact .want rfl rfl rfl (hN' _ (by decide)) rfl | exact .want rfl rfl rfl (hN' _ (by decide)) (by assumption)) ?_
          | refine Seq.pureG (ok_assign_d rfl rfl (hN' _ (by decide)) rfl) rfl (by first | exact .none rfl | exact .want rfl rfl rfl (hN' _ (by decide)) rfl | exact .want rfl rfl rfl (hN' _ (by decide)) (by assumption)) ?_)
        refine T.loopP (fun b : Nat => ⟨[(196, V.int b), (195, V.int a), (33, V.b ((List.range b).all f)), (32, V.int c), (192, V.int c), (191, V.int a), (31, V.int (dueAt a over c)), (23, V.list 1 (rows over)), (21, V.int (best a over)), (0, V.int a)], [], []⟩) (fun b => b ≤ a) (fun b => a - b) 0 (Nat.zero_le _) (Sub.env ⟨rfl, rfl, rfl, rfl, rfl, rfl, rfl, rfl, rfl, rfl, trivial⟩) ?_
        intro b hb
        repeat' (first
          | refine T.seq ?_
          | refine T.region ?_
          | refine Seq.nil ?_
          | refine Seq.pureG (ok_lss rfl rfl (hN' _ (by decide)) rfl rfl) rfl (by first | exact .none rfl | exact .want rfl rfl rfl (hN' _ (by decide)) rfl | exact .want rfl rfl rfl (hN' _ (by decide)) (by assumption)) ?_)
        refine T.cond rfl (fun h => ?_) (fun h => ?_)
        · have hltb : b < a := by simpa using h
          have hc' : c < over.length := by omega
          have hb' : b < over.length := by omega
          have h1 := hsq.rows over[c] (List.getElem_mem hc')
          have h2 := hsq.rows over[b] (List.getElem_mem hb')
          have hA := rows_at hc'
          have hK := rows_at hb'
          obtain ⟨A, eA⟩ : ∃ A, A = over[c] := ⟨_, rfl⟩
          obtain ⟨B, eB⟩ : ∃ B, B = over[b] := ⟨_, rfl⟩
          rw [← eA] at hA h1
          rw [← eB] at hK h2
          have hAk := ints_at (l := A) (i := b) (by omega)
          have hBa := ints_at (l := B) (i := c) (by omega)
          have hfk : f b = (b == c || decide (B[c]'(by omega) < A[b]'(by omega))) := by
            rw [hf]
            simp only
            rw [getD_at hb', getD_at hc']
            simp only [← eA, ← eB]
            rw [getD_at (show c < B.length by omega), getD_at (show b < A.length by omega)]
          obtain ⟨is, his⟩ : ∃ is, is = (List.range b).all f := ⟨_, rfl⟩
          have hsucc : (List.range (b + 1)).all f = (is && f b) := by rw [his, List.range_succ, List.all_append]; simp
          rw [← his]
          repeat' (first
            | refine T.seq ?_
            | refine T.region ?_
            | refine T.block ?_
            | refine T.skip ?_
            | refine Seq.nil ?_
            | refine Seq.pureG (ok_move_d rfl rfl (hN' _ (by decide)) rfl) rfl (by first | exact .none rfl | exact .want rfl rfl rfl (hN' _ (by decide)) rfl | exact .want rfl rfl rfl (hN' _ (by decide)) (by assumption)) ?_
            | refine Seq.pureG (ok_assign_d rfl rfl (hN' _ (by decide)) rfl) rfl (by first | exact .none rfl | exact .want rfl rfl rfl (hN' _ (by decide)) rfl | exact .want rfl rfl rfl (hN' _ (by decide)) (by assumption)) ?_)
          refine T.drawn mixed rfl ?_
          repeat' (first
            | refine Draw.pureG (ok_index_list rfl rfl (hN' _ (by decide)) rfl rfl (by omega) (by simpa using hA)) rfl (by first | exact .none rfl | exact .want rfl rfl rfl (hN' _ (by decide)) rfl | exact .want rfl rfl rfl (hN' _ (by decide)) (by assumption)) ?_
            | refine Draw.pureG (ok_index_list rfl rfl (hN' _ (by decide)) rfl rfl (by omega) (by simpa using hK)) rfl (by first | exact .none rfl | exact .want rfl rfl rfl (hN' _ (by decide)) rfl | exact .want rfl rfl rfl (hN' _ (by decide)) (by assumption)) ?_
            | refine Draw.pureG (ok_index_list rfl rfl (hN' _ (by decide)) rfl rfl (by omega) (by simpa using hAk)) rfl (by first | exact .none rfl | exact .want rfl rfl rfl (hN' _ (by decide)) rfl | exact .want rfl rfl rfl (hN' _ (by decide)) (by assumption)) ?_
            | refine Draw.pureG (ok_index_list rfl rfl (hN' _ (by decide)) rfl rfl (by omega) (by simpa using hBa)) rfl (by first | exact .none rfl | exact .want rfl rfl rfl (hN' _ (by decide)) rfl | exact .want rfl rfl rfl (hN' _ (by decide)) (by assumption)) ?_
            | refine Draw.passC rfl rfl rfl rfl (hN' _ (by decide)) (by assumption) rfl (hN' _ (by decide)) ?_
            | refine Draw.passU rfl rfl rfl (hN' _ (by decide)) rfl (hN' _ (by decide)) ?_
            | refine Draw.pureG (ok_move_d rfl rfl (hN' _ (by decide)) rfl) rfl (by first | exact .none rfl | exact .want rfl rfl rfl (hN' _ (by decide)) rfl | exact .want rfl rfl rfl (hN' _ (by decide)) (by assumption)) ?_
            | refine Draw.pureG (ok_assign_d rfl rfl (hN' _ (by decide)) rfl) rfl (by first | exact .none rfl | exact .want rfl rfl rfl (hN' _ (by decide)) rfl | exact .want rfl rfl rfl (hN' _ (by decide)) (by assumption)) ?_
            | refine Draw.pureG (ok_gtr rfl rfl (hN' _ (by decide)) rfl rfl) rfl (by first | exact .none rfl | exact .want rfl rfl rfl (hN' _ (by decide)) rfl | exact .want rfl rfl rfl (hN' _ (by decide)) (by assumption)) ?_
            | refine Draw.pureG (ok_eql rfl rfl (hN' _ (by decide)) rfl rfl) rfl (by first | exact .none rfl | exact .want rfl rfl rfl (hN' _ (by decide)) rfl | exact .want rfl rfl rfl (hN' _ (by decide)) (by assumption)) ?_
            | refine Draw.pureG (ok_load_box rfl rfl (hN' _ (by decide)) rfl) rfl (by first | exact .none rfl | exact .want rfl rfl rfl (hN' _ (by decide)) rfl | exact .want rfl rfl rfl (hN' _ (by decide)) (by assumption)) ?_
            | refine Draw.pureG (ok_pick_t rfl rfl (hN' _ (by decide)) rfl (by assumption) rfl) rfl (by first | exact .none rfl | exact .want rfl rfl rfl (hN' _ (by decide)) rfl | exact .want rfl rfl rfl (hN' _ (by decide)) (by assumption)) ?_
            | refine Draw.pureG (ok_pick_f rfl rfl (hN' _ (by decide)) rfl (by assumption) rfl) rfl (by first | exact .none rfl | exact .want rfl rfl rfl (hN' _ (by decide)) rfl | exact .want rfl rfl rfl (hN' _ (by decide)) (by assumption)) ?_
            | refine Draw.split rfl rfl rfl rfl (fun hgd => ?_) (fun hgd => ?_))
          all_goals refine Draw.nil ⟨by kernel_rfl, ?_⟩
          all_goals show T C _ _ _
          · have hv : (is && f b) = decide (B[c]'(by omega) < A[b]'(by omega)) := by
              rw [(by assumption : is = true), hfk, show (b == c) = false by simp at hgd ⊢; omega]; simp
            repeat' (first
              | refine T.region ?_
              | refine Seq.nil ?_
              | refine Seq.pureG (ok_move_d rfl rfl (hN' _ (by decide)) rfl) rfl (by first | exact .none rfl | exact .want rfl rfl rfl (hN' _ (by decide)) rfl | exact .want rfl rfl rfl (hN' _ (by decide)) (by assumption)) ?_
              | refine Seq.pureG (ok_add rfl rfl (hN' _ (by decide)) rfl rfl) rfl (by first | exact .none rfl | exact .want rfl rfl rfl (hN' _ (by decide)) rfl | exact .want rfl rfl rfl (hN' _ (by decide)) (by assumption)) ?_)
            refine ⟨b + 1, by omega, by omega, ?_⟩
            rw [hsucc, hv]
            exact Sub.env ⟨by rw [← next_i64 hltb (by omega)]; rfl, rfl, rfl, rfl, rfl, rfl, rfl, rfl, rfl, rfl, trivial⟩
          · have hv : (is && f b) = true := by
              rw [(by assumption : is = true), hfk, show (b == c) = true by simp at hgd ⊢; omega]; rfl
            repeat' (first
              | refine T.region ?_
              | refine Seq.nil ?_
              | refine Seq.pureG (ok_move_d rfl rfl (hN' _ (by decide)) rfl) rfl (by first | exact .none rfl | exact .want rfl rfl rfl (hN' _ (by decide)) rfl | exact .want rfl rfl rfl (hN' _ (by decide)) (by assumption)) ?_
              | refine Seq.pureG (ok_add rfl rfl (hN' _ (by decide)) rfl rfl) rfl (by first | exact .none rfl | exact .want rfl rfl rfl (hN' _ (by decide)) rfl | exact .want rfl rfl rfl (hN' _ (by decide)) (by assumption)) ?_)
            refine ⟨b + 1, by omega, by omega, ?_⟩
            rw [hsucc, hv]
            exact Sub.env ⟨by rw [← next_i64 hltb (by omega)]; rfl, rfl, rfl, rfl, rfl, rfl, rfl, rfl, rfl, rfl, trivial⟩
          · have hv : (is && f b) = false := by rw [show is = false by simpa using hgd]; rfl
            repeat' (first
              | refine T.region ?_
              | refine Seq.nil ?_
              | refine Seq.pureG (ok_move_d rfl rfl (hN' _ (by decide)) rfl) rfl (by first | exact .none rfl | exact .want rfl rfl rfl (hN' _ (by decide)) rfl | exact .want rfl rfl rfl (hN' _ (by decide)) (by assumption)) ?_
              | refine Seq.pureG (ok_add rfl rfl (hN' _ (by decide)) rfl rfl) rfl (by first | exact .none rfl | exact .want rfl rfl rfl (hN' _ (by decide)) rfl | exact .want rfl rfl rfl (hN' _ (by decide)) (by assumption)) ?_)
            refine ⟨b + 1, by omega, by omega, ?_⟩
            rw [hsucc, hv]
            exact Sub.env ⟨by rw [← next_i64 hltb (by omega)]; rfl, rfl, rfl, rfl, rfl, rfl, rfl, rfl, rfl, rfl, trivial⟩
        · obtain rfl := loop_end hb h
          refine T.exit ?_
          show T C _ _ _
          rw [← hw]
          repeat' (first
            | refine T.seq ?_
            | refine T.region ?_
            | refine Seq.nil ?_
            | refine Seq.pureG (ok_move_d rfl rfl (hN' _ (by decide)) rfl) rfl (by first | exact .none rfl | exact .want rfl rfl rfl (hN' _ (by decide)) rfl | exact .want rfl rfl rfl (hN' _ (by decide)) (by assumption)) ?_)
          refine T.cond rfl (fun h2 => ?_) (fun h2 => ?_)
          · repeat' (first
              | refine T.region ?_
              | refine Seq.nil ?_
              | refine Seq.pureG (ok_move_d rfl rfl (hN' _ (by decide)) rfl) rfl (by first | exact .none rfl | exact .want rfl rfl rfl (hN' _ (by decide)) rfl | exact .want rfl rfl rfl (hN' _ (by decide)) (by assumption)) ?_
              | refine Seq.pureG (ok_assign_d rfl rfl (hN' _ (by decide)) rfl) rfl (by first | exact .none rfl | exact .want rfl rfl rfl (hN' _ (by decide)) rfl | exact .want rfl rfl rfl (hN' _ (by decide)) (by assumption)) ?_
              | refine Seq.pureG (ok_add rfl rfl (hN' _ (by decide)) rfl rfl) rfl (by first | exact .none rfl | exact .want rfl rfl rfl (hN' _ (by decide)) rfl | exact .want rfl rfl rfl (hN' _ (by decide)) (by assumption)) ?_)
            refine ⟨c + 1, by omega, by omega, ?_⟩
            rw [dueAt_succ, if_pos h2]
            exact Sub.env ⟨by rw [← next_i64 hltc (by omega)]; rfl, rfl, rfl, rfl, rfl, rfl, trivial⟩
          · repeat' (first
              | refine T.region ?_
              | refine T.skip ?_
              | refine Seq.nil ?_
              | refine Seq.pureG (ok_move_d rfl rfl (hN' _ (by decide)) rfl) rfl (by first | exact .none rfl | exact .want rfl rfl rfl (hN' _ (by decide)) rfl | exact .want rfl rfl rfl (hN' _ (by decide)) (by assumption)) ?_
              | refine Seq.pureG (ok_add rfl rfl (hN' _ (by decide)) rfl rfl) rfl (by first | exact .none rfl | exact .want rfl rfl rfl (hN' _ (by decide)) rfl | exact .want rfl rfl rfl (hN' _ (by decide)) (by assumption)) ?_)
            refine ⟨c + 1, by omega, by omega, ?_⟩
            rw [dueAt_succ, if_neg (by rw [h2]; simp)]
            exact Sub.env ⟨by rw [← next_i64 hltc (by omega)]; rfl, rfl, rfl, rfl, rfl, rfl, trivial⟩
      · obtain rfl := loop_end hc h
        refine T.exit ?_
        show T C _ _ _
        repeat' (first
          | refine T.seq ?_
          | refine T.region ?_
          | refine Seq.nil ?_
          | refine Seq.pureG (ok_move_d rfl rfl (hN' _ (by decide)) rfl) rfl (by first | exact .none rfl | exact .want rfl rfl rfl (hN' _ (by decide)) rfl | exact .want rfl rfl rfl (hN' _ (by decide)) (by assumption)) ?_
          | refine Seq.pureG (ok_assign_d rfl rfl (hN' _ (by decide)) rfl) rfl (by first | exact .none rfl | exact .want rfl rfl rfl (hN' _ (by decide)) rfl | exact .want rfl rfl rfl (hN' _ (by decide)) (by assumption)) ?_
          | refine Seq.pureG (ok_eql rfl rfl (hN' _ (by decide)) rfl rfl) rfl (by first | exact .none rfl | exact .want rfl rfl rfl (hN' _ (by decide)) rfl | exact .want rfl rfl rfl (hN' _ (by decide)) (by assumption)) ?_)
        refine T.ret (Fin.one rfl rfl ?_ rfl)
        rw [best_due]
        simp [Env.get]

end Go.Proofs.Ytjofdfiljokfoaa.R
