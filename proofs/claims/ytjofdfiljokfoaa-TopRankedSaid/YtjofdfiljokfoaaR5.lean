/- What functions that the law reaches compute: one step of the proof of the law's statement; each theorem states its own conditions. -/
import Derived.Test.YtjofdfiljokfoaaR4
namespace Go.Proofs.Ytjofdfiljokfoaa.R
open Go Go.RowKit Go.Proofs.Ytjofdfiljokfoaa.TL
set_option linter.unusedVariables false
set_option linter.unusedSimpArgs false

structure Valid (songs : Nat) (l : List (List Int)) : Prop where
  lo : 1 ≤ songs
  hi : songs ≤ 8
  len : l.length ≤ 200
  rows : ∀ r ∈ l, r.length ≤ 8 ∧ r.Nodup ∧ ∀ t ∈ r, 0 ≤ t ∧ t < songs

theorem idx_none {x : Int} {l : List Int} (h : ¬ x ∈ l) : decide (0 ≤ idxFrom x l 0) = false := by rw [idx_mem _ _ _ (by omega)]; simpa using h
theorem nodup_take {l : List Int} (h : l.Nodup) {i : Nat} (hi : i < l.length) : ¬ l[i] ∈ l.take i := by
  intro hm
  obtain ⟨j, hj, he⟩ := List.getElem_of_mem hm
  rw [List.length_take] at hj
  rw [List.getElem_take] at he
  exact List.pairwise_iff_getElem.1 h j i (by omega) hi (by omega) he
theorem getD_at {α : Type} {l : List α} {i : Nat} {d : α} (h : i < l.length) : l.getD i d = l[i] := by rw [List.getD_eq_getElem?_getD, List.getElem?_eq_getElem h]; rfl

theorem check_fn (songs : Nat) (l : List (List Int)) (h : Valid songs l) : Does Try.prog 15 [V.int songs, V.list 1 (rows l)] (V.int 0) := by
  obtain ⟨h1, h2, h3, h4⟩ := h
  refine Does.of Try.func15 rfl Try.call15 (by rw [Try.ntmps15]; simp) fun C hro hN hfx => ?_
  have hN' : ∀ k, k < 46 → k < C.N := fun k hk => by rw [hN]; exact hk
  dsimp only [argEnv, Nat.zero_add, Nat.reduceAdd]
  have hrl : (rows l).length = l.length := rows_len l
  repeat' (first
    | refine Seq.pureG (ok_build1 rfl rfl (hN' _ (by decide)) rfl rfl) rfl (by first | exact .none rfl | exact .want rfl rfl rfl (hN' _ (by decide)) rfl | exact .want rfl rfl rfl (hN' _ (by decide)) (by assumption)) ?_
    | refine Seq.pureG (ok_call rfl rfl (hN' _ (by decide)) [V.int 1, V.int 8, V.list 1 (ints [(songs : Int)])] rfl rfl (in_fn 1 8 [(songs : Int)] (by simp)) rfl) rfl (by first | exact .none rfl | exact .want rfl rfl rfl (hN' _ (by decide)) rfl | exact .want rfl rfl rfl (hN' _ (by decide)) (by assumption)) ?_
    | refine T.seq ?_
    | refine T.region ?_
    | refine T.block ?_
    | refine Seq.nil ?_
    | refine Seq.pureG (ok_move_d rfl rfl (hN' _ (by decide)) rfl) rfl (by first | exact .none rfl | exact .want rfl rfl rfl (hN' _ (by decide)) rfl | exact .want rfl rfl rfl (hN' _ (by decide)) (by assumption)) ?_
    | refine Seq.pureG (ok_assign_d rfl rfl (hN' _ (by decide)) rfl) rfl (by first | exact .none rfl | exact .want rfl rfl rfl (hN' _ (by decide)) rfl | exact .want rfl rfl rfl (hN' _ (by decide)) (by assumption)) ?_
    | refine Seq.pureG (ok_not rfl rfl (hN' _ (by decide)) rfl) rfl (by first | exact .none rfl | exact .want rfl rfl rfl (hN' _ (by decide)) rfl | exact .want rfl rfl rfl (hN' _ (by decide)) (by assumption)) ?_)
  refine T.cond rfl (fun h => ?_) (fun h => ?_)
  · simp at h; omega
  repeat' (first
    | refine T.seq ?_
    | refine T.region ?_
    | refine Seq.nil ?_
    | refine Seq.pureG (ok_move_d rfl rfl (hN' _ (by decide)) rfl) rfl (by first | exact .none rfl | exact .want rfl rfl rfl (hN' _ (by decide)) rfl | exact .want rfl rfl rfl (hN' _ (by decide)) (by assumption)) ?_
    | refine Seq.pureG (ok_assign_d rfl rfl (hN' _ (by decide)) rfl) rfl (by first | exact .none rfl | exact .want rfl rfl rfl (hN' _ (by decide)) rfl | exact .want rfl rfl rfl (hN' _ (by decide)) (by assumption)) ?_
    | refine Seq.pureG (ok_len_list rfl rfl (hN' _ (by decide)) rfl) rfl (by first | exact .none rfl | exact .want rfl rfl rfl (hN' _ (by decide)) rfl | exact .want rfl rfl rfl (hN' _ (by decide)) (by assumption)) ?_
    | refine Seq.pureG (ok_gtr rfl rfl (hN' _ (by decide)) rfl rfl) rfl (by first | exact .none rfl | exact .want rfl rfl rfl (hN' _ (by decide)) rfl | exact .want rfl rfl rfl (hN' _ (by decide)) (by assumption)) ?_)
  refine T.cond rfl (fun h => ?_) (fun h => ?_)
  · simp [hrl] at h; omega
  repeat' (first
    | refine T.seq ?_
    | refine T.region ?_
    | refine T.block ?_
    | refine T.skip ?_
    | refine Seq.nil ?_
    | refine Seq.pureG (ok_move_d rfl rfl (hN' _ (by decide)) rfl) rfl (by first | exact .none rfl | exact .want rfl rfl rfl (hN' _ (by decide)) rfl | exact .want rfl rfl rfl (hN' _ (by decide)) (by assumption)) ?_
    | refine Seq.pureG (ok_len_list rfl rfl (hN' _ (by decide)) rfl) rfl (by first | exact .none rfl | exact .want rfl rfl rfl (hN' _ (by decide)) rfl | exact .want rfl rfl rfl (hN' _ (by decide)) (by assumption)) ?_)
  refine T.loopP (fun k : Nat => ⟨[(20, V.int k), (19, V.int l.length), (18, V.list 1 (rows l)), (0, V.int songs)], [], []⟩) (fun k => k ≤ l.length) (fun k => l.length - k) 0 (Nat.zero_le _) (Sub.env ⟨rfl, by simp [Env.get, hrl], rfl, rfl, trivial⟩) ?_
  intro k hk
  repeat' (first
    | refine T.seq ?_
    | refine T.region ?_
    | refine Seq.nil ?_
    | refine Seq.pureG (ok_lss rfl rfl (hN' _ (by decide)) rfl rfl) rfl (by first | exact .none rfl | exact .want rfl rfl rfl (hN' _ (by decide)) rfl | exact .want rfl rfl rfl (hN' _ (by decide)) (by assumption)) ?_)
  refine T.cond rfl (fun h => ?_) (fun h => ?_)
  · have hlt : k < l.length := by simpa using h
    have hat := rows_at hlt
    obtain ⟨hr1, hr2, hr3⟩ := h4 l[k] (List.getElem_mem hlt)
    obtain ⟨R, hR⟩ : ∃ R, R = l[k] := ⟨_, rfl⟩
    rw [← hR] at hat hr1 hr2 hr3
    have hil : (ints R).length = R.length := ints_len R
    repeat' (first
      | refine Seq.pureG (ok_index_list rfl rfl (hN' _ (by decide)) rfl rfl (by omega) (by simpa using hat)) rfl (by first | exact .none rfl | exact .want rfl rfl rfl (hN' _ (by decide)) rfl | exact .want rfl rfl rfl (hN' _ (by decide)) (by assumption)) ?_
      | refine T.seq ?_
      | refine T.region ?_
      | refine T.block ?_
      | refine T.skip ?_
      | refine Seq.nil ?_
      | refine Seq.pureG (ok_move_d rfl rfl (hN' _ (by decide)) rfl) rfl (by first | exact .none rfl | exact .want rfl rfl rfl (hN' _ (by decide)) rfl | exact .want rfl rfl rfl (hN' _ (by decide)) (by assumption)) ?_
      | refine Seq.pureG (ok_assign_d rfl rfl (hN' _ (by decide)) rfl) rfl (by first | exact .none rfl | exact .want rfl rfl rfl (hN' _ (by decide)) rfl | exact .want rfl rfl rfl (hN' _ (by decide)) (by assumption)) ?_
      | refine Seq.pureG (ok_len_list rfl rfl (hN' _ (by decide)) rfl) rfl (by first | exact .none rfl | exact .want rfl rfl rfl (hN' _ (by decide)) rfl | exact .want rfl rfl rfl (hN' _ (by decide)) (by assumption)) ?_
      | refine Seq.pureG (ok_load_box rfl rfl (hN' _ (by decide)) rfl) rfl (by first | exact .none rfl | exact .want rfl rfl rfl (hN' _ (by decide)) rfl | exact .want rfl rfl rfl (hN' _ (by decide)) (by assumption)) ?_)
    refine T.loopP (fun j : Nat => ⟨[(26, V.int j), (25, V.int R.length), (24, V.list 1 (ints R)), (6, V.list 1 (ints R)), (20, V.int k), (19, V.int l.length), (18, V.list 1 (rows l)), (0, V.int songs)], [], []⟩) (fun j => j ≤ R.length) (fun j => R.length - j) 0 (Nat.zero_le _) (Sub.env ⟨rfl, by simp [Env.get, hil], rfl, rfl, rfl, rfl, rfl, rfl, trivial⟩) ?_
    intro j hj
    repeat' (first
      | refine T.seq ?_
      | refine T.region ?_
      | refine Seq.nil ?_
      | refine Seq.pureG (ok_lss rfl rfl (hN' _ (by decide)) rfl rfl) rfl (by first | exact .none rfl | exact .want rfl rfl rfl (hN' _ (by decide)) rfl | exact .want rfl rfl rfl (hN' _ (by decide)) (by assumption)) ?_)
    refine T.cond rfl (fun h2 => ?_) (fun h2 => ?_)
    · have hlt2 : j < R.length := by simpa using h2
      have hat2 := ints_at hlt2
      obtain ⟨ht1, ht2⟩ := hr3 R[j] (List.getElem_mem hlt2)
      have hw : IntKind.i64.wrap ((songs : Int) - 1) = (songs : Int) - 1 := wrap_i64 (by omega) (by omega)
      repeat' (first
        | refine Seq.pureG (ok_index_list rfl rfl (hN' _ (by decide)) rfl rfl (by omega) (by simpa using hat2)) rfl (by first | exact .none rfl | exact .want rfl rfl rfl (hN' _ (by decide)) rfl | exact .want rfl rfl rfl (hN' _ (by decide)) (by assumption)) ?_
        | refine Seq.pureG (ok_build1 rfl rfl (hN' _ (by decide)) rfl rfl) rfl (by first | exact .none rfl | exact .want rfl rfl rfl (hN' _ (by decide)) rfl | exact .want rfl rfl rfl (hN' _ (by decide)) (by assumption)) ?_
        | refine Seq.pureG (ok_call rfl rfl (hN' _ (by decide)) [V.int 0, V.int (IntKind.i64.wrap ((songs : Int) - 1)), V.list 1 (ints [R[j]])] rfl rfl (in_fn 0 (IntKind.i64.wrap ((songs : Int) - 1)) [R[j]] (by simp)) rfl) rfl (by first | exact .none rfl | exact .want rfl rfl rfl (hN' _ (by decide)) rfl | exact .want rfl rfl rfl (hN' _ (by decide)) (by assumption)) ?_
        | refine T.seq ?_
        | refine T.region ?_
        | refine T.block ?_
        | refine T.skip ?_
        | refine Seq.nil ?_
        | refine Seq.pureG (ok_move_d rfl rfl (hN' _ (by decide)) rfl) rfl (by first | exact .none rfl | exact .want rfl rfl rfl (hN' _ (by decide)) rfl | exact .want rfl rfl rfl (hN' _ (by decide)) (by assumption)) ?_
        | refine Seq.pureG (ok_assign_d rfl rfl (hN' _ (by decide)) rfl) rfl (by first | exact .none rfl | exact .want rfl rfl rfl (hN' _ (by decide)) rfl | exact .want rfl rfl rfl (hN' _ (by decide)) (by assumption)) ?_
        | refine Seq.pureG (ok_sub rfl rfl (hN' _ (by decide)) rfl rfl) rfl (by first | exact .none rfl | exact .want rfl rfl rfl (hN' _ (by decide)) rfl | exact .want rfl rfl rfl (hN' _ (by decide)) (by assumption)) ?_
        | refine Seq.pureG (ok_not rfl rfl (hN' _ (by decide)) rfl) rfl (by first | exact .none rfl | exact .want rfl rfl rfl (hN' _ (by decide)) rfl | exact .want rfl rfl rfl (hN' _ (by decide)) (by assumption)) ?_
        | refine Seq.pureG (ok_load_box rfl rfl (hN' _ (by decide)) rfl) rfl (by first | exact .none rfl | exact .want rfl rfl rfl (hN' _ (by decide)) rfl | exact .want rfl rfl rfl (hN' _ (by decide)) (by assumption)) ?_)
      refine T.cond rfl (fun h => ?_) (fun h => ?_)
      · simp [hw] at h; omega
      repeat' (first
        | refine Seq.pureG (ok_head rfl rfl (hN' _ (by decide)) (fun x => [D.val (.int .i64 x)]) R j rfl rfl rfl (by omega)) rfl (by first | exact .none rfl | exact .want rfl rfl rfl (hN' _ (by decide)) rfl | exact .want rfl rfl rfl (hN' _ (by decide)) (by assumption)) ?_
        | refine Seq.pureG (ok_call rfl rfl (hN' _ (by decide)) [V.list 1 (ints (R.take j)), V.int R[j]] rfl rfl (contains_fn (R.take j) R[j] (by simp; omega)) rfl) rfl (by first | exact .none rfl | exact .want rfl rfl rfl (hN' _ (by decide)) rfl | exact .want rfl rfl rfl (hN' _ (by decide)) (by assumption)) ?_
        | refine T.seq ?_
        | refine T.region ?_
        | refine Seq.nil ?_
        | refine Seq.pureG (ok_move_d rfl rfl (hN' _ (by decide)) rfl) rfl (by first | exact .none rfl | exact .want rfl rfl rfl (hN' _ (by decide)) rfl | exact .want rfl rfl rfl (hN' _ (by decide)) (by assumption)) ?_
        | refine Seq.pureG (ok_assign_d rfl rfl (hN' _ (by decide)) rfl) rfl (by first | exact .none rfl | exact .want rfl rfl rfl (hN' _ (by decide)) rfl | exact .want rfl rfl rfl (hN' _ (by decide)) (by assumption)) ?_)
      refine T.cond rfl (fun h => ?_) (fun h => ?_)
      · rw [idx_none (nodup_take hr2 hlt2)] at h; cases h
      repeat' (first
        | refine T.region ?_
        | refine T.skip ?_
        | refine Seq.nil ?_
        | refine Seq.pureG (ok_move_d rfl rfl (hN' _ (by decide)) rfl) rfl (by first | exact .none rfl | exact .want rfl rfl rfl (hN' _ (by decide)) rfl | exact .want rfl rfl rfl (hN' _ (by decide)) (by assumption)) ?_
        | refine Seq.pureG (ok_add rfl rfl (hN' _ (by decide)) rfl rfl) rfl (by first | exact .none rfl | exact .want rfl rfl rfl (hN' _ (by decide)) rfl | exact .want rfl rfl rfl (hN' _ (by decide)) (by assumption)) ?_)
      exact ⟨j + 1, by omega, by omega, Sub.env ⟨by rw [← next_i64 hlt2 (by omega)]; rfl, rfl, rfl, rfl, rfl, rfl, rfl, rfl, trivial⟩⟩
    · refine T.exit ?_
      show T C _ _ _
      repeat' (first
        | refine T.region ?_
        | refine Seq.nil ?_
        | refine Seq.pureG (ok_move_d rfl rfl (hN' _ (by decide)) rfl) rfl (by first | exact .none rfl | exact .want rfl rfl rfl (hN' _ (by decide)) rfl | exact .want rfl rfl rfl (hN' _ (by decide)) (by assumption)) ?_
        | refine Seq.pureG (ok_add rfl rfl (hN' _ (by decide)) rfl rfl) rfl (by first | exact .none rfl | exact .want rfl rfl rfl (hN' _ (by decide)) rfl | exact .want rfl rfl rfl (hN' _ (by decide)) (by assumption)) ?_)
      exact ⟨k + 1, by omega, by omega, Sub.env ⟨by rw [← next_i64 hlt (by omega)]; rfl, rfl, rfl, rfl, trivial⟩⟩
  · refine T.exit ?_
    show T C _ _ _
    repeat' (first
      | refine T.seq ?_
      | refine T.region ?_
      | refine Seq.nil ?_
      | refine Seq.pureG (ok_assign_d rfl rfl (hN' _ (by decide)) rfl) rfl (by first | exact .none rfl | exact .want rfl rfl rfl (hN' _ (by decide)) rfl | exact .want rfl rfl rfl (hN' _ (by decide)) (by assumption)) ?_)
    exact T.ret (Fin.one rfl rfl rfl rfl)

/-- Does a beat each other one? -/
def wins (songs : Nat) (over : List (List Int)) (a : Nat) : Bool := (List.range songs).all fun b => b == a || decide ((over.getD b []).getD a 0 < (over.getD a []).getD b 0)

structure Square (songs : Nat) (over : List (List Int)) : Prop where
  len : over.length = songs
  rows : ∀ r ∈ over, r.length = songs

def duelS (songs : Nat) (over : List (List Int)) : Store := [(0, some ⟨3, [V.int songs]⟩), (1, some ⟨25, [V.list 1 (rows over)]⟩)]
theorem wins_fn (songs : Nat) (over : List (List Int)) (a : Nat) (hs : songs ≤ 8) (hsq : Square songs over) (ha : a < songs) : DoesS Try.prog 17 [V.int a, .ptr 0 0, .ptr 1 0] (duelS songs over) (V.b (wins songs over a)) (duelS songs over) := by
  obtain ⟨hl, hr⟩ := hsq
  refine DoesS.of Try.func17 rfl Try.call17 (by rw [Try.ntmps17]; simp) fun C hro hN hfx => ?_
  have hN' : ∀ k, k < 31 → k < C.N := fun k hk => by rw [hN]; exact hk
  dsimp only [argEnv, Nat.zero_add, Nat.reduceAdd, duelS]
  repeat' (first
    | refine T.seq ?_
    | refine T.region ?_
    | refine T.block ?_
    | refine Seq.nil ?_
    | refine Seq.pureG (ok_move_d rfl rfl (hN' _ (by decide)) rfl) rfl (by first | exact .none rfl | exact .want rfl rfl rfl (hN' _ (by decide)) rfl | exact .want rfl rfl rfl (hN' _ (by decide)) (by assumption)) ?_
    | refine Seq.pureG (ok_assign_d rfl rfl (hN' _ (by decide)) rfl) rfl (by first | exact .none rfl | exact .want rfl rfl rfl (hN' _ (by decide)) rfl | exact .want rfl rfl rfl (hN' _ (by decide)) (by assumption)) ?_
    | refine Seq.pureG (ok_load_ptr rfl rfl (hN' _ (by decide)) rfl rfl rfl) rfl (by first | exact .none rfl | exact .want rfl rfl rfl (hN' _ (by decide)) rfl | exact .want rfl rfl rfl (hN' _ (by decide)) (by assumption)) ?_)
  obtain ⟨f, hf⟩ : ∃ f : Nat → Bool, f = fun b => b == a || decide ((over.getD b []).getD a 0 < (over.getD a []).getD b 0) := ⟨_, rfl⟩
  have hw : wins songs over a = (List.range songs).all f := by rw [hf]; rfl
  refine T.loopP (fun k : Nat => ⟨[(7, V.int k), (6, V.int songs), (0, V.int a), (1, .ptr 0 0), (2, .ptr 1 0)], duelS songs over, []⟩) (fun k => k ≤ songs ∧ ∀ b, b < k → f b = true) (fun k => songs - k) 0 ⟨Nat.zero_le _, fun b hb => by omega⟩ (Sub.env ⟨rfl, rfl, rfl, rfl, rfl, trivial⟩) ?_
  rintro k ⟨hk, hi⟩
  dsimp only [duelS]
  repeat' (first
    | refine T.seq ?_
    | refine T.region ?_
    | refine Seq.nil ?_
    | refine Seq.pureG (ok_lss rfl rfl (hN' _ (by decide)) rfl rfl) rfl (by first | exact .none rfl | exact .want rfl rfl rfl (hN' _ (by decide)) rfl | exact .want rfl rfl rfl (hN' _ (by decide)) (by assumption)) ?_)
  refine T.cond rfl (fun h => ?_) (fun h => ?_)
  · have hlt : k < songs := by simpa using h
    have ha' : a < over.length := by omega
    have hk' : k < over.length := by omega
    have h1 := hr over[a] (List.getElem_mem ha')
    have h2 := hr over[k] (List.getElem_mem hk')
    have hA := rows_at ha'
    have hK := rows_at hk'
    obtain ⟨A, eA⟩ : ∃ A, A = over[a] := ⟨_, rfl⟩
    obtain ⟨B, eB⟩ : ∃ B, B = over[k] := ⟨_, rfl⟩
    rw [← eA] at hA h1
    rw [← eB] at hK h2
    have hAk := ints_at (l := A) (i := k) (by omega)
    have hBa := ints_at (l := B) (i := a) (by omega)
    have hfk : f k = (k == a || decide (B[a]'(by omega) < A[k]'(by omega))) := by
      rw [hf]
      simp only
      rw [getD_at hk', getD_at ha']
      simp only [← eA, ← eB]
      rw [getD_at (show a < B.length by omega), getD_at (show k < A.length by omega)]
    repeat' (first
      | refine T.seq ?_
      | refine T.region ?_
      | refine T.block ?_
      | refine T.skip ?_
      | refine Seq.nil ?_
      | refine Seq.pureG (ok_move_d rfl rfl (hN' _ (by decide)) rfl) rfl (by first | exact .none rfl | exact .want rfl rfl rfl (hN' _ (by decide)) rfl | exact .want rfl rfl rfl (hN' _ (by decide)) (by assumption)) ?_
      | refine Seq.pureG (ok_assign_d rfl rfl (hN' _ (by decide)) rfl) rfl (by first | exact .none rfl | exact .want rfl rfl rfl (hN' _ (by decide)) rfl | exact .want rfl rfl rfl (hN' _ (by decide)) (by assumption)) ?_)
    refine T.drawn mixed rfl ?_
    repeat' (first
      | refine Draw.pureG (ok_index_list rfl rfl (hN' _ (by decide)) rfl rfl (by omega) (by simpa using hA)) rfl (by first | exact .none rfl | exact .want rfl rfl rfl (hN' _ (by decide)) rfl | exact .want rfl rfl rfl (hN' _ (by decide)) (by assumption)) ?_
      | refine Draw.pureG (ok_index_list rfl rfl (hN' _ (by decide)) rfl rfl (by omega) (by simpa using hK)) rfl (by first | exact .none rfl | exact .want rfl rfl rfl (hN' _ (by decide)) rfl | exact .want rfl rfl rfl (hN' _ (by decide)) (by assumption)) ?_
      | refine Draw.pureG (ok_index_list rfl rfl (hN' _ (by decide)) rfl rfl (by omega) (by simpa using hAk)) rfl (by first | exact .none rfl | exact .want rfl rfl rfl (hN' _ (by decide)) rfl | exact .want rfl rfl rfl (hN' _ (by decide)) (by assumption)) ?_
      | refine Draw.pureG (ok_index_list rfl rfl (hN' _ (by decide)) rfl rfl (by omega) (by simpa using hBa)) rfl (by first | exact .none rfl | exact .want rfl rfl rfl (hN' _ (by decide)) rfl | exact .want rfl rfl rfl (hN' _ (by decide)) (by assumption)) ?_
      | refine Draw.passC rfl rfl rfl rfl (hN' _ (by decide)) (by assumption) rfl (hN' _ (by decide)) ?_
      | refine Draw.pureG (ok_move_d rfl rfl (hN' _ (by decide)) rfl) rfl (by first | exact .none rfl | exact .want rfl rfl rfl (hN' _ (by decide)) rfl | exact .want rfl rfl rfl (hN' _ (by decide)) (by assumption)) ?_
      | refine Draw.pureG (ok_leq rfl rfl (hN' _ (by decide)) rfl rfl) rfl (by first | exact .none rfl | exact .want rfl rfl rfl (hN' _ (by decide)) rfl | exact .want rfl rfl rfl (hN' _ (by decide)) (by assumption)) ?_
      | refine Draw.pureG (ok_neq rfl rfl (hN' _ (by decide)) rfl rfl) rfl (by first | exact .none rfl | exact .want rfl rfl rfl (hN' _ (by decide)) rfl | exact .want rfl rfl rfl (hN' _ (by decide)) (by assumption)) ?_
      | refine Draw.pureG (ok_load_box rfl rfl (hN' _ (by decide)) rfl) rfl (by first | exact .none rfl | exact .want rfl rfl rfl (hN' _ (by decide)) rfl | exact .want rfl rfl rfl (hN' _ (by decide)) (by assumption)) ?_
      | refine Draw.pureG (ok_load_ptr rfl rfl (hN' _ (by decide)) rfl rfl rfl) rfl (by first | exact .none rfl | exact .want rfl rfl rfl (hN' _ (by decide)) rfl | exact .want rfl rfl rfl (hN' _ (by decide)) (by assumption)) ?_
      | refine Draw.pureG (ok_pick_t rfl rfl (hN' _ (by decide)) rfl (by assumption) rfl) rfl (by first | exact .none rfl | exact .want rfl rfl rfl (hN' _ (by decide)) rfl | exact .want rfl rfl rfl (hN' _ (by decide)) (by assumption)) ?_
      | refine Draw.pureG (ok_pick_f rfl rfl (hN' _ (by decide)) rfl (by assumption) rfl) rfl (by first | exact .none rfl | exact .want rfl rfl rfl (hN' _ (by decide)) rfl | exact .want rfl rfl rfl (hN' _ (by decide)) (by assumption)) ?_
      | refine Draw.split rfl rfl rfl rfl (fun hgd => ?_) (fun hgd => ?_))
    · refine Draw.nil ⟨by kernel_rfl, ?_⟩
      show T C _ _ _
      have hne : (k == a) = false := by simp at hgd ⊢; omega
      refine T.cond rfl (fun h2 => ?_) (fun h2 => ?_)
      · repeat' (first
          | refine T.seq ?_
          | refine T.region ?_
          | refine Seq.nil ?_
          | refine Seq.pureG (ok_assign_d rfl rfl (hN' _ (by decide)) rfl) rfl (by first | exact .none rfl | exact .want rfl rfl rfl (hN' _ (by decide)) rfl | exact .want rfl rfl rfl (hN' _ (by decide)) (by assumption)) ?_)
        refine T.ret (FinS.one rfl rfl rfl (.tmp ?_ .nil))
        have h2 : ¬ B[a]'(by omega) < A[k]'(by omega) := by have : A[k]'(by omega) ≤ B[a]'(by omega) := by simpa using h2
                                                            omega
        have hff : f k = false := by rw [hfk, hne]; simpa using h2
        have : (List.range songs).all f = false := List.all_eq_false.2 ⟨k, List.mem_range.2 hlt, by rw [hff]; simp⟩
        rw [hw, this]; rfl
      · have h2 : B[a]'(by omega) < A[k]'(by omega) := by have : ¬ A[k]'(by omega) ≤ B[a]'(by omega) := by simpa using h2
                                                          omega
        have hff : f k = true := by rw [hfk]; simp [h2]
        repeat' (first
          | refine T.region ?_
          | refine T.skip ?_
          | refine Seq.nil ?_
          | refine Seq.pureG (ok_move_d rfl rfl (hN' _ (by decide)) rfl) rfl (by first | exact .none rfl | exact .want rfl rfl rfl (hN' _ (by decide)) rfl | exact .want rfl rfl rfl (hN' _ (by decide)) (by assumption)) ?_
          | refine Seq.pureG (ok_add rfl rfl (hN' _ (by decide)) rfl rfl) rfl (by first | exact .none rfl | exact .want rfl rfl rfl (hN' _ (by decide)) rfl | exact .want rfl rfl rfl (hN' _ (by decide)) (by assumption)) ?_)
        exact ⟨k + 1, ⟨by omega, fun b hb => by rcases Nat.lt_succ_iff_lt_or_eq.1 hb with h | rfl; exact hi b h; exact hff⟩, by omega, Sub.env ⟨by rw [← next_i64 hlt (by omega)]; rfl, rfl, rfl, rfl, rfl, trivial⟩⟩
    · refine Draw.nil ⟨by kernel_rfl, ?_⟩
      show T C _ _ _
      have hne : (k == a) = true := by simp at hgd ⊢; omega
      have hff : f k = true := by rw [hfk, hne]; rfl
      refine T.cond rfl (fun h2 => by cases h2) (fun h2 => ?_)
      repeat' (first
        | refine T.region ?_
        | refine T.skip ?_
        | refine Seq.nil ?_
        | refine Seq.pureG (ok_move_d rfl rfl (hN' _ (by decide)) rfl) rfl (by first | exact .none rfl | exact .want rfl rfl rfl (hN' _ (by decide)) rfl | exact .want rfl rfl rfl (hN' _ (by decide)) (by assumption)) ?_
        | refine Seq.pureG (ok_add rfl rfl (hN' _ (by decide)) rfl rfl) rfl (by first | exact .none rfl | exact .want rfl rfl rfl (hN' _ (by decide)) rfl | exact .want rfl rfl rfl (hN' _ (by decide)) (by assumption)) ?_)
      exact ⟨k + 1, ⟨by omega, fun b hb => by rcases Nat.lt_succ_iff_lt_or_eq.1 hb with h | rfl; exact hi b h; exact hff⟩, by omega, Sub.env ⟨by rw [← next_i64 hlt (by omega)]; rfl, rfl, rfl, rfl, rfl, trivial⟩⟩
  · obtain rfl := loop_end hk h
    skip
    refine T.exit ?_
    show T C _ _ _
    repeat' (first
      | refine T.seq ?_
      | refine T.region ?_
      | refine Seq.nil ?_
      | refine Seq.pureG (ok_assign_d rfl rfl (hN' _ (by decide)) rfl) rfl (by first | exact .none rfl | exact .want rfl rfl rfl (hN' _ (by decide)) rfl | exact .want rfl rfl rfl (hN' _ (by decide)) (by assumption)) ?_)
    refine T.ret (FinS.one rfl rfl rfl (.tmp ?_ .nil))
    have : (List.range k).all f = true := List.all_eq_true.2 fun b hb => hi b (List.mem_range.1 hb)
    rw [hw, this]; rfl

end Go.Proofs.Ytjofdfiljokfoaa.R
