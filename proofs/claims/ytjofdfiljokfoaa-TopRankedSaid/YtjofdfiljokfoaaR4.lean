/- What functions that the law reaches compute: one step of the proof of the law's statement; each theorem states its own conditions. -/
import Derived.Test.YtjofdfiljokfoaaR3
namespace Go.Proofs.Ytjofdfiljokfoaa.R
open Go Go.RowKit Go.Proofs.Ytjofdfiljokfoaa.TL
set_option linter.unusedVariables false
set_option linter.unusedSimpArgs false

instance s25 : SliceT Try.prog 25 24 1 24 (.slice none 0 0) := SliceT.of Try.underlying25 (by kernel_rfl) rfl (by decide)
instance s22 : SliceT Try.prog 22 39 1 24 (.slice none 0 0) := SliceT.of Try.underlying22 (by kernel_rfl) rfl (by decide)
instance s39 : SliceT Try.prog 39 5 1 1 (.int .u8 0) := SliceT.of Try.underlying39 (by kernel_rfl) rfl (by decide)
instance c24 : CellT Try.prog 24 := CellT.of Try.underlying24 rfl (by kernel_rfl)
instance c25 : CellT Try.prog 25 := CellT.of Try.underlying25 rfl (by kernel_rfl)
instance c39 : CellT Try.prog 39 := CellT.of Try.underlying39 rfl (by kernel_rfl)
instance c5 : CellT Try.prog 5 := CellT.of Try.underlying5 rfl (by kernel_rfl)
instance i3 : IntT Try.prog 3 .i64 := ⟨Try.underlying3⟩
instance i5 : IntT Try.prog 5 .u8 := ⟨Try.underlying5⟩

def rows (l : List (List Int)) : List (List D) := l.map fun r => [D.list 1 (ints r)]
def bytes (l : List Int) : List (List D) := l.map fun n => [D.val (.int .u8 n)]
def brows (l : List (List Int)) : List (List D) := l.map fun r => [D.list 1 (bytes r)]
theorem rows_at {l : List (List Int)} {i : Nat} (h : i < l.length) : (rows l)[i]? = some [D.list 1 (ints l[i])] := by simp [rows, h]
theorem brows_at {l : List (List Int)} {i : Nat} (h : i < l.length) : (brows l)[i]? = some [D.list 1 (bytes l[i])] := by simp [brows, h]
theorem bytes_at {l : List Int} {i : Nat} (h : i < l.length) : (bytes l)[i]? = some [D.val (.int .u8 l[i])] := by simp [bytes, h]
def rrow (l : List (List Int)) : List V := (rows l).flatten.map V.d
theorem rrow_map (l : List (List Int)) : rrow l = l.map fun r => V.list 1 (ints r) := by
  induction l with
  | nil => rfl
  | cons x r ih => simp only [rrow, rows, List.map_cons, List.flatten_cons, List.map_append] at ih ⊢; rw [ih]; rfl
theorem rrow_len (l : List (List Int)) : (rrow l).length = l.length := by rw [rrow_map]; simp
theorem rrow_snoc (l : List (List Int)) (r : List Int) : rrow (l ++ [r]) = rrow l ++ [V.list 1 (ints r)] := by simp [rrow_map]
theorem ins_rrow (S : Store) (l : List (List Int)) : V.insS S (rrow l) = true := insS_ds S _
theorem rens_rrow (π : Nat → Nat) (l : List (List Int)) : V.rens π (rrow l) = rrow l := by
  rw [rrow_map]
  induction l with
  | nil => rfl
  | cons x r ih => rw [List.map_cons, V.rens, ih]; rfl
theorem rows_one (l : List (List Int)) : ∀ x ∈ rows l, x.length = 1 := fun x hx => by
  simp only [rows, List.mem_map] at hx
  obtain ⟨y, _, rfl⟩ := hx
  rfl
theorem rows_len (l : List (List Int)) : (rows l).length = l.length := by simp [rows]

/-- A slice's head, its length told by a number. -/
theorem ok_head {P : Program} {C : Ctx P} {o : Oper} {s : St} {d : Nat} {t e sz b : Nat} {z : Value} {x y : Operand} [h : SliceT P t e sz b z] (ho : o.op = .slice t x none (some y) none) (hd : o.dst = some d) (hN : d < C.N) {α : Type} (g : α → List D) (l : List α) (m : Nat) {i : Int} (hx : ev s.e x = V.list sz (l.map g)) (hy : ev s.e y = V.int i) (hi : i = m) (hm : m ≤ l.length) :
    Ok C o s ⟨[], [], V.list sz ((l.take m).map g)⟩ := by
  have := ok_slice_h ho hd hN hx hy (by omega) (by simp; omega)
  rw [hi, Int.toNat_natCast, ← List.map_take] at this
  exact this

/-- One list of songs, by numbers: each one once. -/
def rowOf (songs : Int) (x : List Int) : List Int := x.foldl (fun row n => if n.tmod songs ∈ row then row else row ++ [n.tmod songs]) []
theorem rowOf_snoc (songs : Int) (x : List Int) (n : Int) : rowOf songs (x ++ [n]) = if n.tmod songs ∈ rowOf songs x then rowOf songs x else rowOf songs x ++ [n.tmod songs] := by rw [rowOf, List.foldl_append]; rfl
theorem rowOf_le (songs : Int) (x : List Int) : (rowOf songs x).length ≤ x.length := by
  have : ∀ (x row : List Int), (x.foldl (fun row n => if n.tmod songs ∈ row then row else row ++ [n.tmod songs]) row).length ≤ row.length + x.length := by
    intro x
    induction x with
    | nil => intro row; simp
    | cons n x ih => intro row; rw [List.foldl_cons]; refine Nat.le_trans (ih _) ?_; split <;> simp <;> omega
  have h := this x []
  rw [List.length_nil, Nat.zero_add] at h
  exact h
theorem idx_mem (x : Int) : ∀ (l : List Int) (k : Int), 0 ≤ k → (decide (0 ≤ idxFrom x l k) = decide (x ∈ l))
  | [], k, _ => by simp [idxFrom]
  | y :: r, k, hk => by
    rw [idxFrom]
    by_cases h : x = y
    · simp [h, hk]
    · rw [if_neg h, idx_mem x r (k + 1) (by omega)]; simp [h]

theorem lists_fn (songs : Int) (l : List (List Int)) (hs : 0 < songs) (hs2 : songs ≤ 1000) (hb : ∀ r ∈ l, ∀ n ∈ r, 0 ≤ n ∧ n < 256) : Does Try.prog 5 [V.int songs, V.list 1 (brows l)] (V.list 1 (rows ((l.take 40).map fun x => rowOf songs (x.take 8)))) := by
  refine Does.of Try.func5 rfl Try.call5 (by rw [Try.ntmps5]; simp) fun C hro hN hfx => ?_
  have hN' : ∀ k, k < 51 → k < C.N := fun k hk => by rw [hN]; exact hk
  dsimp only [argEnv, Nat.zero_add, Nat.reduceAdd]
  have hbl : (brows l).length = l.length := by simp [brows]
  repeat' (first
    | refine Seq.pureG (ok_head rfl rfl (hN' _ (by decide)) (fun r => [D.list 1 (bytes r)]) l (min l.length 40) rfl rfl (by simp only [hbl]; omega) (by omega)) rfl (by first | exact .none rfl | exact .want rfl rfl rfl (hN' _ (by decide)) rfl | exact .want rfl rfl rfl (hN' _ (by decide)) (by assumption)) ?_
    | refine T.seq ?_
    | refine T.region ?_
    | refine T.block ?_
    | refine Seq.nil ?_
    | refine Seq.pureG (ok_move_d rfl rfl (hN' _ (by decide)) rfl) rfl (by first | exact .none rfl | exact .want rfl rfl rfl (hN' _ (by decide)) rfl | exact .want rfl rfl rfl (hN' _ (by decide)) (by assumption)) ?_
    | refine Seq.pureG (ok_assign_d rfl rfl (hN' _ (by decide)) rfl) rfl (by first | exact .none rfl | exact .want rfl rfl rfl (hN' _ (by decide)) rfl | exact .want rfl rfl rfl (hN' _ (by decide)) (by assumption)) ?_
    | refine Seq.pureG (ok_len_list rfl rfl (hN' _ (by decide)) rfl) rfl (by first | exact .none rfl | exact .want rfl rfl rfl (hN' _ (by decide)) rfl | exact .want rfl rfl rfl (hN' _ (by decide)) (by assumption)) ?_
    | refine Seq.pureG (ok_min rfl rfl (hN' _ (by decide)) rfl rfl) rfl (by first | exact .none rfl | exact .want rfl rfl rfl (hN' _ (by decide)) rfl | exact .want rfl rfl rfl (hN' _ (by decide)) (by assumption)) ?_)
  refine T.sub (Sub.begin 5 0 1 24 rfl rfl) ?_
  obtain ⟨L, hL⟩ : ∃ L, L = l.take (min l.length 40) := ⟨_, rfl⟩
  have hLl : L.length ≤ 40 := by rw [hL]; simp; omega
  have hLb : ∀ r ∈ L, ∀ n ∈ r, 0 ≤ n ∧ n < 256 := fun r hr => hb r (List.mem_of_mem_take (by rw [hL] at hr; exact hr))
  have hL2 : l.take 40 = L := by
    rw [hL]
    rcases Nat.le_total l.length 40 with h | h
    · rw [Nat.min_eq_left h, List.take_length, List.take_of_length_le h]
    · rw [Nat.min_eq_right h]
  rw [hL2]
  rw [← hL]
  refine T.loopP (fun k : Nat => ⟨[(18, V.int k), (17, V.int L.length), (16, V.list 1 (brows L)), (0, V.int songs), (5, .acc 0 1 k)], [(0, some ⟨24, rrow ((L.take k).map fun x => rowOf songs (x.take 8))⟩)], []⟩) (fun k => k ≤ L.length) (fun k => L.length - k) 0 (Nat.zero_le _) (Sub.env ⟨rfl, by simp [Env.get], rfl, rfl, rfl, trivial⟩) ?_
  intro k hk
  repeat' (first
    | refine T.seq ?_
    | refine T.region ?_
    | refine Seq.nil ?_
    | refine Seq.pureG (ok_lss rfl rfl (hN' _ (by decide)) rfl rfl) rfl (by first | exact .none rfl | exact .want rfl rfl rfl (hN' _ (by decide)) rfl | exact .want rfl rfl rfl (hN' _ (by decide)) (by assumption)) ?_)
  refine T.cond rfl (fun h => ?_) (fun h => ?_)
  · have hlt : k < L.length := by simpa using h
    have hat := brows_at hlt
    have hrb := hLb L[k] (List.getElem_mem hlt)
    have hbl2 : (bytes L[k]).length = L[k].length := by simp [bytes]
    repeat' (first
      | refine Seq.pureG (ok_index_list rfl rfl (hN' _ (by decide)) rfl rfl (by omega) (by simpa using hat)) rfl (by first | exact .none rfl | exact .want rfl rfl rfl (hN' _ (by decide)) rfl | exact .want rfl rfl rfl (hN' _ (by decide)) (by assumption)) ?_
      | refine Seq.pureG (ok_head rfl rfl (hN' _ (by decide)) (fun n => [D.val (.int .u8 n)]) L[k] (min L[k].length 8) rfl rfl (by simp only [hbl2]; omega) (by omega)) rfl (by first | exact .none rfl | exact .want rfl rfl rfl (hN' _ (by decide)) rfl | exact .want rfl rfl rfl (hN' _ (by decide)) (by assumption)) ?_
      | refine T.seq ?_
      | refine T.region ?_
      | refine T.block ?_
      | refine T.skip ?_
      | refine Seq.nil ?_
      | refine Seq.pureG (ok_move_d rfl rfl (hN' _ (by decide)) rfl) rfl (by first | exact .none rfl | exact .want rfl rfl rfl (hN' _ (by decide)) rfl | exact .want rfl rfl rfl (hN' _ (by decide)) (by assumption)) ?_
      | refine Seq.pureG (ok_assign_d rfl rfl (hN' _ (by decide)) rfl) rfl (by first | exact .none rfl | exact .want rfl rfl rfl (hN' _ (by decide)) rfl | exact .want rfl rfl rfl (hN' _ (by decide)) (by assumption)) ?_
      | refine Seq.pureG (ok_len_list rfl rfl (hN' _ (by decide)) rfl) rfl (by first | exact .none rfl | exact .want rfl rfl rfl (hN' _ (by decide)) rfl | exact .want rfl rfl rfl (hN' _ (by decide)) (by assumption)) ?_
      | refine Seq.pureG (ok_load_box rfl rfl (hN' _ (by decide)) rfl) rfl (by first | exact .none rfl | exact .want rfl rfl rfl (hN' _ (by decide)) rfl | exact .want rfl rfl rfl (hN' _ (by decide)) (by assumption)) ?_
      | refine Seq.pureG (ok_min rfl rfl (hN' _ (by decide)) rfl rfl) rfl (by first | exact .none rfl | exact .want rfl rfl rfl (hN' _ (by decide)) rfl | exact .want rfl rfl rfl (hN' _ (by decide)) (by assumption)) ?_)
    refine T.sub (Sub.begin 8 1 1 3 rfl rfl) ?_
    obtain ⟨X, hX⟩ : ∃ X, X = L[k].take (min L[k].length 8) := ⟨_, rfl⟩
    have hXl : X.length ≤ 8 := by rw [hX]; simp; omega
    have hXb : ∀ n ∈ X, 0 ≤ n ∧ n < 256 := fun r hr => hrb r (List.mem_of_mem_take (by rw [hX] at hr; exact hr))
    have hX2 : L[k].take 8 = X := by
      rw [hX]
      rcases Nat.le_total L[k].length 8 with h | h
      · rw [Nat.min_eq_left h, List.take_length, List.take_of_length_le h]
      · rw [Nat.min_eq_right h]
    rw [← hX]
    refine T.loopP (fun j : Nat => ⟨[(28, V.int j), (27, V.int X.length), (26, V.list 1 (bytes X)), (8, .acc 1 1 (rowOf songs (X.take j)).length), (18, V.int k), (17, V.int L.length), (16, V.list 1 (brows L)), (0, V.int songs), (5, .acc 0 1 k)], [(1, some ⟨3, row (rowOf songs (X.take j))⟩), (0, some ⟨24, rrow ((L.take k).map fun x => rowOf songs (x.take 8))⟩)], []⟩) (fun j => j ≤ X.length) (fun j => X.length - j) 0 (Nat.zero_le _) (Sub.env ⟨rfl, by simp [Env.get], rfl, rfl, rfl, rfl, rfl, rfl, rfl, trivial⟩) ?_
    intro j hj
    repeat' (first
      | refine T.seq ?_
      | refine T.region ?_
      | refine Seq.nil ?_
      | refine Seq.pureG (ok_lss rfl rfl (hN' _ (by decide)) rfl rfl) rfl (by first | exact .none rfl | exact .want rfl rfl rfl (hN' _ (by decide)) rfl | exact .want rfl rfl rfl (hN' _ (by decide)) (by assumption)) ?_)
    refine T.cond rfl (fun h2 => ?_) (fun h2 => ?_)
    · have hlt2 : j < X.length := by simpa using h2
      have hat2 := bytes_at hlt2
      have hx := hXb X[j] (List.getElem_mem hlt2)
      have hw : IntKind.i64.wrap X[j] = X[j] := wrap_i64 (by omega) (by omega)
      have hR : (rowOf songs (X.take j)).length ≤ 8 := by have := rowOf_le songs (X.take j); simp at this; omega
      have htk : X.take (j + 1) = X.take j ++ [X[j]] := List.take_succ_eq_append_getElem hlt2
      obtain ⟨R, hRe⟩ : ∃ R, R = rowOf songs (X.take j) := ⟨_, rfl⟩
      rw [← hRe] at hR
      rw [← hRe]
      repeat' (first
        | refine Seq.pureG (ok_index_list rfl rfl (hN' _ (by decide)) rfl rfl (by omega) (by simpa using hat2)) rfl (by first | exact .none rfl | exact .want rfl rfl rfl (hN' _ (by decide)) rfl | exact .want rfl rfl rfl (hN' _ (by decide)) (by assumption)) ?_
        | refine Seq.pureG (ok_rem rfl rfl (hN' _ (by decide)) rfl rfl (by omega)) rfl (by first | exact .none rfl | exact .want rfl rfl rfl (hN' _ (by decide)) rfl | exact .want rfl rfl rfl (hN' _ (by decide)) (by assumption)) ?_
        | refine Seq.pureG (ok_call_lend 1 1 (ints R) rfl rfl (hN' _ (by decide)) [.acc 1 1 R.length, V.int ((IntKind.i64.wrap X[j]).tmod songs)] rfl rfl (ints_one R) (by decide) (lend_ok (by simp [V.deep])) rfl (contains_fn R ((IntKind.i64.wrap X[j]).tmod songs) (by omega))) rfl (by first | exact .none rfl | exact .want rfl rfl rfl (hN' _ (by decide)) rfl | exact .want rfl rfl rfl (hN' _ (by decide)) (by assumption)) ?_
        | refine T.seq ?_
        | refine T.region ?_
        | refine T.block ?_
        | refine T.skip ?_
        | refine Seq.nil ?_
        | refine Seq.pureG (ok_move_d rfl rfl (hN' _ (by decide)) rfl) rfl (by first | exact .none rfl | exact .want rfl rfl rfl (hN' _ (by decide)) rfl | exact .want rfl rfl rfl (hN' _ (by decide)) (by assumption)) ?_
        | refine Seq.pureG (ok_assign_d rfl rfl (hN' _ (by decide)) rfl) rfl (by first | exact .none rfl | exact .want rfl rfl rfl (hN' _ (by decide)) rfl | exact .want rfl rfl rfl (hN' _ (by decide)) (by assumption)) ?_
        | refine Seq.pureG (ok_move_acc rfl rfl (hN' _ (by decide)) rfl) rfl (by first | exact .none rfl | exact .want rfl rfl rfl (hN' _ (by decide)) rfl | exact .want rfl rfl rfl (hN' _ (by decide)) (by assumption)) ?_
        | refine Seq.pureG (ok_not rfl rfl (hN' _ (by decide)) rfl) rfl (by first | exact .none rfl | exact .want rfl rfl rfl (hN' _ (by decide)) rfl | exact .want rfl rfl rfl (hN' _ (by decide)) (by assumption)) ?_
        | refine Seq.pureG (ok_load_box rfl rfl (hN' _ (by decide)) rfl) rfl (by first | exact .none rfl | exact .want rfl rfl rfl (hN' _ (by decide)) rfl | exact .want rfl rfl rfl (hN' _ (by decide)) (by assumption)) ?_
        | refine Seq.pureG (ok_convert rfl rfl (hN' _ (by decide)) rfl) rfl (by first | exact .none rfl | exact .want rfl rfl rfl (hN' _ (by decide)) rfl | exact .want rfl rfl rfl (hN' _ (by decide)) (by assumption)) ?_)
      refine T.cond rfl (fun h3 => ?_) (fun h3 => ?_)
      · repeat' (first
          | refine Seq.pureG (ok_build1 rfl rfl (hN' _ (by decide)) rfl rfl) rfl (by first | exact .none rfl | exact .want rfl rfl rfl (hN' _ (by decide)) rfl | exact .want rfl rfl rfl (hN' _ (by decide)) (by assumption)) ?_
          | refine Seq.appG (ok_append1 2 rfl rfl (hN' _ (by decide)) rfl rfl rfl rfl rfl rfl (by rw [row_len]) (by omega) (by simp [maxLen]; omega)) rfl (by first | exact .none rfl | exact .want rfl rfl rfl (hN' _ (by decide)) rfl | exact .want rfl rfl rfl (hN' _ (by decide)) (by assumption)) ?_
          | refine T.region ?_
          | refine Seq.nil ?_
          | refine Seq.pureG (ok_move_d rfl rfl (hN' _ (by decide)) rfl) rfl (by first | exact .none rfl | exact .want rfl rfl rfl (hN' _ (by decide)) rfl | exact .want rfl rfl rfl (hN' _ (by decide)) (by assumption)) ?_
          | refine Seq.pureG (ok_move_acc rfl rfl (hN' _ (by decide)) rfl) rfl (by first | exact .none rfl | exact .want rfl rfl rfl (hN' _ (by decide)) rfl | exact .want rfl rfl rfl (hN' _ (by decide)) (by assumption)) ?_
          | refine Seq.pureG (ok_assign_acc rfl rfl (hN' _ (by decide)) rfl) rfl (by first | exact .none rfl | exact .want rfl rfl rfl (hN' _ (by decide)) rfl | exact .want rfl rfl rfl (hN' _ (by decide)) (by assumption)) ?_
          | refine Seq.pureG (ok_add rfl rfl (hN' _ (by decide)) rfl rfl) rfl (by first | exact .none rfl | exact .want rfl rfl rfl (hN' _ (by decide)) rfl | exact .want rfl rfl rfl (hN' _ (by decide)) (by assumption)) ?_)
        rw [idx_mem _ _ _ (by omega), hw] at h3
        have h3 : ¬ X[j].tmod songs ∈ R := by simpa using h3
        have hnew : rowOf songs (X.take (j + 1)) = R ++ [X[j].tmod songs] := by rw [htk, rowOf_snoc, ← hRe, if_neg h3]
        refine ⟨j + 1, by omega, by omega, ?_⟩
        rw [hnew]
        refine Sub.ren (nm [0, 2]) ⟨by rw [← next_i64 hlt2 (by omega)]; rfl, rfl, rfl, by rw [List.length_append]; rfl, rfl, rfl, rfl, rfl, rfl, trivial⟩ ⟨?_, ?_, trivial⟩ rfl rfl (by simp [storeIn, ins_row, ins_rrow]) (fx0 hfx)
        · rw [rens_row, row_snoc, ← show V.int ((IntKind.i64.wrap X[j]).tmod songs) = V.int (X[j].tmod songs) by rw [hw]]; rfl
        · rw [rens_rrow]; rfl
      · repeat' (first
          | refine T.region ?_
          | refine T.skip ?_
          | refine Seq.nil ?_
          | refine Seq.pureG (ok_move_d rfl rfl (hN' _ (by decide)) rfl) rfl (by first | exact .none rfl | exact .want rfl rfl rfl (hN' _ (by decide)) rfl | exact .want rfl rfl rfl (hN' _ (by decide)) (by assumption)) ?_
          | refine Seq.pureG (ok_add rfl rfl (hN' _ (by decide)) rfl rfl) rfl (by first | exact .none rfl | exact .want rfl rfl rfl (hN' _ (by decide)) rfl | exact .want rfl rfl rfl (hN' _ (by decide)) (by assumption)) ?_)
        rw [idx_mem _ _ _ (by omega), hw] at h3
        have h3 : X[j].tmod songs ∈ R := by simpa using h3
        have hnew : rowOf songs (X.take (j + 1)) = R := by rw [htk, rowOf_snoc, ← hRe, if_pos h3]
        refine ⟨j + 1, by omega, by omega, ?_⟩
        rw [hnew]
        exact Sub.env ⟨by rw [← next_i64 hlt2 (by omega)]; rfl, rfl, rfl, rfl, rfl, rfl, rfl, rfl, rfl, trivial⟩
    · obtain rfl := loop_end hj h2
      rw [List.take_length]
      refine T.exit ?_
      show T C _ _ _
      refine T.sub (Sub.freeze1 1 1 8 (es := ints (rowOf songs X)) rfl rfl (ints_len _).symm (ints_one _) (by decide)) ?_
      repeat' (first
        | refine Seq.pureG (ok_build1 rfl rfl (hN' _ (by decide)) rfl rfl) rfl (by first | exact .none rfl | exact .want rfl rfl rfl (hN' _ (by decide)) rfl | exact .want rfl rfl rfl (hN' _ (by decide)) (by assumption)) ?_
        | refine Seq.appG (ok_append1 2 rfl rfl (hN' _ (by decide)) rfl rfl rfl rfl rfl rfl (by rw [rrow_len]; simp; omega) (by omega) (by simp [maxLen]; omega)) rfl (by first | exact .none rfl | exact .want rfl rfl rfl (hN' _ (by decide)) rfl | exact .want rfl rfl rfl (hN' _ (by decide)) (by assumption)) ?_
        | refine T.region ?_
        | refine Seq.nil ?_
        | refine Seq.pureG (ok_move_d rfl rfl (hN' _ (by decide)) rfl) rfl (by first | exact .none rfl | exact .want rfl rfl rfl (hN' _ (by decide)) rfl | exact .want rfl rfl rfl (hN' _ (by decide)) (by assumption)) ?_
        | refine Seq.pureG (ok_move_acc rfl rfl (hN' _ (by decide)) rfl) rfl (by first | exact .none rfl | exact .want rfl rfl rfl (hN' _ (by decide)) rfl | exact .want rfl rfl rfl (hN' _ (by decide)) (by assumption)) ?_
        | refine Seq.pureG (ok_assign_acc rfl rfl (hN' _ (by decide)) rfl) rfl (by first | exact .none rfl | exact .want rfl rfl rfl (hN' _ (by decide)) rfl | exact .want rfl rfl rfl (hN' _ (by decide)) (by assumption)) ?_
        | refine Seq.pureG (ok_add rfl rfl (hN' _ (by decide)) rfl rfl) rfl (by first | exact .none rfl | exact .want rfl rfl rfl (hN' _ (by decide)) rfl | exact .want rfl rfl rfl (hN' _ (by decide)) (by assumption)) ?_)
      refine ⟨k + 1, by omega, by omega, Sub.ren (nm [2]) ⟨by rw [← next_i64 hlt (by omega)]; rfl, rfl, rfl, rfl, rfl, trivial⟩ ⟨?_, trivial⟩ rfl rfl (by simp [storeIn, ins_rrow]) (fx0 hfx)⟩
      rw [rens_rrow, List.take_succ_eq_append_getElem hlt, List.map_append, List.map_cons, List.map_nil, rrow_snoc, hX2]; rfl
  · obtain rfl := loop_end hk h
    refine T.exit ?_
    show T C _ _ _
    rw [List.take_length]
    refine T.sub (Sub.freeze1 0 1 5 (es := rows (L.map fun x => rowOf songs (x.take 8))) rfl rfl (by simp [rows]) (rows_one _) (by decide)) ?_
    repeat' (first
      | refine T.seq ?_
      | refine T.region ?_
      | refine Seq.nil ?_
      | refine Seq.pureG (ok_move_d rfl rfl (hN' _ (by decide)) rfl) rfl (by first | exact .none rfl | exact .want rfl rfl rfl (hN' _ (by decide)) rfl | exact .want rfl rfl rfl (hN' _ (by decide)) (by assumption)) ?_
      | refine Seq.pureG (ok_assign_d rfl rfl (hN' _ (by decide)) rfl) rfl (by first | exact .none rfl | exact .want rfl rfl rfl (hN' _ (by decide)) rfl | exact .want rfl rfl rfl (hN' _ (by decide)) (by assumption)) ?_)
    exact T.ret (Fin.one rfl rfl rfl rfl)

end Go.Proofs.Ytjofdfiljokfoaa.R
