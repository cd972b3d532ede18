/- What functions that the law reaches compute: one step of the proof of the law's statement; each theorem states its own conditions. -/
import Derived.Test.YtjofdfiljokfoaaR1
namespace Go.Proofs.Ytjofdfiljokfoaa.R
open Go Go.RowKit Go.Proofs.Ytjofdfiljokfoaa.TL
set_option linter.unusedVariables false
set_option linter.unusedSimpArgs false

instance z42 : CellT Try.prog 4 := CellT.of Try.underlying4 rfl (by kernel_rfl)
instance b4 : BoolT Try.prog 4 := ⟨Try.underlying4⟩

/-- The cells of one's own row of ints. -/
def row (l : List Int) : List V := (ints l).flatten.map V.d
theorem row_map (l : List Int) : row l = l.map V.int := by
  induction l with
  | nil => rfl
  | cons x r ih => simp only [row, ints, List.map_cons, List.flatten_cons, List.map_append] at ih ⊢; rw [ih]; rfl
theorem row_len (l : List Int) : (row l).length = l.length := by rw [row_map]; simp
theorem row_append (l m : List Int) : row (l ++ m) = row l ++ row m := by simp [row_map]
theorem row_snoc (l : List Int) (x : Int) : row (l ++ [x]) = row l ++ [V.int x] := row_append l [x]
theorem row_get {l : List Int} {i : Nat} {x : Int} (h : l[i]? = some x) : (row l)[i]? = some (V.int x) := by rw [row_map, List.getElem?_map, h]; rfl
theorem row_set (l : List Int) (i : Nat) (x : Int) : (row l).set i (V.int x) = row (l.set i x) := by rw [row_map, row_map, List.map_set]
theorem row_take (l : List Int) (i : Nat) : (row l).take i = row (l.take i) := by rw [row_map, row_map, List.map_take]
theorem ins_row (S : Store) (l : List Int) : V.insS S (row l) = true := insS_ds S _
theorem ints_one (l : List Int) : ∀ x ∈ ints l, x.length = 1 := fun x hx => by
  simp only [ints, List.mem_map] at hx
  obtain ⟨y, _, rfl⟩ := hx
  rfl
theorem rens_row (π : Nat → Nat) (l : List Int) : V.rens π (row l) = row l := by
  rw [row_map]
  induction l with
  | nil => rfl
  | cons x r ih => rw [List.map_cons, V.rens, ih]; rfl

theorem mixed : Try.prog.follows .mixedOrders = true := by kernel_rfl

def upto (n : Nat) : List Int := (List.range n).map fun (k : Nat) => (k : Int)
theorem upto_succ (n : Nat) : upto (n + 1) = upto n ++ [(n : Int)] := by simp [upto, List.range_succ]
theorem upto_len (n : Nat) : (upto n).length = n := by simp [upto]

/-- Names anew: what was made at last takes the first one's name. -/
def nm (l : List Nat) : Nat → Nat := fun i => l.getD i (i + 1000)

theorem below4_fn (n : Nat) (hn : n ≤ 1000) : DoesS Try.prog 6 [V.int n] [] (.acc 0 1 n) [(0, some ⟨3, row (upto n)⟩)] := by
  refine DoesS.of Try.func6 rfl Try.call6 (by rw [Try.ntmps6]; simp) fun C hro hN hfx => ?_
  have hN' : ∀ k, k < 15 → k < C.N := fun k hk => by rw [hN]; exact hk
  have hf0 : ∀ {p : Nat → Prop} id, C.fx id ≠ none → p id := fun id h => absurd rfl (hfx id h)
  dsimp only [argEnv, Nat.zero_add, Nat.reduceAdd]
  repeat' (first
    | refine T.seq ?_
    | refine T.region ?_
    | refine T.block ?_
    | refine Seq.nil ?_
    | refine Seq.pureG (ok_move_d rfl rfl (hN' _ (by decide)) rfl) rfl (by first | exact .none rfl | exact .want rfl rfl rfl (hN' _ (by decide)) rfl | exact .want rfl rfl rfl (hN' _ (by decide)) (by assumption)) ?_
    | refine Seq.pureG (ok_assign_d rfl rfl (hN' _ (by decide)) rfl) rfl (by first | exact .none rfl | exact .want rfl rfl rfl (hN' _ (by decide)) rfl | exact .want rfl rfl rfl (hN' _ (by decide)) (by assumption)) ?_)
  refine T.sub (Sub.begin 3 0 1 3 rfl rfl) ?_
  refine T.loopP (fun k : Nat => ⟨[(6, V.int k), (5, V.int n), (3, .acc 0 1 k)], [(0, some ⟨3, row (upto k)⟩)], []⟩) (fun k => k ≤ n) (fun k => n - k) 0 (Nat.zero_le _) (Sub.env ⟨rfl, rfl, rfl, trivial⟩) ?_
  intro k hk
  repeat' (first
    | refine T.seq ?_
    | refine T.region ?_
    | refine Seq.nil ?_
    | refine Seq.pureG (ok_lss rfl rfl (hN' _ (by decide)) rfl rfl) rfl (by first | exact .none rfl | exact .want rfl rfl rfl (hN' _ (by decide)) rfl | exact .want rfl rfl rfl (hN' _ (by decide)) (by assumption)) ?_)
  refine T.cond rfl (fun h => ?_) (fun h => ?_)
  · have hlt : k < n := by simpa using h
    repeat' (first
      | refine Seq.pureG (ok_build1 rfl rfl (hN' _ (by decide)) rfl rfl) rfl (by first | exact .none rfl | exact .want rfl rfl rfl (hN' _ (by decide)) rfl | exact .want rfl rfl rfl (hN' _ (by decide)) (by assumption)) ?_
      | refine Seq.appG (ok_append1 1 rfl rfl (hN' _ (by decide)) rfl rfl rfl rfl rfl rfl (by rw [row_len, upto_len]) (by omega) (by simp [maxLen]; omega)) rfl (by first | exact .none rfl | exact .want rfl rfl rfl (hN' _ (by decide)) rfl | exact .want rfl rfl rfl (hN' _ (by decide)) (by assumption)) ?_
      | refine T.seq ?_
      | refine T.region ?_
      | refine T.block ?_
      | refine T.skip ?_
      | refine Seq.nil ?_
      | refine Seq.pureG (ok_move_d rfl rfl (hN' _ (by decide)) rfl) rfl (by first | exact .none rfl | exact .want rfl rfl rfl (hN' _ (by decide)) rfl | exact .want rfl rfl rfl (hN' _ (by decide)) (by assumption)) ?_
      | refine Seq.pureG (ok_assign_d rfl rfl (hN' _ (by decide)) rfl) rfl (by first | exact .none rfl | exact .want rfl rfl rfl (hN' _ (by decide)) rfl | exact .want rfl rfl rfl (hN' _ (by decide)) (by assumption)) ?_
      | refine Seq.pureG (ok_move_acc rfl rfl (hN' _ (by decide)) rfl) rfl (by first | exact .none rfl | exact .want rfl rfl rfl (hN' _ (by decide)) rfl | exact .want rfl rfl rfl (hN' _ (by decide)) (by assumption)) ?_
      | refine Seq.pureG (ok_assign_acc rfl rfl (hN' _ (by decide)) rfl) rfl (by first | exact .none rfl | exact .want rfl rfl rfl (hN' _ (by decide)) rfl | exact .want rfl rfl rfl (hN' _ (by decide)) (by assumption)) ?_
      | refine Seq.pureG (ok_add rfl rfl (hN' _ (by decide)) rfl rfl) rfl (by first | exact .none rfl | exact .want rfl rfl rfl (hN' _ (by decide)) rfl | exact .want rfl rfl rfl (hN' _ (by decide)) (by assumption)) ?_)
    refine ⟨k + 1, by omega, by omega, Sub.ren (nm [1]) ⟨by simp [Env.get, wrap_i64 (show (-9223372036854775808 : Int) ≤ (k : Int) + 1 by omega) (by omega)]; rfl, rfl, rfl, trivial⟩ ⟨?_, trivial⟩ rfl rfl (by simp [storeIn, ins_row]) hf0⟩
    rw [rens_row, upto_succ, row_snoc]
    rfl
  · have : k = n := by have : ¬ k < n := by simpa using h
                       omega
    subst this
    skip
    refine T.exit ?_
    show T C _ _ _
    repeat' (first
      | refine T.seq ?_
      | refine T.region ?_
      | refine Seq.nil ?_
      | refine Seq.pureG (ok_move_acc rfl rfl (hN' _ (by decide)) rfl) rfl (by first | exact .none rfl | exact .want rfl rfl rfl (hN' _ (by decide)) rfl | exact .want rfl rfl rfl (hN' _ (by decide)) (by assumption)) ?_
      | refine Seq.pureG (ok_assign_acc rfl rfl (hN' _ (by decide)) rfl) rfl (by first | exact .none rfl | exact .want rfl rfl rfl (hN' _ (by decide)) rfl | exact .want rfl rfl rfl (hN' _ (by decide)) (by assumption)) ?_)
    exact T.ret (FinS.one rfl rfl rfl (.tmp rfl .nil))


theorem loop_end {k n : Nat} (hk : k ≤ n) (h : decide ((k : Int) < (n : Int)) = false) : k = n := by
  have : ¬ k < n := by simpa using h
  omega
theorem next_i64 {k n : Nat} (h : k < n) (hn : n ≤ 1000000) : IntKind.i64.wrap ((k : Int) + 1) = ((k + 1 : Nat) : Int) := by
  rw [wrap_i64 (by omega) (by omega)]; simp
theorem drop_at {l : List Int} {k : Nat} (h : k < l.length) : l.drop k = l[k] :: l.drop (k + 1) := List.drop_eq_getElem_cons h

theorem in_fn (lo hi : Int) (l : List Int) (hl : l.length ≤ 1000000) : Does Try.prog 18 [V.int lo, V.int hi, V.list 1 (ints l)] (V.b (l.all fun x => decide (lo ≤ x) && decide (x ≤ hi))) := by
  refine Does.of Try.func18 rfl Try.call18 (by rw [Try.ntmps18]; simp) fun C hro hN hfx => ?_
  have hN' : ∀ k, k < 24 → k < C.N := fun k hk => by rw [hN]; exact hk
  dsimp only [argEnv, Nat.zero_add, Nat.reduceAdd]
  repeat' (first
    | refine T.seq ?_
    | refine T.region ?_
    | refine T.block ?_
    | refine Seq.nil ?_
    | refine Seq.pureG (ok_move_d rfl rfl (hN' _ (by decide)) rfl) rfl (by first | exact .none rfl | exact .want rfl rfl rfl (hN' _ (by decide)) rfl | exact .want rfl rfl rfl (hN' _ (by decide)) (by assumption)) ?_
    | refine Seq.pureG (ok_assign_d rfl rfl (hN' _ (by decide)) rfl) rfl (by first | exact .none rfl | exact .want rfl rfl rfl (hN' _ (by decide)) rfl | exact .want rfl rfl rfl (hN' _ (by decide)) (by assumption)) ?_
    | refine Seq.pureG (ok_len_list rfl rfl (hN' _ (by decide)) rfl) rfl (by first | exact .none rfl | exact .want rfl rfl rfl (hN' _ (by decide)) rfl | exact .want rfl rfl rfl (hN' _ (by decide)) (by assumption)) ?_)
  refine T.loopP (fun k : Nat => ⟨[(11, V.int k), (10, V.int l.length), (9, V.list 1 (ints l)), (0, V.int lo), (1, V.int hi)], [], []⟩) (fun k => k ≤ l.length ∧ (l.all fun x => decide (lo ≤ x) && decide (x ≤ hi)) = ((l.drop k).all fun x => decide (lo ≤ x) && decide (x ≤ hi))) (fun k => l.length - k) 0 ⟨Nat.zero_le _, rfl⟩ (Sub.env ⟨rfl, by simp [ints, Env.get], rfl, rfl, rfl, trivial⟩) ?_
  rintro k ⟨hk, hi'⟩
  repeat' (first
    | refine T.seq ?_
    | refine T.region ?_
    | refine Seq.nil ?_
    | refine Seq.pureG (ok_lss rfl rfl (hN' _ (by decide)) rfl rfl) rfl (by first | exact .none rfl | exact .want rfl rfl rfl (hN' _ (by decide)) rfl | exact .want rfl rfl rfl (hN' _ (by decide)) (by assumption)) ?_)
  refine T.cond rfl (fun h => ?_) (fun h => ?_)
  · have hlt : k < l.length := by simpa using h
    have hat := ints_at hlt
    rw [drop_at hlt, List.all_cons] at hi'
    repeat' (first
      | refine Seq.pureG (ok_index_list rfl rfl (hN' _ (by decide)) rfl rfl (by omega) (by simpa using hat)) rfl (by first | exact .none rfl | exact .want rfl rfl rfl (hN' _ (by decide)) rfl | exact .want rfl rfl rfl (hN' _ (by decide)) (by assumption)) ?_
      | refine T.seq ?_
      | refine T.region ?_
      | refine T.block ?_
      | refine T.skip ?_
      | refine Seq.nil ?_
      | refine Seq.passC rfl rfl rfl rfl (hN' _ (by decide)) (by assumption) rfl (hN' _ (by decide)) ?_
      | refine Seq.pureG (ok_move_d rfl rfl (hN' _ (by decide)) rfl) rfl (by first | exact .none rfl | exact .want rfl rfl rfl (hN' _ (by decide)) rfl | exact .want rfl rfl rfl (hN' _ (by decide)) (by assumption)) ?_
      | refine Seq.pureG (ok_assign_d rfl rfl (hN' _ (by decide)) rfl) rfl (by first | exact .none rfl | exact .want rfl rfl rfl (hN' _ (by decide)) rfl | exact .want rfl rfl rfl (hN' _ (by decide)) (by assumption)) ?_
      | refine Seq.pureG (ok_lss rfl rfl (hN' _ (by decide)) rfl rfl) rfl (by first | exact .none rfl | exact .want rfl rfl rfl (hN' _ (by decide)) rfl | exact .want rfl rfl rfl (hN' _ (by decide)) (by assumption)) ?_
      | refine Seq.pureG (ok_gtr rfl rfl (hN' _ (by decide)) rfl rfl) rfl (by first | exact .none rfl | exact .want rfl rfl rfl (hN' _ (by decide)) rfl | exact .want rfl rfl rfl (hN' _ (by decide)) (by assumption)) ?_
      | refine Seq.pureG (ok_load_box rfl rfl (hN' _ (by decide)) rfl) rfl (by first | exact .none rfl | exact .want rfl rfl rfl (hN' _ (by decide)) rfl | exact .want rfl rfl rfl (hN' _ (by decide)) (by assumption)) ?_
      | refine Seq.pureG (ok_pick_t rfl rfl (hN' _ (by decide)) rfl (by assumption) rfl) rfl (by first | exact .none rfl | exact .want rfl rfl rfl (hN' _ (by decide)) rfl | exact .want rfl rfl rfl (hN' _ (by decide)) (by assumption)) ?_
      | refine Seq.pureG (ok_pick_f rfl rfl (hN' _ (by decide)) rfl (by assumption) rfl) rfl (by first | exact .none rfl | exact .want rfl rfl rfl (hN' _ (by decide)) rfl | exact .want rfl rfl rfl (hN' _ (by decide)) (by assumption)) ?_
      | refine Seq.split rfl rfl rfl rfl (fun hgd => ?_) (fun hgd => ?_))
    · refine T.cond rfl (fun h2 => ?_) (fun h2 => ?_)
      · repeat' (first
          | refine T.seq ?_
          | refine T.region ?_
          | refine Seq.nil ?_
          | refine Seq.pureG (ok_assign_d rfl rfl (hN' _ (by decide)) rfl) rfl (by first | exact .none rfl | exact .want rfl rfl rfl (hN' _ (by decide)) rfl | exact .want rfl rfl rfl (hN' _ (by decide)) (by assumption)) ?_)
        refine T.ret (Fin.one rfl rfl ?_ rfl)
        rw [hi', show decide (l[k] ≤ hi) = false by simpa using h2]; simp; rfl
      · repeat' (first
          | refine T.region ?_
          | refine T.skip ?_
          | refine Seq.nil ?_
          | refine Seq.pureG (ok_move_d rfl rfl (hN' _ (by decide)) rfl) rfl (by first | exact .none rfl | exact .want rfl rfl rfl (hN' _ (by decide)) rfl | exact .want rfl rfl rfl (hN' _ (by decide)) (by assumption)) ?_
          | refine Seq.pureG (ok_add rfl rfl (hN' _ (by decide)) rfl rfl) rfl (by first | exact .none rfl | exact .want rfl rfl rfl (hN' _ (by decide)) rfl | exact .want rfl rfl rfl (hN' _ (by decide)) (by assumption)) ?_)
        exact ⟨k + 1, ⟨by omega, by rw [hi', show decide (lo ≤ l[k]) = true by simpa using hgd, show decide (l[k] ≤ hi) = true by simpa using h2]; rfl⟩, by omega, Sub.env ⟨by rw [← next_i64 hlt hl]; rfl, rfl, rfl, rfl, rfl, trivial⟩⟩
    · refine T.cond rfl (fun _ => ?_) (fun h => by cases h)
      repeat' (first
        | refine T.seq ?_
        | refine T.region ?_
        | refine Seq.nil ?_
        | refine Seq.pureG (ok_assign_d rfl rfl (hN' _ (by decide)) rfl) rfl (by first | exact .none rfl | exact .want rfl rfl rfl (hN' _ (by decide)) rfl | exact .want rfl rfl rfl (hN' _ (by decide)) (by assumption)) ?_)
      refine T.ret (Fin.one rfl rfl ?_ rfl)
      rw [hi', show decide (lo ≤ l[k]) = false by simpa using hgd]; rfl
  · obtain rfl := loop_end hk h
    skip
    refine T.exit ?_
    show T C _ _ _
    repeat' (first
      | refine T.seq ?_
      | refine T.region ?_
      | refine Seq.nil ?_
      | refine Seq.pureG (ok_assign_d rfl rfl (hN' _ (by decide)) rfl) rfl (by first | exact .none rfl | exact .want rfl rfl rfl (hN' _ (by decide)) rfl | exact .want rfl rfl rfl (hN' _ (by decide)) (by assumption)) ?_)
    refine T.ret (Fin.one rfl rfl ?_ rfl)
    rw [hi', List.drop_length]; rfl

theorem equal_fn (l m : List Int) (hl : l.length ≤ 1000000) : Does Try.prog 12 [V.list 1 (ints l), V.list 1 (ints m)] (V.b (l == m)) := by
  refine Does.of Try.func12 rfl Try.call12 (by rw [Try.ntmps12]; simp) fun C hro hN hfx => ?_
  have hN' : ∀ k, k < 26 → k < C.N := fun k hk => by rw [hN]; exact hk
  dsimp only [argEnv, Nat.zero_add, Nat.reduceAdd]
  repeat' (first
    | refine T.seq ?_
    | refine T.region ?_
    | refine Seq.nil ?_
    | refine Seq.pureG (ok_move_d rfl rfl (hN' _ (by decide)) rfl) rfl (by first | exact .none rfl | exact .want rfl rfl rfl (hN' _ (by decide)) rfl | exact .want rfl rfl rfl (hN' _ (by decide)) (by assumption)) ?_
    | refine Seq.pureG (ok_assign_d rfl rfl (hN' _ (by decide)) rfl) rfl (by first | exact .none rfl | exact .want rfl rfl rfl (hN' _ (by decide)) rfl | exact .want rfl rfl rfl (hN' _ (by decide)) (by assumption)) ?_
    | refine Seq.pureG (ok_len_list rfl rfl (hN' _ (by decide)) rfl) rfl (by first | exact .none rfl | exact .want rfl rfl rfl (hN' _ (by decide)) rfl | exact .want rfl rfl rfl (hN' _ (by decide)) (by assumption)) ?_
    | refine Seq.pureG (ok_neq rfl rfl (hN' _ (by decide)) rfl rfl) rfl (by first | exact .none rfl | exact .want rfl rfl rfl (hN' _ (by decide)) rfl | exact .want rfl rfl rfl (hN' _ (by decide)) (by assumption)) ?_)
  refine T.cond rfl (fun h => ?_) (fun h => ?_)
  · repeat' (first
      | refine T.seq ?_
      | refine T.region ?_
      | refine Seq.nil ?_
      | refine Seq.pureG (ok_assign_d rfl rfl (hN' _ (by decide)) rfl) rfl (by first | exact .none rfl | exact .want rfl rfl rfl (hN' _ (by decide)) rfl | exact .want rfl rfl rfl (hN' _ (by decide)) (by assumption)) ?_)
    refine T.ret (Fin.one rfl rfl ?_ rfl)
    have : ¬ l.length = m.length := fun e => by simp [ints_len, e] at h
    have : ¬ l = m := fun e => this (by rw [e])
    simp [this, Env.get]
  · have hlm : l.length = m.length := by simp [ints_len] at h; omega
    repeat' (first
      | refine T.seq ?_
      | refine T.region ?_
      | refine T.block ?_
      | refine T.skip ?_
      | refine Seq.nil ?_
      | refine Seq.pureG (ok_move_d rfl rfl (hN' _ (by decide)) rfl) rfl (by first | exact .none rfl | exact .want rfl rfl rfl (hN' _ (by decide)) rfl | exact .want rfl rfl rfl (hN' _ (by decide)) (by assumption)) ?_
      | refine Seq.pureG (ok_len_list rfl rfl (hN' _ (by decide)) rfl) rfl (by first | exact .none rfl | exact .want rfl rfl rfl (hN' _ (by decide)) rfl | exact .want rfl rfl rfl (hN' _ (by decide)) (by assumption)) ?_)
    refine T.loopP (fun k : Nat => ⟨[(13, V.int k), (12, V.int l.length), (0, V.list 1 (ints l)), (1, V.list 1 (ints m))], [], []⟩) (fun k => k ≤ l.length ∧ (l == m) = (l.drop k == m.drop k)) (fun k => l.length - k) 0 ⟨Nat.zero_le _, rfl⟩ (Sub.env ⟨rfl, by simp [ints, Env.get], rfl, rfl, trivial⟩) ?_
    rintro k ⟨hk, hi'⟩
    repeat' (first
      | refine T.seq ?_
      | refine T.region ?_
      | refine Seq.nil ?_
      | refine Seq.pureG (ok_lss rfl rfl (hN' _ (by decide)) rfl rfl) rfl (by first | exact .none rfl | exact .want rfl rfl rfl (hN' _ (by decide)) rfl | exact .want rfl rfl rfl (hN' _ (by decide)) (by assumption)) ?_)
    refine T.cond rfl (fun h => ?_) (fun h => ?_)
    · have hlt : k < l.length := by simpa using h
      have hlt' : k < m.length := by omega
      have hat := ints_at hlt
      have hat' := ints_at hlt'
      rw [drop_at hlt, drop_at hlt'] at hi'
      repeat' (first
        | refine T.seq ?_
        | refine T.region ?_
        | refine T.block ?_
        | refine T.skip ?_
        | refine Seq.nil ?_
        | refine Seq.pureG (ok_move_d rfl rfl (hN' _ (by decide)) rfl) rfl (by first | exact .none rfl | exact .want rfl rfl rfl (hN' _ (by decide)) rfl | exact .want rfl rfl rfl (hN' _ (by decide)) (by assumption)) ?_
        | refine Seq.pureG (ok_assign_d rfl rfl (hN' _ (by decide)) rfl) rfl (by first | exact .none rfl | exact .want rfl rfl rfl (hN' _ (by decide)) rfl | exact .want rfl rfl rfl (hN' _ (by decide)) (by assumption)) ?_)
      refine T.drawn mixed rfl ?_
      repeat' (first
        | refine Draw.pureG (ok_index_list rfl rfl (hN' _ (by decide)) rfl rfl (by omega) (by simpa using hat)) rfl (by first | exact .none rfl | exact .want rfl rfl rfl (hN' _ (by decide)) rfl | exact .want rfl rfl rfl (hN' _ (by decide)) (by assumption)) ?_
        | refine Draw.pureG (ok_index_list rfl rfl (hN' _ (by decide)) rfl rfl (by omega) (by simpa using hat')) rfl (by first | exact .none rfl | exact .want rfl rfl rfl (hN' _ (by decide)) rfl | exact .want rfl rfl rfl (hN' _ (by decide)) (by assumption)) ?_
        | refine Draw.pureG (ok_move_d rfl rfl (hN' _ (by decide)) rfl) rfl (by first | exact .none rfl | exact .want rfl rfl rfl (hN' _ (by decide)) rfl | exact .want rfl rfl rfl (hN' _ (by decide)) (by assumption)) ?_
        | refine Draw.pureG (ok_neq rfl rfl (hN' _ (by decide)) rfl rfl) rfl (by first | exact .none rfl | exact .want rfl rfl rfl (hN' _ (by decide)) rfl | exact .want rfl rfl rfl (hN' _ (by decide)) (by assumption)) ?_
        | refine Draw.pureG (ok_load_box rfl rfl (hN' _ (by decide)) rfl) rfl (by first | exact .none rfl | exact .want rfl rfl rfl (hN' _ (by decide)) rfl | exact .want rfl rfl rfl (hN' _ (by decide)) (by assumption)) ?_)
      refine Draw.nil ⟨by kernel_rfl, ?_⟩
      show T C _ _ _
      refine T.cond rfl (fun h2 => ?_) (fun h2 => ?_)
      · repeat' (first
          | refine T.seq ?_
          | refine T.region ?_
          | refine Seq.nil ?_
          | refine Seq.pureG (ok_assign_d rfl rfl (hN' _ (by decide)) rfl) rfl (by first | exact .none rfl | exact .want rfl rfl rfl (hN' _ (by decide)) rfl | exact .want rfl rfl rfl (hN' _ (by decide)) (by assumption)) ?_)
        refine T.ret (Fin.one rfl rfl ?_ rfl)
        have : ¬ l[k] = m[k] := by simpa using h2
        rw [hi', List.cons_beq_cons, show (l[k] == m[k]) = false by simpa using this]; rfl
      · have : l[k] = m[k] := by simpa using h2
        repeat' (first
          | refine T.region ?_
          | refine T.skip ?_
          | refine Seq.nil ?_
          | refine Seq.pureG (ok_move_d rfl rfl (hN' _ (by decide)) rfl) rfl (by first | exact .none rfl | exact .want rfl rfl rfl (hN' _ (by decide)) rfl | exact .want rfl rfl rfl (hN' _ (by decide)) (by assumption)) ?_
          | refine Seq.pureG (ok_add rfl rfl (hN' _ (by decide)) rfl rfl) rfl (by first | exact .none rfl | exact .want rfl rfl rfl (hN' _ (by decide)) rfl | exact .want rfl rfl rfl (hN' _ (by decide)) (by assumption)) ?_)
        exact ⟨k + 1, ⟨by omega, by rw [hi', List.cons_beq_cons, this, beq_self_eq_true, Bool.true_and]⟩, by omega, Sub.env ⟨by rw [← next_i64 hlt hl]; rfl, rfl, rfl, rfl, trivial⟩⟩
    · obtain rfl := loop_end hk h
      skip
      refine T.exit ?_
      show T C _ _ _
      repeat' (first
        | refine T.seq ?_
        | refine T.region ?_
        | refine Seq.nil ?_
        | refine Seq.pureG (ok_assign_d rfl rfl (hN' _ (by decide)) rfl) rfl (by first | exact .none rfl | exact .want rfl rfl rfl (hN' _ (by decide)) rfl | exact .want rfl rfl rfl (hN' _ (by decide)) (by assumption)) ?_)
      refine T.ret (Fin.one rfl rfl ?_ rfl)
      rw [hi', List.drop_length, hlm, List.drop_length]; rfl

def bools (l : List Bool) : List (List D) := l.map fun x => [D.val (.bool x)]
theorem bools_at {l : List Bool} {i : Nat} (h : i < l.length) : (bools l)[i]? = some [D.val (.bool l[i])] := by simp [bools, h]
def idxB (x : Bool) : List Bool → Int → Int
  | [], _ => -1
  | y :: r, k => if x = y then k else idxB x r (k + 1)
instance s45 : SliceT Try.prog 45 4 1 1 (.bool false) := SliceT.of Try.underlying45 (by kernel_rfl) rfl (by decide)

theorem indexB_fn (l : List Bool) (x : Bool) (hl : l.length ≤ 1000000) : Does Try.prog 16 [V.list 1 (bools l), V.b x] (V.int (idxB x l 0)) := by
  refine Does.of Try.func16 rfl Try.call16 (by rw [Try.ntmps16]; simp) fun C hro hN hfx => ?_
  have hN' : ∀ k, k < 19 → k < C.N := fun k hk => by rw [hN]; exact hk
  dsimp only [argEnv, Nat.zero_add, Nat.reduceAdd]
  repeat' (first
    | refine T.seq ?_
    | refine T.region ?_
    | refine T.block ?_
    | refine Seq.nil ?_
    | refine Seq.pureG (ok_move_d rfl rfl (hN' _ (by decide)) rfl) rfl (by first | exact .none rfl | exact .want rfl rfl rfl (hN' _ (by decide)) rfl | exact .want rfl rfl rfl (hN' _ (by decide)) (by assumption)) ?_
    | refine Seq.pureG (ok_assign_d rfl rfl (hN' _ (by decide)) rfl) rfl (by first | exact .none rfl | exact .want rfl rfl rfl (hN' _ (by decide)) rfl | exact .want rfl rfl rfl (hN' _ (by decide)) (by assumption)) ?_
    | refine Seq.pureG (ok_len_list rfl rfl (hN' _ (by decide)) rfl) rfl (by first | exact .none rfl | exact .want rfl rfl rfl (hN' _ (by decide)) rfl | exact .want rfl rfl rfl (hN' _ (by decide)) (by assumption)) ?_)
  refine T.loopP (fun k : Nat => ⟨[(8, V.int k), (7, V.int l.length), (0, V.list 1 (bools l)), (1, V.b x)], [], []⟩) (fun k => k ≤ l.length ∧ idxB x l 0 = idxB x (l.drop k) k) (fun k => l.length - k) 0 ⟨Nat.zero_le _, rfl⟩ (Sub.env ⟨rfl, by simp [bools, Env.get], rfl, rfl, trivial⟩) ?_
  rintro k ⟨hk, hi⟩
  repeat' (first
    | refine T.seq ?_
    | refine T.region ?_
    | refine Seq.nil ?_
    | refine Seq.pureG (ok_lss rfl rfl (hN' _ (by decide)) rfl rfl) rfl (by first | exact .none rfl | exact .want rfl rfl rfl (hN' _ (by decide)) rfl | exact .want rfl rfl rfl (hN' _ (by decide)) (by assumption)) ?_)
  refine T.cond rfl (fun h => ?_) (fun h => ?_)
  · have hlt : k < l.length := by simpa using h
    have hat := bools_at hlt
    have hd : l.drop k = l[k] :: l.drop (k + 1) := List.drop_eq_getElem_cons hlt
    repeat' (first
      | refine Seq.pureG (ok_index_list rfl rfl (hN' _ (by decide)) rfl rfl (by omega) (by simpa using hat)) rfl (by first | exact .none rfl | exact .want rfl rfl rfl (hN' _ (by decide)) rfl | exact .want rfl rfl rfl (hN' _ (by decide)) (by assumption)) ?_
      | refine T.seq ?_
      | refine T.region ?_
      | refine T.block ?_
      | refine T.skip ?_
      | refine Seq.nil ?_
      | refine Seq.pureG (ok_move_d rfl rfl (hN' _ (by decide)) rfl) rfl (by first | exact .none rfl | exact .want rfl rfl rfl (hN' _ (by decide)) rfl | exact .want rfl rfl rfl (hN' _ (by decide)) (by assumption)) ?_
      | refine Seq.pureG (ok_assign_d rfl rfl (hN' _ (by decide)) rfl) rfl (by first | exact .none rfl | exact .want rfl rfl rfl (hN' _ (by decide)) rfl | exact .want rfl rfl rfl (hN' _ (by decide)) (by assumption)) ?_
      | refine Seq.pureG (ok_eql_b rfl rfl (hN' _ (by decide)) rfl rfl) rfl (by first | exact .none rfl | exact .want rfl rfl rfl (hN' _ (by decide)) rfl | exact .want rfl rfl rfl (hN' _ (by decide)) (by assumption)) ?_
      | refine Seq.pureG (ok_load_box rfl rfl (hN' _ (by decide)) rfl) rfl (by first | exact .none rfl | exact .want rfl rfl rfl (hN' _ (by decide)) rfl | exact .want rfl rfl rfl (hN' _ (by decide)) (by assumption)) ?_)
    refine T.cond rfl (fun h2 => ?_) (fun h2 => ?_)
    · repeat' (first
        | refine T.seq ?_
        | refine T.region ?_
        | refine Seq.nil ?_
        | refine Seq.pureG (ok_move_d rfl rfl (hN' _ (by decide)) rfl) rfl (by first | exact .none rfl | exact .want rfl rfl rfl (hN' _ (by decide)) rfl | exact .want rfl rfl rfl (hN' _ (by decide)) (by assumption)) ?_
        | refine Seq.pureG (ok_assign_d rfl rfl (hN' _ (by decide)) rfl) rfl (by first | exact .none rfl | exact .want rfl rfl rfl (hN' _ (by decide)) rfl | exact .want rfl rfl rfl (hN' _ (by decide)) (by assumption)) ?_)
      refine T.ret (Fin.one rfl rfl ?_ rfl)
      have : x = l[k] := by simpa using h2
      rw [hi, hd, idxB, if_pos this]
      rfl
    · repeat' (first
        | refine T.region ?_
        | refine T.skip ?_
        | refine Seq.nil ?_
        | refine Seq.pureG (ok_move_d rfl rfl (hN' _ (by decide)) rfl) rfl (by first | exact .none rfl | exact .want rfl rfl rfl (hN' _ (by decide)) rfl | exact .want rfl rfl rfl (hN' _ (by decide)) (by assumption)) ?_
        | refine Seq.pureG (ok_add rfl rfl (hN' _ (by decide)) rfl rfl) rfl (by first | exact .none rfl | exact .want rfl rfl rfl (hN' _ (by decide)) rfl | exact .want rfl rfl rfl (hN' _ (by decide)) (by assumption)) ?_)
      have : ¬ x = l[k] := by simpa using h2
      exact ⟨k + 1, ⟨by omega, by rw [hi, hd, idxB, if_neg this]; rfl⟩, by omega, Sub.env ⟨by rw [← next_i64 hlt hl]; rfl, rfl, rfl, rfl, trivial⟩⟩
  · obtain rfl := loop_end hk h
    skip
    refine T.exit ?_
    show T C _ _ _
    repeat' (first
      | refine T.seq ?_
      | refine T.region ?_
      | refine Seq.nil ?_
      | refine Seq.pureG (ok_assign_d rfl rfl (hN' _ (by decide)) rfl) rfl (by first | exact .none rfl | exact .want rfl rfl rfl (hN' _ (by decide)) rfl | exact .want rfl rfl rfl (hN' _ (by decide)) (by assumption)) ?_)
    refine T.ret (Fin.one rfl rfl ?_ rfl)
    rw [hi, List.drop_length]
    rfl

end Go.Proofs.Ytjofdfiljokfoaa.R
