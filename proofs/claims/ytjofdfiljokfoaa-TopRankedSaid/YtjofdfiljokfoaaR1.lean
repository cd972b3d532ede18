/- What functions that the law reaches compute: one step of the proof of the law's statement; each theorem states its own conditions. -/
import Derived.Test.YtjofdfiljokfoaaTLA
import Derived.Test.YtjofdfiljokfoaaProg
import Derived.KernelRfl
namespace Go.Proofs.Ytjofdfiljokfoaa.R
open Go Go.RowKit Go.Proofs.Ytjofdfiljokfoaa.TL
set_option linter.unusedVariables false
set_option linter.unusedSimpArgs false

instance s24 : SliceT Try.prog 24 3 1 8 (.int .i64 0) := SliceT.of Try.underlying24 (by kernel_rfl) rfl (by decide)
instance c3 : CellT Try.prog 3 := CellT.of Try.underlying3 rfl (by kernel_rfl)

def ints (l : List Int) : List (List D) := l.map fun x => [D.val (.int .i64 x)]

def idx (l : List Int) (x : Int) : Int := match l.findIdx? (· == x) with | some i => i | none => -1

theorem ints_at {l : List Int} {i : Nat} (h : i < l.length) : (ints l)[i]? = some [D.val (.int .i64 l[i])] := by simp [ints, h]
theorem ints_len (l : List Int) : (ints l).length = l.length := by simp [ints]

theorem wrap_i64 {x : Int} (h0 : -9223372036854775808 ≤ x) (h1 : x < 9223372036854775808) : IntKind.i64.wrap x = x := by rw [IntKind.wrap_i64]; omega

/-- Where x stands first in l from k on. -/
def idxFrom (x : Int) : List Int → Int → Int
  | [], _ => -1
  | y :: r, k => if x = y then k else idxFrom x r (k + 1)

theorem index_fn (l : List Int) (x : Int) (hl : l.length ≤ 1000000) : Does Try.prog 13 [V.list 1 (ints l), V.int x] (V.int (idxFrom x l 0)) := by
  refine Does.of Try.func13 rfl Try.call13 (by rw [Try.ntmps13]; simp) fun C hro hN hfx => ?_
  have hN' : ∀ k, k < 19 → k < C.N := fun k hk => by rw [hN]; exact hk
  dsimp only [argEnv, Nat.zero_add, Nat.reduceAdd]
  repeat' (first
    | refine T.seq ?_
    | refine T.region ?_
    | refine T.block ?_
    | refine Seq.nil ?_
    | refine Seq.pureG (ok_move_d rfl rfl (hN' _ (by decide)) rfl) rfl (by first | exact .none rfl | exact .want rfl rfl rfl (hN' _ (by decide)) rfl | exact .want rfl rfl rfl (hN' _ (by decide)) (by assumption)) ?_
    | refine Seq.pureG (ok_assign_d rfl rfl (hN' _ (by decide)) rfl) rfl (by first | exact .none rfl | exact .want rfl rfl rfl (hN' _ (by decide)) rfl | exact .want rfl rfl rfl (hN' _ (by decide)) (by assumption)) ?_
    | refine Seq.pureG (ok_len_list rfl rfl (hN' _ (by decide)) rfl) rfl (by first | exact .none rfl | exact .want rfl rfl rfl (hN' _ (by decide)) rfl | exact .want rfl rfl rfl (hN' _ (by decide)) (by assumption)) ?_)
  refine T.loopP (fun k : Nat => ⟨[(8, V.int k), (7, V.int l.length), (0, V.list 1 (ints l)), (1, V.int x)], [], []⟩) (fun k => k ≤ l.length ∧ idxFrom x l 0 = idxFrom x (l.drop k) k) (fun k => l.length - k) 0 ⟨Nat.zero_le _, rfl⟩ (Sub.env ⟨rfl, by simp [ints, Env.get], rfl, rfl, trivial⟩) ?_
  rintro k ⟨hk, hi⟩
  repeat' (first
    | refine T.seq ?_
    | refine T.region ?_
    | refine Seq.nil ?_
    | refine Seq.pureG (ok_lss rfl rfl (hN' _ (by decide)) rfl rfl) rfl (by first | exact .none rfl | exact .want rfl rfl rfl (hN' _ (by decide)) rfl | exact .want rfl rfl rfl (hN' _ (by decide)) (by assumption)) ?_)
  refine T.cond rfl (fun h => ?_) (fun h => ?_)
  · have hlt : k < l.length := by simpa using h
    have hat := ints_at hlt
    have hd : l.drop k = l[k] :: l.drop (k + 1) := List.drop_eq_getElem_cons hlt
    repeat' (first
      | refine Seq.pureG (ok_index_list rfl rfl (hN' _ (by decide)) rfl rfl (by omega) (by simpa using hat)) rfl (by first | exact .none rfl | exact .want rfl rfl rfl (hN' _ (by decide)) rfl | exact .want rfl rfl rfl (hN' _ (by decide)) (by assumption)) ?_
      | refine T.seq ?_
      | refine T.region ?_
      | refine T.block ?_
      | refine T.skip ?_
      | refine Seq.nil ?_
      | refine Seq.pureG (ok_move_d rfl rfl (hN' _ (by decide)) rfl) rfl (by first | exact .none rfl | exact .want rfl rfl rfl (hN' _ (by decide)) rfl | exact .want rfl rfl rfl (hN' _ (by decide)) (by assumption)) ?_
      | refine Seq.pureG (ok_assign_d rfl rfl (hN' _ (by decide)) rfl) rfl (by first | exact .none rfl | exact .want rfl rfl rfl (hN' _ (by decide)) rfl | exact .want rfl rfl rfl (hN' _ (by decide)) (by assumption)) ?_
      | refine Seq.pureG (ok_eql rfl rfl (hN' _ (by decide)) rfl rfl) rfl (by first | exact .none rfl | exact .want rfl rfl rfl (hN' _ (by decide)) rfl | exact .want rfl rfl rfl (hN' _ (by decide)) (by assumption)) ?_
      | refine Seq.pureG (ok_load_box rfl rfl (hN' _ (by decide)) rfl) rfl (by first | exact .none rfl | exact .want rfl rfl rfl (hN' _ (by decide)) rfl | exact .want rfl rfl rfl (hN' _ (by decide)) (by assumption)) ?_)
    refine T.cond rfl (fun h2 => ?_) (fun h2 => ?_)
    · repeat' (first
        | refine T.seq ?_
        | refine T.region ?_
        | refine Seq.nil ?_
        | refine Seq.pureG (ok_move_d rfl rfl (hN' _ (by decide)) rfl) rfl (by first | exact .none rfl | exact .want rfl rfl rfl (hN' _ (by decide)) rfl | exact .want rfl rfl rfl (hN' _ (by decide)) (by assumption)) ?_
        | refine Seq.pureG (ok_assign_d rfl rfl (hN' _ (by decide)) rfl) rfl (by first | exact .none rfl | exact .want rfl rfl rfl (hN' _ (by decide)) rfl | exact .want rfl rfl rfl (hN' _ (by decide)) (by assumption)) ?_)
      refine T.ret (Fin.one rfl rfl ?_ rfl)
      have : x = l[k] := by simpa using h2
      rw [hi, hd, idxFrom, if_pos this]
      rfl
    · repeat' (first
        | refine T.region ?_
        | refine T.skip ?_
        | refine Seq.nil ?_
        | refine Seq.pureG (ok_move_d rfl rfl (hN' _ (by decide)) rfl) rfl (by first | exact .none rfl | exact .want rfl rfl rfl (hN' _ (by decide)) rfl | exact .want rfl rfl rfl (hN' _ (by decide)) (by assumption)) ?_
        | refine Seq.pureG (ok_add rfl rfl (hN' _ (by decide)) rfl rfl) rfl (by first | exact .none rfl | exact .want rfl rfl rfl (hN' _ (by decide)) rfl | exact .want rfl rfl rfl (hN' _ (by decide)) (by assumption)) ?_)
      have : ¬ x = l[k] := by simpa using h2
      exact ⟨k + 1, ⟨by omega, by rw [hi, hd, idxFrom, if_neg this]; rfl⟩, by omega, Sub.env ⟨by simp [Env.get, wrap_i64 (show (-9223372036854775808 : Int) ≤ (k : Int) + 1 by omega) (by omega)], rfl, rfl, rfl, trivial⟩⟩
  · skip
    refine T.exit ?_
    show T C _ _ _
    repeat' (first
      | refine T.seq ?_
      | refine T.region ?_
      | refine Seq.nil ?_
      | refine Seq.pureG (ok_assign_d rfl rfl (hN' _ (by decide)) rfl) rfl (by first | exact .none rfl | exact .want rfl rfl rfl (hN' _ (by decide)) rfl | exact .want rfl rfl rfl (hN' _ (by decide)) (by assumption)) ?_)
    refine T.ret (Fin.one rfl rfl ?_ rfl)
    have : k = l.length := by have : ¬ k < l.length := by simpa using h
                              omega
    rw [hi, this, List.drop_length]
    rfl

theorem contains_fn (l : List Int) (x : Int) (hl : l.length ≤ 1000000) : Does Try.prog 7 [V.list 1 (ints l), V.int x] (V.b (decide (0 ≤ idxFrom x l 0))) := by
  refine Does.of Try.func7 rfl Try.call7 (by rw [Try.ntmps7]; simp) fun C hro hN hfx => ?_
  have hN' : ∀ k, k < 9 → k < C.N := fun k hk => by rw [hN]; exact hk
  dsimp only [argEnv, Nat.zero_add, Nat.reduceAdd]
  repeat' (first
    | refine Seq.pureG (ok_call rfl rfl (hN' _ (by decide)) [V.list 1 (ints l), V.int x] rfl rfl (index_fn l x hl) rfl) rfl (by first | exact .none rfl | exact .want rfl rfl rfl (hN' _ (by decide)) rfl | exact .want rfl rfl rfl (hN' _ (by decide)) (by assumption)) ?_
    | refine T.seq ?_
    | refine T.region ?_
    | refine Seq.nil ?_
    | refine Seq.pureG (ok_move_d rfl rfl (hN' _ (by decide)) rfl) rfl (by first | exact .none rfl | exact .want rfl rfl rfl (hN' _ (by decide)) rfl | exact .want rfl rfl rfl (hN' _ (by decide)) (by assumption)) ?_
    | refine Seq.pureG (ok_assign_d rfl rfl (hN' _ (by decide)) rfl) rfl (by first | exact .none rfl | exact .want rfl rfl rfl (hN' _ (by decide)) rfl | exact .want rfl rfl rfl (hN' _ (by decide)) (by assumption)) ?_
    | refine Seq.pureG (ok_geq rfl rfl (hN' _ (by decide)) rfl rfl) rfl (by first | exact .none rfl | exact .want rfl rfl rfl (hN' _ (by decide)) rfl | exact .want rfl rfl rfl (hN' _ (by decide)) (by assumption)) ?_)
  exact T.ret (Fin.one rfl rfl rfl rfl)

end Go.Proofs.Ytjofdfiljokfoaa.R
