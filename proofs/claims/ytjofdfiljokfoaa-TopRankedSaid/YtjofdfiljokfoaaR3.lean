/- What functions that the law reaches compute: one step of the proof of the law's statement; each theorem states its own conditions. -/
import Derived.Test.YtjofdfiljokfoaaR2
namespace Go.Proofs.Ytjofdfiljokfoaa.R
open Go Go.RowKit Go.Proofs.Ytjofdfiljokfoaa.TL
set_option linter.unusedVariables false
set_option linter.unusedSimpArgs false

theorem deeps_ds : ∀ l : List D, V.deeps (l.map V.d) = true
  | [] => rfl
  | x :: r => by simp only [List.map_cons, V.deeps, V.deep, deeps_ds r, Bool.and_self]

def findP (p : Int → Bool) : List Int → Int → Int
  | [], _ => -1
  | y :: r, k => if p y = true then k else findP p r (k + 1)
theorem findP_cases (p : Int → Bool) : ∀ (l : List Int) (k : Nat), (findP p l k = -1 ∧ ∀ x ∈ l, p x = false) ∨ ∃ (i : Nat) (h : i < l.length), findP p l k = ((k + i : Nat) : Int) ∧ p l[i] = true ∧ ∀ x ∈ l.take i, p x = false
  | [], k => .inl ⟨rfl, fun x hx => by simp at hx⟩
  | y :: r, k => by
    by_cases h : p y = true
    · exact .inr ⟨0, by simp, by simp [findP, h], h, fun x hx => by simp at hx⟩
    · rcases findP_cases p r (k + 1) with ⟨h1, h2⟩ | ⟨i, hi, h1, h2, h3⟩
      · refine .inl ⟨by rw [findP, if_neg h]; exact h1, fun x hx => ?_⟩
        rcases List.mem_cons.1 hx with rfl | hx
        · simpa using h
        · exact h2 x hx
      · refine .inr ⟨i + 1, by simpa using hi, by rw [findP, if_neg h]; rw [show ((k : Int) + 1) = ((k + 1 : Nat) : Int) by simp, h1]; congr 1; omega, by simpa using h2, fun x hx => ?_⟩
        rw [List.take_succ_cons] at hx
        rcases List.mem_cons.1 hx with rfl | hx
        · simpa using h
        · exact h3 x hx

theorem findP0 (p : Int → Bool) (l : List Int) : (findP p l 0 = -1 ∧ ∀ x ∈ l, p x = false) ∨ ∃ (i : Nat) (h : i < l.length), findP p l 0 = (i : Int) ∧ p l[i] = true ∧ ∀ x ∈ l.take i, p x = false := by
  have := findP_cases p l 0
  simpa using this

theorem indexFunc_fn (l : List Int) (f : Nat) (caps : List D) (p : Int → Bool) (hf : ∀ x, Does Try.prog f (V.int x :: caps.map V.d) (V.b (p x))) (hl : l.length ≤ 1000000) : Does Try.prog 14 [V.list 1 (ints l), V.d (.clo f caps)] (V.int (findP p l 0)) := by
  refine Does.of Try.func14 rfl Try.call14 (by rw [Try.ntmps14]; simp) fun C hro hN hfx => ?_
  have hN' : ∀ k, k < 19 → k < C.N := fun k hk => by rw [hN]; exact hk
  dsimp only [argEnv, Nat.zero_add, Nat.reduceAdd]
  repeat' (first
    | refine T.seq ?_
    | refine T.region ?_
    | refine T.block ?_
    | refine Seq.nil ?_
    | refine Seq.pureG (ok_move_d rfl rfl (hN' _ (by decide)) rfl) rfl (by first | exact .none rfl | exact .want rfl rfl rfl (hN' _ (by decide)) rfl | exact .want rfl rfl rfl (hN' _ (by decide)) (by assumption)) ?_
    | refine Seq.pureG (ok_assign_d rfl rfl (hN' _ (by decide)) rfl) rfl (by first | exact .none rfl | exact .want rfl rfl rfl (hN' _ (by decide)) rfl | exact .want rfl rfl rfl (hN' _ (by decide)) (by assumption)) ?_
    | refine Seq.pureG (ok_len_list rfl rfl (hN' _ (by decide)) rfl) rfl (by first | exact .none rfl | exact .want rfl rfl rfl (hN' _ (by decide)) rfl | exact .want rfl rfl rfl (hN' _ (by decide)) (by assumption)) ?_)
  refine T.loopP (fun k : Nat => ⟨[(8, V.int k), (7, V.int l.length), (0, V.list 1 (ints l)), (1, V.d (.clo f caps))], [], []⟩) (fun k => k ≤ l.length ∧ findP p l 0 = findP p (l.drop k) k) (fun k => l.length - k) 0 ⟨Nat.zero_le _, rfl⟩ (Sub.env ⟨rfl, by simp [ints, Env.get], rfl, rfl, trivial⟩) ?_
  rintro k ⟨hk, hi⟩
  repeat' (first
    | refine T.seq ?_
    | refine T.region ?_
    | refine Seq.nil ?_
    | refine Seq.pureG (ok_lss rfl rfl (hN' _ (by decide)) rfl rfl) rfl (by first | exact .none rfl | exact .want rfl rfl rfl (hN' _ (by decide)) rfl | exact .want rfl rfl rfl (hN' _ (by decide)) (by assumption)) ?_)
  refine T.cond rfl (fun h => ?_) (fun h => ?_)
  · have hlt : k < l.length := by simpa using h
    have hat := ints_at hlt
    rw [drop_at hlt, findP] at hi
    repeat' (first
      | refine Seq.pureG (ok_index_list rfl rfl (hN' _ (by decide)) rfl rfl (by omega) (by simpa using hat)) rfl (by first | exact .none rfl | exact .want rfl rfl rfl (hN' _ (by decide)) rfl | exact .want rfl rfl rfl (hN' _ (by decide)) (by assumption)) ?_
      | refine Seq.pureG (ok_call_dclo rfl rfl (hN' _ (by decide)) rfl (V.int l[k] :: caps.map V.d) rfl (by simp only [V.deeps, V.deep, deeps_ds, Bool.and_self]) (hf l[k]) rfl) rfl (by first | exact .none rfl | exact .want rfl rfl rfl (hN' _ (by decide)) rfl | exact .want rfl rfl rfl (hN' _ (by decide)) (by assumption)) ?_
      | refine T.seq ?_
      | refine T.region ?_
      | refine T.block ?_
      | refine T.skip ?_
      | refine Seq.nil ?_
      | refine Seq.pureG (ok_move_d rfl rfl (hN' _ (by decide)) rfl) rfl (by first | exact .none rfl | exact .want rfl rfl rfl (hN' _ (by decide)) rfl | exact .want rfl rfl rfl (hN' _ (by decide)) (by assumption)) ?_
      | refine Seq.pureG (ok_assign_d rfl rfl (hN' _ (by decide)) rfl) rfl (by first | exact .none rfl | exact .want rfl rfl rfl (hN' _ (by decide)) rfl | exact .want rfl rfl rfl (hN' _ (by decide)) (by assumption)) ?_
      | refine Seq.pureG (ok_load_box rfl rfl (hN' _ (by decide)) rfl) rfl (by first | exact .none rfl | exact .want rfl rfl rfl (hN' _ (by decide)) rfl | exact .want rfl rfl rfl (hN' _ (by decide)) (by assumption)) ?_)
    refine T.cond rfl (fun h2 => ?_) (fun h2 => ?_)
    · repeat' (first
        | refine T.seq ?_
        | refine T.region ?_
        | refine Seq.nil ?_
        | refine Seq.pureG (ok_move_d rfl rfl (hN' _ (by decide)) rfl) rfl (by first | exact .none rfl | exact .want rfl rfl rfl (hN' _ (by decide)) rfl | exact .want rfl rfl rfl (hN' _ (by decide)) (by assumption)) ?_
        | refine Seq.pureG (ok_assign_d rfl rfl (hN' _ (by decide)) rfl) rfl (by first | exact .none rfl | exact .want rfl rfl rfl (hN' _ (by decide)) rfl | exact .want rfl rfl rfl (hN' _ (by decide)) (by assumption)) ?_)
      refine T.ret (Fin.one rfl rfl ?_ rfl)
      rw [hi, if_pos h2]
      rfl
    · repeat' (first
        | refine T.region ?_
        | refine T.skip ?_
        | refine Seq.nil ?_
        | refine Seq.pureG (ok_move_d rfl rfl (hN' _ (by decide)) rfl) rfl (by first | exact .none rfl | exact .want rfl rfl rfl (hN' _ (by decide)) rfl | exact .want rfl rfl rfl (hN' _ (by decide)) (by assumption)) ?_
        | refine Seq.pureG (ok_add rfl rfl (hN' _ (by decide)) rfl rfl) rfl (by first | exact .none rfl | exact .want rfl rfl rfl (hN' _ (by decide)) rfl | exact .want rfl rfl rfl (hN' _ (by decide)) (by assumption)) ?_)
      exact ⟨k + 1, ⟨by omega, by rw [hi, if_neg (by rw [h2]; simp)]; rfl⟩, by omega, Sub.env ⟨by rw [← next_i64 hlt hl]; rfl, rfl, rfl, rfl, trivial⟩⟩
  · obtain rfl := loop_end hk h
    skip
    refine T.exit ?_
    show T C _ _ _
    repeat' (first
      | refine T.seq ?_
      | refine T.region ?_
      | refine Seq.nil ?_
      | refine Seq.pureG (ok_assign_d rfl rfl (hN' _ (by decide)) rfl) rfl (by first | exact .none rfl | exact .want rfl rfl rfl (hN' _ (by decide)) rfl | exact .want rfl rfl rfl (hN' _ (by decide)) (by assumption)) ?_)
    refine T.ret (Fin.one rfl rfl ?_ rfl)
    rw [hi, List.drop_length]
    rfl

theorem ranked1_fn (x worst : Int) : Does Try.prog 9 [V.int x, V.d (.box [.val (.int .i64 worst)])] (V.b (decide (x = worst))) := by
  refine Does.of Try.func9 rfl Try.call9 (by rw [Try.ntmps9]; simp) fun C hro hN hfx => ?_
  have hN' : ∀ k, k < 7 → k < C.N := fun k hk => by rw [hN]; exact hk
  dsimp only [argEnv, Nat.zero_add, Nat.reduceAdd]
  repeat' (first
    | refine T.seq ?_
    | refine T.region ?_
    | refine Seq.nil ?_
    | refine Seq.pureG (ok_move_d rfl rfl (hN' _ (by decide)) rfl) rfl (by first | exact .none rfl | exact .want rfl rfl rfl (hN' _ (by decide)) rfl | exact .want rfl rfl rfl (hN' _ (by decide)) (by assumption)) ?_
    | refine Seq.pureG (ok_assign_d rfl rfl (hN' _ (by decide)) rfl) rfl (by first | exact .none rfl | exact .want rfl rfl rfl (hN' _ (by decide)) rfl | exact .want rfl rfl rfl (hN' _ (by decide)) (by assumption)) ?_
    | refine Seq.pureG (ok_eql rfl rfl (hN' _ (by decide)) rfl rfl) rfl (by first | exact .none rfl | exact .want rfl rfl rfl (hN' _ (by decide)) rfl | exact .want rfl rfl rfl (hN' _ (by decide)) (by assumption)) ?_
    | refine Seq.pureG (ok_load_box rfl rfl (hN' _ (by decide)) rfl) rfl (by first | exact .none rfl | exact .want rfl rfl rfl (hN' _ (by decide)) rfl | exact .want rfl rfl rfl (hN' _ (by decide)) (by assumption)) ?_)
  exact T.ret (Fin.one rfl rfl rfl rfl)

theorem lend_ok {id : Nat} {l : List Int} {vs : List V} (h : ∀ v ∈ vs, v = .acc id 1 l.length ∨ v.deep = true) : ∀ v ∈ vs, ∀ sz' n, v = .acc id sz' n → sz' = 1 ∧ n = (ints l).length := fun v hv sz' n e => by
  rcases h v hv with h | h
  · rw [h] at e; cases e; exact ⟨rfl, (ints_len l).symm⟩
  · rw [e] at h; cases h

theorem delete_fn (l : List Int) (f : Nat) (caps : List D) (p : Int → Bool) (hf : ∀ x, Does Try.prog f (V.int x :: caps.map V.d) (V.b (p x))) (hl : l.length ≤ 1000000) :
    DoesS Try.prog 8 [.acc 0 1 l.length, V.d (.clo f caps)] [(0, some ⟨3, row l⟩)] (.acc 0 1 (l.filter fun x => !p x).length) [(0, some ⟨3, row (l.filter fun x => !p x)⟩)] := by
  refine DoesS.of Try.func8 rfl Try.call8 (by rw [Try.ntmps8]; simp) fun C hro hN hfx => ?_
  have hN' : ∀ k, k < 42 → k < C.N := fun k hk => by rw [hN]; exact hk
  have hf0 : ∀ {p : Nat → Prop}, p 0 → ∀ id, C.fx id ≠ none → p id := fun h0 id h => by
    have := hfx id h
    rw [Store.get_cons] at this
    split at this
    · rename_i hk; subst hk; exact h0
    · exact absurd rfl this
  dsimp only [argEnv, Nat.zero_add, Nat.reduceAdd]
  repeat' (first
    | refine Seq.pureG (ok_call_lend 0 1 (ints l) rfl rfl (hN' _ (by decide)) [.acc 0 1 l.length, V.d (.clo f caps)] rfl rfl (ints_one l) (by decide) (lend_ok (by simp [V.deep])) rfl (indexFunc_fn l f caps p hf hl)) rfl (by first | exact .none rfl | exact .want rfl rfl rfl (hN' _ (by decide)) rfl | exact .want rfl rfl rfl (hN' _ (by decide)) (by assumption)) ?_
    | refine T.seq ?_
    | refine T.region ?_
    | refine Seq.nil ?_
    | refine Seq.pureG (ok_move_d rfl rfl (hN' _ (by decide)) rfl) rfl (by first | exact .none rfl | exact .want rfl rfl rfl (hN' _ (by decide)) rfl | exact .want rfl rfl rfl (hN' _ (by decide)) (by assumption)) ?_
    | refine Seq.pureG (ok_assign_d rfl rfl (hN' _ (by decide)) rfl) rfl (by first | exact .none rfl | exact .want rfl rfl rfl (hN' _ (by decide)) rfl | exact .want rfl rfl rfl (hN' _ (by decide)) (by assumption)) ?_
    | refine Seq.pureG (ok_move_acc rfl rfl (hN' _ (by decide)) rfl) rfl (by first | exact .none rfl | exact .want rfl rfl rfl (hN' _ (by decide)) rfl | exact .want rfl rfl rfl (hN' _ (by decide)) (by assumption)) ?_
    | refine Seq.pureG (ok_eql rfl rfl (hN' _ (by decide)) rfl rfl) rfl (by first | exact .none rfl | exact .want rfl rfl rfl (hN' _ (by decide)) rfl | exact .want rfl rfl rfl (hN' _ (by decide)) (by assumption)) ?_)
  refine T.cond rfl (fun h => ?_) (fun h => ?_)
  · repeat' (first
      | refine T.seq ?_
      | refine T.region ?_
      | refine Seq.nil ?_
      | refine Seq.pureG (ok_move_acc rfl rfl (hN' _ (by decide)) rfl) rfl (by first | exact .none rfl | exact .want rfl rfl rfl (hN' _ (by decide)) rfl | exact .want rfl rfl rfl (hN' _ (by decide)) (by assumption)) ?_
      | refine Seq.pureG (ok_assign_acc rfl rfl (hN' _ (by decide)) rfl) rfl (by first | exact .none rfl | exact .want rfl rfl rfl (hN' _ (by decide)) rfl | exact .want rfl rfl rfl (hN' _ (by decide)) (by assumption)) ?_)
    have hnone : ∀ x ∈ l, p x = false := by
      rcases findP0 p l with ⟨_, h2⟩ | ⟨i, hi, h1, _⟩
      · exact h2
      · simp only [decide_eq_true_eq] at h; omega
    have hfl : (l.filter fun x => !p x) = l := List.filter_eq_self.2 fun x hx => by rw [hnone x hx]; rfl
    rw [hfl]
    exact T.ret (FinS.one rfl rfl rfl (.tmp rfl .nil))
  · obtain ⟨i, hi, h1, h2, h3⟩ := (findP0 p l).resolve_left (fun hh => by rw [hh.1] at h; simp at h)
    rw [h1]
    have hw : IntKind.i64.wrap ((i : Int) + 1) = ((i + 1 : Nat) : Int) := next_i64 hi hl
    -- what is kept of the first j, what lies between, and the rest
    obtain ⟨cells, hcells⟩ : ∃ cells : List Int → List Int → Nat → List Int, cells = fun K mid j => K ++ mid ++ l.drop j := ⟨_, rfl⟩
    repeat' (first
      | refine T.seq ?_
      | refine T.region ?_
      | refine T.block ?_
      | refine T.skip ?_
      | refine Seq.nil ?_
      | refine Seq.pureG (ok_move_d rfl rfl (hN' _ (by decide)) rfl) rfl (by first | exact .none rfl | exact .want rfl rfl rfl (hN' _ (by decide)) rfl | exact .want rfl rfl rfl (hN' _ (by decide)) (by assumption)) ?_
      | refine Seq.pureG (ok_assign_d rfl rfl (hN' _ (by decide)) rfl) rfl (by first | exact .none rfl | exact .want rfl rfl rfl (hN' _ (by decide)) rfl | exact .want rfl rfl rfl (hN' _ (by decide)) (by assumption)) ?_
      | refine Seq.pureG (ok_add rfl rfl (hN' _ (by decide)) rfl rfl) rfl (by first | exact .none rfl | exact .want rfl rfl rfl (hN' _ (by decide)) rfl | exact .want rfl rfl rfl (hN' _ (by decide)) (by assumption)) ?_)
    refine T.loopP (fun x : Nat × List Int × List Int => ⟨[(6, V.int x.1), (5, V.int x.2.1.length), (0, V.acc 0 1 l.length), (1, V.d (.clo f caps))], [(0, some ⟨3, row (cells x.2.1 x.2.2 x.1)⟩)], []⟩) (fun x => x.1 ≤ l.length ∧ x.2.1 = (l.take x.1).filter (fun x => !p x) ∧ x.2.1.length + x.2.2.length = x.1 ∧ x.2.2 ≠ []) (fun x => l.length - x.1) (i + 1, l.take i, [l[i]]) ⟨by omega, ?_, by simp; omega, by simp⟩ ?_ ?_
    · rw [List.take_succ_eq_append_getElem hi, List.filter_append, List.filter_eq_self.2 (fun x hx => by rw [h3 x hx]; rfl)]
      simp [h2]
    · refine Sub.drop ⟨by rw [← hw]; rfl, by simp [Env.get, Nat.min_eq_left (Nat.le_of_lt hi)], rfl, rfl, trivial⟩ ⟨?_, trivial⟩ rfl (by simp [storeIn, ins_row]) (hf0 (by simp [Store.get]))
      rw [hcells]
      simp [Store.get, List.take_append_drop]
    · rintro ⟨j, K, mid⟩ ⟨hj, hK, hlen, hne⟩
      dsimp only at hj hK hlen hne ⊢
      have hcl : (cells K mid j).length = l.length := by rw [hcells]; simp; omega
      repeat' (first
        | refine T.seq ?_
        | refine T.region ?_
        | refine Seq.nil ?_
        | refine Seq.pureG (ok_move_d rfl rfl (hN' _ (by decide)) rfl) rfl (by first | exact .none rfl | exact .want rfl rfl rfl (hN' _ (by decide)) rfl | exact .want rfl rfl rfl (hN' _ (by decide)) (by assumption)) ?_
        | refine Seq.pureG (ok_move_acc rfl rfl (hN' _ (by decide)) rfl) rfl (by first | exact .none rfl | exact .want rfl rfl rfl (hN' _ (by decide)) rfl | exact .want rfl rfl rfl (hN' _ (by decide)) (by assumption)) ?_
        | refine Seq.pureG (ok_len_acc rfl rfl (hN' _ (by decide)) rfl) rfl (by first | exact .none rfl | exact .want rfl rfl rfl (hN' _ (by decide)) rfl | exact .want rfl rfl rfl (hN' _ (by decide)) (by assumption)) ?_
        | refine Seq.pureG (ok_lss rfl rfl (hN' _ (by decide)) rfl rfl) rfl (by first | exact .none rfl | exact .want rfl rfl rfl (hN' _ (by decide)) rfl | exact .want rfl rfl rfl (hN' _ (by decide)) (by assumption)) ?_)
      refine T.cond rfl (fun h => ?_) (fun h => ?_)
      · have hlt : j < l.length := by simpa using h
        have hat : (cells K mid j)[j]? = some l[j] := by
          rw [hcells]
          simp only
          rw [List.getElem?_append_right (by simp; omega), show j - (K ++ mid).length = 0 by simp; omega, drop_at hlt]; rfl
        have hat' : (row (cells K mid j))[(j : Int).toNat * 1]? = some (V.int l[j]) := by simpa using row_get hat
        have hstep : cells K (mid ++ [l[j]]) (j + 1) = cells K mid j := by rw [hcells]; simp only; rw [drop_at hlt]; simp
        have hstep' : (cells K mid j).set K.length l[j] = cells (K ++ [l[j]]) (mid.tail ++ [l[j]]) (j + 1) := by
          obtain ⟨m0, mid', rfl⟩ := List.exists_cons_of_ne_nil hne
          rw [hcells]; simp only; rw [drop_at hlt]; simp
        have htk : l.take (j + 1) = l.take j ++ [l[j]] := List.take_succ_eq_append_getElem hlt
        have hw' : IntKind.i64.wrap ((j : Int) + 1) = ((j + 1 : Nat) : Int) := next_i64 hlt hl
        repeat' (first
          | refine Seq.pureG (ok_index_acc rfl rfl (hN' _ (by decide)) rfl rfl (by omega) (by omega)) rfl (by first | exact .none rfl | exact .want rfl rfl rfl (hN' _ (by decide)) rfl | exact .want rfl rfl rfl (hN' _ (by decide)) (by assumption)) ?_
          | refine Seq.pureG (ok_load_ptr rfl rfl (hN' _ (by decide)) rfl rfl hat') rfl (by first | exact .none rfl | exact .want rfl rfl rfl (hN' _ (by decide)) rfl | exact .want rfl rfl rfl (hN' _ (by decide)) (by assumption)) ?_
          | refine Seq.pureG (ok_call_dclo rfl rfl (hN' _ (by decide)) rfl (V.int l[j] :: caps.map V.d) rfl (by simp only [V.deeps, V.deep, deeps_ds, Bool.and_self]) (hf l[j]) rfl) rfl (by first | exact .none rfl | exact .want rfl rfl rfl (hN' _ (by decide)) rfl | exact .want rfl rfl rfl (hN' _ (by decide)) (by assumption)) ?_
          | refine T.seq ?_
          | refine T.region ?_
          | refine T.block ?_
          | refine T.skip ?_
          | refine Seq.nil ?_
          | refine Seq.pureG (ok_move_d rfl rfl (hN' _ (by decide)) rfl) rfl (by first | exact .none rfl | exact .want rfl rfl rfl (hN' _ (by decide)) rfl | exact .want rfl rfl rfl (hN' _ (by decide)) (by assumption)) ?_
          | refine Seq.pureG (ok_assign_d rfl rfl (hN' _ (by decide)) rfl) rfl (by first | exact .none rfl | exact .want rfl rfl rfl (hN' _ (by decide)) rfl | exact .want rfl rfl rfl (hN' _ (by decide)) (by assumption)) ?_
          | refine Seq.pureG (ok_move_acc rfl rfl (hN' _ (by decide)) rfl) rfl (by first | exact .none rfl | exact .want rfl rfl rfl (hN' _ (by decide)) rfl | exact .want rfl rfl rfl (hN' _ (by decide)) (by assumption)) ?_
          | refine Seq.pureG (ok_not rfl rfl (hN' _ (by decide)) rfl) rfl (by first | exact .none rfl | exact .want rfl rfl rfl (hN' _ (by decide)) rfl | exact .want rfl rfl rfl (hN' _ (by decide)) (by assumption)) ?_)
        refine T.cond rfl (fun h2 => ?_) (fun h2 => ?_)
        · have h2 : p l[j] = false := by simpa using h2
          have hKl : K.length < j := by have := List.length_pos_iff.2 hne; omega
          have hwK : IntKind.i64.wrap ((K.length : Int) + 1) = (((K ++ [l[j]]).length : Nat) : Int) := by rw [next_i64 (show K.length < l.length by omega) hl]; simp
          repeat' (first
            | refine Seq.pureG (ok_index_acc rfl rfl (hN' _ (by decide)) rfl rfl (by omega) (by omega)) rfl (by first | exact .none rfl | exact .want rfl rfl rfl (hN' _ (by decide)) rfl | exact .want rfl rfl rfl (hN' _ (by decide)) (by assumption)) ?_
            | refine Seq.updG (ok_store_d rfl rfl rfl rfl rfl rfl (by rw [row_len, hcl]; simp; omega)) rfl (by first | exact .none rfl | exact .want rfl rfl rfl (hN' _ (by decide)) rfl | exact .want rfl rfl rfl (hN' _ (by decide)) (by assumption)) ?_
            | refine T.seq ?_
            | refine T.region ?_
            | refine Seq.nil ?_
            | refine Seq.pureG (ok_move_d rfl rfl (hN' _ (by decide)) rfl) rfl (by first | exact .none rfl | exact .want rfl rfl rfl (hN' _ (by decide)) rfl | exact .want rfl rfl rfl (hN' _ (by decide)) (by assumption)) ?_
            | refine Seq.pureG (ok_assign_d rfl rfl (hN' _ (by decide)) rfl) rfl (by first | exact .none rfl | exact .want rfl rfl rfl (hN' _ (by decide)) rfl | exact .want rfl rfl rfl (hN' _ (by decide)) (by assumption)) ?_
            | refine Seq.pureG (ok_move_acc rfl rfl (hN' _ (by decide)) rfl) rfl (by first | exact .none rfl | exact .want rfl rfl rfl (hN' _ (by decide)) rfl | exact .want rfl rfl rfl (hN' _ (by decide)) (by assumption)) ?_
            | refine Seq.pureG (ok_add rfl rfl (hN' _ (by decide)) rfl rfl) rfl (by first | exact .none rfl | exact .want rfl rfl rfl (hN' _ (by decide)) rfl | exact .want rfl rfl rfl (hN' _ (by decide)) (by assumption)) ?_)
          refine ⟨(j + 1, K ++ [l[j]], mid.tail ++ [l[j]]), ⟨by omega, by rw [htk, List.filter_append, ← hK]; simp [h2], by simp; omega, by simp⟩, by dsimp only; omega, Sub.drop ⟨by rw [← hw']; rfl, by rw [← hwK]; rfl, rfl, rfl, trivial⟩ ⟨?_, trivial⟩ rfl (by simp [storeIn, ins_row]) (hf0 (by simp [Store.get]))⟩
          simp only [Store.get, if_true, Option.some.injEq, Obj.mk.injEq, true_and]
          rw [show ((K.length : Int)).toNat * 1 = K.length by simp, row_set, hstep']
        · have h2 : p l[j] = true := by simpa using h2
          repeat' (first
            | refine T.region ?_
            | refine T.skip ?_
            | refine Seq.nil ?_
            | refine Seq.pureG (ok_move_d rfl rfl (hN' _ (by decide)) rfl) rfl (by first | exact .none rfl | exact .want rfl rfl rfl (hN' _ (by decide)) rfl | exact .want rfl rfl rfl (hN' _ (by decide)) (by assumption)) ?_
            | refine Seq.pureG (ok_assign_d rfl rfl (hN' _ (by decide)) rfl) rfl (by first | exact .none rfl | exact .want rfl rfl rfl (hN' _ (by decide)) rfl | exact .want rfl rfl rfl (hN' _ (by decide)) (by assumption)) ?_
            | refine Seq.pureG (ok_add rfl rfl (hN' _ (by decide)) rfl rfl) rfl (by first | exact .none rfl | exact .want rfl rfl rfl (hN' _ (by decide)) rfl | exact .want rfl rfl rfl (hN' _ (by decide)) (by assumption)) ?_)
          refine ⟨(j + 1, K, mid ++ [l[j]]), ⟨by omega, by rw [htk, List.filter_append, ← hK]; simp [h2], by simp; omega, by simp⟩, by dsimp only; omega, Sub.drop ⟨by rw [← hw']; rfl, rfl, rfl, rfl, trivial⟩ ⟨?_, trivial⟩ rfl (by simp [storeIn, ins_row]) (hf0 (by simp [Store.get]))⟩
          simp only [Store.get, if_true]
          rw [hstep]
      · obtain rfl := loop_end hj h
        have hKl : K.length < l.length := by have := List.length_pos_iff.2 hne; omega
        have hfin : (l.filter fun x => !p x) = K := by rw [hK, List.take_length]
        skip
        refine T.exit ?_
        show T C _ _ _
        repeat' (first
          | refine Seq.pureG (ok_slice_acc_l rfl rfl (hN' _ (by decide)) rfl rfl (by omega) (by omega)) rfl (by first | exact .none rfl | exact .want rfl rfl rfl (hN' _ (by decide)) rfl | exact .want rfl rfl rfl (hN' _ (by decide)) (by assumption)) ?_
          | refine Seq.updG (ok_clear_ref rfl rfl rfl rfl rfl (by simp; omega) (by rw [row_len, hcl]; simp; omega)) rfl (by first | exact .none rfl | exact .want rfl rfl rfl (hN' _ (by decide)) rfl | exact .want rfl rfl rfl (hN' _ (by decide)) (by assumption)) ?_
          | refine Seq.pureG (ok_slice_acc_h rfl rfl (hN' _ (by decide)) rfl rfl (by omega) (by omega)) rfl (by first | exact .none rfl | exact .want rfl rfl rfl (hN' _ (by decide)) rfl | exact .want rfl rfl rfl (hN' _ (by decide)) (by assumption)) ?_
          | refine T.seq ?_
          | refine T.region ?_
          | refine Seq.nil ?_
          | refine Seq.pureG (ok_move_d rfl rfl (hN' _ (by decide)) rfl) rfl (by first | exact .none rfl | exact .want rfl rfl rfl (hN' _ (by decide)) rfl | exact .want rfl rfl rfl (hN' _ (by decide)) (by assumption)) ?_
          | refine Seq.pureG (ok_move_acc rfl rfl (hN' _ (by decide)) rfl) rfl (by first | exact .none rfl | exact .want rfl rfl rfl (hN' _ (by decide)) rfl | exact .want rfl rfl rfl (hN' _ (by decide)) (by assumption)) ?_
          | refine Seq.pureG (ok_assign_acc rfl rfl (hN' _ (by decide)) rfl) rfl (by first | exact .none rfl | exact .want rfl rfl rfl (hN' _ (by decide)) rfl | exact .want rfl rfl rfl (hN' _ (by decide)) (by assumption)) ?_)
        refine T.sub (Sub.cut 0 K.length rfl) ?_
        rw [hfin]
        refine T.sub (Sub.drop (e' := [(4, .acc 0 1 K.length)]) (S' := [(0, some ⟨3, row K⟩)]) ⟨rfl, trivial⟩ ⟨?_, trivial⟩ rfl (by simp [storeIn, ins_row]) (hf0 (by simp [Store.get]))) (T.ret (FinS.one rfl rfl rfl (.tmp rfl .nil)))
        simp only [Store.get, if_true, Option.some.injEq, Obj.mk.injEq, true_and]
        rw [show ((K.length : Int)).toNat * 1 = K.length by simp, List.append_assoc, List.take_append_of_le_length (by rw [List.length_take, row_len, hcl]; omega), List.take_take, Nat.min_self, row_take]
        congr 1
        rw [hcells]
        simp

end Go.Proofs.Ytjofdfiljokfoaa.R
