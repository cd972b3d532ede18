/- What functions that the law reaches compute: one step of the proof of the law's statement; each theorem states its own conditions. -/
import Derived.Test.YtjofdfiljokfoaaR10
namespace Go.Proofs.Ytjofdfiljokfoaa.R
open Go Go.RowKit Go.Proofs.Ytjofdfiljokfoaa.TL
set_option linter.unusedVariables false
set_option linter.unusedSimpArgs false
set_option maxHeartbeats 4000000

theorem rowOf_facts (s : Nat) (hs : 0 < s) : ∀ (x row : List Int), (∀ n ∈ x, 0 ≤ n) → row.Nodup → (∀ t ∈ row, 0 ≤ t ∧ t < s) → (x.foldl (fun row n => if n.tmod s ∈ row then row else row ++ [n.tmod s]) row).Nodup ∧ ∀ t ∈ (x.foldl (fun row n => if n.tmod s ∈ row then row else row ++ [n.tmod s]) row), 0 ≤ t ∧ t < s
  | [], row, _, h1, h2 => ⟨h1, h2⟩
  | n :: x, row, hx, h1, h2 => by
    rw [List.foldl_cons]
    have hn := hx n (by simp)
    have ht : 0 ≤ n.tmod s ∧ n.tmod s < s := ⟨Int.tmod_nonneg _ hn, by have := Int.tmod_lt_of_pos n (show (0 : Int) < s by omega); exact this⟩
    refine rowOf_facts s hs x _ (fun m hm => hx m (by simp [hm])) ?_ ?_
    · split
      · exact h1
      · rename_i hm
        rw [List.nodup_append]
        refine ⟨h1, by simp, fun a ha b hb e => ?_⟩
        rw [List.mem_singleton.1 hb] at e
        exact hm (e ▸ ha)
    · split
      · exact h2
      · intro t ht'
        rcases List.mem_append.1 ht' with h | h
        · exact h2 t h
        · rw [List.mem_singleton.1 h]; exact ht
theorem valid_lists (s : Nat) (h1 : 1 ≤ s) (h2 : s ≤ 8) (l : List (List Int)) (hb : ∀ r ∈ l, ∀ n ∈ r, 0 ≤ n ∧ n < 256) : Valid s ((l.take 40).map fun x => rowOf s (x.take 8)) := by
  refine ⟨h1, h2, by simp; omega, fun r hr => ?_⟩
  obtain ⟨x, hx, rfl⟩ := List.mem_map.1 hr
  have hxl := List.mem_of_mem_take hx
  obtain ⟨f1, f2⟩ := rowOf_facts s (by omega) (x.take 8) [] (fun n hn => (hb x hxl n (List.mem_of_mem_take hn)).1) (by simp) (by simp)
  exact ⟨by have := rowOf_le s (x.take 8); simp at this; omega, f1, f2⟩
def L0 : List (List Int) := [[0, 1, 2], [1, 0, 2], [1, 2, 0], [2, 0, 1], [2, 0, 1]]
theorem valid0 : Valid 3 L0 := ⟨by decide, by decide, by decide, by decide⟩

theorem top_fn (n : Int) (l : List (List Int)) (hn : 0 ≤ n ∧ n < 256) (hb : ∀ r ∈ l, ∀ n ∈ r, 0 ≤ n ∧ n < 256) : Does Try.prog 3 [V.i .u8 n, V.list 1 (brows l)] (V.b true) := by
  obtain ⟨s, hs⟩ : ∃ s : Nat, s = 1 + (n.tmod 6).toNat := ⟨_, rfl⟩
  have hm0 : 0 ≤ n.tmod 6 := Int.tmod_nonneg _ hn.1
  have hm1 : n.tmod 6 < 6 := Int.tmod_lt_of_pos n (by decide)
  have hw : IntKind.i64.wrap (1 + IntKind.i64.wrap (n.tmod 6)) = (s : Int) := by rw [wrap_i64 (x := n.tmod 6) (by omega) (by omega), wrap_i64 (by omega) (by omega)]; omega
  have hlists : Does Try.prog 5 [V.int (IntKind.i64.wrap (1 + IntKind.i64.wrap (n.tmod 6))), V.list 1 (brows l)] (V.list 1 (rows ((l.take 40).map fun x => rowOf s (x.take 8)))) := by
    rw [hw]; exact lists_fn s l (by omega) (by omega) hb
  have hrank : Does Try.prog 4 [V.int (IntKind.i64.wrap (1 + IntKind.i64.wrap (n.tmod 6))), V.list 1 (rows ((l.take 40).map fun x => rowOf s (x.take 8)))] (V.b true) := by
    rw [hw]; exact ranked_fn s _ (valid_lists s (by omega) (by omega) l hb)
  have hrank0 : Does Try.prog 4 [V.int 3, V.list 1 (rows L0)] (V.b true) := ranked_fn 3 L0 valid0
  refine Does.of Try.func3 rfl Try.call3 (by rw [Try.ntmps3]; simp) fun C hro hN hfx => ?_
  have hN' : ∀ k, k < 25 → k < C.N := fun k hk => by rw [hN]; exact hk
  dsimp only [argEnv, Nat.zero_add, Nat.reduceAdd]
  repeat' (first
    | refine Seq.pureG (ok_buildSlice rfl rfl (hN' _ (by decide)) [.const (.int .i64 0), .const (.int .i64 1), .const (.int .i64 2)] [.val (.int .i64 0), .val (.int .i64 1), .val (.int .i64 2)] rfl rfl (by decide) rfl (by simp [V.one, Value.oneCell'])) rfl (by first | exact .none rfl | exact .want rfl rfl rfl (hN' _ (by decide)) rfl | exact .want rfl rfl rfl (hN' _ (by decide)) (by assumption)) ?_
    | refine Seq.pureG (ok_buildSlice rfl rfl (hN' _ (by decide)) [.const (.int .i64 1), .const (.int .i64 0), .const (.int .i64 2)] [.val (.int .i64 1), .val (.int .i64 0), .val (.int .i64 2)] rfl rfl (by decide) rfl (by simp [V.one, Value.oneCell'])) rfl (by first | exact .none rfl | exact .want rfl rfl rfl (hN' _ (by decide)) rfl | exact .want rfl rfl rfl (hN' _ (by decide)) (by assumption)) ?_
    | refine Seq.pureG (ok_buildSlice rfl rfl (hN' _ (by decide)) [.const (.int .i64 1), .const (.int .i64 2), .const (.int .i64 0)] [.val (.int .i64 1), .val (.int .i64 2), .val (.int .i64 0)] rfl rfl (by decide) rfl (by simp [V.one, Value.oneCell'])) rfl (by first | exact .none rfl | exact .want rfl rfl rfl (hN' _ (by decide)) rfl | exact .want rfl rfl rfl (hN' _ (by decide)) (by assumption)) ?_
    | refine Seq.pureG (ok_buildSlice rfl rfl (hN' _ (by decide)) [.const (.int .i64 2), .const (.int .i64 0), .const (.int .i64 1)] [.val (.int .i64 2), .val (.int .i64 0), .val (.int .i64 1)] rfl rfl (by decide) rfl (by simp [V.one, Value.oneCell'])) rfl (by first | exact .none rfl | exact .want rfl rfl rfl (hN' _ (by decide)) rfl | exact .want rfl rfl rfl (hN' _ (by decide)) (by assumption)) ?_
    | refine Seq.pureG (ok_buildSlice rfl rfl (hN' _ (by decide)) [.tmp 5, .tmp 6, .tmp 7, .tmp 8, .tmp 9] (L0.map fun r => D.list 1 (ints r)) rfl rfl (by decide) rfl (by simp [L0, V.one])) rfl (by first | exact .none rfl | exact .want rfl rfl rfl (hN' _ (by decide)) rfl | exact .want rfl rfl rfl (hN' _ (by decide)) (by assumption)) ?_
    | refine Seq.pureG (ok_call rfl rfl (hN' _ (by decide)) [V.int 3, V.list 1 (rows L0)] rfl rfl hrank0 rfl) rfl (by first | exact .none rfl | exact .want rfl rfl rfl (hN' _ (by decide)) rfl | exact .want rfl rfl rfl (hN' _ (by decide)) (by assumption)) ?_
    | refine Seq.pureG (ok_rem rfl rfl (hN' _ (by decide)) rfl rfl (by decide)) rfl (by first | exact .none rfl | exact .want rfl rfl rfl (hN' _ (by decide)) rfl | exact .want rfl rfl rfl (hN' _ (by decide)) (by assumption)) ?_
    | refine Seq.pureG (ok_call rfl rfl (hN' _ (by decide)) [V.int (IntKind.i64.wrap (1 + IntKind.i64.wrap (n.tmod 6))), V.list 1 (brows l)] rfl rfl hlists rfl) rfl (by first | exact .none rfl | exact .want rfl rfl rfl (hN' _ (by decide)) rfl | exact .want rfl rfl rfl (hN' _ (by decide)) (by assumption)) ?_
    | refine Seq.pureG (ok_call rfl rfl (hN' _ (by decide)) [V.int (IntKind.i64.wrap (1 + IntKind.i64.wrap (n.tmod 6))), V.list 1 (rows ((l.take 40).map fun x => rowOf s (x.take 8)))] rfl rfl hrank rfl) rfl (by first | exact .none rfl | exact .want rfl rfl rfl (hN' _ (by decide)) rfl | exact .want rfl rfl rfl (hN' _ (by decide)) (by assumption)) ?_
    | refine T.seq ?_
    | refine T.region ?_
    | refine Seq.nil ?_
    | refine Seq.pureG (ok_move_d rfl rfl (hN' _ (by decide)) rfl) rfl (by first | exact .none rfl | exact .want rfl rfl rfl (hN' _ (by decide)) rfl | exact .want rfl rfl rfl (hN' _ (by decide)) (by assumption)) ?_
    | refine Seq.pureG (ok_assign_d rfl rfl (hN' _ (by decide)) rfl) rfl (by first | exact .none rfl | exact .want rfl rfl rfl (hN' _ (by decide)) rfl | exact .want rfl rfl rfl (hN' _ (by decide)) (by assumption)) ?_
    | refine Seq.pureG (ok_add rfl rfl (hN' _ (by decide)) rfl rfl) rfl (by first | exact .none rfl | exact .want rfl rfl rfl (hN' _ (by decide)) rfl | exact .want rfl rfl rfl (hN' _ (by decide)) (by assumption)) ?_
    | refine Seq.pureG (ok_convert rfl rfl (hN' _ (by decide)) rfl) rfl (by first | exact .none rfl | exact .want rfl rfl rfl (hN' _ (by decide)) rfl | exact .want rfl rfl rfl (hN' _ (by decide)) (by assumption)) ?_
    | refine Seq.pureG (ok_pick_t rfl rfl (hN' _ (by decide)) rfl rfl rfl) rfl (by first | exact .none rfl | exact .want rfl rfl rfl (hN' _ (by decide)) rfl | exact .want rfl rfl rfl (hN' _ (by decide)) (by assumption)) ?_)
  exact T.ret (Fin.one rfl rfl rfl rfl)

end Go.Proofs.Ytjofdfiljokfoaa.R
