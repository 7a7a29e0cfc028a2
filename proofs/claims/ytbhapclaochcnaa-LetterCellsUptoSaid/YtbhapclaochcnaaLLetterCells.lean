/- Right cells, written one behind the other, come back: the law holds of every input of bulk at most the bound. -/
import Derived.Test.YtbhapclaochcnaaLk15
import Derived.Test.YtbhapclaochcnaaLeC
namespace Go.Proofs.Ytbhapclaochcnaa
open Go.RowKit
set_option linter.all false
set_option maxHeartbeats 4000000

theorem wt_mem : ∀ {xs : List (List PD)} {x : List PD}, x ∈ xs → wtL x ≤ wtR xs
  | y :: ys, x, h => by
      simp only [wtR]
      rcases List.mem_cons.1 h with rfl | h
      · omega
      · have := wt_mem h
        omega
theorem fit_cells : ∀ (xs : List (List PD)), (∀ x ∈ xs, FitL [.int .i64, .int .i64, .int .i64, .int .i64, .int .i64, .int .i64, .int .i64, .int .i64, .str, .str, .str, .str, .int .i64, .int .i64, .int .i64, .int .i64, .int .i64, .int .i64, .int .i64, .int .i64, .bool] x) → wtR xs ≤ 1048576 → ∃ l : List Cell, xs = cellsX l ∧ ∀ c ∈ l, okCell c
  | [], _, _ => ⟨[], rfl, by simp⟩
  | x :: xs, h, hw => by
      have h0 := h x (by simp)
      have hx := wt_mem (xs := x :: xs) (x := x) (by simp)
      obtain ⟨l, rfl, hl⟩ := fit_cells xs (fun y hy => h y (by simp [hy])) (by simp only [wtR] at hw; omega)
      obtain ⟨v0, v1, v2, v3, v4, v5, v6, v7, v8, v9, v10, v11, v12, v13, v14, v15, v16, v17, v18, v19, v20, e, k⟩ := fit_cell h0 (by omega)
      subst e
      refine ⟨⟨v0, v1, v2, v3, v4, v5, v6, v7, v8, v9, v10, v11, v12, v13, v14, v15, v16, v17, v18, v19, v20⟩ :: l, rfl, ?_⟩
      intro q hq
      rcases List.mem_cons.1 hq with rfl | hq
      · exact k
      · exact hl q hq
theorem fit_isCells {xs : List (List PD)} (h : ∀ x ∈ xs, FitL [.int .i64, .int .i64, .int .i64, .int .i64, .int .i64, .int .i64, .int .i64, .int .i64, .str, .str, .str, .str, .int .i64, .int .i64, .int .i64, .int .i64, .int .i64, .int .i64, .int .i64, .int .i64, .bool] x) (hw : wtR xs ≤ 1048576) : isCells xs := by
  have hl := wt_rows xs (fun x hx e => by have := h x hx; subst e; simp [FitL] at this)
  obtain ⟨l, rfl, hc⟩ := fit_cells xs h hw
  rw [cellsX_length] at hl
  exact ⟨l, rfl, by omega, hc⟩

namespace letterCells
open Go.ChangeShapes Go.WideShapes Go.ChangeAt Go.RowKit
theorem own : ownKnob Try.prog.godebug = none := by kernel_rfl
set_option maxRecDepth 100000 in
theorem contract (H : Type) (enc : TypeId × Value → H) (W : World) (base : Nat) (args : Array Value) (ds gs : List (DataW H)) (before : List MemPlace)
    (hval : ∀ (j : Nat) t v, Try.f8.params[j]? = some t → args[j]? = some v → Value.okWide Try.prog W .any base t v)
    (hW : DataW.Whole enc Try.prog Try.f8.params.toList Rows.letterCellsSpec.vars false W args.toList ds gs before) (hk : Rows.uptoSmall H (ds ++ gs) = true) :
    Calls Try.prog 8 args W fun e W' => ∃ v, e = .returned v ∧ Rows.letterCellsSpec.post enc Try.prog Try.f8 false true false false W args v W' := by
  refine law_contract (tb := 4) (by kernel_rfl) (by kernel_rfl) (shs := [(false, [.slc [.int .i64, .int .i64, .int .i64, .int .i64, .int .i64, .int .i64, .int .i64, .int .i64, .str, .str, .str, .str, .int .i64, .int .i64, .int .i64, .int .i64, .int .i64, .int .i64, .int .i64, .int .i64, .bool]])]) (by kernel_rfl) rfl rfl (by kernel_rfl) ?_ ?_ H enc W base args ds gs before hval hW hk
  · intro H ds h
    rcases ds with _ | ⟨d0, _ | ⟨d, ds⟩⟩ <;> first
      | rfl
      | (exact absurd h (by simp [Try.f8]))
  · intro pss hf hw
    simp only [FitA] at hf
    obtain ⟨q0, _, rfl, f0, rfl⟩ := hf
    have e0 : ∃ x0, q0 = [.slc 21 x0] ∧ ∀ x ∈ x0, FitL [.int .i64, .int .i64, .int .i64, .int .i64, .int .i64, .int .i64, .int .i64, .int .i64, .str, .str, .str, .str, .int .i64, .int .i64, .int .i64, .int .i64, .int .i64, .int .i64, .int .i64, .int .i64, .bool] x := by
      rw [FitL] at f0
      obtain ⟨p, r, rfl, h1, h2⟩ := f0
      rw [FitL] at h2; subst h2
      rw [FitP] at h1
      obtain ⟨x0, rfl, h3⟩ := h1
      exact ⟨x0, rfl, h3⟩
    obtain ⟨x0, rfl, w0⟩ := e0
    simp only [wtR, wtL, wtP] at hw
    exact v_cells15 x0 (fit_isCells w0 (by omega))
set_option maxRecDepth 100000 in
theorem lifted (os : Os) (started : os.Started) (H : Type) (enc : TypeId × Value → H) (F : Stop.Interp) :
    ReturnsInHanded {} Try.checked os 8 .any ((Rows.OpenSpec.upto Rows.letterCellsSpec).pre6 enc Try.prog Try.f8 Rows.letterCellsUptoRow.domain false) (((Rows.OpenSpec.upto Rows.letterCellsSpec).at F).post enc Try.prog Try.f8 false true false false) := by
  refine returnsInHanded_of_cond (C := Try.checked) (s := Rows.OpenSpec.upto Rows.letterCellsSpec) (k := Rows.uptoSmall) rfl own started (by kernel_rfl) Try.func8
    (OpenSpec.witness (enc := enc) (C := Try.checked) (s := Rows.OpenSpec.upto Rows.letterCellsSpec) (k := Rows.uptoSmall) rfl false ⟨#[], #[.slice none 0 0], []⟩ 8 (by kernel_rfl) (by kernel_rfl) (by kernel_rfl)
      (x := ([.nil], [], [])) (by kernel_rfl) rfl (by kernel_rfl)) ?_
  intro W base args ds gs before hval hW _ hk _
  exact contract H enc W base args ds gs before hval hW hk
theorem over : Rows.letterCellsUptoRow.holds Try.pinned (Rows.OpenSpec.upto Rows.letterCellsSpec) :=
  OpenClaim.holds_of_cond 8 Try.f8 rfl rfl rfl rfl rfl rfl rfl ⟨rfl, rfl, rfl, rfl, rfl⟩ rfl rfl rfl rfl rfl (by kernel_rfl) Try.func8 (by kernel_rfl)
    (of_decide_eq_true (by kernel_rfl)) (by unfold Func.isWrapper; first | (rw [if_pos (by decide +kernel)]; kernel_rfl) | (rw [if_neg (by decide +kernel)]; exact ⟨rfl, rfl⟩))
    (fun os started H enc _ F => lifted os started H enc F)
/-- The statement of the law. -/
theorem proved : Rows.LetterCellsUptoSaid := over
end letterCells
end Go.Proofs.Ytbhapclaochcnaa
