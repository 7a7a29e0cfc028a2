/- The law holds of every input of bulk at most the bound. -/
import Derived.Test.YtbceikkjogbgeaaLk11
import Derived.Test.YtbceikkjogbgeaaKvP2
namespace Go.Proofs.Ytbceikkjogbgeaa
set_option linter.all false

theorem fit_askk : ∀ (xs : List (List PD)), (∀ x ∈ xs, FitL [.int .i64, .str, .str, .str, .str] x) → ∃ qs, xs = asksK qs
  | [], _ => ⟨[], rfl⟩
  | x :: xs, h => by
      obtain ⟨ps, rfl⟩ := fit_askk xs (fun y hy => h y (by simp [hy]))
      have h0 := h x (by simp)
      simp only [FitL, FitP] at h0
      obtain ⟨_, _, rfl, ⟨n, rfl, _⟩, _, _, rfl, ⟨k, rfl, _⟩, _, _, rfl, ⟨v, rfl, _⟩, _, _, rfl, ⟨a, rfl, _⟩, _, _, rfl, ⟨b, rfl, _⟩, rfl⟩ := h0
      exact ⟨⟨n, k, v, a, b⟩ :: ps, rfl⟩
theorem wt_rows : ∀ xs : List (List PD), (∀ x ∈ xs, x ≠ []) → xs.length ≤ wtR xs
  | [], _ => by simp
  | x :: xs, h => by
      have h1 := wt_rows xs (fun y hy => h y (by simp [hy]))
      have h2 := h x (by simp)
      cases x with
      | nil => exact absurd rfl h2
      | cons p ps =>
        have : 1 ≤ wtP p := by
          cases p with
          | sc v =>
            unfold wtP
            split <;> omega
          | slc sz ys => unfold wtP; omega
        simp only [wtR, wtL, List.length_cons]
        omega
theorem wt_askk (l : List AskK) : l.length ≤ wtR (asksK l) := by
  have := wt_rows (asksK l) (fun x hx e => by
    simp only [asksK, List.mem_map] at hx
    obtain ⟨_, _, rfl⟩ := hx
    cases e)
  simpa [asksK] using this
theorem fit_askK {ps : List PD} (h : FitL [.slc [.int .i64, .str, .str, .str, .str]] ps) (hw : wtL ps ≤ 1048576) : ∃ xs, ps = [.slc 5 xs] ∧ isAs xs := by
  simp only [FitL, FitP] at h
  obtain ⟨_, _, rfl, ⟨xs, rfl, hx⟩, rfl⟩ := h
  obtain ⟨l, rfl⟩ := fit_askk xs hx
  simp only [wtL, wtP] at hw
  have := wt_askk l
  exact ⟨_, rfl, l, rfl, by omega⟩

namespace kvPlays
open Go.ChangeShapes Go.WideShapes Go.ChangeAt Go.RowKit
theorem own : ownKnob Try.prog.godebug = none := by kernel_rfl
set_option maxRecDepth 100000 in
theorem contract (H : Type) (enc : TypeId × Value → H) (W : World) (base : Nat) (args : Array Value) (ds gs : List (DataW H)) (before : List MemPlace)
    (hval : ∀ (j : Nat) t v, Try.f8.params[j]? = some t → args[j]? = some v → Value.okWide Try.prog W .any base t v)
    (hW : DataW.Whole enc Try.prog Try.f8.params.toList Rows.kvPlaysSpec.vars false W args.toList ds gs before) (hk : Rows.uptoSmall H (ds ++ gs) = true) :
    Calls Try.prog 8 args W fun e W' => ∃ v, e = .returned v ∧ Rows.kvPlaysSpec.post enc Try.prog Try.f8 false true false false W args v W' := by
  refine law_contract (tb := 4) (by kernel_rfl) (by kernel_rfl) (shs := [(false, [.slc [.int .i64, .str, .str, .str, .str]])]) (by kernel_rfl) rfl rfl (by kernel_rfl) ?_ ?_ H enc W base args ds gs before hval hW hk
  · intro H ds h
    rcases ds with _ | ⟨d0, _ | ⟨d, ds⟩⟩ <;> first
      | rfl
      | (exact absurd h (by simp [Try.f8]))
  · intro pss hf hw
    simp only [FitA] at hf
    obtain ⟨q0, _, rfl, f0, rfl⟩ := hf
    simp only [wtR] at hw
    obtain ⟨x0, e0, w0⟩ := fit_askK f0 (by omega)
    subst e0
    show FnV Try.prog 8 [.d (.slc 5 x0)] _
    exact v_plays x0 w0
set_option maxRecDepth 100000 in
theorem lifted (os : Os) (started : os.Started) (H : Type) (enc : TypeId × Value → H) (F : Stop.Interp) :
    ReturnsInHanded {} Try.checked os 8 .any ((Rows.OpenSpec.upto Rows.kvPlaysSpec).pre6 enc Try.prog Try.f8 Rows.kvPlaysUptoRow.domain false) (((Rows.OpenSpec.upto Rows.kvPlaysSpec).at F).post enc Try.prog Try.f8 false true false false) := by
  refine returnsInHanded_of_cond (C := Try.checked) (s := Rows.OpenSpec.upto Rows.kvPlaysSpec) (k := Rows.uptoSmall) rfl own started (by kernel_rfl) Try.func8
    (OpenSpec.witness (enc := enc) (C := Try.checked) (s := Rows.OpenSpec.upto Rows.kvPlaysSpec) (k := Rows.uptoSmall) rfl false ⟨#[], #[.slice none 0 0], []⟩ 8 (by kernel_rfl) (by kernel_rfl) (by kernel_rfl)
      (x := ([.nil], [], [])) (by kernel_rfl) rfl (by kernel_rfl)) ?_
  intro W base args ds gs before hval hW _ hk _
  exact contract H enc W base args ds gs before hval hW hk
theorem over : Rows.kvPlaysUptoRow.holds Try.pinned (Rows.OpenSpec.upto Rows.kvPlaysSpec) :=
  OpenClaim.holds_of_cond 8 Try.f8 rfl rfl rfl rfl rfl rfl rfl ⟨rfl, rfl, rfl, rfl, rfl⟩ rfl rfl rfl rfl rfl (by kernel_rfl) Try.func8 (by kernel_rfl)
    (of_decide_eq_true (by kernel_rfl)) (by unfold Func.isWrapper; first | (rw [if_pos (by decide +kernel)]; kernel_rfl) | (rw [if_neg (by decide +kernel)]; exact ⟨rfl, rfl⟩))
    (fun os started H enc _ F => lifted os started H enc F)
/-- The statement of the law. -/
theorem proved : Rows.KvPlaysUptoSaid := over
end kvPlays
end Go.Proofs.Ytbceikkjogbgeaa
