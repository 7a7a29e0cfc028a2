/- The law holds of every input of bulk at most the bound. -/
import Derived.Test.YtjlbdfehkbcmfaaLk
import Derived.Test.YtjlbdfehkbcmfaaDed4
namespace Go.Proofs.Ytjlbdfehkbcmfaa
open Go.RowKit
set_option linter.all false
theorem fit_nums0 : ∀ (xs : List (List PD)), (∀ x ∈ xs, FitL [.int .i64] x) → ∃ ns : List Int, xs = numsX ns ∧ ∀ n ∈ ns, r64 n
  | [], _ => ⟨[], rfl, by simp⟩
  | x :: xs, h => by
      obtain ⟨ns, rfl, hl⟩ := fit_nums0 xs (fun y hy => h y (by simp [hy]))
      obtain ⟨n, rfl, hn⟩ := fit_int (h x (by simp))
      refine ⟨n :: ns, rfl, ?_⟩
      intro a ha
      rcases List.mem_cons.1 ha with rfl | ha
      · exact hn
      · exact hl a ha
theorem wt_nums : ∀ ns : List Int, ns.length ≤ wtR (numsX ns)
  | [] => by simp
  | n :: ns => by
      have e : numsX (n :: ns) = [.sc (.int .i64 n)] :: numsX ns := rfl
      have h := wt_nums ns
      rw [e]
      simp only [wtR, wtL, wtP, List.length_cons]
      omega
theorem fit_nums {ps : List PD} (h : FitL [.slc [.int .i64]] ps) (hw : wtL ps ≤ 1048576) : ∃ xs, ps = [.slc 1 xs] ∧ ∃ ns, xs = numsX ns ∧ ns.length ≤ 1048576 ∧ ∀ n ∈ ns, r64 n := by
  simp only [FitL, FitP] at h
  obtain ⟨_, _, rfl, ⟨xs, rfl, hx⟩, rfl⟩ := h
  simp only [wtL, wtP] at hw
  obtain ⟨ns, rfl, hl⟩ := fit_nums0 xs hx
  have := wt_nums ns
  exact ⟨_, rfl, ns, rfl, by omega, hl⟩

namespace dedupOnce
open Go.ChangeShapes Go.WideShapes Go.ChangeAt Go.RowKit
theorem own : ownKnob Try.prog.godebug = none := by kernel_rfl
set_option maxRecDepth 100000 in
theorem contract (H : Type) (enc : TypeId × Value → H) (W : World) (base : Nat) (args : Array Value) (ds gs : List (DataW H)) (before : List MemPlace)
    (hval : ∀ (j : Nat) t v, Try.f7.params[j]? = some t → args[j]? = some v → Value.okWide Try.prog W .any base t v)
    (hW : DataW.Whole enc Try.prog Try.f7.params.toList Rows.dedupOnceSpec.vars false W args.toList ds gs before) (hk : Rows.uptoSmall H (ds ++ gs) = true) :
    Calls Try.prog 7 args W fun e W' => ∃ v, e = .returned v ∧ Rows.dedupOnceSpec.post enc Try.prog Try.f7 false true false false W args v W' := by
  refine law_contract (tb := 4) (by kernel_rfl) (by kernel_rfl) (shs := [(false, [.slc [.int .i64]]), (false, [.slc [.int .i64]])]) (by kernel_rfl) rfl rfl (by kernel_rfl) ?_ ?_ H enc W base args ds gs before hval hW hk
  · intro H ds h
    rcases ds with _ | ⟨d1, _ | ⟨d0, _ | ⟨d, ds⟩⟩⟩ <;> first
      | rfl
      | (exact absurd h (by simp [Try.f7]))
  · intro pss hf hw
    simp only [FitA] at hf
    obtain ⟨q0, _, rfl, f0, ⟨q1, _, rfl, f1, rfl⟩⟩ := hf
    simp only [wtR] at hw
    obtain ⟨x0, e0, w0⟩ := fit_nums f0 (by omega)
    obtain ⟨x1, e1, w1⟩ := fit_nums f1 (by omega)
    subst e0
    subst e1
    show FnV Try.prog 7 [.d (.slc 1 x0), .d (.slc 1 x1)] _
    exact v_once x0 x1 w0 w1
set_option maxRecDepth 100000 in
theorem lifted (os : Os) (started : os.Started) (H : Type) (enc : TypeId × Value → H) (F : Stop.Interp) :
    ReturnsInHanded {} Try.checked os 7 .any ((Rows.OpenSpec.upto Rows.dedupOnceSpec).pre6 enc Try.prog Try.f7 Rows.dedupOnceUptoRow.domain false) (((Rows.OpenSpec.upto Rows.dedupOnceSpec).at F).post enc Try.prog Try.f7 false true false false) := by
  refine returnsInHanded_of_cond (C := Try.checked) (s := Rows.OpenSpec.upto Rows.dedupOnceSpec) (k := Rows.uptoSmall) rfl own started (by kernel_rfl) Try.func7
    (OpenSpec.witness (enc := enc) (C := Try.checked) (s := Rows.OpenSpec.upto Rows.dedupOnceSpec) (k := Rows.uptoSmall) rfl false ⟨#[], #[.slice none 0 0, .slice none 0 0], []⟩ 8 (by kernel_rfl) (by kernel_rfl) (by kernel_rfl)
      (x := ([.nil, .nil], [], [])) (by kernel_rfl) rfl (by kernel_rfl)) ?_
  intro W base args ds gs before hval hW _ hk _
  exact contract H enc W base args ds gs before hval hW hk
theorem over : Rows.dedupOnceUptoRow.holds Try.pinned (Rows.OpenSpec.upto Rows.dedupOnceSpec) :=
  OpenClaim.holds_of_cond 7 Try.f7 rfl rfl rfl rfl rfl rfl rfl ⟨rfl, rfl, rfl, rfl, rfl⟩ rfl rfl rfl rfl rfl (by kernel_rfl) Try.func7 (by kernel_rfl)
    (of_decide_eq_true (by kernel_rfl)) (by unfold Func.isWrapper; first | (rw [if_pos (by decide +kernel)]; kernel_rfl) | (rw [if_neg (by decide +kernel)]; exact ⟨rfl, rfl⟩))
    (fun os started H enc _ F => lifted os started H enc F)
/-- The statement of the law. -/
theorem proved : Rows.DedupOnceUptoSaid := over
end dedupOnce
end Go.Proofs.Ytjlbdfehkbcmfaa
