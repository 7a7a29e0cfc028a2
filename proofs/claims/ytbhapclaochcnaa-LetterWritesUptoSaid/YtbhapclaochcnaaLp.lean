/- What the laws' bytes are, read off their shapes. No condition. -/
import Derived.Test.YtbhapclaochcnaaAm29
import Derived.Test.YtbhapclaochcnaaPack
namespace Go.Proofs.Ytbhapclaochcnaa
open Go.RowKit
set_option linter.all false
theorem wf_i64 {n : Int} (h : (Lit.int .i64 n).wf = true) : r64 n := by
  simp only [Lit.wf, Bool.and_eq_true, decide_eq_true_eq] at h
  exact h
theorem wf_u8 {n : Int} (h : (Lit.int .u8 n).wf = true) : 0 ≤ n ∧ n ≤ 255 := by
  simp only [Lit.wf, Bool.and_eq_true, decide_eq_true_eq] at h
  exact h
theorem fit_bytes : ∀ (xs : List (List PD)), (∀ x ∈ xs, FitL [.int .u8] x) → ∃ bs, xs = bytesP bs
  | [], _ => ⟨[], rfl⟩
  | x :: xs, h => by
      obtain ⟨bs, rfl⟩ := fit_bytes xs (fun y hy => h y (by simp [hy]))
      have h0 := h x (by simp)
      simp only [FitL, FitP] at h0
      obtain ⟨_, _, rfl, ⟨n, rfl, hn⟩, rfl⟩ := h0
      have := wf_u8 hn
      refine ⟨UInt8.ofNat n.toNat :: bs, ?_⟩
      have e : ((UInt8.ofNat n.toNat).toNat : Int) = n := by simp; omega
      simp only [bytesP, List.map_cons, e]
theorem wt_rows : ∀ xs : List (List PD), (∀ x ∈ xs, x ≠ []) → xs.length ≤ wtR xs
  | [], _ => by simp
  | x :: xs, h => by
      have h1 := wt_rows xs (fun y hy => h y (by simp [hy]))
      have h2 := h x (by simp)
      cases x with
      | nil => exact absurd rfl h2
      | cons p ps =>
        have : 1 ≤ wtP p := by
          cases p with
          | sc v =>
            unfold wtP
            split <;> omega
          | slc sz ys => unfold wtP; omega
        simp only [wtR, wtL, List.length_cons]
        omega
theorem fit_isB {xs : List (List PD)} (h : ∀ x ∈ xs, FitL [.int .u8] x) (hw : wtR xs ≤ 1048576) : isB xs := by
  have hl := wt_rows xs (fun x hx e => by have := h x hx; subst e; simp [FitL] at this)
  obtain ⟨bs, rfl⟩ := fit_bytes xs h
  rw [bytesP_length] at hl
  exact ⟨bs, rfl, by omega⟩
end Go.Proofs.Ytbhapclaochcnaa
