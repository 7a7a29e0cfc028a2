/- What chapter 8's laws' arguments are, read off their shapes. No condition. -/
import Derived.Test.YtmjmbfcfnhnpmaaAm29
import Derived.Test.YtmjmbfcfnhnpmaaDkQ
namespace Go.Proofs.Ytmjmbfcfnhnpmaa
open Go.RowKit
set_option linter.all false
set_option maxHeartbeats 4000000
theorem wf_i64 {n : Int} (h : (Lit.int .i64 n).wf = true) : r64 n := by
  simp only [Lit.wf, Bool.and_eq_true, decide_eq_true_eq] at h
  exact h
theorem wf_u8 {n : Int} (h : (Lit.int .u8 n).wf = true) : 0 ≤ n ∧ n ≤ 255 := by
  simp only [Lit.wf, Bool.and_eq_true, decide_eq_true_eq] at h
  exact h
theorem fit_bytes : ∀ (xs : List (List PD)), (∀ x ∈ xs, FitL [.int .u8] x) → ∃ bs, xs = bytesP bs
  | [], _ => ⟨[], rfl⟩
  | x :: xs, h => by
      obtain ⟨bs, rfl⟩ := fit_bytes xs (fun y hy => h y (by simp [hy]))
      have h0 := h x (by simp)
      simp only [FitL, FitP] at h0
      obtain ⟨_, _, rfl, ⟨n, rfl, hn⟩, rfl⟩ := h0
      have := wf_u8 hn
      refine ⟨UInt8.ofNat n.toNat :: bs, ?_⟩
      have e : ((UInt8.ofNat n.toNat).toNat : Int) = n := by simp; omega
      simp only [bytesP, List.map_cons, e]
theorem wt_rows : ∀ xs : List (List PD), (∀ x ∈ xs, x ≠ []) → xs.length ≤ wtR xs
  | [], _ => by simp
  | x :: xs, h => by
      have h1 := wt_rows xs (fun y hy => h y (by simp [hy]))
      have h2 := h x (by simp)
      cases x with
      | nil => exact absurd rfl h2
      | cons p ps =>
        have : 1 ≤ wtP p := by
          cases p with
          | sc v =>
            unfold wtP
            split <;> omega
          | slc sz ys => unfold wtP; omega
        simp only [wtR, wtL, List.length_cons]
        omega
theorem fit_int {ps : List PD} (h : FitL [.int .i64] ps) : ∃ n, ps = [.sc (.int .i64 n)] ∧ r64 n := by
  simp only [FitL, FitP] at h
  obtain ⟨_, _, rfl, ⟨n, rfl, hn⟩, rfl⟩ := h
  exact ⟨n, rfl, wf_i64 hn⟩
theorem wt_bytes (bs : List UInt8) : bs.length ≤ wtR (bytesP bs) := by
  have := wt_rows (bytesP bs) (fun x hx e => by
    simp only [bytesP, List.mem_map] at hx
    obtain ⟨_, _, rfl⟩ := hx
    cases e)
  rw [bytesP_length] at this
  exact this
def isParts (xs : List (List PD)) : Prop := ∃ ps, xs = partsX ps ∧ (∀ p ∈ ps, isB p) ∧ ps.length ≤ 1048576
theorem fit_parts : ∀ (xs : List (List PD)), (∀ x ∈ xs, FitL [.slc [.int .u8]] x) → wtR xs ≤ 1048576 → ∃ ps, xs = partsX ps ∧ (∀ p ∈ ps, isB p) ∧ ps.length ≤ wtR xs
  | [], _, _ => ⟨[], rfl, by simp, by simp⟩
  | x :: xs, h, hw => by
      simp only [wtR] at hw
      obtain ⟨ps, rfl, h1, h2⟩ := fit_parts xs (fun y hy => h y (by simp [hy])) (by omega)
      have h0 := h x (by simp)
      simp only [FitL, FitP] at h0
      obtain ⟨_, _, rfl, ⟨ys, rfl, hy⟩, rfl⟩ := h0
      obtain ⟨bs, rfl⟩ := fit_bytes ys hy
      have h3 := wt_bytes bs
      simp only [wtL, wtP] at hw
      refine ⟨bytesP bs :: ps, rfl, ?_, ?_⟩
      · intro p hp
        rcases List.mem_cons.1 hp with rfl | hp
        · exact isB_bytes bs (by omega)
        · exact h1 p hp
      · simp only [wtR, wtL, wtP, List.length_cons]
        omega
theorem fit_partR {ps : List PD} (h : FitL [.slc [.slc [.int .u8]]] ps) (hw : wtL ps ≤ 1048576) : ∃ xs, ps = [.slc 1 xs] ∧ isParts xs := by
  simp only [FitL, FitP] at h
  obtain ⟨_, _, rfl, ⟨xs, rfl, hx⟩, rfl⟩ := h
  simp only [wtL, wtP] at hw
  obtain ⟨ps, e, h1, h2⟩ := fit_parts xs hx (by omega)
  exact ⟨xs, rfl, ps, e, h1, by omega⟩
theorem v_room (q : Int) (xs : List (List PD)) (hq : r64 q) (h : isParts xs) : FnV Try.prog 5 [.d (.sc (.int .i64 q)), .d (.slc 1 xs)] (boolD true) := by
  obtain ⟨ps, rfl, h1, h2⟩ := h
  exact v_roomL q ps hq h1 h2

end Go.Proofs.Ytmjmbfcfnhnpmaa
