/- What chapter 15's laws' arguments are, read off their shapes. No condition. -/
import Derived.Test.YtbhapclaochcnaaAm29
import Derived.Test.YtbhapclaochcnaaRA
import Derived.Test.YtbhapclaochcnaaRB
namespace Go.Proofs.Ytbhapclaochcnaa
open Go.RowKit
set_option linter.all false
set_option maxHeartbeats 4000000
theorem fit_int {ps : List PD} (h : FitL [.int .i64] ps) : ∃ n, ps = [.sc (.int .i64 n)] ∧ r64 n := by
  simp only [FitL, FitP] at h
  obtain ⟨_, _, rfl, ⟨n, rfl, hn⟩, rfl⟩ := h
  exact ⟨n, rfl, wf_i64 hn⟩
theorem fit_u8 {ps : List PD} (h : FitL [.int .u8] ps) : ∃ n, ps = [.sc (.int .u8 n)] ∧ 0 ≤ n ∧ n ≤ 255 := by
  simp only [FitL, FitP] at h
  obtain ⟨_, _, rfl, ⟨n, rfl, hn⟩, rfl⟩ := h
  exact ⟨n, rfl, wf_u8 hn⟩
theorem fit_row8 {ps : List PD} (h : FitL [.slc [.int .u8]] ps) (hw : wtL ps ≤ 1048576) : ∃ xs, ps = [.slc 1 xs] ∧ isBn 1048576 xs := by
  simp only [FitL, FitP] at h
  obtain ⟨_, _, rfl, ⟨xs, rfl, hx⟩, rfl⟩ := h
  simp only [wtL, wtP] at hw
  obtain ⟨bs, rfl⟩ := fit_bytes xs hx
  have := wt_rows (bytesP bs) (fun x hx e => by
    simp only [bytesP, List.mem_map] at hx
    obtain ⟨_, _, rfl⟩ := hx
    cases e)
  rw [bytesP_length] at this
  exact ⟨_, rfl, bs, rfl, by omega⟩
theorem FitL_i {sh : List Sh} {ps : List PD} {N : Nat} (h : FitL (.int .i64 :: sh) ps) (hw : wtL ps ≤ N) : ∃ n r, ps = .sc (.int .i64 n) :: r ∧ r64 n ∧ FitL sh r ∧ wtL r ≤ N := by
  rw [FitL] at h
  obtain ⟨p, r, rfl, h1, h2⟩ := h
  rw [FitP] at h1
  obtain ⟨n, rfl, hn⟩ := h1
  simp only [wtL] at hw
  exact ⟨n, r, rfl, wf_i64 hn, h2, by omega⟩
theorem FitL_s {sh : List Sh} {ps : List PD} {N : Nat} (h : FitL (.str :: sh) ps) (hw : wtL ps ≤ N) : ∃ n r, ps = .sc (.string n) :: r ∧ n.size ≤ N ∧ FitL sh r ∧ wtL r ≤ N := by
  rw [FitL] at h
  obtain ⟨p, r, rfl, h1, h2⟩ := h
  rw [FitP] at h1
  obtain ⟨n, rfl, hn⟩ := h1
  simp only [wtL, wtP] at hw
  exact ⟨n, r, rfl, by omega, h2, by omega⟩
theorem FitL_b {sh : List Sh} {ps : List PD} {N : Nat} (h : FitL (.bool :: sh) ps) (hw : wtL ps ≤ N) : ∃ n r, ps = .sc (.bool n) :: r ∧ FitL sh r ∧ wtL r ≤ N := by
  rw [FitL] at h
  obtain ⟨p, r, rfl, h1, h2⟩ := h
  rw [FitP] at h1
  obtain ⟨n, rfl⟩ := h1
  simp only [wtL] at hw
  exact ⟨n, r, rfl, h2, by omega⟩
set_option maxRecDepth 100000 in
theorem fit_letter {ps : List PD} (h : FitL ((.int .i64) :: (.int .i64) :: (.int .i64) :: (.int .i64) :: (.int .i64) :: (.int .i64) :: (.int .i64) :: (.int .i64) :: (.int .i64) :: (.int .i64) :: (.str) :: (.str) :: (.str) :: (.str) :: (.int .i64) :: (.int .i64) :: (.int .i64) :: (.int .i64) :: (.int .i64) :: (.int .i64) :: (.int .i64) :: (.int .i64) :: (.int .i64) :: (.int .i64) :: (.int .i64) :: (.int .i64) :: (.int .i64) :: (.int .i64) :: (.int .i64) :: (.int .i64) :: (.str) :: (.str) :: (.str) :: (.str) :: (.int .i64) :: (.int .i64) :: (.int .i64) :: (.int .i64) :: (.int .i64) :: (.int .i64) :: (.int .i64) :: (.int .i64) :: (.bool) :: (.int .i64) :: (.int .i64) :: (.int .i64) :: (.int .i64) :: (.int .i64) :: (.int .i64) :: (.int .i64) :: (.str) :: []) ps) (hw : wtL ps ≤ 1048576) : ∃ x0 : Int, ∃ x1 : Int, ∃ x2 : Int, ∃ x3 : Int, ∃ x4 : Int, ∃ x5 : Int, ∃ x6 : Int, ∃ x7 : Int, ∃ x8 : Int, ∃ x9 : Int, ∃ x10 : ByteArray, ∃ x11 : ByteArray, ∃ x12 : ByteArray, ∃ x13 : ByteArray, ∃ x14 : Int, ∃ x15 : Int, ∃ x16 : Int, ∃ x17 : Int, ∃ x18 : Int, ∃ x19 : Int, ∃ x20 : Int, ∃ x21 : Int, ∃ x22 : Int, ∃ x23 : Int, ∃ x24 : Int, ∃ x25 : Int, ∃ x26 : Int, ∃ x27 : Int, ∃ x28 : Int, ∃ x29 : Int, ∃ x30 : ByteArray, ∃ x31 : ByteArray, ∃ x32 : ByteArray, ∃ x33 : ByteArray, ∃ x34 : Int, ∃ x35 : Int, ∃ x36 : Int, ∃ x37 : Int, ∃ x38 : Int, ∃ x39 : Int, ∃ x40 : Int, ∃ x41 : Int, ∃ x42 : Bool, ∃ x43 : Int, ∃ x44 : Int, ∃ x45 : Int, ∃ x46 : Int, ∃ x47 : Int, ∃ x48 : Int, ∃ x49 : Int, ∃ x50 : ByteArray,  ps = ((.sc (.int .i64 x0)) :: (.sc (.int .i64 x1)) :: (.sc (.int .i64 x2)) :: (.sc (.int .i64 x3)) :: (.sc (.int .i64 x4)) :: (.sc (.int .i64 x5)) :: (.sc (.int .i64 x6)) :: (.sc (.int .i64 x7)) :: (.sc (.int .i64 x8)) :: (.sc (.int .i64 x9)) :: (.sc (.string x10)) :: (.sc (.string x11)) :: (.sc (.string x12)) :: (.sc (.string x13)) :: (.sc (.int .i64 x14)) :: (.sc (.int .i64 x15)) :: (.sc (.int .i64 x16)) :: (.sc (.int .i64 x17)) :: (.sc (.int .i64 x18)) :: (.sc (.int .i64 x19)) :: (.sc (.int .i64 x20)) :: (.sc (.int .i64 x21)) :: (.sc (.int .i64 x22)) :: (.sc (.int .i64 x23)) :: (.sc (.int .i64 x24)) :: (.sc (.int .i64 x25)) :: (.sc (.int .i64 x26)) :: (.sc (.int .i64 x27)) :: (.sc (.int .i64 x28)) :: (.sc (.int .i64 x29)) :: (.sc (.string x30)) :: (.sc (.string x31)) :: (.sc (.string x32)) :: (.sc (.string x33)) :: (.sc (.int .i64 x34)) :: (.sc (.int .i64 x35)) :: (.sc (.int .i64 x36)) :: (.sc (.int .i64 x37)) :: (.sc (.int .i64 x38)) :: (.sc (.int .i64 x39)) :: (.sc (.int .i64 x40)) :: (.sc (.int .i64 x41)) :: (.sc (.bool x42)) :: (.sc (.int .i64 x43)) :: (.sc (.int .i64 x44)) :: (.sc (.int .i64 x45)) :: (.sc (.int .i64 x46)) :: (.sc (.int .i64 x47)) :: (.sc (.int .i64 x48)) :: (.sc (.int .i64 x49)) :: (.sc (.string x50)) :: []) ∧ okLet ⟨x0, x1, x2, x3, x4, x5, x6, x7, x8, x9, x10, x11, x12, x13, x14, x15, x16, x17, x18, x19, x20, x21, x22, x23, x24, x25, x26, x27, x28, x29, x30, x31, x32, x33, x34, x35, x36, x37, x38, x39, x40, x41, x42, x43, x44, x45, x46, x47, x48, x49, x50⟩ := by
  obtain ⟨x0, r0, e0, g0, h, hw⟩ := FitL_i h hw
  obtain ⟨x1, r1, e1, g1, h, hw⟩ := FitL_i h hw
  obtain ⟨x2, r2, e2, g2, h, hw⟩ := FitL_i h hw
  obtain ⟨x3, r3, e3, g3, h, hw⟩ := FitL_i h hw
  obtain ⟨x4, r4, e4, g4, h, hw⟩ := FitL_i h hw
  obtain ⟨x5, r5, e5, g5, h, hw⟩ := FitL_i h hw
  obtain ⟨x6, r6, e6, g6, h, hw⟩ := FitL_i h hw
  obtain ⟨x7, r7, e7, g7, h, hw⟩ := FitL_i h hw
  obtain ⟨x8, r8, e8, g8, h, hw⟩ := FitL_i h hw
  obtain ⟨x9, r9, e9, g9, h, hw⟩ := FitL_i h hw
  obtain ⟨x10, r10, e10, g10, h, hw⟩ := FitL_s h hw
  obtain ⟨x11, r11, e11, g11, h, hw⟩ := FitL_s h hw
  obtain ⟨x12, r12, e12, g12, h, hw⟩ := FitL_s h hw
  obtain ⟨x13, r13, e13, g13, h, hw⟩ := FitL_s h hw
  obtain ⟨x14, r14, e14, g14, h, hw⟩ := FitL_i h hw
  obtain ⟨x15, r15, e15, g15, h, hw⟩ := FitL_i h hw
  obtain ⟨x16, r16, e16, g16, h, hw⟩ := FitL_i h hw
  obtain ⟨x17, r17, e17, g17, h, hw⟩ := FitL_i h hw
  obtain ⟨x18, r18, e18, g18, h, hw⟩ := FitL_i h hw
  obtain ⟨x19, r19, e19, g19, h, hw⟩ := FitL_i h hw
  obtain ⟨x20, r20, e20, g20, h, hw⟩ := FitL_i h hw
  obtain ⟨x21, r21, e21, g21, h, hw⟩ := FitL_i h hw
  obtain ⟨x22, r22, e22, g22, h, hw⟩ := FitL_i h hw
  obtain ⟨x23, r23, e23, g23, h, hw⟩ := FitL_i h hw
  obtain ⟨x24, r24, e24, g24, h, hw⟩ := FitL_i h hw
  obtain ⟨x25, r25, e25, g25, h, hw⟩ := FitL_i h hw
  obtain ⟨x26, r26, e26, g26, h, hw⟩ := FitL_i h hw
  obtain ⟨x27, r27, e27, g27, h, hw⟩ := FitL_i h hw
  obtain ⟨x28, r28, e28, g28, h, hw⟩ := FitL_i h hw
  obtain ⟨x29, r29, e29, g29, h, hw⟩ := FitL_i h hw
  obtain ⟨x30, r30, e30, g30, h, hw⟩ := FitL_s h hw
  obtain ⟨x31, r31, e31, g31, h, hw⟩ := FitL_s h hw
  obtain ⟨x32, r32, e32, g32, h, hw⟩ := FitL_s h hw
  obtain ⟨x33, r33, e33, g33, h, hw⟩ := FitL_s h hw
  obtain ⟨x34, r34, e34, g34, h, hw⟩ := FitL_i h hw
  obtain ⟨x35, r35, e35, g35, h, hw⟩ := FitL_i h hw
  obtain ⟨x36, r36, e36, g36, h, hw⟩ := FitL_i h hw
  obtain ⟨x37, r37, e37, g37, h, hw⟩ := FitL_i h hw
  obtain ⟨x38, r38, e38, g38, h, hw⟩ := FitL_i h hw
  obtain ⟨x39, r39, e39, g39, h, hw⟩ := FitL_i h hw
  obtain ⟨x40, r40, e40, g40, h, hw⟩ := FitL_i h hw
  obtain ⟨x41, r41, e41, g41, h, hw⟩ := FitL_i h hw
  obtain ⟨x42, r42, e42, h, hw⟩ := FitL_b h hw
  obtain ⟨x43, r43, e43, g43, h, hw⟩ := FitL_i h hw
  obtain ⟨x44, r44, e44, g44, h, hw⟩ := FitL_i h hw
  obtain ⟨x45, r45, e45, g45, h, hw⟩ := FitL_i h hw
  obtain ⟨x46, r46, e46, g46, h, hw⟩ := FitL_i h hw
  obtain ⟨x47, r47, e47, g47, h, hw⟩ := FitL_i h hw
  obtain ⟨x48, r48, e48, g48, h, hw⟩ := FitL_i h hw
  obtain ⟨x49, r49, e49, g49, h, hw⟩ := FitL_i h hw
  obtain ⟨x50, r50, e50, g50, h, hw⟩ := FitL_s h hw
  rw [FitL] at h
  subst h
  rw [e0, e1, e2, e3, e4, e5, e6, e7, e8, e9, e10, e11, e12, e13, e14, e15, e16, e17, e18, e19, e20, e21, e22, e23, e24, e25, e26, e27, e28, e29, e30, e31, e32, e33, e34, e35, e36, e37, e38, e39, e40, e41, e42, e43, e44, e45, e46, e47, e48, e49, e50]
  exact ⟨x0, x1, x2, x3, x4, x5, x6, x7, x8, x9, x10, x11, x12, x13, x14, x15, x16, x17, x18, x19, x20, x21, x22, x23, x24, x25, x26, x27, x28, x29, x30, x31, x32, x33, x34, x35, x36, x37, x38, x39, x40, x41, x42, x43, x44, x45, x46, x47, x48, x49, x50, rfl, ⟨⟨g0, g1, g2⟩, ⟨g3, g4⟩, ⟨g5, g6⟩, ⟨g7, g8, g9, g10, g11, g12, g13⟩, ⟨g14, g15, g16, g17, g18, g19, g20, g21⟩, ⟨g22, ⟨g23, g24⟩, ⟨g25, g26⟩, ⟨g27, g28, g29, g30, g31, g32, g33⟩, ⟨g34, g35, g36, g37, g38, g39, g40, g41⟩⟩, ⟨g43, g44, g45, g46, g47, g48, g49⟩, g50⟩⟩
end Go.Proofs.Ytbhapclaochcnaa
