/- Joined in any order, in parts, or with one twice. No condition. -/
import Derived.Test.YtikodmddomaneaaDp8
namespace Go.Proofs.Ytikodmddomaneaa
open Go.RowKit
set_option linter.all false
set_option maxHeartbeats 4000000
theorem r64_max {a b : Int} (h : r64 a) (g : r64 b) : r64 (max a b) := by unfold r64 at *; omega
theorem isAt_of {l : List Attr} (h : ∀ a ∈ l, rAttr a) (hl : l.length ≤ 100) : isAt (attrsX l) := ⟨l, rfl, by omega, h⟩
/-- Region n of a body. -/
noncomputable def fndR (n : Nat) : Code → List (Array Oper)
  | .region i ops _ => if i == n then [ops] else []
  | .seq a b => fndR n a ++ fndR n b
  | .cond _ a b => fndR n a ++ fndR n b
  | .block _ b => fndR n b
  | .loop b => fndR n b
  | .scope b => fndR n b
  | _ => []
noncomputable def regL : Array Oper := (fndR 2 (Try.f6.body.getD .skip)).headD #[]
theorem regL_lex : Region.lexB .any regL = true := by kernel_rfl
theorem regL_of {ops : Array Oper} (h : ops = regL) : Region.lexB .any ops = true := by rw [h]; exact regL_lex
theorem max3 (x y z : Int) : max (max z y) x = max (max x y) z := by omega
theorem max4 (x y z : Int) : max (max (max x y) z) y = max (max x y) z := by omega

structure FsJ2 where
  joinsL : Attr → Attr → Attr → Bool
  rAttr : Attr → Prop
def FsJ20 : FsJ2 where
  joinsL := fun _ _ _ => true
  rAttr := rAttr
set_option maxRecDepth 100000 in
theorem v_joinsL (a : Attr) (b : Attr) (c : Attr) (hp0 : FsJ20.rAttr a) (hp1 : FsJ20.rAttr b) (hp2 : FsJ20.rAttr c) : FnV Try.prog 6 [Attr.D a, Attr.D b, Attr.D c] (boolD (((fun (_ _ _ : Attr) => true) a b c))) := by
  obtain ⟨a_seq, a_d0, a_d1, a_d2, a_d3, a_d4, a_d5, a_d6⟩ := a
  obtain ⟨b_seq, b_d0, b_d1, b_d2, b_d3, b_d4, b_d5, b_d6⟩ := b
  obtain ⟨c_seq, c_d0, c_d1, c_d2, c_d3, c_d4, c_d5, c_d6⟩ := c
  have ha : rAttr (⟨a_seq, a_d0, a_d1, a_d2, a_d3, a_d4, a_d5, a_d6⟩ : Attr) := hp0
  have hb : rAttr (⟨b_seq, b_d0, b_d1, b_d2, b_d3, b_d4, b_d5, b_d6⟩ : Attr) := hp1
  have hc : rAttr (⟨c_seq, c_d0, c_d1, c_d2, c_d3, c_d4, c_d5, c_d6⟩ : Attr) := hp2
  have hab : rAttr (⟨max (a_seq) (b_seq), max (a_d0) (b_d0), max (a_d1) (b_d1), max (a_d2) (b_d2), max (a_d3) (b_d3), max (a_d4) (b_d4), max (a_d5) (b_d5), max (a_d6) (b_d6)⟩ : Attr) := ⟨r64_max ha.1 hb.1, r64_max ha.2.1 hb.2.1, r64_max ha.2.2.1 hb.2.2.1, r64_max ha.2.2.2.1 hb.2.2.2.1, r64_max ha.2.2.2.2.1 hb.2.2.2.2.1, r64_max ha.2.2.2.2.2.1 hb.2.2.2.2.2.1, r64_max ha.2.2.2.2.2.2.1 hb.2.2.2.2.2.2.1, r64_max ha.2.2.2.2.2.2.2 hb.2.2.2.2.2.2.2⟩
  have eabc : joinX ([[.sc (.int .i64 (a_seq)), .sc (.int .i64 (a_d0)), .sc (.int .i64 (a_d1)), .sc (.int .i64 (a_d2)), .sc (.int .i64 (a_d3)), .sc (.int .i64 (a_d4)), .sc (.int .i64 (a_d5)), .sc (.int .i64 (a_d6))], [.sc (.int .i64 (b_seq)), .sc (.int .i64 (b_d0)), .sc (.int .i64 (b_d1)), .sc (.int .i64 (b_d2)), .sc (.int .i64 (b_d3)), .sc (.int .i64 (b_d4)), .sc (.int .i64 (b_d5)), .sc (.int .i64 (b_d6))], [.sc (.int .i64 (c_seq)), .sc (.int .i64 (c_d0)), .sc (.int .i64 (c_d1)), .sc (.int .i64 (c_d2)), .sc (.int .i64 (c_d3)), .sc (.int .i64 (c_d4)), .sc (.int .i64 (c_d5)), .sc (.int .i64 (c_d6))]] : List (List PD)) = (⟨max (max (a_seq) (b_seq)) (c_seq), max (max (a_d0) (b_d0)) (c_d0), max (max (a_d1) (b_d1)) (c_d1), max (max (a_d2) (b_d2)) (c_d2), max (max (a_d3) (b_d3)) (c_d3), max (max (a_d4) (b_d4)) (c_d4), max (max (a_d5) (b_d5)) (c_d5), max (max (a_d6) (b_d6)) (c_d6)⟩ : Attr) := rfl
  have ecba : joinX ([[.sc (.int .i64 (c_seq)), .sc (.int .i64 (c_d0)), .sc (.int .i64 (c_d1)), .sc (.int .i64 (c_d2)), .sc (.int .i64 (c_d3)), .sc (.int .i64 (c_d4)), .sc (.int .i64 (c_d5)), .sc (.int .i64 (c_d6))], [.sc (.int .i64 (b_seq)), .sc (.int .i64 (b_d0)), .sc (.int .i64 (b_d1)), .sc (.int .i64 (b_d2)), .sc (.int .i64 (b_d3)), .sc (.int .i64 (b_d4)), .sc (.int .i64 (b_d5)), .sc (.int .i64 (b_d6))], [.sc (.int .i64 (a_seq)), .sc (.int .i64 (a_d0)), .sc (.int .i64 (a_d1)), .sc (.int .i64 (a_d2)), .sc (.int .i64 (a_d3)), .sc (.int .i64 (a_d4)), .sc (.int .i64 (a_d5)), .sc (.int .i64 (a_d6))]] : List (List PD)) = (⟨max (max (c_seq) (b_seq)) (a_seq), max (max (c_d0) (b_d0)) (a_d0), max (max (c_d1) (b_d1)) (a_d1), max (max (c_d2) (b_d2)) (a_d2), max (max (c_d3) (b_d3)) (a_d3), max (max (c_d4) (b_d4)) (a_d4), max (max (c_d5) (b_d5)) (a_d5), max (max (c_d6) (b_d6)) (a_d6)⟩ : Attr) := rfl
  have eab : joinX ([[.sc (.int .i64 (a_seq)), .sc (.int .i64 (a_d0)), .sc (.int .i64 (a_d1)), .sc (.int .i64 (a_d2)), .sc (.int .i64 (a_d3)), .sc (.int .i64 (a_d4)), .sc (.int .i64 (a_d5)), .sc (.int .i64 (a_d6))], [.sc (.int .i64 (b_seq)), .sc (.int .i64 (b_d0)), .sc (.int .i64 (b_d1)), .sc (.int .i64 (b_d2)), .sc (.int .i64 (b_d3)), .sc (.int .i64 (b_d4)), .sc (.int .i64 (b_d5)), .sc (.int .i64 (b_d6))]] : List (List PD)) = (⟨max (a_seq) (b_seq), max (a_d0) (b_d0), max (a_d1) (b_d1), max (a_d2) (b_d2), max (a_d3) (b_d3), max (a_d4) (b_d4), max (a_d5) (b_d5), max (a_d6) (b_d6)⟩ : Attr) := rfl
  have eabx : joinX ([[.sc (.int .i64 (max (a_seq) (b_seq))), .sc (.int .i64 (max (a_d0) (b_d0))), .sc (.int .i64 (max (a_d1) (b_d1))), .sc (.int .i64 (max (a_d2) (b_d2))), .sc (.int .i64 (max (a_d3) (b_d3))), .sc (.int .i64 (max (a_d4) (b_d4))), .sc (.int .i64 (max (a_d5) (b_d5))), .sc (.int .i64 (max (a_d6) (b_d6)))], [.sc (.int .i64 (c_seq)), .sc (.int .i64 (c_d0)), .sc (.int .i64 (c_d1)), .sc (.int .i64 (c_d2)), .sc (.int .i64 (c_d3)), .sc (.int .i64 (c_d4)), .sc (.int .i64 (c_d5)), .sc (.int .i64 (c_d6))]] : List (List PD)) = (⟨max (max (a_seq) (b_seq)) (c_seq), max (max (a_d0) (b_d0)) (c_d0), max (max (a_d1) (b_d1)) (c_d1), max (max (a_d2) (b_d2)) (c_d2), max (max (a_d3) (b_d3)) (c_d3), max (max (a_d4) (b_d4)) (c_d4), max (max (a_d5) (b_d5)) (c_d5), max (max (a_d6) (b_d6)) (c_d6)⟩ : Attr) := rfl
  have eabcb : joinX ([[.sc (.int .i64 (a_seq)), .sc (.int .i64 (a_d0)), .sc (.int .i64 (a_d1)), .sc (.int .i64 (a_d2)), .sc (.int .i64 (a_d3)), .sc (.int .i64 (a_d4)), .sc (.int .i64 (a_d5)), .sc (.int .i64 (a_d6))], [.sc (.int .i64 (b_seq)), .sc (.int .i64 (b_d0)), .sc (.int .i64 (b_d1)), .sc (.int .i64 (b_d2)), .sc (.int .i64 (b_d3)), .sc (.int .i64 (b_d4)), .sc (.int .i64 (b_d5)), .sc (.int .i64 (b_d6))], [.sc (.int .i64 (c_seq)), .sc (.int .i64 (c_d0)), .sc (.int .i64 (c_d1)), .sc (.int .i64 (c_d2)), .sc (.int .i64 (c_d3)), .sc (.int .i64 (c_d4)), .sc (.int .i64 (c_d5)), .sc (.int .i64 (c_d6))], [.sc (.int .i64 (b_seq)), .sc (.int .i64 (b_d0)), .sc (.int .i64 (b_d1)), .sc (.int .i64 (b_d2)), .sc (.int .i64 (b_d3)), .sc (.int .i64 (b_d4)), .sc (.int .i64 (b_d5)), .sc (.int .i64 (b_d6))]] : List (List PD)) = (⟨max (max (max (a_seq) (b_seq)) (c_seq)) (b_seq), max (max (max (a_d0) (b_d0)) (c_d0)) (b_d0), max (max (max (a_d1) (b_d1)) (c_d1)) (b_d1), max (max (max (a_d2) (b_d2)) (c_d2)) (b_d2), max (max (max (a_d3) (b_d3)) (c_d3)) (b_d3), max (max (max (a_d4) (b_d4)) (c_d4)) (b_d4), max (max (max (a_d5) (b_d5)) (c_d5)) (b_d5), max (max (max (a_d6) (b_d6)) (c_d6)) (b_d6)⟩ : Attr) := rfl
  have ea : joinX ([[.sc (.int .i64 (a_seq)), .sc (.int .i64 (a_d0)), .sc (.int .i64 (a_d1)), .sc (.int .i64 (a_d2)), .sc (.int .i64 (a_d3)), .sc (.int .i64 (a_d4)), .sc (.int .i64 (a_d5)), .sc (.int .i64 (a_d6))]] : List (List PD)) = (⟨a_seq, a_d0, a_d1, a_d2, a_d3, a_d4, a_d5, a_d6⟩ : Attr) := rfl
  have iabc : isAt ([[.sc (.int .i64 (a_seq)), .sc (.int .i64 (a_d0)), .sc (.int .i64 (a_d1)), .sc (.int .i64 (a_d2)), .sc (.int .i64 (a_d3)), .sc (.int .i64 (a_d4)), .sc (.int .i64 (a_d5)), .sc (.int .i64 (a_d6))], [.sc (.int .i64 (b_seq)), .sc (.int .i64 (b_d0)), .sc (.int .i64 (b_d1)), .sc (.int .i64 (b_d2)), .sc (.int .i64 (b_d3)), .sc (.int .i64 (b_d4)), .sc (.int .i64 (b_d5)), .sc (.int .i64 (b_d6))], [.sc (.int .i64 (c_seq)), .sc (.int .i64 (c_d0)), .sc (.int .i64 (c_d1)), .sc (.int .i64 (c_d2)), .sc (.int .i64 (c_d3)), .sc (.int .i64 (c_d4)), .sc (.int .i64 (c_d5)), .sc (.int .i64 (c_d6))]] : List (List PD)) := isAt_of (l := [(⟨a_seq, a_d0, a_d1, a_d2, a_d3, a_d4, a_d5, a_d6⟩ : Attr), (⟨b_seq, b_d0, b_d1, b_d2, b_d3, b_d4, b_d5, b_d6⟩ : Attr), (⟨c_seq, c_d0, c_d1, c_d2, c_d3, c_d4, c_d5, c_d6⟩ : Attr)]) (by intro x hx; simp only [List.mem_cons, List.not_mem_nil, or_false] at hx; rcases hx with rfl | rfl | rfl <;> assumption) (by simp)
  have icba : isAt ([[.sc (.int .i64 (c_seq)), .sc (.int .i64 (c_d0)), .sc (.int .i64 (c_d1)), .sc (.int .i64 (c_d2)), .sc (.int .i64 (c_d3)), .sc (.int .i64 (c_d4)), .sc (.int .i64 (c_d5)), .sc (.int .i64 (c_d6))], [.sc (.int .i64 (b_seq)), .sc (.int .i64 (b_d0)), .sc (.int .i64 (b_d1)), .sc (.int .i64 (b_d2)), .sc (.int .i64 (b_d3)), .sc (.int .i64 (b_d4)), .sc (.int .i64 (b_d5)), .sc (.int .i64 (b_d6))], [.sc (.int .i64 (a_seq)), .sc (.int .i64 (a_d0)), .sc (.int .i64 (a_d1)), .sc (.int .i64 (a_d2)), .sc (.int .i64 (a_d3)), .sc (.int .i64 (a_d4)), .sc (.int .i64 (a_d5)), .sc (.int .i64 (a_d6))]] : List (List PD)) := isAt_of (l := [(⟨c_seq, c_d0, c_d1, c_d2, c_d3, c_d4, c_d5, c_d6⟩ : Attr), (⟨b_seq, b_d0, b_d1, b_d2, b_d3, b_d4, b_d5, b_d6⟩ : Attr), (⟨a_seq, a_d0, a_d1, a_d2, a_d3, a_d4, a_d5, a_d6⟩ : Attr)]) (by intro x hx; simp only [List.mem_cons, List.not_mem_nil, or_false] at hx; rcases hx with rfl | rfl | rfl <;> assumption) (by simp)
  have iab : isAt ([[.sc (.int .i64 (a_seq)), .sc (.int .i64 (a_d0)), .sc (.int .i64 (a_d1)), .sc (.int .i64 (a_d2)), .sc (.int .i64 (a_d3)), .sc (.int .i64 (a_d4)), .sc (.int .i64 (a_d5)), .sc (.int .i64 (a_d6))], [.sc (.int .i64 (b_seq)), .sc (.int .i64 (b_d0)), .sc (.int .i64 (b_d1)), .sc (.int .i64 (b_d2)), .sc (.int .i64 (b_d3)), .sc (.int .i64 (b_d4)), .sc (.int .i64 (b_d5)), .sc (.int .i64 (b_d6))]] : List (List PD)) := isAt_of (l := [(⟨a_seq, a_d0, a_d1, a_d2, a_d3, a_d4, a_d5, a_d6⟩ : Attr), (⟨b_seq, b_d0, b_d1, b_d2, b_d3, b_d4, b_d5, b_d6⟩ : Attr)]) (by intro x hx; simp only [List.mem_cons, List.not_mem_nil, or_false] at hx; rcases hx with rfl | rfl <;> assumption) (by simp)
  have iabx : isAt ([[.sc (.int .i64 (max (a_seq) (b_seq))), .sc (.int .i64 (max (a_d0) (b_d0))), .sc (.int .i64 (max (a_d1) (b_d1))), .sc (.int .i64 (max (a_d2) (b_d2))), .sc (.int .i64 (max (a_d3) (b_d3))), .sc (.int .i64 (max (a_d4) (b_d4))), .sc (.int .i64 (max (a_d5) (b_d5))), .sc (.int .i64 (max (a_d6) (b_d6)))], [.sc (.int .i64 (c_seq)), .sc (.int .i64 (c_d0)), .sc (.int .i64 (c_d1)), .sc (.int .i64 (c_d2)), .sc (.int .i64 (c_d3)), .sc (.int .i64 (c_d4)), .sc (.int .i64 (c_d5)), .sc (.int .i64 (c_d6))]] : List (List PD)) := isAt_of (l := [(⟨max (a_seq) (b_seq), max (a_d0) (b_d0), max (a_d1) (b_d1), max (a_d2) (b_d2), max (a_d3) (b_d3), max (a_d4) (b_d4), max (a_d5) (b_d5), max (a_d6) (b_d6)⟩ : Attr), (⟨c_seq, c_d0, c_d1, c_d2, c_d3, c_d4, c_d5, c_d6⟩ : Attr)]) (by intro x hx; simp only [List.mem_cons, List.not_mem_nil, or_false] at hx; rcases hx with rfl | rfl <;> assumption) (by simp)
  have iabcb : isAt ([[.sc (.int .i64 (a_seq)), .sc (.int .i64 (a_d0)), .sc (.int .i64 (a_d1)), .sc (.int .i64 (a_d2)), .sc (.int .i64 (a_d3)), .sc (.int .i64 (a_d4)), .sc (.int .i64 (a_d5)), .sc (.int .i64 (a_d6))], [.sc (.int .i64 (b_seq)), .sc (.int .i64 (b_d0)), .sc (.int .i64 (b_d1)), .sc (.int .i64 (b_d2)), .sc (.int .i64 (b_d3)), .sc (.int .i64 (b_d4)), .sc (.int .i64 (b_d5)), .sc (.int .i64 (b_d6))], [.sc (.int .i64 (c_seq)), .sc (.int .i64 (c_d0)), .sc (.int .i64 (c_d1)), .sc (.int .i64 (c_d2)), .sc (.int .i64 (c_d3)), .sc (.int .i64 (c_d4)), .sc (.int .i64 (c_d5)), .sc (.int .i64 (c_d6))], [.sc (.int .i64 (b_seq)), .sc (.int .i64 (b_d0)), .sc (.int .i64 (b_d1)), .sc (.int .i64 (b_d2)), .sc (.int .i64 (b_d3)), .sc (.int .i64 (b_d4)), .sc (.int .i64 (b_d5)), .sc (.int .i64 (b_d6))]] : List (List PD)) := isAt_of (l := [(⟨a_seq, a_d0, a_d1, a_d2, a_d3, a_d4, a_d5, a_d6⟩ : Attr), (⟨b_seq, b_d0, b_d1, b_d2, b_d3, b_d4, b_d5, b_d6⟩ : Attr), (⟨c_seq, c_d0, c_d1, c_d2, c_d3, c_d4, c_d5, c_d6⟩ : Attr), (⟨b_seq, b_d0, b_d1, b_d2, b_d3, b_d4, b_d5, b_d6⟩ : Attr)]) (by intro x hx; simp only [List.mem_cons, List.not_mem_nil, or_false] at hx; rcases hx with rfl | rfl | rfl | rfl <;> assumption) (by simp)
  have ia : isAt ([[.sc (.int .i64 (a_seq)), .sc (.int .i64 (a_d0)), .sc (.int .i64 (a_d1)), .sc (.int .i64 (a_d2)), .sc (.int .i64 (a_d3)), .sc (.int .i64 (a_d4)), .sc (.int .i64 (a_d5)), .sc (.int .i64 (a_d6))]] : List (List PD)) := isAt_of (l := [(⟨a_seq, a_d0, a_d1, a_d2, a_d3, a_d4, a_d5, a_d6⟩ : Attr)]) (by intro x hx; simp only [List.mem_cons, List.not_mem_nil, or_false] at hx; subst hx; assumption) (by simp)
  have cov1 : coversD ⟨max (max (a_d0) (b_d0)) (c_d0), max (max (a_d1) (b_d1)) (c_d1), max (max (a_d2) (b_d2)) (c_d2), max (max (a_d3) (b_d3)) (c_d3), max (max (a_d4) (b_d4)) (c_d4), max (max (a_d5) (b_d5)) (c_d5), max (max (a_d6) (b_d6)) (c_d6)⟩ ⟨a_d0, a_d1, a_d2, a_d3, a_d4, a_d5, a_d6⟩ = true := by rw [covers_iff]; simp only; omega
  have cov2 : coversD ⟨max (max (a_d0) (b_d0)) (c_d0), max (max (a_d1) (b_d1)) (c_d1), max (max (a_d2) (b_d2)) (c_d2), max (max (a_d3) (b_d3)) (c_d3), max (max (a_d4) (b_d4)) (c_d4), max (max (a_d5) (b_d5)) (c_d5), max (max (a_d6) (b_d6)) (c_d6)⟩ ⟨c_d0, c_d1, c_d2, c_d3, c_d4, c_d5, c_d6⟩ = true := by rw [covers_iff]; simp only; omega
  have sq : decide (b_seq ≤ max (max (a_seq) (b_seq)) (c_seq)) = true := by simp only [decide_eq_true_eq]; omega
  obtain ⟨GFsJ, hGFsJ⟩ : ∃ F, F = FsJ0 := ⟨_, rfl⟩
  obtain ⟨GFsA, hGFsA⟩ : ∃ F, F = FsA0 := ⟨_, rfl⟩
  obtain ⟨GFsR, hGFsR⟩ : ∃ F, F = FsR0 := ⟨_, rfl⟩
  have hH : SoundK Try.prog [kn_join GFsJ, kn_covers GFsA, kn_runs GFsR] := by subst hGFsJ hGFsA hGFsR; exact orK_ok ok_join (orK_ok ok_covers (orK_ok ok_runs noK_ok))
  refine FnD_cbv (T := fun _ => tabY [] [1, 2]) (H := fun _ => [kn_join GFsJ, kn_covers GFsA, kn_runs GFsR]) (tabY_ok _ _) hH follows_mixed Try.func6 rfl Try.ntmps6 (by simp) fun A X W hA hX hW => ?_
  cbv
  have q0 : max (max c_seq b_seq) a_seq = max (max a_seq b_seq) c_seq := max3 _ _ _
  have r0 : max (max (max a_seq b_seq) c_seq) b_seq = max (max a_seq b_seq) c_seq := max4 _ _ _
  have q1 : max (max c_d0 b_d0) a_d0 = max (max a_d0 b_d0) c_d0 := max3 _ _ _
  have r1 : max (max (max a_d0 b_d0) c_d0) b_d0 = max (max a_d0 b_d0) c_d0 := max4 _ _ _
  have q2 : max (max c_d1 b_d1) a_d1 = max (max a_d1 b_d1) c_d1 := max3 _ _ _
  have r2 : max (max (max a_d1 b_d1) c_d1) b_d1 = max (max a_d1 b_d1) c_d1 := max4 _ _ _
  have q3 : max (max c_d2 b_d2) a_d2 = max (max a_d2 b_d2) c_d2 := max3 _ _ _
  have r3 : max (max (max a_d2 b_d2) c_d2) b_d2 = max (max a_d2 b_d2) c_d2 := max4 _ _ _
  have q4 : max (max c_d3 b_d3) a_d3 = max (max a_d3 b_d3) c_d3 := max3 _ _ _
  have r4 : max (max (max a_d3 b_d3) c_d3) b_d3 = max (max a_d3 b_d3) c_d3 := max4 _ _ _
  have q5 : max (max c_d4 b_d4) a_d4 = max (max a_d4 b_d4) c_d4 := max3 _ _ _
  have r5 : max (max (max a_d4 b_d4) c_d4) b_d4 = max (max a_d4 b_d4) c_d4 := max4 _ _ _
  have q6 : max (max c_d5 b_d5) a_d5 = max (max a_d5 b_d5) c_d5 := max3 _ _ _
  have r6 : max (max (max a_d5 b_d5) c_d5) b_d5 = max (max a_d5 b_d5) c_d5 := max4 _ _ _
  have q7 : max (max c_d6 b_d6) a_d6 = max (max a_d6 b_d6) c_d6 := max3 _ _ _
  have r7 : max (max (max a_d6 b_d6) c_d6) b_d6 = max (max a_d6 b_d6) c_d6 := max4 _ _ _
  repeat' first
    | (refine part (fun h => ?_) (fun h => ?_) <;> try cbv)
    | (refine And.intro ?_ ?_)
    | ((with_reducible refine regionF (T := fun _ => tabY [] [1,2]) (H := fun _ => [kn_join GFsJ, kn_covers GFsA, kn_runs GFsR]) (tabY_ok _ _) hH hA hX ?_) <;> cbv)
    | ((with_reducible refine regionL [1000001,1000002,1000003,1000004] [] (T := fun _ => tabY [] []) (H := fun _ => [kn_join GFsJ, kn_covers GFsA, kn_runs GFsR]) (B := fun _ => []) (R := fun _ => []) (A := A) (tabY_ok _ _) hH noB_ok noR_ok follows_mixed hA hX (regL_of (by kernel_rfl)) (by kernel_rfl) (by kernel_rfl) ?_) <;> cbv)
  all_goals subst hA hX hW hGFsJ hGFsA hGFsR
  all_goals clear hH
  all_goals simp only [A0, nc, FsJ0, FsA0, FsR0, eabc, ecba, eab, eabx, eabcb, ea, cov1, cov2, sq, q0, q1, q2, q3, q4, q5, q6, q7, r0, r1, r2, r3, r4, r5, r6, r7] at *
  all_goals first
    | assumption
    | (intros; first | assumption | trivial | (simp_all; done))
    | (exfalso; simp_all; done)
    | (refine ret_v ?_ rfl; first | rfl | (simp_all [boolD]; done))
end Go.Proofs.Ytikodmddomaneaa
