/- Chapter 3's runs, as plain data. No condition. -/
import Derived.Test.YtligainhbdidgaaRd3
namespace Go.Proofs.Ytligainhbdidgaa
open Go.RowKit
set_option linter.all false

theorem sameX_of {xs ys : List (List PD)} (h : xs = ys) : sameX xs ys = true := by simp [sameX, h]
theorem num_nil (n : Int) (bs : List UInt8) (h : numB n = bs) : numX [] n = bytesP bs := by simp [numX, h]
theorem isB_lit (bs : List UInt8) (xs : List (List PD)) (h : xs = bytesP bs) (hl : bs.length ≤ 8000000) : isB xs := ⟨bs, h, hl⟩
theorem run1 : sameX (numX [] (-1)) [[.sc (.int .u8 1)]] = true ∧ sameX (numX [] 64) [[.sc (.int .u8 128)], [.sc (.int .u8 1)]] = true := ⟨sameX_of (num_nil (-1) [1] (by decide)), sameX_of (num_nil 64 [128, 1] (by decide))⟩
theorem run2 : textX [] { data := #[97, 98] } = bytesP [4, 97, 98] := by
  have : textB { data := #[97, 98] } = [4, 97, 98] := by decide
  simp [textX, this]
theorem run3 : sameX (textX [] { data := #[97, 98] }) [[.sc (.int .u8 4)], [.sc (.int .u8 97)], [.sc (.int .u8 98)]] = true := sameX_of run2
theorem run4 : wrongX [[.sc (.int .u8 128)], [.sc (.int .u8 0)]] 1 0 = 4 ∧ wrongX [[.sc (.int .u8 128)]] 1 0 = 3 ∧ wrongX [[.sc (.int .u8 4)], [.sc (.int .u8 97)], [.sc (.int .u8 98)]] 2 1 = 2 ∧ wrongX [[.sc (.int .u8 2)]] 3 0 = 4 := ⟨by kernel_rfl, by kernel_rfl, by kernel_rfl, by kernel_rfl⟩
set_option maxRecDepth 100000 in
set_option maxHeartbeats 4000000 in
theorem v_runs3 : FnV Try.prog 13 [] (boolD true) := by
  obtain ⟨F, hF⟩ : ∃ F, F = FsQ0 := ⟨_, rfl⟩
  obtain ⟨G, hG⟩ : ∃ F, F = FsS0 := ⟨_, rfl⟩
  have hB : SoundB Try.prog [fzB (liftK (kn_num F)), fzB (liftK (kn_text F)), fzB (liftK (kn_same F)), fzB (liftK (kn_wrong G))] := by
    subst hF hG
    exact orB_ok (okb_fz (okb_lift ok_num)) (orB_ok (okb_fz (okb_lift ok_text)) (orB_ok (okb_fz (okb_lift ok_same)) (orB_ok (okb_fz (okb_lift ok_wrong)) noB_ok)))
  refine FnD_cbv (T := fun _ => tabY [] []) (H := fun _ => []) (tabY_ok _ _) noK_ok follows_mixed Try.func13 rfl Try.ntmps13 (by simp) fun A X W hA hX hW => ?_
  cbv
  repeat' first
    | (refine part (fun h => ?_) (fun h => ?_) <;> try cbv)
    | (refine And.intro ?_ ?_)
    | (with_reducible refine callB hX hB ?_) <;> cbv
  all_goals subst hA hX hW hF hG
  all_goals simp only [A0, FsQ0, FsS0] at *
  all_goals clear hB
  all_goals have h1 := run1
  all_goals have h2 := run2
  all_goals have h3 := run3
  all_goals have h4 := run4
  all_goals first
    | exact isB_lit [] _ rfl (by decide)
    | exact isB_lit [1] _ rfl (by decide)
    | exact isB_lit [128, 1] _ rfl (by decide)
    | exact isB_lit [4, 97, 98] _ rfl (by decide)
    | exact isB_lit [128, 0] _ rfl (by decide)
    | exact isB_lit [128] _ rfl (by decide)
    | exact isB_lit [2] _ rfl (by decide)
    | exact isB_lit _ _ (num_nil (-1) [1] (by decide)) (by decide)
    | exact isB_lit _ _ (num_nil 64 [128, 1] (by decide)) (by decide)
    | exact isB_lit _ _ run2 (by decide)
    | decide
    | (simp [r64]; done)
    | (simp [szT, ByteArray.size]; done)
    | (exfalso; simp_all; done)
    | (refine ret_v ?_ rfl; simp_all [boolD]; done)
    | skip
  all_goals trace_state
  all_goals fail
structure FsT where
  runs3 : Bool
def FsT0 : FsT where
  runs3 := true
def kn_runs3 (F : FsT) : FuncId × (List DV → RV) := (13, fun args => match args with
  | [] => some ([], boolD F.runs3)
  | _ => none)
theorem ok_runs3 (args : List DV) (cs : List Prop) (r : DV) (h : (kn_runs3 FsT0).2 args = some (cs, r)) (hc : allP cs True) : FnV Try.prog 13 args r ∧ closedL 0 args = true := by
  unfold kn_runs3 at h
  simp only at h
  split at h
  · cases h; exact ⟨v_runs3, rfl⟩
  · cases h
end Go.Proofs.Ytligainhbdidgaa
