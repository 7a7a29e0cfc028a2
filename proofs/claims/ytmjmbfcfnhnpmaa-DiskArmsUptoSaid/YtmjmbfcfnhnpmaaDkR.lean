/- Chapter 8's runs. No condition. -/
import Derived.Test.YtmjmbfcfnhnpmaaDkY
namespace Go.Proofs.Ytmjmbfcfnhnpmaa
open Go.RowKit
set_option linter.all false
set_option maxHeartbeats 4000000

theorem okq9 : (FsL0.okq 9) := ⟨by decide, by decide⟩
theorem okD_one {q l : Int} {f : FileM} {o a : Bool} (hq : 0 ≤ q ∧ q ≤ 1048576) (hl : 0 ≤ l ∧ l ≤ 9223372036854775807) (hf : okFile f) (ht : (f.data.length : Int) ≤ q) : okD 900 ⟨q, [f], o, a, l⟩ :=
  ⟨hq, by simp [totF]; exact ht, by simp, by simpa using hf, hl⟩
theorem okD_two {q l : Int} {f g : FileM} {o a : Bool} (hq : 0 ≤ q ∧ q ≤ 1048576) (hl : 0 ≤ l ∧ l ≤ 9223372036854775807) (hf : okFile f) (hg : okFile g) (ht : (f.data.length : Int) + g.data.length ≤ q) : okD 900 ⟨q, [f, g], o, a, l⟩ :=
  ⟨hq, by simp [totF]; omega, by simp, by simpa using ⟨hf, hg⟩, hl⟩
theorem okD_nil {q l : Int} {o a : Bool} (hq : 0 ≤ q ∧ q ≤ 1048576) (hl : 0 ≤ l ∧ l ≤ 9223372036854775807) : okD 900 ⟨q, [], o, a, l⟩ := ⟨hq, by simp [totF]; exact hq.1, by simp, by simp, hl⟩
abbrev nmA : ByteArray := { data := { toList := [97] } }
abbrev nmB : ByteArray := { data := { toList := [98] } }
theorem isB_bytes (bs : List UInt8) (h : bs.length ≤ 4000000) : isB (bytesP bs) := ⟨bs, rfl, h⟩
theorem okF_bytes (n : ByteArray) (bs : List UInt8) (k : Int) (h : bs.length ≤ 4000000) (h0 : 0 ≤ k) (h1 : k ≤ bs.length) : okFile ⟨n, bytesP bs, k⟩ := ⟨isB_bytes bs h, h0, by rw [bytesP_length]; exact h1⟩
theorem fzF {cs : List DV} {L : List FileM} (h : cs = cellsF L) {b v sz : Nat} {xs : List (List PD)} : fzL b v sz xs cs = cellsF L := by
  rw [fzL_eq, h, cellsF, rowsD, List.map_map]
  rfl
theorem isF_of {cs : List DV} {n : Nat} {L : List FileM} (h : cs = cellsF L) (hn : n = L.length) (hk : okL L) : isF cs n := by subst h hn; exact isF.mk hk
theorem okD_of {cs : List DV} {L : List FileM} {q l : Int} {o a : Bool} (h : cs = cellsF L) (hk : okD 900 ⟨q, L, o, a, l⟩) : okD 900 ⟨q, rowF cs, o, a, l⟩ := by subst h; rw [rowF_cells]; exact hk
set_option maxRecDepth 100000 in
theorem v_runs : FnV Try.prog 3 [] (boolD true) := by
  have okA : ∀ (k : Int) (bs : List UInt8) (o a : Bool) (l : Int), 0 ≤ k → k ≤ bs.length → bs.length ≤ 9 → 0 ≤ l → l ≤ 1 → okD 900 ⟨9, [⟨nmA, bytesP bs, k⟩], o, a, l⟩ := fun k bs o a l h0 h1 h2 h3 h4 => okD_one (by decide) (by omega) (okF_bytes _ _ _ (by omega) h0 h1) (by simp only [bytesP_length]; omega)
  have ok1 := okA 0 [1, 2, 3] false false 0 (by decide) (by decide) (by decide) (by decide) (by decide)
  have ok2 := okA 3 [1, 2, 3] false false 0 (by decide) (by decide) (by decide) (by decide) (by decide)
  have ok3 := okA 3 [1, 2, 3, 4, 5] false false 0 (by decide) (by decide) (by decide) (by decide) (by decide)
  have ok4 := okA 4 [1, 2, 3, 4] false false 0 (by decide) (by decide) (by decide) (by decide) (by decide)
  have ok5 := okA 4 [1, 2, 3, 4] false true 1 (by decide) (by decide) (by decide) (by decide) (by decide)
  have ok6 : okD 900 ⟨9, [⟨nmA, bytesP [1, 2, 3, 4], 4⟩, ⟨nmB, bytesP [1], 0⟩], false, true, 0⟩ := okD_two (by decide) (by decide) (okF_bytes _ _ _ (by decide) (by decide) (by decide)) (okF_bytes _ _ _ (by decide) (by decide) (by decide)) (by decide)
  obtain ⟨GFsQ, hFsQ⟩ : ∃ F, F = FsQ0 := ⟨_, rfl⟩
  obtain ⟨GFsL, hFsL⟩ : ∃ F, F = FsL0 := ⟨_, rfl⟩
  obtain ⟨GFsK, hFsK⟩ : ∃ F, F = FsK0 := ⟨_, rfl⟩
  have hH : SoundK Try.prog [kn_same GFsQ] := by subst hFsQ hFsL hFsK; exact orK_ok ok_same noK_ok
  have hB : SoundB Try.prog [kb_new GFsL, kb_read GFsL, kb_arm GFsL, kb_off GFsK, fzB (liftK (kn_same GFsQ))] := by subst hFsQ hFsL hFsK; exact orB_ok okb_new (orB_ok okb_read (orB_ok okb_arm (orB_ok okb_off (orB_ok (okb_fz (okb_lift ok_same)) noB_ok))))
  refine FnD_cbv (T := fun _ => tabY [] []) (H := fun _ => [kn_same GFsQ]) (tabY_ok _ _) hH follows_mixed Try.func3 rfl Try.ntmps3 (by simp) fun A X W hA hX hW => ?_
  cbv
  have f1 : A.cmp .neq 0 0 = false := by subst hA; rfl
  cbv at f1
  have f2 : A.cond false true false = false := by subst hA; rfl
  cbv at f2
  have m1 : GFsL.ge 1 = true := by subst hFsL; rfl
  cbv at m1
  have m2 : GFsL.mx 1 = 1 := by subst hFsL; rfl
  cbv at m2
  have m3 : A.nat 6 = 6 := by subst hA; rfl
  cbv at m3
  have m4 : A.rep 6 [.d (.sc (.int .u8 0))] = [.d (.sc (.int .u8 0)), .d (.sc (.int .u8 0)), .d (.sc (.int .u8 0)), .d (.sc (.int .u8 0)), .d (.sc (.int .u8 0)), .d (.sc (.int .u8 0))] := by subst hA; rfl
  cbv at m4
  have m5 : A.ext 6 6 = false := by subst hA; rfl
  cbv at m5
  repeat first
    | (simp only [f1, f2, m1, m2, m3, m4, m5]; cbv)
    | refine And.intro (by
         subst hA hX hW hFsQ hFsL hFsK
         clear hH hB
         first
           | exact trivial
           | exact rfl
           | (simp [A0]; done)
           | (intro q; exact q)
           | (intro q; simpa [A0] using q)
           | (intro _; trivial)
           | (show Region.lexB _ _ = true; kernel_rfl)
           | (show turnsB _ = true; kernel_rfl)
           | exact okq9
           | assumption) ?_
    | ((with_reducible refine callB hX hB ?_); cbv; fail_if_success show False)
  refine callL hX (FnD.freeze 1 1 (bytesP [1, 2, 3]) _ rfl rfl rfl (by intro x hx; simp [bytesP, intsX] at hx; (try rcases hx with rfl | rfl | rfl | rfl | rfl | rfl) <;> (try subst hx) <;> rfl) (app0 nmA (bytesP [1, 2, 3]) 0 (e := 0) (q' := 9) (L' := [⟨nmA, bytesP [1, 2, 3], 0⟩]) (o' := false) (a' := false) (l' := 0) rfl (okD_nil (by decide) (by decide)) (by decide) (isB_bytes _ (by decide)) (by kernel_rfl) (fun h => by cases h) fun v1 n1 c1 hc1 hn1 => ?_))
  cbv
  repeat first
    | (simp only [f1, f2, m1, m2, m3, m4, m5]; cbv)
    | refine And.intro (by
         subst hA hX hW hFsQ hFsL hFsK
         clear hH hB
         first
           | exact trivial
           | exact rfl
           | (simp [A0]; done)
           | (intro q; exact q)
           | (intro q; simpa [A0] using q)
           | (intro _; trivial)
           | (show Region.lexB _ _ = true; kernel_rfl)
           | (show turnsB _ = true; kernel_rfl)
           | exact okq9
           | assumption) ?_
    | ((with_reducible refine callB hX hB ?_); cbv; fail_if_success show False)
  refine callL hX (sync1 nmA 0 2 [⟨nmA, bytesP [1, 2, 3], 0⟩] (e := 0) (q' := 9) (L' := [⟨nmA, bytesP [1, 2, 3], 3⟩]) (o' := false) (a' := false) (l' := 0)  rfl rfl (by decide) hc1 hn1 ok1 (by kernel_rfl) fun v2 n2 c2 hc2 hn2 => ?_)
  cbv
  repeat first
    | (simp only [f1, f2, m1, m2, m3, m4, m5]; cbv)
    | refine And.intro (by
         subst hA hX hW hFsQ hFsL hFsK
         clear hH hB
         first
           | exact trivial
           | exact rfl
           | (simp [A0]; done)
           | (intro q; exact q)
           | (intro q; simpa [A0] using q)
           | (intro _; trivial)
           | (show Region.lexB _ _ = true; kernel_rfl)
           | (show turnsB _ = true; kernel_rfl)
           | exact okq9
           | assumption) ?_
    | ((with_reducible refine callB hX hB ?_); cbv; fail_if_success show False)
  refine callL hX (FnD.freeze 3 1 (bytesP [4, 5]) _ rfl rfl rfl (by intro x hx; simp [bytesP, intsX] at hx; (try rcases hx with rfl | rfl | rfl | rfl | rfl | rfl) <;> (try subst hx) <;> rfl) (app1 nmA (bytesP [4, 5]) 0 2 [⟨nmA, bytesP [1, 2, 3], 3⟩] (e := 0) (q' := 9) (L' := [⟨nmA, bytesP [1, 2, 3, 4, 5], 3⟩]) (o' := false) (a' := false) (l' := 0)  rfl rfl (by decide) (fzF hc2) hn2 ok2 (by decide) (isB_bytes _ (by decide)) (by kernel_rfl) fun v3 n3 c3 hc3 hn3 => ?_))
  cbv
  repeat first
    | (simp only [f1, f2, m1, m2, m3, m4, m5]; cbv)
    | refine And.intro (by
         subst hA hX hW hFsQ hFsL hFsK
         clear hH hB
         first
           | exact trivial
           | exact rfl
           | (simp [A0]; done)
           | (intro q; exact q)
           | (intro q; simpa [A0] using q)
           | (intro _; trivial)
           | (show Region.lexB _ _ = true; kernel_rfl)
           | (show turnsB _ = true; kernel_rfl)
           | exact okq9
           | assumption) ?_
    | ((with_reducible refine callB hX hB ?_); cbv; fail_if_success show False)
  refine callL hX (FnD.freeze 4 1 (intsX [1]) _ rfl rfl rfl (by intro x hx; simp [bytesP, intsX] at hx; (try rcases hx with rfl | rfl | rfl | rfl | rfl | rfl) <;> (try subst hx) <;> rfl) (crash1 [1] 0 2 [⟨nmA, bytesP [1, 2, 3, 4, 5], 3⟩] (e := 0) (q' := 9) (L' := [⟨nmA, bytesP [1, 2, 3, 4], 4⟩]) (o' := false) (a' := false) (l' := 0)  rfl rfl (by decide) (fzF hc3) hn3 ok3 (by decide) (by intro p hp; simp at hp; subst hp; exact ⟨by decide, by decide⟩) (by kernel_rfl) fun v4 n4 c4 hc4 hn4 => ?_))
  cbv
  have hF4 := isF_of hc4 hn4 (ok4.okL (by decide))
  have hO4 := okD_of hc4 ok4
  repeat first
    | (simp only [f1, f2, m1, m2, m3, m4, m5]; cbv)
    | refine And.intro (by
         subst hA hX hW hFsQ hFsL hFsK
         clear hH hB
         first
           | exact trivial
           | exact rfl
           | (simp [A0]; done)
           | (intro q; exact q)
           | (intro q; simpa [A0] using q)
           | (intro _; trivial)
           | (show Region.lexB _ _ = true; kernel_rfl)
           | (show turnsB _ = true; kernel_rfl)
           | exact okq9
           | assumption) ?_
    | ((with_reducible refine callB hX hB ?_); cbv; fail_if_success show False)
  refine callL hX (FnD.freeze 5 1 (bytesP [0, 0, 0, 0, 0, 0]) _ rfl rfl rfl (by intro x hx; simp [bytesP, intsX] at hx; (try rcases hx with rfl | rfl | rfl | rfl | rfl | rfl) <;> (try subst hx) <;> rfl) (app1 nmB (bytesP [0, 0, 0, 0, 0, 0]) 0 2 [⟨nmA, bytesP [1, 2, 3, 4], 4⟩] (e := 7) (q' := 9) (L' := [⟨nmA, bytesP [1, 2, 3, 4], 4⟩]) (o' := false) (a' := false) (l' := 0)  rfl rfl (by decide) (fzF hc4) hn4 ok4 (by decide) (isB_bytes _ (by decide)) (by kernel_rfl) fun v5 n5 c5 hc5 hn5 => ?_))
  cbv
  have hF5 := isF_of hc5 hn5 (ok4.okL (by decide))
  repeat first
    | (simp only [f1, f2, m1, m2, m3, m4, m5]; cbv)
    | refine And.intro (by
         subst hA hX hW hFsQ hFsL hFsK
         clear hH hB
         first
           | exact trivial
           | exact rfl
           | (simp [A0]; done)
           | (intro q; exact q)
           | (intro q; simpa [A0] using q)
           | (intro _; trivial)
           | (show Region.lexB _ _ = true; kernel_rfl)
           | (show turnsB _ = true; kernel_rfl)
           | exact okq9
           | assumption) ?_
    | ((with_reducible refine callB hX hB ?_); cbv; fail_if_success show False)
  refine callL hX (FnD.freeze 6 1 (bytesP [1]) _ rfl rfl rfl (by intro x hx; simp [bytesP, intsX] at hx; (try rcases hx with rfl | rfl | rfl | rfl | rfl | rfl) <;> (try subst hx) <;> rfl) (app1 nmB (bytesP [1]) 0 2 [⟨nmA, bytesP [1, 2, 3, 4], 4⟩] (e := 0) (q' := 9) (L' := [⟨nmA, bytesP [1, 2, 3, 4], 4⟩, ⟨nmB, bytesP [1], 0⟩]) (o' := false) (a' := true) (l' := 0)  rfl rfl (by decide) (fzF hc5) hn5 ok5 (by decide) (isB_bytes _ (by decide)) (by kernel_rfl) fun v6 n6 c6 hc6 hn6 => ?_))
  cbv
  repeat first
    | (simp only [f1, f2, m1, m2, m3, m4, m5]; cbv)
    | refine And.intro (by
         subst hA hX hW hFsQ hFsL hFsK
         clear hH hB
         first
           | exact trivial
           | exact rfl
           | (simp [A0]; done)
           | (intro q; exact q)
           | (intro q; simpa [A0] using q)
           | (intro _; trivial)
           | (show Region.lexB _ _ = true; kernel_rfl)
           | (show turnsB _ = true; kernel_rfl)
           | exact okq9
           | assumption) ?_
    | ((with_reducible refine callB hX hB ?_); cbv; fail_if_success show False)
  refine callL hX (sync1 nmB 0 2 [⟨nmA, bytesP [1, 2, 3, 4], 4⟩, ⟨nmB, bytesP [1], 0⟩] (e := 10) (q' := 9) (L' := [⟨nmA, bytesP [1, 2, 3, 4], 4⟩, ⟨nmB, bytesP [1], 0⟩]) (o' := true) (a' := true) (l' := 0)  rfl rfl (by decide) hc6 hn6 ok6 (by kernel_rfl) fun v7 n7 c7 hc7 hn7 => ?_)
  cbv
  have hF7 := isF_of hc7 hn7 (ok6.okL (by decide))
  have hrd : readsX c4 nmA = bytesP [1, 2, 3, 4] := by rw [hc4]; unfold readsX; rw [rowF_cells]; kernel_rfl
  have hB1 : isB (readsX c4 nmA) := by rw [hrd]; exact isB_bytes _ (by decide)
  have hB2 : isB (bytesP [1, 2, 3, 4]) := isB_bytes _ (by decide)
  have e9 : GFsQ.same (GFsL.rd c4 { data := { toList := [97] } }) [[.sc (.int .u8 1)], [.sc (.int .u8 2)], [.sc (.int .u8 3)], [.sc (.int .u8 4)]] = true := by
    subst hFsQ hFsL
    exact (sameB_eq _ _).2 hrd
  cbv at e9
  have q1 : A.cmp .eql 7 7 = true := by subst hA; rfl
  cbv at q1
  have q2 : A.cmp .eql 0 0 = true := by subst hA; rfl
  cbv at q2
  have q3 : A.cmp .eql 10 10 = true := by subst hA; rfl
  cbv at q3
  have q4 : A.cond true true false = true := by subst hA; rfl
  cbv at q4
  subst hn7 hc7
  try cbv
  repeat first
    | (simp only [f1, f2, m1, m2, m3, m4, m5, e9, q1, q2, q3, q4]; cbv)
    | refine And.intro (by
         subst hA hX hW hFsQ hFsL hFsK
         clear hH hB
         first
           | exact trivial
           | exact rfl
           | (simp [A0]; done)
           | (intro q; exact q)
           | (intro q; simpa [A0] using q)
           | (intro _; trivial)
           | (show Region.lexB _ _ = true; kernel_rfl)
           | (show turnsB _ = true; kernel_rfl)
           | exact okq9
           | assumption) ?_
    | ((with_reducible refine callB hX hB ?_); cbv; fail_if_success show False)
  subst hA hX hW hFsQ hFsL hFsK
  exact ret_v (congrArg boolD rfl) rfl
def runsX : Bool := true
structure FsRu where
  runs : Bool
def FsRu0 : FsRu where
  runs := runsX
def kn_runs (F : FsRu) : FuncId × (List DV → RV) := (3, fun args => match args with
  | [] => some ([], boolD F.runs)
  | _ => none)
theorem ok_runs (args : List DV) (cs : List Prop) (r : DV) (h : (kn_runs FsRu0).2 args = some (cs, r)) (hc : allP cs True) : FnV Try.prog 3 args r ∧ closedL 0 args = true := by
  unfold kn_runs at h
  simp only at h
  split at h
  · cases h; exact ⟨v_runs, rfl⟩
  · cases h
end Go.Proofs.Ytmjmbfcfnhnpmaa
