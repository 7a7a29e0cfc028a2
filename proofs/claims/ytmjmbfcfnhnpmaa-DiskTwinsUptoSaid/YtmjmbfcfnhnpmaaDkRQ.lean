/- Chapter 8's runs. No condition. -/
import Derived.Test.YtmjmbfcfnhnpmaaDkY
import Derived.Test.YtmjmbfcfnhnpmaaAm44
namespace Go.Proofs.Ytmjmbfcfnhnpmaa
open Go.RowKit
set_option linter.all false
set_option maxHeartbeats 4000000

theorem okq9 : (FsL0.okq 9) := ⟨by decide, by decide⟩
theorem okD_one {q l : Int} {f : FileM} {o a : Bool} (hq : 0 ≤ q ∧ q ≤ 1048576) (hl : 0 ≤ l ∧ l ≤ 9223372036854775807) (hf : okFile f) (ht : (f.data.length : Int) ≤ q) : okD 900 ⟨q, [f], o, a, l⟩ :=
  ⟨hq, by simp [totF]; exact ht, by simp, by simpa using hf, hl⟩
theorem okD_two {q l : Int} {f g : FileM} {o a : Bool} (hq : 0 ≤ q ∧ q ≤ 1048576) (hl : 0 ≤ l ∧ l ≤ 9223372036854775807) (hf : okFile f) (hg : okFile g) (ht : (f.data.length : Int) + g.data.length ≤ q) : okD 900 ⟨q, [f, g], o, a, l⟩ :=
  ⟨hq, by simp [totF]; omega, by simp, by simpa using ⟨hf, hg⟩, hl⟩
theorem okD_nil {q l : Int} {o a : Bool} (hq : 0 ≤ q ∧ q ≤ 1048576) (hl : 0 ≤ l ∧ l ≤ 9223372036854775807) : okD 900 ⟨q, [], o, a, l⟩ := ⟨hq, by simp [totF]; exact hq.1, by simp, by simp, hl⟩
abbrev nmA : ByteArray := { data := { toList := [97] } }
abbrev nmB : ByteArray := { data := { toList := [98] } }
theorem isB_bytes (bs : List UInt8) (h : bs.length ≤ 4000000) : isB (bytesP bs) := ⟨bs, rfl, h⟩
theorem okF_bytes (n : ByteArray) (bs : List UInt8) (k : Int) (h : bs.length ≤ 4000000) (h0 : 0 ≤ k) (h1 : k ≤ bs.length) : okFile ⟨n, bytesP bs, k⟩ := ⟨isB_bytes bs h, h0, by rw [bytesP_length]; exact h1⟩
theorem fzF {cs : List DV} {L : List FileM} (h : cs = cellsF L) {b v sz : Nat} {xs : List (List PD)} : fzL b v sz xs cs = cellsF L := by
  rw [fzL_eq, h, cellsF, rowsD, List.map_map]
  rfl
theorem isF_of {cs : List DV} {n : Nat} {L : List FileM} (h : cs = cellsF L) (hn : n = L.length) (hk : okL L) : isF cs n := by subst h hn; exact isF.mk hk
theorem okD_of {cs : List DV} {L : List FileM} {q l : Int} {o a : Bool} (h : cs = cellsF L) (hk : okD 900 ⟨q, L, o, a, l⟩) : okD 900 ⟨q, rowF cs, o, a, l⟩ := by subst h; rw [rowF_cells]; exact hk
set_option maxRecDepth 100000 in
theorem v_runs : FnV Try.prog 3 [] (boolD true) := by
  have okA : ∀ (k : Int) (bs : List UInt8) (o a : Bool) (l : Int), 0 ≤ k → k ≤ bs.length → bs.length ≤ 9 → 0 ≤ l → l ≤ 1 → okD 900 ⟨9, [⟨nmA, bytesP bs, k⟩], o, a, l⟩ := fun k bs o a l h0 h1 h2 h3 h4 => okD_one (by decide) (by omega) (okF_bytes _ _ _ (by omega) h0 h1) (by simp only [bytesP_length]; omega)
  have ok1 := okA 0 [1, 2, 3] false false 0 (by decide) (by decide) (by decide) (by decide) (by decide)
  have ok2 := okA 3 [1, 2, 3] false false 0 (by decide) (by decide) (by decide) (by decide) (by decide)
  have ok3 := okA 3 [1, 2, 3, 4, 5] false false 0 (by decide) (by decide) (by decide) (by decide) (by decide)
  have ok4 := okA 4 [1, 2, 3, 4] false false 0 (by decide) (by decide) (by decide) (by decide) (by decide)
  have ok5 := okA 4 [1, 2, 3, 4] false true 1 (by decide) (by decide) (by decide) (by decide) (by decide)
  have ok6 : okD 900 ⟨9, [⟨nmA, bytesP [1, 2, 3, 4], 4⟩, ⟨nmB, bytesP [1], 0⟩], false, true, 0⟩ := okD_two (by decide) (by decide) (okF_bytes _ _ _ (by decide) (by decide) (by decide)) (okF_bytes _ _ _ (by decide) (by decide) (by decide)) (by decide)
  obtain ⟨GFsQ, hFsQ⟩ : ∃ F, F = FsQ0 := ⟨_, rfl⟩
  obtain ⟨GFsL, hFsL⟩ : ∃ F, F = FsL0 := ⟨_, rfl⟩
  obtain ⟨GFsK, hFsK⟩ : ∃ F, F = FsK0 := ⟨_, rfl⟩
  have hH : SoundK Try.prog [kn_same GFsQ] := by subst hFsQ hFsL hFsK; exact orK_ok ok_same noK_ok
  have hB : SoundB Try.prog [kb_new GFsL, kb_read GFsL, kb_arm GFsL, kb_off GFsK, fzB (liftK (kn_same GFsQ))] := by subst hFsQ hFsL hFsK; exact orB_ok okb_new (orB_ok okb_read (orB_ok okb_arm (orB_ok okb_off (orB_ok (okb_fz (okb_lift ok_same)) noB_ok))))
  refine FnD_cbv (T := fun _ => tabY [] []) (H := fun _ => [kn_same GFsQ]) (tabY_ok _ _) hH follows_mixed Try.func3 rfl Try.ntmps3 (by simp) fun A X W hA hX hW => ?_
  cbv
  have f1 : A.cmp .neq 0 0 = false := by subst hA; rfl
  cbv at f1
  have f2 : A.cond false true false = false := by subst hA; rfl
  cbv at f2
  have m1 : GFsL.ge 1 = true := by subst hFsL; rfl
  cbv at m1
  have m2 : GFsL.mx 1 = 1 := by subst hFsL; rfl
  cbv at m2
  have m3 : A.nat 6 = 6 := by subst hA; rfl
  cbv at m3
  have m4 : A.rep 6 [.d (.sc (.int .u8 0))] = [.d (.sc (.int .u8 0)), .d (.sc (.int .u8 0)), .d (.sc (.int .u8 0)), .d (.sc (.int .u8 0)), .d (.sc (.int .u8 0)), .d (.sc (.int .u8 0))] := by subst hA; rfl
  cbv at m4
  have m5 : A.ext 6 6 = false := by subst hA; rfl
  cbv at m5
  repeat first
    | (simp only [f1, f2, m1, m2, m3, m4, m5]; cbv)
    | refine And.intro (by
         subst hA hX hW hFsQ hFsL hFsK
         clear hH hB
         first
           | exact trivial
           | exact rfl
           | (simp [A0]; done)
           | (intro q; exact q)
           | (intro q; simpa [A0] using q)
           | (intro _; trivial)
           | (show Region.lexB _ _ = true; kernel_rfl)
           | (show turnsB _ = true; kernel_rfl)
           | exact okq9
           | assumption) ?_
    | ((with_reducible refine callB hX hB ?_); cbv; fail_if_success show False)
  refine callL hX (FnD.freeze 1 1 (bytesP [1, 2, 3]) _ rfl rfl rfl (by intro x hx; simp [bytesP, intsX] at hx; (try rcases hx with rfl | rfl | rfl | rfl | rfl | rfl) <;> (try subst hx) <;> rfl) (app0 nmA (bytesP [1, 2, 3]) 0 (e := 0) (q' := 9) (L' := [⟨nmA, bytesP [1, 2, 3], 0⟩]) (o' := false) (a' := false) (l' := 0) rfl (okD_nil (by decide) (by decide)) (by decide) (isB_bytes _ (by decide)) (by kernel_rfl) (fun h => by cases h) fun v1 n1 c1 hc1 hn1 => ?_))
  cbv
  repeat first
    | (simp only [f1, f2, m1, m2, m3, m4, m5]; cbv)
    | refine And.intro (by
         subst hA hX hW hFsQ hFsL hFsK
         clear hH hB
         first
           | exact trivial
           | exact rfl
           | (simp [A0]; done)
           | (intro q; exact q)
           | (intro q; simpa [A0] using q)
           | (intro _; trivial)
           | (show Region.lexB _ _ = true; kernel_rfl)
           | (show turnsB _ = true; kernel_rfl)
           | exact okq9
           | assumption) ?_
    | ((with_reducible refine callB hX hB ?_); cbv; fail_if_success show False)
  refine callL hX (sync1 nmA 0 2 [⟨nmA, bytesP [1, 2, 3], 0⟩] (e := 0) (q' := 9) (L' := [⟨nmA, bytesP [1, 2, 3], 3⟩]) (o' := false) (a' := false) (l' := 0)  rfl rfl (by decide) hc1 hn1 ok1 (by kernel_rfl) fun v2 n2 c2 hc2 hn2 => ?_)
  cbv
  repeat first
    | (simp only [f1, f2, m1, m2, m3, m4, m5]; cbv)
    | refine And.intro (by
         subst hA hX hW hFsQ hFsL hFsK
         clear hH hB
         first
           | exact trivial
           | exact rfl
           | (simp [A0]; done)
           | (intro q; exact q)
           | (intro q; simpa [A0] using q)
           | (intro _; trivial)
           | (show Region.lexB _ _ = true; kernel_rfl)
           | (show turnsB _ = true; kernel_rfl)
           | exact okq9
           | assumption) ?_
    | ((with_reducible refine callB hX hB ?_); cbv; fail_if_success show False)
  refine callL hX (FnD.freeze 3 1 (bytesP [4, 5]) _ rfl rfl rfl (by intro x hx; simp [bytesP, intsX] at hx; (try rcases hx with rfl | rfl | rfl | rfl | rfl | rfl) <;> (try subst hx) <;> rfl) (app1 nmA (bytesP [4, 5]) 0 2 [⟨nmA, bytesP [1, 2, 3], 3⟩] (e := 0) (q' := 9) (L' := [⟨nmA, bytesP [1, 2, 3, 4, 5], 3⟩]) (o' := false) (a' := false) (l' := 0)  rfl rfl (by decide) (fzF hc2) hn2 ok2 (by decide) (isB_bytes _ (by decide)) (by kernel_rfl) fun v3 n3 c3 hc3 hn3 => ?_))
  cbv
  repeat first
    | (simp only [f1, f2, m1, m2, m3, m4, m5]; cbv)
    | refine And.intro (by
         subst hA hX hW hFsQ hFsL hFsK
         clear hH hB
         first
           | exact trivial
           | exact rfl
           | (simp [A0]; done)
           | (intro q; exact q)
           | (intro q; simpa [A0] using q)
           | (intro _; trivial)
           | (show Region.lexB _ _ = true; kernel_rfl)
           | (show turnsB _ = true; kernel_rfl)
           | exact okq9
           | assumption) ?_
    | ((with_reducible refine callB hX hB ?_); cbv; fail_if_success show False)
  refine callL hX (FnD.freeze 4 1 (intsX [1]) _ rfl rfl rfl (by intro x hx; simp [bytesP, intsX] at hx; (try rcases hx with rfl | rfl | rfl | rfl | rfl | rfl) <;> (try subst hx) <;> rfl) (crash1 [1] 0 2 [⟨nmA, bytesP [1, 2, 3, 4, 5], 3⟩] (e := 0) (q' := 9) (L' := [⟨nmA, bytesP [1, 2, 3, 4], 4⟩]) (o' := false) (a' := false) (l' := 0)  rfl rfl (by decide) (fzF hc3) hn3 ok3 (by decide) (by intro p hp; simp at hp; subst hp; exact ⟨by decide, by decide⟩) (by kernel_rfl) fun v4 n4 c4 hc4 hn4 => ?_))
  cbv
  have hF4 := isF_of hc4 hn4 (ok4.okL (by decide))
  have hO4 := okD_of hc4 ok4
  repeat first
    | (simp only [f1, f2, m1, m2, m3, m4, m5]; cbv)
    | refine And.intro (by
         subst hA hX hW hFsQ hFsL hFsK
         clear hH hB
         first
           | exact trivial
           | exact rfl
           | (simp [A0]; done)
           | (intro q; exact q)
           | (intro q; simpa [A0] using q)
           | (intro _; trivial)
           | (show Region.lexB _ _ = true; kernel_rfl)
           | (show turnsB _ = true; kernel_rfl)
           | exact okq9
           | assumption) ?_
    | ((with_reducible refine callB hX hB ?_); cbv; fail_if_success show False)
  refine callL hX (FnD.freeze 5 1 (bytesP [0, 0, 0, 0, 0, 0]) _ rfl rfl rfl (by intro x hx; simp [bytesP, intsX] at hx; (try rcases hx with rfl | rfl | rfl | rfl | rfl | rfl) <;> (try subst hx) <;> rfl) (app1 nmB (bytesP [0, 0, 0, 0, 0, 0]) 0 2 [⟨nmA, bytesP [1, 2, 3, 4], 4⟩] (e := 7) (q' := 9) (L' := [⟨nmA, bytesP [1, 2, 3, 4], 4⟩]) (o' := false) (a' := false) (l' := 0)  rfl rfl (by decide) (fzF hc4) hn4 ok4 (by decide) (isB_bytes _ (by decide)) (by kernel_rfl) fun v5 n5 c5 hc5 hn5 => ?_))
  cbv
  have hF5 := isF_of hc5 hn5 (ok4.okL (by decide))
  repeat first
    | (simp only [f1, f2, m1, m2, m3, m4, m5]; cbv)
    | refine And.intro (by
         subst hA hX hW hFsQ hFsL hFsK
         clear hH hB
         first
           | exact trivial
           | exact rfl
           | (simp [A0]; done)
           | (intro q; exact q)
           | (intro q; simpa [A0] using q)
           | (intro _; trivial)
           | (show Region.lexB _ _ = true; kernel_rfl)
           | (show turnsB _ = true; kernel_rfl)
           | exact okq9
           | assumption) ?_
    | ((with_reducible refine callB hX hB ?_); cbv; fail_if_success show False)
  refine callL hX (FnD.freeze 6 1 (bytesP [1]) _ rfl rfl rfl (by intro x hx; simp [bytesP, intsX] at hx; (try rcases hx with rfl | rfl | rfl | rfl | rfl | rfl) <;> (try subst hx) <;> rfl) (app1 nmB (bytesP [1]) 0 2 [⟨nmA, bytesP [1, 2, 3, 4], 4⟩] (e := 0) (q' := 9) (L' := [⟨nmA, bytesP [1, 2, 3, 4], 4⟩, ⟨nmB, bytesP [1], 0⟩]) (o' := false) (a' := true) (l' := 0)  rfl rfl (by decide) (fzF hc5) hn5 ok5 (by decide) (isB_bytes _ (by decide)) (by kernel_rfl) fun v6 n6 c6 hc6 hn6 => ?_))
  cbv
  repeat first
    | (simp only [f1, f2, m1, m2, m3, m4, m5]; cbv)
    | refine And.intro (by
         subst hA hX hW hFsQ hFsL hFsK
         clear hH hB
         first
           | exact trivial
           | exact rfl
           | (simp [A0]; done)
           | (intro q; exact q)
           | (intro q; simpa [A0] using q)
           | (intro _; trivial)
           | (show Region.lexB _ _ = true; kernel_rfl)
           | (show turnsB _ = true; kernel_rfl)
           | exact okq9
           | assumption) ?_
    | ((with_reducible refine callB hX hB ?_); cbv; fail_if_success show False)
  refine callL hX (sync1 nmB 0 2 [⟨nmA, bytesP [1, 2, 3, 4], 4⟩, ⟨nmB, bytesP [1], 0⟩] (e := 10) (q' := 9) (L' := [⟨nmA, bytesP [1, 2, 3, 4], 4⟩, ⟨nmB, bytesP [1], 0⟩]) (o' := true) (a' := true) (l' := 0)  rfl rfl (by decide) hc6 hn6 ok6 (by kernel_rfl) fun v7 n7 c7 hc7 hn7 => ?_)
  cbv
  have hF7 := isF_of hc7 hn7 (ok6.okL (by decide))
  have hrd : readsX c4 nmA = bytesP [1, 2, 3, 4] := by rw [hc4]; unfold readsX; rw [rowF_cells]; kernel_rfl
  have hB1 : isB (readsX c4 nmA) := by rw [hrd]; exact isB_bytes _ (by decide)
  have hB2 : isB (bytesP [1, 2, 3, 4]) := isB_bytes _ (by decide)
  have e9 : GFsQ.same (GFsL.rd c4 { data := { toList := [97] } }) [[.sc (.int .u8 1)], [.sc (.int .u8 2)], [.sc (.int .u8 3)], [.sc (.int .u8 4)]] = true := by
    subst hFsQ hFsL
    exact (sameB_eq _ _).2 hrd
  cbv at e9
  have q1 : A.cmp .eql 7 7 = true := by subst hA; rfl
  cbv at q1
  have q2 : A.cmp .eql 0 0 = true := by subst hA; rfl
  cbv at q2
  have q3 : A.cmp .eql 10 10 = true := by subst hA; rfl
  cbv at q3
  have q4 : A.cond true true false = true := by subst hA; rfl
  cbv at q4
  subst hn7 hc7
  try cbv
  repeat first
    | (simp only [f1, f2, m1, m2, m3, m4, m5, e9, q1, q2, q3, q4]; cbv)
    | refine And.intro (by
         subst hA hX hW hFsQ hFsL hFsK
         clear hH hB
         first
           | exact trivial
           | exact rfl
           | (simp [A0]; done)
           | (intro q; exact q)
           | (intro q; simpa [A0] using q)
           | (intro _; trivial)
           | (show Region.lexB _ _ = true; kernel_rfl)
           | (show turnsB _ = true; kernel_rfl)
           | exact okq9
           | assumption) ?_
    | ((with_reducible refine callB hX hB ?_); cbv; fail_if_success show False)
  subst hA hX hW hFsQ hFsL hFsK
  exact ret_v (congrArg boolD rfl) rfl
def runsX : Bool := true
structure FsRu where
  runs : Bool
def FsRu0 : FsRu where
  runs := runsX
def kn_runs (F : FsRu) : FuncId × (List DV → RV) := (3, fun args => match args with
  | [] => some ([], boolD F.runs)
  | _ => none)
theorem ok_runs (args : List DV) (cs : List Prop) (r : DV) (h : (kn_runs FsRu0).2 args = some (cs, r)) (hc : allP cs True) : FnV Try.prog 3 args r ∧ closedL 0 args = true := by
  unfold kn_runs at h
  simp only at h
  split at h
  · cases h; exact ⟨v_runs, rfl⟩
  · cases h
end Go.Proofs.Ytmjmbfcfnhnpmaa
namespace Go.Proofs.Ytmjmbfcfnhnpmaa
open Go.RowKit
set_option linter.all false
theorem totF_mem {L : List FileM} {f : FileM} (h : f ∈ L) : (f.data.length : Int) ≤ totF L := by
  induction L with
  | nil => cases h
  | cons g L ih =>
    have h0 := totF_nonneg L
    rcases List.mem_cons.1 h with rfl | h
    · simp only [totF]; omega
    · have := ih h
      simp only [totF]; omega
theorem totF_set {L : List FileM} {i : Nat} {f g : FileM} (h : L[i]? = some f) : totF (L.set i g) = totF L - f.data.length + g.data.length := by
  induction L generalizing i with
  | nil => simp at h
  | cons a L ih =>
    cases i with
    | zero => simp at h; subst h; simp only [List.set_cons_zero, totF]; omega
    | succ i =>
      simp at h
      have := ih h
      simp only [List.set_cons_succ, totF, this]; omega
theorem totF_ins (L : List FileM) (k : Nat) (g : FileM) : totF (L.take k ++ [g] ++ L.drop k) = totF L + g.data.length := by
  have e := totF_append (L.take k) (L.drop k)
  rw [List.take_append_drop] at e
  rw [totF_append, totF_append]
  simp only [totF]
  omega
theorem find_some {L : List FileM} {name : ByteArray} (h : (findF name L 0).2 = true) : ∃ f, L[(findF name L 0).1.toNat]? = some f ∧ f.name = name := by
  have := find_get h
  simpa using this
theorem addF_tot (L : List FileM) (name : ByteArray) (p : List (List PD)) : totF (addF L name p) = totF L + p.length := by
  unfold addF
  split
  · rename_i h
    obtain ⟨f, h1, _⟩ := find_some h
    rw [h1]
    simp only
    rw [totF_set h1, List.length_append]
    omega
  · rw [totF_ins]
theorem addF_len (L : List FileM) (name : ByteArray) (p : List (List PD)) : (addF L name p).length ≤ L.length + 1 := by
  unfold addF
  split
  · split
    · rw [List.length_set]; omega
    · omega
  · simp; omega
theorem isB.app {a b : List (List PD)} (ha : isB a) (hb : isB b) (h : a.length + b.length ≤ 4000000) : isB (a ++ b) := by
  obtain ⟨x, rfl, _⟩ := ha
  obtain ⟨y, rfl, _⟩ := hb
  rw [bytesP_length, bytesP_length] at h
  exact ⟨x ++ y, by rw [bytesP_append], by rw [List.length_append]; exact h⟩
theorem addF_ok {L : List FileM} {name : ByteArray} {p : List (List PD)} (h : ∀ f ∈ L, okFile f) (hp : isB p) (ht : totF L + p.length ≤ 1048576) : ∀ f ∈ addF L name p, okFile f := by
  have h0 := totF_nonneg L
  intro f hf
  unfold addF at hf
  split at hf
  · rename_i hs
    obtain ⟨g, h1, _⟩ := find_some hs
    rw [h1] at hf
    simp only at hf
    rcases List.mem_or_eq_of_mem_set hf with hf | rfl
    · exact h f hf
    · have hg := List.mem_of_getElem? h1
      have hm := totF_mem hg
      obtain ⟨k1, k2, k3⟩ := h g hg
      refine ⟨k1.app hp (by omega), k2, ?_⟩
      simp only [List.length_append]
      omega
  · rcases List.mem_append.1 hf with hf | hf
    · rcases List.mem_append.1 hf with hf | hf
      · exact h f (List.mem_of_mem_take hf)
      · simp at hf
        subst hf
        refine ⟨hp, ?_, ?_⟩
        · exact Int.le_refl _
        · show (0 : Int) ≤ (p.length : Int)
          omega
    · exact h f (List.mem_of_mem_drop hf)
theorem powL_ok {a : Bool} {l : Int} (h : 0 ≤ l ∧ l ≤ 9223372036854775807) : 0 ≤ powL a l ∧ powL a l ≤ 9223372036854775807 := by
  unfold powL
  cases a <;> by_cases hl : l = 0 <;> simp [hl] <;> omega
theorem okD.pow {k : Nat} {D : Dk} (h : okD k D) : okD k ⟨D.q, D.L, powO D.o D.a D.l, D.a, powL D.a D.l⟩ := ⟨h.q, h.tot, h.len, h.fs, powL_ok h.l⟩
theorem okD.app {k : Nat} {D : Dk} (h : okD k D) {name : ByteArray} {p : List (List PD)} (hp : isB p) : okD (k + 1) (D.app name p).2 := by
  unfold Dk.app
  split
  · exact h.mono (Nat.le_succ k)
  · split
    · exact h.mono (Nat.le_succ k)
    · split
      · exact h.mono (Nat.le_succ k)
      · rename_i hr
        split
        · have ht := h.tot
          have hq := h.q
          refine ⟨h.q, ?_, ?_, addF_ok h.fs hp (by omega), powL_ok h.l⟩
          · show totF (addF D.L name p) ≤ D.q
            rw [addF_tot]; omega
          · have := addF_len D.L name p
            have := h.len
            show (addF D.L name p).length ≤ k + 1
            omega
        · exact h.pow.mono (Nat.le_succ k)
theorem setKept_eq (L : List FileM) (i : Nat) : (∃ f, L[i]? = some f ∧ setKept L i = L.set i ⟨f.name, f.data, f.data.length⟩) ∨ setKept L i = L := by
  unfold setKept
  cases h : L[i]? with
  | none => exact .inr rfl
  | some f => exact .inl ⟨f, rfl, rfl⟩
theorem okD.sync {k : Nat} {D : Dk} (h : okD k D) (name : ByteArray) : okD k (D.sync name).2 := by
  unfold Dk.sync
  split
  · split
    · rcases setKept_eq D.L (D.at name) with ⟨f, h1, h2⟩ | h2
      · rw [h2]
        refine ⟨h.q, ?_, ?_, fun g hg => ?_, powL_ok h.l⟩
        · show totF (D.L.set _ _) ≤ D.q
          rw [totF_set h1]
          have := h.tot
          simp only
          omega
        · show (D.L.set _ _).length ≤ k
          rw [List.length_set]; exact h.len
        · rcases List.mem_or_eq_of_mem_set hg with hg | rfl
          · exact h.fs g hg
          · obtain ⟨k1, k2, k3⟩ := h.fs f (List.mem_of_getElem? h1)
            exact ⟨k1, by simp only; omega, Int.le_refl _⟩
      · rw [h2]
        exact h.pow
    · exact h.pow
  · exact h
theorem okD.rem {k : Nat} {D : Dk} (h : okD k D) (name : ByteArray) : okD k (D.rem name).2 := by
  unfold Dk.rem
  split
  · rename_i hk
    split
    · have hko := know_ok hk
      obtain ⟨f, h1, _⟩ := Dk.at_get hko.2.1
      have hl := (List.getElem?_eq_some_iff.1 h1).1
      refine ⟨h.q, ?_, ?_, fun g hg => h.fs g (mem_outFl hg), powL_ok h.l⟩
      · show totF (outFl D.L (D.at name)) ≤ D.q
        rw [outF_tot _ _ f h1]
        have := h.tot
        omega
      · show (outFl D.L (D.at name)).length ≤ k
        rw [outF_len _ _ hl]
        have := h.len
        omega
    · exact h.pow
  · exact h
theorem placeF_tot (L : List FileM) (g : FileM) : totF (placeF L g) ≤ totF L + g.data.length := by
  unfold placeF
  split
  · rename_i h
    obtain ⟨f, h1, _⟩ := find_some h
    rw [totF_set h1]
    omega
  · rw [totF_ins]; omega
theorem placeF_len (L : List FileM) (g : FileM) : (placeF L g).length ≤ L.length + 1 := by
  unfold placeF
  split
  · rw [List.length_set]; omega
  · simp; omega
theorem placeF_mem {L : List FileM} {g f : FileM} (h : f ∈ placeF L g) : f ∈ L ∨ f = g := by
  unfold placeF at h
  split at h
  · rcases List.mem_or_eq_of_mem_set h with h | h
    · exact .inl h
    · exact .inr h
  · rcases List.mem_append.1 h with h | h
    · rcases List.mem_append.1 h with h | h
      · exact .inl (List.mem_of_mem_take h)
      · exact .inr (by simpa using h)
    · exact .inl (List.mem_of_mem_drop h)
theorem okD.ren {k : Nat} {D : Dk} (h : okD k D) (name to : ByteArray) : okD k (D.ren name to).2 := by
  unfold Dk.ren
  split
  · exact h
  · split
    · rename_i hk
      split
      · have hko := know_ok hk
        obtain ⟨f, h1, _⟩ := Dk.at_get hko.2.1
        have hl := (List.getElem?_eq_some_iff.1 h1).1
        have e : renF D.L (D.at name) to = placeF (outFl D.L (D.at name)) ⟨to, f.data, f.kept⟩ := by unfold renF; rw [h1]
        refine ⟨h.q, ?_, ?_, fun g hg => ?_, powL_ok h.l⟩
        · show totF (renF D.L (D.at name) to) ≤ D.q
          rw [e]
          have h2 := placeF_tot (outFl D.L (D.at name)) ⟨to, f.data, f.kept⟩
          rw [outF_tot _ _ f h1] at h2
          have := h.tot
          simp only at h2
          omega
        · show (renF D.L (D.at name) to).length ≤ k
          rw [e]
          have h2 := placeF_len (outFl D.L (D.at name)) ⟨to, f.data, f.kept⟩
          rw [outF_len _ _ hl] at h2
          have := h.len
          omega
        · have hg : g ∈ renF D.L (D.at name) to := hg
          rw [e] at hg
          rcases placeF_mem hg with hg | rfl
          · exact h.fs g (mem_outFl hg)
          · exact h.fs f (List.mem_of_getElem? h1)
      · exact h.pow
    · exact h
theorem crF_tot (ps : List Int) (L : List FileM) (h : ∀ f ∈ L, okFile f) : totF (crF ps L) ≤ totF L := by
  suffices hs : ∀ (L : List FileM) (ps : List Int), totF (L.mapIdx fun i f => cr1 f (ps.getD i 0)) ≤ totF L from hs L ps
  intro L
  induction L with
  | nil => intro ps; simp [totF]
  | cons f L ih =>
    intro ps
    have e : (fun i (f : FileM) => cr1 f (ps.getD (i + 1) 0)) = fun i f => cr1 f (ps.tail.getD i 0) := by
      funext i f
      congr 1
      cases ps <;> simp
    rw [List.mapIdx_cons]
    simp only [totF]
    have h2 := ih ps.tail
    rw [← e] at h2
    have h3 : (cr1 f (ps.getD 0 0)).data.length ≤ f.data.length := by unfold cr1; simp only [List.length_take]; omega
    omega
theorem okD.crash {k : Nat} {D : Dk} (h : okD k D) (ps : List Int) : okD k (D.crash ps) := by
  refine ⟨h.q, ?_, ?_, fun g hg => ?_, ⟨Int.le_refl _, (by decide : (0 : Int) ≤ 9223372036854775807)⟩⟩
  · exact Int.le_trans (crF_tot ps D.L h.fs) h.tot
  · show (crF ps D.L).length ≤ k
    rw [crF_len]; exact h.len
  · have hg : g ∈ crF ps D.L := hg
    unfold crF at hg
    rw [List.mem_mapIdx] at hg
    obtain ⟨i, hi, rfl⟩ := hg
    have hf := h.fs _ (List.getElem_mem hi)
    have hs := stay_le D.L[i] (ps.getD i 0) hf
    refine ⟨hf.1.take _, ?_, ?_⟩
    · show (0 : Int) ≤ (stayN _ _ : Int)
      omega
    · show (stayN _ _ : Int) ≤ ((D.L[i].data.take (stayN _ _)).length : Int)
      rw [List.length_take]
      omega

end Go.Proofs.Ytmjmbfcfnhnpmaa
namespace Go.Proofs.Ytmjmbfcfnhnpmaa
open Go.RowKit
set_option linter.all false
set_option maxHeartbeats 4000000

theorem app_yes {q : Int} {L : List FileM} {nm : ByteArray} {p : List (List PD)} (hm : mayF nm = true) (h : totF L + p.length ≤ q) : (Dk.mk q L false false 0).app nm p = (0, ⟨q, addF L nm p, false, false, 0⟩) := by
  unfold Dk.app
  simp only
  rw [if_neg (by decide), if_neg (by rw [hm]; decide), if_neg (by omega)]
  rfl
theorem app_no {q : Int} {L : List FileM} {nm : ByteArray} {p : List (List PD)} (hm : mayF nm = true) (h : ¬ totF L + p.length ≤ q) : (Dk.mk q L false false 0).app nm p = (7, ⟨q, L, false, false, 0⟩) := by
  unfold Dk.app
  simp only
  rw [if_neg (by decide), if_neg (by rw [hm]; decide), if_pos (by omega)]
theorem addF_ne (L : List FileM) (nm : ByteArray) (p : List (List PD)) : addF L nm p ≠ [] ∨ L ≠ [] := by
  cases L with
  | nil => left; simp [addF, findF]
  | cons _ _ => right; simp
theorem rem_yes {q : Int} {L : List FileM} {nm : ByteArray} (h : (findF nm L 0).2 = true) : ∃ (L' : List FileM) (d : List (List PD)), (Dk.mk q L false false 0).rem nm = (0, ⟨q, L', false, false, 0⟩) ∧ totF L' = totF L - d.length ∧ (Dk.mk 0 L false false 0).reads nm = d := by
  obtain ⟨f, h1, h2⟩ := find_some h
  refine ⟨outFl L (findF nm L 0).1.toNat, f.data, ?_, outF_tot _ _ f h1, ?_⟩
  · have hk : (Dk.mk q L false false 0).know nm = 0 := by
      unfold Dk.know knE findX
      simp only [rowF_cells, h]
      rfl
    unfold Dk.rem
    rw [if_pos hk]
    rfl
  · unfold Dk.reads
    simp only
    rw [if_pos h]
    unfold readF
    rw [h1]
theorem rem_no {q : Int} {L : List FileM} {nm : ByteArray} (h : (findF nm L 0).2 = false) : (Dk.mk q L false false 0).rem nm = (8, ⟨q, L, false, false, 0⟩) ∧ (Dk.mk 0 L false false 0).reads nm = [] := by
  have hk : (Dk.mk q L false false 0).know nm = 8 := by
    unfold Dk.know knE findX
    simp only [rowF_cells, h]
    rfl
  refine ⟨?_, ?_⟩
  · unfold Dk.rem
    rw [hk, if_neg (by decide)]
  · unfold Dk.reads
    simp only
    rw [if_neg (by rw [h]; decide)]
theorem cutL2 {α : Sort _} {X : Cps} {c : Code} {Q : Exit → SL → Store → Prop} {G : Prop} (I : α → Prop) (S : α → SL) (ST : α → Store) (pf : ∀ y, I y → X.st c Q (S y) (ST y)) (g : (∀ y, I y → X.st c Q (S y) (ST y)) → G) : G := g pf
theorem within3_range (c : Int) (n : Nat) : 0 ≤ within3 c 0 n ∧ within3 c 0 n ≤ n := by
  unfold within3
  have h1 := Int.emod_nonneg c (show ((n : Int) - 0 + 1) ≠ 0 by omega)
  have h2 := Int.emod_lt_of_pos c (show (0 : Int) < (n : Int) - 0 + 1 by omega)
  omega
theorem okD_nil0 {n : Int} (h : 0 ≤ n ∧ n ≤ 200) : okD 0 ⟨n, [], false, false, 0⟩ := ⟨⟨h.1, by simp only; omega⟩, by simp only [totF]; exact h.1, Nat.le_refl _, by simp, ⟨Int.le_refl 0, (by decide : (0 : Int) ≤ 9223372036854775807)⟩⟩
/-- A region in its own order that turns nothing: slices are settled as they are built. -/
theorem pure_ops {P : Program} {N : Nat} {ops : Array Oper} {st : Store} {Q : Slots → Prop} {K : Slots → Store → Prop} (hk : ∀ s, Q s → K s st) : ∀ (l : List Oper) (s : Slots), pureL P N ops st Q l s → opsD P N ops l s st K
  | [], s, h => hk s h
  | o :: rest, s, h => by
      obtain ⟨d, hy, hd, hK⟩ := h
      have ih := pure_ops hk rest _ hK
      unfold opsD stepD
      rcases hy with ⟨hw, ho⟩ | ⟨hw, rfl⟩
      · rw [hw]
        exact ⟨hd, ho _ ih⟩
      · rw [hw]
        exact ⟨hd, ih⟩
theorem settleL {P : Program} {T : Unit → Tab} (hT : TabOk P (T ())) {H : Unit → Kn} (hH : SoundK P (H ())) {R : Unit → KnR} (hR : SoundR P (R ())) {N : Nat} {Q : Exit → SL → Store → Prop} {s : SL} {st : Store} {id : Nat} {ops : Array Oper} {A : Ar} {X : Cps} (hA : A = A0) (hX : X = X0 P N)
    (h : spZ T A H R N ops.toList s st fun sp => Q .normal sp st) : X.st (.region id ops false) Q s st := by
  subst hA; subst hX
  obtain ⟨l⟩ := ops
  show wpD P N (.region id l.toArray false) (lessQ Q) (getS s) st
  refine wpD_region (pure_ops ?_ l (getS s) (spZ_pure (ops := l.toArray) hT hH hR l s h))
  rintro s' ⟨l', hl, hq⟩
  exact ⟨l', hl, hq⟩
theorem nm_ok (i : Int) (h : 0 ≤ i) : ∃ nm : ByteArray, A0.bstr [[.sc (.int .u8 (A0.wrap .u8 (A0.bin .add .i64 97 (A0.bin .rem .i64 i 4))))]] = nm ∧ mayF nm = true ∧ nm.size ≤ 1048576 ∧ A0.isby [[.sc (.int .u8 (A0.wrap .u8 (A0.bin .add .i64 97 (A0.bin .rem .i64 i 4))))]] := by
  have h0 : i.tmod 4 = i % 4 := Int.tmod_eq_emod_of_nonneg h
  have h1 : A0.bin .rem .i64 i 4 = 0 ∨ A0.bin .rem .i64 i 4 = 1 ∨ A0.bin .rem .i64 i 4 = 2 ∨ A0.bin .rem .i64 i 4 = 3 := by
    have e : ∀ k : Int, i % 4 = k → A0.bin .rem .i64 i 4 = k := by
      rintro k rfl
      exact h0
    have h2 : i % 4 = 0 ∨ i % 4 = 1 ∨ i % 4 = 2 ∨ i % 4 = 3 := by omega
    rcases h2 with h2 | h2 | h2 | h2
    · exact .inl (e _ h2)
    · exact .inr (.inl (e _ h2))
    · exact .inr (.inr (.inl (e _ h2)))
    · exact .inr (.inr (.inr (e _ h2)))
  rcases h1 with h1 | h1 | h1 | h1 <;> rw [h1]
  · exact ⟨_, rfl, by decide +kernel, by decide +kernel, [97], rfl⟩
  · exact ⟨_, rfl, by decide +kernel, by decide +kernel, [98], rfl⟩
  · exact ⟨_, rfl, by decide +kernel, by decide +kernel, [99], rfl⟩
  · exact ⟨_, rfl, by decide +kernel, by decide +kernel, [100], rfl⟩
/-- A statement whose end is told: what comes behind it begins there. -/
theorem stepTo {P : Program} {T : Unit → Tab} (hT : TabOk P (T ())) {H : Unit → Kn} (hH : SoundK P (H ())) (hm : P.follows .mixedOrders = true) {N : Nat} {c : Code} {Q : Exit → SL → Store → Prop} {s : SL} {st : Store} {A : Ar} {X : Cps} (hA : A = A0) (hX : X = X0 P N) (S2 : SL) (ST2 : Store)
    (h1 : ∀ R : SL → Store → Prop, (R = fun s' st' => Told st.length s' st' S2 ST2) → wpC T A X H N c (fun e s' st' => match e with | .normal => R s' st' | _ => False) s st) (h2 : Q .normal S2 ST2) : X.st c Q s st := by
  subst hA; subst hX
  show wpD P N c (lessQ Q) (getS s) st
  refine wpD_after (wpD_mono (wpC_ok hT hH hm c _ _ _ (h1 _ rfl)) ?_)
  rintro e s' st' ⟨l, hl, hq⟩
  cases e <;> first
    | exact ⟨getS S2, ST2, Tells.trans (Tells.any _ _ _ _ hl) hq, S2, fun _ => .inl rfl, h2⟩
    | exact hq.elim
def genO (T : Unit → Tab) (A : Ar) (X : Cps) (H : Unit → Kn) (N : Nat) (ops : Array Oper) (o : Oper) (G : SL → Store → Prop) (s : SL) (st : Store) : Prop :=
  match dstB N o.dst, o.guard with
    | true, none => opC T A X H o.op s st fun d st' => G (putL o.dst d s) st'
    | true, some (j, w) => (match slotOf ops j with
      | some k => (match getS s k with
        | .d (.sc (.bool t)) => brC t
          (fun _ => match w with
            | true => opC T A X H o.op (setS s k (.d (.sc (.bool true)))) st fun d st' => G (putL o.dst d (setS s k (.d (.sc (.bool true))))) st'
            | false => G (putL o.dst (.d (.sc (.tuple #[]))) (setS s k (.d (.sc (.bool true))))) st)
          (fun _ => match w with
            | false => opC T A X H o.op (setS s k (.d (.sc (.bool false)))) st fun d st' => G (putL o.dst d (setS s k (.d (.sc (.bool false))))) st'
            | true => G (putL o.dst (.d (.sc (.tuple #[]))) (setS s k (.d (.sc (.bool false))))) st)
        | .d (.sc (.tuple _)) => G (putL o.dst (.d (.sc (.tuple #[]))) s) st
        | _ => False)
      | none => False)
    | false, _ => False
theorem genS {T : Unit → Tab} {A : Ar} {X : Cps} {H : Unit → Kn} {N : Nat} {ops : Array Oper} {o : Oper} {l : List Oper} {s : SL} {st : Store} {Q : SL → Store → Prop} (h : ∀ G, G = (fun s' st' => genG T A X H N ops l s' st' Q) → genO T A X H N ops o G s st) : genG T A X H N ops (o :: l) s st Q := by
  have := h _ rfl
  unfold genG
  exact this
def slotC : Operand → Nat
  | .tmp t => t
  | _ => 0
theorem pickL {P : Program} {N : Nat} {X : Cps} (hX : X = X0 P N) {c x y : Operand} {s : SL} {st : Store} {K : DV → Store → Prop} {t : Bool} (hc : getS s (slotC c) = .d (.sc (.bool t))) (hcc : c = .tmp (slotC c)) (hk : K (bif t then evL s x else evL s y) st) : X.op (.pick c x y) s st K := by
  refine opL hX ?_
  have hev : ev (getS s) c = .d (.sc (.bool t)) := by rw [hcc]; exact hc
  show pickD (ev (getS s) c) (ev (getS s) x) (ev (getS s) y) fun d => K d st
  rw [hev]
  unfold pickD
  simp only
  split
  · rename_i p q h1 h2
    have e : (bif t then evL s x else evL s y) = .d (.sc (.bool (bif t then p else q))) := by
      cases t
      · exact h2
      · exact h1
    rw [← e]; exact hk
  · cases t
    · exact ⟨fun h => (by cases h), fun _ => hk⟩
    · exact ⟨fun _ => hk, fun h => (by cases h)⟩
def partsX (ps : List (List (List PD))) : List (List PD) := ps.map fun p => [.slc 1 p]

set_option maxRecDepth 100000 in
theorem v_roomL (q : Int) (ps : List (List (List PD))) (hq : r64 q) (hps : ∀ p ∈ ps, isB p) (hl : ps.length ≤ 1048576) : FnV Try.prog 5 [.d (.sc (.int .i64 q)), .d (.slc 1 (partsX ps))] (boolD true) := by
  obtain ⟨xs, hxs⟩ : ∃ xs, xs = partsX ps := ⟨_, rfl⟩
  rw [← hxs]
  have hxl : xs.length = ps.length := by rw [hxs]; simp [partsX]
  obtain ⟨GFsQ, hFsQ⟩ : ∃ F, F = FsQ0 := ⟨_, rfl⟩
  obtain ⟨GFsRu, hFsRu⟩ : ∃ F, F = FsRu0 := ⟨_, rfl⟩
  obtain ⟨GFsL, hFsL⟩ : ∃ F, F = FsL0 := ⟨_, rfl⟩
  obtain ⟨GFsK, hFsK⟩ : ∃ F, F = FsK0 := ⟨_, rfl⟩
  obtain ⟨GFsM, hFsM⟩ : ∃ F, F = FsM0 := ⟨_, rfl⟩
  have hH : SoundK Try.prog [kn_within3 GFsQ, kn_runs GFsRu] := by subst hFsQ hFsRu hFsL hFsK hFsM; exact orK_ok ok_within3 (orK_ok ok_runs noK_ok)
  have hB : SoundB Try.prog [kb_new GFsL, kb_total GFsK, kb_room GFsM, kb_read GFsL] := by subst hFsQ hFsRu hFsL hFsK hFsM; exact orB_ok okb_new (orB_ok okb_total (orB_ok okb_room (orB_ok okb_read noB_ok)))
  refine FnD_cbv (T := fun _ => tabY [40] [11, 12, 13, 14, 19]) (H := fun _ => [kn_within3 GFsQ, kn_runs GFsRu]) (tabY_ok _ _) hH follows_mixed Try.func5 rfl Try.ntmps5 (by simp) fun A X W hA hX hW => ?_
  cbv
  have f1 : A.cmp .neq 0 0 = false := by subst hA; rfl
  cbv at f1
  have f2 : A.cond false true false = false := by subst hA; rfl
  cbv at f2
  have f3 : A.not (A.beq true true) = false := by subst hA; rfl
  cbv at f3
  have f4 : A.not (A.beq false false) = false := by subst hA; rfl
  cbv at f4
  have f5 : A.cmp .neq 7 0 = true := by subst hA; rfl
  cbv at f5
  have f6 : A.cmp .neq 7 7 = false := by subst hA; rfl
  cbv at f6
  have f7 : A.cond true false false = false := by subst hA; rfl
  cbv at f7
  have f8 : A.cond true true false = true := by subst hA; rfl
  cbv at f8
  have f9 : A.cmp .eql 0 0 = true := by subst hA; rfl
  cbv at f9
  have f10 : A.cmp .eql 8 0 = false := by subst hA; rfl
  cbv at f10
  obtain ⟨n, hn⟩ : ∃ n, GFsQ.within3 q 0 200 = n := ⟨_, rfl⟩
  have hn1 : 0 ≤ n ∧ n ≤ 200 := by subst hn hFsQ; exact within3_range q 200
  cbv at hn
  simp only [hn]
  cbv
  repeat first
    | (simp only [f1, f2, f3, f4, f5, f6, f7, f8, f9, f10]; cbv)
    | refine And.intro (by
         subst hA hX hW hFsQ hFsL hFsK hFsM hFsRu
         clear hH hB
         first
           | exact trivial
           | exact rfl
           | (simp [A0]; done)
           | (intro q; exact q)
           | (intro q; simpa [A0] using q)
           | (intro _; trivial)
           | (show Region.lexB _ _ = true; kernel_rfl)
           | (show turnsB _ = true; kernel_rfl)
           | exact hq
           | exact ⟨by omega, by omega⟩
           | exact ⟨by decide, by decide⟩) ?_
    | ((with_reducible refine callB hX hB ?_); cbv; fail_if_success show False)
  refine loopL (T := fun _ => tabY [40] [11, 12, 13, 14, 19]) (H := fun _ => [kn_within3 GFsQ, kn_runs GFsRu]) (tabY_ok _ _) hH follows_mixed hA hX (fun x : Int × Fr × List FileM => 0 ≤ x.1 ∧ x.1 ≤ xs.length ∧ x.1 ≤ 30 ∧ x.2.1.is x.2.2 ∧ okD x.1.toNat ⟨n, x.2.2, false, false, 0⟩)
    (fun x => [(1, .d (.slc 1 xs)), (5, .d (.sc (.int .i64 n))), (6, .ref 0 0 0), (8, .d (.sc (.int .i64 x.1)))]) (fun x => dkS n x.2.1 false false 0)
    (fun x => xs.length - x.1.toNat) (0, none, []) ?_ ?_ ?_
  · exact ⟨by simp only; omega, by simp only; omega, by simp only; omega, rfl, okD_nil0 hn1⟩
  · subst hA hFsL; exact told_less (by simp [toldP, getS, A0])
  rintro R ⟨i, fr, L⟩ hR ⟨i0, i1, i2, hfr, hD⟩
  replace i0 : 0 ≤ i := i0
  replace i1 : i ≤ xs.length := i1
  replace i2 : i ≤ 30 := i2
  replace hfr : fr.is L := hfr
  replace hD : okD i.toNat ⟨n, L, false, false, 0⟩ := hD
  have hD9 : okD 900 ⟨n, L, false, false, 0⟩ := hD.mono (by omega)
  have hrow : ∀ i : Int, 0 ≤ i → i < xs.length → ∃ p, xs.getD i.toNat [] = [.slc 1 p] ∧ isB p := by
    intro i h0 h1
    have h2 : i.toNat < ps.length := by omega
    refine ⟨ps[i.toNat], ?_, hps _ (List.getElem_mem h2)⟩
    rw [hxs, List.getD_eq_getElem?_getD]
    simp [partsX, h2]
  rcases fr with _ | ⟨v, m, cs⟩
  · replace hfr : L = [] := hfr
    subst hfr
    have hO : okD 900 ⟨n, rowF [], false, false, 0⟩ := hD9
    cbv
    apply cutL2 (X := X) (fun p : List (List PD) => isB p ∧ p.length ≤ 100 ∧ i < xs.length ∧ i < 30) (fun p => [(1, .d (.slc 1 xs)), (5, .d (.sc (.int .i64 n))), (6, .ref 0 0 0), (8, .d (.sc (.int .i64 i))), (9, .d (.slc 1 p))]) (fun _ => [dB n (.d (.sc (.slice none 0 0))) false false 0])
    rotate_left
    · intro key
      repeat' first
        | (refine part (fun h => ?_) (fun h => ?_) <;> try cbv)
        | (refine And.intro ?_ ?_)
      all_goals first
        | (subst hA hX hW hFsQ hFsL hFsK hFsM hFsRu; exact ret_v rfl rfl)
        | (intro q; exact q)
        | (intro _; trivial)
        | (subst hA; intro q; simpa [A0] using q)
        | (have h9 : A.cond (A.cmp .lss i (A.len xs)) (A.cmp .lss i 30) false = true := by assumption
           obtain ⟨hlt, hlt30⟩ : i < xs.length ∧ i < 30 := by
             subst hA
             simp only [A0, cond_eq_ite, decide_eq_true_eq, Bool.if_false_right, Bool.and_eq_true] at h9
             exact h9
           obtain ⟨p, hp0, hpb⟩ := hrow i i0 hlt
           have e : A.gl (A.lift (A.row xs i)) 0 = p := by subst hA; simp only [A0, hp0]; rfl
           first
             | (subst hA; exact ⟨i0, hlt⟩)
             | (subst hA; simp only [A0, hp0]; exact ⟨rfl, Nat.le_refl _, rfl⟩)
             | (have h8 : A.cmp .gtr (A.len (A.gl (A.lift (A.row xs i)) 0)) 100 = true := by assumption
                replace h8 : (100 : Int) < p.length := by
                  rw [e] at h8
                  subst hA
                  simp only [A0, decide_eq_true_eq] at h8
                  exact h8
                first
                  | (show A.bnd 0 100 (A.len (A.gl (A.lift (A.row xs i)) 0)); rw [e]; subst hA; exact (⟨by decide, by decide, by omega⟩ : (0 : Int) ≤ 0 ∧ (0 : Int) ≤ 100 ∧ (100 : Int) ≤ (p.length : Int)))
                  | (rw [e]; subst hA; simp only [A0]; show (100 : Int) ≤ (p.length : Int); omega)
                  | (refine pauseL hX (s' := _) (st' := _) ?_ (key (p.take 100) ⟨isB.take hpb _, by simp only [List.length_take]; omega, hlt, hlt30⟩)
                     subst hA
                     exact told_less (by simp [toldP, getS, e]; simp [A0])))
             | (have h8 : A.cmp .gtr (A.len (A.gl (A.lift (A.row xs i)) 0)) 100 = false := by assumption
                replace h8 : ¬ (100 : Int) < p.length := by
                  rw [e] at h8
                  subst hA
                  simp only [A0, decide_eq_false_iff_not] at h8
                  exact h8
                refine pauseL hX (s' := _) (st' := _) ?_ (key p ⟨hpb, by omega, hlt, hlt30⟩)
                exact told_less (by simp [toldP, getS, e])))
        | fail
    · rintro p ⟨hp, hp1, hlt, hlt30⟩
      obtain ⟨nm, hnm, hmay, hsz, hby⟩ := nm_ok i i0
      with_reducible refine goL (T := fun _ => tabY [40] []) (H := fun _ => [kn_within3 GFsQ, kn_runs GFsRu]) (tabY_ok _ _) hH follows_mixed hA hX ?_
      cbv
      obtain ⟨t, ht⟩ : ∃ t, GFsK.tot [] = t := ⟨_, rfl⟩
      have ht1 : t = totF [] := by subst ht hFsK; rfl
      have ht5 : 0 ≤ t ∧ t ≤ n := by
        have h1 := totF_nonneg []
        have h2 := hD9.tot
        simp only at h2
        omega
      cbv at ht
      repeat first
        | (simp only [f1, f2, f3, f4, f5, f6, f7, f8, f9, f10, ht]; cbv)
        | refine And.intro (by
             subst hA hX hW hFsQ hFsL hFsK hFsM hFsRu
             clear hH hB
             first
               | exact trivial
               | exact rfl
               | (simp [A0]; done)
               | (intro q; exact q)
               | (intro q; simpa [A0] using q)
               | (intro _; trivial)
               | (show Region.lexB _ _ = true; kernel_rfl)
               | (show turnsB _ = true; kernel_rfl)
               | assumption) ?_
        | ((with_reducible refine callB hX hB ?_); cbv; fail_if_success show False)
      (with_reducible refine settleL (T := fun _ => tabY [40] []) (H := fun _ => [kn_within3 GFsQ, kn_runs GFsRu]) (R := fun _ => []) (A := A) (tabY_ok _ _) hH noR_ok hA hX ?_)
      cbv
      repeat first
        | (simp only [f1, f2, f3, f4, f5, f6, f7, f8, f9, f10, ht]; cbv)
        | refine And.intro (by
             subst hA hX hW hFsQ hFsL hFsK hFsM hFsRu
             clear hH hB
             first
               | exact trivial
               | exact rfl
               | (simp [A0]; done)
               | (intro q; exact q)
               | (intro q; simpa [A0] using q)
               | (intro _; trivial)
               | (show Region.lexB _ _ = true; kernel_rfl)
               | (show turnsB _ = true; kernel_rfl)
               | assumption) ?_
        | ((with_reducible refine callB hX hB ?_); cbv; fail_if_success show False)
      try refine And.intro (by subst hA; exact hby) ?_
      refine pauseL hX (s' := [(1, .d (.slc 1 xs)), (5, .d (.sc (.int .i64 n))), (6, .ref 0 0 0), (8, .d (.sc (.int .i64 i))), (9, .d (.slc 1 p)), (10, .d (.sc (.int .i64 t))), (11, .d (.sc (.string nm)))]) (st' := _) (told_less (by subst hA hnm; simp [toldP, getS])) ?_
      with_reducible refine goL (T := fun _ => tabY [40] []) (H := fun _ => [kn_within3 GFsQ, kn_runs GFsRu]) (tabY_ok _ _) hH follows_mixed hA hX ?_
      cbv
      by_cases hcap : t + p.length ≤ n
      · have hcap2 : totF ([] : List FileM) + p.length ≤ n := by rw [← ht1]; exact hcap
        have hy := app_yes (q := n) (L := ([] : List FileM)) hmay hcap2
        have hD1 : okD (i.toNat + 1) ⟨n, addF ([] : List FileM) nm p, false, false, 0⟩ := by
          have := hD.app (name := nm) hp
          rw [hy] at this
          exact this
        have htt : totF (addF ([] : List FileM) nm p) = t + p.length := by rw [addF_tot, ht1]
        obtain ⟨L1, hL1⟩ : ∃ L1, L1 = addF ([] : List FileM) nm p := ⟨_, rfl⟩
        rw [← hL1] at hy hD1 htt
        refine callL hX (app0 nm p 0 rfl hD9 hsz hp hy (fun h0 => ?_) fun v1 n1 c1 hc1 hm1 => ?_)
        · exfalso
          rw [h0] at hL1
          rcases addF_ne [] nm p with h | h
          · exact h hL1.symm
          · exact h rfl
        cbv
        have hD8 : okD 900 ⟨n, L1, false, false, 0⟩ := hD1.mono (by omega)
        have hF8 := isF_of hc1 hm1 (hD8.okL (by decide))
        have hO8 := okD_of hc1 hD8
        obtain ⟨t1, ht2⟩ : ∃ t1, GFsK.tot c1 = t1 := ⟨_, rfl⟩
        have ht3 : t1 = t + p.length := by
          rw [← htt]
          subst ht2 hFsK
          show totX c1 = _
          unfold totX
          rw [hc1, rowF_cells]
        obtain ⟨r1, hr1⟩ : ∃ r1, GFsM.room c1 n = r1 := ⟨_, rfl⟩
        have hr2 : r1 = n - t1 := by
          subst hr1 ht2 hFsM hFsK
          rfl
        cbv at ht2 hr1
        replace ht3 : t1 = (t + (p.length : Int) : Int) := ht3
        replace hcap : t + (p.length : Int) ≤ n := hcap
        have b1 : A.cmp .eql 0 0 = true := by subst hA; rfl
        have b2 : A.cmp .leq (A.bin .add .i64 t (A.len p)) n = true := by
          subst hA
          simp only [A0, decide_eq_true_eq]
          rw [wrap_i64 (by unfold r64; omega)]
          exact hcap
        have b6 : A.cmp .leq t1 n = true := by subst hA; simp only [A0, decide_eq_true_eq]; omega
        have b7 : A.cmp .gtr t1 n = false := by subst hA; simp only [A0, decide_eq_false_iff_not]; omega
        have b8 : A.cmp .neq r1 (A.bin .sub .i64 n t1) = false := by
          subst hA
          simp only [A0]
          rw [wrap_i64 (by unfold r64; omega)]
          simp [hr2]
        cbv at b1 b2 b6 b7 b8
        refine stepTo (T := fun _ => tabY [40] []) (H := fun _ => [kn_within3 GFsQ, kn_runs GFsRu]) (tabY_ok _ _) hH follows_mixed hA hX [(1, .d (.slc 1 xs)), (5, .d (.sc (.int .i64 n))), (6, .ref 0 0 0), (8, .d (.sc (.int .i64 i))), (10, .d (.sc (.int .i64 t))), (11, .d (.sc (.string nm))), (96, .d (.sc (.bool false)))] [dB n (.view 3 1 v1 0 n1) false false 0, fB c1 v1] (fun R2 hR2 => ?_) ?_
        · show genG _ _ _ _ _ _ _ _ _ _
          repeat
            (refine genS (fun G hG => ?_)
             cbv
             repeat first
               | (simp only [f1, f2, f3, f4, f5, f6, f7, f8, f9, f10, ht2, hr1, b1, b2, b6, b7, b8]; cbv)
               | refine And.intro (by
                    subst hA hX hW hFsQ hFsL hFsK hFsM hFsRu
                    clear hH hB
                    first
                      | exact trivial
                      | exact rfl
                      | (simp [A0]; done)
                      | (intro q; exact q)
                      | (intro q; simpa [A0] using q)
                      | (intro _; trivial)
                      | (show Region.lexB _ _ = true; kernel_rfl)
                      | (show turnsB _ = true; kernel_rfl)
                      | assumption) ?_
               | ((with_reducible refine callB hX hB ?_); cbv; fail_if_success show False)
               | (refine pickL hX (t := true) (by rfl) rfl ?_; cbv)
               | (refine pickL hX (t := false) (by rfl) rfl ?_; cbv)
             subst hG)
          cbv
          clear hH hB hX
          subst hR2
          exact told_less (by simp [toldP, getS])
        · cbv
          have wi : IntKind.wrap .i64 (i + 1) = i + 1 := wrap_i64 (by unfold r64; omega)
          refine And.intro (by subst hA; exact (by decide : (5 : Int) ≠ 0)) ?_
          refine part (fun h5 => ?_) (fun h5 => ?_)
          · cbv
            obtain ⟨d, hd⟩ : ∃ d, GFsL.rd c1 nm = d := ⟨_, rfl⟩
            obtain ⟨fb, hfb⟩ : ∃ b, (GFsL.find c1 nm).2 = b := ⟨_, rfl⟩
            have hrw : rowF c1 = L1 := by rw [hc1, rowF_cells]
            have hd2 : (Dk.mk 0 L1 false false 0).reads nm = d := by
              rw [← hd]
              subst hFsL
              show _ = readsX c1 nm
              unfold readsX
              rw [hrw]
            have hf2 : (findF nm L1 0).2 = fb := by
              rw [← hfb]
              subst hFsL
              show _ = (findX c1 nm).2
              unfold findX
              rw [hrw]
            cbv at hd hfb
            repeat first
              | (simp only [f1, f2, f3, f4, f5, f6, f7, f8, f9, f10, hd, hfb, ht2]; cbv)
              | refine And.intro (by
                   subst hA hX hW hFsQ hFsL hFsK hFsM hFsRu
                   clear hH hB
                   first
                     | exact trivial
                     | exact rfl
                     | (simp [A0]; done)
                     | (intro q; exact q)
                     | (intro q; simpa [A0] using q)
                     | (intro _; trivial)
                     | (show Region.lexB _ _ = true; kernel_rfl)
                     | (show turnsB _ = true; kernel_rfl)
                     | assumption) ?_
              | ((with_reducible refine callB hX hB ?_); cbv; fail_if_success show False)
            cases fb
            · obtain ⟨hrem, hrd⟩ := rem_no (q := n) hf2
              obtain ⟨L2, hL2⟩ : ∃ L2, L2 = L1 := ⟨_, rfl⟩
              have hd0 : d.length = 0 := by rw [← hd2, hrd]; rfl
              have ht7 : totF L2 = t1 - (d.length : Int) := by rw [hL2, hd0, htt, ht3]; simp
              have hD2 : okD (i.toNat + 1) ⟨n, L2, false, false, 0⟩ := by rw [hL2]; exact hD1
              have hrem : (Dk.mk n L1 false false 0).rem nm = (8, ⟨n, L2, false, false, 0⟩) := by rw [hL2]; exact hrem
              have hdb : (0 : Int) ≤ d.length ∧ (d.length : Int) ≤ t1 ∧ t1 ≤ 1048576 := by
                have h1 := totF_nonneg L2
                have h2 := hD8.tot
                have h3 := hD8.q
                simp only at h2 h3
                have h4 : t1 = totF L1 := by rw [htt]; exact ht3
                omega
              with_reducible refine goL (T := fun _ => tabY [40] []) (H := fun _ => [kn_within3 GFsQ, kn_runs GFsRu]) (tabY_ok _ _) hH follows_mixed hA hX ?_
              cbv
              refine callL hX (rem1 nm 0 1 L1 rfl rfl (by decide) hc1 hm1 hD8 hrem fun v2 n2 c2 hc2 hm2 => ?_)
              cbv
              have hF9 := isF_of hc2 hm2 ((hD2.mono (by omega) : okD 900 _).okL (by decide))
              have hO9 := okD_of hc2 (hD2.mono (by omega) : okD 900 _)
              obtain ⟨t3, ht8⟩ : ∃ t3, GFsK.tot c2 = t3 := ⟨_, rfl⟩
              have ht9 : t3 = t1 - (d.length : Int) := by
                rw [← ht7]
                subst ht8 hFsK
                show totX c2 = _
                unfold totX
                rw [hc2, rowF_cells]
              have b9 : A.cmp .neq t3 (A.bin .sub .i64 t1 (A.len d)) = false := by
                have hdl : (0 : Int) ≤ d.length ∧ (d.length : Int) ≤ t1 ∧ t1 ≤ 1048576 := hdb
                subst hA
                simp only [A0]
                rw [wrap_i64 (by unfold r64; omega)]
                simp [ht9]
              cbv at ht8 b9
              repeat first
                | (simp only [f1, f2, f3, f4, f5, f6, f7, f8, f9, f10, ht8, b9]; cbv)
                | refine And.intro (by
                     subst hA hX hW hFsQ hFsL hFsK hFsM hFsRu
                     clear hH hB
                     first
                       | exact trivial
                       | exact rfl
                       | (simp [A0]; done)
                       | (intro q; exact q)
                       | (intro q; simpa [A0] using q)
                       | (intro _; trivial)
                       | (show Region.lexB _ _ = true; kernel_rfl)
                       | (show turnsB _ = true; kernel_rfl)
                       | assumption) ?_
                | ((with_reducible refine callB hX hB ?_); cbv; fail_if_success show False)
                  | (refine pickL hX (t := true) (by rfl) rfl ?_; cbv)
                  | (refine pickL hX (t := false) (by rfl) rfl ?_; cbv)
              replace i0 : 0 ≤ i := i0
              replace hlt : i < (xs.length : Int) := hlt
              replace hlt30 : i < 30 := hlt30
              subst hR
              refine ⟨(i + 1, some (v2, n2, c2), L2), ⟨by show 0 ≤ i + 1; omega, by show i + 1 ≤ (xs.length : Int); omega, by show i + 1 ≤ 30; omega, ⟨hc2, hm2⟩, ?_⟩, by show xs.length - (i + 1).toNat < xs.length - i.toNat; omega, ?_⟩
              · show okD (i + 1).toNat _
                rw [show (i + 1).toNat = i.toNat + 1 by omega]
                exact hD2
              · subst hA
                exact told_less (by simp [toldP, getS, A0, wi])
            · obtain ⟨L2, d2, hrem, ht7, hrd⟩ := rem_yes (q := n) hf2
              have hdd : d2 = d := hrd.symm.trans hd2
              rw [hdd] at ht7
              have ht7 : totF L2 = t1 - (d.length : Int) := by rw [ht7, htt, ht3]
              have hD2 : okD (i.toNat + 1) ⟨n, L2, false, false, 0⟩ := by
                have := hD1.rem nm
                rw [hrem] at this
                exact this
              have hdb : (0 : Int) ≤ d.length ∧ (d.length : Int) ≤ t1 ∧ t1 ≤ 1048576 := by
                have h1 := totF_nonneg L2
                have h2 := hD8.tot
                have h3 := hD8.q
                simp only at h2 h3
                have h4 : t1 = totF L1 := by rw [htt]; exact ht3
                omega
              with_reducible refine goL (T := fun _ => tabY [40] []) (H := fun _ => [kn_within3 GFsQ, kn_runs GFsRu]) (tabY_ok _ _) hH follows_mixed hA hX ?_
              cbv
              refine callL hX (rem1 nm 0 1 L1 rfl rfl (by decide) hc1 hm1 hD8 hrem fun v2 n2 c2 hc2 hm2 => ?_)
              cbv
              have hF9 := isF_of hc2 hm2 ((hD2.mono (by omega) : okD 900 _).okL (by decide))
              have hO9 := okD_of hc2 (hD2.mono (by omega) : okD 900 _)
              obtain ⟨t3, ht8⟩ : ∃ t3, GFsK.tot c2 = t3 := ⟨_, rfl⟩
              have ht9 : t3 = t1 - (d.length : Int) := by
                rw [← ht7]
                subst ht8 hFsK
                show totX c2 = _
                unfold totX
                rw [hc2, rowF_cells]
              have b9 : A.cmp .neq t3 (A.bin .sub .i64 t1 (A.len d)) = false := by
                have hdl : (0 : Int) ≤ d.length ∧ (d.length : Int) ≤ t1 ∧ t1 ≤ 1048576 := hdb
                subst hA
                simp only [A0]
                rw [wrap_i64 (by unfold r64; omega)]
                simp [ht9]
              cbv at ht8 b9
              repeat first
                | (simp only [f1, f2, f3, f4, f5, f6, f7, f8, f9, f10, ht8, b9]; cbv)
                | refine And.intro (by
                     subst hA hX hW hFsQ hFsL hFsK hFsM hFsRu
                     clear hH hB
                     first
                       | exact trivial
                       | exact rfl
                       | (simp [A0]; done)
                       | (intro q; exact q)
                       | (intro q; simpa [A0] using q)
                       | (intro _; trivial)
                       | (show Region.lexB _ _ = true; kernel_rfl)
                       | (show turnsB _ = true; kernel_rfl)
                       | assumption) ?_
                | ((with_reducible refine callB hX hB ?_); cbv; fail_if_success show False)
                  | (refine pickL hX (t := true) (by rfl) rfl ?_; cbv)
                  | (refine pickL hX (t := false) (by rfl) rfl ?_; cbv)
              replace i0 : 0 ≤ i := i0
              replace hlt : i < (xs.length : Int) := hlt
              replace hlt30 : i < 30 := hlt30
              subst hR
              refine ⟨(i + 1, some (v2, n2, c2), L2), ⟨by show 0 ≤ i + 1; omega, by show i + 1 ≤ (xs.length : Int); omega, by show i + 1 ≤ 30; omega, ⟨hc2, hm2⟩, ?_⟩, by show xs.length - (i + 1).toNat < xs.length - i.toNat; omega, ?_⟩
              · show okD (i + 1).toNat _
                rw [show (i + 1).toNat = i.toNat + 1 by omega]
                exact hD2
              · subst hA
                exact told_less (by simp [toldP, getS, A0, wi])
          · cbv
            replace i0 : 0 ≤ i := i0
            replace hlt : i < (xs.length : Int) := hlt
            replace hlt30 : i < 30 := hlt30
            subst hR
            refine ⟨(i + 1, some (v1, n1, c1), L1), ⟨by show 0 ≤ i + 1; omega, by show i + 1 ≤ (xs.length : Int); omega, by show i + 1 ≤ 30; omega, ⟨hc1, hm1⟩, ?_⟩, by show xs.length - (i + 1).toNat < xs.length - i.toNat; omega, ?_⟩
            · show okD (i + 1).toNat _
              rw [show (i + 1).toNat = i.toNat + 1 by omega]
              exact hD1
            · subst hA
              exact told_less (by simp [toldP, getS, A0, wi])
      · have hy := app_no (q := n) (L := ([] : List FileM)) (nm := nm) (p := p) hmay (by rw [← ht1]; exact hcap)
        have hD1 : okD (i.toNat + 1) ⟨n, ([] : List FileM), false, false, 0⟩ := hD.mono (Nat.le_succ _)
        have htt : totF ([] : List FileM) = t := by rw [ht1]
        obtain ⟨L1, hL1⟩ : ∃ L1, L1 = ([] : List FileM) := ⟨_, rfl⟩
        rw [← hL1] at hD1 htt
        refine callL hX (app0 nm p 0 rfl hD9 hsz hp hy (fun _ => ?_) fun v1 n1 c1 hc1 hm1 => ?_)
        · cbv
          have hD8 : okD 900 ⟨n, L1, false, false, 0⟩ := hD1.mono (by omega)
          have hO8 : okD 900 ⟨n, rowF [], false, false, 0⟩ := by rw [show rowF [] = L1 from hL1.symm]; exact hD8
          obtain ⟨t1, ht2⟩ : ∃ t1, GFsK.tot [] = t1 := ⟨_, rfl⟩
          have ht3 : t1 = t := by
            rw [← htt]
            subst ht2 hFsK
            show totX [] = _
            unfold totX
            rw [hL1, show rowF [] = [] from rfl]
          obtain ⟨r1, hr1⟩ : ∃ r1, GFsM.room [] n = r1 := ⟨_, rfl⟩
          have hr2 : r1 = n - t1 := by
            subst hr1 ht2 hFsM hFsK
            rfl
          cbv at ht2 hr1
          replace ht3 : t1 = (t : Int) := ht3
          replace hcap : ¬ t + (p.length : Int) ≤ n := hcap
          have b1 : A.cmp .eql 7 0 = false := by subst hA; rfl
          have b2 : A.cmp .leq (A.bin .add .i64 t (A.len p)) n = false := by
            subst hA
            simp only [A0, decide_eq_false_iff_not]
            rw [wrap_i64 (by unfold r64; omega)]
            exact hcap
          have b6 : A.cmp .neq t1 t = false := by subst hA; simp [A0, ht3]
          have b7 : A.cmp .gtr t1 n = false := by subst hA; simp only [A0, decide_eq_false_iff_not]; omega
          have b8 : A.cmp .neq r1 (A.bin .sub .i64 n t1) = false := by
            subst hA
            simp only [A0]
            rw [wrap_i64 (by unfold r64; omega)]
            simp [hr2]
          cbv at b1 b2 b6 b7 b8
          refine stepTo (T := fun _ => tabY [40] []) (H := fun _ => [kn_within3 GFsQ, kn_runs GFsRu]) (tabY_ok _ _) hH follows_mixed hA hX [(1, .d (.slc 1 xs)), (5, .d (.sc (.int .i64 n))), (6, .ref 0 0 0), (8, .d (.sc (.int .i64 i))), (10, .d (.sc (.int .i64 t))), (11, .d (.sc (.string nm))), (96, .d (.sc (.bool false)))] [dB n (.d (.sc (.slice none 0 0))) false false 0] (fun R2 hR2 => ?_) ?_
          · show genG _ _ _ _ _ _ _ _ _ _
            repeat
              (refine genS (fun G hG => ?_)
               cbv
               repeat first
                 | (simp only [f1, f2, f3, f4, f5, f6, f7, f8, f9, f10, ht2, hr1, b1, b2, b6, b7, b8]; cbv)
                 | refine And.intro (by
                      subst hA hX hW hFsQ hFsL hFsK hFsM hFsRu
                      clear hH hB
                      first
                        | exact trivial
                        | exact rfl
                        | (simp [A0]; done)
                        | (intro q; exact q)
                        | (intro q; simpa [A0] using q)
                        | (intro _; trivial)
                        | (show Region.lexB _ _ = true; kernel_rfl)
                        | (show turnsB _ = true; kernel_rfl)
                        | assumption) ?_
                 | ((with_reducible refine callB hX hB ?_); cbv; fail_if_success show False)
                 | (refine pickL hX (t := true) (by rfl) rfl ?_; cbv)
                 | (refine pickL hX (t := false) (by rfl) rfl ?_; cbv)
               subst hG)
            cbv
            clear hH hB hX
            subst hR2
            exact told_less (by simp [toldP, getS])
          · cbv
            have wi : IntKind.wrap .i64 (i + 1) = i + 1 := wrap_i64 (by unfold r64; omega)
            refine And.intro (by subst hA; exact (by decide : (5 : Int) ≠ 0)) ?_
            refine part (fun h5 => ?_) (fun h5 => ?_)
            · cbv
              obtain ⟨d, hd⟩ : ∃ d, GFsL.rd [] nm = d := ⟨_, rfl⟩
              obtain ⟨fb, hfb⟩ : ∃ b, (GFsL.find [] nm).2 = b := ⟨_, rfl⟩
              have hrw : rowF [] = L1 := by rw [hL1, show rowF [] = [] from rfl]
              have hd2 : (Dk.mk 0 L1 false false 0).reads nm = d := by
                rw [← hd]
                subst hFsL
                show _ = readsX [] nm
                unfold readsX
                rw [hrw]
              have hf2 : (findF nm L1 0).2 = fb := by
                rw [← hfb]
                subst hFsL
                show _ = (findX [] nm).2
                unfold findX
                rw [hrw]
              cbv at hd hfb
              repeat first
                | (simp only [f1, f2, f3, f4, f5, f6, f7, f8, f9, f10, hd, hfb, ht2]; cbv)
                | refine And.intro (by
                     subst hA hX hW hFsQ hFsL hFsK hFsM hFsRu
                     clear hH hB
                     first
                       | exact trivial
                       | exact rfl
                       | (simp [A0]; done)
                       | (intro q; exact q)
                       | (intro q; simpa [A0] using q)
                       | (intro _; trivial)
                       | (show Region.lexB _ _ = true; kernel_rfl)
                       | (show turnsB _ = true; kernel_rfl)
                       | assumption) ?_
                | ((with_reducible refine callB hX hB ?_); cbv; fail_if_success show False)
              cases fb
              · obtain ⟨hrem, hrd⟩ := rem_no (q := n) hf2
                obtain ⟨L2, hL2⟩ : ∃ L2, L2 = L1 := ⟨_, rfl⟩
                have hd0 : d.length = 0 := by rw [← hd2, hrd]; rfl
                have ht7 : totF L2 = t1 - (d.length : Int) := by rw [hL2, hd0, htt, ht3]; simp
                have hD2 : okD (i.toNat + 1) ⟨n, L2, false, false, 0⟩ := by rw [hL2]; exact hD1
                have hrem : (Dk.mk n L1 false false 0).rem nm = (8, ⟨n, L2, false, false, 0⟩) := by rw [hL2]; exact hrem
                have hdb : (0 : Int) ≤ d.length ∧ (d.length : Int) ≤ t1 ∧ t1 ≤ 1048576 := by
                  have h1 := totF_nonneg L2
                  have h2 := hD8.tot
                  have h3 := hD8.q
                  simp only at h2 h3
                  have h4 : t1 = totF L1 := by rw [htt]; exact ht3
                  omega
                with_reducible refine goL (T := fun _ => tabY [40] []) (H := fun _ => [kn_within3 GFsQ, kn_runs GFsRu]) (tabY_ok _ _) hH follows_mixed hA hX ?_
                cbv
                refine callL hX (rem0 nm 0 rfl (hL1 ▸ hD8) (hL1 ▸ hrem) (fun _ => ?_) fun v2 n2 c2 hc2 hm2 => ?_)
                · cbv
                  have hO9 : okD 900 ⟨n, rowF [], false, false, 0⟩ := by rw [show rowF [] = L1 from hL1.symm]; exact hD8
                  obtain ⟨t3, ht8⟩ : ∃ t3, GFsK.tot [] = t3 := ⟨_, rfl⟩
                  have ht9 : t3 = t1 - (d.length : Int) := by
                    rw [← ht7]
                    subst ht8 hFsK
                    show totX [] = _
                    unfold totX
                    rw [hL2, hL1, show rowF [] = [] from rfl]
                  have b9 : A.cmp .neq t3 (A.bin .sub .i64 t1 (A.len d)) = false := by
                    have hdl : (0 : Int) ≤ d.length ∧ (d.length : Int) ≤ t1 ∧ t1 ≤ 1048576 := hdb
                    subst hA
                    simp only [A0]
                    rw [wrap_i64 (by unfold r64; omega)]
                    simp [ht9]
                  cbv at ht8 b9
                  repeat first
                    | (simp only [f1, f2, f3, f4, f5, f6, f7, f8, f9, f10, ht8, b9]; cbv)
                    | refine And.intro (by
                         subst hA hX hW hFsQ hFsL hFsK hFsM hFsRu
                         clear hH hB
                         first
                           | exact trivial
                           | exact rfl
                           | (simp [A0]; done)
                           | (intro q; exact q)
                           | (intro q; simpa [A0] using q)
                           | (intro _; trivial)
                           | (show Region.lexB _ _ = true; kernel_rfl)
                           | (show turnsB _ = true; kernel_rfl)
                           | assumption) ?_
                    | ((with_reducible refine callB hX hB ?_); cbv; fail_if_success show False)
                      | (refine pickL hX (t := true) (by rfl) rfl ?_; cbv)
                      | (refine pickL hX (t := false) (by rfl) rfl ?_; cbv)
                  replace i0 : 0 ≤ i := i0
                  replace hlt : i < (xs.length : Int) := hlt
                  replace hlt30 : i < 30 := hlt30
                  subst hR
                  refine ⟨(i + 1, none, L2), ⟨by show 0 ≤ i + 1; omega, by show i + 1 ≤ (xs.length : Int); omega, by show i + 1 ≤ 30; omega, hL2.trans hL1, ?_⟩, by show xs.length - (i + 1).toNat < xs.length - i.toNat; omega, ?_⟩
                  · show okD (i + 1).toNat _
                    rw [show (i + 1).toNat = i.toNat + 1 by omega]
                    exact hD2
                  · subst hA
                    exact told_less (by simp [toldP, getS, A0, wi])
                · cbv
                  have hF9 := isF_of hc2 hm2 ((hD2.mono (by omega) : okD 900 _).okL (by decide))
                  have hO9 := okD_of hc2 (hD2.mono (by omega) : okD 900 _)
                  obtain ⟨t3, ht8⟩ : ∃ t3, GFsK.tot c2 = t3 := ⟨_, rfl⟩
                  have ht9 : t3 = t1 - (d.length : Int) := by
                    rw [← ht7]
                    subst ht8 hFsK
                    show totX c2 = _
                    unfold totX
                    rw [hc2, rowF_cells]
                  have b9 : A.cmp .neq t3 (A.bin .sub .i64 t1 (A.len d)) = false := by
                    have hdl : (0 : Int) ≤ d.length ∧ (d.length : Int) ≤ t1 ∧ t1 ≤ 1048576 := hdb
                    subst hA
                    simp only [A0]
                    rw [wrap_i64 (by unfold r64; omega)]
                    simp [ht9]
                  cbv at ht8 b9
                  repeat first
                    | (simp only [f1, f2, f3, f4, f5, f6, f7, f8, f9, f10, ht8, b9]; cbv)
                    | refine And.intro (by
                         subst hA hX hW hFsQ hFsL hFsK hFsM hFsRu
                         clear hH hB
                         first
                           | exact trivial
                           | exact rfl
                           | (simp [A0]; done)
                           | (intro q; exact q)
                           | (intro q; simpa [A0] using q)
                           | (intro _; trivial)
                           | (show Region.lexB _ _ = true; kernel_rfl)
                           | (show turnsB _ = true; kernel_rfl)
                           | assumption) ?_
                    | ((with_reducible refine callB hX hB ?_); cbv; fail_if_success show False)
                      | (refine pickL hX (t := true) (by rfl) rfl ?_; cbv)
                      | (refine pickL hX (t := false) (by rfl) rfl ?_; cbv)
                  replace i0 : 0 ≤ i := i0
                  replace hlt : i < (xs.length : Int) := hlt
                  replace hlt30 : i < 30 := hlt30
                  subst hR
                  refine ⟨(i + 1, some (v2, n2, c2), L2), ⟨by show 0 ≤ i + 1; omega, by show i + 1 ≤ (xs.length : Int); omega, by show i + 1 ≤ 30; omega, ⟨hc2, hm2⟩, ?_⟩, by show xs.length - (i + 1).toNat < xs.length - i.toNat; omega, ?_⟩
                  · show okD (i + 1).toNat _
                    rw [show (i + 1).toNat = i.toNat + 1 by omega]
                    exact hD2
                  · subst hA
                    exact told_less (by simp [toldP, getS, A0, wi])
              · rw [hL1] at hf2
                cases hf2
            · cbv
              replace i0 : 0 ≤ i := i0
              replace hlt : i < (xs.length : Int) := hlt
              replace hlt30 : i < 30 := hlt30
              subst hR
              refine ⟨(i + 1, none, L1), ⟨by show 0 ≤ i + 1; omega, by show i + 1 ≤ (xs.length : Int); omega, by show i + 1 ≤ 30; omega, hL1, ?_⟩, by show xs.length - (i + 1).toNat < xs.length - i.toNat; omega, ?_⟩
              · show okD (i + 1).toNat _
                rw [show (i + 1).toNat = i.toNat + 1 by omega]
                exact hD1
              · subst hA
                exact told_less (by simp [toldP, getS, A0, wi])
        · rw [← hL1] at hc1 hm1
          cbv
          have hD8 : okD 900 ⟨n, L1, false, false, 0⟩ := hD1.mono (by omega)
          have hF8 := isF_of hc1 hm1 (hD8.okL (by decide))
          have hO8 := okD_of hc1 hD8
          obtain ⟨t1, ht2⟩ : ∃ t1, GFsK.tot c1 = t1 := ⟨_, rfl⟩
          have ht3 : t1 = t := by
            rw [← htt]
            subst ht2 hFsK
            show totX c1 = _
            unfold totX
            rw [hc1, rowF_cells]
          obtain ⟨r1, hr1⟩ : ∃ r1, GFsM.room c1 n = r1 := ⟨_, rfl⟩
          have hr2 : r1 = n - t1 := by
            subst hr1 ht2 hFsM hFsK
            rfl
          cbv at ht2 hr1
          replace ht3 : t1 = (t : Int) := ht3
          replace hcap : ¬ t + (p.length : Int) ≤ n := hcap
          have b1 : A.cmp .eql 7 0 = false := by subst hA; rfl
          have b2 : A.cmp .leq (A.bin .add .i64 t (A.len p)) n = false := by
            subst hA
            simp only [A0, decide_eq_false_iff_not]
            rw [wrap_i64 (by unfold r64; omega)]
            exact hcap
          have b6 : A.cmp .neq t1 t = false := by subst hA; simp [A0, ht3]
          have b7 : A.cmp .gtr t1 n = false := by subst hA; simp only [A0, decide_eq_false_iff_not]; omega
          have b8 : A.cmp .neq r1 (A.bin .sub .i64 n t1) = false := by
            subst hA
            simp only [A0]
            rw [wrap_i64 (by unfold r64; omega)]
            simp [hr2]
          cbv at b1 b2 b6 b7 b8
          refine stepTo (T := fun _ => tabY [40] []) (H := fun _ => [kn_within3 GFsQ, kn_runs GFsRu]) (tabY_ok _ _) hH follows_mixed hA hX [(1, .d (.slc 1 xs)), (5, .d (.sc (.int .i64 n))), (6, .ref 0 0 0), (8, .d (.sc (.int .i64 i))), (10, .d (.sc (.int .i64 t))), (11, .d (.sc (.string nm))), (96, .d (.sc (.bool false)))] [dB n (.view 3 1 v1 0 n1) false false 0, fB c1 v1] (fun R2 hR2 => ?_) ?_
          · show genG _ _ _ _ _ _ _ _ _ _
            repeat
              (refine genS (fun G hG => ?_)
               cbv
               repeat first
                 | (simp only [f1, f2, f3, f4, f5, f6, f7, f8, f9, f10, ht2, hr1, b1, b2, b6, b7, b8]; cbv)
                 | refine And.intro (by
                      subst hA hX hW hFsQ hFsL hFsK hFsM hFsRu
                      clear hH hB
                      first
                        | exact trivial
                        | exact rfl
                        | (simp [A0]; done)
                        | (intro q; exact q)
                        | (intro q; simpa [A0] using q)
                        | (intro _; trivial)
                        | (show Region.lexB _ _ = true; kernel_rfl)
                        | (show turnsB _ = true; kernel_rfl)
                        | assumption) ?_
                 | ((with_reducible refine callB hX hB ?_); cbv; fail_if_success show False)
                 | (refine pickL hX (t := true) (by rfl) rfl ?_; cbv)
                 | (refine pickL hX (t := false) (by rfl) rfl ?_; cbv)
               subst hG)
            cbv
            clear hH hB hX
            subst hR2
            exact told_less (by simp [toldP, getS])
          · cbv
            have wi : IntKind.wrap .i64 (i + 1) = i + 1 := wrap_i64 (by unfold r64; omega)
            refine And.intro (by subst hA; exact (by decide : (5 : Int) ≠ 0)) ?_
            refine part (fun h5 => ?_) (fun h5 => ?_)
            · cbv
              obtain ⟨d, hd⟩ : ∃ d, GFsL.rd c1 nm = d := ⟨_, rfl⟩
              obtain ⟨fb, hfb⟩ : ∃ b, (GFsL.find c1 nm).2 = b := ⟨_, rfl⟩
              have hrw : rowF c1 = L1 := by rw [hc1, rowF_cells]
              have hd2 : (Dk.mk 0 L1 false false 0).reads nm = d := by
                rw [← hd]
                subst hFsL
                show _ = readsX c1 nm
                unfold readsX
                rw [hrw]
              have hf2 : (findF nm L1 0).2 = fb := by
                rw [← hfb]
                subst hFsL
                show _ = (findX c1 nm).2
                unfold findX
                rw [hrw]
              cbv at hd hfb
              repeat first
                | (simp only [f1, f2, f3, f4, f5, f6, f7, f8, f9, f10, hd, hfb, ht2]; cbv)
                | refine And.intro (by
                     subst hA hX hW hFsQ hFsL hFsK hFsM hFsRu
                     clear hH hB
                     first
                       | exact trivial
                       | exact rfl
                       | (simp [A0]; done)
                       | (intro q; exact q)
                       | (intro q; simpa [A0] using q)
                       | (intro _; trivial)
                       | (show Region.lexB _ _ = true; kernel_rfl)
                       | (show turnsB _ = true; kernel_rfl)
                       | assumption) ?_
                | ((with_reducible refine callB hX hB ?_); cbv; fail_if_success show False)
              cases fb
              · obtain ⟨hrem, hrd⟩ := rem_no (q := n) hf2
                obtain ⟨L2, hL2⟩ : ∃ L2, L2 = L1 := ⟨_, rfl⟩
                have hd0 : d.length = 0 := by rw [← hd2, hrd]; rfl
                have ht7 : totF L2 = t1 - (d.length : Int) := by rw [hL2, hd0, htt, ht3]; simp
                have hD2 : okD (i.toNat + 1) ⟨n, L2, false, false, 0⟩ := by rw [hL2]; exact hD1
                have hrem : (Dk.mk n L1 false false 0).rem nm = (8, ⟨n, L2, false, false, 0⟩) := by rw [hL2]; exact hrem
                have hdb : (0 : Int) ≤ d.length ∧ (d.length : Int) ≤ t1 ∧ t1 ≤ 1048576 := by
                  have h1 := totF_nonneg L2
                  have h2 := hD8.tot
                  have h3 := hD8.q
                  simp only at h2 h3
                  have h4 : t1 = totF L1 := by rw [htt]; exact ht3
                  omega
                with_reducible refine goL (T := fun _ => tabY [40] []) (H := fun _ => [kn_within3 GFsQ, kn_runs GFsRu]) (tabY_ok _ _) hH follows_mixed hA hX ?_
                cbv
                refine callL hX (rem1 nm 0 1 L1 rfl rfl (by decide) hc1 hm1 hD8 hrem fun v2 n2 c2 hc2 hm2 => ?_)
                cbv
                have hF9 := isF_of hc2 hm2 ((hD2.mono (by omega) : okD 900 _).okL (by decide))
                have hO9 := okD_of hc2 (hD2.mono (by omega) : okD 900 _)
                obtain ⟨t3, ht8⟩ : ∃ t3, GFsK.tot c2 = t3 := ⟨_, rfl⟩
                have ht9 : t3 = t1 - (d.length : Int) := by
                  rw [← ht7]
                  subst ht8 hFsK
                  show totX c2 = _
                  unfold totX
                  rw [hc2, rowF_cells]
                have b9 : A.cmp .neq t3 (A.bin .sub .i64 t1 (A.len d)) = false := by
                  have hdl : (0 : Int) ≤ d.length ∧ (d.length : Int) ≤ t1 ∧ t1 ≤ 1048576 := hdb
                  subst hA
                  simp only [A0]
                  rw [wrap_i64 (by unfold r64; omega)]
                  simp [ht9]
                cbv at ht8 b9
                repeat first
                  | (simp only [f1, f2, f3, f4, f5, f6, f7, f8, f9, f10, ht8, b9]; cbv)
                  | refine And.intro (by
                       subst hA hX hW hFsQ hFsL hFsK hFsM hFsRu
                       clear hH hB
                       first
                         | exact trivial
                         | exact rfl
                         | (simp [A0]; done)
                         | (intro q; exact q)
                         | (intro q; simpa [A0] using q)
                         | (intro _; trivial)
                         | (show Region.lexB _ _ = true; kernel_rfl)
                         | (show turnsB _ = true; kernel_rfl)
                         | assumption) ?_
                  | ((with_reducible refine callB hX hB ?_); cbv; fail_if_success show False)
                    | (refine pickL hX (t := true) (by rfl) rfl ?_; cbv)
                    | (refine pickL hX (t := false) (by rfl) rfl ?_; cbv)
                replace i0 : 0 ≤ i := i0
                replace hlt : i < (xs.length : Int) := hlt
                replace hlt30 : i < 30 := hlt30
                subst hR
                refine ⟨(i + 1, some (v2, n2, c2), L2), ⟨by show 0 ≤ i + 1; omega, by show i + 1 ≤ (xs.length : Int); omega, by show i + 1 ≤ 30; omega, ⟨hc2, hm2⟩, ?_⟩, by show xs.length - (i + 1).toNat < xs.length - i.toNat; omega, ?_⟩
                · show okD (i + 1).toNat _
                  rw [show (i + 1).toNat = i.toNat + 1 by omega]
                  exact hD2
                · subst hA
                  exact told_less (by simp [toldP, getS, A0, wi])
              · obtain ⟨L2, d2, hrem, ht7, hrd⟩ := rem_yes (q := n) hf2
                have hdd : d2 = d := hrd.symm.trans hd2
                rw [hdd] at ht7
                have ht7 : totF L2 = t1 - (d.length : Int) := by rw [ht7, htt, ht3]
                have hD2 : okD (i.toNat + 1) ⟨n, L2, false, false, 0⟩ := by
                  have := hD1.rem nm
                  rw [hrem] at this
                  exact this
                have hdb : (0 : Int) ≤ d.length ∧ (d.length : Int) ≤ t1 ∧ t1 ≤ 1048576 := by
                  have h1 := totF_nonneg L2
                  have h2 := hD8.tot
                  have h3 := hD8.q
                  simp only at h2 h3
                  have h4 : t1 = totF L1 := by rw [htt]; exact ht3
                  omega
                with_reducible refine goL (T := fun _ => tabY [40] []) (H := fun _ => [kn_within3 GFsQ, kn_runs GFsRu]) (tabY_ok _ _) hH follows_mixed hA hX ?_
                cbv
                refine callL hX (rem1 nm 0 1 L1 rfl rfl (by decide) hc1 hm1 hD8 hrem fun v2 n2 c2 hc2 hm2 => ?_)
                cbv
                have hF9 := isF_of hc2 hm2 ((hD2.mono (by omega) : okD 900 _).okL (by decide))
                have hO9 := okD_of hc2 (hD2.mono (by omega) : okD 900 _)
                obtain ⟨t3, ht8⟩ : ∃ t3, GFsK.tot c2 = t3 := ⟨_, rfl⟩
                have ht9 : t3 = t1 - (d.length : Int) := by
                  rw [← ht7]
                  subst ht8 hFsK
                  show totX c2 = _
                  unfold totX
                  rw [hc2, rowF_cells]
                have b9 : A.cmp .neq t3 (A.bin .sub .i64 t1 (A.len d)) = false := by
                  have hdl : (0 : Int) ≤ d.length ∧ (d.length : Int) ≤ t1 ∧ t1 ≤ 1048576 := hdb
                  subst hA
                  simp only [A0]
                  rw [wrap_i64 (by unfold r64; omega)]
                  simp [ht9]
                cbv at ht8 b9
                repeat first
                  | (simp only [f1, f2, f3, f4, f5, f6, f7, f8, f9, f10, ht8, b9]; cbv)
                  | refine And.intro (by
                       subst hA hX hW hFsQ hFsL hFsK hFsM hFsRu
                       clear hH hB
                       first
                         | exact trivial
                         | exact rfl
                         | (simp [A0]; done)
                         | (intro q; exact q)
                         | (intro q; simpa [A0] using q)
                         | (intro _; trivial)
                         | (show Region.lexB _ _ = true; kernel_rfl)
                         | (show turnsB _ = true; kernel_rfl)
                         | assumption) ?_
                  | ((with_reducible refine callB hX hB ?_); cbv; fail_if_success show False)
                    | (refine pickL hX (t := true) (by rfl) rfl ?_; cbv)
                    | (refine pickL hX (t := false) (by rfl) rfl ?_; cbv)
                replace i0 : 0 ≤ i := i0
                replace hlt : i < (xs.length : Int) := hlt
                replace hlt30 : i < 30 := hlt30
                subst hR
                refine ⟨(i + 1, some (v2, n2, c2), L2), ⟨by show 0 ≤ i + 1; omega, by show i + 1 ≤ (xs.length : Int); omega, by show i + 1 ≤ 30; omega, ⟨hc2, hm2⟩, ?_⟩, by show xs.length - (i + 1).toNat < xs.length - i.toNat; omega, ?_⟩
                · show okD (i + 1).toNat _
                  rw [show (i + 1).toNat = i.toNat + 1 by omega]
                  exact hD2
                · subst hA
                  exact told_less (by simp [toldP, getS, A0, wi])
            · cbv
              replace i0 : 0 ≤ i := i0
              replace hlt : i < (xs.length : Int) := hlt
              replace hlt30 : i < 30 := hlt30
              subst hR
              refine ⟨(i + 1, some (v1, n1, c1), L1), ⟨by show 0 ≤ i + 1; omega, by show i + 1 ≤ (xs.length : Int); omega, by show i + 1 ≤ 30; omega, ⟨hc1, hm1⟩, ?_⟩, by show xs.length - (i + 1).toNat < xs.length - i.toNat; omega, ?_⟩
              · show okD (i + 1).toNat _
                rw [show (i + 1).toNat = i.toNat + 1 by omega]
                exact hD1
              · subst hA
                exact told_less (by simp [toldP, getS, A0, wi])
  · obtain ⟨hcs, hm⟩ : cs = cellsF L ∧ m = L.length := hfr
    have hisF : isF cs m := by rw [hcs, hm]; exact isF.mk (hD9.okL (by decide))
    have hO : okD 900 ⟨n, rowF cs, false, false, 0⟩ := by rw [hcs, rowF_cells]; exact hD9
    cbv
    apply cutL2 (X := X) (fun p : List (List PD) => isB p ∧ p.length ≤ 100 ∧ i < xs.length ∧ i < 30) (fun p => [(1, .d (.slc 1 xs)), (5, .d (.sc (.int .i64 n))), (6, .ref 0 0 0), (8, .d (.sc (.int .i64 i))), (9, .d (.slc 1 p))]) (fun _ => [dB n (.view 3 1 v 0 m) false false 0, fB cs v])
    rotate_left
    · intro key
      repeat' first
        | (refine part (fun h => ?_) (fun h => ?_) <;> try cbv)
        | (refine And.intro ?_ ?_)
      all_goals first
        | (subst hA hX hW hFsQ hFsL hFsK hFsM hFsRu; exact ret_v rfl rfl)
        | (intro q; exact q)
        | (intro _; trivial)
        | (subst hA; intro q; simpa [A0] using q)
        | (have h9 : A.cond (A.cmp .lss i (A.len xs)) (A.cmp .lss i 30) false = true := by assumption
           obtain ⟨hlt, hlt30⟩ : i < xs.length ∧ i < 30 := by
             subst hA
             simp only [A0, cond_eq_ite, decide_eq_true_eq, Bool.if_false_right, Bool.and_eq_true] at h9
             exact h9
           obtain ⟨p, hp0, hpb⟩ := hrow i i0 hlt
           have e : A.gl (A.lift (A.row xs i)) 0 = p := by subst hA; simp only [A0, hp0]; rfl
           first
             | (subst hA; exact ⟨i0, hlt⟩)
             | (subst hA; simp only [A0, hp0]; exact ⟨rfl, Nat.le_refl _, rfl⟩)
             | (have h8 : A.cmp .gtr (A.len (A.gl (A.lift (A.row xs i)) 0)) 100 = true := by assumption
                replace h8 : (100 : Int) < p.length := by
                  rw [e] at h8
                  subst hA
                  simp only [A0, decide_eq_true_eq] at h8
                  exact h8
                first
                  | (show A.bnd 0 100 (A.len (A.gl (A.lift (A.row xs i)) 0)); rw [e]; subst hA; exact (⟨by decide, by decide, by omega⟩ : (0 : Int) ≤ 0 ∧ (0 : Int) ≤ 100 ∧ (100 : Int) ≤ (p.length : Int)))
                  | (rw [e]; subst hA; simp only [A0]; show (100 : Int) ≤ (p.length : Int); omega)
                  | (refine pauseL hX (s' := _) (st' := _) ?_ (key (p.take 100) ⟨isB.take hpb _, by simp only [List.length_take]; omega, hlt, hlt30⟩)
                     subst hA
                     exact told_less (by simp [toldP, getS, e]; simp [A0])))
             | (have h8 : A.cmp .gtr (A.len (A.gl (A.lift (A.row xs i)) 0)) 100 = false := by assumption
                replace h8 : ¬ (100 : Int) < p.length := by
                  rw [e] at h8
                  subst hA
                  simp only [A0, decide_eq_false_iff_not] at h8
                  exact h8
                refine pauseL hX (s' := _) (st' := _) ?_ (key p ⟨hpb, by omega, hlt, hlt30⟩)
                exact told_less (by simp [toldP, getS, e])))
        | fail
    · rintro p ⟨hp, hp1, hlt, hlt30⟩
      obtain ⟨nm, hnm, hmay, hsz, hby⟩ := nm_ok i i0
      with_reducible refine goL (T := fun _ => tabY [40] []) (H := fun _ => [kn_within3 GFsQ, kn_runs GFsRu]) (tabY_ok _ _) hH follows_mixed hA hX ?_
      cbv
      obtain ⟨t, ht⟩ : ∃ t, GFsK.tot cs = t := ⟨_, rfl⟩
      have ht1 : t = totF L := by subst ht hFsK; show totX cs = _; unfold totX; rw [hcs, rowF_cells]
      have ht5 : 0 ≤ t ∧ t ≤ n := by
        have h1 := totF_nonneg L
        have h2 := hD9.tot
        simp only at h2
        omega
      cbv at ht
      repeat first
        | (simp only [f1, f2, f3, f4, f5, f6, f7, f8, f9, f10, ht]; cbv)
        | refine And.intro (by
             subst hA hX hW hFsQ hFsL hFsK hFsM hFsRu
             clear hH hB
             first
               | exact trivial
               | exact rfl
               | (simp [A0]; done)
               | (intro q; exact q)
               | (intro q; simpa [A0] using q)
               | (intro _; trivial)
               | (show Region.lexB _ _ = true; kernel_rfl)
               | (show turnsB _ = true; kernel_rfl)
               | assumption) ?_
        | ((with_reducible refine callB hX hB ?_); cbv; fail_if_success show False)
      (with_reducible refine settleL (T := fun _ => tabY [40] []) (H := fun _ => [kn_within3 GFsQ, kn_runs GFsRu]) (R := fun _ => []) (A := A) (tabY_ok _ _) hH noR_ok hA hX ?_)
      cbv
      repeat first
        | (simp only [f1, f2, f3, f4, f5, f6, f7, f8, f9, f10, ht]; cbv)
        | refine And.intro (by
             subst hA hX hW hFsQ hFsL hFsK hFsM hFsRu
             clear hH hB
             first
               | exact trivial
               | exact rfl
               | (simp [A0]; done)
               | (intro q; exact q)
               | (intro q; simpa [A0] using q)
               | (intro _; trivial)
               | (show Region.lexB _ _ = true; kernel_rfl)
               | (show turnsB _ = true; kernel_rfl)
               | assumption) ?_
        | ((with_reducible refine callB hX hB ?_); cbv; fail_if_success show False)
      try refine And.intro (by subst hA; exact hby) ?_
      refine pauseL hX (s' := [(1, .d (.slc 1 xs)), (5, .d (.sc (.int .i64 n))), (6, .ref 0 0 0), (8, .d (.sc (.int .i64 i))), (9, .d (.slc 1 p)), (10, .d (.sc (.int .i64 t))), (11, .d (.sc (.string nm)))]) (st' := _) (told_less (by subst hA hnm; simp [toldP, getS])) ?_
      with_reducible refine goL (T := fun _ => tabY [40] []) (H := fun _ => [kn_within3 GFsQ, kn_runs GFsRu]) (tabY_ok _ _) hH follows_mixed hA hX ?_
      cbv
      by_cases hcap : t + p.length ≤ n
      · have hcap2 : totF L + p.length ≤ n := by rw [← ht1]; exact hcap
        have hy := app_yes (q := n) (L := L) hmay hcap2
        have hD1 : okD (i.toNat + 1) ⟨n, addF L nm p, false, false, 0⟩ := by
          have := hD.app (name := nm) hp
          rw [hy] at this
          exact this
        have htt : totF (addF L nm p) = t + p.length := by rw [addF_tot, ht1]
        obtain ⟨L1, hL1⟩ : ∃ L1, L1 = addF L nm p := ⟨_, rfl⟩
        rw [← hL1] at hy hD1 htt
        refine callL hX (app1 nm p 0 1 L rfl rfl (by decide) hcs hm hD9 hsz hp hy fun v1 n1 c1 hc1 hm1 => ?_)
        cbv
        have hD8 : okD 900 ⟨n, L1, false, false, 0⟩ := hD1.mono (by omega)
        have hF8 := isF_of hc1 hm1 (hD8.okL (by decide))
        have hO8 := okD_of hc1 hD8
        obtain ⟨t1, ht2⟩ : ∃ t1, GFsK.tot c1 = t1 := ⟨_, rfl⟩
        have ht3 : t1 = t + p.length := by
          rw [← htt]
          subst ht2 hFsK
          show totX c1 = _
          unfold totX
          rw [hc1, rowF_cells]
        obtain ⟨r1, hr1⟩ : ∃ r1, GFsM.room c1 n = r1 := ⟨_, rfl⟩
        have hr2 : r1 = n - t1 := by
          subst hr1 ht2 hFsM hFsK
          rfl
        cbv at ht2 hr1
        replace ht3 : t1 = (t + (p.length : Int) : Int) := ht3
        replace hcap : t + (p.length : Int) ≤ n := hcap
        have b1 : A.cmp .eql 0 0 = true := by subst hA; rfl
        have b2 : A.cmp .leq (A.bin .add .i64 t (A.len p)) n = true := by
          subst hA
          simp only [A0, decide_eq_true_eq]
          rw [wrap_i64 (by unfold r64; omega)]
          exact hcap
        have b6 : A.cmp .leq t1 n = true := by subst hA; simp only [A0, decide_eq_true_eq]; omega
        have b7 : A.cmp .gtr t1 n = false := by subst hA; simp only [A0, decide_eq_false_iff_not]; omega
        have b8 : A.cmp .neq r1 (A.bin .sub .i64 n t1) = false := by
          subst hA
          simp only [A0]
          rw [wrap_i64 (by unfold r64; omega)]
          simp [hr2]
        cbv at b1 b2 b6 b7 b8
        refine stepTo (T := fun _ => tabY [40] []) (H := fun _ => [kn_within3 GFsQ, kn_runs GFsRu]) (tabY_ok _ _) hH follows_mixed hA hX [(1, .d (.slc 1 xs)), (5, .d (.sc (.int .i64 n))), (6, .ref 0 0 0), (8, .d (.sc (.int .i64 i))), (10, .d (.sc (.int .i64 t))), (11, .d (.sc (.string nm))), (96, .d (.sc (.bool false)))] [dB n (.view 3 1 v1 0 n1) false false 0, fB c1 v1] (fun R2 hR2 => ?_) ?_
        · show genG _ _ _ _ _ _ _ _ _ _
          repeat
            (refine genS (fun G hG => ?_)
             cbv
             repeat first
               | (simp only [f1, f2, f3, f4, f5, f6, f7, f8, f9, f10, ht2, hr1, b1, b2, b6, b7, b8]; cbv)
               | refine And.intro (by
                    subst hA hX hW hFsQ hFsL hFsK hFsM hFsRu
                    clear hH hB
                    first
                      | exact trivial
                      | exact rfl
                      | (simp [A0]; done)
                      | (intro q; exact q)
                      | (intro q; simpa [A0] using q)
                      | (intro _; trivial)
                      | (show Region.lexB _ _ = true; kernel_rfl)
                      | (show turnsB _ = true; kernel_rfl)
                      | assumption) ?_
               | ((with_reducible refine callB hX hB ?_); cbv; fail_if_success show False)
               | (refine pickL hX (t := true) (by rfl) rfl ?_; cbv)
               | (refine pickL hX (t := false) (by rfl) rfl ?_; cbv)
             subst hG)
          cbv
          clear hH hB hX
          subst hR2
          exact told_less (by simp [toldP, getS])
        · cbv
          have wi : IntKind.wrap .i64 (i + 1) = i + 1 := wrap_i64 (by unfold r64; omega)
          refine And.intro (by subst hA; exact (by decide : (5 : Int) ≠ 0)) ?_
          refine part (fun h5 => ?_) (fun h5 => ?_)
          · cbv
            obtain ⟨d, hd⟩ : ∃ d, GFsL.rd c1 nm = d := ⟨_, rfl⟩
            obtain ⟨fb, hfb⟩ : ∃ b, (GFsL.find c1 nm).2 = b := ⟨_, rfl⟩
            have hrw : rowF c1 = L1 := by rw [hc1, rowF_cells]
            have hd2 : (Dk.mk 0 L1 false false 0).reads nm = d := by
              rw [← hd]
              subst hFsL
              show _ = readsX c1 nm
              unfold readsX
              rw [hrw]
            have hf2 : (findF nm L1 0).2 = fb := by
              rw [← hfb]
              subst hFsL
              show _ = (findX c1 nm).2
              unfold findX
              rw [hrw]
            cbv at hd hfb
            repeat first
              | (simp only [f1, f2, f3, f4, f5, f6, f7, f8, f9, f10, hd, hfb, ht2]; cbv)
              | refine And.intro (by
                   subst hA hX hW hFsQ hFsL hFsK hFsM hFsRu
                   clear hH hB
                   first
                     | exact trivial
                     | exact rfl
                     | (simp [A0]; done)
                     | (intro q; exact q)
                     | (intro q; simpa [A0] using q)
                     | (intro _; trivial)
                     | (show Region.lexB _ _ = true; kernel_rfl)
                     | (show turnsB _ = true; kernel_rfl)
                     | assumption) ?_
              | ((with_reducible refine callB hX hB ?_); cbv; fail_if_success show False)
            cases fb
            · obtain ⟨hrem, hrd⟩ := rem_no (q := n) hf2
              obtain ⟨L2, hL2⟩ : ∃ L2, L2 = L1 := ⟨_, rfl⟩
              have hd0 : d.length = 0 := by rw [← hd2, hrd]; rfl
              have ht7 : totF L2 = t1 - (d.length : Int) := by rw [hL2, hd0, htt, ht3]; simp
              have hD2 : okD (i.toNat + 1) ⟨n, L2, false, false, 0⟩ := by rw [hL2]; exact hD1
              have hrem : (Dk.mk n L1 false false 0).rem nm = (8, ⟨n, L2, false, false, 0⟩) := by rw [hL2]; exact hrem
              have hdb : (0 : Int) ≤ d.length ∧ (d.length : Int) ≤ t1 ∧ t1 ≤ 1048576 := by
                have h1 := totF_nonneg L2
                have h2 := hD8.tot
                have h3 := hD8.q
                simp only at h2 h3
                have h4 : t1 = totF L1 := by rw [htt]; exact ht3
                omega
              with_reducible refine goL (T := fun _ => tabY [40] []) (H := fun _ => [kn_within3 GFsQ, kn_runs GFsRu]) (tabY_ok _ _) hH follows_mixed hA hX ?_
              cbv
              refine callL hX (rem1 nm 0 1 L1 rfl rfl (by decide) hc1 hm1 hD8 hrem fun v2 n2 c2 hc2 hm2 => ?_)
              cbv
              have hF9 := isF_of hc2 hm2 ((hD2.mono (by omega) : okD 900 _).okL (by decide))
              have hO9 := okD_of hc2 (hD2.mono (by omega) : okD 900 _)
              obtain ⟨t3, ht8⟩ : ∃ t3, GFsK.tot c2 = t3 := ⟨_, rfl⟩
              have ht9 : t3 = t1 - (d.length : Int) := by
                rw [← ht7]
                subst ht8 hFsK
                show totX c2 = _
                unfold totX
                rw [hc2, rowF_cells]
              have b9 : A.cmp .neq t3 (A.bin .sub .i64 t1 (A.len d)) = false := by
                have hdl : (0 : Int) ≤ d.length ∧ (d.length : Int) ≤ t1 ∧ t1 ≤ 1048576 := hdb
                subst hA
                simp only [A0]
                rw [wrap_i64 (by unfold r64; omega)]
                simp [ht9]
              cbv at ht8 b9
              repeat first
                | (simp only [f1, f2, f3, f4, f5, f6, f7, f8, f9, f10, ht8, b9]; cbv)
                | refine And.intro (by
                     subst hA hX hW hFsQ hFsL hFsK hFsM hFsRu
                     clear hH hB
                     first
                       | exact trivial
                       | exact rfl
                       | (simp [A0]; done)
                       | (intro q; exact q)
                       | (intro q; simpa [A0] using q)
                       | (intro _; trivial)
                       | (show Region.lexB _ _ = true; kernel_rfl)
                       | (show turnsB _ = true; kernel_rfl)
                       | assumption) ?_
                | ((with_reducible refine callB hX hB ?_); cbv; fail_if_success show False)
                  | (refine pickL hX (t := true) (by rfl) rfl ?_; cbv)
                  | (refine pickL hX (t := false) (by rfl) rfl ?_; cbv)
              replace i0 : 0 ≤ i := i0
              replace hlt : i < (xs.length : Int) := hlt
              replace hlt30 : i < 30 := hlt30
              subst hR
              refine ⟨(i + 1, some (v2, n2, c2), L2), ⟨by show 0 ≤ i + 1; omega, by show i + 1 ≤ (xs.length : Int); omega, by show i + 1 ≤ 30; omega, ⟨hc2, hm2⟩, ?_⟩, by show xs.length - (i + 1).toNat < xs.length - i.toNat; omega, ?_⟩
              · show okD (i + 1).toNat _
                rw [show (i + 1).toNat = i.toNat + 1 by omega]
                exact hD2
              · subst hA
                exact told_less (by simp [toldP, getS, A0, wi])
            · obtain ⟨L2, d2, hrem, ht7, hrd⟩ := rem_yes (q := n) hf2
              have hdd : d2 = d := hrd.symm.trans hd2
              rw [hdd] at ht7
              have ht7 : totF L2 = t1 - (d.length : Int) := by rw [ht7, htt, ht3]
              have hD2 : okD (i.toNat + 1) ⟨n, L2, false, false, 0⟩ := by
                have := hD1.rem nm
                rw [hrem] at this
                exact this
              have hdb : (0 : Int) ≤ d.length ∧ (d.length : Int) ≤ t1 ∧ t1 ≤ 1048576 := by
                have h1 := totF_nonneg L2
                have h2 := hD8.tot
                have h3 := hD8.q
                simp only at h2 h3
                have h4 : t1 = totF L1 := by rw [htt]; exact ht3
                omega
              with_reducible refine goL (T := fun _ => tabY [40] []) (H := fun _ => [kn_within3 GFsQ, kn_runs GFsRu]) (tabY_ok _ _) hH follows_mixed hA hX ?_
              cbv
              refine callL hX (rem1 nm 0 1 L1 rfl rfl (by decide) hc1 hm1 hD8 hrem fun v2 n2 c2 hc2 hm2 => ?_)
              cbv
              have hF9 := isF_of hc2 hm2 ((hD2.mono (by omega) : okD 900 _).okL (by decide))
              have hO9 := okD_of hc2 (hD2.mono (by omega) : okD 900 _)
              obtain ⟨t3, ht8⟩ : ∃ t3, GFsK.tot c2 = t3 := ⟨_, rfl⟩
              have ht9 : t3 = t1 - (d.length : Int) := by
                rw [← ht7]
                subst ht8 hFsK
                show totX c2 = _
                unfold totX
                rw [hc2, rowF_cells]
              have b9 : A.cmp .neq t3 (A.bin .sub .i64 t1 (A.len d)) = false := by
                have hdl : (0 : Int) ≤ d.length ∧ (d.length : Int) ≤ t1 ∧ t1 ≤ 1048576 := hdb
                subst hA
                simp only [A0]
                rw [wrap_i64 (by unfold r64; omega)]
                simp [ht9]
              cbv at ht8 b9
              repeat first
                | (simp only [f1, f2, f3, f4, f5, f6, f7, f8, f9, f10, ht8, b9]; cbv)
                | refine And.intro (by
                     subst hA hX hW hFsQ hFsL hFsK hFsM hFsRu
                     clear hH hB
                     first
                       | exact trivial
                       | exact rfl
                       | (simp [A0]; done)
                       | (intro q; exact q)
                       | (intro q; simpa [A0] using q)
                       | (intro _; trivial)
                       | (show Region.lexB _ _ = true; kernel_rfl)
                       | (show turnsB _ = true; kernel_rfl)
                       | assumption) ?_
                | ((with_reducible refine callB hX hB ?_); cbv; fail_if_success show False)
                  | (refine pickL hX (t := true) (by rfl) rfl ?_; cbv)
                  | (refine pickL hX (t := false) (by rfl) rfl ?_; cbv)
              replace i0 : 0 ≤ i := i0
              replace hlt : i < (xs.length : Int) := hlt
              replace hlt30 : i < 30 := hlt30
              subst hR
              refine ⟨(i + 1, some (v2, n2, c2), L2), ⟨by show 0 ≤ i + 1; omega, by show i + 1 ≤ (xs.length : Int); omega, by show i + 1 ≤ 30; omega, ⟨hc2, hm2⟩, ?_⟩, by show xs.length - (i + 1).toNat < xs.length - i.toNat; omega, ?_⟩
              · show okD (i + 1).toNat _
                rw [show (i + 1).toNat = i.toNat + 1 by omega]
                exact hD2
              · subst hA
                exact told_less (by simp [toldP, getS, A0, wi])
          · cbv
            replace i0 : 0 ≤ i := i0
            replace hlt : i < (xs.length : Int) := hlt
            replace hlt30 : i < 30 := hlt30
            subst hR
            refine ⟨(i + 1, some (v1, n1, c1), L1), ⟨by show 0 ≤ i + 1; omega, by show i + 1 ≤ (xs.length : Int); omega, by show i + 1 ≤ 30; omega, ⟨hc1, hm1⟩, ?_⟩, by show xs.length - (i + 1).toNat < xs.length - i.toNat; omega, ?_⟩
            · show okD (i + 1).toNat _
              rw [show (i + 1).toNat = i.toNat + 1 by omega]
              exact hD1
            · subst hA
              exact told_less (by simp [toldP, getS, A0, wi])
      · have hy := app_no (q := n) (L := L) (nm := nm) (p := p) hmay (by rw [← ht1]; exact hcap)
        have hD1 : okD (i.toNat + 1) ⟨n, L, false, false, 0⟩ := hD.mono (Nat.le_succ _)
        have htt : totF L = t := by rw [ht1]
        obtain ⟨L1, hL1⟩ : ∃ L1, L1 = L := ⟨_, rfl⟩
        rw [← hL1] at hD1 htt
        refine callL hX (app1 nm p 0 1 L rfl rfl (by decide) hcs hm hD9 hsz hp hy fun v1 n1 c1 hc1 hm1 => ?_)
        rw [← hL1] at hc1 hm1
        cbv
        have hD8 : okD 900 ⟨n, L1, false, false, 0⟩ := hD1.mono (by omega)
        have hF8 := isF_of hc1 hm1 (hD8.okL (by decide))
        have hO8 := okD_of hc1 hD8
        obtain ⟨t1, ht2⟩ : ∃ t1, GFsK.tot c1 = t1 := ⟨_, rfl⟩
        have ht3 : t1 = t := by
          rw [← htt]
          subst ht2 hFsK
          show totX c1 = _
          unfold totX
          rw [hc1, rowF_cells]
        obtain ⟨r1, hr1⟩ : ∃ r1, GFsM.room c1 n = r1 := ⟨_, rfl⟩
        have hr2 : r1 = n - t1 := by
          subst hr1 ht2 hFsM hFsK
          rfl
        cbv at ht2 hr1
        replace ht3 : t1 = (t : Int) := ht3
        replace hcap : ¬ t + (p.length : Int) ≤ n := hcap
        have b1 : A.cmp .eql 7 0 = false := by subst hA; rfl
        have b2 : A.cmp .leq (A.bin .add .i64 t (A.len p)) n = false := by
          subst hA
          simp only [A0, decide_eq_false_iff_not]
          rw [wrap_i64 (by unfold r64; omega)]
          exact hcap
        have b6 : A.cmp .neq t1 t = false := by subst hA; simp [A0, ht3]
        have b7 : A.cmp .gtr t1 n = false := by subst hA; simp only [A0, decide_eq_false_iff_not]; omega
        have b8 : A.cmp .neq r1 (A.bin .sub .i64 n t1) = false := by
          subst hA
          simp only [A0]
          rw [wrap_i64 (by unfold r64; omega)]
          simp [hr2]
        cbv at b1 b2 b6 b7 b8
        refine stepTo (T := fun _ => tabY [40] []) (H := fun _ => [kn_within3 GFsQ, kn_runs GFsRu]) (tabY_ok _ _) hH follows_mixed hA hX [(1, .d (.slc 1 xs)), (5, .d (.sc (.int .i64 n))), (6, .ref 0 0 0), (8, .d (.sc (.int .i64 i))), (10, .d (.sc (.int .i64 t))), (11, .d (.sc (.string nm))), (96, .d (.sc (.bool false)))] [dB n (.view 3 1 v1 0 n1) false false 0, fB c1 v1] (fun R2 hR2 => ?_) ?_
        · show genG _ _ _ _ _ _ _ _ _ _
          repeat
            (refine genS (fun G hG => ?_)
             cbv
             repeat first
               | (simp only [f1, f2, f3, f4, f5, f6, f7, f8, f9, f10, ht2, hr1, b1, b2, b6, b7, b8]; cbv)
               | refine And.intro (by
                    subst hA hX hW hFsQ hFsL hFsK hFsM hFsRu
                    clear hH hB
                    first
                      | exact trivial
                      | exact rfl
                      | (simp [A0]; done)
                      | (intro q; exact q)
                      | (intro q; simpa [A0] using q)
                      | (intro _; trivial)
                      | (show Region.lexB _ _ = true; kernel_rfl)
                      | (show turnsB _ = true; kernel_rfl)
                      | assumption) ?_
               | ((with_reducible refine callB hX hB ?_); cbv; fail_if_success show False)
               | (refine pickL hX (t := true) (by rfl) rfl ?_; cbv)
               | (refine pickL hX (t := false) (by rfl) rfl ?_; cbv)
             subst hG)
          cbv
          clear hH hB hX
          subst hR2
          exact told_less (by simp [toldP, getS])
        · cbv
          have wi : IntKind.wrap .i64 (i + 1) = i + 1 := wrap_i64 (by unfold r64; omega)
          refine And.intro (by subst hA; exact (by decide : (5 : Int) ≠ 0)) ?_
          refine part (fun h5 => ?_) (fun h5 => ?_)
          · cbv
            obtain ⟨d, hd⟩ : ∃ d, GFsL.rd c1 nm = d := ⟨_, rfl⟩
            obtain ⟨fb, hfb⟩ : ∃ b, (GFsL.find c1 nm).2 = b := ⟨_, rfl⟩
            have hrw : rowF c1 = L1 := by rw [hc1, rowF_cells]
            have hd2 : (Dk.mk 0 L1 false false 0).reads nm = d := by
              rw [← hd]
              subst hFsL
              show _ = readsX c1 nm
              unfold readsX
              rw [hrw]
            have hf2 : (findF nm L1 0).2 = fb := by
              rw [← hfb]
              subst hFsL
              show _ = (findX c1 nm).2
              unfold findX
              rw [hrw]
            cbv at hd hfb
            repeat first
              | (simp only [f1, f2, f3, f4, f5, f6, f7, f8, f9, f10, hd, hfb, ht2]; cbv)
              | refine And.intro (by
                   subst hA hX hW hFsQ hFsL hFsK hFsM hFsRu
                   clear hH hB
                   first
                     | exact trivial
                     | exact rfl
                     | (simp [A0]; done)
                     | (intro q; exact q)
                     | (intro q; simpa [A0] using q)
                     | (intro _; trivial)
                     | (show Region.lexB _ _ = true; kernel_rfl)
                     | (show turnsB _ = true; kernel_rfl)
                     | assumption) ?_
              | ((with_reducible refine callB hX hB ?_); cbv; fail_if_success show False)
            cases fb
            · obtain ⟨hrem, hrd⟩ := rem_no (q := n) hf2
              obtain ⟨L2, hL2⟩ : ∃ L2, L2 = L1 := ⟨_, rfl⟩
              have hd0 : d.length = 0 := by rw [← hd2, hrd]; rfl
              have ht7 : totF L2 = t1 - (d.length : Int) := by rw [hL2, hd0, htt, ht3]; simp
              have hD2 : okD (i.toNat + 1) ⟨n, L2, false, false, 0⟩ := by rw [hL2]; exact hD1
              have hrem : (Dk.mk n L1 false false 0).rem nm = (8, ⟨n, L2, false, false, 0⟩) := by rw [hL2]; exact hrem
              have hdb : (0 : Int) ≤ d.length ∧ (d.length : Int) ≤ t1 ∧ t1 ≤ 1048576 := by
                have h1 := totF_nonneg L2
                have h2 := hD8.tot
                have h3 := hD8.q
                simp only at h2 h3
                have h4 : t1 = totF L1 := by rw [htt]; exact ht3
                omega
              with_reducible refine goL (T := fun _ => tabY [40] []) (H := fun _ => [kn_within3 GFsQ, kn_runs GFsRu]) (tabY_ok _ _) hH follows_mixed hA hX ?_
              cbv
              refine callL hX (rem1 nm 0 1 L1 rfl rfl (by decide) hc1 hm1 hD8 hrem fun v2 n2 c2 hc2 hm2 => ?_)
              cbv
              have hF9 := isF_of hc2 hm2 ((hD2.mono (by omega) : okD 900 _).okL (by decide))
              have hO9 := okD_of hc2 (hD2.mono (by omega) : okD 900 _)
              obtain ⟨t3, ht8⟩ : ∃ t3, GFsK.tot c2 = t3 := ⟨_, rfl⟩
              have ht9 : t3 = t1 - (d.length : Int) := by
                rw [← ht7]
                subst ht8 hFsK
                show totX c2 = _
                unfold totX
                rw [hc2, rowF_cells]
              have b9 : A.cmp .neq t3 (A.bin .sub .i64 t1 (A.len d)) = false := by
                have hdl : (0 : Int) ≤ d.length ∧ (d.length : Int) ≤ t1 ∧ t1 ≤ 1048576 := hdb
                subst hA
                simp only [A0]
                rw [wrap_i64 (by unfold r64; omega)]
                simp [ht9]
              cbv at ht8 b9
              repeat first
                | (simp only [f1, f2, f3, f4, f5, f6, f7, f8, f9, f10, ht8, b9]; cbv)
                | refine And.intro (by
                     subst hA hX hW hFsQ hFsL hFsK hFsM hFsRu
                     clear hH hB
                     first
                       | exact trivial
                       | exact rfl
                       | (simp [A0]; done)
                       | (intro q; exact q)
                       | (intro q; simpa [A0] using q)
                       | (intro _; trivial)
                       | (show Region.lexB _ _ = true; kernel_rfl)
                       | (show turnsB _ = true; kernel_rfl)
                       | assumption) ?_
                | ((with_reducible refine callB hX hB ?_); cbv; fail_if_success show False)
                  | (refine pickL hX (t := true) (by rfl) rfl ?_; cbv)
                  | (refine pickL hX (t := false) (by rfl) rfl ?_; cbv)
              replace i0 : 0 ≤ i := i0
              replace hlt : i < (xs.length : Int) := hlt
              replace hlt30 : i < 30 := hlt30
              subst hR
              refine ⟨(i + 1, some (v2, n2, c2), L2), ⟨by show 0 ≤ i + 1; omega, by show i + 1 ≤ (xs.length : Int); omega, by show i + 1 ≤ 30; omega, ⟨hc2, hm2⟩, ?_⟩, by show xs.length - (i + 1).toNat < xs.length - i.toNat; omega, ?_⟩
              · show okD (i + 1).toNat _
                rw [show (i + 1).toNat = i.toNat + 1 by omega]
                exact hD2
              · subst hA
                exact told_less (by simp [toldP, getS, A0, wi])
            · obtain ⟨L2, d2, hrem, ht7, hrd⟩ := rem_yes (q := n) hf2
              have hdd : d2 = d := hrd.symm.trans hd2
              rw [hdd] at ht7
              have ht7 : totF L2 = t1 - (d.length : Int) := by rw [ht7, htt, ht3]
              have hD2 : okD (i.toNat + 1) ⟨n, L2, false, false, 0⟩ := by
                have := hD1.rem nm
                rw [hrem] at this
                exact this
              have hdb : (0 : Int) ≤ d.length ∧ (d.length : Int) ≤ t1 ∧ t1 ≤ 1048576 := by
                have h1 := totF_nonneg L2
                have h2 := hD8.tot
                have h3 := hD8.q
                simp only at h2 h3
                have h4 : t1 = totF L1 := by rw [htt]; exact ht3
                omega
              with_reducible refine goL (T := fun _ => tabY [40] []) (H := fun _ => [kn_within3 GFsQ, kn_runs GFsRu]) (tabY_ok _ _) hH follows_mixed hA hX ?_
              cbv
              refine callL hX (rem1 nm 0 1 L1 rfl rfl (by decide) hc1 hm1 hD8 hrem fun v2 n2 c2 hc2 hm2 => ?_)
              cbv
              have hF9 := isF_of hc2 hm2 ((hD2.mono (by omega) : okD 900 _).okL (by decide))
              have hO9 := okD_of hc2 (hD2.mono (by omega) : okD 900 _)
              obtain ⟨t3, ht8⟩ : ∃ t3, GFsK.tot c2 = t3 := ⟨_, rfl⟩
              have ht9 : t3 = t1 - (d.length : Int) := by
                rw [← ht7]
                subst ht8 hFsK
                show totX c2 = _
                unfold totX
                rw [hc2, rowF_cells]
              have b9 : A.cmp .neq t3 (A.bin .sub .i64 t1 (A.len d)) = false := by
                have hdl : (0 : Int) ≤ d.length ∧ (d.length : Int) ≤ t1 ∧ t1 ≤ 1048576 := hdb
                subst hA
                simp only [A0]
                rw [wrap_i64 (by unfold r64; omega)]
                simp [ht9]
              cbv at ht8 b9
              repeat first
                | (simp only [f1, f2, f3, f4, f5, f6, f7, f8, f9, f10, ht8, b9]; cbv)
                | refine And.intro (by
                     subst hA hX hW hFsQ hFsL hFsK hFsM hFsRu
                     clear hH hB
                     first
                       | exact trivial
                       | exact rfl
                       | (simp [A0]; done)
                       | (intro q; exact q)
                       | (intro q; simpa [A0] using q)
                       | (intro _; trivial)
                       | (show Region.lexB _ _ = true; kernel_rfl)
                       | (show turnsB _ = true; kernel_rfl)
                       | assumption) ?_
                | ((with_reducible refine callB hX hB ?_); cbv; fail_if_success show False)
                  | (refine pickL hX (t := true) (by rfl) rfl ?_; cbv)
                  | (refine pickL hX (t := false) (by rfl) rfl ?_; cbv)
              replace i0 : 0 ≤ i := i0
              replace hlt : i < (xs.length : Int) := hlt
              replace hlt30 : i < 30 := hlt30
              subst hR
              refine ⟨(i + 1, some (v2, n2, c2), L2), ⟨by show 0 ≤ i + 1; omega, by show i + 1 ≤ (xs.length : Int); omega, by show i + 1 ≤ 30; omega, ⟨hc2, hm2⟩, ?_⟩, by show xs.length - (i + 1).toNat < xs.length - i.toNat; omega, ?_⟩
              · show okD (i + 1).toNat _
                rw [show (i + 1).toNat = i.toNat + 1 by omega]
                exact hD2
              · subst hA
                exact told_less (by simp [toldP, getS, A0, wi])
          · cbv
            replace i0 : 0 ≤ i := i0
            replace hlt : i < (xs.length : Int) := hlt
            replace hlt30 : i < 30 := hlt30
            subst hR
            refine ⟨(i + 1, some (v1, n1, c1), L1), ⟨by show 0 ≤ i + 1; omega, by show i + 1 ≤ (xs.length : Int); omega, by show i + 1 ≤ 30; omega, ⟨hc1, hm1⟩, ?_⟩, by show xs.length - (i + 1).toNat < xs.length - i.toNat; omega, ?_⟩
            · show okD (i + 1).toNat _
              rw [show (i + 1).toNat = i.toNat + 1 by omega]
              exact hD1
            · subst hA
              exact told_less (by simp [toldP, getS, A0, wi])

end Go.Proofs.Ytmjmbfcfnhnpmaa
