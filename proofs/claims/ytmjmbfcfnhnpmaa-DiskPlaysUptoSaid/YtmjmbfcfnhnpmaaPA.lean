/- Chapter 8's runs. No condition. -/
import Derived.Test.YtmjmbfcfnhnpmaaDkY
import Derived.Test.YtmjmbfcfnhnpmaaAm44
namespace Go.Proofs.Ytmjmbfcfnhnpmaa
open Go.RowKit
set_option linter.all false
set_option maxHeartbeats 4000000
theorem okq9 : (FsL0.okq 9) := ⟨by decide, by decide⟩
theorem okD_one {q l : Int} {f : FileM} {o a : Bool} (hq : 0 ≤ q ∧ q ≤ 1048576) (hl : 0 ≤ l ∧ l ≤ 9223372036854775807) (hf : okFile f) (ht : (f.data.length : Int) ≤ q) : okD 900 ⟨q, [f], o, a, l⟩ :=
  ⟨hq, by simp [totF]; exact ht, by simp, by simpa using hf, hl⟩
theorem okD_two {q l : Int} {f g : FileM} {o a : Bool} (hq : 0 ≤ q ∧ q ≤ 1048576) (hl : 0 ≤ l ∧ l ≤ 9223372036854775807) (hf : okFile f) (hg : okFile g) (ht : (f.data.length : Int) + g.data.length ≤ q) : okD 900 ⟨q, [f, g], o, a, l⟩ :=
  ⟨hq, by simp [totF]; omega, by simp, by simpa using ⟨hf, hg⟩, hl⟩
theorem okD_nil {q l : Int} {o a : Bool} (hq : 0 ≤ q ∧ q ≤ 1048576) (hl : 0 ≤ l ∧ l ≤ 9223372036854775807) : okD 900 ⟨q, [], o, a, l⟩ := ⟨hq, by simp [totF]; exact hq.1, by simp, by simp, hl⟩
abbrev nmA : ByteArray := { data := { toList := [97] } }
abbrev nmB : ByteArray := { data := { toList := [98] } }
theorem isB_bytes (bs : List UInt8) (h : bs.length ≤ 4000000) : isB (bytesP bs) := ⟨bs, rfl, h⟩
theorem okF_bytes (n : ByteArray) (bs : List UInt8) (k : Int) (h : bs.length ≤ 4000000) (h0 : 0 ≤ k) (h1 : k ≤ bs.length) : okFile ⟨n, bytesP bs, k⟩ := ⟨isB_bytes bs h, h0, by rw [bytesP_length]; exact h1⟩
theorem fzF {cs : List DV} {L : List FileM} (h : cs = cellsF L) {b v sz : Nat} {xs : List (List PD)} : fzL b v sz xs cs = cellsF L := by
  rw [fzL_eq, h, cellsF, rowsD, List.map_map]
  rfl
theorem isF_of {cs : List DV} {n : Nat} {L : List FileM} (h : cs = cellsF L) (hn : n = L.length) (hk : okL L) : isF cs n := by subst h hn; exact isF.mk hk
theorem okD_of {cs : List DV} {L : List FileM} {q l : Int} {o a : Bool} (h : cs = cellsF L) (hk : okD 900 ⟨q, L, o, a, l⟩) : okD 900 ⟨q, rowF cs, o, a, l⟩ := by subst h; rw [rowF_cells]; exact hk
set_option maxRecDepth 100000 in
theorem v_runs : FnV Try.prog 3 [] (boolD true) := by
  have okA : ∀ (k : Int) (bs : List UInt8) (o a : Bool) (l : Int), 0 ≤ k → k ≤ bs.length → bs.length ≤ 9 → 0 ≤ l → l ≤ 1 → okD 900 ⟨9, [⟨nmA, bytesP bs, k⟩], o, a, l⟩ := fun k bs o a l h0 h1 h2 h3 h4 => okD_one (by decide) (by omega) (okF_bytes _ _ _ (by omega) h0 h1) (by simp only [bytesP_length]; omega)
  have ok1 := okA 0 [1, 2, 3] false false 0 (by decide) (by decide) (by decide) (by decide) (by decide)
  have ok2 := okA 3 [1, 2, 3] false false 0 (by decide) (by decide) (by decide) (by decide) (by decide)
  have ok3 := okA 3 [1, 2, 3, 4, 5] false false 0 (by decide) (by decide) (by decide) (by decide) (by decide)
  have ok4 := okA 4 [1, 2, 3, 4] false false 0 (by decide) (by decide) (by decide) (by decide) (by decide)
  have ok5 := okA 4 [1, 2, 3, 4] false true 1 (by decide) (by decide) (by decide) (by decide) (by decide)
  have ok6 : okD 900 ⟨9, [⟨nmA, bytesP [1, 2, 3, 4], 4⟩, ⟨nmB, bytesP [1], 0⟩], false, true, 0⟩ := okD_two (by decide) (by decide) (okF_bytes _ _ _ (by decide) (by decide) (by decide)) (okF_bytes _ _ _ (by decide) (by decide) (by decide)) (by decide)
  obtain ⟨GFsQ, hFsQ⟩ : ∃ F, F = FsQ0 := ⟨_, rfl⟩
  obtain ⟨GFsL, hFsL⟩ : ∃ F, F = FsL0 := ⟨_, rfl⟩
  obtain ⟨GFsK, hFsK⟩ : ∃ F, F = FsK0 := ⟨_, rfl⟩
  have hH : SoundK Try.prog [kn_same GFsQ] := by subst hFsQ hFsL hFsK; exact orK_ok ok_same noK_ok
  have hB : SoundB Try.prog [kb_new GFsL, kb_read GFsL, kb_arm GFsL, kb_off GFsK, fzB (liftK (kn_same GFsQ))] := by subst hFsQ hFsL hFsK; exact orB_ok okb_new (orB_ok okb_read (orB_ok okb_arm (orB_ok okb_off (orB_ok (okb_fz (okb_lift ok_same)) noB_ok))))
  refine FnD_cbv (T := fun _ => tabY [] []) (H := fun _ => [kn_same GFsQ]) (tabY_ok _ _) hH follows_mixed Try.func3 rfl Try.ntmps3 (by simp) fun A X W hA hX hW => ?_
  cbv
  have f1 : A.cmp .neq 0 0 = false := by subst hA; rfl
  cbv at f1
  have f2 : A.cond false true false = false := by subst hA; rfl
  cbv at f2
  have m1 : GFsL.ge 1 = true := by subst hFsL; rfl
  cbv at m1
  have m2 : GFsL.mx 1 = 1 := by subst hFsL; rfl
  cbv at m2
  have m3 : A.nat 6 = 6 := by subst hA; rfl
  cbv at m3
  have m4 : A.rep 6 [.d (.sc (.int .u8 0))] = [.d (.sc (.int .u8 0)), .d (.sc (.int .u8 0)), .d (.sc (.int .u8 0)), .d (.sc (.int .u8 0)), .d (.sc (.int .u8 0)), .d (.sc (.int .u8 0))] := by subst hA; rfl
  cbv at m4
  have m5 : A.ext 6 6 = false := by subst hA; rfl
  cbv at m5
  repeat first
    | (simp only [f1, f2, m1, m2, m3, m4, m5]; cbv)
    | refine And.intro (by
         subst hA hX hW hFsQ hFsL hFsK
         clear hH hB
         first
           | exact trivial
           | exact rfl
           | (simp [A0]; done)
           | (intro q; exact q)
           | (intro q; simpa [A0] using q)
           | (intro _; trivial)
           | (show Region.lexB _ _ = true; kernel_rfl)
           | (show turnsB _ = true; kernel_rfl)
           | exact okq9
           | assumption) ?_
    | ((with_reducible refine callB hX hB ?_); cbv; fail_if_success show False)
  refine callL hX (FnD.freeze 1 1 (bytesP [1, 2, 3]) _ rfl rfl rfl (by intro x hx; simp [bytesP, intsX] at hx; (try rcases hx with rfl | rfl | rfl | rfl | rfl | rfl) <;> (try subst hx) <;> rfl) (app0 nmA (bytesP [1, 2, 3]) 0 (e := 0) (q' := 9) (L' := [⟨nmA, bytesP [1, 2, 3], 0⟩]) (o' := false) (a' := false) (l' := 0) rfl (okD_nil (by decide) (by decide)) (by decide) (isB_bytes _ (by decide)) (by kernel_rfl) (fun h => by cases h) fun v1 n1 c1 hc1 hn1 => ?_))
  cbv
  repeat first
    | (simp only [f1, f2, m1, m2, m3, m4, m5]; cbv)
    | refine And.intro (by
         subst hA hX hW hFsQ hFsL hFsK
         clear hH hB
         first
           | exact trivial
           | exact rfl
           | (simp [A0]; done)
           | (intro q; exact q)
           | (intro q; simpa [A0] using q)
           | (intro _; trivial)
           | (show Region.lexB _ _ = true; kernel_rfl)
           | (show turnsB _ = true; kernel_rfl)
           | exact okq9
           | assumption) ?_
    | ((with_reducible refine callB hX hB ?_); cbv; fail_if_success show False)
  refine callL hX (sync1 nmA 0 2 [⟨nmA, bytesP [1, 2, 3], 0⟩] (e := 0) (q' := 9) (L' := [⟨nmA, bytesP [1, 2, 3], 3⟩]) (o' := false) (a' := false) (l' := 0)  rfl rfl (by decide) hc1 hn1 ok1 (by kernel_rfl) fun v2 n2 c2 hc2 hn2 => ?_)
  cbv
  repeat first
    | (simp only [f1, f2, m1, m2, m3, m4, m5]; cbv)
    | refine And.intro (by
         subst hA hX hW hFsQ hFsL hFsK
         clear hH hB
         first
           | exact trivial
           | exact rfl
           | (simp [A0]; done)
           | (intro q; exact q)
           | (intro q; simpa [A0] using q)
           | (intro _; trivial)
           | (show Region.lexB _ _ = true; kernel_rfl)
           | (show turnsB _ = true; kernel_rfl)
           | exact okq9
           | assumption) ?_
    | ((with_reducible refine callB hX hB ?_); cbv; fail_if_success show False)
  refine callL hX (FnD.freeze 3 1 (bytesP [4, 5]) _ rfl rfl rfl (by intro x hx; simp [bytesP, intsX] at hx; (try rcases hx with rfl | rfl | rfl | rfl | rfl | rfl) <;> (try subst hx) <;> rfl) (app1 nmA (bytesP [4, 5]) 0 2 [⟨nmA, bytesP [1, 2, 3], 3⟩] (e := 0) (q' := 9) (L' := [⟨nmA, bytesP [1, 2, 3, 4, 5], 3⟩]) (o' := false) (a' := false) (l' := 0)  rfl rfl (by decide) (fzF hc2) hn2 ok2 (by decide) (isB_bytes _ (by decide)) (by kernel_rfl) fun v3 n3 c3 hc3 hn3 => ?_))
  cbv
  repeat first
    | (simp only [f1, f2, m1, m2, m3, m4, m5]; cbv)
    | refine And.intro (by
         subst hA hX hW hFsQ hFsL hFsK
         clear hH hB
         first
           | exact trivial
           | exact rfl
           | (simp [A0]; done)
           | (intro q; exact q)
           | (intro q; simpa [A0] using q)
           | (intro _; trivial)
           | (show Region.lexB _ _ = true; kernel_rfl)
           | (show turnsB _ = true; kernel_rfl)
           | exact okq9
           | assumption) ?_
    | ((with_reducible refine callB hX hB ?_); cbv; fail_if_success show False)
  refine callL hX (FnD.freeze 4 1 (intsX [1]) _ rfl rfl rfl (by intro x hx; simp [bytesP, intsX] at hx; (try rcases hx with rfl | rfl | rfl | rfl | rfl | rfl) <;> (try subst hx) <;> rfl) (crash1 [1] 0 2 [⟨nmA, bytesP [1, 2, 3, 4, 5], 3⟩] (e := 0) (q' := 9) (L' := [⟨nmA, bytesP [1, 2, 3, 4], 4⟩]) (o' := false) (a' := false) (l' := 0)  rfl rfl (by decide) (fzF hc3) hn3 ok3 (by decide) (by intro p hp; simp at hp; subst hp; exact ⟨by decide, by decide⟩) (by kernel_rfl) fun v4 n4 c4 hc4 hn4 => ?_))
  cbv
  have hF4 := isF_of hc4 hn4 (ok4.okL (by decide))
  have hO4 := okD_of hc4 ok4
  repeat first
    | (simp only [f1, f2, m1, m2, m3, m4, m5]; cbv)
    | refine And.intro (by
         subst hA hX hW hFsQ hFsL hFsK
         clear hH hB
         first
           | exact trivial
           | exact rfl
           | (simp [A0]; done)
           | (intro q; exact q)
           | (intro q; simpa [A0] using q)
           | (intro _; trivial)
           | (show Region.lexB _ _ = true; kernel_rfl)
           | (show turnsB _ = true; kernel_rfl)
           | exact okq9
           | assumption) ?_
    | ((with_reducible refine callB hX hB ?_); cbv; fail_if_success show False)
  refine callL hX (FnD.freeze 5 1 (bytesP [0, 0, 0, 0, 0, 0]) _ rfl rfl rfl (by intro x hx; simp [bytesP, intsX] at hx; (try rcases hx with rfl | rfl | rfl | rfl | rfl | rfl) <;> (try subst hx) <;> rfl) (app1 nmB (bytesP [0, 0, 0, 0, 0, 0]) 0 2 [⟨nmA, bytesP [1, 2, 3, 4], 4⟩] (e := 7) (q' := 9) (L' := [⟨nmA, bytesP [1, 2, 3, 4], 4⟩]) (o' := false) (a' := false) (l' := 0)  rfl rfl (by decide) (fzF hc4) hn4 ok4 (by decide) (isB_bytes _ (by decide)) (by kernel_rfl) fun v5 n5 c5 hc5 hn5 => ?_))
  cbv
  have hF5 := isF_of hc5 hn5 (ok4.okL (by decide))
  repeat first
    | (simp only [f1, f2, m1, m2, m3, m4, m5]; cbv)
    | refine And.intro (by
         subst hA hX hW hFsQ hFsL hFsK
         clear hH hB
         first
           | exact trivial
           | exact rfl
           | (simp [A0]; done)
           | (intro q; exact q)
           | (intro q; simpa [A0] using q)
           | (intro _; trivial)
           | (show Region.lexB _ _ = true; kernel_rfl)
           | (show turnsB _ = true; kernel_rfl)
           | exact okq9
           | assumption) ?_
    | ((with_reducible refine callB hX hB ?_); cbv; fail_if_success show False)
  refine callL hX (FnD.freeze 6 1 (bytesP [1]) _ rfl rfl rfl (by intro x hx; simp [bytesP, intsX] at hx; (try rcases hx with rfl | rfl | rfl | rfl | rfl | rfl) <;> (try subst hx) <;> rfl) (app1 nmB (bytesP [1]) 0 2 [⟨nmA, bytesP [1, 2, 3, 4], 4⟩] (e := 0) (q' := 9) (L' := [⟨nmA, bytesP [1, 2, 3, 4], 4⟩, ⟨nmB, bytesP [1], 0⟩]) (o' := false) (a' := true) (l' := 0)  rfl rfl (by decide) (fzF hc5) hn5 ok5 (by decide) (isB_bytes _ (by decide)) (by kernel_rfl) fun v6 n6 c6 hc6 hn6 => ?_))
  cbv
  repeat first
    | (simp only [f1, f2, m1, m2, m3, m4, m5]; cbv)
    | refine And.intro (by
         subst hA hX hW hFsQ hFsL hFsK
         clear hH hB
         first
           | exact trivial
           | exact rfl
           | (simp [A0]; done)
           | (intro q; exact q)
           | (intro q; simpa [A0] using q)
           | (intro _; trivial)
           | (show Region.lexB _ _ = true; kernel_rfl)
           | (show turnsB _ = true; kernel_rfl)
           | exact okq9
           | assumption) ?_
    | ((with_reducible refine callB hX hB ?_); cbv; fail_if_success show False)
  refine callL hX (sync1 nmB 0 2 [⟨nmA, bytesP [1, 2, 3, 4], 4⟩, ⟨nmB, bytesP [1], 0⟩] (e := 10) (q' := 9) (L' := [⟨nmA, bytesP [1, 2, 3, 4], 4⟩, ⟨nmB, bytesP [1], 0⟩]) (o' := true) (a' := true) (l' := 0)  rfl rfl (by decide) hc6 hn6 ok6 (by kernel_rfl) fun v7 n7 c7 hc7 hn7 => ?_)
  cbv
  have hF7 := isF_of hc7 hn7 (ok6.okL (by decide))
  have hrd : readsX c4 nmA = bytesP [1, 2, 3, 4] := by rw [hc4]; unfold readsX; rw [rowF_cells]; kernel_rfl
  have hB1 : isB (readsX c4 nmA) := by rw [hrd]; exact isB_bytes _ (by decide)
  have hB2 : isB (bytesP [1, 2, 3, 4]) := isB_bytes _ (by decide)
  have e9 : GFsQ.same (GFsL.rd c4 { data := { toList := [97] } }) [[.sc (.int .u8 1)], [.sc (.int .u8 2)], [.sc (.int .u8 3)], [.sc (.int .u8 4)]] = true := by
    subst hFsQ hFsL
    exact (sameB_eq _ _).2 hrd
  cbv at e9
  have q1 : A.cmp .eql 7 7 = true := by subst hA; rfl
  cbv at q1
  have q2 : A.cmp .eql 0 0 = true := by subst hA; rfl
  cbv at q2
  have q3 : A.cmp .eql 10 10 = true := by subst hA; rfl
  cbv at q3
  have q4 : A.cond true true false = true := by subst hA; rfl
  cbv at q4
  subst hn7 hc7
  try cbv
  repeat first
    | (simp only [f1, f2, m1, m2, m3, m4, m5, e9, q1, q2, q3, q4]; cbv)
    | refine And.intro (by
         subst hA hX hW hFsQ hFsL hFsK
         clear hH hB
         first
           | exact trivial
           | exact rfl
           | (simp [A0]; done)
           | (intro q; exact q)
           | (intro q; simpa [A0] using q)
           | (intro _; trivial)
           | (show Region.lexB _ _ = true; kernel_rfl)
           | (show turnsB _ = true; kernel_rfl)
           | exact okq9
           | assumption) ?_
    | ((with_reducible refine callB hX hB ?_); cbv; fail_if_success show False)
  subst hA hX hW hFsQ hFsL hFsK
  exact ret_v (congrArg boolD rfl) rfl
def runsX : Bool := true
structure FsRu where
  runs : Bool
def FsRu0 : FsRu where
  runs := runsX
def kn_runs (F : FsRu) : FuncId × (List DV → RV) := (3, fun args => match args with
  | [] => some ([], boolD F.runs)
  | _ => none)
theorem ok_runs (args : List DV) (cs : List Prop) (r : DV) (h : (kn_runs FsRu0).2 args = some (cs, r)) (hc : allP cs True) : FnV Try.prog 3 args r ∧ closedL 0 args = true := by
  unfold kn_runs at h
  simp only at h
  split at h
  · cases h; exact ⟨v_runs, rfl⟩
  · cases h
end Go.Proofs.Ytmjmbfcfnhnpmaa
namespace Go.Proofs.Ytmjmbfcfnhnpmaa
open Go.RowKit
set_option linter.all false
theorem totF_mem {L : List FileM} {f : FileM} (h : f ∈ L) : (f.data.length : Int) ≤ totF L := by
  induction L with
  | nil => cases h
  | cons g L ih =>
    have h0 := totF_nonneg L
    rcases List.mem_cons.1 h with rfl | h
    · simp only [totF]; omega
    · have := ih h
      simp only [totF]; omega
theorem totF_set {L : List FileM} {i : Nat} {f g : FileM} (h : L[i]? = some f) : totF (L.set i g) = totF L - f.data.length + g.data.length := by
  induction L generalizing i with
  | nil => simp at h
  | cons a L ih =>
    cases i with
    | zero => simp at h; subst h; simp only [List.set_cons_zero, totF]; omega
    | succ i =>
      simp at h
      have := ih h
      simp only [List.set_cons_succ, totF, this]; omega
theorem totF_ins (L : List FileM) (k : Nat) (g : FileM) : totF (L.take k ++ [g] ++ L.drop k) = totF L + g.data.length := by
  have e := totF_append (L.take k) (L.drop k)
  rw [List.take_append_drop] at e
  rw [totF_append, totF_append]
  simp only [totF]
  omega
theorem find_some {L : List FileM} {name : ByteArray} (h : (findF name L 0).2 = true) : ∃ f, L[(findF name L 0).1.toNat]? = some f ∧ f.name = name := by
  have := find_get h
  simpa using this
theorem addF_tot (L : List FileM) (name : ByteArray) (p : List (List PD)) : totF (addF L name p) = totF L + p.length := by
  unfold addF
  split
  · rename_i h
    obtain ⟨f, h1, _⟩ := find_some h
    rw [h1]
    simp only
    rw [totF_set h1, List.length_append]
    omega
  · rw [totF_ins]
theorem addF_len (L : List FileM) (name : ByteArray) (p : List (List PD)) : (addF L name p).length ≤ L.length + 1 := by
  unfold addF
  split
  · split
    · rw [List.length_set]; omega
    · omega
  · simp; omega
theorem isB.app {a b : List (List PD)} (ha : isB a) (hb : isB b) (h : a.length + b.length ≤ 4000000) : isB (a ++ b) := by
  obtain ⟨x, rfl, _⟩ := ha
  obtain ⟨y, rfl, _⟩ := hb
  rw [bytesP_length, bytesP_length] at h
  exact ⟨x ++ y, by rw [bytesP_append], by rw [List.length_append]; exact h⟩
theorem addF_ok {L : List FileM} {name : ByteArray} {p : List (List PD)} (h : ∀ f ∈ L, okFile f) (hp : isB p) (ht : totF L + p.length ≤ 1048576) : ∀ f ∈ addF L name p, okFile f := by
  have h0 := totF_nonneg L
  intro f hf
  unfold addF at hf
  split at hf
  · rename_i hs
    obtain ⟨g, h1, _⟩ := find_some hs
    rw [h1] at hf
    simp only at hf
    rcases List.mem_or_eq_of_mem_set hf with hf | rfl
    · exact h f hf
    · have hg := List.mem_of_getElem? h1
      have hm := totF_mem hg
      obtain ⟨k1, k2, k3⟩ := h g hg
      refine ⟨k1.app hp (by omega), k2, ?_⟩
      simp only [List.length_append]
      omega
  · rcases List.mem_append.1 hf with hf | hf
    · rcases List.mem_append.1 hf with hf | hf
      · exact h f (List.mem_of_mem_take hf)
      · simp at hf
        subst hf
        refine ⟨hp, ?_, ?_⟩
        · exact Int.le_refl _
        · show (0 : Int) ≤ (p.length : Int)
          omega
    · exact h f (List.mem_of_mem_drop hf)
theorem powL_ok {a : Bool} {l : Int} (h : 0 ≤ l ∧ l ≤ 9223372036854775807) : 0 ≤ powL a l ∧ powL a l ≤ 9223372036854775807 := by
  unfold powL
  cases a <;> by_cases hl : l = 0 <;> simp [hl] <;> omega
theorem okD.pow {k : Nat} {D : Dk} (h : okD k D) : okD k ⟨D.q, D.L, powO D.o D.a D.l, D.a, powL D.a D.l⟩ := ⟨h.q, h.tot, h.len, h.fs, powL_ok h.l⟩
theorem okD.app {k : Nat} {D : Dk} (h : okD k D) {name : ByteArray} {p : List (List PD)} (hp : isB p) : okD (k + 1) (D.app name p).2 := by
  unfold Dk.app
  split
  · exact h.mono (Nat.le_succ k)
  · split
    · exact h.mono (Nat.le_succ k)
    · split
      · exact h.mono (Nat.le_succ k)
      · rename_i hr
        split
        · have ht := h.tot
          have hq := h.q
          refine ⟨h.q, ?_, ?_, addF_ok h.fs hp (by omega), powL_ok h.l⟩
          · show totF (addF D.L name p) ≤ D.q
            rw [addF_tot]; omega
          · have := addF_len D.L name p
            have := h.len
            show (addF D.L name p).length ≤ k + 1
            omega
        · exact h.pow.mono (Nat.le_succ k)
theorem setKept_eq (L : List FileM) (i : Nat) : (∃ f, L[i]? = some f ∧ setKept L i = L.set i ⟨f.name, f.data, f.data.length⟩) ∨ setKept L i = L := by
  unfold setKept
  cases h : L[i]? with
  | none => exact .inr rfl
  | some f => exact .inl ⟨f, rfl, rfl⟩
theorem okD.sync {k : Nat} {D : Dk} (h : okD k D) (name : ByteArray) : okD k (D.sync name).2 := by
  unfold Dk.sync
  split
  · split
    · rcases setKept_eq D.L (D.at name) with ⟨f, h1, h2⟩ | h2
      · rw [h2]
        refine ⟨h.q, ?_, ?_, fun g hg => ?_, powL_ok h.l⟩
        · show totF (D.L.set _ _) ≤ D.q
          rw [totF_set h1]
          have := h.tot
          simp only
          omega
        · show (D.L.set _ _).length ≤ k
          rw [List.length_set]; exact h.len
        · rcases List.mem_or_eq_of_mem_set hg with hg | rfl
          · exact h.fs g hg
          · obtain ⟨k1, k2, k3⟩ := h.fs f (List.mem_of_getElem? h1)
            exact ⟨k1, by simp only; omega, Int.le_refl _⟩
      · rw [h2]
        exact h.pow
    · exact h.pow
  · exact h
theorem okD.rem {k : Nat} {D : Dk} (h : okD k D) (name : ByteArray) : okD k (D.rem name).2 := by
  unfold Dk.rem
  split
  · rename_i hk
    split
    · have hko := know_ok hk
      obtain ⟨f, h1, _⟩ := Dk.at_get hko.2.1
      have hl := (List.getElem?_eq_some_iff.1 h1).1
      refine ⟨h.q, ?_, ?_, fun g hg => h.fs g (mem_outFl hg), powL_ok h.l⟩
      · show totF (outFl D.L (D.at name)) ≤ D.q
        rw [outF_tot _ _ f h1]
        have := h.tot
        omega
      · show (outFl D.L (D.at name)).length ≤ k
        rw [outF_len _ _ hl]
        have := h.len
        omega
    · exact h.pow
  · exact h
theorem placeF_tot (L : List FileM) (g : FileM) : totF (placeF L g) ≤ totF L + g.data.length := by
  unfold placeF
  split
  · rename_i h
    obtain ⟨f, h1, _⟩ := find_some h
    rw [totF_set h1]
    omega
  · rw [totF_ins]; omega
theorem placeF_len (L : List FileM) (g : FileM) : (placeF L g).length ≤ L.length + 1 := by
  unfold placeF
  split
  · rw [List.length_set]; omega
  · simp; omega
theorem placeF_mem {L : List FileM} {g f : FileM} (h : f ∈ placeF L g) : f ∈ L ∨ f = g := by
  unfold placeF at h
  split at h
  · rcases List.mem_or_eq_of_mem_set h with h | h
    · exact .inl h
    · exact .inr h
  · rcases List.mem_append.1 h with h | h
    · rcases List.mem_append.1 h with h | h
      · exact .inl (List.mem_of_mem_take h)
      · exact .inr (by simpa using h)
    · exact .inl (List.mem_of_mem_drop h)
theorem okD.ren {k : Nat} {D : Dk} (h : okD k D) (name to : ByteArray) : okD k (D.ren name to).2 := by
  unfold Dk.ren
  split
  · exact h
  · split
    · rename_i hk
      split
      · have hko := know_ok hk
        obtain ⟨f, h1, _⟩ := Dk.at_get hko.2.1
        have hl := (List.getElem?_eq_some_iff.1 h1).1
        have e : renF D.L (D.at name) to = placeF (outFl D.L (D.at name)) ⟨to, f.data, f.kept⟩ := by unfold renF; rw [h1]
        refine ⟨h.q, ?_, ?_, fun g hg => ?_, powL_ok h.l⟩
        · show totF (renF D.L (D.at name) to) ≤ D.q
          rw [e]
          have h2 := placeF_tot (outFl D.L (D.at name)) ⟨to, f.data, f.kept⟩
          rw [outF_tot _ _ f h1] at h2
          have := h.tot
          simp only at h2
          omega
        · show (renF D.L (D.at name) to).length ≤ k
          rw [e]
          have h2 := placeF_len (outFl D.L (D.at name)) ⟨to, f.data, f.kept⟩
          rw [outF_len _ _ hl] at h2
          have := h.len
          omega
        · have hg : g ∈ renF D.L (D.at name) to := hg
          rw [e] at hg
          rcases placeF_mem hg with hg | rfl
          · exact h.fs g (mem_outFl hg)
          · exact h.fs f (List.mem_of_getElem? h1)
      · exact h.pow
    · exact h
theorem crF_tot (ps : List Int) (L : List FileM) (h : ∀ f ∈ L, okFile f) : totF (crF ps L) ≤ totF L := by
  suffices hs : ∀ (L : List FileM) (ps : List Int), totF (L.mapIdx fun i f => cr1 f (ps.getD i 0)) ≤ totF L from hs L ps
  intro L
  induction L with
  | nil => intro ps; simp [totF]
  | cons f L ih =>
    intro ps
    have e : (fun i (f : FileM) => cr1 f (ps.getD (i + 1) 0)) = fun i f => cr1 f (ps.tail.getD i 0) := by
      funext i f
      congr 1
      cases ps <;> simp
    rw [List.mapIdx_cons]
    simp only [totF]
    have h2 := ih ps.tail
    rw [← e] at h2
    have h3 : (cr1 f (ps.getD 0 0)).data.length ≤ f.data.length := by unfold cr1; simp only [List.length_take]; omega
    omega
theorem okD.crash {k : Nat} {D : Dk} (h : okD k D) (ps : List Int) : okD k (D.crash ps) := by
  refine ⟨h.q, ?_, ?_, fun g hg => ?_, ⟨Int.le_refl _, (by decide : (0 : Int) ≤ 9223372036854775807)⟩⟩
  · exact Int.le_trans (crF_tot ps D.L h.fs) h.tot
  · show (crF ps D.L).length ≤ k
    rw [crF_len]; exact h.len
  · have hg : g ∈ crF ps D.L := hg
    unfold crF at hg
    rw [List.mem_mapIdx] at hg
    obtain ⟨i, hi, rfl⟩ := hg
    have hf := h.fs _ (List.getElem_mem hi)
    have hs := stay_le D.L[i] (ps.getD i 0) hf
    refine ⟨hf.1.take _, ?_, ?_⟩
    · show (0 : Int) ≤ (stayN _ _ : Int)
      omega
    · show (stayN _ _ : Int) ≤ ((D.L[i].data.take (stayN _ _)).length : Int)
      rw [List.length_take]
      omega
end Go.Proofs.Ytmjmbfcfnhnpmaa
namespace Go.Proofs.Ytmjmbfcfnhnpmaa
open Go.RowKit
set_option linter.all false
set_option maxHeartbeats 4000000
def genO (T : Unit → Tab) (A : Ar) (X : Cps) (H : Unit → Kn) (N : Nat) (ops : Array Oper) (o : Oper) (G : SL → Store → Prop) (s : SL) (st : Store) : Prop :=
  match dstB N o.dst, o.guard with
    | true, none => opC T A X H o.op s st fun d st' => G (putL o.dst d s) st'
    | true, some (j, w) => (match slotOf ops j with
      | some k => (match getS s k with
        | .d (.sc (.bool t)) => brC t
          (fun _ => match w with
            | true => opC T A X H o.op (setS s k (.d (.sc (.bool true)))) st fun d st' => G (putL o.dst d (setS s k (.d (.sc (.bool true))))) st'
            | false => G (putL o.dst (.d (.sc (.tuple #[]))) (setS s k (.d (.sc (.bool true))))) st)
          (fun _ => match w with
            | false => opC T A X H o.op (setS s k (.d (.sc (.bool false)))) st fun d st' => G (putL o.dst d (setS s k (.d (.sc (.bool false))))) st'
            | true => G (putL o.dst (.d (.sc (.tuple #[]))) (setS s k (.d (.sc (.bool false))))) st)
        | .d (.sc (.tuple _)) => G (putL o.dst (.d (.sc (.tuple #[]))) s) st
        | _ => False)
      | none => False)
    | false, _ => False
theorem genS {T : Unit → Tab} {A : Ar} {X : Cps} {H : Unit → Kn} {N : Nat} {ops : Array Oper} {o : Oper} {l : List Oper} {s : SL} {st : Store} {Q : SL → Store → Prop} (h : ∀ G, G = (fun s' st' => genG T A X H N ops l s' st' Q) → genO T A X H N ops o G s st) : genG T A X H N ops (o :: l) s st Q := by
  have := h _ rfl
  unfold genG
  exact this
end Go.Proofs.Ytmjmbfcfnhnpmaa
