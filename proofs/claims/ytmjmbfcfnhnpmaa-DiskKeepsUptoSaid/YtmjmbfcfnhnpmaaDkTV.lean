/- A file that nobody names stays: plain laws. No condition. -/
import Derived.Test.YtmjmbfcfnhnpmaaDkW
import Derived.Test.YtmjmbfcfnhnpmaaDkU
namespace Go.Proofs.Ytmjmbfcfnhnpmaa
open Go.RowKit
set_option linter.all false
/-- Files, of which one is the first that is not below its own name. -/
def hasF (g : FileM) (L : List FileM) : Prop := ∃ A B, L = A ++ g :: B ∧ ∀ f ∈ A, ltb f.name g.name = true
theorem ltb_le {a b c : ByteArray} (h : ltb a b = false) (h2 : ltb a c = true) : ltb b c = true := by
  by_cases e : a = b
  · rw [← e]; exact h2
  · exact ltb_trans (ltb_flip h e) h2
theorem hasF.find {g : FileM} : ∀ {L : List FileM}, hasF g L → ∀ i : Int, ∃ j : Nat, findF g.name L i = (i + j, true) ∧ L[j]? = some g := by
  rintro L ⟨A, B, rfl, h⟩
  induction A with
  | nil =>
    intro i
    refine ⟨0, ?_, rfl⟩
    rw [List.nil_append]
    show findF g.name (⟨g.name, g.data, g.kept⟩ :: B) i = _
    rw [find_same]
    simp
  | cons f A ih =>
    intro i
    obtain ⟨j, h1, h2⟩ := ih (fun f hf => h f (by simp [hf])) (i + 1)
    refine ⟨j + 1, ?_, by simpa using h2⟩
    rw [List.cons_append, findF, if_pos (h f (by simp)), h1]
    congr 1
    push_cast
    omega
theorem find_cut (nm : ByteArray) : ∀ (L : List FileM) (i : Int), (∀ f ∈ L.take ((findF nm L i).1 - i).toNat, ltb f.name nm = true) ∧ ∀ f, L[((findF nm L i).1 - i).toNat]? = some f → ltb f.name nm = false ∧ (findF nm L i).2 = decide (f.name = nm)
  | [], i => by simp
  | g :: L, i => by
      unfold findF
      by_cases hl : ltb g.name nm = true
      · rw [if_pos hl]
        obtain ⟨h1, h2⟩ := find_cut nm L (i + 1)
        have hr := (findF_range nm L (i + 1)).1
        rw [show ((findF nm L (i + 1)).1 - i).toNat = ((findF nm L (i + 1)).1 - (i + 1)).toNat + 1 by omega]
        refine ⟨fun f hf => ?_, fun f hf => h2 f (by simpa using hf)⟩
        rw [List.take_succ_cons] at hf
        rcases List.mem_cons.1 hf with rfl | hf
        · exact hl
        · exact h1 f hf
      · rw [if_neg hl]
        simp only [Int.sub_self, Int.toNat_zero, List.take_zero, List.getElem?_cons_zero]
        refine ⟨fun f hf => (by cases hf), fun f hf => ?_⟩
        cases hf
        exact ⟨by simpa using hl, rfl⟩
theorem find_cut0 (nm : ByteArray) (L : List FileM) : (∀ f ∈ L.take (findF nm L 0).1.toNat, ltb f.name nm = true) ∧ ∀ f, L[(findF nm L 0).1.toNat]? = some f → ltb f.name nm = false ∧ (findF nm L 0).2 = decide (f.name = nm) := by
  have := find_cut nm L 0
  simpa using this
theorem hasF.ins {g x : FileM} {L : List FileM} (h : hasF g L) (hn : x.name ≠ g.name) (k : Nat) (h2 : ∀ f, L[k]? = some f → ltb f.name x.name = false) : hasF g (L.take k ++ [x] ++ L.drop k) := by
  obtain ⟨A, B, rfl, hA⟩ := h
  by_cases hk : k ≤ A.length
  · rw [List.take_append_of_le_length hk, List.drop_append_of_le_length hk]
    refine ⟨A.take k ++ [x] ++ A.drop k, B, by simp, fun f hf => ?_⟩
    have hx : ltb x.name g.name = true := by
      by_cases hk2 : k < A.length
      · have h3 := h2 A[k] (by rw [List.getElem?_append_left hk2, List.getElem?_eq_getElem hk2])
        exact ltb_le h3 (hA _ (List.getElem_mem hk2))
      · have h3 := h2 g (by rw [List.getElem?_append_right (by omega), show k - A.length = 0 by omega]; rfl)
        exact ltb_flip h3 (fun e => hn e.symm)
    rcases List.mem_append.1 hf with hf | hf
    · rcases List.mem_append.1 hf with hf | hf
      · exact hA f (List.mem_of_mem_take hf)
      · simp at hf; subst hf; exact hx
    · exact hA f (List.mem_of_mem_drop hf)
  · refine ⟨A, B.take (k - A.length - 1) ++ [x] ++ B.drop (k - A.length - 1), ?_, hA⟩
    have e : k - A.length = (k - A.length - 1) + 1 := by omega
    rw [List.take_append, List.drop_append, List.take_of_length_le (by omega), List.drop_eq_nil_of_le (by omega : A.length ≤ k), e]
    simp
theorem hasF.set {g x y : FileM} {L : List FileM} (h : hasF g L) (k : Nat) (hy : L[k]? = some y) (hn : y.name ≠ g.name) (hx : x.name = y.name) : hasF g (L.set k x) := by
  obtain ⟨A, B, rfl, hA⟩ := h
  by_cases hk : k < A.length
  · rw [List.set_append_left _ _ hk]
    refine ⟨A.set k x, B, rfl, fun f hf => ?_⟩
    rcases List.mem_or_eq_of_mem_set hf with hf | rfl
    · exact hA f hf
    · rw [hx]
      rw [List.getElem?_append_left hk] at hy
      exact hA y (List.mem_of_getElem? hy)
  · rw [List.set_append_right _ _ (by omega)]
    rw [List.getElem?_append_right (by omega)] at hy
    rcases e : k - A.length with _ | m
    · rw [e] at hy
      simp at hy
      exact absurd (congrArg FileM.name hy.symm) hn
    · exact ⟨A, B.set m x, by simp, hA⟩
theorem hasF.own {g x : FileM} {L : List FileM} (h : hasF g L) (hx : x.name = g.name) : hasF x (L.set (findF g.name L 0).1.toNat x) := by
  obtain ⟨A, B, rfl, hA⟩ := h
  have hf : (findF g.name (A ++ g :: B) 0).1.toNat = A.length := by
    clear hx
    have : ∀ i : Int, (findF g.name (A ++ g :: B) i).1 = i + A.length := by
      induction A with
      | nil =>
        intro i
        show (findF g.name (⟨g.name, g.data, g.kept⟩ :: B) i).1 = _
        rw [find_same]
        simp
      | cons f A ih =>
        intro i
        rw [List.cons_append, findF, if_pos (hA f (by simp)), ih (fun f hf => hA f (by simp [hf]))]
        simp only [List.length_cons]
        push_cast
        omega
    rw [this]
    omega
  rw [hf, List.set_append_right _ _ (by omega), Nat.sub_self]
  exact ⟨A, B, rfl, fun f hf => by rw [hx]; exact hA f hf⟩
theorem hasF.out {g y : FileM} {L : List FileM} (h : hasF g L) (k : Nat) (hy : L[k]? = some y) (hn : y.name ≠ g.name) : hasF g (outFl L k) := by
  obtain ⟨A, B, rfl, hA⟩ := h
  unfold outFl
  by_cases hk : k < A.length
  · rw [List.take_append_of_le_length (by omega), List.drop_append_of_le_length (by omega)]
    refine ⟨A.take k ++ A.drop (k + 1), B, by simp, fun f hf => ?_⟩
    rcases List.mem_append.1 hf with hf | hf
    · exact hA f (List.mem_of_mem_take hf)
    · exact hA f (List.mem_of_mem_drop hf)
  · rw [List.getElem?_append_right (by omega)] at hy
    rcases e : k - A.length with _ | m
    · rw [e] at hy
      simp at hy
      exact absurd (congrArg FileM.name hy.symm) hn
    · refine ⟨A, B.take m ++ B.drop (m + 1), ?_, hA⟩
      rw [List.take_append, List.drop_append, List.take_of_length_le (by omega), List.drop_eq_nil_of_le (by omega : A.length ≤ k + 1), e, show k + 1 - A.length = m + 1 + 1 by omega]
      simp
theorem hasF.add {g : FileM} {L : List FileM} (h : hasF g L) {nm : ByteArray} (hn : nm ≠ g.name) (p : List (List PD)) : hasF g (addF L nm p) := by
  obtain ⟨h1, h2⟩ := find_cut0 nm L
  unfold addF
  split
  · rename_i hf
    obtain ⟨f, h3, h4⟩ := find_some hf
    rw [h3]
    exact h.set _ h3 (by rw [h4]; exact hn) rfl
  · exact h.ins (x := ⟨nm, p, 0⟩) hn _ fun f hf => (h2 f hf).1
theorem hasF.place {g x : FileM} {L : List FileM} (h : hasF g L) (hn : x.name ≠ g.name) : hasF g (placeF L x) := by
  obtain ⟨h1, h2⟩ := find_cut0 x.name L
  unfold placeF
  split
  · rename_i hf
    obtain ⟨f, h3, h4⟩ := find_some hf
    exact h.set _ h3 (by rw [h4]; exact hn) h4.symm
  · exact h.ins hn _ fun f hf => (h2 f hf).1
theorem hasF.ren {g : FileM} {L : List FileM} (h : hasF g L) {nm to : ByteArray} (hf : (findF nm L 0).2 = true) (hn : nm ≠ g.name) (ht : to ≠ g.name) : hasF g (renF L (findF nm L 0).1.toNat to) := by
  obtain ⟨f, h3, h4⟩ := find_some hf
  unfold renF
  rw [h3]
  exact (h.out _ h3 (by rw [h4]; exact hn)).place ht
theorem hasF.keep {g : FileM} {L : List FileM} (h : hasF g L) {nm : ByteArray} (hf : (findF nm L 0).2 = true) (hn : nm ≠ g.name) : hasF g (setKept L (findF nm L 0).1.toNat) := by
  obtain ⟨f, h3, h4⟩ := find_some hf
  unfold setKept
  rw [h3]
  exact h.set _ h3 (by rw [h4]; exact hn) rfl
theorem hasF.crash {g : FileM} {L : List FileM} (h : hasF g L) (ps : List Int) : ∃ p, hasF (cr1 g p) (crF ps L) := by
  obtain ⟨A, B, rfl, hA⟩ := h
  refine ⟨ps.getD A.length 0, (A.mapIdx fun i f => cr1 f (ps.getD i 0)), (B.mapIdx fun i f => cr1 f (ps.getD (i + 1 + A.length) 0)), ?_, fun f hf => ?_⟩
  · unfold crF
    rw [List.mapIdx_append, List.mapIdx_cons]
    simp [Nat.add_comm, Nat.add_left_comm, Nat.add_assoc]
  · simp only [List.mem_mapIdx] at hf
    obtain ⟨i, hi, rfl⟩ := hf
    show ltb A[i].name g.name = true
    exact hA _ (List.getElem_mem hi)
/-- Of the files of a disk whose power stays: what a call does to another one leaves this one. -/
theorem hasF.app {q : Int} {L : List FileM} {g : FileM} (h : hasF g L) {nm : ByteArray} (hn : nm ≠ g.name) (p : List (List PD)) : ∃ e L', (Dk.mk q L false false 0).app nm p = (e, ⟨q, L', false, false, 0⟩) ∧ hasF g L' ∧ totF L' ≤ totF L + p.length := by
  unfold Dk.app
  have hp : (0 : Int) ≤ p.length := by omega
  simp only [Bool.false_eq_true, if_false]
  split
  · exact ⟨_, _, rfl, h, by omega⟩
  · split
    · exact ⟨_, _, rfl, h, by omega⟩
    · exact ⟨_, _, rfl, h.add hn p, by rw [addF_tot]; omega⟩
theorem hasF.sync {q : Int} {L : List FileM} {g : FileM} (h : hasF g L) {nm : ByteArray} (hn : nm ≠ g.name) : ∃ e L', (Dk.mk q L false false 0).sync nm = (e, ⟨q, L', false, false, 0⟩) ∧ hasF g L' ∧ totF L' ≤ totF L := by
  unfold Dk.sync
  cases hf : (findF nm L 0).2 with
  | true =>
    rw [if_pos (know_yes hf)]
    refine ⟨_, _, rfl, h.keep hf hn, ?_⟩
    obtain ⟨f, h3, h4⟩ := find_some hf
    show totF (setKept L (findF nm L 0).1.toNat) ≤ _
    unfold setKept
    rw [h3]
    simp only
    rw [totF_set h3]
    simp only
    omega
  | false =>
    rw [know_no hf, if_neg (by decide)]
    exact ⟨_, _, rfl, h, Int.le_refl _⟩
theorem hasF.rem {q : Int} {L : List FileM} {g : FileM} (h : hasF g L) {nm : ByteArray} (hn : nm ≠ g.name) : ∃ e L', (Dk.mk q L false false 0).rem nm = (e, ⟨q, L', false, false, 0⟩) ∧ hasF g L' ∧ totF L' ≤ totF L := by
  unfold Dk.rem
  cases hf : (findF nm L 0).2 with
  | true =>
    obtain ⟨f, h3, h4⟩ := find_some hf
    rw [if_pos (know_yes hf)]
    refine ⟨_, _, rfl, h.out _ h3 (by rw [h4]; exact hn), ?_⟩
    show totF (outFl L (findF nm L 0).1.toNat) ≤ _
    rw [outF_tot _ _ f h3]
    omega
  | false =>
    rw [know_no hf, if_neg (by decide)]
    exact ⟨_, _, rfl, h, Int.le_refl _⟩
theorem place_tot (L : List FileM) (x : FileM) : totF (placeF L x) ≤ totF L + x.data.length := by
  unfold placeF
  split
  · rename_i hf
    obtain ⟨f, h3, h4⟩ := find_some hf
    rw [totF_set h3]
    omega
  · rw [totF_ins]
    omega
theorem hasF.renm {q : Int} {L : List FileM} {g : FileM} (h : hasF g L) {nm to : ByteArray} (hn : nm ≠ g.name) (ht : to ≠ g.name) : ∃ e L', (Dk.mk q L false false 0).ren nm to = (e, ⟨q, L', false, false, 0⟩) ∧ hasF g L' ∧ totF L' ≤ totF L := by
  cases hb : mayF to with
  | false => exact ⟨_, _, ren_path hb, h, Int.le_refl _⟩
  | true =>
    cases hf : (findF nm L 0).2 with
    | false => exact ⟨_, _, ren_none hb hf, h, Int.le_refl _⟩
    | true =>
      refine ⟨_, _, ren_ok hb hf, h.ren hf hn ht, ?_⟩
      obtain ⟨f, h3, h4⟩ := find_some hf
      unfold renF
      rw [h3]
      have h5 := place_tot (outFl L (findF nm L 0).1.toNat) ⟨to, f.data, f.kept⟩
      have h6 := outF_tot L (findF nm L 0).1.toNat f h3
      simp only at h5 ⊢
      omega

end Go.Proofs.Ytmjmbfcfnhnpmaa
namespace Go.Proofs.Ytmjmbfcfnhnpmaa
open Go.RowKit
set_option linter.all false
set_option maxHeartbeats 4000000
abbrev nmO : ByteArray := { data := { toList := [111, 119, 110] } }
theorem hasF.addown {g : FileM} {L : List FileM} (h : hasF g L) (p : List (List PD)) : hasF ⟨g.name, g.data ++ p, g.kept⟩ (addF L g.name p) := by
  obtain ⟨j, h1, h2⟩ := h.find 0
  have h3 := h.own (x := ⟨g.name, g.data ++ p, g.kept⟩) rfl
  unfold addF
  rw [h1] at h3 ⊢
  rw [show ((0 : Int) + j).toNat = j by omega] at h3 ⊢
  simp only [h2]
  exact h3
theorem cr1_full {f : FileM} (h : f.kept = f.data.length) (p : Int) : cr1 f p = f := by
  have hs : stayN f p = f.data.length := by
    unfold stayN
    rw [h]
    have h1 : (f.data.length : Int) - f.data.length + 1 = 1 := by omega
    rw [h1, Int.emod_one]
    omega
  unfold cr1
  rw [hs, List.take_length, ← h]
theorem keep_sync (a : ByteArray) (q : Int) (d : List (List PD)) : (Dk.mk q [⟨a, d, 0⟩] false false 0).sync a = (0, ⟨q, [⟨a, d, d.length⟩], false, false, 0⟩) := by
  unfold Dk.sync
  rw [if_pos (know_yes (by rw [find_same]))]
  show (_, _) = (_, _)
  have e : (Dk.mk q [⟨a, d, 0⟩] false false 0).at a = 0 := by
    unfold Dk.at
    rw [find_same]
    rfl
  rw [e]
  rfl
theorem okF1 (a : ByteArray) {p : List (List PD)} (h : isB p) : okFile ⟨a, p, p.length⟩ := ⟨h, by show (0 : Int) ≤ (p.length : Int); omega, by show (p.length : Int) ≤ (p.length : Int); omega⟩
theorem hasF.one (g : FileM) : hasF g [g] := ⟨[], [], rfl, by simp⟩
theorem hasF.reads {g : FileM} {L : List FileM} (h : hasF g L) : (Dk.mk 0 L false false 0).reads g.name = g.data ∧ (findF g.name L 0).2 = true := by
  obtain ⟨j, h1, h2⟩ := h.find 0
  refine ⟨?_, by rw [h1]⟩
  unfold Dk.reads
  simp only
  rw [h1]
  simp only [if_true]
  unfold readF
  rw [h1]
  simp only
  rw [show ((0 : Int) + j).toNat = j by omega, h2]

set_option maxRecDepth 100000 in
theorem v_keeps (xs kp tl pk : List (List PD)) (hxa : isAsks xs) (hkp : isB kp) (htl : isB tl) (hpk : isI pk) : FnV Try.prog 8 [.d (.slc 6 xs), .d (.slc 1 kp), .d (.slc 1 tl), .d (.slc 1 pk)] (boolD true) := by
  obtain ⟨GFsRu, hFsRu⟩ : ∃ F, F = FsRu0 := ⟨_, rfl⟩
  obtain ⟨GFsQ, hFsQ⟩ : ∃ F, F = FsQ0 := ⟨_, rfl⟩
  obtain ⟨GFsL, hFsL⟩ : ∃ F, F = FsL0 := ⟨_, rfl⟩
  have hH : SoundK Try.prog [kn_runs GFsRu, kn_same GFsQ] := by subst hFsRu hFsQ hFsL; exact orK_ok ok_runs (orK_ok ok_same noK_ok)
  have hB : SoundB Try.prog [kb_new GFsL, kb_read GFsL] := by subst hFsRu hFsQ hFsL; exact orB_ok okb_new (orB_ok okb_read noB_ok)
  refine FnD_cbv (T := fun _ => tabY [69] [10, 20, 25]) (H := fun _ => [kn_runs GFsRu, kn_same GFsQ]) (tabY_ok _ _) hH follows_mixed Try.func8 rfl Try.ntmps8 (by simp) fun A X W hA hX hW => ?_
  cbv
  have f1 : A.cmp .neq 0 0 = false := by subst hA; rfl
  cbv at f1
  have f2 : A.cond false true false = false := by subst hA; rfl
  cbv at f2
  have f2b : A.cond false true true = true := by subst hA; rfl
  cbv at f2b
  have f2c : A.cond false false false = false := by subst hA; rfl
  cbv at f2c
  have f2d : A.cond false false true = true := by subst hA; rfl
  cbv at f2d
  have f2e : A.cond true true true = true := by subst hA; rfl
  cbv at f2e
  have f2f : A.cond true false true = false := by subst hA; rfl
  cbv at f2f
  have f3 : A.not true = false := by subst hA; rfl
  cbv at f3
  have f4 : A.not false = true := by subst hA; rfl
  cbv at f4
  have f7 : A.cond true false false = false := by subst hA; rfl
  cbv at f7
  have f8 : A.cond true true false = true := by subst hA; rfl
  cbv at f8
  repeat first
    | (simp only [f1, f2, f2b, f2c, f2d, f2e, f2f, f3, f4, f7, f8]; cbv)
    | refine And.intro (by
         subst hA hX hW hFsQ hFsL hFsRu
         clear hH hB
         first
           | exact trivial
           | exact rfl
           | (simp [A0]; done)
           | (intro q; exact q)
           | (intro q; simpa [A0] using q)
           | (intro _; trivial)
           | (show Region.lexB _ _ = true; kernel_rfl)
           | (show turnsB _ = true; kernel_rfl)
           | assumption
           | exact okqM) ?_
    | ((with_reducible refine callB hX hB ?_); cbv; fail_if_success show False)
    | (refine pickL hX (t := true) (by rfl) rfl ?_; cbv)
    | (refine pickL hX (t := false) (by rfl) rfl ?_; cbv)
  by_cases hall : kp.length ≤ 300 ∧ tl.length ≤ 300 ∧ pk.length ≤ 30
  rotate_left
  · have hbad : (A.cmp .gtr (A.len kp) 300 || A.cmp .gtr (A.len tl) 300 || A.cmp .gtr (A.len pk) 30) = true := by
      subst hA
      simp only [A0, Bool.or_eq_true, decide_eq_true_eq]
      show ((300 : Int) < (kp.length : Int) ∨ (300 : Int) < (tl.length : Int)) ∨ (30 : Int) < (pk.length : Int)
      omega
    obtain ⟨t1, c1_⟩ : ∃ t, A.cmp .gtr (A.len kp) 300 = t := ⟨_, rfl⟩
    obtain ⟨t2, c2_⟩ : ∃ t, A.cmp .gtr (A.len tl) 300 = t := ⟨_, rfl⟩
    obtain ⟨t3, c3_⟩ : ∃ t, A.cmp .gtr (A.len pk) 30 = t := ⟨_, rfl⟩
    rw [c1_, c2_, c3_] at hbad
    cbv at c1_ c2_ c3_
    cases t1 <;> cases t2 <;> cases t3
    · exact absurd hbad (by decide)
    all_goals
      repeat first
        | (simp only [f1, f2, f2b, f2c, f2d, f2e, f2f, f3, f4, f7, f8, c1_, c2_, c3_]; cbv)
        | refine And.intro (by
             subst hA hX hW hFsQ hFsL hFsRu
             clear hH hB
             first
               | exact trivial
               | exact rfl
               | (simp [A0]; done)
               | (intro q; exact q)
               | (intro q; simpa [A0] using q)
               | (intro _; trivial)
               | (show Region.lexB _ _ = true; kernel_rfl)
               | (show turnsB _ = true; kernel_rfl)
               | assumption
               | exact okqM) ?_
        | ((with_reducible refine callB hX hB ?_); cbv; fail_if_success show False)
        | (refine pickL hX (t := true) (by rfl) rfl ?_; cbv)
        | (refine pickL hX (t := false) (by rfl) rfl ?_; cbv)
      subst hA hX hW hFsQ hFsL hFsRu
      exact ret_v rfl rfl
  obtain ⟨k1, k2, k3⟩ := hall
  have c1_ : A.cmp .gtr (A.len kp) 300 = false := by
    subst hA
    simp only [A0, decide_eq_false_iff_not]
    show ¬ (300 : Int) < (kp.length : Int)
    omega
  cbv at c1_
  have c2_ : A.cmp .gtr (A.len tl) 300 = false := by
    subst hA
    simp only [A0, decide_eq_false_iff_not]
    show ¬ (300 : Int) < (tl.length : Int)
    omega
  cbv at c2_
  have c3_ : A.cmp .gtr (A.len pk) 30 = false := by
    subst hA
    simp only [A0, decide_eq_false_iff_not]
    show ¬ (30 : Int) < (pk.length : Int)
    omega
  cbv at c3_
  repeat first
    | (simp only [f1, f2, f2b, f2c, f2d, f2e, f2f, f3, f4, f7, f8, c1_, c2_, c3_]; cbv)
    | refine And.intro (by
         subst hA hX hW hFsQ hFsL hFsRu
         clear hH hB
         first
           | exact trivial
           | exact rfl
           | (simp [A0]; done)
           | (intro q; exact q)
           | (intro q; simpa [A0] using q)
           | (intro _; trivial)
           | (show Region.lexB _ _ = true; kernel_rfl)
           | (show turnsB _ = true; kernel_rfl)
           | assumption
           | exact okqM) ?_
    | ((with_reducible refine callB hX hB ?_); cbv; fail_if_success show False)
    | (refine pickL hX (t := true) (by rfl) rfl ?_; cbv)
    | (refine pickL hX (t := false) (by rfl) rfl ?_; cbv)
  have hy1 : (Dk.mk 1048576 [] false false 0).app nmO kp = (0, ⟨1048576, [⟨nmO, kp, 0⟩], false, false, 0⟩) := app_yes (by decide +kernel) (by simp only [totF]; omega)
  have okL1 : okD 900 ⟨1048576, [⟨nmO, kp, 0⟩], false, false, 0⟩ := ok_n1 (okF0 nmO hkp) (by simp only; omega)
  have hy2 := keep_sync nmO 1048576 kp
  have okL2 : okD 1 ⟨1048576, [⟨nmO, kp, kp.length⟩], false, false, 0⟩ := ⟨(⟨by decide, by decide⟩ : (0 : Int) ≤ 1048576 ∧ (1048576 : Int) ≤ 1048576), by simp only [totF]; omega, by simp, by simpa using okF1 nmO hkp, (⟨by decide, by decide⟩ : (0 : Int) ≤ 0 ∧ (0 : Int) ≤ 9223372036854775807)⟩
  refine callL hX (app0 nmO kp 0 rfl ok_n0 (by decide) hkp hy1 (fun h => by cases h) fun v1 n1 c1 hc1 hn1 => ?_)
  cbv
  repeat first
    | (simp only [f1, f2, f2b, f2c, f2d, f2e, f2f, f3, f4, f7, f8, c1_, c2_, c3_]; cbv)
    | refine And.intro (by
         subst hA hX hW hFsQ hFsL hFsRu
         clear hH hB
         first
           | exact trivial
           | exact rfl
           | (simp [A0]; done)
           | (intro q; exact q)
           | (intro q; simpa [A0] using q)
           | (intro _; trivial)
           | (show Region.lexB _ _ = true; kernel_rfl)
           | (show turnsB _ = true; kernel_rfl)
           | assumption
           | exact okqM) ?_
    | ((with_reducible refine callB hX hB ?_); cbv; fail_if_success show False)
    | (refine pickL hX (t := true) (by rfl) rfl ?_; cbv)
    | (refine pickL hX (t := false) (by rfl) rfl ?_; cbv)
  refine callL hX (sync1 nmO 0 1 [⟨nmO, kp, 0⟩] rfl rfl (by decide) hc1 hn1 okL1 hy2 fun v2 n2 c2 hc2 hn2 => ?_)
  cbv
  repeat first
    | (simp only [f1, f2, f2b, f2c, f2d, f2e, f2f, f3, f4, f7, f8, c1_, c2_, c3_]; cbv)
    | refine And.intro (by
         subst hA hX hW hFsQ hFsL hFsRu
         clear hH hB
         first
           | exact trivial
           | exact rfl
           | (simp [A0]; done)
           | (intro q; exact q)
           | (intro q; simpa [A0] using q)
           | (intro _; trivial)
           | (show Region.lexB _ _ = true; kernel_rfl)
           | (show turnsB _ = true; kernel_rfl)
           | assumption
           | exact okqM) ?_
    | ((with_reducible refine callB hX hB ?_); cbv; fail_if_success show False)
    | (refine pickL hX (t := true) (by rfl) rfl ?_; cbv)
    | (refine pickL hX (t := false) (by rfl) rfl ?_; cbv)
  obtain ⟨n, hn⟩ : ∃ n : Int, n = 1048576 := ⟨_, rfl⟩
  rw [← hn] at okL2
  have hrow : ∀ i : Int, 0 ≤ i → i < xs.length → ∃ a : AskM, xs.getD i.toNat [] = a.row ∧ okAsk a := by
    intro i h0 h1
    obtain ⟨l, hxs, hl, hl2⟩ := hxa
    have h2 : i.toNat < l.length := by rw [hxs] at h1; simp [asksX] at h1; omega
    refine ⟨l[i.toNat], ?_, hl _ (List.getElem_mem h2)⟩
    rw [hxs, List.getD_eq_getElem?_getD]
    simp [asksX, h2]
  refine loopL (T := fun _ => tabY [69] [10, 20, 25]) (H := fun _ => [kn_runs GFsRu, kn_same GFsQ]) (tabY_ok _ _) hH follows_mixed hA hX (fun x : Int × Nat × Nat × List DV × List FileM => 0 ≤ x.1 ∧ x.1 ≤ xs.length ∧ x.1 ≤ 30 ∧ x.2.2.2.1 = cellsF x.2.2.2.2 ∧ x.2.2.1 = x.2.2.2.2.length ∧ okD (x.1.toNat + 1) ⟨n, x.2.2.2.2, false, false, 0⟩ ∧ hasF ⟨nmO, kp, kp.length⟩ x.2.2.2.2 ∧ totF x.2.2.2.2 ≤ 300 + 300 * x.1)
    (fun x => [(0, .d (.slc 6 xs)), (1, .d (.slc 1 kp)), (2, .d (.slc 1 tl)), (3, .d (.slc 1 pk)), (9, .ref 0 0 0), (11, .d (.sc (.int .i64 x.1)))]) (fun x => [dB n (.view 3 1 x.2.1 0 x.2.2.1) false false 0, fB x.2.2.2.1 x.2.1])
    (fun x => xs.length - x.1.toNat) (0, v2, n2, c2, [⟨nmO, kp, kp.length⟩]) ?_ ?_ ?_
  · exact ⟨by simp only; omega, by simp only; omega, by simp only; omega, hc2, hn2, okL2.mono (by first | decide | (simp only; decide)), hasF.one _, by (try simp only [totF]); omega⟩
  · subst hA hFsL hn; exact told_less (by simp [toldP, getS, A0])
  rintro R ⟨i, v, m, cs, L⟩ hR ⟨i0, i1, i2, hcs, hm, hD, hown, htot⟩
  replace i0 : 0 ≤ i := i0
  replace i1 : i ≤ xs.length := i1
  replace i2 : i ≤ 30 := i2
  replace hcs : cs = cellsF L := hcs
  replace hm : m = L.length := hm
  replace hD : okD (i.toNat + 1) ⟨n, L, false, false, 0⟩ := hD
  replace hown : hasF ⟨nmO, kp, kp.length⟩ L := hown
  replace htot : totF L ≤ 300 + 300 * i := htot
  have hD9 : okD 900 ⟨n, L, false, false, 0⟩ := hD.mono (by omega)
  cbv
  cbv
  repeat first
    | (simp only [f1, f2, f2b, f2c, f2d, f2e, f2f, f3, f4, f7, f8]; cbv)
    | refine And.intro (by
         subst hA hX hW hFsQ hFsL hFsRu
         clear hH hB
         first
           | exact trivial
           | exact rfl
           | (simp [A0]; done)
           | (intro q; exact q)
           | (intro q; simpa [A0] using q)
           | (intro _; trivial)
           | (show Region.lexB _ _ = true; kernel_rfl)
           | (show turnsB _ = true; kernel_rfl)
           | assumption
           | exact okqM) ?_
    | ((with_reducible refine callB hX hB ?_); cbv; fail_if_success show False)
    | (refine pickL hX (t := true) (by rfl) rfl ?_; cbv)
    | (refine pickL hX (t := false) (by rfl) rfl ?_; cbv)
  refine part (fun h => ?_) (fun h => ?_)
  · obtain ⟨hlt, hlt30⟩ : i < xs.length ∧ i < 30 := by
      subst hA
      simp only [A0, cond_eq_ite, decide_eq_true_eq, Bool.if_false_right, Bool.and_eq_true] at h
      exact h
    obtain ⟨a, hp0, hok⟩ := hrow i i0 hlt
    obtain ⟨k, j, nm, to, d, ps⟩ := a
    obtain ⟨hk, hj, hnm, hto, hd, hps0⟩ := hok
    have e0 : A.gi (A.lift (A.row xs i)) 0 = k := by subst hA; simp only [A0, hp0]; rfl
    have e1 : A.gi (A.lift (A.row xs i)) (A.pl 0 1) = j := by subst hA; simp only [A0, hp0]; rfl
    have e2 : A.gs (A.lift (A.row xs i)) (A.pl 0 2) = nm := by subst hA; simp only [A0, hp0]; rfl
    have e3 : A.gs (A.lift (A.row xs i)) (A.pl 0 3) = to := by subst hA; simp only [A0, hp0]; rfl
    have e4 : A.gl (A.lift (A.row xs i)) (A.pl 0 4) = d := by subst hA; simp only [A0, hp0]; rfl
    have e5 : A.gl (A.lift (A.row xs i)) (A.pl 0 5) = ps := by subst hA; simp only [A0, hp0]; rfl
    cbv at e0 e1 e2 e3 e4 e5
    cbv
    repeat first
      | (simp only [f1, f2, f2b, f2c, f2d, f2e, f2f, f3, f4, f7, f8, e0, e1, e2, e3, e4, e5]; cbv)
      | refine And.intro (by
           subst hA hX hW hFsQ hFsL hFsRu
           clear hH hB
           first
             | exact trivial
             | exact rfl
             | (simp [A0]; done)
             | (intro q; exact q)
             | (intro q; simpa [A0] using q)
             | (intro _; trivial)
             | (show Region.lexB _ _ = true; kernel_rfl)
             | (show turnsB _ = true; kernel_rfl)
             | assumption
             | exact okqM
             | exact ⟨i0, hlt⟩
             | (simp only [A0, hp0]; exact ⟨rfl, Nat.le_refl _, rfl⟩)) ?_
      | ((with_reducible refine callB hX hB ?_); cbv; fail_if_success show False)
      | (refine pickL hX (t := true) (by rfl) rfl ?_; cbv)
      | (refine pickL hX (t := false) (by rfl) rfl ?_; cbv)
    refine pauseL hX (s' := [(0, .d (.slc 6 xs)), (1, .d (.slc 1 kp)), (2, .d (.slc 1 tl)), (3, .d (.slc 1 pk)), (9, .ref 0 0 0), (11, .d (.sc (.int .i64 i))), (12, .ref 2 0 0)]) (st' := [dB n (.view 3 1 v 0 m) false false 0, fB cs v, ⟨45, [.d (.sc (.int .i64 k)), .d (.sc (.int .i64 j)), .d (.sc (.string nm)), .d (.sc (.string to)), .d (.slc 1 d), .d (.slc 1 ps)], false, 0, true⟩]) (told_less (by simp [toldP, getS])) ?_
    replace hlt : i < (xs.length : Int) := hlt
    replace hlt30 : i < 30 := hlt30
    by_cases hns : nm ≠ nmO ∧ to ≠ nmO ∧ d.length ≤ 300
    · obtain ⟨hn1, hn2, hn3⟩ := hns
      have s1 : A.scmp .eql nm nmO = false := by subst hA; exact decide_eq_false hn1
      have s2 : A.scmp .eql to nmO = false := by subst hA; exact decide_eq_false hn2
      have s3 : A.cmp .gtr (A.len d) 300 = false := by
        subst hA
        simp only [A0, decide_eq_false_iff_not]
        show ¬ (300 : Int) < (d.length : Int)
        omega
      cbv at s1 s2 s3
      by_cases hk1 : k = 1
      · have r1 : A.cmp .eql k 1 = true := by subst hA; exact decide_eq_true hk1
        cbv at r1
        with_reducible refine goL (T := fun _ => tabY [69] [20]) (H := fun _ => [kn_runs GFsRu, kn_same GFsQ]) (tabY_ok _ _) hH follows_mixed hA hX ?_
        cbv
        repeat first
          | (simp only [f1, f2, f2b, f2c, f2d, f2e, f2f, f3, f4, f7, f8, s1, s2, s3, r1]; cbv)
          | refine And.intro (by
               subst hA hX hW hFsQ hFsL hFsRu
               clear hH hB
               first
                 | exact trivial
                 | exact rfl
                 | (simp [A0]; done)
                 | (intro q; exact q)
                 | (intro q; simpa [A0] using q)
                 | (intro _; trivial)
                 | (show Region.lexB _ _ = true; kernel_rfl)
                 | (show turnsB _ = true; kernel_rfl)
                 | assumption
                 | exact okqM) ?_
          | ((with_reducible refine callB hX hB ?_); cbv; fail_if_success show False)
          | (refine pickL hX (t := true) (by rfl) rfl ?_; cbv)
          | (refine pickL hX (t := false) (by rfl) rfl ?_; cbv)
        obtain ⟨e, L9, hy, ho, ht9⟩ := hown.app (q := n) hn1 d
        have hok9 : okD (i.toNat + 1 + 1) ⟨n, L9, false, false, 0⟩ := by
          have h1 := hD.app (name := nm) hd
          rw [hy] at h1
          exact h1
        refine callL hX (app1 nm d 0 1 L rfl rfl (by decide) hcs hm hD9 hnm hd hy fun v9 n9 c9 hc9 hn9 => ?_)
        cbv
        repeat first
          | (simp only [f1, f2, f2b, f2c, f2d, f2e, f2f, f3, f4, f7, f8, s1, s2, s3, r1]; cbv)
          | refine And.intro (by
               subst hA hX hW hFsQ hFsL hFsRu
               clear hH hB
               first
                 | exact trivial
                 | exact rfl
                 | (simp [A0]; done)
                 | (intro q; exact q)
                 | (intro q; simpa [A0] using q)
                 | (intro _; trivial)
                 | (show Region.lexB _ _ = true; kernel_rfl)
                 | (show turnsB _ = true; kernel_rfl)
                 | assumption
                 | exact okqM) ?_
          | ((with_reducible refine callB hX hB ?_); cbv; fail_if_success show False)
          | (refine pickL hX (t := true) (by rfl) rfl ?_; cbv)
          | (refine pickL hX (t := false) (by rfl) rfl ?_; cbv)
        replace i0 : 0 ≤ i := i0
        replace hlt : i < (xs.length : Int) := hlt
        replace hlt30 : i < 30 := hlt30
        have wi : IntKind.wrap .i64 (i + 1) = i + 1 := wrap_i64 (by unfold r64; omega)
        subst hR
        refine ⟨(i + 1, v9, n9, c9, L9), ⟨by show 0 ≤ i + 1; omega, by show i + 1 ≤ (xs.length : Int); omega, by show i + 1 ≤ 30; omega, hc9, hn9, ?_, ho, ?_⟩, by show xs.length - (i + 1).toNat < xs.length - i.toNat; omega, ?_⟩
        · show okD ((i + 1).toNat + 1) _
          rw [show (i + 1).toNat + 1 = i.toNat + 1 + 1 by omega]
          exact hok9
        · show totF L9 ≤ 300 + 300 * (i + 1)
          replace ht9 : totF L9 ≤ totF L + (d.length : Int) := ht9
          replace hn3 : d.length ≤ 300 := hn3
          omega
        · have hps : ∀ κ, pullL κ c9 = c9 := fun κ => by rw [hc9, pullL_eq]; exact pull_rows κ _
          subst hA
          refine told_keep [0, 1] rfl ?_ ?_
          · simp only [keepSt, List.map_cons, List.map_nil, pullBox, List.getD_cons_zero, List.getD_cons_succ, hps]
            rfl
          · simp [toldP, getS, A0, wi, pullD]
            try rfl
      have r1 : A.cmp .eql k 1 = false := by subst hA; exact decide_eq_false hk1
      cbv at r1
      by_cases hk2 : k = 2
      · have r2 : A.cmp .eql k 2 = true := by subst hA; exact decide_eq_true hk2
        cbv at r2
        with_reducible refine goL (T := fun _ => tabY [69] [20]) (H := fun _ => [kn_runs GFsRu, kn_same GFsQ]) (tabY_ok _ _) hH follows_mixed hA hX ?_
        cbv
        repeat first
          | (simp only [f1, f2, f2b, f2c, f2d, f2e, f2f, f3, f4, f7, f8, s1, s2, s3, r1, r2]; cbv)
          | refine And.intro (by
               subst hA hX hW hFsQ hFsL hFsRu
               clear hH hB
               first
                 | exact trivial
                 | exact rfl
                 | (simp [A0]; done)
                 | (intro q; exact q)
                 | (intro q; simpa [A0] using q)
                 | (intro _; trivial)
                 | (show Region.lexB _ _ = true; kernel_rfl)
                 | (show turnsB _ = true; kernel_rfl)
                 | assumption
                 | exact okqM) ?_
          | ((with_reducible refine callB hX hB ?_); cbv; fail_if_success show False)
          | (refine pickL hX (t := true) (by rfl) rfl ?_; cbv)
          | (refine pickL hX (t := false) (by rfl) rfl ?_; cbv)
        obtain ⟨e, L9, hy, ho, ht9⟩ := hown.sync (q := n) hn1
        have hok9 : okD (i.toNat + 1 + 1) ⟨n, L9, false, false, 0⟩ := by
          have h1 := hD.sync nm
          rw [hy] at h1
          exact h1.mono (Nat.le_succ _)
        refine callL hX (sync1 nm 0 1 L rfl rfl (by decide) hcs hm hD9 hy fun v9 n9 c9 hc9 hn9 => ?_)
        cbv
        repeat first
          | (simp only [f1, f2, f2b, f2c, f2d, f2e, f2f, f3, f4, f7, f8, s1, s2, s3, r1, r2]; cbv)
          | refine And.intro (by
               subst hA hX hW hFsQ hFsL hFsRu
               clear hH hB
               first
                 | exact trivial
                 | exact rfl
                 | (simp [A0]; done)
                 | (intro q; exact q)
                 | (intro q; simpa [A0] using q)
                 | (intro _; trivial)
                 | (show Region.lexB _ _ = true; kernel_rfl)
                 | (show turnsB _ = true; kernel_rfl)
                 | assumption
                 | exact okqM) ?_
          | ((with_reducible refine callB hX hB ?_); cbv; fail_if_success show False)
          | (refine pickL hX (t := true) (by rfl) rfl ?_; cbv)
          | (refine pickL hX (t := false) (by rfl) rfl ?_; cbv)
        replace i0 : 0 ≤ i := i0
        replace hlt : i < (xs.length : Int) := hlt
        replace hlt30 : i < 30 := hlt30
        have wi : IntKind.wrap .i64 (i + 1) = i + 1 := wrap_i64 (by unfold r64; omega)
        subst hR
        refine ⟨(i + 1, v9, n9, c9, L9), ⟨by show 0 ≤ i + 1; omega, by show i + 1 ≤ (xs.length : Int); omega, by show i + 1 ≤ 30; omega, hc9, hn9, ?_, ho, ?_⟩, by show xs.length - (i + 1).toNat < xs.length - i.toNat; omega, ?_⟩
        · show okD ((i + 1).toNat + 1) _
          rw [show (i + 1).toNat + 1 = i.toNat + 1 + 1 by omega]
          exact hok9
        · show totF L9 ≤ 300 + 300 * (i + 1)
          omega
        · have hps : ∀ κ, pullL κ c9 = c9 := fun κ => by rw [hc9, pullL_eq]; exact pull_rows κ _
          subst hA
          refine told_keep [0, 1] rfl ?_ ?_
          · simp only [keepSt, List.map_cons, List.map_nil, pullBox, List.getD_cons_zero, List.getD_cons_succ, hps]
            rfl
          · simp [toldP, getS, A0, wi, pullD]
            try rfl
      have r2 : A.cmp .eql k 2 = false := by subst hA; exact decide_eq_false hk2
      cbv at r2
      by_cases hk4 : k = 4
      · have r4 : A.cmp .eql k 4 = true := by subst hA; exact decide_eq_true hk4
        cbv at r4
        with_reducible refine goL (T := fun _ => tabY [69] [20]) (H := fun _ => [kn_runs GFsRu, kn_same GFsQ]) (tabY_ok _ _) hH follows_mixed hA hX ?_
        cbv
        repeat first
          | (simp only [f1, f2, f2b, f2c, f2d, f2e, f2f, f3, f4, f7, f8, s1, s2, s3, r1, r2, r4]; cbv)
          | refine And.intro (by
               subst hA hX hW hFsQ hFsL hFsRu
               clear hH hB
               first
                 | exact trivial
                 | exact rfl
                 | (simp [A0]; done)
                 | (intro q; exact q)
                 | (intro q; simpa [A0] using q)
                 | (intro _; trivial)
                 | (show Region.lexB _ _ = true; kernel_rfl)
                 | (show turnsB _ = true; kernel_rfl)
                 | assumption
                 | exact okqM) ?_
          | ((with_reducible refine callB hX hB ?_); cbv; fail_if_success show False)
          | (refine pickL hX (t := true) (by rfl) rfl ?_; cbv)
          | (refine pickL hX (t := false) (by rfl) rfl ?_; cbv)
        obtain ⟨e, L9, hy, ho, ht9⟩ := hown.renm (q := n) hn1 hn2
        have hok9 : okD (i.toNat + 1 + 1) ⟨n, L9, false, false, 0⟩ := by
          have h1 := hD.ren nm to
          rw [hy] at h1
          exact h1.mono (Nat.le_succ _)
        refine callL hX (ren1 nm to 0 1 L rfl rfl (by decide) hcs hm hD9 hto hy fun v9 n9 c9 hc9 hn9 => ?_)
        cbv
        repeat first
          | (simp only [f1, f2, f2b, f2c, f2d, f2e, f2f, f3, f4, f7, f8, s1, s2, s3, r1, r2, r4]; cbv)
          | refine And.intro (by
               subst hA hX hW hFsQ hFsL hFsRu
               clear hH hB
               first
                 | exact trivial
                 | exact rfl
                 | (simp [A0]; done)
                 | (intro q; exact q)
                 | (intro q; simpa [A0] using q)
                 | (intro _; trivial)
                 | (show Region.lexB _ _ = true; kernel_rfl)
                 | (show turnsB _ = true; kernel_rfl)
                 | assumption
                 | exact okqM) ?_
          | ((with_reducible refine callB hX hB ?_); cbv; fail_if_success show False)
          | (refine pickL hX (t := true) (by rfl) rfl ?_; cbv)
          | (refine pickL hX (t := false) (by rfl) rfl ?_; cbv)
        replace i0 : 0 ≤ i := i0
        replace hlt : i < (xs.length : Int) := hlt
        replace hlt30 : i < 30 := hlt30
        have wi : IntKind.wrap .i64 (i + 1) = i + 1 := wrap_i64 (by unfold r64; omega)
        subst hR
        refine ⟨(i + 1, v9, n9, c9, L9), ⟨by show 0 ≤ i + 1; omega, by show i + 1 ≤ (xs.length : Int); omega, by show i + 1 ≤ 30; omega, hc9, hn9, ?_, ho, ?_⟩, by show xs.length - (i + 1).toNat < xs.length - i.toNat; omega, ?_⟩
        · show okD ((i + 1).toNat + 1) _
          rw [show (i + 1).toNat + 1 = i.toNat + 1 + 1 by omega]
          exact hok9
        · show totF L9 ≤ 300 + 300 * (i + 1)
          omega
        · have hps : ∀ κ, pullL κ c9 = c9 := fun κ => by rw [hc9, pullL_eq]; exact pull_rows κ _
          subst hA
          refine told_keep [0, 1] rfl ?_ ?_
          · simp only [keepSt, List.map_cons, List.map_nil, pullBox, List.getD_cons_zero, List.getD_cons_succ, hps]
            rfl
          · simp [toldP, getS, A0, wi, pullD]
            try rfl
      have r4 : A.cmp .eql k 4 = false := by subst hA; exact decide_eq_false hk4
      cbv at r4
      by_cases hk5 : k = 5
      · have r5 : A.cmp .eql k 5 = true := by subst hA; exact decide_eq_true hk5
        cbv at r5
        with_reducible refine goL (T := fun _ => tabY [69] [20]) (H := fun _ => [kn_runs GFsRu, kn_same GFsQ]) (tabY_ok _ _) hH follows_mixed hA hX ?_
        cbv
        repeat first
          | (simp only [f1, f2, f2b, f2c, f2d, f2e, f2f, f3, f4, f7, f8, s1, s2, s3, r1, r2, r4, r5]; cbv)
          | refine And.intro (by
               subst hA hX hW hFsQ hFsL hFsRu
               clear hH hB
               first
                 | exact trivial
                 | exact rfl
                 | (simp [A0]; done)
                 | (intro q; exact q)
                 | (intro q; simpa [A0] using q)
                 | (intro _; trivial)
                 | (show Region.lexB _ _ = true; kernel_rfl)
                 | (show turnsB _ = true; kernel_rfl)
                 | assumption
                 | exact okqM) ?_
          | ((with_reducible refine callB hX hB ?_); cbv; fail_if_success show False)
          | (refine pickL hX (t := true) (by rfl) rfl ?_; cbv)
          | (refine pickL hX (t := false) (by rfl) rfl ?_; cbv)
        obtain ⟨e, L9, hy, ho, ht9⟩ := hown.rem (q := n) hn1
        have hok9 : okD (i.toNat + 1 + 1) ⟨n, L9, false, false, 0⟩ := by
          have h1 := hD.rem nm
          rw [hy] at h1
          exact h1.mono (Nat.le_succ _)
        refine callL hX (rem1 nm 0 1 L rfl rfl (by decide) hcs hm hD9 hy fun v9 n9 c9 hc9 hn9 => ?_)
        cbv
        repeat first
          | (simp only [f1, f2, f2b, f2c, f2d, f2e, f2f, f3, f4, f7, f8, s1, s2, s3, r1, r2, r4, r5]; cbv)
          | refine And.intro (by
               subst hA hX hW hFsQ hFsL hFsRu
               clear hH hB
               first
                 | exact trivial
                 | exact rfl
                 | (simp [A0]; done)
                 | (intro q; exact q)
                 | (intro q; simpa [A0] using q)
                 | (intro _; trivial)
                 | (show Region.lexB _ _ = true; kernel_rfl)
                 | (show turnsB _ = true; kernel_rfl)
                 | assumption
                 | exact okqM) ?_
          | ((with_reducible refine callB hX hB ?_); cbv; fail_if_success show False)
          | (refine pickL hX (t := true) (by rfl) rfl ?_; cbv)
          | (refine pickL hX (t := false) (by rfl) rfl ?_; cbv)
        replace i0 : 0 ≤ i := i0
        replace hlt : i < (xs.length : Int) := hlt
        replace hlt30 : i < 30 := hlt30
        have wi : IntKind.wrap .i64 (i + 1) = i + 1 := wrap_i64 (by unfold r64; omega)
        subst hR
        refine ⟨(i + 1, v9, n9, c9, L9), ⟨by show 0 ≤ i + 1; omega, by show i + 1 ≤ (xs.length : Int); omega, by show i + 1 ≤ 30; omega, hc9, hn9, ?_, ho, ?_⟩, by show xs.length - (i + 1).toNat < xs.length - i.toNat; omega, ?_⟩
        · show okD ((i + 1).toNat + 1) _
          rw [show (i + 1).toNat + 1 = i.toNat + 1 + 1 by omega]
          exact hok9
        · show totF L9 ≤ 300 + 300 * (i + 1)
          omega
        · have hps : ∀ κ, pullL κ c9 = c9 := fun κ => by rw [hc9, pullL_eq]; exact pull_rows κ _
          subst hA
          refine told_keep [0, 1] rfl ?_ ?_
          · simp only [keepSt, List.map_cons, List.map_nil, pullBox, List.getD_cons_zero, List.getD_cons_succ, hps]
            rfl
          · simp [toldP, getS, A0, wi, pullD]
            try rfl
      have r5 : A.cmp .eql k 5 = false := by subst hA; exact decide_eq_false hk5
      cbv at r5
      with_reducible refine goL (T := fun _ => tabY [69] [20]) (H := fun _ => [kn_runs GFsRu, kn_same GFsQ]) (tabY_ok _ _) hH follows_mixed hA hX ?_
      cbv
      repeat first
        | (simp only [f1, f2, f2b, f2c, f2d, f2e, f2f, f3, f4, f7, f8, s1, s2, s3, r1, r2, r4, r5]; cbv)
        | refine And.intro (by
             subst hA hX hW hFsQ hFsL hFsRu
             clear hH hB
             first
               | exact trivial
               | exact rfl
               | (simp [A0]; done)
               | (intro q; exact q)
               | (intro q; simpa [A0] using q)
               | (intro _; trivial)
               | (show Region.lexB _ _ = true; kernel_rfl)
               | (show turnsB _ = true; kernel_rfl)
               | assumption
               | exact okqM) ?_
        | ((with_reducible refine callB hX hB ?_); cbv; fail_if_success show False)
        | (refine pickL hX (t := true) (by rfl) rfl ?_; cbv)
        | (refine pickL hX (t := false) (by rfl) rfl ?_; cbv)
      replace i0 : 0 ≤ i := i0
      replace hlt : i < (xs.length : Int) := hlt
      replace hlt30 : i < 30 := hlt30
      have wi : IntKind.wrap .i64 (i + 1) = i + 1 := wrap_i64 (by unfold r64; omega)
      subst hR
      refine ⟨(i + 1, v, m, cs, L), ⟨by show 0 ≤ i + 1; omega, by show i + 1 ≤ (xs.length : Int); omega, by show i + 1 ≤ 30; omega, hcs, hm, ?_, hown, ?_⟩, by show xs.length - (i + 1).toNat < xs.length - i.toNat; omega, ?_⟩
      · show okD ((i + 1).toNat + 1) _
        rw [show (i + 1).toNat + 1 = i.toNat + 1 + 1 by omega]
        exact hD.mono (Nat.le_succ _)
      · show totF L ≤ 300 + 300 * (i + 1)
        omega
      · have hps : ∀ κ, pullL κ cs = cs := fun κ => by rw [hcs, pullL_eq]; exact pull_rows κ _
        subst hA
        refine told_keep [0, 1] rfl ?_ ?_
        · simp only [keepSt, List.map_cons, List.map_nil, pullBox, List.getD_cons_zero, List.getD_cons_succ, hps]
          rfl
        · simp [toldP, getS, A0, wi, pullD]
          try rfl
    · have hbad : (A.scmp .eql nm nmO || A.scmp .eql to nmO || A.cmp .gtr (A.len d) 300) = true := by
        subst hA
        show (decide (nm = nmO) || decide (to = nmO) || decide ((300 : Int) < (d.length : Int))) = true
        simp only [Bool.or_eq_true, decide_eq_true_eq]
        by_cases g1 : nm = nmO
        · exact .inl (.inl g1)
        · by_cases g2 : to = nmO
          · exact .inl (.inr g2)
          · right
            have : ¬ d.length ≤ 300 := fun g3 => hns ⟨g1, g2, g3⟩
            omega
      obtain ⟨t1, s1⟩ : ∃ t, A.scmp .eql nm nmO = t := ⟨_, rfl⟩
      obtain ⟨t2, s2⟩ : ∃ t, A.scmp .eql to nmO = t := ⟨_, rfl⟩
      obtain ⟨t3, s3⟩ : ∃ t, A.cmp .gtr (A.len d) 300 = t := ⟨_, rfl⟩
      rw [s1, s2, s3] at hbad
      cbv at s1 s2 s3
      cases t1 <;> cases t2 <;> cases t3
      · exact absurd hbad (by decide)
      all_goals
        with_reducible refine goL (T := fun _ => tabY [69] [20]) (H := fun _ => [kn_runs GFsRu, kn_same GFsQ]) (tabY_ok _ _) hH follows_mixed hA hX ?_
        cbv
        repeat first
          | (simp only [f1, f2, f2b, f2c, f2d, f2e, f2f, f3, f4, f7, f8, s1, s2, s3]; cbv)
          | refine And.intro (by
               subst hA hX hW hFsQ hFsL hFsRu
               clear hH hB
               first
                 | exact trivial
                 | exact rfl
                 | (simp [A0]; done)
                 | (intro q; exact q)
                 | (intro q; simpa [A0] using q)
                 | (intro _; trivial)
                 | (show Region.lexB _ _ = true; kernel_rfl)
                 | (show turnsB _ = true; kernel_rfl)
                 | assumption
                 | exact okqM) ?_
          | ((with_reducible refine callB hX hB ?_); cbv; fail_if_success show False)
          | (refine pickL hX (t := true) (by rfl) rfl ?_; cbv)
          | (refine pickL hX (t := false) (by rfl) rfl ?_; cbv)
        replace i0 : 0 ≤ i := i0
        replace hlt : i < (xs.length : Int) := hlt
        replace hlt30 : i < 30 := hlt30
        have wi : IntKind.wrap .i64 (i + 1) = i + 1 := wrap_i64 (by unfold r64; omega)
        subst hR
        refine ⟨(i + 1, v, m, cs, L), ⟨by show 0 ≤ i + 1; omega, by show i + 1 ≤ (xs.length : Int); omega, by show i + 1 ≤ 30; omega, hcs, hm, ?_, hown, ?_⟩, by show xs.length - (i + 1).toNat < xs.length - i.toNat; omega, ?_⟩
        · show okD ((i + 1).toNat + 1) _
          rw [show (i + 1).toNat + 1 = i.toNat + 1 + 1 by omega]
          exact hD.mono (Nat.le_succ _)
        · show totF L ≤ 300 + 300 * (i + 1)
          omega
        · have hps : ∀ κ, pullL κ cs = cs := fun κ => by rw [hcs, pullL_eq]; exact pull_rows κ _
          subst hA
          refine told_keep [0, 1] rfl ?_ ?_
          · simp only [keepSt, List.map_cons, List.map_nil, pullBox, List.getD_cons_zero, List.getD_cons_succ, hps]
            rfl
          · simp [toldP, getS, A0, wi, pullD]
            try rfl
  · cbv
    repeat first
      | (simp only [f1, f2, f2b, f2c, f2d, f2e, f2f, f3, f4, f7, f8]; cbv)
      | refine And.intro (by
           subst hA hX hW hFsQ hFsL hFsRu
           clear hH hB
           first
             | exact trivial
             | exact rfl
             | (simp [A0]; done)
             | (intro q; exact q)
             | (intro q; simpa [A0] using q)
             | (intro _; trivial)
             | (show Region.lexB _ _ = true; kernel_rfl)
             | (show turnsB _ = true; kernel_rfl)
             | assumption
             | exact okqM) ?_
      | ((with_reducible refine callB hX hB ?_); cbv; fail_if_success show False)
      | (refine pickL hX (t := true) (by rfl) rfl ?_; cbv)
      | (refine pickL hX (t := false) (by rfl) rfl ?_; cbv)
    refine pauseL hX (s' := [(0, .d (.slc 6 xs)), (1, .d (.slc 1 kp)), (2, .d (.slc 1 tl)), (3, .d (.slc 1 pk)), (9, .ref 0 0 0)]) (st' := _) (told_less (by simp [toldP, getS])) ?_
    have hD8 : okD 900 ⟨n, L, false, false, 0⟩ := hD9
    have hta : totF L + tl.length ≤ n := by omega
    have hy4 := app_yes (q := n) (L := L) (nm := nmO) (p := tl) (by decide +kernel) hta
    obtain ⟨L4, hL4⟩ : ∃ L4, L4 = addF L nmO tl := ⟨_, rfl⟩
    have ho4 : hasF ⟨nmO, kp ++ tl, kp.length⟩ L4 := by rw [hL4]; exact hown.addown tl
    rw [← hL4] at hy4
    have hD4 : okD 800 ⟨n, L4, false, false, 0⟩ := by
      have h1 := hD.app (name := nmO) htl
      rw [hy4] at h1
      exact h1.mono (by omega)
    obtain ⟨js, hjs, hj1, hj2⟩ := hpk
    obtain ⟨L5, hL5⟩ : ∃ L5, L5 = crF js L4 := ⟨_, rfl⟩
    obtain ⟨pp, ho5⟩ := ho4.crash js
    rw [← hL5] at ho5
    have okg : okFile ⟨nmO, kp ++ tl, kp.length⟩ := ⟨hkp.app htl (by omega), by show (0 : Int) ≤ (kp.length : Int); omega, by show (kp.length : Int) ≤ ((kp ++ tl).length : Int); rw [List.length_append]; omega⟩
    obtain ⟨sl1, sl2⟩ := stay_le ⟨nmO, kp ++ tl, kp.length⟩ pp okg
    obtain ⟨sn, hsn⟩ : ∃ sn, sn = stayN ⟨nmO, kp ++ tl, kp.length⟩ pp := ⟨_, rfl⟩
    have ecr : cr1 ⟨nmO, kp ++ tl, kp.length⟩ pp = ⟨nmO, (kp ++ tl).take sn, sn⟩ := by unfold cr1; rw [← hsn]
    rw [← hsn] at sl1 sl2
    rw [ecr] at ho5
    simp only [List.length_append] at sl1 sl2
    obtain ⟨bb, hbb⟩ : ∃ bb, bb = (kp ++ tl).take sn := ⟨_, rfl⟩
    have hbl : bb.length = sn := by rw [hbb, List.length_take, List.length_append]; omega
    have hk1 : kp.length ≤ bb.length ∧ bb.length ≤ kp.length + tl.length := by rw [hbl]; omega
    rw [← hbb] at ho5
    have hD5 : okD 900 ⟨n, L5, false, false, 0⟩ := by
      have h1 := hD4.crash js
      rw [hL5]
      exact h1.mono (by omega)
    have hy5 : (Dk.mk n L4 false false 0).crash js = ⟨n, L5, false, false, 0⟩ := by rw [hL5]; rfl
    obtain ⟨pq, ho6⟩ := ho5.crash js
    rw [cr1_full (by show (sn : Int) = (bb.length : Int); omega)] at ho6
    obtain ⟨L6, hL6⟩ : ∃ L6, L6 = crF js L5 := ⟨_, rfl⟩
    rw [← hL6] at ho6
    have hD6 : okD 900 ⟨n, L6, false, false, 0⟩ := by
      have h1 := hD5.crash js
      rw [hL6]
      exact h1
    have hy6 : (Dk.mk n L5 false false 0).crash js = ⟨n, L6, false, false, 0⟩ := by rw [hL6]; rfl
    obtain ⟨rd5, fd5⟩ := ho5.reads
    obtain ⟨rd6, fd6⟩ := ho6.reads
    simp only at rd5 fd5 rd6 fd6
    have hbB : isB bb := by rw [hbb]; exact (hkp.app htl (by omega)).take _
    with_reducible refine goL (T := fun _ => tabY [] [25]) (H := fun _ => [kn_runs GFsRu, kn_same GFsQ]) (tabY_ok _ _) hH follows_mixed hA hX ?_
    cbv
    repeat first
      | (simp only [f1, f2, f2b, f2c, f2d, f2e, f2f, f3, f4, f7, f8]; cbv)
      | refine And.intro (by
           subst hA hX hW hFsQ hFsL hFsRu
           clear hH hB
           first
             | exact trivial
             | exact rfl
             | (simp [A0]; done)
             | (intro q; exact q)
             | (intro q; simpa [A0] using q)
             | (intro _; trivial)
             | (show Region.lexB _ _ = true; kernel_rfl)
             | (show turnsB _ = true; kernel_rfl)
             | assumption
             | exact okqM) ?_
      | ((with_reducible refine callB hX hB ?_); cbv; fail_if_success show False)
      | (refine pickL hX (t := true) (by rfl) rfl ?_; cbv)
      | (refine pickL hX (t := false) (by rfl) rfl ?_; cbv)
    refine callL hX (app1 nmO tl 0 1 L rfl rfl (by decide) hcs hm hD9 (by decide) htl hy4 fun v4 n4 c4 hc4 hn4 => ?_)
    cbv
    repeat first
      | (simp only [f1, f2, f2b, f2c, f2d, f2e, f2f, f3, f4, f7, f8]; cbv)
      | refine And.intro (by
           subst hA hX hW hFsQ hFsL hFsRu
           clear hH hB
           first
             | exact trivial
             | exact rfl
             | (simp [A0]; done)
             | (intro q; exact q)
             | (intro q; simpa [A0] using q)
             | (intro _; trivial)
             | (show Region.lexB _ _ = true; kernel_rfl)
             | (show turnsB _ = true; kernel_rfl)
             | assumption
             | exact okqM) ?_
      | ((with_reducible refine callB hX hB ?_); cbv; fail_if_success show False)
      | (refine pickL hX (t := true) (by rfl) rfl ?_; cbv)
      | (refine pickL hX (t := false) (by rfl) rfl ?_; cbv)
    rw [hjs]
    refine callL hX (crash1 (e := 0) js 0 1 L4 rfl rfl (by decide) hc4 hn4 (hD4.mono (by decide)) hj1 hj2 hy5 fun v5 n5 c5 hc5 hn5 => ?_)
    rw [← hjs]
    have hF5 := isF_of hc5 hn5 (hD5.okL (by decide))
    have hO5 := okD_of hc5 hD5
    have q1 : GFsL.rd c5 nmO = bb := by
      subst hFsL
      show readsX c5 nmO = _
      unfold readsX
      rw [hc5, rowF_cells]
      exact rd5
    have q2 : (GFsL.find c5 nmO).2 = true := by
      subst hFsL
      show (findX c5 nmO).2 = _
      unfold findX
      rw [hc5, rowF_cells]
      exact fd5
    obtain ⟨nn, hnn⟩ : ∃ nn : Int, nn = (sn : Int) - (kp.length : Int) := ⟨_, rfl⟩
    have hnr : (0 : Int) ≤ nn ∧ nn ≤ (tl.length : Int) := by
      rw [hnn]
      omega
    have hnt : nn.toNat = bb.length - kp.length := by omega
    obtain ⟨tw, htw⟩ : ∃ tw, tw = tl.take (bb.length - kp.length) := ⟨_, rfl⟩
    have hb1 : bb.take kp.length = kp := by
      rw [hbb, List.take_take, Nat.min_eq_left (by omega), List.take_left]
    have hb2 : bb.drop kp.length = tw := by
      rw [htw, hbl, hbb, List.drop_take, List.drop_left]
    have hbt : isB tw := by rw [htw]; exact htl.take _
    have q6 : A.sub bb 0 (A.len kp) = kp := by
      subst hA
      simp only [A0]
      show (bb.drop 0).take (((kp.length : Int)).toNat - 0) = kp
      rw [List.drop_zero, Int.toNat_natCast, Nat.sub_zero, hb1]
    have q7 : A.sub bb (A.len kp) (A.len bb) = tw := by
      subst hA
      simp only [A0]
      show (bb.drop ((kp.length : Int)).toNat).take (((bb.length : Int)).toNat - ((kp.length : Int)).toNat) = tw
      rw [Int.toNat_natCast, Int.toNat_natCast, List.take_of_length_le (by rw [List.length_drop]; omega), hb2]
    have q8 : A.sub tl 0 nn = tw := by
      subst hA
      simp only [A0]
      show (tl.drop 0).take (nn.toNat - 0) = tw
      rw [List.drop_zero, Nat.sub_zero, hnt, htw]
    have q9 : GFsQ.same kp kp = true := by subst hFsQ; exact (sameB_eq _ _).2 rfl
    have q10 : GFsQ.same tw tw = true := by subst hFsQ; exact (sameB_eq _ _).2 rfl
    have q11 : GFsQ.same bb bb = true := by subst hFsQ; exact (sameB_eq _ _).2 rfl
    have p1 : A.bnd 0 (A.len kp) (A.len bb) := by subst hA; exact (⟨by decide, by omega, by omega⟩ : (0 : Int) ≤ 0 ∧ (0 : Int) ≤ (kp.length : Int) ∧ (kp.length : Int) ≤ (bb.length : Int))
    have p2 : A.bnd (A.len kp) (A.len bb) (A.len bb) := by subst hA; exact (⟨by omega, by omega, by omega⟩ : (0 : Int) ≤ (kp.length : Int) ∧ (kp.length : Int) ≤ (bb.length : Int) ∧ (bb.length : Int) ≤ (bb.length : Int))
    have p3 : A.bnd 0 nn (A.len tl) := by subst hA; exact (⟨by decide, hnr.1, hnr.2⟩ : (0 : Int) ≤ 0 ∧ (0 : Int) ≤ nn ∧ nn ≤ (tl.length : Int))
    have q3 : A.bin .sub .i64 (A.len bb) (A.len kp) = nn := by
      subst hA
      simp only [A0]
      show IntKind.wrap .i64 ((bb.length : Int) - (kp.length : Int)) = nn
      rw [wrap_i64 (by unfold r64; omega), hnn, hbl]
    have q4 : A.cmp .lss nn 0 = false := by
      subst hA
      simp only [A0, decide_eq_false_iff_not]
      omega
    have q5 : A.cmp .gtr nn (A.len tl) = false := by
      subst hA
      simp only [A0, decide_eq_false_iff_not]
      show ¬ (tl.length : Int) < nn
      omega
    cbv at q1 q2 q3 q4 q5 q6 q7 q8 q9 q10 q11 p1 p2 p3
    cbv
    repeat first
      | (simp only [f1, f2, f2b, f2c, f2d, f2e, f2f, f3, f4, f7, f8, q1, q2, q3, q4, q5]; cbv)
      | refine And.intro (by
           subst hA hX hW hFsQ hFsL hFsRu
           clear hH hB
           first
             | exact trivial
             | exact rfl
             | (simp [A0]; done)
             | (intro q; exact q)
             | (intro q; simpa [A0] using q)
             | (intro _; trivial)
             | (show Region.lexB _ _ = true; kernel_rfl)
             | (show turnsB _ = true; kernel_rfl)
             | assumption
             | exact okqM) ?_
      | ((with_reducible refine callB hX hB ?_); cbv; fail_if_success show False)
      | (refine pickL hX (t := true) (by rfl) rfl ?_; cbv)
      | (refine pickL hX (t := false) (by rfl) rfl ?_; cbv)
    refine pauseL hX (s' := [(1, .d (.slc 1 kp)), (2, .d (.slc 1 tl)), (3, .d (.slc 1 pk)), (9, .ref 0 0 0), (13, .d (.slc 1 bb)), (14, .d (.sc (.bool true))), (15, .d (.sc (.int .i64 nn)))]) (st' := [dB n (.view 3 1 v5 0 n5) false false 0, fB c5 v5]) (told_less (by simp [toldP, getS])) ?_
    with_reducible refine goL (T := fun _ => tabY [] []) (H := fun _ => [kn_runs GFsRu, kn_same GFsQ]) (tabY_ok _ _) hH follows_mixed hA hX ?_
    cbv
    repeat first
      | (simp only [f1, f2, f2b, f2c, f2d, f2e, f2f, f3, f4, f7, f8, q1, q2, q3, q4, q5, q6, q7, q8, q9, q10]; cbv)
      | refine And.intro (by
           subst hA hX hW hFsQ hFsL hFsRu
           clear hH hB
           first
             | exact trivial
             | exact rfl
             | (simp [A0]; done)
             | (intro q; exact q)
             | (intro q; simpa [A0] using q)
             | (intro _; trivial)
             | (show Region.lexB _ _ = true; kernel_rfl)
             | (show turnsB _ = true; kernel_rfl)
             | assumption
             | exact okqM
             | exact fun _ => p1
             | exact fun _ => p2
             | exact fun _ => p3
             | exact fun _ => hkp
             | exact fun _ => hbt) ?_
      | ((with_reducible refine callB hX hB ?_); cbv; fail_if_success show False)
      | (refine pickL hX (t := true) (by rfl) rfl ?_; cbv)
      | (refine pickL hX (t := false) (by rfl) rfl ?_; cbv)
    rw [hjs]
    refine callL hX (crash1 (e := 0) js 0 1 L5 rfl rfl (by decide) hc5 hn5 hD5 hj1 hj2 hy6 fun v6 n6 c6 hc6 hn6 => ?_)
    rw [← hjs]
    have hF6 := isF_of hc6 hn6 (hD6.okL (by decide))
    have hO6 := okD_of hc6 hD6
    have q12 : GFsL.rd c6 nmO = bb := by
      subst hFsL
      show readsX c6 nmO = _
      unfold readsX
      rw [hc6, rowF_cells]
      exact rd6
    have q13 : (GFsL.find c6 nmO).2 = true := by
      subst hFsL
      show (findX c6 nmO).2 = _
      unfold findX
      rw [hc6, rowF_cells]
      exact fd6
    cbv at q12 q13
    cbv
    repeat first
      | (simp only [f1, f2, f2b, f2c, f2d, f2e, f2f, f3, f4, f7, f8, q1, q2, q3, q4, q5, q6, q7, q8, q9, q10, q11, q12, q13]; cbv)
      | refine And.intro (by
           subst hA hX hW hFsQ hFsL hFsRu
           clear hH hB
           first
             | exact trivial
             | exact rfl
             | (simp [A0]; done)
             | (intro q; exact q)
             | (intro q; simpa [A0] using q)
             | (intro _; trivial)
             | (show Region.lexB _ _ = true; kernel_rfl)
             | (show turnsB _ = true; kernel_rfl)
             | assumption
             | exact okqM
             | exact fun _ => hbB
             | exact hbB) ?_
      | ((with_reducible refine callB hX hB ?_); cbv; fail_if_success show False)
      | (refine pickL hX (t := true) (by rfl) rfl ?_; cbv)
      | (refine pickL hX (t := false) (by rfl) rfl ?_; cbv)
    all_goals subst hA hX hW hFsQ hFsL hFsRu
    exact ret_v rfl rfl


end Go.Proofs.Ytmjmbfcfnhnpmaa
