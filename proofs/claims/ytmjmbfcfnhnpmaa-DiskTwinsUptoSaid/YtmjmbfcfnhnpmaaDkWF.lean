/- What chapter 8's laws' arguments are, read off their shapes. No condition. -/
import Derived.Test.YtmjmbfcfnhnpmaaAm29
import Derived.Test.YtmjmbfcfnhnpmaaDkRQ
import Derived.Test.YtmjmbfcfnhnpmaaAm44
namespace Go.Proofs.Ytmjmbfcfnhnpmaa
open Go.RowKit
set_option linter.all false
set_option maxHeartbeats 4000000
theorem wf_i64 {n : Int} (h : (Lit.int .i64 n).wf = true) : r64 n := by
  simp only [Lit.wf, Bool.and_eq_true, decide_eq_true_eq] at h
  exact h
theorem wf_u8 {n : Int} (h : (Lit.int .u8 n).wf = true) : 0 ≤ n ∧ n ≤ 255 := by
  simp only [Lit.wf, Bool.and_eq_true, decide_eq_true_eq] at h
  exact h
theorem fit_bytes : ∀ (xs : List (List PD)), (∀ x ∈ xs, FitL [.int .u8] x) → ∃ bs, xs = bytesP bs
  | [], _ => ⟨[], rfl⟩
  | x :: xs, h => by
      obtain ⟨bs, rfl⟩ := fit_bytes xs (fun y hy => h y (by simp [hy]))
      have h0 := h x (by simp)
      simp only [FitL, FitP] at h0
      obtain ⟨_, _, rfl, ⟨n, rfl, hn⟩, rfl⟩ := h0
      have := wf_u8 hn
      refine ⟨UInt8.ofNat n.toNat :: bs, ?_⟩
      have e : ((UInt8.ofNat n.toNat).toNat : Int) = n := by simp; omega
      simp only [bytesP, List.map_cons, e]
theorem wt_rows : ∀ xs : List (List PD), (∀ x ∈ xs, x ≠ []) → xs.length ≤ wtR xs
  | [], _ => by simp
  | x :: xs, h => by
      have h1 := wt_rows xs (fun y hy => h y (by simp [hy]))
      have h2 := h x (by simp)
      cases x with
      | nil => exact absurd rfl h2
      | cons p ps =>
        have : 1 ≤ wtP p := by
          cases p with
          | sc v =>
            unfold wtP
            split <;> omega
          | slc sz ys => unfold wtP; omega
        simp only [wtR, wtL, List.length_cons]
        omega
theorem fit_int {ps : List PD} (h : FitL [.int .i64] ps) : ∃ n, ps = [.sc (.int .i64 n)] ∧ r64 n := by
  simp only [FitL, FitP] at h
  obtain ⟨_, _, rfl, ⟨n, rfl, hn⟩, rfl⟩ := h
  exact ⟨n, rfl, wf_i64 hn⟩
theorem wt_bytes (bs : List UInt8) : bs.length ≤ wtR (bytesP bs) := by
  have := wt_rows (bytesP bs) (fun x hx e => by
    simp only [bytesP, List.mem_map] at hx
    obtain ⟨_, _, rfl⟩ := hx
    cases e)
  rw [bytesP_length] at this
  exact this
def isParts (xs : List (List PD)) : Prop := ∃ ps, xs = partsX ps ∧ (∀ p ∈ ps, isB p) ∧ ps.length ≤ 1048576
theorem fit_parts : ∀ (xs : List (List PD)), (∀ x ∈ xs, FitL [.slc [.int .u8]] x) → wtR xs ≤ 1048576 → ∃ ps, xs = partsX ps ∧ (∀ p ∈ ps, isB p) ∧ ps.length ≤ wtR xs
  | [], _, _ => ⟨[], rfl, by simp, by simp⟩
  | x :: xs, h, hw => by
      simp only [wtR] at hw
      obtain ⟨ps, rfl, h1, h2⟩ := fit_parts xs (fun y hy => h y (by simp [hy])) (by omega)
      have h0 := h x (by simp)
      simp only [FitL, FitP] at h0
      obtain ⟨_, _, rfl, ⟨ys, rfl, hy⟩, rfl⟩ := h0
      obtain ⟨bs, rfl⟩ := fit_bytes ys hy
      have h3 := wt_bytes bs
      simp only [wtL, wtP] at hw
      refine ⟨bytesP bs :: ps, rfl, ?_, ?_⟩
      · intro p hp
        rcases List.mem_cons.1 hp with rfl | hp
        · exact isB_bytes bs (by omega)
        · exact h1 p hp
      · simp only [wtR, wtL, wtP, List.length_cons]
        omega
theorem fit_partR {ps : List PD} (h : FitL [.slc [.slc [.int .u8]]] ps) (hw : wtL ps ≤ 1048576) : ∃ xs, ps = [.slc 1 xs] ∧ isParts xs := by
  simp only [FitL, FitP] at h
  obtain ⟨_, _, rfl, ⟨xs, rfl, hx⟩, rfl⟩ := h
  simp only [wtL, wtP] at hw
  obtain ⟨ps, e, h1, h2⟩ := fit_parts xs hx (by omega)
  exact ⟨xs, rfl, ps, e, h1, by omega⟩
theorem v_room (q : Int) (xs : List (List PD)) (hq : r64 q) (h : isParts xs) : FnV Try.prog 5 [.d (.sc (.int .i64 q)), .d (.slc 1 xs)] (boolD true) := by
  obtain ⟨ps, rfl, h1, h2⟩ := h
  exact v_roomL q ps hq h1 h2

end Go.Proofs.Ytmjmbfcfnhnpmaa
namespace Go.Proofs.Ytmjmbfcfnhnpmaa
open Go.RowKit
set_option linter.all false
set_option maxHeartbeats 4000000
structure AskM where
  k : Int
  n : Int
  nm : ByteArray
  to : ByteArray
  d : List (List PD)
  ps : List (List PD)
def AskM.row (a : AskM) : List PD := [.sc (.int .i64 a.k), .sc (.int .i64 a.n), .sc (.string a.nm), .sc (.string a.to), .slc 1 a.d, .slc 1 a.ps]
def asksX (l : List AskM) : List (List PD) := l.map AskM.row
def okAsk (a : AskM) : Prop := r64 a.k ∧ r64 a.n ∧ a.nm.size ≤ 1048576 ∧ a.to.size ≤ 1048576 ∧ isB a.d ∧ isI a.ps
def isAsks (xs : List (List PD)) : Prop := ∃ l, xs = asksX l ∧ (∀ a ∈ l, okAsk a) ∧ l.length ≤ 1048576
theorem fit_str {ps : List PD} (h : FitL [.str] ps) (hw : wtL ps ≤ 1048576) : ∃ s, ps = [.sc (.string s)] ∧ s.size ≤ 1048576 := by
  simp only [FitL, FitP] at h
  obtain ⟨_, _, rfl, ⟨s, rfl, hs⟩, rfl⟩ := h
  simp only [wtL, wtP] at hw
  exact ⟨s, rfl, by omega⟩
theorem fit_bytesR {ps : List PD} (h : FitL [.slc [.int .u8]] ps) (hw : wtL ps ≤ 1048576) : ∃ xs, ps = [.slc 1 xs] ∧ isB xs := by
  simp only [FitL, FitP] at h
  obtain ⟨_, _, rfl, ⟨xs, rfl, hx⟩, rfl⟩ := h
  obtain ⟨bs, rfl⟩ := fit_bytes xs hx
  simp only [wtL, wtP] at hw
  have := wt_bytes bs
  exact ⟨_, rfl, isB_bytes bs (by omega)⟩
theorem fit_ints : ∀ (xs : List (List PD)), (∀ x ∈ xs, FitL [.int .i64] x) → ∃ ps, xs = intsX ps ∧ (∀ p ∈ ps, r64 p)
  | [], _ => ⟨[], rfl, by simp⟩
  | x :: xs, h => by
      obtain ⟨ps, rfl, h1⟩ := fit_ints xs (fun y hy => h y (by simp [hy]))
      obtain ⟨n, rfl, hn⟩ := fit_int (h x (by simp))
      refine ⟨n :: ps, rfl, ?_⟩
      intro p hp
      rcases List.mem_cons.1 hp with rfl | hp
      · exact hn
      · exact h1 p hp
theorem wt_ints (ps : List Int) : ps.length ≤ wtR (intsX ps) := by
  have := wt_rows (intsX ps) (fun x hx e => by
    simp only [intsX, List.mem_map] at hx
    obtain ⟨_, _, rfl⟩ := hx
    cases e)
  simpa [intsX] using this
theorem fit_intsR {ps : List PD} (h : FitL [.slc [.int .i64]] ps) (hw : wtL ps ≤ 1048576) : ∃ xs, ps = [.slc 1 xs] ∧ isI xs := by
  simp only [FitL, FitP] at h
  obtain ⟨_, _, rfl, ⟨xs, rfl, hx⟩, rfl⟩ := h
  obtain ⟨l, rfl, h1⟩ := fit_ints xs hx
  simp only [wtL, wtP] at hw
  have := wt_ints l
  exact ⟨_, rfl, l, rfl, by omega, h1⟩
theorem fit_asks : ∀ (xs : List (List PD)), (∀ x ∈ xs, FitL [.int .i64, .int .i64, .str, .str, .slc [.int .u8], .slc [.int .i64]] x) → wtR xs ≤ 1048576 → ∃ l, xs = asksX l ∧ (∀ a ∈ l, okAsk a) ∧ l.length ≤ wtR xs
  | [], _, _ => ⟨[], rfl, by simp, by simp⟩
  | x :: xs, h, hw => by
      simp only [wtR] at hw
      obtain ⟨l, rfl, h1, h2⟩ := fit_asks xs (fun y hy => h y (by simp [hy])) (by omega)
      have h0 := h x (by simp)
      simp only [FitL, FitP] at h0
      obtain ⟨_, _, rfl, ⟨a, rfl, ha⟩, _, _, rfl, ⟨b, rfl, hb⟩, _, _, rfl, ⟨c, rfl, hc⟩, _, _, rfl, ⟨d, rfl, hd⟩, _, _, rfl, ⟨e, rfl, he⟩, _, _, rfl, ⟨f, rfl, hf⟩, rfl⟩ := h0
      obtain ⟨bs, rfl⟩ := fit_bytes e he
      obtain ⟨js, rfl, hj⟩ := fit_ints f hf
      have w1 := wt_bytes bs
      have w2 := wt_ints js
      simp only [wtL, wtP] at hw
      refine ⟨⟨a, b, c, d, bytesP bs, intsX js⟩ :: l, rfl, ?_, ?_⟩
      · intro y hy
        rcases List.mem_cons.1 hy with rfl | hy
        · exact ⟨wf_i64 ha, wf_i64 hb, by simp only; omega, by simp only; omega, isB_bytes bs (by omega), ⟨js, rfl, by omega, hj⟩⟩
        · exact h1 y hy
      · simp only [wtR, wtL, wtP, List.length_cons]
        omega
theorem fit_askR {ps : List PD} (h : FitL [.slc [.int .i64, .int .i64, .str, .str, .slc [.int .u8], .slc [.int .i64]]] ps) (hw : wtL ps ≤ 1048576) : ∃ xs, ps = [.slc 6 xs] ∧ isAsks xs := by
  simp only [FitL, FitP] at h
  obtain ⟨_, _, rfl, ⟨xs, rfl, hx⟩, rfl⟩ := h
  simp only [wtL, wtP] at hw
  obtain ⟨l, e, h1, h2⟩ := fit_asks xs hx (by omega)
  exact ⟨xs, rfl, l, e, h1, by omega⟩

end Go.Proofs.Ytmjmbfcfnhnpmaa
namespace Go.Proofs.Ytmjmbfcfnhnpmaa
open Go.RowKit
set_option linter.all false
set_option maxHeartbeats 4000000

structure FsNm where
  rightN : ByteArray → Bool
  sz : ByteArray → Prop
def FsNm0 : FsNm where
  rightN := mayF
  sz := (fun s => s.size ≤ 1048576)
set_option maxRecDepth 100000 in
theorem v_rightN (s : ByteArray) (hp0 : FsNm0.sz s) : FnV Try.prog 22 [strD s] (boolD ((mayF s))) := by
  obtain ⟨n, hn⟩ : ∃ n : Int, n = s.size := ⟨_, rfl⟩
  obtain ⟨l, hl⟩ : ∃ l : List UInt8, l = s.data.toList := ⟨_, rfl⟩
  have hnl : n = l.length := by rw [hn, hl]; rfl
  have hby : ∀ (k : Nat) (b : UInt8), l[k]? = some b → s[k]? = some b := by
    intro k b h
    rw [hl] at h
    have := List.getElem?_eq_some_iff.1 h
    obtain ⟨h1, h2⟩ := this
    have h3 : k < s.size := h1
    rw [getElem?_pos s k h3]
    exact congrArg some h2
  refine FnD_cbv (T := fun _ => tabY [] []) (H := fun _ => []) (tabY_ok _ _) noK_ok follows_mixed Try.func22 rfl Try.ntmps22 (by simp) fun A X W hA hX hW => ?_
  cbv
  replace hn : n = (s.size : Int) := hn
  replace hnl : n = (l.length : Int) := hnl
  replace hp0 : s.size ≤ 1048576 := hp0
  have hn0 : 0 ≤ n := by omega
  refine loopL (T := fun _ => tabY [] []) (H := fun _ => []) (tabY_ok _ _) noK_ok follows_mixed hA hX (fun i : Int => 0 ≤ i ∧ i ≤ n ∧ mayL l = mayL (l.drop i.toNat))
    (fun i => [(0, .d (.sc (.string s))), (3, .d (.sc (.int .i64 i)))]) (fun _ => [])
    (fun i => n.toNat - i.toNat) 0 ?_ ?_ ?_
  · exact ⟨by omega, hn0, rfl⟩
  · subst hA; exact told_less (by simp [toldP, getS, A0])
  rintro R i hR ⟨i0, i1, i2⟩
  cbv
  replace hn : n = (s.size : Int) := hn
  replace hnl : n = (l.length : Int) := hnl
  replace i0 : 0 ≤ i := i0
  replace i1 : i ≤ n := i1
  have hfin : ¬ i < n → mayL s.data.toList = true := by
    intro h9
    rw [show i.toNat = l.length by omega, List.drop_length] at i2
    rw [← hl, i2]
    rfl
  have hrow : i < n → ∃ b, s[i.toNat]? = some b ∧ mayL l = (!(decide (b.toNat < 33) || decide (126 < b.toNat)) && mayL (l.drop (i + 1).toNat)) := by
    intro h9
    have h10 : i.toNat < l.length := by omega
    have h11 := List.drop_eq_getElem_cons h10
    refine ⟨l[i.toNat], hby _ _ (List.getElem?_eq_getElem h10), ?_⟩
    rw [i2, h11, show (i + 1).toNat = i.toNat + 1 by omega]
    rfl
  have hbad : ∀ b : UInt8, mayL l = (!(decide (b.toNat < 33) || decide (126 < b.toNat)) && mayL (l.drop (i + 1).toNat)) → (b.toNat < 33 ∨ 126 < b.toNat) → mayF s = false := by
    intro b hm h13
    unfold mayF
    rw [← hl, hm]
    rcases h13 with h13 | h13 <;> simp [h13]
  have ei : IntKind.wrap .i64 (i + 1) = i + 1 := wrap_i64 (by unfold r64; omega)
  repeat' first
    | (refine part (fun h => ?_) (fun h => ?_) <;> try cbv)
    | (refine And.intro ?_ ?_)
  all_goals subst hA hX hW hR
  all_goals clear hby
  all_goals first
    | (have h9 : A0.cmp .lss i (A0.size s) = true := by assumption
       simp only [A0, decide_eq_true_eq] at h9
       replace h9 : i < n := by (rw [hn]; exact h9)
       obtain ⟨b, hb, hm⟩ := hrow h9
       first
         | exact (⟨i0, lt_of_lt_of_eq h9 hn⟩ : 0 ≤ i ∧ i < (s.size : Int))
         | exact fun _ => (⟨i0, lt_of_lt_of_eq h9 hn⟩ : 0 ≤ i ∧ i < (s.size : Int))
         | (have h12 : A0.cond (A0.cmp .lss (A0.byte s i) 33) true (A0.cmp .gtr (A0.byte s i) 126) = true := by assumption
            simp only [A0, hb, cond_eq_ite] at h12
            refine ret_v (congrArg boolD ?_) rfl
            refine (hbad b hm ?_).symm
            by_cases hq : (b.toNat : Int) < 33
            · left; omega
            · right
              simp [hq] at h12
              omega)
         | (have h12 : A0.cond (A0.cmp .lss (A0.byte s i) 33) true (A0.cmp .gtr (A0.byte s i) 126) = false := by assumption
            simp only [A0, hb, cond_eq_ite] at h12
            have h13 : ¬ (b.toNat < 33) ∧ ¬ (126 < b.toNat) := by
              by_cases hq : (b.toNat : Int) < 33
              · simp [hq] at h12
              · simp [hq] at h12
                omega
            refine ⟨i + 1, ⟨by omega, by omega, by rw [hm]; simp [h13]⟩, by omega, told_less ?_⟩
            simp [toldP, getS, A0, ei]
            done)
         | (simp [A0]; done)
         | (intro q; simpa [A0] using q)
         | (intro q; exact trivial))
    | (have h9 : A0.cmp .lss i (A0.size s) = false := by assumption
       simp only [A0, decide_eq_false_iff_not] at h9
       replace h9 : ¬ i < (s.size : Int) := h9
       replace hn : n = (s.size : Int) := hn
       replace hnl : n = (l.length : Int) := hnl
       refine ret_v (congrArg boolD ?_) rfl
       have h10 := hfin (by omega)
       unfold mayF
       rw [h10]
       show A0.cond (A0.scmp .neq s { data := { toList := [] } }) (A0.cmp .leq (A0.size s) 24) false = _
       have e1 : A0.scmp .neq s { data := { toList := [] } } = !decide (s = none8) := by
         show (!decide (s = none8)) = _ 
         rfl
       have e2 : A0.cmp .leq (A0.size s) 24 = decide (s.size ≤ 24) := by
         show decide ((s.size : Int) ≤ 24) = _
         rw [decide_eq_decide]
         omega
       rw [e1, e2]
       show (bif !decide (s = none8) then decide (s.size ≤ 24) else false) = _
       by_cases h11 : s = none8
       · simp [h11]
       · by_cases h12 : s.size ≤ 24
         · have h13 : ¬ 24 < s.size := by omega
           simp [h11, h12, h13]
         · have h13 : 24 < s.size := by omega
           simp [h11, h12, h13])
    | (intro q; exact q)
    | (intro q; simpa [A0] using q)
    | (intro q; trivial)
    | (simp [A0]; done)
    | fail

def kn_rightN (F : FsNm) : FuncId × (List DV → RV) := (22, fun args => match args with
  | [.d (.sc (.string s))] => some ([F.sz s], boolD ((F.rightN s)))
  | _ => none)
theorem ok_rightN (args : List DV) (cs : List Prop) (r : DV) (h : (kn_rightN FsNm0).2 args = some (cs, r)) (hc : allP cs True) : FnV Try.prog 22 args r ∧ closedL 0 args = true := by
  unfold kn_rightN at h
  simp only at h
  split at h
  · cases h; exact ⟨v_rightN _ hc.1, rfl⟩
  · cases h
end Go.Proofs.Ytmjmbfcfnhnpmaa
namespace Go.Proofs.Ytmjmbfcfnhnpmaa
open Go.RowKit
set_option linter.all false
theorem find_same (a : ByteArray) (d : List (List PD)) (k : Int) (L : List FileM) (i : Int) : findF a (⟨a, d, k⟩ :: L) i = (i, true) := by
  unfold findF
  rw [if_neg (by simp [ltb_irrefl])]
  simp
theorem find_ne {a b : ByteArray} (h : a ≠ b) (d : List (List PD)) (k : Int) : (findF b [⟨a, d, k⟩] 0).2 = false := by
  unfold findF
  split
  · rfl
  · simp [h]
theorem ltb_flip {a b : ByteArray} (h : ltb a b = false) (hn : a ≠ b) : ltb b a = true := by
  have := ltb_total a b
  rw [h] at this
  have h2 : (decide (b = a)) = false := by simp; exact fun e => hn e.symm
  rw [h2] at this
  simpa using this.symm
theorem ltb_asym {a b : ByteArray} (h : ltb a b = true) : ltb b a = false := by
  cases e : ltb b a with
  | false => rfl
  | true => have := ltb_trans h e; rw [ltb_irrefl] at this; cases this
theorem know_yes {q : Int} {L : List FileM} {nm : ByteArray} (h : (findF nm L 0).2 = true) : (Dk.mk q L false false 0).know nm = 0 := by
  unfold Dk.know knE findX
  simp only [rowF_cells, h]
  rfl
theorem know_no {q : Int} {L : List FileM} {nm : ByteArray} (h : (findF nm L 0).2 = false) : (Dk.mk q L false false 0).know nm = 8 := by
  unfold Dk.know knE findX
  simp only [rowF_cells, h]
  rfl
theorem add_ne {a b : ByteArray} (h : a ≠ b) (d w : List (List PD)) : addF [⟨a, d, 0⟩] b w = if ltb a b = true then [⟨a, d, 0⟩, ⟨b, w, 0⟩] else [⟨b, w, 0⟩, ⟨a, d, 0⟩] := by
  unfold addF
  rw [if_neg (by rw [find_ne h]; decide)]
  unfold findF
  by_cases hl : ltb a b = true
  · simp only [hl, if_true]
    unfold findF
    rfl
  · simp only [hl, if_false]
    rfl
theorem add_same (a : ByteArray) (d w : List (List PD)) : addF [⟨a, d, 0⟩] a w = [⟨a, d ++ w, 0⟩] := by
  unfold addF
  rw [find_same]
  rfl
theorem ren_ok {q : Int} {L : List FileM} {a b : ByteArray} (hb : mayF b = true) (h : (findF a L 0).2 = true) : (Dk.mk q L false false 0).ren a b = (0, ⟨q, renF L (findF a L 0).1.toNat b, false, false, 0⟩) := by
  unfold Dk.ren
  rw [if_neg (by simp [hb]), if_pos (know_yes h)]
  rfl
theorem ren_path {q : Int} {L : List FileM} {a b : ByteArray} (hb : mayF b = false) : (Dk.mk q L false false 0).ren a b = (11, ⟨q, L, false, false, 0⟩) := by
  unfold Dk.ren
  rw [if_pos ⟨rfl, hb⟩]
theorem ren_none {q : Int} {L : List FileM} {a b : ByteArray} (hb : mayF b = true) (h : (findF a L 0).2 = false) : (Dk.mk q L false false 0).ren a b = (8, ⟨q, L, false, false, 0⟩) := by
  unfold Dk.ren
  rw [if_neg (by simp [hb]), know_no h, if_neg (by decide)]
theorem reads_same (a : ByteArray) (d : List (List PD)) (k : Int) : (Dk.mk 0 [⟨a, d, k⟩] false false 0).reads a = d := by
  unfold Dk.reads
  simp only
  rw [find_same]
  simp only [if_true]
  unfold readF
  rw [find_same]
  rfl
theorem names_both {q : Int} {a b : ByteArray} (hb : mayF b = true) (d w : List (List PD)) : (Dk.mk q (addF [⟨a, d, 0⟩] b w) false false 0).ren a b = (0, ⟨q, [⟨b, if a = b then d ++ w else d, 0⟩], false, false, 0⟩) := by
  by_cases e : a = b
  · subst e
    rw [add_same, ren_ok hb (by rw [find_same]), find_same]
    simp only [if_true]
    rfl
  · rw [add_ne e]
    have ha : ∀ i : Int, findF a [⟨b, w, 0⟩, ⟨a, d, 0⟩] i = (if ltb b a = true then (i + 1, true) else (i, false)) := by
      intro i
      unfold findF
      by_cases hl : ltb b a = true
      · rw [if_pos hl, if_pos hl, find_same]
      · rw [if_neg hl, if_neg hl]
        have : ¬ b = a := fun h => e h.symm
        simp [this]
    by_cases hl : ltb a b = true
    · rw [if_pos hl, ren_ok hb (by rw [find_same]), find_same]
      simp only [if_neg e]
      congr 2
      unfold renF
      simp only [Int.toNat_zero, List.getElem?_cons_zero, outFl, List.take_zero, List.nil_append, Nat.zero_add, List.drop_succ_cons, List.drop_zero]
      unfold placeF
      simp only [find_same]
      rfl
    · rw [if_neg hl]
      have hl2 : ltb b a = true := ltb_flip (by simpa using hl) e
      rw [ren_ok hb (by rw [ha, if_pos hl2]), ha, if_pos hl2]
      simp only [if_neg e]
      congr 2
      unfold renF
      have e1 : ((0 : Int) + 1).toNat = 1 := rfl
      simp only [e1, List.getElem?_cons_succ, List.getElem?_cons_zero, outFl]
      show placeF [⟨b, w, 0⟩] ⟨b, d, 0⟩ = _
      unfold placeF
      simp only [find_same]
      rfl

end Go.Proofs.Ytmjmbfcfnhnpmaa
namespace Go.Proofs.Ytmjmbfcfnhnpmaa
open Go.RowKit
set_option linter.all false
set_option maxHeartbeats 4000000

/-- A view of nothing is told as a settled slice without elements. -/
theorem told_empty {k : Nat} {s : SL} {st : Store} (i sz b o : Nat) (bx : Box) (hb : st[b]? = some bx) (h : getS s i = .view sz b bx.ver o 0) : Told k s st (setS s i (.d (.slc sz []))) st := by
  intro E N a hc hst hs
  refine ⟨E, rfl, hst, hc, ⟨hs.size, fun j => ?_, hs.defers⟩, fun _ _ _ h => h⟩
  rw [getS_setS]
  split
  · rename_i e
    subst e
    have := hs.rep j
    rw [h] at this
    obtain ⟨bx', gz, h1, h2, h3, h4, h5⟩ := this
    rw [hst, hb] at h1
    cases h1
    obtain ⟨c, e1, e2, e3, e4⟩ := h5 rfl
    exact .inr ⟨_, c, e1, by simpa using e2, e3, fun q => absurd rfl q, trivial⟩
  · exact hs.rep j
theorem grow_at (n : Int) (hn : 0 ≤ n ∧ n ≤ 8000000) {st : Store} {K : DV → Store → Prop} (h0 : n = 0 → K nilS st) (h1 : ∀ v, K (.view 1 st.length v 0 0) (st ++ [⟨5, [], true, v, true⟩])) : FnD Try.prog 50 [nilS, .d (.sc (.int .i64 n))] st K := by
  refine FnD.at (w_grow n hn) [] (by simp [closedL, closedD, nilS]) (by simp) (by simp [renL, renD, nilS]) ?_
  rintro r0 stc (⟨hz, rfl, rfl⟩ | ⟨v, rfl, rfl⟩) _
  · have e2 : mergeL st [] (([] : Store).map (Box.ren (place [] st.length))) = st := by
      apply List.ext_getElem?
      intro i
      simp [mergeL]
    rw [e2]
    simpa [renD, nilS] using h0 hz
  · have e2 : mergeL st [] ([(⟨5, [], true, v, true⟩ : Box)].map (Box.ren (place [] st.length))) = st ++ [⟨5, [], true, v, true⟩] := by
      apply List.ext_getElem?
      intro i
      rw [mergeL]
      simp only [List.idxOf?_nil, List.map_cons, List.map_nil, List.length_nil, List.drop_zero]
      congr 2
      apply List.ext_getElem? ; intro j; simp
    rw [e2]
    simpa [renD, place] using h1 v

set_option maxRecDepth 100000 in
theorem w_concatV (xs ys : List (List PD)) (cs : List DV) (v m : Nat) (hp0 : isB xs) (hp1 : isB ys) (hp2 : xs.length + ys.length ≤ 8000000) (hcs : cs = rowsD ys) (hm : m = ys.length) : FnD Try.prog 33 [.view 1 0 0 0 2] [⟨27, [.d (.slc 1 xs), .view 1 1 v 0 m], false, 0, true⟩, ⟨5, cs, true, v, true⟩] (fun r st' => r = .d (.slc 1 (xs ++ ys)) ∧ st' = [⟨27, [.d (.slc 1 xs), .view 1 1 v 0 m], false, 0, true⟩, ⟨5, cs, true, v, true⟩]) := by
  refine FnD_cbv (T := fun _ => tabY [5003] []) (H := fun _ => []) (tabY_ok _ _) noK_ok follows_mixed Try.func33 rfl Try.ntmps33 (by simp) fun A X W hA hX hW => ?_
  cbv
  have l0 : A.cmp .lss 0 2 = true := by subst hA; rfl
  cbv at l0
  have l1 : A.cmp .lss 1 2 = true := by subst hA; rfl
  cbv at l1
  have l2 : A.cmp .lss 2 2 = false := by subst hA; rfl
  cbv at l2
  have b0 : A.bin .add .i64 0 1 = 1 := by subst hA; rfl
  cbv at b0
  have b1 : A.bin .add .i64 1 1 = 2 := by subst hA; rfl
  cbv at b1
  have o0_0 : A.off 0 0 1 = 0 := by subst hA; rfl
  cbv at o0_0
  have o0_1 : A.off 0 1 1 = 1 := by subst hA; rfl
  cbv at o0_1
  have na : A.int 2 = 2 := by subst hA; rfl
  cbv at na
  have hxl := hp0.len
  have hyl := hp1.len
  obtain ⟨n0, hn0⟩ : ∃ n0 : Int, n0 = xs.length := ⟨_, rfl⟩
  obtain ⟨n1, hn1⟩ : ∃ n1 : Int, n1 = n0 + ys.length := ⟨_, rfl⟩
  have s0 : A.bin .add .i64 0 (A.len xs) = n0 := by
    subst hA
    show IntKind.wrap .i64 (0 + (xs.length : Int)) = n0
    rw [Int.zero_add, wrap_i64 (by unfold r64; omega), hn0]
  have s1 : A.bin .add .i64 n0 (A.int m) = n1 := by
    subst hA
    show IntKind.wrap .i64 (n0 + (m : Int)) = n1
    rw [hm]
    rw [wrap_i64 (by unfold r64; omega), hn1]
  have s2 : A.cmp .lss n0 0 = false := by subst hA; simp only [A0, decide_eq_false_iff_not]; omega
  have s3 : A.cmp .lss n1 0 = false := by subst hA; simp only [A0, decide_eq_false_iff_not]; omega
  have hn2 : 0 ≤ n1 ∧ n1 ≤ 8000000 := by omega
  have hz0 : n1 = 0 → xs = [] ∧ ys = [] := fun h => ⟨List.eq_nil_of_length_eq_zero (by omega), List.eq_nil_of_length_eq_zero (by omega)⟩
  cbv at s0
  cbv at s1
  cbv at s2
  cbv at s3
  repeat (refine And.intro (by subst hA; exact rfl) ?_)
  refine unrollL (T := fun _ => tabY [5003] []) (H := fun _ => []) (tabY_ok _ _) noK_ok follows_mixed hA hX 3 fun R hR => ?_
  cbv
  repeat' first
    | (simp only [l0, l1, l2, b0, b1, o0_0, o0_1, na, s0, s1, s2, s3, decide_true]; cbv)
    | (refine part (fun h => ?_) (fun h => ?_) <;> try cbv)
    | (refine And.intro ?_ ?_)
    | (refine hR _ _ _ ?_; cbv)
  all_goals try (show A.inb 0 2; subst hA; exact (⟨by decide, by decide⟩ : (0 : Int) ≤ 0 ∧ (0 : Int) < 2))
  all_goals try (show A.inb 1 2; subst hA; exact (⟨by decide, by decide⟩ : (0 : Int) ≤ 1 ∧ (1 : Int) < 2))
  all_goals try (show A.same _ _; subst hA; exact rfl)
  all_goals try (show A.inb _ _; subst hA; exact (⟨by decide, by decide⟩ : (0 : Int) ≤ 0 ∧ (0 : Int) < 2))
  all_goals try (show A.inb _ _; subst hA; exact (⟨by decide, by decide⟩ : (0 : Int) ≤ 1 ∧ (1 : Int) < 2))
  refine callL hX (grow_at n1 hn2 (fun hz => ?_) fun v2 => ?_)
  all_goals cbv
  all_goals repeat (refine And.intro (by subst hA; exact rfl) ?_)
  · obtain ⟨hx0, hy0⟩ := hz0 hz
    obtain rfl : m = 0 := by rw [hm, hy0]; rfl
    refine unrollL (T := fun _ => tabY [5003] [13]) (H := fun _ => []) (tabY_ok _ _) noK_ok follows_mixed hA hX 3 fun R2 hR2 => ?_
    cbv
    repeat' first
      | (simp only [l0, l1, l2, b0, b1, o0_0, o0_1, na, s0, s1, s2, s3, decide_true]; cbv)
      | (refine part (fun h => ?_) (fun h => ?_) <;> try cbv)
      | (refine And.intro ?_ ?_)
      | (refine hR2 _ _ _ ?_; cbv)
      | (refine appendNilL hX tab_ok (t := 27) (sz := 1) (e := 5) (by8 := 1) (xs := xs) rfl rfl rfl rfl (by decide) rfl rfl ⟨by omega, by omega⟩ (fun _ => ?_) (fun _ _ _ _ q => absurd hx0 q); cbv)
      | (refine appendNilL hX tab_ok (t := 27) (sz := 1) (e := 5) (by8 := 1) (xs := []) rfl rfl rfl rfl (by decide) rfl rfl ⟨by decide, by decide⟩ (fun _ => ?_) (fun _ _ _ _ q => absurd rfl q); cbv)
      | (refine pauseL hX (told_empty 8 1 1 0 _ rfl rfl) ?_; (with_reducible refine goL (c := .region 13 _ _) (T := fun _ => tabY [5003] []) (H := fun _ => []) (tabY_ok _ _) noK_ok follows_mixed hA hX ?_); cbv)
      | ((with_reducible refine goL (c := .region 13 _ _) (T := fun _ => tabY [5003] []) (H := fun _ => []) (tabY_ok _ _) noK_ok follows_mixed hA hX ?_); cbv)
    all_goals try (show A.inb 0 2; subst hA; exact (⟨by decide, by decide⟩ : (0 : Int) ≤ 0 ∧ (0 : Int) < 2))
    all_goals try (show A.inb 1 2; subst hA; exact (⟨by decide, by decide⟩ : (0 : Int) ≤ 1 ∧ (1 : Int) < 2))
    all_goals subst hA hX hW
    all_goals first
      | exact rfl
      | (rw [hx0, hy0]; exact ⟨.d (.slc 1 []), _, TellsV.nil _ _ 1, rfl, rfl⟩)
      | fail
  · refine unrollL (T := fun _ => tabY [5003] []) (H := fun _ => []) (tabY_ok _ _) noK_ok follows_mixed hA hX 3 fun R2 hR2 => ?_
    cbv
    repeat' first
      | (simp only [l0, l1, l2, b0, b1, o0_0, o0_1, na, s0, s1, s2, s3, decide_true]; cbv)
      | (refine part (fun h => ?_) (fun h => ?_) <;> try cbv)
      | (refine And.intro ?_ ?_)
      | (refine hR2 _ _ _ ?_; cbv)
    all_goals try (show A.inb 0 2; subst hA; exact (⟨by decide, by decide⟩ : (0 : Int) ≤ 0 ∧ (0 : Int) < 2))
    all_goals try (show A.inb 1 2; subst hA; exact (⟨by decide, by decide⟩ : (0 : Int) ≤ 1 ∧ (1 : Int) < 2))
    all_goals subst hA hX hW
    all_goals first
      | exact rfl
      | (show List.length _ = _ * 1
         simp only [A0, List.nil_append, rowsD_len hp0.sz]
         omega)
      | (simp only [A0]; refine ⟨by omega, by omega⟩)
      | (simp only [A0]; rw [hcs, rowsD_len hp1.sz]; omega)
      | skip
    refine ret_freeze 2 1 (xs ++ ys) _ rfl rfl (Nat.le_refl 2) ?_ ?_ ?_
    · show [] ++ rowsD xs ++ (cs.drop 0).take (m * 1) = _
      rw [List.nil_append, List.drop_zero, List.take_of_length_le (by rw [hcs, rowsD_len hp1.sz]; omega), hcs, rowsD_append]
    · intro x hx
      rcases List.mem_append.1 hx with h | h
      · exact hp0.sz x h
      · exact hp1.sz x h
    · have hfz : ∀ w, fzL 2 w 1 (xs ++ ys) cs = cs := fun w => by
        rw [fzL_eq, hcs, rowsD, List.map_map]
        rfl
      have hpl : ∀ κ, pullL κ cs = cs := fun κ => by rw [hcs, pullL_eq]; exact pull_rows κ _
      refine ret_keep [0, 1] rfl ⟨?_, ?_⟩
      · simp [fzD, pullD, A0, hm]
      · show [(⟨27, [.d (.slc 1 xs), .view 1 1 v 0 m], false, 0, true⟩ : Box), ⟨5, pullL [0, 1] (fzL 2 (v2 + 1 + 1) 1 (xs ++ ys) cs), true, v, true⟩] = _
        rw [hfz, hpl]
end Go.Proofs.Ytmjmbfcfnhnpmaa
namespace Go.Proofs.Ytmjmbfcfnhnpmaa
open Go.RowKit
set_option linter.all false
set_option maxHeartbeats 4000000
theorem set_self {α : Type} {l : List α} {i : Nat} {a : α} (h : l[i]? = some a) : l.set i a = l := by
  apply List.ext_getElem?
  intro j
  by_cases e : i = j
  · subst e
    rw [List.getElem?_set_self (List.getElem?_eq_some_iff.1 h).1, h]
  · rw [List.getElem?_set_ne e]
theorem concat_at {st : Store} {K : DV → Store → Prop} (b c : Nat) {xs ys : List (List PD)} {cs : List DV} {v m : Nat} (hb : st[b]? = some ⟨27, [.d (.slc 1 xs), .view 1 c v 0 m], false, 0, true⟩) (hc : st[c]? = some ⟨5, cs, true, v, true⟩) (hbc : b ≠ c)
    (hx : isB xs) (hy : isB ys) (hcs : cs = rowsD ys) (hm : m = ys.length) (hk : K (.d (.slc 1 (xs ++ ys))) st) : FnD Try.prog 33 [.view 1 b 0 0 2] st K := by
  have hlt : b < st.length := (List.getElem?_eq_some_iff.1 hb).1
  have hltc : c < st.length := (List.getElem?_eq_some_iff.1 hc).1
  have hcl : closedL 0 cs = true := by rw [hcs, rowsD]; exact closedL_data 0 _
  have hren1 : Box.ren (place [b, c] st.length) ⟨27, [.d (.slc 1 xs), .view 1 1 v 0 m], false, 0, true⟩ = ⟨27, [.d (.slc 1 xs), .view 1 c v 0 m], false, 0, true⟩ := by
    simp [Box.ren, renD, place]
  have hren2 : Box.ren (place [b, c] st.length) ⟨5, cs, true, v, true⟩ = ⟨5, cs, true, v, true⟩ := by
    unfold Box.ren
    have := renL_pure (place [b, c] st.length) cs hcl
    rw [renL_eq] at this
    rw [this]
  have hxl := hx.len
  have hyl := hy.len
  refine FnD.at (args' := [.view 1 0 0 0 2]) (w_concatV xs ys cs v m hx hy (by omega) hcs hm) [b, c] (by simp [hlt, hltc, hbc, closedL, closedD]) ?_ (by simp [renL, renD, place]) ?_
  · intro k r bx0 hk hs
    rcases k with _ | _ | k
    · simp at hk hs
      subst hk; subst hs
      exact ⟨by rw [hren1]; exact hb, by simp [closedL, closedD]⟩
    · simp at hk hs
      subst hk; subst hs
      exact ⟨by rw [hren2]; exact hc, closedL_mono (Nat.zero_le _) _ hcl⟩
    · simp at hk
  · rintro r0 stc ⟨rfl, rfl⟩ _
    rw [renD_pure _ _ rfl, List.map_cons, List.map_cons, List.map_nil, hren1, hren2, merge_two hlt hltc hbc, set_self hb, set_self hc]
    exact hk
/-- The rows of cells that hold one datum each. -/
def unB : List DV → List (List PD)
  | .d p :: r => [p] :: unB r
  | _ => []
theorem unB_bytes (bs : List UInt8) : unB (rowsD (bytesP bs)) = bytesP bs := by
  induction bs with
  | nil => rfl
  | cons b bs ih =>
    have e : rowsD (bytesP (b :: bs)) = .d (.sc (.int .u8 b.toNat)) :: rowsD (bytesP bs) := rfl
    rw [e, unB, ih]
    rfl
def isV (xs : List (List PD)) (cs : List DV) (m : Nat) : Prop := isB xs ∧ isB (unB cs) ∧ cs = rowsD (unB cs) ∧ m = (unB cs).length
def catV (xs : List (List PD)) (cs : List DV) : List (List PD) := xs ++ unB cs

structure FsV where
  catV : List (List PD) → List DV → List (List PD)
  isV : List (List PD) → List DV → Nat → Prop
  ne : Nat → Nat → Prop
def FsV0 : FsV where
  catV := catV
  isV := isV
  ne := (· ≠ ·)
def kb_cat2 (F : FsV) : FuncId × (List DV → Store → SV) := (33, fun args st => match args with
  | [.view 1 b 0 0 2] => (match st[b]? with
    | some ⟨27, [.d (.slc 1 xs), .view 1 c v 0 m], false, 0, true⟩ => (match st[c]? with
      | some ⟨5, cs, true, w, true⟩ => some ([F.isV xs cs m, F.ne b c, v = w], .d (.slc 1 (F.catV xs cs)), st)
      | _ => none)
    | _ => none)
  | _ => none)
theorem okb_cat2 (args : List DV) (st : Store) (cs : List Prop) (r : DV) (st' : Store) (h : (kb_cat2 FsV0).2 args st = some (cs, r, st')) (hc : allP cs True) (K : DV → Store → Prop) (hk : K r st') : FnD Try.prog 33 args st K := by
  unfold kb_cat2 at h
  simp only at h
  split at h
  · split at h
    · rename_i hb
      split at h
      · rename_i hc2
        cases h
        obtain ⟨⟨h1, h2, h3, h4⟩, h5, h6, _⟩ := hc
        subst h6
        exact concat_at _ _ hb hc2 h5 h1 h2 h3 h4 hk
      · cases h
    · cases h
  · cases h
end Go.Proofs.Ytmjmbfcfnhnpmaa
namespace Go.Proofs.Ytmjmbfcfnhnpmaa
open Go.RowKit
set_option linter.all false
set_option maxHeartbeats 4000000
def pB (p : List (List PD)) (w : Nat) (cs : List DV) : Box := ⟨5, cs, true, w, true⟩
/-- A disk without a row, beside a row of one's own: what a change leaves. -/
def dkV0 (D : Dk) (P : Box) (res r : DV) (st : Store) : Prop := r = res ∧ ((D.L = [] ∧ st = [dB D.q (.d (.sc (.slice none 0 0))) D.o D.a D.l, P]) ∨ ∃ v, v ≤ 9 ∧ D.L ≠ [] ∧ st = [dB D.q (.view 3 2 v 0 D.L.length) D.o D.a D.l, P, fB (cellsF D.L) v])
/-- A disk with a row. -/
def dkV1 (u : Nat) (D : Dk) (P : Box) (res r : DV) (st : Store) : Prop := r = res ∧ ∃ v, v ≤ u + 9 ∧ st = [dB D.q (.view 3 1 v 0 D.L.length) D.o D.a D.l, fB (cellsF D.L) v, P]

set_option maxRecDepth 100000 in
theorem w_appV0 (q : Int) (o a : Bool) (lf : Int) (name : ByteArray) (p : List (List PD)) (w pm : Nat) (pc : List DV) (hD : okD 900 ⟨q, [], o, a, lf⟩) (hn : name.size ≤ 1048576) (hp : isB p) (hpc : pc = rowsD p) (hpm : pm = p.length) : FnD Try.prog 11 [.ref 0 0 0, .d (.sc (.string name)), .view 1 1 w 0 pm] [dB q (.d (.sc (.slice none 0 0))) o a lf, ⟨5, pc, true, w, true⟩] (fun r st' => dkV0 ((Dk.mk q [] o a lf).app name p).2 ⟨5, pc, true, w, true⟩ (.d (.sc (.int .i64 ((Dk.mk q [] o a lf).app name p).1))) r st') := by
  obtain ⟨L, hL⟩ : ∃ L : List FileM, L = [] := ⟨_, rfl⟩
  rw [← hL] at hD ⊢
  have hl0 : L = [] := hL
  have hkm := trivial
  obtain ⟨GFsD, hFsD⟩ : ∃ F, F = FsD0 := ⟨_, rfl⟩
  obtain ⟨GFsM, hFsM⟩ : ∃ F, F = FsM0 := ⟨_, rfl⟩
  obtain ⟨GFsK, hFsK⟩ : ∃ F, F = FsK0 := ⟨_, rfl⟩
  obtain ⟨GFsI, hFsI⟩ : ∃ F, F = FsI0 := ⟨_, rfl⟩
  obtain ⟨GFsV, hFsV⟩ : ∃ F, F = FsV0 := ⟨_, rfl⟩
  have hH : SoundK Try.prog [kn_may GFsD] := by subst hFsD hFsM hFsK hFsI hFsV; exact orK_ok ok_may noK_ok
  have hB : SoundB Try.prog [kb_room GFsM, kb_power GFsK, kb_find GFsK, kb_ins GFsI, kb_cat2 GFsV] := by subst hFsD hFsM hFsK hFsI hFsV; exact orB_ok okb_room (orB_ok okb_power (orB_ok okb_find (orB_ok okb_ins (orB_ok okb_cat2 noB_ok))))
  refine FnD_cbv (T := fun _ => tabY [60, 61, 66, 67] [13]) (H := fun _ => [kn_may GFsD]) (tabY_ok _ _) hH follows_mixed Try.func11 rfl Try.ntmps11 (by simp) fun A X W hA hX hW => ?_
  cbv
  repeat' first
    | (refine part (fun h => ?_) (fun h => ?_) <;> try cbv)
    | (refine And.intro ?_ ?_)
    | (with_reducible refine callB hX hB ?_) <;> cbv
    | ((with_reducible refine goL (T := fun _ => tabY [60, 61, 66, 67] [13]) (H := fun _ => [kn_may GFsD]) (tabY_ok _ _) hH follows_mixed hA hX ?_) <;> cbv; fail)
    | ((with_reducible refine regionBZ [33] (T := fun _ => tabY [60, 61, 66, 67] []) (H := fun _ => [kn_may GFsD]) (B := fun _ => [kb_room GFsM, kb_power GFsK, kb_find GFsK, kb_ins GFsI, kb_cat2 GFsV]) (A := A) (tabY_ok _ _) hH hB follows_mixed hA hX (by kernel_rfl) (by kernel_rfl) ?_) <;> cbv)
  all_goals subst hA hX hW hFsD hFsM hFsK hFsI hFsV
  all_goals clear hH hB
  all_goals try (show Region.lexB _ _ = true; kernel_rfl)
  all_goals try (show turnsB _ = true; kernel_rfl)
  all_goals try simp only [A0, FsD0, FsM0, FsK0, FsI0, FsV0, decide_eq_true_eq, decide_eq_false_iff_not, Bool.not_eq_true', Bool.not_eq_false'] at *
  all_goals have e0 : findX [] name = (0, false) := rfl
  all_goals try rw [e0] at *
  all_goals try (have ec : findX cs name = findF name L 0 := by unfold findX; rw [hrow])
  all_goals try rw [ec] at h
  all_goals try rw [ec]
  all_goals subst hpm
  all_goals have hrm : ∀ c, rowF c = L → roomX c q = q - totF L := fun c hc => by unfold roomX totX; rw [hc]
  all_goals have hgz : ∀ (f : FileM), f ∈ L → isB f.data := fun f hf => (hD.fs f hf).1
  all_goals have hun : unB pc = p := by obtain ⟨pb, hpb, _⟩ := hp; rw [hpc, hpb]; exact unB_bytes pb
  all_goals have hv : ∀ xs, isB xs → isV xs pc p.length := fun xs hx => ⟨hx, by rw [hun]; exact hp, by rw [hun]; exact hpc, by rw [hun]⟩
  all_goals have hnil : isV [] pc p.length := hv [] ⟨[], rfl, by simp⟩
  all_goals have hcatV : ∀ xs, catV xs pc = xs ++ p := fun xs => by unfold catV; rw [hun]
  all_goals have hLl : L.length ≤ 900 := hD.len
  all_goals have hfn := @find_none L name
  all_goals first
    | contradiction
    | assumption
    | exact hn
    | (show (_ : Nat) ≠ _; decide)
    | exact (⟨rfl, rfl, rfl⟩ : okInsN [.d (.sc (.string name)), .d (.slc 1 []), .d (.sc (.int .i64 0))] 0)
    | exact (⟨by decide, by decide⟩ : (0 : Int) ≤ 0 ∧ (0 : Int) < ((1 : Nat) : Int))
    | exact ⟨rfl, Nat.le_of_ble_eq_true rfl, rfl⟩
    | (show 0 + 0 * 3 + 1 + 1 ≤ 3; decide)
    | exact hnil
    | (have hf : (findF name L 0).2 = false := by assumption
       obtain ⟨k, hk⟩ : ∃ k : Nat, (findF name L 0).1 = (k : Int) := ⟨(findF name L 0).1.toNat, by omega⟩
       have hkl : k ≤ L.length := by omega
       have hi := insF_rows L ⟨name, [], 0⟩ k hkl
       obtain ⟨i1, i2, i3⟩ := ins_get L ⟨name, [], 0⟩ k hkl
       have i4 := (List.getElem?_eq_some_iff.1 i1).1
       have ef := (List.getElem?_eq_some_iff.1 i1).2
       obtain ⟨g0, g1, g2, g3, g4⟩ := file_cell rfl k i4
       rw [ef] at g1
       have cl := cellsF_len L
       simp only [hk, Int.toNat_natCast, Nat.zero_add, hcs, hm]
       first
         | exact ⟨cl, rfl, by omega, by omega, by omega, by rw [cellsF, rowsD]; exact closedL_data 0 _, rfl⟩
         | exact (⟨by omega, by omega⟩ : (0 : Int) ≤ (k : Int) ∧ (k : Int) < ((L.length + 1 : Nat) : Int))
         | (rw [hi]
            simp only [g1]
            first
              | exact hnil
              | (refine ⟨rfl, by omega, ?_⟩
                 obtain ⟨hn, e⟩ := List.getElem?_eq_some_iff.1 g1
                 rw [List.drop_eq_getElem_cons hn, e]
                 rfl))
         | (rw [hi]; omega))
    | (have hf : (findF name L 0).2 = true := by assumption
       obtain ⟨k, hk⟩ : ∃ k : Nat, (findF name L 0).1 = (k : Int) := ⟨(findF name L 0).1.toNat, by omega⟩
       obtain ⟨f, h4, h5⟩ := Dk.at_get (D := ⟨q, L, o, a, lf⟩) hf
       simp only [Dk.at, hk, Int.toNat_natCast] at h4
       have hl := (List.getElem?_eq_some_iff.1 h4).1
       have ef := (List.getElem?_eq_some_iff.1 h4).2
       obtain ⟨g0, g1, g2, g3, g4⟩ := file_cell hcs k hl
       rw [ef] at g1
       simp only [hk, Int.toNat_natCast, Nat.zero_add, g1]
       first
         | (rw [hm]; exact (⟨by omega, by omega⟩ : (0 : Int) ≤ (k : Int) ∧ (k : Int) < (L.length : Int)))
         | exact hv _ (hgz f (by rw [← ef]; exact List.getElem_mem hl))
         | (refine ⟨rfl, by omega, ?_⟩
            obtain ⟨hn, e⟩ := List.getElem?_eq_some_iff.1 g1
            rw [List.drop_eq_getElem_cons hn, e]
            rfl)
         | omega)
    | exact hD.l
    | (show okD 900 ⟨q, rowF [], o, a, lf⟩; rw [show rowF [] = L from hl0.symm]; exact hD)
    | (show okD 900 ⟨q, rowF cs, o, a, lf⟩; rw [hrow]; exact hD)
    | (have h1 : o = true := by assumption
       have hs : (Dk.mk q L o a lf).app name p = (10, ⟨q, L, o, a, lf⟩) := by
         unfold Dk.app
         rw [if_pos h1]
       rw [hs]
       first
         | exact RetW.refl ⟨rfl, .inl ⟨hl0, rfl⟩⟩
         | exact RetW.refl ⟨some (v, m, cs), .inr ⟨by simp, by simp⟩, ⟨hcs, hm⟩, rfl, rfl⟩)
    | (have h0 : o = false := by assumption
       have h1 : mayF name = false := by assumption
       have hs : (Dk.mk q L o a lf).app name p = (11, ⟨q, L, o, a, lf⟩) := by
         unfold Dk.app
         rw [if_neg (by show ¬ o = true; rw [h0]; decide), if_pos h1]
       rw [hs]
       first
         | exact RetW.refl ⟨rfl, .inl ⟨hl0, rfl⟩⟩
         | exact RetW.refl ⟨some (v, m, cs), .inr ⟨by simp, by simp⟩, ⟨hcs, hm⟩, rfl, rfl⟩)
    | (have h0 : o = false := by assumption
       have h1 : mayF name = true := by assumption
       have h2 : roomX [] q < ↑p.length := by assumption
       rw [hrm [] hl0.symm] at h2
       have hs : (Dk.mk q L o a lf).app name p = (7, ⟨q, L, o, a, lf⟩) := by
         unfold Dk.app
         rw [if_neg (by show ¬ o = true; rw [h0]; decide), if_neg (by show ¬ mayF name = false; rw [h1]; decide), if_pos h2]
       rw [hs]
       exact RetW.refl ⟨rfl, .inl ⟨hl0, rfl⟩⟩)
    | (have h0 : o = false := by assumption
       have h1 : mayF name = true := by assumption
       have h2 : roomX cs q < ↑p.length := by assumption
       rw [hrm cs hrow] at h2
       have hs : (Dk.mk q L o a lf).app name p = (7, ⟨q, L, o, a, lf⟩) := by
         unfold Dk.app
         rw [if_neg (by show ¬ o = true; rw [h0]; decide), if_neg (by show ¬ mayF name = false; rw [h1]; decide), if_pos h2]
       rw [hs]
       exact RetW.refl ⟨some (v, m, cs), .inr ⟨by simp, by simp⟩, ⟨hcs, hm⟩, rfl, rfl⟩)
    | (have h0 : o = false := by assumption
       have h1 : mayF name = true := by assumption
       have h2 : ¬ q - totF L < ↑p.length := by
         first
           | (have h2 : ¬ roomX [] q < ↑p.length := by assumption
              rw [hrm [] hl0.symm] at h2
              exact h2)
           | (have h2 : ¬ roomX cs q < ↑p.length := by assumption
              rw [hrm cs hrow] at h2
              exact h2)
       have h3 : ¬ powE a lf = 0 := by assumption
       have hs : (Dk.mk q L o a lf).app name p = (powE a lf, ⟨q, L, powO o a lf, a, powL a lf⟩) := by
         unfold Dk.app
         rw [if_neg (by show ¬ o = true; rw [h0]; decide), if_neg (by show ¬ mayF name = false; rw [h1]; decide), if_neg h2, if_neg h3]
       rw [hs]
       first
         | exact RetW.refl ⟨rfl, .inl ⟨hl0, rfl⟩⟩
         | exact RetW.refl ⟨some (v, m, cs), .inr ⟨by simp, by simp⟩, ⟨hcs, hm⟩, rfl, rfl⟩)
    | (have h0 : o = false := by assumption
       have h1 : mayF name = true := by assumption
       have h2 : ¬ q - totF L < ↑p.length := by
         first
           | (have h2 : ¬ roomX [] q < ↑p.length := by assumption
              rw [hrm [] hl0.symm] at h2
              exact h2)
           | (have h2 : ¬ roomX cs q < ↑p.length := by assumption
              rw [hrm cs hrow] at h2
              exact h2)
       have h3 : powE a lf = 0 := by assumption
       have hs : (Dk.mk q L o a lf).app name p = (0, ⟨q, addF L name p, powO o a lf, a, powL a lf⟩) := by
         unfold Dk.app
         rw [if_neg (by show ¬ o = true; rw [h0]; decide), if_neg (by show ¬ mayF name = false; rw [h1]; decide), if_neg h2, if_pos h3]
       rw [hs]
       first
         | (have ha : addF L name p = [⟨name, p, 0⟩] := by rw [hl0]; rfl
            rw [ha]
            refine ret_keep [0, 1, 3] rfl ⟨rfl, .inr ⟨0, by decide, by simp, ?_⟩⟩
            have hpp : ∀ κ, pullL κ pc = pc := fun κ => by rw [hpc, pullL_eq]; exact pull_rows κ _
            simp only [keepSt, List.map_cons, List.map_nil, pullBox, List.getD_cons_zero, List.getD_cons_succ, hpp, hcatV]
            rfl
            done)
         | (have hf : (findF name L 0).2 = false := by assumption
            obtain ⟨k, hk⟩ : ∃ k : Nat, (findF name L 0).1 = (k : Int) := ⟨(findF name L 0).1.toNat, by omega⟩
            have hkl : k ≤ L.length := by omega
            have hi := insF_rows L ⟨name, [], 0⟩ k hkl
            obtain ⟨i1, i2, i3⟩ := ins_get L ⟨name, [], 0⟩ k hkl
            have i4 := (List.getElem?_eq_some_iff.1 i1).1
            have ef := (List.getElem?_eq_some_iff.1 i1).2
            obtain ⟨g0, g1, g2, g3, g4⟩ := file_cell rfl k i4
            rw [ef] at g1
            have ha : addF L name p = L.take k ++ [⟨name, p, 0⟩] ++ L.drop k := by
              unfold addF
              rw [if_neg (by rw [hf]; decide), hk]
              rfl
            have hsd := set_data _ k _ i1 p
            rw [i3] at hsd
            rw [ha]
            simp only [hk, Int.toNat_natCast, Nat.zero_add]
            rw [hcs]
            rw [hi]
            simp only [g1]
            rw [show catV [] pc = p from hcatV [], hsd]
            have hps : ∀ κ, pullL κ (cellsF (L.take k ++ [⟨name, p, 0⟩] ++ L.drop k)) = cellsF (L.take k ++ [⟨name, p, 0⟩] ++ L.drop k) := fun κ => by rw [pullL_eq]; exact pull_rows κ _
            refine ret_keep2 [0, 1] rfl ⟨⟨trivial, .inl rfl⟩, .inl rfl⟩ (RetW.refl ⟨some (v + 1, m + 1, cellsF (L.take k ++ [⟨name, p, 0⟩] ++ L.drop k)), .inr ⟨by simp, by simp⟩, ⟨rfl, ?_⟩, rfl, ?_⟩)
            · rw [hm, (ins_get L ⟨name, p, 0⟩ k hkl).2.1]
            · simp only [keepSt, List.map_cons, List.map_nil, pullBox, List.getD_cons_zero, List.getD_cons_succ, hps]
              rfl)
         | (have hf : (findF name L 0).2 = true := by assumption
            obtain ⟨k, hk⟩ : ∃ k : Nat, (findF name L 0).1 = (k : Int) := ⟨(findF name L 0).1.toNat, by omega⟩
            obtain ⟨f, h4, h5⟩ := Dk.at_get (D := ⟨q, L, o, a, lf⟩) hf
            simp only [Dk.at, hk, Int.toNat_natCast] at h4
            have hl := (List.getElem?_eq_some_iff.1 h4).1
            have ef := (List.getElem?_eq_some_iff.1 h4).2
            obtain ⟨g0, g1, g2, g3, g4⟩ := file_cell hcs k hl
            rw [ef] at g1
            have ha : addF L name p = L.set k ⟨f.name, f.data ++ p, f.kept⟩ := by
              unfold addF
              rw [if_pos hf, hk]
              simp only [Int.toNat_natCast, h4]
            simp only [hk, Int.toNat_natCast, Nat.zero_add, g1]
            rw [ha, hcs, hcatV f.data, set_data L k f h4]
            refine RetW.refl ⟨some (v, m, _), .inr ⟨by simp, by simp⟩, ⟨rfl, ?_⟩, rfl, rfl⟩
            rw [List.length_set]
            exact hm)
         | fail)
    | fail
set_option maxRecDepth 100000 in
theorem w_appV1 (q : Int) (o a : Bool) (lf : Int) (L : List FileM) (name : ByteArray) (p : List (List PD)) (v m : Nat) (cs : List DV) (w pm : Nat) (pc : List DV) (hcs : cs = cellsF L) (hm : m = L.length) (hD : okD 900 ⟨q, L, o, a, lf⟩) (hn : name.size ≤ 1048576) (hp : isB p) (hpc : pc = rowsD p) (hpm : pm = p.length) : FnD Try.prog 11 [.ref 0 0 0, .d (.sc (.string name)), .view 1 2 w 0 pm] [dB q (.view 3 1 v 0 m) o a lf, fB cs v, ⟨5, pc, true, w, true⟩] (fun r st' => dkV1 v ((Dk.mk q L o a lf).app name p).2 ⟨5, pc, true, w, true⟩ (.d (.sc (.int .i64 ((Dk.mk q L o a lf).app name p).1))) r st') := by
  have hisF : isF cs m := by rw [hcs, hm]; exact isF.mk (hD.okL (by decide))
  have hrow : rowF cs = L := by rw [hcs]; exact rowF_cells L
  have hpull : ∀ κ, pullL κ cs = cs := fun κ => by rw [hcs, pullL_eq]; exact pull_rows κ _
  obtain ⟨GFsD, hFsD⟩ : ∃ F, F = FsD0 := ⟨_, rfl⟩
  obtain ⟨GFsM, hFsM⟩ : ∃ F, F = FsM0 := ⟨_, rfl⟩
  obtain ⟨GFsK, hFsK⟩ : ∃ F, F = FsK0 := ⟨_, rfl⟩
  obtain ⟨GFsI, hFsI⟩ : ∃ F, F = FsI0 := ⟨_, rfl⟩
  obtain ⟨GFsV, hFsV⟩ : ∃ F, F = FsV0 := ⟨_, rfl⟩
  have hH : SoundK Try.prog [kn_may GFsD] := by subst hFsD hFsM hFsK hFsI hFsV; exact orK_ok ok_may noK_ok
  have hB : SoundB Try.prog [kb_room GFsM, kb_power GFsK, kb_find GFsK, kb_ins GFsI, kb_cat2 GFsV] := by subst hFsD hFsM hFsK hFsI hFsV; exact orB_ok okb_room (orB_ok okb_power (orB_ok okb_find (orB_ok okb_ins (orB_ok okb_cat2 noB_ok))))
  refine FnD_cbv (T := fun _ => tabY [60, 61, 66, 67] [13]) (H := fun _ => [kn_may GFsD]) (tabY_ok _ _) hH follows_mixed Try.func11 rfl Try.ntmps11 (by simp) fun A X W hA hX hW => ?_
  cbv
  repeat' first
    | (refine part (fun h => ?_) (fun h => ?_) <;> try cbv)
    | (refine And.intro ?_ ?_)
    | (with_reducible refine callB hX hB ?_) <;> cbv
    | ((with_reducible refine goL (T := fun _ => tabY [60, 61, 66, 67] [13]) (H := fun _ => [kn_may GFsD]) (tabY_ok _ _) hH follows_mixed hA hX ?_) <;> cbv; fail)
    | ((with_reducible refine regionBZ [33] (T := fun _ => tabY [60, 61, 66, 67] []) (H := fun _ => [kn_may GFsD]) (B := fun _ => [kb_room GFsM, kb_power GFsK, kb_find GFsK, kb_ins GFsI, kb_cat2 GFsV]) (A := A) (tabY_ok _ _) hH hB follows_mixed hA hX (by kernel_rfl) (by kernel_rfl) ?_) <;> cbv)
  all_goals subst hA hX hW hFsD hFsM hFsK hFsI hFsV
  all_goals clear hH hB
  all_goals try (show Region.lexB _ _ = true; kernel_rfl)
  all_goals try (show turnsB _ = true; kernel_rfl)
  all_goals try simp only [A0, FsD0, FsM0, FsK0, FsI0, FsV0, decide_eq_true_eq, decide_eq_false_iff_not, Bool.not_eq_true', Bool.not_eq_false'] at *
  all_goals have e0 : findX [] name = (0, false) := rfl
  all_goals try rw [e0] at *
  all_goals try (have ec : findX cs name = findF name L 0 := by unfold findX; rw [hrow])
  all_goals try rw [ec] at h
  all_goals try rw [ec]
  all_goals subst hpm
  all_goals have hrm : ∀ c, rowF c = L → roomX c q = q - totF L := fun c hc => by unfold roomX totX; rw [hc]
  all_goals have hgz : ∀ (f : FileM), f ∈ L → isB f.data := fun f hf => (hD.fs f hf).1
  all_goals have hun : unB pc = p := by obtain ⟨pb, hpb, _⟩ := hp; rw [hpc, hpb]; exact unB_bytes pb
  all_goals have hv : ∀ xs, isB xs → isV xs pc p.length := fun xs hx => ⟨hx, by rw [hun]; exact hp, by rw [hun]; exact hpc, by rw [hun]⟩
  all_goals have hnil : isV [] pc p.length := hv [] ⟨[], rfl, by simp⟩
  all_goals have hcatV : ∀ xs, catV xs pc = xs ++ p := fun xs => by unfold catV; rw [hun]
  all_goals have hLl : L.length ≤ 900 := hD.len
  all_goals have hfn := @find_none L name
  all_goals first
    | contradiction
    | assumption
    | exact hn
    | (show (_ : Nat) ≠ _; decide)
    | exact (⟨rfl, rfl, rfl⟩ : okInsN [.d (.sc (.string name)), .d (.slc 1 []), .d (.sc (.int .i64 0))] 0)
    | exact (⟨by decide, by decide⟩ : (0 : Int) ≤ 0 ∧ (0 : Int) < ((1 : Nat) : Int))
    | exact ⟨rfl, Nat.le_of_ble_eq_true rfl, rfl⟩
    | (show 0 + 0 * 3 + 1 + 1 ≤ 3; decide)
    | exact hnil
    | (have hf : (findF name L 0).2 = false := by assumption
       obtain ⟨k, hk⟩ : ∃ k : Nat, (findF name L 0).1 = (k : Int) := ⟨(findF name L 0).1.toNat, by omega⟩
       have hkl : k ≤ L.length := by omega
       have hi := insF_rows L ⟨name, [], 0⟩ k hkl
       obtain ⟨i1, i2, i3⟩ := ins_get L ⟨name, [], 0⟩ k hkl
       have i4 := (List.getElem?_eq_some_iff.1 i1).1
       have ef := (List.getElem?_eq_some_iff.1 i1).2
       obtain ⟨g0, g1, g2, g3, g4⟩ := file_cell rfl k i4
       rw [ef] at g1
       have cl := cellsF_len L
       simp only [hk, Int.toNat_natCast, Nat.zero_add, hcs, hm]
       first
         | exact ⟨cl, rfl, by omega, by omega, by omega, by rw [cellsF, rowsD]; exact closedL_data 0 _, rfl⟩
         | exact (⟨by omega, by omega⟩ : (0 : Int) ≤ (k : Int) ∧ (k : Int) < ((L.length + 1 : Nat) : Int))
         | (rw [hi]
            simp only [g1]
            first
              | exact hnil
              | (refine ⟨rfl, by omega, ?_⟩
                 obtain ⟨hn, e⟩ := List.getElem?_eq_some_iff.1 g1
                 rw [List.drop_eq_getElem_cons hn, e]
                 rfl))
         | (rw [hi]; omega))
    | (have hf : (findF name L 0).2 = true := by assumption
       obtain ⟨k, hk⟩ : ∃ k : Nat, (findF name L 0).1 = (k : Int) := ⟨(findF name L 0).1.toNat, by omega⟩
       obtain ⟨f, h4, h5⟩ := Dk.at_get (D := ⟨q, L, o, a, lf⟩) hf
       simp only [Dk.at, hk, Int.toNat_natCast] at h4
       have hl := (List.getElem?_eq_some_iff.1 h4).1
       have ef := (List.getElem?_eq_some_iff.1 h4).2
       obtain ⟨g0, g1, g2, g3, g4⟩ := file_cell hcs k hl
       rw [ef] at g1
       simp only [hk, Int.toNat_natCast, Nat.zero_add, g1]
       first
         | (rw [hm]; exact (⟨by omega, by omega⟩ : (0 : Int) ≤ (k : Int) ∧ (k : Int) < (L.length : Int)))
         | exact hv _ (hgz f (by rw [← ef]; exact List.getElem_mem hl))
         | (refine ⟨rfl, by omega, ?_⟩
            obtain ⟨hn, e⟩ := List.getElem?_eq_some_iff.1 g1
            rw [List.drop_eq_getElem_cons hn, e]
            rfl)
         | omega)
    | exact hD.l
    | (show okD 900 ⟨q, rowF [], o, a, lf⟩; rw [show rowF [] = L from hl0.symm]; exact hD)
    | (show okD 900 ⟨q, rowF cs, o, a, lf⟩; rw [hrow]; exact hD)
    | (have h1 : o = true := by assumption
       have hs : (Dk.mk q L o a lf).app name p = (10, ⟨q, L, o, a, lf⟩) := by
         unfold Dk.app
         rw [if_pos h1]
       rw [hs]
       first
         | exact RetW.refl ⟨none, .inl ⟨rfl, .inl rfl⟩, hl0, rfl, rfl⟩
         | exact RetW.refl ⟨rfl, v, by omega, by rw [hcs, hm]⟩)
    | (have h0 : o = false := by assumption
       have h1 : mayF name = false := by assumption
       have hs : (Dk.mk q L o a lf).app name p = (11, ⟨q, L, o, a, lf⟩) := by
         unfold Dk.app
         rw [if_neg (by show ¬ o = true; rw [h0]; decide), if_pos h1]
       rw [hs]
       first
         | exact RetW.refl ⟨none, .inl ⟨rfl, .inl rfl⟩, hl0, rfl, rfl⟩
         | exact RetW.refl ⟨rfl, v, by omega, by rw [hcs, hm]⟩)
    | (have h0 : o = false := by assumption
       have h1 : mayF name = true := by assumption
       have h2 : roomX [] q < ↑p.length := by assumption
       rw [hrm [] hl0.symm] at h2
       have hs : (Dk.mk q L o a lf).app name p = (7, ⟨q, L, o, a, lf⟩) := by
         unfold Dk.app
         rw [if_neg (by show ¬ o = true; rw [h0]; decide), if_neg (by show ¬ mayF name = false; rw [h1]; decide), if_pos h2]
       rw [hs]
       exact RetW.refl ⟨none, .inl ⟨rfl, .inl rfl⟩, hl0, rfl, rfl⟩)
    | (have h0 : o = false := by assumption
       have h1 : mayF name = true := by assumption
       have h2 : roomX cs q < ↑p.length := by assumption
       rw [hrm cs hrow] at h2
       have hs : (Dk.mk q L o a lf).app name p = (7, ⟨q, L, o, a, lf⟩) := by
         unfold Dk.app
         rw [if_neg (by show ¬ o = true; rw [h0]; decide), if_neg (by show ¬ mayF name = false; rw [h1]; decide), if_pos h2]
       rw [hs]
       exact RetW.refl ⟨rfl, v, by omega, by rw [hcs, hm]⟩)
    | (have h0 : o = false := by assumption
       have h1 : mayF name = true := by assumption
       have h2 : ¬ q - totF L < ↑p.length := by
         first
           | (have h2 : ¬ roomX [] q < ↑p.length := by assumption
              rw [hrm [] hl0.symm] at h2
              exact h2)
           | (have h2 : ¬ roomX cs q < ↑p.length := by assumption
              rw [hrm cs hrow] at h2
              exact h2)
       have h3 : ¬ powE a lf = 0 := by assumption
       have hs : (Dk.mk q L o a lf).app name p = (powE a lf, ⟨q, L, powO o a lf, a, powL a lf⟩) := by
         unfold Dk.app
         rw [if_neg (by show ¬ o = true; rw [h0]; decide), if_neg (by show ¬ mayF name = false; rw [h1]; decide), if_neg h2, if_neg h3]
       rw [hs]
       first
         | exact RetW.refl ⟨none, .inl ⟨rfl, .inl rfl⟩, hl0, rfl, rfl⟩
         | exact RetW.refl ⟨rfl, v, by omega, by rw [hcs, hm]⟩)
    | (have h0 : o = false := by assumption
       have h1 : mayF name = true := by assumption
       have h2 : ¬ q - totF L < ↑p.length := by
         first
           | (have h2 : ¬ roomX [] q < ↑p.length := by assumption
              rw [hrm [] hl0.symm] at h2
              exact h2)
           | (have h2 : ¬ roomX cs q < ↑p.length := by assumption
              rw [hrm cs hrow] at h2
              exact h2)
       have h3 : powE a lf = 0 := by assumption
       have hs : (Dk.mk q L o a lf).app name p = (0, ⟨q, addF L name p, powO o a lf, a, powL a lf⟩) := by
         unfold Dk.app
         rw [if_neg (by show ¬ o = true; rw [h0]; decide), if_neg (by show ¬ mayF name = false; rw [h1]; decide), if_neg h2, if_pos h3]
       rw [hs]
       first
         | (have ha : addF L name p = [⟨name, p, 0⟩] := by rw [hl0]; rfl
            rw [ha]
            refine ret_keep2 [0, 2] rfl ⟨trivial, .inl rfl⟩ (RetW.refl ⟨some (0, 1, cellsF [⟨name, p, 0⟩]), .inl ⟨rfl, .inr (by simp)⟩, ⟨rfl, rfl⟩, rfl, rfl⟩)
            done)
         | (have hf : (findF name L 0).2 = false := by assumption
            obtain ⟨k, hk⟩ : ∃ k : Nat, (findF name L 0).1 = (k : Int) := ⟨(findF name L 0).1.toNat, by omega⟩
            have hkl : k ≤ L.length := by omega
            have hi := insF_rows L ⟨name, [], 0⟩ k hkl
            obtain ⟨i1, i2, i3⟩ := ins_get L ⟨name, [], 0⟩ k hkl
            have i4 := (List.getElem?_eq_some_iff.1 i1).1
            have ef := (List.getElem?_eq_some_iff.1 i1).2
            obtain ⟨g0, g1, g2, g3, g4⟩ := file_cell rfl k i4
            rw [ef] at g1
            have ha : addF L name p = L.take k ++ [⟨name, p, 0⟩] ++ L.drop k := by
              unfold addF
              rw [if_neg (by rw [hf]; decide), hk]
              rfl
            have hsd := set_data _ k _ i1 p
            rw [i3] at hsd
            rw [ha]
            simp only [hk, Int.toNat_natCast, Nat.zero_add]
            rw [hcs]
            rw [hi]
            simp only [g1]
            rw [show catV [] pc = p from hcatV [], hsd]
            have hps : ∀ κ, pullL κ (cellsF (L.take k ++ [⟨name, p, 0⟩] ++ L.drop k)) = cellsF (L.take k ++ [⟨name, p, 0⟩] ++ L.drop k) := fun κ => by rw [pullL_eq]; exact pull_rows κ _
            have hpp : ∀ κ, pullL κ pc = pc := fun κ => by rw [hpc, pullL_eq]; exact pull_rows κ _
            refine ret_keep [0, 1, 2] rfl ⟨rfl, v + 1, by omega, (by
              rw [(ins_get L ⟨name, p, 0⟩ k hkl).2.1, ← hm]
              simp only [keepSt, List.map_cons, List.map_nil, pullBox, List.getD_cons_zero, List.getD_cons_succ, hps, hpp]
              rfl)⟩)
         | (have hf : (findF name L 0).2 = true := by assumption
            obtain ⟨k, hk⟩ : ∃ k : Nat, (findF name L 0).1 = (k : Int) := ⟨(findF name L 0).1.toNat, by omega⟩
            obtain ⟨f, h4, h5⟩ := Dk.at_get (D := ⟨q, L, o, a, lf⟩) hf
            simp only [Dk.at, hk, Int.toNat_natCast] at h4
            have hl := (List.getElem?_eq_some_iff.1 h4).1
            have ef := (List.getElem?_eq_some_iff.1 h4).2
            obtain ⟨g0, g1, g2, g3, g4⟩ := file_cell hcs k hl
            rw [ef] at g1
            have ha : addF L name p = L.set k ⟨f.name, f.data ++ p, f.kept⟩ := by
              unfold addF
              rw [if_pos hf, hk]
              simp only [Int.toNat_natCast, h4]
            simp only [hk, Int.toNat_natCast, Nat.zero_add, g1]
            rw [ha, hcs, hcatV f.data, set_data L k f h4]
            have hpp : ∀ κ, pullL κ pc = pc := fun κ => by rw [hpc, pullL_eq]; exact pull_rows κ _
            have hps : ∀ κ (M : List FileM), pullL κ (cellsF M) = cellsF M := fun κ M => by rw [pullL_eq]; exact pull_rows κ _
            refine ret_keep [0, 1, 2] rfl ⟨rfl, v, by omega, (by
              simp only [keepSt, List.map_cons, List.map_nil, pullBox, List.getD_cons_zero, List.getD_cons_succ, hps, hpp, List.length_set, ← hm]
              rfl)⟩)
         | fail)
    | fail
end Go.Proofs.Ytmjmbfcfnhnpmaa
namespace Go.Proofs.Ytmjmbfcfnhnpmaa
open Go.RowKit
set_option linter.all false
set_option maxHeartbeats 4000000
theorem bump_dR {D : Dk} {u n w : Nat} {L : List FileM} (res : DV) (hres : ∀ b v w, bumpD b v w res = res) (h : u ≤ w) (hn : n = L.length) {R : DV → Store → Prop} {k : Nat} (hR : R res [dB D.q (.view 3 1 w 0 L.length) D.o D.a D.l, fB (cellsF L) w]) : RetW k R res [dB D.q (.view 3 1 u 0 n) D.o D.a D.l, fB (cellsF L) u] := by
  subst hn
  refine ret_bump2 1 w (fB (cellsF L) u) rfl rfl h ?_
  have e1 : bumpD 1 (fB (cellsF L) u).ver w res = res := hres _ _ _
  have hc : ∀ b v w, bumpL b v w (cellsF L) = cellsF L := fun b v w => by
    rw [bumpL_eq, cellsF, rowsD, List.map_map]
    rfl
  have e2 : bumpSt 1 w [dB D.q (.view 3 1 u 0 L.length) D.o D.a D.l, fB (cellsF L) u] = [dB D.q (.view 3 1 w 0 L.length) D.o D.a D.l, fB (cellsF L) w] := by
    simp [bumpSt, hc, bumpL, bumpD]
  rw [e1, e2]
  exact RetW.refl hR
theorem FnD.fix1 {P : Program} {f : FuncId} {args : List DV} {q : Int} {v n : Nat} {cs : List DV} {o a : Bool} {l : Int} {D : Dk} {res : DV} (hres : ∀ b v w, bumpD b v w res = res) (h : FnD P f args (dkS q (some (v, n, cs)) o a l) fun r st' => dkR (some (v, n, cs)) D res r st') : FnD P f args (dkS q (some (v, n, cs)) o a l) fun r st' => r = res ∧ st' = dkS D.q (some (v + 9, D.L.length, cellsF D.L)) D.o D.a D.l := by
  refine FnD.ret (h.mono ?_)
  rintro r st' ⟨fr', h1, h2, h3, rfl, rfl⟩
  rcases h1 with ⟨h1, _⟩ | ⟨_, h1⟩
  · cases h1
  · rcases fr' with _ | ⟨u, n', cs'⟩
    · exact absurd rfl h1
    · obtain ⟨rfl, hn⟩ := h3
      exact bump_dR _ hres h2 hn ⟨rfl, rfl⟩
def dkN (D : Dk) : Store := if D.L = [] then dkS D.q none D.o D.a D.l else dkS D.q (some (9, D.L.length, cellsF D.L)) D.o D.a D.l
theorem FnD.fix0 {P : Program} {f : FuncId} {args : List DV} {q : Int} {o a : Bool} {l : Int} {D : Dk} {res : DV} (hres : ∀ b v w, bumpD b v w res = res) (h : FnD P f args (dkS q none o a l) fun r st' => dkR none D res r st') : FnD P f args (dkS q none o a l) fun r st' => r = res ∧ st' = dkN D := by
  refine FnD.ret (h.mono ?_)
  rintro r st' ⟨fr', h1, h2, h3, rfl, rfl⟩
  rcases fr' with _ | ⟨u, n', cs'⟩
  · have h3' : D.L = [] := h3
    refine RetW.refl ⟨rfl, ?_⟩
    rw [dkN, if_pos h3']
  · obtain ⟨rfl, hn⟩ := h3
    rcases h1 with ⟨_, h1⟩ | ⟨h1, _⟩
    · rcases h1 with h1 | h1
      · cases h1
      · refine bump_dR _ hres h2 hn ⟨rfl, ?_⟩
        rw [dkN, if_neg h1]
        rfl
    · exact absurd rfl h1
/-- A change of a disk with a row, at any two places. -/
theorem FnD.fixA1 {P : Program} {f : FuncId} {args : List DV} {st : Store} {K : DV → Store → Prop} {q : Int} {v n : Nat} {cs : List DV} {o a : Bool} {l : Int} {D : Dk} {res : DV} (b c : Nat) (hres : ∀ b v w, bumpD b v w res = res) (hrc : closedD 0 res = true)
    (h : FnD P f (.ref 0 0 0 :: args) (dkS q (some (v, n, cs)) o a l) fun r st' => dkR (some (v, n, cs)) D res r st') (hb : st[b]? = some (dB q (.view 3 c v 0 n) o a l)) (hc : st[c]? = some (fB cs v)) (hbc : b ≠ c) (hcs : ∃ L, cs = cellsF L) (ha : closedL 0 args = true)
    (hk : K res ((st.set b (dB D.q (.view 3 c (v + 9) 0 D.L.length) D.o D.a D.l)).set c (fB (cellsF D.L) (v + 9)))) : FnD P f (.ref b 0 0 :: args) st K := by
  refine FnD.dk (β := Unit) (G := fun _ => True) (res := fun _ => res) (q' := fun _ => D.q) (l' := fun _ => D.l) (o' := fun _ => D.o) (a' := fun _ => D.a) (v' := fun _ => v + 9) (n' := fun _ => D.L.length) (cs' := fun _ => cellsF D.L) b c (FnD.mono (FnD.fix1 hres h) fun r st' h => ⟨(), trivial, h.1, h.2⟩) hb hc hbc ha (fun _ _ => hrc) ?_ ?_ fun _ _ => hk
  · obtain ⟨L, rfl⟩ := hcs
    rw [cellsF, rowsD]
    exact closedL_data 0 _
  · intro _ _
    rw [cellsF, rowsD]
    exact closedL_data 0 _
/-- A change of a disk without a row, at any place. -/
theorem FnD.fixA0 {P : Program} {f : FuncId} {args : List DV} {st : Store} {K : DV → Store → Prop} {q : Int} {o a : Bool} {l : Int} {D : Dk} {res : DV} (b : Nat) (hres : ∀ b v w, bumpD b v w res = res) (hrc : closedD 0 res = true)
    (h : FnD P f (.ref 0 0 0 :: args) (dkS q none o a l) fun r st' => dkR none D res r st') (hb : st[b]? = some (dB q (.d (.sc (.slice none 0 0))) o a l)) (ha : closedL 0 args = true)
    (hk : K res (if D.L = [] then st.set b (dB D.q (.d (.sc (.slice none 0 0))) D.o D.a D.l) else st.set b (dB D.q (.view 3 st.length 9 0 D.L.length) D.o D.a D.l) ++ [fB (cellsF D.L) 9])) : FnD P f (.ref b 0 0 :: args) st K := by
  by_cases h0 : D.L = []
  · rw [if_pos h0] at hk
    refine FnD.dk0 (β := Unit) (G := fun _ => True) (fr' := fun _ => none) (res := fun _ => res) (q' := fun _ => D.q) (l' := fun _ => D.l) (o' := fun _ => D.o) (a' := fun _ => D.a) b (FnD.mono (FnD.fix0 hres h) fun r st' h => ⟨(), trivial, h.1, ?_⟩) hb ha (fun _ _ => hrc) (fun _ _ _ _ _ h => by cases h) fun _ _ => ⟨fun _ => hk, fun _ _ _ h => by cases h⟩
    rw [h.2, dkN, if_pos h0]
  · rw [if_neg h0] at hk
    refine FnD.dk0 (β := Unit) (G := fun _ => True) (fr' := fun _ => some (9, D.L.length, cellsF D.L)) (res := fun _ => res) (q' := fun _ => D.q) (l' := fun _ => D.l) (o' := fun _ => D.o) (a' := fun _ => D.a) b (FnD.mono (FnD.fix0 hres h) fun r st' h => ⟨(), trivial, h.1, ?_⟩) hb ha (fun _ _ => hrc) ?_ fun _ _ => ⟨fun h => (by cases h), fun v n cs h => (by cases h; exact hk)⟩
    · rw [h.2, dkN, if_neg h0]
    · intro _ v n cs _ h
      cases h
      rw [cellsF, rowsD]
      exact closedL_data 0 _
/-- Two calls of one function, each as it is known. -/
def twoB (f : FuncId) (b : Nat) (A1 A2 : List DV) (S1 S2 : Store) (r1 r2 : DV) (T1 T2 : Store) : FuncId × (List DV → Store → SV) := (f, fun args st => match args with
  | .ref c _ _ :: _ => bif c == b then some ([args = A1, st = S1], r1, T1) else some ([args = A2, st = S2], r2, T2)
  | _ => none)
theorem twoB_ok {P : Program} {f : FuncId} {b : Nat} {A1 A2 : List DV} {S1 S2 : Store} {r1 r2 : DV} {T1 T2 : Store} (h1 : ∀ K : DV → Store → Prop, K r1 T1 → FnD P f A1 S1 K) (h2 : ∀ K : DV → Store → Prop, K r2 T2 → FnD P f A2 S2 K) (args : List DV) (st : Store) (cs : List Prop) (r : DV) (st' : Store) (h : (twoB f b A1 A2 S1 S2 r1 r2 T1 T2).2 args st = some (cs, r, st')) (hc : allP cs True) (K : DV → Store → Prop) (hk : K r st') : FnD P f args st K := by
  unfold twoB at h
  simp only at h
  split at h
  · rename_i c x y z
    cases hcb : (c == b)
    · rw [hcb] at h
      cases h
      obtain ⟨e1, e2, _⟩ := hc
      rw [e1, e2]
      exact h2 K hk
    · rw [hcb] at h
      cases h
      obtain ⟨e1, e2, _⟩ := hc
      rw [e1, e2]
      exact h1 K hk
  · cases h

def strR1 (K : List ByteArray) : List (List PD) := K.map fun k => [.sc (.string k)]
set_option maxRecDepth 100000 in
theorem v_sameS (K : List ByteArray) (xs : List (List PD)) (hx : xs = strR1 K) (hK : K.length ≤ 1000000) : FnV Try.prog 25 [.d (.slc 1 xs), .d (.slc 1 xs)] (boolD true) := by
  have hl : xs.length = K.length := by rw [hx]; simp [strR1]
  obtain ⟨n, hn⟩ : ∃ n : Int, n = K.length := ⟨_, rfl⟩
  have hH : SoundK Try.prog [] := by exact noK_ok
  have hB : SoundB Try.prog [] := by exact noB_ok
  refine FnD_cbv (T := fun _ => tabY [19, 23] []) (H := fun _ => []) (tabY_ok _ _) hH follows_mixed Try.func25 rfl Try.ntmps25 (by simp) fun A X W hA hX hW => ?_
  cbv
  have c0 : A.cmp .neq (A.len xs) (A.len xs) = false := by subst hA; show (!decide (_ = _)) = false; rw [decide_eq_true rfl]; rfl
  cbv at c0
  simp only [c0]
  cbv
  refine loopL (T := fun _ => tabY [19, 23] []) (H := fun _ => []) (tabY_ok _ _) noK_ok follows_mixed hA hX (fun i : Int => 0 ≤ i ∧ i ≤ n) (fun i => [(0, .d (.slc 1 xs)), (1, .d (.slc 1 xs)), (5, .d (.sc (.int .i64 i)))]) (fun _ => []) (fun i => n.toNat - i.toNat) 0 ?_ ?_ ?_
  · replace hn : n = (K.length : Int) := hn
    exact ⟨Int.le_refl 0, by omega⟩
  · exact told_less (by simp [toldP, getS])
  rintro R i hR ⟨i0, i1⟩
  replace i0 : 0 ≤ i := i0
  replace i1 : i ≤ n := i1
  cbv
  repeat' first
    | (refine part (fun h => ?_) (fun h => ?_) <;> try cbv)
    | (refine And.intro ?_ ?_)
  all_goals subst hR hA hX hW
  all_goals clear hH hB
  all_goals simp only [A0, nc, decide_eq_true_eq, decide_eq_false_iff_not] at *
  all_goals replace hn : n = (K.length : Int) := hn
  all_goals try
    have hlt : i.toNat < K.length := by omega
    have hr : xs.getD i.toNat [] = [.sc (.string (K[i.toNat]'hlt))] := by rw [hx, List.getD_eq_getElem?_getD]; simp [strR1, hlt]
    simp only [hr, List.map_cons, List.map_nil, List.getElem?_cons_zero] at *
  all_goals first
    | rfl
    | (show Region.lexB _ _ = true; kernel_rfl)
    | (show turnsB _ = true; kernel_rfl)
    | exact ⟨by omega, by omega⟩
    | omega
    | (exfalso; simp at h; done)
    | (refine ⟨i + 1, ⟨by omega, by omega⟩, by omega, told_less ?_⟩
       have ei : IntKind.wrap .i64 (i + 1) = i + 1 := wrap_i64 (by unfold r64; omega)
       simp [toldP, getS, ei])
    | exact ⟨rfl, Nat.le_refl _, rfl⟩
    | exact ret_v rfl rfl
    | fail

def namesF (L : List FileM) : List (List PD) := strR1 (L.map FileM.name)
def nmS (m n : Int) (mm v : Nat) : Int → Option (Nat × Nat × List DV) → SL
  | i, none => [(0, .ref 0 0 0), (3, .d (.sc (.slice none 0 0))), (9, .view 3 1 v 0 mm), (10, .d (.sc (.int .i64 n))), (11, .d (.sc (.int .i64 i)))]
  | i, some (u, k, _) => [(0, .ref 0 0 0), (3, .view 1 2 u 0 k), (9, .view 3 1 v 0 mm), (10, .d (.sc (.int .i64 n))), (11, .d (.sc (.int .i64 i)))]
def nmT (st : Store) : Option (Nat × Nat × List DV) → Store
  | none => st
  | some (u, _, c) => st ++ [⟨9, c, true, u, true⟩]
def nmI (K : List (List PD)) : Option (Nat × Nat × List DV) → Prop
  | none => K = []
  | some (_, k, c) => c = rowsD K ∧ k = K.length
theorem namesF_succ {L : List FileM} {i : Int} {f : FileM} (h0 : 0 ≤ i) (h : L[i.toNat]? = some f) : namesF (L.take (i + 1).toNat) = namesF (L.take i.toNat) ++ [[.sc (.string f.name)]] := by
  have e : (i + 1).toNat = i.toNat + 1 := by omega
  rw [e, List.take_succ, h]
  simp [namesF, strR1]
theorem strR1_sz (K : List ByteArray) : ∀ x ∈ strR1 K, x.length = 1 := by
  intro x hx
  simp only [strR1, List.mem_map] at hx
  obtain ⟨_, _, rfl⟩ := hx
  rfl
set_option maxRecDepth 100000 in
theorem w_names0 (q : Int) (o a : Bool) (lf : Int) : FnD Try.prog 24 [.ref 0 0 0] (dkS q none o a lf) (fun r st' => r = .d (.slc 1 (namesF [])) ∧ st' = dkS q none o a lf) := by
  have hH : SoundK Try.prog [] := by exact noK_ok
  have hB : SoundB Try.prog [] := by exact noB_ok
  refine FnD_cbv (T := fun _ => tabY [5003] []) (H := fun _ => []) (tabY_ok _ _) hH follows_mixed Try.func24 rfl Try.ntmps24 (by simp) fun A X W hA hX hW => ?_
  cbv
  have l0 : A.cmp .lss 0 0 = false := by subst hA; rfl
  cbv at l0
  repeat' (refine And.intro ?_ ?_)
  all_goals try (subst hA; exact rfl)
  refine unrollL (T := fun _ => tabY [5003] []) (H := fun _ => []) (tabY_ok _ _) noK_ok follows_mixed hA hX 1 fun R hR => ?_
  cbv
  refine hR _ _ _ ?_
  cbv
  simp only [l0]
  cbv
  subst hA hX hW
  exact ⟨.d (.slc 1 []), _, TellsV.nil _ _ 1, rfl, rfl⟩
set_option maxRecDepth 100000 in
theorem w_names1 (q : Int) (v m : Nat) (cs : List DV) (o a : Bool) (lf : Int) (L : List FileM) (hcs : cs = cellsF L) (hm : m = L.length) (hL : L.length ≤ 900) : FnD Try.prog 24 [.ref 0 0 0] (dkS q (some (v, m, cs)) o a lf) (fun r st' => r = .d (.slc 1 (namesF L)) ∧ st' = dkS q (some (v, m, cs)) o a lf) := by
  obtain ⟨n, hn⟩ : ∃ n : Int, n = L.length := ⟨_, rfl⟩
  have hn0 : 0 ≤ n := by omega
  have hn1 : n ≤ 900 := by omega
  have hmn : n = (m : Int) := by rw [hm]; exact hn
  have hcell : ∀ {i : Int}, 0 ≤ i → i < n → ∃ f, L[i.toNat]? = some f ∧ L.drop i.toNat = f :: L.drop (i + 1).toNat ∧ cs[i.toNat * 3]? = some (.d (.sc (.string f.name))) ∧ cs[i.toNat * 3 + 1]? = some (.d (.slc 1 f.data)) ∧ cs[i.toNat * 3 + 2]? = some (.d (.sc (.int .i64 f.kept))) ∧
      (cs.drop (i.toNat * 3)).take 3 = [.d (.sc (.string f.name)), .d (.slc 1 f.data), .d (.sc (.int .i64 f.kept))] ∧ i.toNat * 3 + 3 ≤ cs.length := by
    intro i h0 h1
    have h2 : i.toNat < L.length := by omega
    refine ⟨L[i.toNat], List.getElem?_eq_getElem h2, ?_, file_cell hcs i.toNat h2⟩
    rw [List.drop_eq_getElem_cons h2, show (i + 1).toNat = i.toNat + 1 by omega]
  have hpull : ∀ κ, pullL κ cs = cs := fun κ => by rw [hcs, pullL_eq]; exact pull_rows κ _
  have hH : SoundK Try.prog [] := by exact noK_ok
  have hB : SoundB Try.prog [] := by exact noB_ok
  refine FnD_cbv (T := fun _ => tabY [13] []) (H := fun _ => []) (tabY_ok _ _) hH follows_mixed Try.func24 rfl Try.ntmps24 (by simp) fun A X W hA hX hW => ?_
  cbv
  refine And.intro (by subst hA; rfl) ?_
  refine loopL (T := fun _ => tabY [13] []) (H := fun _ => []) (tabY_ok _ _) noK_ok follows_mixed hA hX (fun x : Int × Option (Nat × Nat × List DV) => (0 ≤ x.1 ∧ x.1 ≤ n) ∧ nmI (namesF (L.take x.1.toNat)) x.2) (fun x => nmS 0 n m v x.1 x.2) (fun x => nmT (dkS q (some (v, m, cs)) o a lf) x.2) (fun x => n.toNat - x.1.toNat) (0, none) ?_ ?_ ?_
  · exact ⟨⟨Int.le_refl 0, hn0⟩, rfl⟩
  · subst hA
    refine told_less ?_
    simp only [A0, nc] at *
    simp [toldP, getS, nmS, dkS, Fr.d, Fr.st, hmn]
  rintro R ⟨i, oo⟩ hR ⟨hi, h2⟩
  replace hi : 0 ≤ i ∧ i ≤ n := hi
  replace h2 : nmI (namesF (L.take i.toNat)) oo := h2
  rcases oo with _ | ⟨u, k, c⟩
  · replace h2 : namesF (L.take i.toNat) = [] := h2
    cbv
    refine part (fun h => ?_) (fun h => ?_) <;> cbv
    · have hlt : i < n := by subst hA; exact of_decide_eq_true h
      obtain ⟨f, k0, k1, k2, k3, k4, k5, k6⟩ := hcell hi.1 hlt
      have hsc := namesF_succ hi.1 k0
      rw [h2, List.nil_append] at hsc
      repeat' (refine And.intro ?_ ?_)
      all_goals subst hA hX hR
      all_goals clear hH hB
      all_goals replace hmn : n = (m : Int) := hmn
      all_goals have hpm : ∀ κ, cs.map (pullD κ) = cs := fun κ => (pullL_eq κ cs).symm.trans (hpull κ)
      all_goals have ei : IntKind.wrap .i64 (i + 1) = i + 1 := wrap_i64 (by unfold r64; omega)
      all_goals try simp only [A0, nc, Nat.zero_add, k2, k3, k4]
      all_goals first
        | rfl
        | exact ⟨hi.1, by omega⟩
        | exact ⟨rfl, k6, k5⟩
        | exact Nat.le_refl _
        | (simp; done)
        | (refine ⟨(i + 1, some (0, 1, [.d (.sc (.string f.name))])), ⟨⟨by simp only; omega, by simp only; omega⟩, ?_⟩, by simp only; omega, told_keep [0, 1, 4] rfl ?_ ?_⟩
           · show nmI (namesF (L.take (i + 1).toNat)) _
             rw [hsc]
             exact ⟨rfl, rfl⟩
           · simp [keepSt, pullBox, pullL, pullD, hpull, nmT, dkS, Fr.d, Fr.st]
             try rfl
           · simp [toldP, getS, nmS, pullD, ei]
             try (repeat' (first | rfl | apply And.intro)))
        | fail
    · have hge : ¬ i < n := by subst hA; exact of_decide_eq_false h
      replace hn : n = (L.length : Int) := hn
      have e : L.take i.toNat = L := List.take_of_length_le (by omega)
      rw [e] at h2
      subst hA hX hW
      rw [h2]
      exact ⟨.d (.slc 1 []), _, TellsV.nil _ _ 1, rfl, rfl⟩
  · obtain ⟨hc, hk⟩ : c = rowsD (namesF (L.take i.toNat)) ∧ k = (namesF (L.take i.toNat)).length := h2
    have hkl : c.length = k * 1 := by rw [hc, hk, namesF]; exact rowsD_len (strR1_sz _)
    have hkb : k ≤ 900 := by rw [hk, namesF, strR1, List.length_map, List.length_map, List.length_take]; omega
    cbv
    refine part (fun h => ?_) (fun h => ?_) <;> cbv
    · have hlt : i < n := by subst hA; exact of_decide_eq_true h
      obtain ⟨f, k0, k1, k2, k3, k4, k5, k6⟩ := hcell hi.1 hlt
      have hsc := namesF_succ hi.1 k0
      repeat' (refine And.intro ?_ ?_)
      all_goals subst hA hX hR
      all_goals clear hH hB
      all_goals replace hmn : n = (m : Int) := hmn
      all_goals have hpm : ∀ κ, cs.map (pullD κ) = cs := fun κ => (pullL_eq κ cs).symm.trans (hpull κ)
      all_goals have ei : IntKind.wrap .i64 (i + 1) = i + 1 := wrap_i64 (by unfold r64; omega)
      all_goals try simp only [A0, nc, Nat.zero_add, k2, k3, k4]
      all_goals first
        | rfl
        | exact ⟨hi.1, by omega⟩
        | exact ⟨rfl, k6, k5⟩
        | exact Nat.le_refl _
        | exact hkl
        | omega
        | (simp; done)
        | (exact ⟨by omega, by omega⟩)
        | (refine ⟨(i + 1, some (u + 1, k + 1, c ++ [.d (.sc (.string f.name))])), ⟨⟨by simp only; omega, by simp only; omega⟩, ?_⟩, by simp only; omega, told_keep [0, 1, 2] rfl ?_ ?_⟩
           · show nmI (namesF (L.take (i + 1).toNat)) _
             rw [hsc]
             exact ⟨by rw [hc, rowsD_append]; rfl, by rw [hk, List.length_append]; rfl⟩
           · have hpc : ∀ κ, c.map (pullD κ) = c := fun κ => by rw [hc]; exact pull_rows κ _
             simp [keepSt, pullBox, pullL_eq, pullD, hpm, hpc, nmT, dkS, Fr.d, Fr.st]
             try rfl
           · simp [toldP, getS, nmS, pullD, ei]
             try (repeat' (first | rfl | apply And.intro)))
        | fail
    · have hge : ¬ i < n := by subst hA; exact of_decide_eq_false h
      replace hn : n = (L.length : Int) := hn
      have e : L.take i.toNat = L := List.take_of_length_le (by omega)
      rw [e] at hc hk
      subst hA hX hW
      refine ret_freeze 2 1 (namesF L) _ rfl rfl (Nat.le_refl 2) hc (strR1_sz _) (ret_keep [0, 1] rfl ⟨?_, ?_⟩)
      · simp [fzD, pullD, hk]
      · have hfz : ∀ v, fzL 2 v 1 (namesF L) cs = cs := fun v => by rw [fzL_eq, hcs, cellsF, rowsD, List.map_map]; rfl
        simp [keepSt, fzSt, fzBox, fzL, fzD, pullBox, pullL, pullD, hfz, hpull, dkS, Fr.d, Fr.st]
        rfl

end Go.Proofs.Ytmjmbfcfnhnpmaa
namespace Go.Proofs.Ytmjmbfcfnhnpmaa
open Go.RowKit
set_option linter.all false
set_option maxHeartbeats 4000000
theorem cloneNew (xs : List (List PD)) (hp0 : isB xs) {st : Store} {K : DV → Store → Prop} (h0 : xs = [] → K nilS st) (h1 : ∀ v n cs, cs = rowsD xs → n = xs.length → K (.view 1 st.length v 0 n) (st ++ [⟨5, cs, true, v, true⟩])) : FnD Try.prog 35 [.d (.slc 1 xs)] st K := by
  refine FnD.at (w_clone xs hp0) [] (by simp [closedL, closedD]) (by simp) (by simp [renL, renD]) ?_
  rintro r0 stc (⟨hz, rfl, rfl⟩ | ⟨v, m, cs, rfl, rfl, rfl, rfl⟩) _
  · have e2 : mergeL st [] (([] : Store).map (Box.ren (place [] st.length))) = st := by
      apply List.ext_getElem?
      intro i
      simp [mergeL]
    rw [e2]
    simpa [renD, nilS] using h0 hz
  · have e3 : (rowsD xs).map (renD (place [] st.length)) = rowsD xs := by rw [← renL_eq]; exact renL_pure _ _ (closedL_data 0 _)
    have e2 : mergeL st [] ([(⟨5, rowsD xs, true, v, true⟩ : Box)].map (Box.ren (place [] st.length))) = st ++ [⟨5, rowsD xs, true, v, true⟩] := by
      apply List.ext_getElem?
      intro i
      rw [mergeL]
      simp only [List.idxOf?_nil, List.map_cons, List.map_nil, List.length_nil, List.drop_zero, Box.ren, e3]
      congr 2
      apply List.ext_getElem? ; intro j; simp
    rw [e2]
    simpa [renD, place] using h1 v _ _ rfl rfl
theorem merge_twoP {st : Store} {b c : Nat} (hb : b < st.length) (hc : c < st.length) (hbc : b ≠ c) (x y : Box) (ys : List Box) : mergeL st [b, c] (x :: y :: ys) = (st.set b x).set c y ++ ys := by
  have h := merge_two hb hc hbc x y
  have e : mergeL st [b, c] (x :: y :: ys) = mergeL st [b, c] [x, y] ++ ys := by
    unfold mergeL
    simp only [List.length_cons, List.length_nil, List.drop_succ_cons, List.drop_zero, List.append_nil]
    congr 1
    apply List.ext_getElem?
    intro i
    simp only [List.getElem?_mapIdx]
    by_cases hi : b = i
    · subst hi
      have : ([b, c] : List Nat).idxOf? b = some 0 := by simp [List.idxOf?, List.findIdx?_cons]
      simp [this]
    · by_cases hj : c = i
      · subst hj
        have : ([b, c] : List Nat).idxOf? c = some 1 := by simp [List.idxOf?, List.findIdx?_cons, hbc]
        simp [this]
      · have : ([b, c] : List Nat).idxOf? i = none := by
          rw [List.idxOf?_eq_none_iff]
          simp only [List.mem_cons, List.not_mem_nil, or_false, not_or]
          exact ⟨fun h => hi h.symm, fun h => hj h.symm⟩
        simp [this]
  rw [e, h]
theorem merge_three {st : Store} {b c d : Nat} (hb : b < st.length) (hc : c < st.length) (hd : d < st.length) (h1 : b ≠ c) (h2 : b ≠ d) (h3 : c ≠ d) (x y z : Box) : mergeL st [b, c, d] [x, y, z] = ((st.set b x).set c y).set d z := by
  apply List.ext_getElem?
  intro i
  have hd' : ([x, y, z] : List Box).drop [b, c, d].length = [] := by simp
  rw [mergeL, hd', List.append_nil]
  simp only [List.getElem?_mapIdx, List.getElem?_set, List.length_set]
  by_cases hi : b = i
  · subst hi
    have : ([b, c, d] : List Nat).idxOf? b = some 0 := by simp [List.idxOf?, List.findIdx?_cons]
    simp [this, hb, Ne.symm h1, Ne.symm h2]
  · by_cases hj : c = i
    · subst hj
      have : ([b, c, d] : List Nat).idxOf? c = some 1 := by simp [List.idxOf?, List.findIdx?_cons, h1]
      simp [this, hc, Ne.symm h3]
    · by_cases hl : d = i
      · subst hl
        have : ([b, c, d] : List Nat).idxOf? d = some 2 := by simp [List.idxOf?, List.findIdx?_cons, h2, h3]
        simp [this, hd]
      · have : ([b, c, d] : List Nat).idxOf? i = none := by
          rw [List.idxOf?_eq_none_iff]
          simp only [List.mem_cons, List.not_mem_nil, or_false, not_or]
          exact ⟨fun h => hi h.symm, fun h => hj h.symm, fun h => hl h.symm⟩
        simp [this, hi, hj, hl]
theorem cells_cl (L : List FileM) : closedL 0 (cellsF L) = true := by rw [cellsF, rowsD]; exact closedL_data 0 _
theorem rows_cl (L : List (List PD)) : closedL 0 (rowsD L) = true := closedL_data 0 _
/-- A disk without limits asked for a change: what becomes of it. -/
theorem app_some (q : Int) (L : List FileM) (nm : ByteArray) (p : List (List PD)) : ∃ e L', (Dk.mk q L false false 0).app nm p = (e, ⟨q, L', false, false, 0⟩) := by
  unfold Dk.app
  simp only [powE, powO, powL, Bool.false_and, cond_false, if_true, Bool.false_or]
  repeat' split
  all_goals exact ⟨_, _, rfl⟩
theorem sync_some (q : Int) (L : List FileM) (nm : ByteArray) : ∃ e L', (Dk.mk q L false false 0).sync nm = (e, ⟨q, L', false, false, 0⟩) := by
  unfold Dk.sync
  simp only [powE, powO, powL, Bool.false_and, cond_false, if_true, Bool.false_or]
  repeat' split
  all_goals exact ⟨_, _, rfl⟩
theorem ren_some (q : Int) (L : List FileM) (nm to : ByteArray) : ∃ e L', (Dk.mk q L false false 0).ren nm to = (e, ⟨q, L', false, false, 0⟩) := by
  unfold Dk.ren
  simp only [powE, powO, powL, Bool.false_and, cond_false, if_true, Bool.false_or]
  repeat' split
  all_goals exact ⟨_, _, rfl⟩

theorem appA0 {st : Store} {K : DV → Store → Prop} {q : Int} (name : ByteArray) (p : List (List PD)) (b : Nat) (hb : st[b]? = some (dB q (.d (.sc (.slice none 0 0))) false false 0)) {e : Int} {L' : List FileM} (hD : okD 900 ⟨q, [], false, false, 0⟩) (hn : name.size ≤ 1048576) (hp : isB p) (hr : (Dk.mk q [] false false 0).app name p = (e, ⟨q, L', false, false, 0⟩)) (hk : (K (.d (.sc (.int .i64 e))) (if L' = [] then st.set b (dB q (.d (.sc (.slice none 0 0))) false false 0) else st.set b (dB q (.view 3 st.length 9 0 L'.length) false false 0) ++ [fB (cellsF L') 9]))) : FnD Try.prog 11 (.ref b 0 0 :: [.d (.sc (.string name)), .d (.slc 1 p)]) st K := by
  have h0 := w_app q none false false 0 [] name p rfl hD hn hp
  rw [hr] at h0
  exact FnD.fixA0 (D := ⟨q, L', false, false, 0⟩) b (fun _ _ _ => rfl) rfl h0 hb rfl hk
theorem appA1 {st : Store} {K : DV → Store → Prop} {q : Int} (name : ByteArray) (p : List (List PD)) (b c : Nat) {v n : Nat} {cs : List DV} {L : List FileM} (hb : st[b]? = some (dB q (.view 3 c v 0 n) false false 0)) (hc : st[c]? = some (fB cs v)) (hbc : b ≠ c) (hcs : cs = cellsF L) (hnl : n = L.length) {e : Int} {L' : List FileM} (hD : okD 900 ⟨q, L, false, false, 0⟩) (hn : name.size ≤ 1048576) (hp : isB p) (hr : (Dk.mk q L false false 0).app name p = (e, ⟨q, L', false, false, 0⟩)) (hk : (∀ n' cs', n' = L'.length → cs' = cellsF L' → K (.d (.sc (.int .i64 e))) ((st.set b (dB q (.view 3 c (v + 9) 0 n') false false 0)).set c (fB cs' (v + 9))))) : FnD Try.prog 11 (.ref b 0 0 :: [.d (.sc (.string name)), .d (.slc 1 p)]) st K := by
  have h0 := w_app q (some (v, n, cs)) false false 0 L name p ⟨hcs, hnl⟩ hD hn hp
  rw [hr] at h0
  exact FnD.fixA1 (D := ⟨q, L', false, false, 0⟩) b c (fun _ _ _ => rfl) rfl h0 hb hc hbc ⟨L, hcs⟩ rfl (hk _ _ rfl rfl)
theorem syncA0 {st : Store} {K : DV → Store → Prop} {q : Int} (name : ByteArray) (b : Nat) (hb : st[b]? = some (dB q (.d (.sc (.slice none 0 0))) false false 0)) {e : Int} {L' : List FileM} (hD : okD 900 ⟨q, [], false, false, 0⟩) (hr : (Dk.mk q [] false false 0).sync name = (e, ⟨q, L', false, false, 0⟩)) (hk : (K (.d (.sc (.int .i64 e))) (if L' = [] then st.set b (dB q (.d (.sc (.slice none 0 0))) false false 0) else st.set b (dB q (.view 3 st.length 9 0 L'.length) false false 0) ++ [fB (cellsF L') 9]))) : FnD Try.prog 12 (.ref b 0 0 :: [.d (.sc (.string name))]) st K := by
  have h0 := w_sync q none false false 0 [] name rfl hD
  rw [hr] at h0
  exact FnD.fixA0 (D := ⟨q, L', false, false, 0⟩) b (fun _ _ _ => rfl) rfl h0 hb rfl hk
theorem syncA1 {st : Store} {K : DV → Store → Prop} {q : Int} (name : ByteArray) (b c : Nat) {v n : Nat} {cs : List DV} {L : List FileM} (hb : st[b]? = some (dB q (.view 3 c v 0 n) false false 0)) (hc : st[c]? = some (fB cs v)) (hbc : b ≠ c) (hcs : cs = cellsF L) (hnl : n = L.length) {e : Int} {L' : List FileM} (hD : okD 900 ⟨q, L, false, false, 0⟩) (hr : (Dk.mk q L false false 0).sync name = (e, ⟨q, L', false, false, 0⟩)) (hk : (∀ n' cs', n' = L'.length → cs' = cellsF L' → K (.d (.sc (.int .i64 e))) ((st.set b (dB q (.view 3 c (v + 9) 0 n') false false 0)).set c (fB cs' (v + 9))))) : FnD Try.prog 12 (.ref b 0 0 :: [.d (.sc (.string name))]) st K := by
  have h0 := w_sync q (some (v, n, cs)) false false 0 L name ⟨hcs, hnl⟩ hD
  rw [hr] at h0
  exact FnD.fixA1 (D := ⟨q, L', false, false, 0⟩) b c (fun _ _ _ => rfl) rfl h0 hb hc hbc ⟨L, hcs⟩ rfl (hk _ _ rfl rfl)
theorem renA0 {st : Store} {K : DV → Store → Prop} {q : Int} (name to : ByteArray) (b : Nat) (hb : st[b]? = some (dB q (.d (.sc (.slice none 0 0))) false false 0)) {e : Int} {L' : List FileM} (hD : okD 900 ⟨q, [], false, false, 0⟩) (hn : to.size ≤ 1048576) (hr : (Dk.mk q [] false false 0).ren name to = (e, ⟨q, L', false, false, 0⟩)) (hk : (K (.d (.sc (.int .i64 e))) (if L' = [] then st.set b (dB q (.d (.sc (.slice none 0 0))) false false 0) else st.set b (dB q (.view 3 st.length 9 0 L'.length) false false 0) ++ [fB (cellsF L') 9]))) : FnD Try.prog 23 (.ref b 0 0 :: [.d (.sc (.string name)), .d (.sc (.string to))]) st K := by
  have h0 := w_ren q none false false 0 [] name to rfl hD hn
  rw [hr] at h0
  exact FnD.fixA0 (D := ⟨q, L', false, false, 0⟩) b (fun _ _ _ => rfl) rfl h0 hb rfl hk
theorem renA1 {st : Store} {K : DV → Store → Prop} {q : Int} (name to : ByteArray) (b c : Nat) {v n : Nat} {cs : List DV} {L : List FileM} (hb : st[b]? = some (dB q (.view 3 c v 0 n) false false 0)) (hc : st[c]? = some (fB cs v)) (hbc : b ≠ c) (hcs : cs = cellsF L) (hnl : n = L.length) {e : Int} {L' : List FileM} (hD : okD 900 ⟨q, L, false, false, 0⟩) (hn : to.size ≤ 1048576) (hr : (Dk.mk q L false false 0).ren name to = (e, ⟨q, L', false, false, 0⟩)) (hk : (∀ n' cs', n' = L'.length → cs' = cellsF L' → K (.d (.sc (.int .i64 e))) ((st.set b (dB q (.view 3 c (v + 9) 0 n') false false 0)).set c (fB cs' (v + 9))))) : FnD Try.prog 23 (.ref b 0 0 :: [.d (.sc (.string name)), .d (.sc (.string to))]) st K := by
  have h0 := w_ren q (some (v, n, cs)) false false 0 L name to ⟨hcs, hnl⟩ hD hn
  rw [hr] at h0
  exact FnD.fixA1 (D := ⟨q, L', false, false, 0⟩) b c (fun _ _ _ => rfl) rfl h0 hb hc hbc ⟨L, hcs⟩ rfl (hk _ _ rfl rfl)
theorem bump_v1 {D : Dk} {u w : Nat} {L : List FileM} {pw : Nat} {p : List (List PD)} (e : Int) (h : u ≤ w) {R : DV → Store → Prop} {k : Nat} (hR : R (.d (.sc (.int .i64 e))) [dB D.q (.view 3 1 w 0 L.length) D.o D.a D.l, fB (cellsF L) w, ⟨5, rowsD p, true, pw, true⟩]) : RetW k R (.d (.sc (.int .i64 e))) [dB D.q (.view 3 1 u 0 L.length) D.o D.a D.l, fB (cellsF L) u, ⟨5, rowsD p, true, pw, true⟩] := by
  refine ret_bump2 1 w (fB (cellsF L) u) rfl rfl h ?_
  have hc : ∀ b v w, bumpL b v w (cellsF L) = cellsF L := fun b v w => by
    rw [bumpL_eq, cellsF, rowsD, List.map_map]
    rfl
  have hp : ∀ b v w, bumpL b v w (rowsD p) = rowsD p := fun b v w => by
    rw [bumpL_eq, rowsD, List.map_map]
    rfl
  have e2 : bumpSt 1 w [dB D.q (.view 3 1 u 0 L.length) D.o D.a D.l, fB (cellsF L) u, ⟨5, rowsD p, true, pw, true⟩] = [dB D.q (.view 3 1 w 0 L.length) D.o D.a D.l, fB (cellsF L) w, ⟨5, rowsD p, true, pw, true⟩] := by
    simp [bumpSt, hc, hp, bumpL, bumpD]
  rw [e2]
  exact RetW.refl hR
theorem bump_v0 {D : Dk} {u w : Nat} {L : List FileM} {pw : Nat} {p : List (List PD)} (e : Int) (h : u ≤ w) {R : DV → Store → Prop} {k : Nat} (hR : R (.d (.sc (.int .i64 e))) [dB D.q (.view 3 2 w 0 L.length) D.o D.a D.l, ⟨5, rowsD p, true, pw, true⟩, fB (cellsF L) w]) : RetW k R (.d (.sc (.int .i64 e))) [dB D.q (.view 3 2 u 0 L.length) D.o D.a D.l, ⟨5, rowsD p, true, pw, true⟩, fB (cellsF L) u] := by
  refine ret_bump2 2 w (fB (cellsF L) u) rfl rfl h ?_
  have hc : ∀ b v w, bumpL b v w (cellsF L) = cellsF L := fun b v w => by
    rw [bumpL_eq, cellsF, rowsD, List.map_map]
    rfl
  have hp : ∀ b v w, bumpL b v w (rowsD p) = rowsD p := fun b v w => by
    rw [bumpL_eq, rowsD, List.map_map]
    rfl
  have e2 : bumpSt 2 w [dB D.q (.view 3 2 u 0 L.length) D.o D.a D.l, ⟨5, rowsD p, true, pw, true⟩, fB (cellsF L) u] = [dB D.q (.view 3 2 w 0 L.length) D.o D.a D.l, ⟨5, rowsD p, true, pw, true⟩, fB (cellsF L) w] := by
    simp [bumpSt, hc, hp, bumpL, bumpD]
  rw [e2]
  exact RetW.refl hR
theorem dV_ren (b c d n0 : Nat) (q : Int) (v n : Nat) (o a : Bool) (l : Int) : Box.ren (place [b, c, d] n0) (dB q (.view 3 1 v 0 n) o a l) = dB q (.view 3 c v 0 n) o a l := by
  simp [Box.ren, renD, place]
theorem pB_ren (φ : Nat → Nat) (p : List (List PD)) (w : Nat) : Box.ren φ ⟨5, rowsD p, true, w, true⟩ = ⟨5, rowsD p, true, w, true⟩ := by
  unfold Box.ren
  have := renL_pure φ (rowsD p) (rows_cl p)
  rw [renL_eq] at this
  simp only [this]
/-- Append with a row of one's own, of a disk with a row, at any three places. -/
theorem appVA1 {st : Store} {K : DV → Store → Prop} {q : Int} (name : ByteArray) (p : List (List PD)) (b c d : Nat) {v n w pm : Nat} {cs pc : List DV} {L : List FileM} (hb : st[b]? = some (dB q (.view 3 c v 0 n) false false 0)) (hc : st[c]? = some (fB cs v)) (hd : st[d]? = some ⟨5, pc, true, w, true⟩) (h1 : b ≠ c) (h2 : b ≠ d) (h3 : c ≠ d) (hcs : cs = cellsF L) (hnl : n = L.length) {e : Int} {L' : List FileM}
    (hD : okD 900 ⟨q, L, false, false, 0⟩) (hn : name.size ≤ 1048576) (hp : isB p) (hpc : pc = rowsD p) (hpm : pm = p.length) (hr : (Dk.mk q L false false 0).app name p = (e, ⟨q, L', false, false, 0⟩)) (hk : ∀ n' cs', n' = L'.length → cs' = cellsF L' → K (.d (.sc (.int .i64 e))) ((st.set b (dB q (.view 3 c (v + 9) 0 n') false false 0)).set c (fB cs' (v + 9)))) : FnD Try.prog 11 [.ref b 0 0, .d (.sc (.string name)), .view 1 d w 0 pm] st K := by
  subst hpc
  have h0 := w_appV1 q false false 0 L name p v n cs w pm (rowsD p) hcs hnl hD hn hp rfl hpm
  rw [hr] at h0
  have h4 : FnD Try.prog 11 [.ref 0 0 0, .d (.sc (.string name)), .view 1 2 w 0 pm] [dB q (.view 3 1 v 0 n) false false 0, fB cs v, ⟨5, rowsD p, true, w, true⟩] (fun r st' => r = .d (.sc (.int .i64 e)) ∧ st' = [dB q (.view 3 1 (v + 9) 0 L'.length) false false 0, fB (cellsF L') (v + 9), ⟨5, rowsD p, true, w, true⟩]) := by
    refine FnD.ret (h0.mono ?_)
    rintro r st' ⟨rfl, u, hu, rfl⟩
    exact bump_v1 (D := ⟨q, L', false, false, 0⟩) e hu ⟨rfl, rfl⟩
  have hlb : b < st.length := (List.getElem?_eq_some_iff.1 hb).1
  have hlc : c < st.length := (List.getElem?_eq_some_iff.1 hc).1
  have hld : d < st.length := (List.getElem?_eq_some_iff.1 hd).1
  have hcl : closedL 0 cs = true := by rw [hcs]; exact cells_cl L
  refine FnD.at (args' := [.ref 0 0 0, .d (.sc (.string name)), .view 1 2 w 0 pm]) h4 [b, c, d] (by simp [hlb, hlc, hld, h1, h2, h3, closedL, closedD]) ?_ (by simp [renL, renD, place]) ?_
  · intro k r bx0 hk hs
    rcases k with _ | _ | _ | k
    · simp at hk hs
      subst hk; subst hs
      exact ⟨by rw [dV_ren]; exact hb, rfl⟩
    · simp at hk hs
      subst hk; subst hs
      exact ⟨by rw [fB_ren _ _ _ hcl]; exact hc, closedL_mono (Nat.zero_le _) _ hcl⟩
    · simp at hk hs
      subst hk; subst hs
      exact ⟨by rw [pB_ren]; exact hd, closedL_mono (Nat.zero_le _) _ (rows_cl p)⟩
    · simp at hk
  · rintro r0 stc ⟨rfl, rfl⟩ _
    rw [renD_pure _ _ rfl, List.map_cons, List.map_cons, List.map_cons, List.map_nil, dV_ren, fB_ren _ _ _ (cells_cl L'), pB_ren, merge_three hlb hlc hld h1 h2 h3]
    have e3 : (((st.set b (dB q (.view 3 c (v + 9) 0 L'.length) false false 0)).set c (fB (cellsF L') (v + 9))).set d ⟨5, rowsD p, true, w, true⟩) = (st.set b (dB q (.view 3 c (v + 9) 0 L'.length) false false 0)).set c (fB (cellsF L') (v + 9)) := by
      refine set_self ?_
      rw [List.getElem?_set_ne h3, List.getElem?_set_ne h2]
      exact hd
    rw [e3]
    exact hk _ _ rfl rfl
/-- Append with a row of one's own, of a disk without a row, at any two places. -/
theorem appVA0 {st : Store} {K : DV → Store → Prop} {q : Int} (name : ByteArray) (p : List (List PD)) (b d : Nat) {w pm : Nat} {pc : List DV} (hb : st[b]? = some (dB q (.d (.sc (.slice none 0 0))) false false 0)) (hd : st[d]? = some ⟨5, pc, true, w, true⟩) (h2 : b ≠ d) {e : Int} {L' : List FileM}
    (hD : okD 900 ⟨q, [], false, false, 0⟩) (hn : name.size ≤ 1048576) (hp : isB p) (hpc : pc = rowsD p) (hpm : pm = p.length) (hr : (Dk.mk q [] false false 0).app name p = (e, ⟨q, L', false, false, 0⟩)) (hk : K (.d (.sc (.int .i64 e))) (if L' = [] then st.set b (dB q (.d (.sc (.slice none 0 0))) false false 0) else st.set b (dB q (.view 3 st.length 9 0 L'.length) false false 0) ++ [fB (cellsF L') 9])) : FnD Try.prog 11 [.ref b 0 0, .d (.sc (.string name)), .view 1 d w 0 pm] st K := by
  subst hpc
  have h0 := w_appV0 q false false 0 name p w pm (rowsD p) hD hn hp rfl hpm
  rw [hr] at h0
  have hlb : b < st.length := (List.getElem?_eq_some_iff.1 hb).1
  have hld : d < st.length := (List.getElem?_eq_some_iff.1 hd).1
  have hself : ∀ x, ((st.set b x).set d ⟨5, rowsD p, true, w, true⟩) = st.set b x := fun x => set_self (by rw [List.getElem?_set_ne h2]; exact hd)
  have h4 : FnD Try.prog 11 [.ref 0 0 0, .d (.sc (.string name)), .view 1 1 w 0 pm] [dB q (.d (.sc (.slice none 0 0))) false false 0, ⟨5, rowsD p, true, w, true⟩] (fun r st' => r = .d (.sc (.int .i64 e)) ∧ st' = if L' = [] then [dB q (.d (.sc (.slice none 0 0))) false false 0, ⟨5, rowsD p, true, w, true⟩] else [dB q (.view 3 2 9 0 L'.length) false false 0, ⟨5, rowsD p, true, w, true⟩, fB (cellsF L') 9]) := by
    refine FnD.ret (h0.mono ?_)
    rintro r st' ⟨rfl, ⟨h5, rfl⟩ | ⟨u, hu, h5, rfl⟩⟩
    · exact RetW.refl ⟨rfl, by rw [if_pos h5]⟩
    · exact bump_v0 (D := ⟨q, L', false, false, 0⟩) e hu ⟨rfl, by rw [if_neg h5]⟩
  refine FnD.at (args' := [.ref 0 0 0, .d (.sc (.string name)), .view 1 1 w 0 pm]) h4 [b, d] (by simp [hlb, hld, h2, closedL, closedD]) ?_ (by simp [renL, renD, place]) ?_
  · intro k r bx0 hk hs
    rcases k with _ | _ | k
    · simp at hk hs
      subst hk; subst hs
      exact ⟨by rw [dN_ren]; exact hb, rfl⟩
    · simp at hk hs
      subst hk; subst hs
      exact ⟨by rw [pB_ren]; exact hd, closedL_mono (Nat.zero_le _) _ (rows_cl p)⟩
    · simp at hk
  · rintro r0 stc ⟨rfl, rfl⟩ _
    rw [renD_pure _ _ rfl]
    by_cases h5 : L' = []
    · rw [if_pos h5] at hk ⊢
      rw [List.map_cons, List.map_cons, List.map_nil, dN_ren, pB_ren, merge_two hlb hld h2, hself]
      exact hk
    · rw [if_neg h5] at hk ⊢
      have e7 : Box.ren (place [b, d] st.length) (dB q (.view 3 2 9 0 L'.length) false false 0) = dB q (.view 3 st.length 9 0 L'.length) false false 0 := by simp [Box.ren, renD, place]
      rw [List.map_cons, List.map_cons, List.map_cons, List.map_nil, e7, pB_ren, fB_ren _ _ _ (cells_cl L'), merge_twoP hlb hld h2, hself]
      exact hk

set_option maxRecDepth 100000 in
theorem w_readO (q : Int) (v m : Nat) (cs : List DV) (o a : Bool) (lf : Int) (L : List FileM) (name : ByteArray) (hcs : cs = cellsF L) (hm : m = L.length) (hD : okD 900 ⟨q, L, o, a, lf⟩) : FnD Try.prog 14 [.ref 0 0 0, .d (.sc (.string name))] (dkS q (some (v, m, cs)) o a lf) (fun r st' => (∃ t, r = .tup [nilS, .d (.sc (.bool t))] ∧ st' = dkS q (some (v, m, cs)) o a lf) ∨ ∃ u n c xs, isB xs ∧ c = rowsD xs ∧ n = xs.length ∧ r = .tup [.view 1 2 u 0 n, .d (.sc (.bool true))] ∧ st' = dkS q (some (v, m, cs)) o a lf ++ [⟨5, c, true, u, true⟩]) := by
  have hisF : isF cs m := by rw [hcs, hm]; exact isF.mk (hD.okL (by decide))
  have hrow : rowF cs = L := by rw [hcs]; exact rowF_cells L
  obtain ⟨GFsK, hFsK⟩ : ∃ F, F = FsK0 := ⟨_, rfl⟩
  have hH : SoundK Try.prog [] := by subst hFsK; exact noK_ok
  have hB : SoundB Try.prog [kb_find GFsK] := by subst hFsK; exact orB_ok okb_find noB_ok
  refine FnD_cbv (T := fun _ => tabY [21, 22] []) (H := fun _ => []) (tabY_ok _ _) hH follows_mixed Try.func14 rfl Try.ntmps14 (by simp) fun A X W hA hX hW => ?_
  cbv
  have ec : findX cs name = findF name L 0 := by unfold findX; rw [hrow]
  repeat' first
    | (refine part (fun h => ?_) (fun h => ?_) <;> try cbv)
    | (refine And.intro ?_ ?_)
    | (refine callL hX (cloneNew _ ?_ (fun hz => ?_) fun u n c h5 h6 => ?_) <;> try cbv)
    | (with_reducible refine callB hX hB ?_) <;> cbv
  all_goals subst hA hX hW hFsK
  all_goals clear hH hB
  all_goals try simp only [A0, FsK0, ec, decide_eq_true_eq, decide_eq_false_iff_not, Bool.not_eq_true', Bool.not_eq_false'] at *
  all_goals first
    | exact rfl
    | assumption
    | (exact RetW.refl (.inl ⟨_, rfl, rfl⟩))
    | (have h1 : (findF name L 0).2 = true := by assumption
       have hr := findF_range name L 0
       obtain ⟨k, hk⟩ : ∃ k : Nat, (findF name L 0).1 = (k : Int) := ⟨(findF name L 0).1.toNat, by omega⟩
       obtain ⟨f, h4, _⟩ := Dk.at_get (D := ⟨q, L, o, a, lf⟩) h1
       simp only [Dk.at, hk, Int.toNat_natCast] at h4
       have hl := (List.getElem?_eq_some_iff.1 h4).1
       have ef := (List.getElem?_eq_some_iff.1 h4).2
       obtain ⟨g0, g1, g2, g3, g4⟩ := file_cell hcs k hl
       rw [ef] at g1
       have hfb : isB f.data := (hD.fs f (by rw [← ef]; exact List.getElem_mem hl)).1
       try simp only [ec, hk, Int.toNat_natCast, Nat.zero_add, g1]
       first
         | (rw [hm]; exact (⟨by omega, by omega⟩ : (0 : Int) ≤ (k : Int) ∧ (k : Int) < (L.length : Int)))
         | exact hfb
         | (refine ⟨rfl, by omega, ?_⟩
            obtain ⟨hn, e⟩ := List.getElem?_eq_some_iff.1 g1
            rw [List.drop_eq_getElem_cons hn, e]
            rfl)
         | (simp only [ec, hk, Int.toNat_natCast, Nat.zero_add, g1] at h5 h6
            exact RetW.refl (.inr ⟨_, _, _, f.data, hfb, h5, h6, rfl, rfl⟩)))
    | fail

theorem namesA0 {st : Store} {K : DV → Store → Prop} {q : Int} {o a : Bool} {l : Int} (b : Nat) (hb : st[b]? = some (dB q (.d (.sc (.slice none 0 0))) o a l)) (hk : K (.d (.slc 1 (namesF []))) st) : FnD Try.prog 24 [.ref b 0 0] st K := by
  refine FnD.dk0 (β := Unit) (args := []) (G := fun _ => True) (fr' := fun _ => none) (res := fun _ => .d (.slc 1 (namesF []))) (q' := fun _ => q) (l' := fun _ => l) (o' := fun _ => o) (a' := fun _ => a) b (FnD.mono (w_names0 q o a l) fun r st' h => ⟨(), trivial, h.1, h.2⟩) hb rfl (fun _ _ => rfl) (fun _ _ _ _ _ h => by cases h) fun _ _ => ⟨fun _ => ?_, fun _ _ _ h => by cases h⟩
  rw [set_self hb]
  exact hk
theorem namesA1 {st : Store} {K : DV → Store → Prop} {q : Int} {o a : Bool} {l : Int} (b c : Nat) {v n : Nat} {cs : List DV} (L : List FileM) (hb : st[b]? = some (dB q (.view 3 c v 0 n) o a l)) (hc : st[c]? = some (fB cs v)) (hbc : b ≠ c) (hcs : cs = cellsF L) (hnl : n = L.length) (hL : L.length ≤ 900) (hk : K (.d (.slc 1 (namesF L))) st) : FnD Try.prog 24 [.ref b 0 0] st K := by
  refine FnD.dk (β := Unit) (args := []) (G := fun _ => True) (res := fun _ => .d (.slc 1 (namesF L))) (q' := fun _ => q) (l' := fun _ => l) (o' := fun _ => o) (a' := fun _ => a) (v' := fun _ => v) (n' := fun _ => n) (cs' := fun _ => cs) b c (FnD.mono (w_names1 q v n cs o a l L hcs hnl hL) fun r st' h => ⟨(), trivial, h.1, h.2⟩) hb hc hbc rfl (fun _ _ => rfl) (by rw [hcs]; exact cells_cl L) (fun _ _ => by rw [hcs]; exact cells_cl L) fun _ _ => ?_
  rw [set_self hb, set_self hc]
  exact hk
theorem readN {st : Store} {K : DV → Store → Prop} {q : Int} {o a : Bool} {l : Int} (name : ByteArray) (b : Nat) (hb : st[b]? = some (dB q (.d (.sc (.slice none 0 0))) o a l)) (hD : okD 900 ⟨q, [], o, a, l⟩) (hk : K (.tup [.d (.slc 1 []), .d (.sc (.bool false))]) st) : FnD Try.prog 14 [.ref b 0 0, .d (.sc (.string name))] st K := by
  have e : (Dk.mk q [] o a l).reads name = [] := rfl
  have e2 : (findF name [] 0).2 = false := rfl
  refine FnD.dk0 (β := Unit) (args := [.d (.sc (.string name))]) (G := fun _ => True) (fr' := fun _ => none) (res := fun _ => .tup [.d (.slc 1 []), .d (.sc (.bool false))]) (q' := fun _ => q) (l' := fun _ => l) (o' := fun _ => o) (a' := fun _ => a) b (FnD.mono (w_read q none o a l [] name rfl hD) fun r st' h => ⟨(), trivial, h.1, h.2⟩) hb rfl (fun _ _ => rfl) (fun _ _ _ _ _ h => by cases h) fun _ _ => ⟨fun _ => ?_, fun _ _ _ h => by cases h⟩
  rw [set_self hb]
  exact hk
theorem readO {st : Store} {K : DV → Store → Prop} {q : Int} {o a : Bool} {l : Int} (name : ByteArray) (b c : Nat) {v n : Nat} {cs : List DV} (L : List FileM) (hb : st[b]? = some (dB q (.view 3 c v 0 n) o a l)) (hc : st[c]? = some (fB cs v)) (hbc : b ≠ c) (hcs : cs = cellsF L) (hnl : n = L.length) (hD : okD 900 ⟨q, L, o, a, l⟩)
    (h0 : ∀ t, K (.tup [.d (.sc (.slice none 0 0)), .d (.sc (.bool t))]) st) (h1 : ∀ u k p xs, isB xs → p = rowsD xs → k = xs.length → K (.tup [.view 1 st.length u 0 k, .d (.sc (.bool true))]) (st ++ [⟨5, p, true, u, true⟩])) : FnD Try.prog 14 [.ref b 0 0, .d (.sc (.string name))] st K := by
  have hlb : b < st.length := (List.getElem?_eq_some_iff.1 hb).1
  have hlc : c < st.length := (List.getElem?_eq_some_iff.1 hc).1
  have hcl : closedL 0 cs = true := by rw [hcs]; exact cells_cl L
  refine FnD.at (args' := [.ref 0 0 0, .d (.sc (.string name))]) (w_readO q v n cs o a l L name hcs hnl hD) [b, c] (by simp [hlb, hlc, hbc, closedL, closedD, dkS, Fr.st]) ?_ (by simp [renL, renD, place]) ?_
  · intro k r bx0 hk hs
    rcases k with _ | _ | k
    · simp [dkS, Fr.d, Fr.st] at hk hs
      subst hk; subst hs
      exact ⟨by rw [dB_ren]; exact hb, rfl⟩
    · simp [dkS, Fr.d, Fr.st] at hk hs
      subst hk; subst hs
      exact ⟨by rw [fB_ren _ _ _ hcl]; exact hc, closedL_mono (Nat.zero_le _) _ hcl⟩
    · simp at hk
  · rintro r0 stc (⟨t, rfl, rfl⟩ | ⟨u, k, p, xs, hx, rfl, rfl, rfl, rfl⟩) _
    · rw [renD_pure _ _ rfl]
      simp only [dkS, Fr.d, Fr.st, List.map_cons, List.map_nil, dB_ren, fB_ren _ _ _ hcl]
      rw [merge_two hlb hlc hbc, set_self hb, set_self hc]
      exact h0 t
    · have e4 : renD (place [b, c] st.length) (.tup [.view 1 2 u 0 xs.length, .d (.sc (.bool true))]) = .tup [.view 1 st.length u 0 xs.length, .d (.sc (.bool true))] := by simp [renD, renL, place]
      rw [e4]
      simp only [dkS, Fr.d, Fr.st, List.map_cons, List.map_nil, List.cons_append, List.nil_append, dB_ren, fB_ren _ _ _ hcl, pB_ren]
      rw [merge_twoP hlb hlc hbc, set_self hb, set_self hc]
      exact h1 u _ _ xs hx rfl rfl

end Go.Proofs.Ytmjmbfcfnhnpmaa
