/- What chapter 8's laws' arguments are, read off their shapes. No condition. -/
import Derived.Test.YtmjmbfcfnhnpmaaAm29
import Derived.Test.YtmjmbfcfnhnpmaaDkQ
import Derived.Test.YtmjmbfcfnhnpmaaDkP
namespace Go.Proofs.Ytmjmbfcfnhnpmaa
open Go.RowKit
set_option linter.all false
set_option maxHeartbeats 4000000
theorem wf_i64 {n : Int} (h : (Lit.int .i64 n).wf = true) : r64 n := by
  simp only [Lit.wf, Bool.and_eq_true, decide_eq_true_eq] at h
  exact h
theorem wf_u8 {n : Int} (h : (Lit.int .u8 n).wf = true) : 0 ≤ n ∧ n ≤ 255 := by
  simp only [Lit.wf, Bool.and_eq_true, decide_eq_true_eq] at h
  exact h
theorem fit_bytes : ∀ (xs : List (List PD)), (∀ x ∈ xs, FitL [.int .u8] x) → ∃ bs, xs = bytesP bs
  | [], _ => ⟨[], rfl⟩
  | x :: xs, h => by
      obtain ⟨bs, rfl⟩ := fit_bytes xs (fun y hy => h y (by simp [hy]))
      have h0 := h x (by simp)
      simp only [FitL, FitP] at h0
      obtain ⟨_, _, rfl, ⟨n, rfl, hn⟩, rfl⟩ := h0
      have := wf_u8 hn
      refine ⟨UInt8.ofNat n.toNat :: bs, ?_⟩
      have e : ((UInt8.ofNat n.toNat).toNat : Int) = n := by simp; omega
      simp only [bytesP, List.map_cons, e]
theorem wt_rows : ∀ xs : List (List PD), (∀ x ∈ xs, x ≠ []) → xs.length ≤ wtR xs
  | [], _ => by simp
  | x :: xs, h => by
      have h1 := wt_rows xs (fun y hy => h y (by simp [hy]))
      have h2 := h x (by simp)
      cases x with
      | nil => exact absurd rfl h2
      | cons p ps =>
        have : 1 ≤ wtP p := by
          cases p with
          | sc v =>
            unfold wtP
            split <;> omega
          | slc sz ys => unfold wtP; omega
        simp only [wtR, wtL, List.length_cons]
        omega
theorem fit_int {ps : List PD} (h : FitL [.int .i64] ps) : ∃ n, ps = [.sc (.int .i64 n)] ∧ r64 n := by
  simp only [FitL, FitP] at h
  obtain ⟨_, _, rfl, ⟨n, rfl, hn⟩, rfl⟩ := h
  exact ⟨n, rfl, wf_i64 hn⟩
theorem wt_bytes (bs : List UInt8) : bs.length ≤ wtR (bytesP bs) := by
  have := wt_rows (bytesP bs) (fun x hx e => by
    simp only [bytesP, List.mem_map] at hx
    obtain ⟨_, _, rfl⟩ := hx
    cases e)
  rw [bytesP_length] at this
  exact this
def isParts (xs : List (List PD)) : Prop := ∃ ps, xs = partsX ps ∧ (∀ p ∈ ps, isB p) ∧ ps.length ≤ 1048576
theorem fit_parts : ∀ (xs : List (List PD)), (∀ x ∈ xs, FitL [.slc [.int .u8]] x) → wtR xs ≤ 1048576 → ∃ ps, xs = partsX ps ∧ (∀ p ∈ ps, isB p) ∧ ps.length ≤ wtR xs
  | [], _, _ => ⟨[], rfl, by simp, by simp⟩
  | x :: xs, h, hw => by
      simp only [wtR] at hw
      obtain ⟨ps, rfl, h1, h2⟩ := fit_parts xs (fun y hy => h y (by simp [hy])) (by omega)
      have h0 := h x (by simp)
      simp only [FitL, FitP] at h0
      obtain ⟨_, _, rfl, ⟨ys, rfl, hy⟩, rfl⟩ := h0
      obtain ⟨bs, rfl⟩ := fit_bytes ys hy
      have h3 := wt_bytes bs
      simp only [wtL, wtP] at hw
      refine ⟨bytesP bs :: ps, rfl, ?_, ?_⟩
      · intro p hp
        rcases List.mem_cons.1 hp with rfl | hp
        · exact isB_bytes bs (by omega)
        · exact h1 p hp
      · simp only [wtR, wtL, wtP, List.length_cons]
        omega
theorem fit_partR {ps : List PD} (h : FitL [.slc [.slc [.int .u8]]] ps) (hw : wtL ps ≤ 1048576) : ∃ xs, ps = [.slc 1 xs] ∧ isParts xs := by
  simp only [FitL, FitP] at h
  obtain ⟨_, _, rfl, ⟨xs, rfl, hx⟩, rfl⟩ := h
  simp only [wtL, wtP] at hw
  obtain ⟨ps, e, h1, h2⟩ := fit_parts xs hx (by omega)
  exact ⟨xs, rfl, ps, e, h1, by omega⟩
theorem v_room (q : Int) (xs : List (List PD)) (hq : r64 q) (h : isParts xs) : FnV Try.prog 5 [.d (.sc (.int .i64 q)), .d (.slc 1 xs)] (boolD true) := by
  obtain ⟨ps, rfl, h1, h2⟩ := h
  exact v_roomL q ps hq h1 h2

end Go.Proofs.Ytmjmbfcfnhnpmaa
namespace Go.Proofs.Ytmjmbfcfnhnpmaa
open Go.RowKit
set_option linter.all false
set_option maxHeartbeats 4000000
structure AskM where
  k : Int
  n : Int
  nm : ByteArray
  to : ByteArray
  d : List (List PD)
  ps : List (List PD)
def AskM.row (a : AskM) : List PD := [.sc (.int .i64 a.k), .sc (.int .i64 a.n), .sc (.string a.nm), .sc (.string a.to), .slc 1 a.d, .slc 1 a.ps]
def asksX (l : List AskM) : List (List PD) := l.map AskM.row
def okAsk (a : AskM) : Prop := r64 a.k ∧ r64 a.n ∧ a.nm.size ≤ 1048576 ∧ a.to.size ≤ 1048576 ∧ isB a.d ∧ isI a.ps
def isAsks (xs : List (List PD)) : Prop := ∃ l, xs = asksX l ∧ (∀ a ∈ l, okAsk a) ∧ l.length ≤ 1048576
theorem fit_str {ps : List PD} (h : FitL [.str] ps) (hw : wtL ps ≤ 1048576) : ∃ s, ps = [.sc (.string s)] ∧ s.size ≤ 1048576 := by
  simp only [FitL, FitP] at h
  obtain ⟨_, _, rfl, ⟨s, rfl, hs⟩, rfl⟩ := h
  simp only [wtL, wtP] at hw
  exact ⟨s, rfl, by omega⟩
theorem fit_bytesR {ps : List PD} (h : FitL [.slc [.int .u8]] ps) (hw : wtL ps ≤ 1048576) : ∃ xs, ps = [.slc 1 xs] ∧ isB xs := by
  simp only [FitL, FitP] at h
  obtain ⟨_, _, rfl, ⟨xs, rfl, hx⟩, rfl⟩ := h
  obtain ⟨bs, rfl⟩ := fit_bytes xs hx
  simp only [wtL, wtP] at hw
  have := wt_bytes bs
  exact ⟨_, rfl, isB_bytes bs (by omega)⟩
theorem fit_ints : ∀ (xs : List (List PD)), (∀ x ∈ xs, FitL [.int .i64] x) → ∃ ps, xs = intsX ps ∧ (∀ p ∈ ps, r64 p)
  | [], _ => ⟨[], rfl, by simp⟩
  | x :: xs, h => by
      obtain ⟨ps, rfl, h1⟩ := fit_ints xs (fun y hy => h y (by simp [hy]))
      obtain ⟨n, rfl, hn⟩ := fit_int (h x (by simp))
      refine ⟨n :: ps, rfl, ?_⟩
      intro p hp
      rcases List.mem_cons.1 hp with rfl | hp
      · exact hn
      · exact h1 p hp
theorem wt_ints (ps : List Int) : ps.length ≤ wtR (intsX ps) := by
  have := wt_rows (intsX ps) (fun x hx e => by
    simp only [intsX, List.mem_map] at hx
    obtain ⟨_, _, rfl⟩ := hx
    cases e)
  simpa [intsX] using this
theorem fit_intsR {ps : List PD} (h : FitL [.slc [.int .i64]] ps) (hw : wtL ps ≤ 1048576) : ∃ xs, ps = [.slc 1 xs] ∧ isI xs := by
  simp only [FitL, FitP] at h
  obtain ⟨_, _, rfl, ⟨xs, rfl, hx⟩, rfl⟩ := h
  obtain ⟨l, rfl, h1⟩ := fit_ints xs hx
  simp only [wtL, wtP] at hw
  have := wt_ints l
  exact ⟨_, rfl, l, rfl, by omega, h1⟩
theorem fit_asks : ∀ (xs : List (List PD)), (∀ x ∈ xs, FitL [.int .i64, .int .i64, .str, .str, .slc [.int .u8], .slc [.int .i64]] x) → wtR xs ≤ 1048576 → ∃ l, xs = asksX l ∧ (∀ a ∈ l, okAsk a) ∧ l.length ≤ wtR xs
  | [], _, _ => ⟨[], rfl, by simp, by simp⟩
  | x :: xs, h, hw => by
      simp only [wtR] at hw
      obtain ⟨l, rfl, h1, h2⟩ := fit_asks xs (fun y hy => h y (by simp [hy])) (by omega)
      have h0 := h x (by simp)
      simp only [FitL, FitP] at h0
      obtain ⟨_, _, rfl, ⟨a, rfl, ha⟩, _, _, rfl, ⟨b, rfl, hb⟩, _, _, rfl, ⟨c, rfl, hc⟩, _, _, rfl, ⟨d, rfl, hd⟩, _, _, rfl, ⟨e, rfl, he⟩, _, _, rfl, ⟨f, rfl, hf⟩, rfl⟩ := h0
      obtain ⟨bs, rfl⟩ := fit_bytes e he
      obtain ⟨js, rfl, hj⟩ := fit_ints f hf
      have w1 := wt_bytes bs
      have w2 := wt_ints js
      simp only [wtL, wtP] at hw
      refine ⟨⟨a, b, c, d, bytesP bs, intsX js⟩ :: l, rfl, ?_, ?_⟩
      · intro y hy
        rcases List.mem_cons.1 hy with rfl | hy
        · exact ⟨wf_i64 ha, wf_i64 hb, by simp only; omega, by simp only; omega, isB_bytes bs (by omega), ⟨js, rfl, by omega, hj⟩⟩
        · exact h1 y hy
      · simp only [wtR, wtL, wtP, List.length_cons]
        omega
theorem fit_askR {ps : List PD} (h : FitL [.slc [.int .i64, .int .i64, .str, .str, .slc [.int .u8], .slc [.int .i64]]] ps) (hw : wtL ps ≤ 1048576) : ∃ xs, ps = [.slc 6 xs] ∧ isAsks xs := by
  simp only [FitL, FitP] at h
  obtain ⟨_, _, rfl, ⟨xs, rfl, hx⟩, rfl⟩ := h
  simp only [wtL, wtP] at hw
  obtain ⟨l, e, h1, h2⟩ := fit_asks xs hx (by omega)
  exact ⟨xs, rfl, l, e, h1, by omega⟩

end Go.Proofs.Ytmjmbfcfnhnpmaa
namespace Go.Proofs.Ytmjmbfcfnhnpmaa
open Go.RowKit
set_option linter.all false
set_option maxHeartbeats 4000000

structure FsNm where
  rightN : ByteArray → Bool
  sz : ByteArray → Prop
def FsNm0 : FsNm where
  rightN := mayF
  sz := (fun s => s.size ≤ 1048576)
set_option maxRecDepth 100000 in
theorem v_rightN (s : ByteArray) (hp0 : FsNm0.sz s) : FnV Try.prog 22 [strD s] (boolD ((mayF s))) := by
  obtain ⟨n, hn⟩ : ∃ n : Int, n = s.size := ⟨_, rfl⟩
  obtain ⟨l, hl⟩ : ∃ l : List UInt8, l = s.data.toList := ⟨_, rfl⟩
  have hnl : n = l.length := by rw [hn, hl]; rfl
  have hby : ∀ (k : Nat) (b : UInt8), l[k]? = some b → s[k]? = some b := by
    intro k b h
    rw [hl] at h
    have := List.getElem?_eq_some_iff.1 h
    obtain ⟨h1, h2⟩ := this
    have h3 : k < s.size := h1
    rw [getElem?_pos s k h3]
    exact congrArg some h2
  refine FnD_cbv (T := fun _ => tabY [] []) (H := fun _ => []) (tabY_ok _ _) noK_ok follows_mixed Try.func22 rfl Try.ntmps22 (by simp) fun A X W hA hX hW => ?_
  cbv
  replace hn : n = (s.size : Int) := hn
  replace hnl : n = (l.length : Int) := hnl
  replace hp0 : s.size ≤ 1048576 := hp0
  have hn0 : 0 ≤ n := by omega
  refine loopL (T := fun _ => tabY [] []) (H := fun _ => []) (tabY_ok _ _) noK_ok follows_mixed hA hX (fun i : Int => 0 ≤ i ∧ i ≤ n ∧ mayL l = mayL (l.drop i.toNat))
    (fun i => [(0, .d (.sc (.string s))), (3, .d (.sc (.int .i64 i)))]) (fun _ => [])
    (fun i => n.toNat - i.toNat) 0 ?_ ?_ ?_
  · exact ⟨by omega, hn0, rfl⟩
  · subst hA; exact told_less (by simp [toldP, getS, A0])
  rintro R i hR ⟨i0, i1, i2⟩
  cbv
  replace hn : n = (s.size : Int) := hn
  replace hnl : n = (l.length : Int) := hnl
  replace i0 : 0 ≤ i := i0
  replace i1 : i ≤ n := i1
  have hfin : ¬ i < n → mayL s.data.toList = true := by
    intro h9
    rw [show i.toNat = l.length by omega, List.drop_length] at i2
    rw [← hl, i2]
    rfl
  have hrow : i < n → ∃ b, s[i.toNat]? = some b ∧ mayL l = (!(decide (b.toNat < 33) || decide (126 < b.toNat)) && mayL (l.drop (i + 1).toNat)) := by
    intro h9
    have h10 : i.toNat < l.length := by omega
    have h11 := List.drop_eq_getElem_cons h10
    refine ⟨l[i.toNat], hby _ _ (List.getElem?_eq_getElem h10), ?_⟩
    rw [i2, h11, show (i + 1).toNat = i.toNat + 1 by omega]
    rfl
  have hbad : ∀ b : UInt8, mayL l = (!(decide (b.toNat < 33) || decide (126 < b.toNat)) && mayL (l.drop (i + 1).toNat)) → (b.toNat < 33 ∨ 126 < b.toNat) → mayF s = false := by
    intro b hm h13
    unfold mayF
    rw [← hl, hm]
    rcases h13 with h13 | h13 <;> simp [h13]
  have ei : IntKind.wrap .i64 (i + 1) = i + 1 := wrap_i64 (by unfold r64; omega)
  repeat' first
    | (refine part (fun h => ?_) (fun h => ?_) <;> try cbv)
    | (refine And.intro ?_ ?_)
  all_goals subst hA hX hW hR
  all_goals clear hby
  all_goals first
    | (have h9 : A0.cmp .lss i (A0.size s) = true := by assumption
       simp only [A0, decide_eq_true_eq] at h9
       replace h9 : i < n := by (rw [hn]; exact h9)
       obtain ⟨b, hb, hm⟩ := hrow h9
       first
         | exact (⟨i0, lt_of_lt_of_eq h9 hn⟩ : 0 ≤ i ∧ i < (s.size : Int))
         | exact fun _ => (⟨i0, lt_of_lt_of_eq h9 hn⟩ : 0 ≤ i ∧ i < (s.size : Int))
         | (have h12 : A0.cond (A0.cmp .lss (A0.byte s i) 33) true (A0.cmp .gtr (A0.byte s i) 126) = true := by assumption
            simp only [A0, hb, cond_eq_ite] at h12
            refine ret_v (congrArg boolD ?_) rfl
            refine (hbad b hm ?_).symm
            by_cases hq : (b.toNat : Int) < 33
            · left; omega
            · right
              simp [hq] at h12
              omega)
         | (have h12 : A0.cond (A0.cmp .lss (A0.byte s i) 33) true (A0.cmp .gtr (A0.byte s i) 126) = false := by assumption
            simp only [A0, hb, cond_eq_ite] at h12
            have h13 : ¬ (b.toNat < 33) ∧ ¬ (126 < b.toNat) := by
              by_cases hq : (b.toNat : Int) < 33
              · simp [hq] at h12
              · simp [hq] at h12
                omega
            refine ⟨i + 1, ⟨by omega, by omega, by rw [hm]; simp [h13]⟩, by omega, told_less ?_⟩
            simp [toldP, getS, A0, ei]
            done)
         | (simp [A0]; done)
         | (intro q; simpa [A0] using q)
         | (intro q; exact trivial))
    | (have h9 : A0.cmp .lss i (A0.size s) = false := by assumption
       simp only [A0, decide_eq_false_iff_not] at h9
       replace h9 : ¬ i < (s.size : Int) := h9
       replace hn : n = (s.size : Int) := hn
       replace hnl : n = (l.length : Int) := hnl
       refine ret_v (congrArg boolD ?_) rfl
       have h10 := hfin (by omega)
       unfold mayF
       rw [h10]
       show A0.cond (A0.scmp .neq s { data := { toList := [] } }) (A0.cmp .leq (A0.size s) 24) false = _
       have e1 : A0.scmp .neq s { data := { toList := [] } } = !decide (s = none8) := by
         show (!decide (s = none8)) = _ 
         rfl
       have e2 : A0.cmp .leq (A0.size s) 24 = decide (s.size ≤ 24) := by
         show decide ((s.size : Int) ≤ 24) = _
         rw [decide_eq_decide]
         omega
       rw [e1, e2]
       show (bif !decide (s = none8) then decide (s.size ≤ 24) else false) = _
       by_cases h11 : s = none8
       · simp [h11]
       · by_cases h12 : s.size ≤ 24
         · have h13 : ¬ 24 < s.size := by omega
           simp [h11, h12, h13]
         · have h13 : 24 < s.size := by omega
           simp [h11, h12, h13])
    | (intro q; exact q)
    | (intro q; simpa [A0] using q)
    | (intro q; trivial)
    | (simp [A0]; done)
    | fail

def kn_rightN (F : FsNm) : FuncId × (List DV → RV) := (22, fun args => match args with
  | [.d (.sc (.string s))] => some ([F.sz s], boolD ((F.rightN s)))
  | _ => none)
theorem ok_rightN (args : List DV) (cs : List Prop) (r : DV) (h : (kn_rightN FsNm0).2 args = some (cs, r)) (hc : allP cs True) : FnV Try.prog 22 args r ∧ closedL 0 args = true := by
  unfold kn_rightN at h
  simp only at h
  split at h
  · cases h; exact ⟨v_rightN _ hc.1, rfl⟩
  · cases h
end Go.Proofs.Ytmjmbfcfnhnpmaa
namespace Go.Proofs.Ytmjmbfcfnhnpmaa
open Go.RowKit
set_option linter.all false
theorem find_same (a : ByteArray) (d : List (List PD)) (k : Int) (L : List FileM) (i : Int) : findF a (⟨a, d, k⟩ :: L) i = (i, true) := by
  unfold findF
  rw [if_neg (by simp [ltb_irrefl])]
  simp
theorem find_ne {a b : ByteArray} (h : a ≠ b) (d : List (List PD)) (k : Int) : (findF b [⟨a, d, k⟩] 0).2 = false := by
  unfold findF
  split
  · rfl
  · simp [h]
theorem ltb_flip {a b : ByteArray} (h : ltb a b = false) (hn : a ≠ b) : ltb b a = true := by
  have := ltb_total a b
  rw [h] at this
  have h2 : (decide (b = a)) = false := by simp; exact fun e => hn e.symm
  rw [h2] at this
  simpa using this.symm
theorem ltb_asym {a b : ByteArray} (h : ltb a b = true) : ltb b a = false := by
  cases e : ltb b a with
  | false => rfl
  | true => have := ltb_trans h e; rw [ltb_irrefl] at this; cases this
theorem know_yes {q : Int} {L : List FileM} {nm : ByteArray} (h : (findF nm L 0).2 = true) : (Dk.mk q L false false 0).know nm = 0 := by
  unfold Dk.know knE findX
  simp only [rowF_cells, h]
  rfl
theorem know_no {q : Int} {L : List FileM} {nm : ByteArray} (h : (findF nm L 0).2 = false) : (Dk.mk q L false false 0).know nm = 8 := by
  unfold Dk.know knE findX
  simp only [rowF_cells, h]
  rfl
theorem add_ne {a b : ByteArray} (h : a ≠ b) (d w : List (List PD)) : addF [⟨a, d, 0⟩] b w = if ltb a b = true then [⟨a, d, 0⟩, ⟨b, w, 0⟩] else [⟨b, w, 0⟩, ⟨a, d, 0⟩] := by
  unfold addF
  rw [if_neg (by rw [find_ne h]; decide)]
  unfold findF
  by_cases hl : ltb a b = true
  · simp only [hl, if_true]
    unfold findF
    rfl
  · simp only [hl, if_false]
    rfl
theorem add_same (a : ByteArray) (d w : List (List PD)) : addF [⟨a, d, 0⟩] a w = [⟨a, d ++ w, 0⟩] := by
  unfold addF
  rw [find_same]
  rfl
theorem ren_ok {q : Int} {L : List FileM} {a b : ByteArray} (hb : mayF b = true) (h : (findF a L 0).2 = true) : (Dk.mk q L false false 0).ren a b = (0, ⟨q, renF L (findF a L 0).1.toNat b, false, false, 0⟩) := by
  unfold Dk.ren
  rw [if_neg (by simp [hb]), if_pos (know_yes h)]
  rfl
theorem ren_path {q : Int} {L : List FileM} {a b : ByteArray} (hb : mayF b = false) : (Dk.mk q L false false 0).ren a b = (11, ⟨q, L, false, false, 0⟩) := by
  unfold Dk.ren
  rw [if_pos ⟨rfl, hb⟩]
theorem ren_none {q : Int} {L : List FileM} {a b : ByteArray} (hb : mayF b = true) (h : (findF a L 0).2 = false) : (Dk.mk q L false false 0).ren a b = (8, ⟨q, L, false, false, 0⟩) := by
  unfold Dk.ren
  rw [if_neg (by simp [hb]), know_no h, if_neg (by decide)]
theorem reads_same (a : ByteArray) (d : List (List PD)) (k : Int) : (Dk.mk 0 [⟨a, d, k⟩] false false 0).reads a = d := by
  unfold Dk.reads
  simp only
  rw [find_same]
  simp only [if_true]
  unfold readF
  rw [find_same]
  rfl
theorem names_both {q : Int} {a b : ByteArray} (hb : mayF b = true) (d w : List (List PD)) : (Dk.mk q (addF [⟨a, d, 0⟩] b w) false false 0).ren a b = (0, ⟨q, [⟨b, if a = b then d ++ w else d, 0⟩], false, false, 0⟩) := by
  by_cases e : a = b
  · subst e
    rw [add_same, ren_ok hb (by rw [find_same]), find_same]
    simp only [if_true]
    rfl
  · rw [add_ne e]
    have ha : ∀ i : Int, findF a [⟨b, w, 0⟩, ⟨a, d, 0⟩] i = (if ltb b a = true then (i + 1, true) else (i, false)) := by
      intro i
      unfold findF
      by_cases hl : ltb b a = true
      · rw [if_pos hl, if_pos hl, find_same]
      · rw [if_neg hl, if_neg hl]
        have : ¬ b = a := fun h => e h.symm
        simp [this]
    by_cases hl : ltb a b = true
    · rw [if_pos hl, ren_ok hb (by rw [find_same]), find_same]
      simp only [if_neg e]
      congr 2
      unfold renF
      simp only [Int.toNat_zero, List.getElem?_cons_zero, outFl, List.take_zero, List.nil_append, Nat.zero_add, List.drop_succ_cons, List.drop_zero]
      unfold placeF
      simp only [find_same]
      rfl
    · rw [if_neg hl]
      have hl2 : ltb b a = true := ltb_flip (by simpa using hl) e
      rw [ren_ok hb (by rw [ha, if_pos hl2]), ha, if_pos hl2]
      simp only [if_neg e]
      congr 2
      unfold renF
      have e1 : ((0 : Int) + 1).toNat = 1 := rfl
      simp only [e1, List.getElem?_cons_succ, List.getElem?_cons_zero, outFl]
      show placeF [⟨b, w, 0⟩] ⟨b, d, 0⟩ = _
      unfold placeF
      simp only [find_same]
      rfl

end Go.Proofs.Ytmjmbfcfnhnpmaa
