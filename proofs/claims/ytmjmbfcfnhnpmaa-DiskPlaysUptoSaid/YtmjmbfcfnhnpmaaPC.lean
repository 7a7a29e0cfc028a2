/- The document's disk: names, totals, places, power. No condition. -/
import Derived.Test.YtmjmbfcfnhnpmaaPB
import Derived.Test.YtmjmbfcfnhnpmaaAm45
namespace Go.Proofs.Ytmjmbfcfnhnpmaa
open Go.RowKit
set_option linter.all false
set_option maxHeartbeats 4000000
/-- A disk of the document: how many changes are left stands in one number (a below: any number). -/
abbrev rB (q : Int) (f : DV) (o _a : Bool) (l : Int) : Box := ⟨74, [f, .d (.sc (.int .i64 q)), .d (.sc (.int .i64 l)), .d (.sc (.bool o))], false, 0, true⟩
abbrev gB (cs : List DV) (v : Nat) : Box := ⟨85, cs, true, v, true⟩
def Fr.rst : Fr → Store
  | none => []
  | some (v, _, cs) => [gB cs v]
def rS (q : Int) (fr : Fr) (o a : Bool) (l : Int) : Store := rB q fr.d o a l :: fr.rst
theorem gB_ren (φ : Nat → Nat) (cs : List DV) (v : Nat) (h : closedL 0 cs = true) : Box.ren φ (gB cs v) = gB cs v := by
  unfold Box.ren
  have := renL_pure φ cs h
  rw [renL_eq] at this
  simp only [this]
theorem rB_ren (b c n0 : Nat) (q : Int) (v n : Nat) (o a : Bool) (l : Int) : Box.ren (place [b, c] n0) (rB q (.view 3 1 v 0 n) o a l) = rB q (.view 3 c v 0 n) o a l := by
  simp [Box.ren, renD, place]
theorem rN_ren (φ : Nat → Nat) (q : Int) (p : PD) (o a : Bool) (l : Int) : Box.ren φ (rB q (.d p) o a l) = rB q (.d p) o a l := by
  simp [Box.ren, renD]
/-- A disk with a row of files, at any two places. -/
theorem FnD.rk {β : Type} {P : Program} {f : FuncId} {args : List DV} {st : Store} {K : DV → Store → Prop} {q : Int} {v n : Nat} {cs : List DV} {o a : Bool} {l : Int} {G : β → Prop} {res : β → DV} {q' l' : β → Int} {v' n' : β → Nat} {cs' : β → List DV} {o' a' : β → Bool} (b c : Nat)
    (h : FnD P f (.ref 0 0 0 :: args) (rS q (some (v, n, cs)) o a l) fun r st' => ∃ y : β, G y ∧ r = res y ∧ st' = rS (q' y) (some (v' y, n' y, cs' y)) (o' y) (a' y) (l' y))
    (hb : st[b]? = some (rB q (.view 3 c v 0 n) o a l)) (hc : st[c]? = some (gB cs v)) (hbc : b ≠ c) (ha : closedL 0 args = true) (hr : ∀ y, G y → closedD 0 (res y) = true) (h3 : closedL 0 cs = true) (h4 : ∀ y, G y → closedL 0 (cs' y) = true)
    (hk : ∀ y, G y → K (res y) ((st.set b (rB (q' y) (.view 3 c (v' y) 0 (n' y)) (o' y) (a' y) (l' y))).set c (gB (cs' y) (v' y)))) : FnD P f (.ref b 0 0 :: args) st K := by
  have hlt : b < st.length := (List.getElem?_eq_some_iff.1 hb).1
  have hltc : c < st.length := (List.getElem?_eq_some_iff.1 hc).1
  refine FnD.at (args' := .ref 0 0 0 :: args) h [b, c] (by simp [hlt, hltc, hbc, closedL, closedD, closedL_mono (Nat.zero_le 2) _ ha, rS, Fr.rst]) ?_ (by simp [renL, renD, place, renL_pure _ _ ha]) ?_
  · intro k r bx0 hk hs
    rcases k with _ | _ | k
    · simp [rS, Fr.d, Fr.rst] at hk hs
      subst hk; subst hs
      exact ⟨by rw [rB_ren]; exact hb, rfl⟩
    · simp [rS, Fr.d, Fr.rst] at hk hs
      subst hk; subst hs
      exact ⟨by rw [gB_ren _ _ _ h3]; exact hc, closedL_mono (Nat.zero_le _) _ h3⟩
    · simp at hk
  · rintro r0 stc ⟨y, hy, rfl, rfl⟩ _
    rw [renD_pure _ _ (hr y hy)]
    have e : (rS (q' y) (some (v' y, n' y, cs' y)) (o' y) (a' y) (l' y)).map (Box.ren (place [b, c] st.length)) = [rB (q' y) (.view 3 c (v' y) 0 (n' y)) (o' y) (a' y) (l' y), gB (cs' y) (v' y)] := by
      simp only [rS, Fr.d, Fr.rst, List.map_cons, List.map_nil, rB_ren, gB_ren _ _ _ (h4 y hy)]
    rw [e, merge_two hlt hltc hbc]
    exact hk y hy
/-- A disk without a file, at any place. -/
theorem FnD.rk0 {β : Type} {P : Program} {f : FuncId} {args : List DV} {st : Store} {K : DV → Store → Prop} {q : Int} {o a : Bool} {l : Int} {G : β → Prop} {res : β → DV} {q' l' : β → Int} {o' a' : β → Bool} {fr' : β → Fr} (b : Nat)
    (h : FnD P f (.ref 0 0 0 :: args) (rS q none o a l) fun r st' => ∃ y : β, G y ∧ r = res y ∧ st' = rS (q' y) (fr' y) (o' y) (a' y) (l' y))
    (hb : st[b]? = some (rB q (.d (.sc (.slice none 0 0))) o a l)) (ha : closedL 0 args = true) (hr : ∀ y, G y → closedD 0 (res y) = true) (h4 : ∀ y v n cs, G y → fr' y = some (v, n, cs) → closedL 0 cs = true)
    (hk : ∀ y, G y → (fr' y = none → K (res y) (st.set b (rB (q' y) (.d (.sc (.slice none 0 0))) (o' y) (a' y) (l' y)))) ∧ ∀ v n cs, fr' y = some (v, n, cs) → K (res y) (st.set b (rB (q' y) (.view 3 st.length v 0 n) (o' y) (a' y) (l' y)) ++ [gB cs v])) : FnD P f (.ref b 0 0 :: args) st K := by
  have hlt : b < st.length := (List.getElem?_eq_some_iff.1 hb).1
  refine FnD.at (args' := .ref 0 0 0 :: args) h [b] (by simp [hlt, closedL, closedD, closedL_mono (Nat.zero_le 1) _ ha, rS, Fr.rst]) ?_ (by simp [renL, renD, place, renL_pure _ _ ha]) ?_
  · intro k r bx0 hk hs
    rcases k with _ | k
    · simp [rS, Fr.d, Fr.rst] at hk hs
      subst hk; subst hs
      exact ⟨by rw [rN_ren]; exact hb, rfl⟩
    · simp at hk
  · rintro r0 stc ⟨y, hy, rfl, rfl⟩ _
    rw [renD_pure _ _ (hr y hy)]
    cases hf : fr' y with
    | none =>
      have e : (rS (q' y) none (o' y) (a' y) (l' y)).map (Box.ren (place [b] st.length)) = [rB (q' y) (.d (.sc (.slice none 0 0))) (o' y) (a' y) (l' y)] := by
        simp only [rS, Fr.d, Fr.rst, List.map_cons, List.map_nil, rN_ren]
      rw [e, merge_one hlt, List.append_nil]
      exact (hk y hy).1 hf
    | some w =>
      obtain ⟨v, n, cs⟩ := w
      have e : (rS (q' y) (some (v, n, cs)) (o' y) (a' y) (l' y)).map (Box.ren (place [b] st.length)) = [rB (q' y) (.view 3 st.length v 0 n) (o' y) (a' y) (l' y), gB cs v] := by
        simp only [rS, Fr.d, Fr.rst, List.map_cons, List.map_nil, gB_ren _ _ _ (h4 y v n cs hy hf)]
        simp [Box.ren, renD, place]
      rw [e, merge_one hlt]
      exact (hk y hy).2 v n cs hf
structure FsRn where
  rname : ByteArray → Bool
  sz : ByteArray → Prop
def FsRn0 : FsRn where
  rname := mayF
  sz := (fun s => s.size ≤ 1048576)
set_option maxRecDepth 100000 in
theorem v_rname (s : ByteArray) (hp0 : FsRn0.sz s) : FnV Try.prog 51 [strD s] (boolD ((mayF s))) := by
  obtain ⟨n, hn⟩ : ∃ n : Int, n = s.size := ⟨_, rfl⟩
  obtain ⟨l, hl⟩ : ∃ l : List UInt8, l = s.data.toList := ⟨_, rfl⟩
  have hnl : n = l.length := by rw [hn, hl]; rfl
  have hby : ∀ (k : Nat) (b : UInt8), l[k]? = some b → s[k]? = some b := by
    intro k b h
    rw [hl] at h
    have := List.getElem?_eq_some_iff.1 h
    obtain ⟨h1, h2⟩ := this
    have h3 : k < s.size := h1
    rw [getElem?_pos s k h3]
    exact congrArg some h2
  refine FnD_cbv (T := fun _ => tabY [] []) (H := fun _ => []) (tabY_ok _ _) noK_ok follows_mixed Try.func51 rfl Try.ntmps51 (by simp) fun A X W hA hX hW => ?_
  cbv
  replace hn : n = (s.size : Int) := hn
  replace hnl : n = (l.length : Int) := hnl
  replace hp0 : s.size ≤ 1048576 := hp0
  have hn0 : 0 ≤ n := by omega
  refine loopL (T := fun _ => tabY [] []) (H := fun _ => []) (tabY_ok _ _) noK_ok follows_mixed hA hX (fun i : Int => 0 ≤ i ∧ i ≤ n ∧ mayL l = mayL (l.drop i.toNat))
    (fun i => [(0, .d (.sc (.string s))), (3, .d (.sc (.int .i64 i)))]) (fun _ => [])
    (fun i => n.toNat - i.toNat) 0 ?_ ?_ ?_
  · exact ⟨by omega, hn0, rfl⟩
  · subst hA; exact told_less (by simp [toldP, getS, A0])
  rintro R i hR ⟨i0, i1, i2⟩
  cbv
  replace hn : n = (s.size : Int) := hn
  replace hnl : n = (l.length : Int) := hnl
  replace i0 : 0 ≤ i := i0
  replace i1 : i ≤ n := i1
  have hfin : ¬ i < n → mayL s.data.toList = true := by
    intro h9
    rw [show i.toNat = l.length by omega, List.drop_length] at i2
    rw [← hl, i2]
    rfl
  have hrow : i < n → ∃ b, s[i.toNat]? = some b ∧ mayL l = (!(decide (b.toNat < 33) || decide (126 < b.toNat)) && mayL (l.drop (i + 1).toNat)) := by
    intro h9
    have h10 : i.toNat < l.length := by omega
    have h11 := List.drop_eq_getElem_cons h10
    refine ⟨l[i.toNat], hby _ _ (List.getElem?_eq_getElem h10), ?_⟩
    rw [i2, h11, show (i + 1).toNat = i.toNat + 1 by omega]
    rfl
  have hbad : ∀ b : UInt8, mayL l = (!(decide (b.toNat < 33) || decide (126 < b.toNat)) && mayL (l.drop (i + 1).toNat)) → (b.toNat < 33 ∨ 126 < b.toNat) → mayF s = false := by
    intro b hm h13
    unfold mayF
    rw [← hl, hm]
    rcases h13 with h13 | h13 <;> simp [h13]
  have ei : IntKind.wrap .i64 (i + 1) = i + 1 := wrap_i64 (by unfold r64; omega)
  repeat' first
    | (refine part (fun h => ?_) (fun h => ?_) <;> try cbv)
    | (refine And.intro ?_ ?_)
  all_goals subst hA hX hW hR
  all_goals clear hby
  all_goals first
    | (have h9 : A0.cmp .lss i (A0.size s) = true := by assumption
       simp only [A0, decide_eq_true_eq] at h9
       replace h9 : i < n := by (rw [hn]; exact h9)
       obtain ⟨b, hb, hm⟩ := hrow h9
       first
         | exact (⟨i0, lt_of_lt_of_eq h9 hn⟩ : 0 ≤ i ∧ i < (s.size : Int))
         | exact fun _ => (⟨i0, lt_of_lt_of_eq h9 hn⟩ : 0 ≤ i ∧ i < (s.size : Int))
         | (have h12 : A0.cond (A0.cmp .lss (A0.byte s i) 33) true (A0.cmp .gtr (A0.byte s i) 126) = true := by assumption
            simp only [A0, hb, cond_eq_ite] at h12
            refine ret_v (congrArg boolD ?_) rfl
            refine (hbad b hm ?_).symm
            by_cases hq : (b.toNat : Int) < 33
            · left; omega
            · right
              simp [hq] at h12
              omega)
         | (have h12 : A0.cond (A0.cmp .lss (A0.byte s i) 33) true (A0.cmp .gtr (A0.byte s i) 126) = false := by assumption
            simp only [A0, hb, cond_eq_ite] at h12
            have h13 : ¬ (b.toNat < 33) ∧ ¬ (126 < b.toNat) := by
              by_cases hq : (b.toNat : Int) < 33
              · simp [hq] at h12
              · simp [hq] at h12
                omega
            refine ⟨i + 1, ⟨by omega, by omega, by rw [hm]; simp [h13]⟩, by omega, told_less ?_⟩
            simp [toldP, getS, A0, ei]
            done)
         | (simp [A0]; done)
         | (intro q; simpa [A0] using q)
         | (intro q; exact trivial))
    | (have h9 : A0.cmp .lss i (A0.size s) = false := by assumption
       simp only [A0, decide_eq_false_iff_not] at h9
       replace h9 : ¬ i < (s.size : Int) := h9
       replace hn : n = (s.size : Int) := hn
       replace hnl : n = (l.length : Int) := hnl
       refine ret_v (congrArg boolD ?_) rfl
       have h10 := hfin (by omega)
       unfold mayF
       rw [h10]
       show A0.cond (A0.scmp .neq s { data := { toList := [] } }) (A0.cmp .leq (A0.size s) 24) false = _
       have e1 : A0.scmp .neq s { data := { toList := [] } } = !decide (s = none8) := by
         show (!decide (s = none8)) = _
         rfl
       have e2 : A0.cmp .leq (A0.size s) 24 = decide (s.size ≤ 24) := by
         show decide ((s.size : Int) ≤ 24) = _
         rw [decide_eq_decide]
         omega
       rw [e1, e2]
       show (bif !decide (s = none8) then decide (s.size ≤ 24) else false) = _
       by_cases h11 : s = none8
       · simp [h11]
       · by_cases h12 : s.size ≤ 24
         · have h13 : ¬ 24 < s.size := by omega
           simp [h11, h12, h13]
         · have h13 : 24 < s.size := by omega
           simp [h11, h12, h13])
    | (intro q; exact q)
    | (intro q; simpa [A0] using q)
    | (intro q; trivial)
    | (simp [A0]; done)
    | fail
def kn_rname (F : FsRn) : FuncId × (List DV → RV) := (51, fun args => match args with
  | [.d (.sc (.string s))] => some ([F.sz s], boolD ((F.rname s)))
  | _ => none)
theorem ok_rname (args : List DV) (cs : List Prop) (r : DV) (h : (kn_rname FsRn0).2 args = some (cs, r)) (hc : allP cs True) : FnV Try.prog 51 args r ∧ closedL 0 args = true := by
  unfold kn_rname at h
  simp only at h
  split at h
  · cases h; exact ⟨v_rname _ hc.1, rfl⟩
  · cases h
theorem one_at {cs : List DV} {j : Nat} {d : DV} (h : cs[j]? = some d) : [d].length = 1 ∧ j + 1 ≤ cs.length ∧ (cs.drop j).take 1 = [d] := by
  obtain ⟨hn, e⟩ := List.getElem?_eq_some_iff.1 h
  refine ⟨rfl, by omega, ?_⟩
  rw [List.drop_eq_getElem_cons hn, e]
  rfl
/-- Where a name stands first; below nought: nowhere. -/
def atL (nm : ByteArray) : List FileM → Int → Int
  | [], _ => -1
  | f :: l, i => if f.name = nm then i else atL nm l (i + 1)
/-- Power for one change: is there any; off behind it; how many are left. -/
def rpB (l : Int) : Bool := !decide (l = 0)
def rpO (o : Bool) (l : Int) : Bool := bif decide (l = 0) then true else o
def rpL (l : Int) : Int := bif decide (0 < l) then l - 1 else l
set_option maxRecDepth 100000 in
theorem w_rpow0 (q : Int) (o a : Bool) (lf : Int) (hl : -1 ≤ lf ∧ lf ≤ 9223372036854775807) : FnD Try.prog 52 [.ref 0 0 0] (rS q none o a lf) (fun r st' => r = .d (.sc (.bool (rpB lf))) ∧ st' = rS q none (rpO o lf) a (rpL lf)) := by
  have hH : SoundK Try.prog [] := by exact noK_ok
  have hB : SoundB Try.prog [] := by exact noB_ok
  refine FnD_cbv (T := fun _ => tabY [] []) (H := fun _ => []) (tabY_ok _ _) hH follows_mixed Try.func52 rfl Try.ntmps52 (by simp) fun A X W hA hX hW => ?_
  cbv
  rcases Int.lt_trichotomy lf 0 with hc | hc | hc
  · have t1 : A.cmp .eql lf 0 = false := by subst hA; exact decide_eq_false (by omega)
    have t2 : A.cmp .gtr lf 0 = false := by subst hA; exact decide_eq_false (by omega)
    have ew : 0 < lf → IntKind.wrap .i64 (lf - 1) = lf - 1 := fun _ => wrap_i64 (by unfold r64; omega)
    cbv at t1 t2
    repeat' first
      | (simp only [t1, t2]; cbv)
      | (refine And.intro ?_ ?_)
    all_goals subst hA hX hW
    all_goals first
      | exact rfl
      | (show Region.lexB _ _ = true; kernel_rfl)
      | (refine RetW.refl ⟨?_, ?_⟩
         · have e1 : decide (lf = 0) = false := decide_eq_false (by omega)
           simp [rpB, e1]
         · have e1 : decide (lf = 0) = false := decide_eq_false (by omega)
           have e2 : decide (0 < lf) = false := decide_eq_false (by omega)
           try simp only [A0]
           try rw [ew (by omega)]
           simp only [rpO, rpL, e1, e2, cond_true, cond_false, rS, Fr.d, Fr.rst])
      | fail
  · have t1 : A.cmp .eql lf 0 = true := by subst hA; exact decide_eq_true (by omega)
    have t2 : A.cmp .gtr lf 0 = false := by subst hA; exact decide_eq_false (by omega)
    have ew : 0 < lf → IntKind.wrap .i64 (lf - 1) = lf - 1 := fun _ => wrap_i64 (by unfold r64; omega)
    cbv at t1 t2
    repeat' first
      | (simp only [t1, t2]; cbv)
      | (refine And.intro ?_ ?_)
    all_goals subst hA hX hW
    all_goals first
      | exact rfl
      | (show Region.lexB _ _ = true; kernel_rfl)
      | (refine RetW.refl ⟨?_, ?_⟩
         · have e1 : decide (lf = 0) = true := decide_eq_true (by omega)
           simp [rpB, e1]
         · have e1 : decide (lf = 0) = true := decide_eq_true (by omega)
           have e2 : decide (0 < lf) = false := decide_eq_false (by omega)
           try simp only [A0]
           try rw [ew (by omega)]
           simp only [rpO, rpL, e1, e2, cond_true, cond_false, rS, Fr.d, Fr.rst])
      | fail
  · have t1 : A.cmp .eql lf 0 = false := by subst hA; exact decide_eq_false (by omega)
    have t2 : A.cmp .gtr lf 0 = true := by subst hA; exact decide_eq_true (by omega)
    have ew : 0 < lf → IntKind.wrap .i64 (lf - 1) = lf - 1 := fun _ => wrap_i64 (by unfold r64; omega)
    cbv at t1 t2
    repeat' first
      | (simp only [t1, t2]; cbv)
      | (refine And.intro ?_ ?_)
    all_goals subst hA hX hW
    all_goals first
      | exact rfl
      | (show Region.lexB _ _ = true; kernel_rfl)
      | (refine RetW.refl ⟨?_, ?_⟩
         · have e1 : decide (lf = 0) = false := decide_eq_false (by omega)
           simp [rpB, e1]
         · have e1 : decide (lf = 0) = false := decide_eq_false (by omega)
           have e2 : decide (0 < lf) = true := decide_eq_true (by omega)
           try simp only [A0]
           try rw [ew (by omega)]
           simp only [rpO, rpL, e1, e2, cond_true, cond_false, rS, Fr.d, Fr.rst])
      | fail
set_option maxRecDepth 100000 in
theorem w_rpow1 (q : Int) (v m : Nat) (cs : List DV) (o a : Bool) (lf : Int) (hl : -1 ≤ lf ∧ lf ≤ 9223372036854775807) : FnD Try.prog 52 [.ref 0 0 0] (rS q (some (v, m, cs)) o a lf) (fun r st' => r = .d (.sc (.bool (rpB lf))) ∧ st' = rS q (some (v, m, cs)) (rpO o lf) a (rpL lf)) := by
  have hH : SoundK Try.prog [] := by exact noK_ok
  have hB : SoundB Try.prog [] := by exact noB_ok
  refine FnD_cbv (T := fun _ => tabY [] []) (H := fun _ => []) (tabY_ok _ _) hH follows_mixed Try.func52 rfl Try.ntmps52 (by simp) fun A X W hA hX hW => ?_
  cbv
  rcases Int.lt_trichotomy lf 0 with hc | hc | hc
  · have t1 : A.cmp .eql lf 0 = false := by subst hA; exact decide_eq_false (by omega)
    have t2 : A.cmp .gtr lf 0 = false := by subst hA; exact decide_eq_false (by omega)
    have ew : 0 < lf → IntKind.wrap .i64 (lf - 1) = lf - 1 := fun _ => wrap_i64 (by unfold r64; omega)
    cbv at t1 t2
    repeat' first
      | (simp only [t1, t2]; cbv)
      | (refine And.intro ?_ ?_)
    all_goals subst hA hX hW
    all_goals first
      | exact rfl
      | (show Region.lexB _ _ = true; kernel_rfl)
      | (refine RetW.refl ⟨?_, ?_⟩
         · have e1 : decide (lf = 0) = false := decide_eq_false (by omega)
           simp [rpB, e1]
         · have e1 : decide (lf = 0) = false := decide_eq_false (by omega)
           have e2 : decide (0 < lf) = false := decide_eq_false (by omega)
           try simp only [A0]
           try rw [ew (by omega)]
           simp only [rpO, rpL, e1, e2, cond_true, cond_false, rS, Fr.d, Fr.rst])
      | fail
  · have t1 : A.cmp .eql lf 0 = true := by subst hA; exact decide_eq_true (by omega)
    have t2 : A.cmp .gtr lf 0 = false := by subst hA; exact decide_eq_false (by omega)
    have ew : 0 < lf → IntKind.wrap .i64 (lf - 1) = lf - 1 := fun _ => wrap_i64 (by unfold r64; omega)
    cbv at t1 t2
    repeat' first
      | (simp only [t1, t2]; cbv)
      | (refine And.intro ?_ ?_)
    all_goals subst hA hX hW
    all_goals first
      | exact rfl
      | (show Region.lexB _ _ = true; kernel_rfl)
      | (refine RetW.refl ⟨?_, ?_⟩
         · have e1 : decide (lf = 0) = true := decide_eq_true (by omega)
           simp [rpB, e1]
         · have e1 : decide (lf = 0) = true := decide_eq_true (by omega)
           have e2 : decide (0 < lf) = false := decide_eq_false (by omega)
           try simp only [A0]
           try rw [ew (by omega)]
           simp only [rpO, rpL, e1, e2, cond_true, cond_false, rS, Fr.d, Fr.rst])
      | fail
  · have t1 : A.cmp .eql lf 0 = false := by subst hA; exact decide_eq_false (by omega)
    have t2 : A.cmp .gtr lf 0 = true := by subst hA; exact decide_eq_true (by omega)
    have ew : 0 < lf → IntKind.wrap .i64 (lf - 1) = lf - 1 := fun _ => wrap_i64 (by unfold r64; omega)
    cbv at t1 t2
    repeat' first
      | (simp only [t1, t2]; cbv)
      | (refine And.intro ?_ ?_)
    all_goals subst hA hX hW
    all_goals first
      | exact rfl
      | (show Region.lexB _ _ = true; kernel_rfl)
      | (refine RetW.refl ⟨?_, ?_⟩
         · have e1 : decide (lf = 0) = false := decide_eq_false (by omega)
           simp [rpB, e1]
         · have e1 : decide (lf = 0) = false := decide_eq_false (by omega)
           have e2 : decide (0 < lf) = true := decide_eq_true (by omega)
           try simp only [A0]
           try rw [ew (by omega)]
           simp only [rpO, rpL, e1, e2, cond_true, cond_false, rS, Fr.d, Fr.rst])
      | fail
set_option maxRecDepth 100000 in
theorem w_rarm0 (q : Int) (o a : Bool) (lf : Int) (k : Int)  : FnD Try.prog 43 [.ref 0 0 0, .d (.sc (.int .i64 k))] (rS q none o a lf) (fun r st' => r = .tup [] ∧ st' = rS q none o a (max k (-1))) := by
  have hH : SoundK Try.prog [] := by exact noK_ok
  have hB : SoundB Try.prog [] := by exact noB_ok
  refine FnD_cbv (T := fun _ => tabY [] []) (H := fun _ => []) (tabY_ok _ _) hH follows_mixed Try.func43 rfl Try.ntmps43 (by simp) fun A X W hA hX hW => ?_
  cbv
  repeat' first
    | (refine part (fun h => ?_) (fun h => ?_) <;> try cbv)
    | (refine And.intro ?_ ?_)
  all_goals subst hA hX hW
  all_goals first
    | exact rfl
    | (show Region.lexB _ _ = true; kernel_rfl)
    | (show turnsB _ = true; kernel_rfl)
    | exact RetW.refl ⟨rfl, rfl⟩
    | fail
set_option maxRecDepth 100000 in
theorem w_rarm1 (q : Int) (v m : Nat) (cs : List DV) (o a : Bool) (lf : Int) (k : Int)  : FnD Try.prog 43 [.ref 0 0 0, .d (.sc (.int .i64 k))] (rS q (some (v, m, cs)) o a lf) (fun r st' => r = .tup [] ∧ st' = rS q (some (v, m, cs)) o a (max k (-1))) := by
  have hH : SoundK Try.prog [] := by exact noK_ok
  have hB : SoundB Try.prog [] := by exact noB_ok
  refine FnD_cbv (T := fun _ => tabY [] []) (H := fun _ => []) (tabY_ok _ _) hH follows_mixed Try.func43 rfl Try.ntmps43 (by simp) fun A X W hA hX hW => ?_
  cbv
  repeat' first
    | (refine part (fun h => ?_) (fun h => ?_) <;> try cbv)
    | (refine And.intro ?_ ?_)
  all_goals subst hA hX hW
  all_goals first
    | exact rfl
    | (show Region.lexB _ _ = true; kernel_rfl)
    | (show turnsB _ = true; kernel_rfl)
    | exact RetW.refl ⟨rfl, rfl⟩
    | fail
set_option maxRecDepth 100000 in
theorem w_rat0 (q : Int) (o a : Bool) (lf : Int) (nm : ByteArray) : FnD Try.prog 54 [.ref 0 0 0, .d (.sc (.string nm))] (rS q none o a lf) (fun r st' => r = .d (.sc (.int .i64 (-1))) ∧ st' = rS q none o a lf) := by
  have hH : SoundK Try.prog [] := by exact noK_ok
  have hB : SoundB Try.prog [] := by exact noB_ok
  refine FnD_cbv (T := fun _ => tabY [5003] []) (H := fun _ => []) (tabY_ok _ _) hH follows_mixed Try.func54 rfl Try.ntmps54 (by simp) fun A X W hA hX hW => ?_
  cbv
  have l0 : A.cmp .lss 0 0 = false := by subst hA; rfl
  cbv at l0
  repeat (refine And.intro (by subst hA; exact rfl) ?_)
  refine unrollL (T := fun _ => tabY [5003] []) (H := fun _ => []) (tabY_ok _ _) noK_ok follows_mixed hA hX 1 fun R hR => ?_
  refine hR _ _ _ ?_
  cbv
  repeat (refine And.intro (by subst hA; exact rfl) ?_)
  simp only [l0]
  cbv
  subst hA hX hW
  exact RetW.refl ⟨rfl, rfl⟩
set_option maxRecDepth 100000 in
theorem w_rat1 (q : Int) (v m : Nat) (cs : List DV) (o a : Bool) (lf : Int) (L : List FileM) (nm : ByteArray) (hcs : cs = cellsF L) (hm : m = L.length) (hL : L.length ≤ 1000) : FnD Try.prog 54 [.ref 0 0 0, .d (.sc (.string nm))] (rS q (some (v, m, cs)) o a lf) (fun r st' => r = .d (.sc (.int .i64 (atL nm L 0))) ∧ st' = rS q (some (v, m, cs)) o a lf) := by
  obtain ⟨n, hn⟩ : ∃ n : Int, n = L.length := ⟨_, rfl⟩
  have hn0 : 0 ≤ n := by omega
  have hn1 : n ≤ 1000 := by omega
  obtain ⟨z, hz⟩ : ∃ z, z = atL nm L 0 := ⟨_, rfl⟩
  rw [← hz]
  have hmn : n = (m : Int) := by rw [hm]; exact hn
  have hcell : ∀ {i : Int}, 0 ≤ i → i < n → ∃ f, L[i.toNat]? = some f ∧ L.drop i.toNat = f :: L.drop (i + 1).toNat ∧ cs[i.toNat * 3]? = some (.d (.sc (.string f.name))) ∧ cs[i.toNat * 3 + 1]? = some (.d (.slc 1 f.data)) ∧ cs[i.toNat * 3 + 2]? = some (.d (.sc (.int .i64 f.kept))) ∧
      (cs.drop (i.toNat * 3)).take 3 = [.d (.sc (.string f.name)), .d (.slc 1 f.data), .d (.sc (.int .i64 f.kept))] ∧ i.toNat * 3 + 3 ≤ cs.length := by
    intro i h0 h1
    have h2 : i.toNat < L.length := by omega
    refine ⟨L[i.toNat], List.getElem?_eq_getElem h2, ?_, file_cell hcs i.toNat h2⟩
    rw [List.drop_eq_getElem_cons h2, show (i + 1).toNat = i.toNat + 1 by omega]
  have hpull : ∀ κ, pullL κ cs = cs := fun κ => by rw [hcs, pullL_eq]; exact pull_rows κ _
  have hH : SoundK Try.prog [] := by exact noK_ok
  have hB : SoundB Try.prog [] := by exact noB_ok
  refine FnD_cbv (T := fun _ => tabY [20, 21] []) (H := fun _ => []) (tabY_ok _ _) hH follows_mixed Try.func54 rfl Try.ntmps54 (by simp) fun A X W hA hX hW => ?_
  cbv
  refine loopL (T := fun _ => tabY [20, 21] []) (H := fun _ => []) (tabY_ok _ _) noK_ok follows_mixed hA hX (fun x : Int × Unit => (0 ≤ x.1 ∧ x.1 ≤ n) ∧ z = atL nm (L.drop x.1.toNat) x.1) (fun x => [(0, .ref 0 0 0), (1, .d (.sc (.string nm))), (5, .d (.sc (.int .i64 x.1)))]) (fun _ => [rB q (.view 3 1 v 0 m) o a lf, gB cs v]) (fun x => n.toNat - x.1.toNat) (0, ()) ?_ ?_ ?_
  · exact ⟨⟨Int.le_refl 0, hn0⟩, hz⟩
  · exact told_less (by simp [toldP, getS])
  rintro R ⟨i, _⟩ hR ⟨hi, h2⟩
  replace hi : 0 ≤ i ∧ i ≤ n := hi
  replace h2 : z = atL nm (L.drop i.toNat) i := h2
  cbv
  by_cases hlt : i < n
  · have t1 : A.cmp .lss i (A.int m) = true := by subst hA; exact decide_eq_true (lt_of_lt_of_eq hlt hmn)
    cbv at t1
    repeat (refine And.intro (by subst hA; exact rfl) ?_)
    simp only [t1]
    cbv
    obtain ⟨f, k0, k1, k2, k3, k4, k5, k6⟩ := hcell hi.1 hlt
    repeat' first
      | (refine part (fun h => ?_) (fun h => ?_) <;> try cbv)
      | (refine And.intro ?_ ?_)
    all_goals subst hA hX hW
    all_goals clear hH hB
    all_goals replace hmn : n = (m : Int) := hmn
    all_goals replace hn : n = (L.length : Int) := hn
    all_goals have ei : IntKind.wrap .i64 (i + 1) = i + 1 := wrap_i64 (by unfold r64; omega)
    all_goals try simp only [A0, nc, Nat.zero_add, Nat.add_zero] at *
    all_goals try simp only [k2, k3, k4]
    all_goals try simp only [k2] at h
    all_goals first
      | rfl
      | exact ⟨hi.1, by omega⟩
      | exact one_at k2
      | exact one_at k3
      | exact one_at k4
      | omega
      | (rw [k1] at h2
         have h3 : f.name = nm := by first | exact h | exact of_decide_eq_true h
         rw [atL, if_pos h3] at h2
         rw [h2]
         exact RetW.refl ⟨rfl, rfl⟩)
      | (rw [k1] at h2
         have h3 : ¬ f.name = nm := by first | exact h | exact of_decide_eq_false h
         rw [atL, if_neg h3] at h2
         subst hR
         refine ⟨(i + 1, ()), ⟨⟨by simp only; omega, by simp only; omega⟩, h2⟩, by simp only; omega, told_less ?_⟩
         simp [toldP, getS, ei])
      | fail
  · have t1 : A.cmp .lss i (A.int m) = false := by subst hA; exact decide_eq_false (fun h9 => hlt (lt_of_lt_of_eq h9 hmn.symm))
    cbv at t1
    repeat (refine And.intro (by subst hA; exact rfl) ?_)
    simp only [t1]
    cbv
    subst hA hX hW
    replace hn : n = (L.length : Int) := hn
    have he : L.drop i.toNat = [] := List.drop_eq_nil_of_le (by omega)
    have hf : L.take i.toNat = L := List.take_of_length_le (by omega)
    rw [he] at h2
    replace h2 : z = -1 := h2
    rw [h2]
    exact RetW.refl ⟨rfl, rfl⟩
set_option maxRecDepth 100000 in
theorem w_rtot0 (q : Int) (o a : Bool) (lf : Int) : FnD Try.prog 46 [.ref 0 0 0] (rS q none o a lf) (fun r st' => r = .d (.sc (.int .i64 0)) ∧ st' = rS q none o a lf) := by
  have hH : SoundK Try.prog [] := by exact noK_ok
  have hB : SoundB Try.prog [] := by exact noB_ok
  refine FnD_cbv (T := fun _ => tabY [5003] []) (H := fun _ => []) (tabY_ok _ _) hH follows_mixed Try.func46 rfl Try.ntmps46 (by simp) fun A X W hA hX hW => ?_
  cbv
  have l0 : A.cmp .lss 0 0 = false := by subst hA; rfl
  cbv at l0
  repeat (refine And.intro (by subst hA; exact rfl) ?_)
  refine unrollL (T := fun _ => tabY [5003] []) (H := fun _ => []) (tabY_ok _ _) noK_ok follows_mixed hA hX 1 fun R hR => ?_
  refine hR _ _ _ ?_
  cbv
  repeat (refine And.intro (by subst hA; exact rfl) ?_)
  simp only [l0]
  cbv
  subst hA hX hW
  exact RetW.refl ⟨rfl, rfl⟩
set_option maxRecDepth 100000 in
theorem w_rtot1 (q : Int) (v m : Nat) (cs : List DV) (o a : Bool) (lf : Int) (L : List FileM) (hcs : cs = cellsF L) (hm : m = L.length) (hL : L.length ≤ 1000) (ht : totF L ≤ 1048576) : FnD Try.prog 46 [.ref 0 0 0] (rS q (some (v, m, cs)) o a lf) (fun r st' => r = .d (.sc (.int .i64 (totF L))) ∧ st' = rS q (some (v, m, cs)) o a lf) := by
  obtain ⟨n, hn⟩ : ∃ n : Int, n = L.length := ⟨_, rfl⟩
  have hn0 : 0 ≤ n := by omega
  have hn1 : n ≤ 1000 := by omega
  obtain ⟨z, hz⟩ : ∃ z, z = totF L := ⟨_, rfl⟩
  rw [← hz] at ht
  rw [← hz]
  have hmn : n = (m : Int) := by rw [hm]; exact hn
  have hcell : ∀ {i : Int}, 0 ≤ i → i < n → ∃ f, L[i.toNat]? = some f ∧ L.drop i.toNat = f :: L.drop (i + 1).toNat ∧ cs[i.toNat * 3]? = some (.d (.sc (.string f.name))) ∧ cs[i.toNat * 3 + 1]? = some (.d (.slc 1 f.data)) ∧ cs[i.toNat * 3 + 2]? = some (.d (.sc (.int .i64 f.kept))) ∧
      (cs.drop (i.toNat * 3)).take 3 = [.d (.sc (.string f.name)), .d (.slc 1 f.data), .d (.sc (.int .i64 f.kept))] ∧ i.toNat * 3 + 3 ≤ cs.length := by
    intro i h0 h1
    have h2 : i.toNat < L.length := by omega
    refine ⟨L[i.toNat], List.getElem?_eq_getElem h2, ?_, file_cell hcs i.toNat h2⟩
    rw [List.drop_eq_getElem_cons h2, show (i + 1).toNat = i.toNat + 1 by omega]
  have hpull : ∀ κ, pullL κ cs = cs := fun κ => by rw [hcs, pullL_eq]; exact pull_rows κ _
  have hH : SoundK Try.prog [] := by exact noK_ok
  have hB : SoundB Try.prog [] := by exact noB_ok
  refine FnD_cbv (T := fun _ => tabY [20, 21] []) (H := fun _ => []) (tabY_ok _ _) hH follows_mixed Try.func46 rfl Try.ntmps46 (by simp) fun A X W hA hX hW => ?_
  cbv
  refine loopL (T := fun _ => tabY [20, 21] []) (H := fun _ => []) (tabY_ok _ _) noK_ok follows_mixed hA hX (fun x : Int × Int => (0 ≤ x.1 ∧ x.1 ≤ n) ∧ x.2 = totF (L.take x.1.toNat)) (fun x => [(0, .ref 0 0 0), (3, .d (.sc (.int .i64 x.2))), (4, .d (.sc (.int .i64 x.1)))]) (fun _ => [rB q (.view 3 1 v 0 m) o a lf, gB cs v]) (fun x => n.toNat - x.1.toNat) (0, 0) ?_ ?_ ?_
  · exact ⟨⟨Int.le_refl 0, hn0⟩, rfl⟩
  · exact told_less (by simp [toldP, getS])
  rintro R ⟨i, s⟩ hR ⟨hi, h2⟩
  replace hi : 0 ≤ i ∧ i ≤ n := hi
  replace h2 : s = totF (L.take i.toNat) := h2
  cbv
  by_cases hlt : i < n
  · have t1 : A.cmp .lss i (A.int m) = true := by subst hA; exact decide_eq_true (lt_of_lt_of_eq hlt hmn)
    cbv at t1
    repeat (refine And.intro (by subst hA; exact rfl) ?_)
    simp only [t1]
    cbv
    obtain ⟨f, k0, k1, k2, k3, k4, k5, k6⟩ := hcell hi.1 hlt
    repeat' first
      | (refine part (fun h => ?_) (fun h => ?_) <;> try cbv)
      | (refine And.intro ?_ ?_)
    all_goals subst hA hX hW
    all_goals clear hH hB
    all_goals replace hmn : n = (m : Int) := hmn
    all_goals replace hn : n = (L.length : Int) := hn
    all_goals have ei : IntKind.wrap .i64 (i + 1) = i + 1 := wrap_i64 (by unfold r64; omega)
    all_goals try simp only [A0, nc, Nat.zero_add, Nat.add_zero] at *
    all_goals try simp only [k2, k3, k4]
    all_goals try simp only [k2] at h
    all_goals first
      | rfl
      | exact ⟨hi.1, by omega⟩
      | exact one_at k2
      | exact one_at k3
      | exact one_at k4
      | omega
      | (have hst := totF_step k0
         have hle := totF_take L (i.toNat + 1)
         have hge := totF_nonneg (L.take i.toNat)
         have es : IntKind.wrap .i64 (s + f.data.length) = s + f.data.length := wrap_i64 (by unfold r64; omega)
         subst hR
         refine ⟨(i + 1, s + f.data.length), ⟨⟨by simp only; omega, by simp only; omega⟩, by simp only; rw [show (i + 1).toNat = i.toNat + 1 by omega]; omega⟩, by simp only; omega, told_less ?_⟩
         simp [toldP, getS, ei, es])
      | fail
  · have t1 : A.cmp .lss i (A.int m) = false := by subst hA; exact decide_eq_false (fun h9 => hlt (lt_of_lt_of_eq h9 hmn.symm))
    cbv at t1
    repeat (refine And.intro (by subst hA; exact rfl) ?_)
    simp only [t1]
    cbv
    subst hA hX hW
    replace hn : n = (L.length : Int) := hn
    have he : L.drop i.toNat = [] := List.drop_eq_nil_of_le (by omega)
    have hf : L.take i.toNat = L := List.take_of_length_le (by omega)
    rw [hf, ← hz] at h2
    rw [h2]
    exact RetW.refl ⟨rfl, rfl⟩
end Go.Proofs.Ytmjmbfcfnhnpmaa
namespace Go.Proofs.Ytmjmbfcfnhnpmaa
open Go.RowKit
set_option linter.all false
set_option maxHeartbeats 4000000
theorem ret_upst {k : Nat} {R : DV → Store → Prop} {d : DV} {st st' : Store} (h : UpSt st st') (hr : RetW k R d st') : RetW k R d st := by
  obtain ⟨d2, st2, h1, h2⟩ := hr
  refine ⟨d2, st2, TellsV.trans (fun E v hc hst hrep => ?_) h1, h2⟩
  subst hst
  have hv : ∀ (b : Nat) (bx : Box), E.st[b]? = some bx → ∃ bx' : Box, st'[b]? = some bx' ∧ bx'.ver = bx.ver := fun b bx hb => by
    obtain ⟨bx', h1, _, _, h2, _⟩ := h.get b bx hb
    exact ⟨bx', h1, h2⟩
  let E' : Env := ⟨E.w, E.S, E.σ, st'⟩
  refine ⟨E', rfl, rfl, ⟨hc.len.trans h.len.symm, fun b bx' g z h1 h2 hl => ?_, hc.inj, hc.old, hc.lt⟩, Rep.stv (E := E) (E' := E') rfl rfl rfl hv _ _ hrep, fun F q1 q2 q3 => ?_⟩
  · obtain ⟨bx, g1, g2, g3, g4, g5, g6⟩ := h.back b bx' h1
    obtain ⟨cur, c1, c2, c3, c4, c5, c6, c7, c8⟩ := hc.box b bx g z g1 h2 (by rw [← g5]; exact hl)
    refine ⟨cur, by rw [g2]; exact c1, c2, by rw [g6.len]; exact c3, fun e => by rw [g6.len]; exact c4 (by rw [← g3]; exact e), c5, c6, fun j d hj => ?_, c8⟩
    obtain ⟨c, k1, k2⟩ := g6.get j d hj
    obtain ⟨u, u1, u2, u3⟩ := c7 j c k1
    exact ⟨u, u1, u2, Rep.stv (E := E) (E' := E') rfl rfl rfl hv d u (UpD.rep k2 u3)⟩
  · refine ⟨q3.size, q3.os, q3.tape, q3.output, q3.set, q3.fresh, q3.heap, fun b bx gz b1 b2 => ?_, q3.new⟩
    obtain ⟨bx1, gz1, r1, r2, r3, r4, r5, r6⟩ := q3.box b bx gz b1 b2
    obtain ⟨bx2, s1, _, _, s2, s3, _⟩ := h.get b bx1 r1
    exact ⟨bx2, gz1, s1, r2, by rw [s2]; exact r3, fun e => r4 (by rw [e, s2]), fun e => by rw [s3]; exact r5 e, r6⟩
set_option maxRecDepth 100000 in
theorem w_rplace0 (q : Int) (o a : Bool) (lf : Int) (nm : ByteArray) : FnD Try.prog 53 [.ref 0 0 0, .d (.sc (.string nm))] (rS q none o a lf) (fun r st' => r = .d (.sc (.int .i64 0)) ∧ st' = rS q (some (3, 1, cellsF [⟨nm, [], 0⟩])) o a lf) := by
  have hH : SoundK Try.prog [] := by exact noK_ok
  have hB : SoundB Try.prog [] := by exact noB_ok
  refine FnD_cbv (T := fun _ => tabY [20, 41, 5005] [5]) (H := fun _ => []) (tabY_ok _ _) hH follows_mixed Try.func53 rfl Try.ntmps53 (by simp) fun A X W hA hX hW => ?_
  cbv
  have l0 : A.cmp .lss 0 0 = false := by subst hA; rfl
  have l1 : A.cmp .eql 0 0 = true := by subst hA; rfl
  have l2 : A.len [] = 0 := by subst hA; rfl
  cbv at l0 l1 l2
  repeat (refine And.intro (by subst hA; exact rfl) ?_)
  refine loopL (T := fun _ => tabY [20, 41, 5005] [5]) (H := fun _ => []) (tabY_ok _ _) noK_ok follows_mixed hA hX (fun _ : Unit => True) (fun _ => [(0, .ref 0 0 0), (1, .d (.sc (.string nm))), (5, .d (.sc (.int .i64 0)))]) (fun _ => [rB q (.d (.slc 3 [])) o a lf]) (fun _ => 0) () trivial ?_ ?_
  · exact told_upst ⟨_, _, rfl, ⟨rfl, rfl, rfl, rfl, UpL.nil (UpL.keep (UpL.keep (UpL.keep UpL.done)))⟩, rfl⟩ ⟨.inl (UpD.refl _), .inl (UpD.refl _), .inl (UpD.refl _), trivial⟩
  rintro R - hR -
  cbv
  repeat (refine And.intro (by subst hA; exact rfl) ?_)
  simp only [l2, l0, l1]
  cbv
  repeat' first
    | ((with_reducible refine regionU [1000001] [] [50, 50, 1, 1, 1, 1, 1, 1, 50, 50, 50, 50, 50, 3, 3, 3, 3, 3, 3] (T := fun _ => tabY [20, 41, 5005] []) (H := fun _ => []) (B := fun _ => []) (R := fun _ => []) (A := A) (tabY_ok _ _) hH noB_ok noR_ok follows_mixed hA hX (by kernel_rfl) (by kernel_rfl) (by kernel_rfl) (by kernel_rfl) (by kernel_rfl) ?_) <;> cbv)
    | (simp only [l2, l0, l1]; cbv)
    | (refine part (fun h => ?_) (fun h => ?_) <;> try cbv)
    | (refine And.intro ?_ ?_)
  all_goals subst hA hX hW
  all_goals first
    | exact rfl
    | (intro q; exact q)
    | (intro q; cases q)
    | (intro q; exact trivial)
    | (show A0.isl _ _ _; simp [A0]; done)
    | (simp [A0]; done)
    | (exfalso; simp [A0] at h; done)
    | exact ret_upst (st' := rS q (some (3, 1, cellsF [⟨nm, [], 0⟩])) o a lf) (UpSt.cons (UpL.refl' _) (UpSt.cons (UpL.keep (UpL.nil (UpL.keep UpL.done))) rfl)) (RetW.refl ⟨rfl, rfl⟩)
    | fail
/-- Files with one of that name among them. -/
def plcL (nm : ByteArray) (L : List FileM) : List FileM := if (findF nm L 0).2 = true then L else L.take (findF nm L 0).1.toNat ++ [⟨nm, [], 0⟩] ++ L.drop (findF nm L 0).1.toNat
def plcV (nm : ByteArray) (L : List FileM) (v : Nat) : Nat := if (findF nm L 0).2 = true then v else v + 4
theorem UpL.app : ∀ {a b c d : List DV}, UpL a b → UpL c d → UpL (a ++ c) (b ++ d)
  | [], b, c, d, h, g => by have e : b = [] := h; subst e; exact g
  | x :: a, b, c, d, ⟨y, bs, e, h1, h2⟩, g => by subst e; exact ⟨y, bs ++ d, rfl, h1, UpL.app h2 g⟩
theorem cells_take (L : List FileM) (k : Nat) (h : k ≤ L.length) : (cellsF L).take (k * 3) = cellsF (L.take k) := by
  have e := cellsF_append (L.take k) (L.drop k)
  rw [List.take_append_drop] at e
  rw [e]
  exact List.take_left' (by rw [cellsF_len, List.length_take, Nat.min_eq_left h])
theorem cells_drop (L : List FileM) (k : Nat) (h : k ≤ L.length) : (cellsF L).drop (k * 3) = cellsF (L.drop k) := by
  have e := cellsF_append (L.take k) (L.drop k)
  rw [List.take_append_drop] at e
  rw [e]
  exact List.drop_left' (by rw [cellsF_len, List.length_take, Nat.min_eq_left h])
/-- The row of files with one more in it. -/
theorem plc_cells {nm : ByteArray} {L : List FileM} {k m : Nat} (hk : k ≤ m) (hm : m = L.length) (t u : List DV) (ht : t = (cellsF L).take (k * 3)) (hu : u = (cellsF L).drop (k * 3)) : UpL (t ++ [.d (.sc (.string nm)), .d (.sc (.slice none 0 0)), .d (.sc (.int .i64 0))] ++ u) (cellsF (L.take k ++ [⟨nm, [], 0⟩] ++ L.drop k)) := by
  rw [cellsF_append, cellsF_append, ht, hu, cells_take L k (by omega), cells_drop L k (by omega)]
  exact UpL.app (UpL.app (UpL.refl' _) (UpL.keep (UpL.nil (UpL.keep UpL.done)))) (UpL.refl' _)
theorem find_step {nm : ByteArray} {f : FileM} {l : List FileM} {i : Int} : findF nm (f :: l) i = if ltb f.name nm = true then findF nm l (i + 1) else (i, decide (f.name = nm)) := rfl
set_option maxRecDepth 100000 in
theorem place_ret {q lf : Int} {o a : Bool} {v m : Nat} {cs : List DV} {L : List FileM} {nm : ByteArray} {i : Int} (hcs : cs = cellsF L) (hm : m = L.length) (hi : 0 ≤ i ∧ i ≤ (m : Int)) (hf1 : (findF nm L 0).1 = i) (hf2 : (findF nm L 0).2 = false) {tail : List DV} (ht : tail = cs.drop (i.toNat * 3)) {cnt : Nat} (hcnt : cnt = m + 1) :
    RetW (List.length (rS q (some (v, m, cs)) o a lf)) (fun r st' => r = .d (.sc (.int .i64 (findF nm L 0).1)) ∧ st' = rS q (some (plcV nm L v, (plcL nm L).length, cellsF (plcL nm L))) o a lf) (.d (.sc (.int .i64 i)))
      [rB q (.view 3 2 3 0 cnt) o a lf, gB cs v, gB (cs.take (i.toNat * 3) ++ rowsD [[.sc (.string nm), .sc (.slice none 0 0), .sc (.int .i64 0)]] ++ tail) 3] := by
  subst hcnt ht
  have hk : i.toNat ≤ m := by omega
  have hp : plcL nm L = L.take i.toNat ++ [⟨nm, [], 0⟩] ++ L.drop i.toNat := by unfold plcL; rw [if_neg (by rw [hf2]; decide), hf1]
  have hv : plcV nm L v = v + 4 := by unfold plcV; rw [if_neg (by rw [hf2]; decide)]
  have hlen : (plcL nm L).length = m + 1 := by
    rw [hp]
    simp only [List.length_append, List.length_take, List.length_drop, List.length_cons, List.length_nil]
    omega
  rw [hlen, hv, hf1, hp]
  have hc := plc_cells (nm := nm) hk hm (cs.take (i.toNat * 3)) (cs.drop (i.toNat * 3)) (by rw [hcs]) (by rw [hcs])
  have hq : closedL 0 (cs.take (i.toNat * 3) ++ rowsD [[.sc (.string nm), .sc (.slice none 0 0), .sc (.int .i64 0)]] ++ cs.drop (i.toNat * 3)) = true := by
    rw [hcs, cells_take L _ (by omega), cells_drop L _ (by omega)]
    unfold cellsF
    rw [← rowsD_append, ← rowsD_append, rowsD]
    exact closedL_data 0 _
  obtain ⟨cc, hcc⟩ : ∃ cc, cc = cs.take (i.toNat * 3) ++ rowsD [[.sc (.string nm), .sc (.slice none 0 0), .sc (.int .i64 0)]] ++ cs.drop (i.toNat * 3) := ⟨_, rfl⟩
  have hc : UpL cc (cellsF (L.take i.toNat ++ [⟨nm, [], 0⟩] ++ L.drop i.toNat)) := by rw [hcc]; exact hc
  rw [← hcc] at hq ⊢
  have hcl : closedL 0 cs = true := by rw [hcs, cellsF, rowsD]; exact closedL_data 0 _
  refine ret_bump2 2 (v + 4) (gB cc 3) rfl rfl (by show 3 ≤ v + 4; omega) ?_
  have e1 : bumpSt 2 (v + 4) [rB q (.view 3 2 3 0 (m + 1)) o a lf, gB cs v, gB cc 3] = [rB q (.view 3 2 (v + 4) 0 (m + 1)) o a lf, gB cs v, gB cc (v + 4)] := by
    simp [bumpSt, bumpL, bumpD, bumpL_closed _ _ _ _ hcl, bumpL_closed _ _ _ _ hq]
  have e0 : bumpD 2 (gB cc 3).ver (v + 4) (.d (.sc (.int .i64 i))) = .d (.sc (.int .i64 i)) := rfl
  rw [e0, e1]
  refine ret_keep2 [0, 2] rfl ⟨⟨trivial, .inl rfl⟩, .inr ⟨_, _, rfl, rfl, rfl, ?_⟩⟩ ?_
  · show v < v + 4
    omega
  have hpl := pullL_closed0 [0, 2] _ hq
  refine ret_upst (st' := rS q (some (v + 4, m + 1, cellsF (L.take i.toNat ++ [⟨nm, [], 0⟩] ++ L.drop i.toNat))) o a lf) ?_ (RetW.refl ⟨rfl, rfl⟩)
  have e : keepSt [0, 2] [rB q (.view 3 2 (v + 4) 0 (m + 1)) o a lf, gB cs v, gB cc (v + 4)] = [rB q (.view 3 1 (v + 4) 0 (m + 1)) o a lf, gB cc (v + 4)] := by
    simp only [keepSt, List.map_cons, List.map_nil, pullBox, List.getD_cons_zero, List.getD_cons_succ, hpl]
    rfl
  rw [e]
  exact UpSt.cons (UpL.refl' _) (UpSt.cons hc rfl)
set_option maxRecDepth 100000 in
theorem w_rplace1 (q : Int) (v m : Nat) (cs : List DV) (o a : Bool) (lf : Int) (L : List FileM) (nm : ByteArray) (hcs : cs = cellsF L) (hm : m = L.length) (hL : L.length ≤ 1000) : FnD Try.prog 53 [.ref 0 0 0, .d (.sc (.string nm))] (rS q (some (v, m, cs)) o a lf) (fun r st' => r = .d (.sc (.int .i64 (findF nm L 0).1)) ∧ st' = rS q (some (plcV nm L v, (plcL nm L).length, cellsF (plcL nm L))) o a lf) := by
  obtain ⟨n, hn⟩ : ∃ n : Int, n = L.length := ⟨_, rfl⟩
  have hn0 : 0 ≤ n := by omega
  have hn1 : n ≤ 1000 := by omega
  obtain ⟨z, hz⟩ : ∃ z, z = findF nm L 0 := ⟨_, rfl⟩
  have hmn : n = (m : Int) := by rw [hm]; exact hn
  have hcell : ∀ {i : Int}, 0 ≤ i → i < n → ∃ f, L[i.toNat]? = some f ∧ L.drop i.toNat = f :: L.drop (i + 1).toNat ∧ cs[i.toNat * 3]? = some (.d (.sc (.string f.name))) ∧ cs[i.toNat * 3 + 1]? = some (.d (.slc 1 f.data)) ∧ cs[i.toNat * 3 + 2]? = some (.d (.sc (.int .i64 f.kept))) ∧
      (cs.drop (i.toNat * 3)).take 3 = [.d (.sc (.string f.name)), .d (.slc 1 f.data), .d (.sc (.int .i64 f.kept))] ∧ i.toNat * 3 + 3 ≤ cs.length := by
    intro i h0 h1
    have h2 : i.toNat < L.length := by omega
    refine ⟨L[i.toNat], List.getElem?_eq_getElem h2, ?_, file_cell hcs i.toNat h2⟩
    rw [List.drop_eq_getElem_cons h2, show (i + 1).toNat = i.toNat + 1 by omega]
  have hpull : ∀ κ, pullL κ cs = cs := fun κ => by rw [hcs, pullL_eq]; exact pull_rows κ _
  have hH : SoundK Try.prog [] := by exact noK_ok
  have hB : SoundB Try.prog [] := by exact noB_ok
  refine FnD_cbv (T := fun _ => tabY [20, 41, 5005] [5]) (H := fun _ => []) (tabY_ok _ _) hH follows_mixed Try.func53 rfl Try.ntmps53 (by simp) fun A X W hA hX hW => ?_
  cbv
  repeat (refine And.intro (by subst hA; exact rfl) ?_)
  refine loopL (T := fun _ => tabY [20, 41, 5005] [5]) (H := fun _ => []) (tabY_ok _ _) noK_ok follows_mixed hA hX (fun i : Int => (0 ≤ i ∧ i ≤ n) ∧ z = findF nm (L.drop i.toNat) i) (fun i => [(0, .ref 0 0 0), (1, .d (.sc (.string nm))), (5, .d (.sc (.int .i64 i)))]) (fun _ => [rB q (.view 3 1 v 0 m) o a lf, gB cs v]) (fun i => n.toNat - i.toNat) 0 ?_ ?_ ?_
  · exact ⟨⟨Int.le_refl 0, hn0⟩, hz⟩
  · exact told_less (by simp [toldP, getS])
  rintro R i hR ⟨hi, hzi⟩
  replace hi : 0 ≤ i ∧ i ≤ n := hi
  replace hzi : z = findF nm (L.drop i.toNat) i := hzi
  have c0 : ∀ x y, A.cond false x y = y := by subst hA; intro x y; rfl
  have c1 : ∀ x y, A.cond true x y = x := by subst hA; intro x y; rfl
  unfold Ar.cond at c0 c1
  cbv
  have hm2 : n = (m : Int) := hmn
  by_cases hlt : i < n
  · have t1 : A.cmp .lss i (A.int m) = true := by subst hA; exact decide_eq_true (show i < (m : Int) from by omega)
    have t2 : A.cmp .eql i (A.int m) = false := by subst hA; exact decide_eq_false (show ¬ i = (m : Int) from by omega)
    cbv at t1 t2
    obtain ⟨f, k0, k1, k2, k3, k4, k5, k6⟩ := hcell hi.1 hlt
    repeat' first
      | (simp only [t1, t2, c0, c1]; cbv)
      | (refine part (fun h => ?_) (fun h => ?_) <;> try cbv)
      | ((with_reducible refine regionU [1000001] [] [50, 50, 1, 1, 1, 1, 1, 1, 50, 50, 50, 50, 50, 3, 3, 3, 3, 3, 3] (T := fun _ => tabY [20, 41, 5005, 5000] []) (H := fun _ => []) (B := fun _ => []) (R := fun _ => []) (A := A) (tabY_ok _ _) hH noB_ok noR_ok follows_mixed hA hX (by kernel_rfl) (by kernel_rfl) (by kernel_rfl) (by kernel_rfl) (by kernel_rfl) ?_) <;> cbv)
      | (refine And.intro ?_ ?_)
    all_goals subst hA hX hW
    all_goals clear hH hB
    all_goals have hl : cs.length = m * 3 := by rw [hcs, cellsF_len, hm]
    all_goals have ei : IntKind.wrap .i64 (i + 1) = i + 1 := wrap_i64 (by unfold r64; omega)
    all_goals try clear hcell
    all_goals try clear c0 c1 t1 t2 hpull
    all_goals try simp only [A0, nc, Nat.zero_add, Nat.add_zero, List.nil_append, List.drop_zero] at *
    all_goals try simp only [k2] at h
    all_goals try (rename_i h1; simp only [k2] at h1)
    all_goals first
      | exact rfl
      | exact ⟨hi.1, by omega⟩
      | exact one_at k2
      | exact trivial
      | (intro q; exact q)
      | (intro q; cases q; done)
      | (intro _; first | exact rfl | exact trivial | exact ⟨hi.1, by omega⟩ | (simp only [k2]; exact one_at k2))
      | omega
      | exact ⟨by omega, by omega⟩
      | exact ⟨⟨by omega, by omega⟩, .inl (by omega), .inl rfl⟩
      | exact ⟨⟨by omega, by omega⟩, .inl (by omega), .inl (by omega)⟩
      | exact ⟨⟨by omega, by omega⟩, .inl (by omega), .inr (.inl (by omega))⟩
      | (simp only [List.length_take, List.length_append, List.length_nil, List.length_cons, rowsD, List.flatten, List.map_cons, List.map_nil]; omega)
      | (simp [rowsD]; omega)
      | (rw [k1, find_step, if_pos (by first | exact h | exact h1)] at hzi
         subst hR
         refine ⟨i + 1, ⟨⟨by omega, by omega⟩, hzi⟩, by omega, told_less ?_⟩
         simp [toldP, getS, ei])
      | (rw [k1, find_step, if_neg (by first | (rw [h1]; decide) | (rw [h]; decide))] at hzi
         first
           | (refine place_ret hcs hm ⟨hi.1, by omega⟩ (by rw [← hz, hzi]) (by rw [← hz, hzi]; simpa using h) (List.take_of_length_le (by rw [List.length_drop]; omega)) ?_
              simp only [List.length_cons, List.length_nil]
              omega)
           | (have hf1 : (findF nm L 0).1 = i := by rw [← hz, hzi]
              have hf2 : (findF nm L 0).2 = true := by rw [← hz, hzi]; simpa using h
              have hp : plcL nm L = L := by unfold plcL; rw [if_pos hf2]
              have hv : plcV nm L v = v := by unfold plcV; rw [if_pos hf2]
              rw [hp, hv, hf1, ← hm, ← hcs]
              exact RetW.refl ⟨rfl, rfl⟩)
           | fail)
      | fail
  by_cases hn00 : n = 0
  · have t1 : A.cmp .lss i (A.int m) = false := by subst hA; exact decide_eq_false (show ¬ i < (m : Int) from by omega)
    have t2 : A.cmp .eql i (A.int m) = true := by subst hA; exact decide_eq_true (show i = (m : Int) from by omega)
    cbv at t1 t2
    have hcell := True.intro
    repeat' first
      | (simp only [t1, t2, c0, c1]; cbv)
      | (refine part (fun h => ?_) (fun h => ?_) <;> try cbv)
      | ((with_reducible refine regionU [1000001] [] [50, 50, 1, 1, 1, 1, 1, 1, 50, 50, 50, 50, 50, 3, 3, 3, 3, 3, 3] (T := fun _ => tabY [20, 41, 5005, 5000] []) (H := fun _ => []) (B := fun _ => []) (R := fun _ => []) (A := A) (tabY_ok _ _) hH noB_ok noR_ok follows_mixed hA hX (by kernel_rfl) (by kernel_rfl) (by kernel_rfl) (by kernel_rfl) (by kernel_rfl) ?_) <;> cbv)
      | (refine And.intro ?_ ?_)
    all_goals subst hA hX hW
    all_goals clear hH hB
    all_goals have hl : cs.length = m * 3 := by rw [hcs, cellsF_len, hm]
    all_goals have ei : IntKind.wrap .i64 (i + 1) = i + 1 := wrap_i64 (by unfold r64; omega)
    all_goals try clear hcell
    all_goals try clear c0 c1 t1 t2 hpull
    all_goals try simp only [A0, nc, Nat.zero_add, Nat.add_zero, List.nil_append, List.drop_zero] at *
    all_goals try simp only [k2] at h
    all_goals try (rename_i h1; simp only [k2] at h1)
    all_goals first
      | exact rfl
      | exact ⟨hi.1, by omega⟩
      | exact one_at k2
      | exact trivial
      | (intro q; exact q)
      | (intro q; cases q; done)
      | (intro _; first | exact rfl | exact trivial | exact ⟨hi.1, by omega⟩ | (simp only [k2]; exact one_at k2))
      | omega
      | exact ⟨by omega, by omega⟩
      | exact ⟨⟨by omega, by omega⟩, .inl (by omega), .inl rfl⟩
      | exact ⟨⟨by omega, by omega⟩, .inl (by omega), .inl (by omega)⟩
      | exact ⟨⟨by omega, by omega⟩, .inl (by omega), .inr (.inl (by omega))⟩
      | (simp only [List.length_take, List.length_append, List.length_nil, List.length_cons, rowsD, List.flatten, List.map_cons, List.map_nil]; omega)
      | (simp [rowsD]; omega)
      | (have hx1 : L.length ≤ i.toNat := by omega
         have he : L.drop i.toNat = [] := List.drop_eq_nil_of_le hx1
         rw [he] at hzi
         replace hzi : z = (i, false) := hzi
         have hx2 : cs.length ≤ i.toNat * 3 := by omega
         have hcd : cs.drop (i.toNat * 3) = [] := List.drop_eq_nil_of_le hx2
         first
           | (refine place_ret hcs hm ⟨hi.1, by omega⟩ (by rw [← hz, hzi]) (by rw [← hz, hzi]) (List.take_of_length_le (by rw [List.length_drop]; omega)) ?_
              simp only [List.length_cons, List.length_nil]
              omega)
           | (refine place_ret hcs hm ⟨hi.1, by omega⟩ (by rw [← hz, hzi]) (by rw [← hz, hzi]) (tail := rowsD []) hcd.symm ?_
              simp only [List.length_cons, List.length_nil]
              omega)
           | fail)
      | fail
  · have t1 : A.cmp .lss i (A.int m) = false := by subst hA; exact decide_eq_false (show ¬ i < (m : Int) from by omega)
    have t2 : A.cmp .eql i (A.int m) = true := by subst hA; exact decide_eq_true (show i = (m : Int) from by omega)
    cbv at t1 t2
    have hcell := True.intro
    repeat' first
      | (simp only [t1, t2, c0, c1]; cbv)
      | (refine part (fun h => ?_) (fun h => ?_) <;> try cbv)
      | ((with_reducible refine regionU [1000001] [] [50, 50, 1, 1, 1, 1, 1, 1, 50, 50, 50, 50, 50, 3, 3, 3, 3, 3, 3] (T := fun _ => tabY [20, 41, 5005, 5000, 5002] []) (H := fun _ => []) (B := fun _ => []) (R := fun _ => []) (A := A) (tabY_ok _ _) hH noB_ok noR_ok follows_mixed hA hX (by kernel_rfl) (by kernel_rfl) (by kernel_rfl) (by kernel_rfl) (by kernel_rfl) ?_) <;> cbv)
      | (refine And.intro ?_ ?_)
    all_goals subst hA hX hW
    all_goals clear hH hB
    all_goals have hl : cs.length = m * 3 := by rw [hcs, cellsF_len, hm]
    all_goals have ei : IntKind.wrap .i64 (i + 1) = i + 1 := wrap_i64 (by unfold r64; omega)
    all_goals try clear hcell
    all_goals try clear c0 c1 t1 t2 hpull
    all_goals try simp only [A0, nc, Nat.zero_add, Nat.add_zero, List.nil_append, List.drop_zero] at *
    all_goals try simp only [k2] at h
    all_goals try (rename_i h1; simp only [k2] at h1)
    all_goals first
      | exact rfl
      | exact ⟨hi.1, by omega⟩
      | exact one_at k2
      | exact trivial
      | (intro q; exact q)
      | (intro q; cases q; done)
      | (intro _; first | exact rfl | exact trivial | exact ⟨hi.1, by omega⟩ | (simp only [k2]; exact one_at k2))
      | omega
      | exact ⟨by omega, by omega⟩
      | exact ⟨⟨by omega, by omega⟩, .inl (by omega), .inl rfl⟩
      | exact ⟨⟨by omega, by omega⟩, .inl (by omega), .inl (by omega)⟩
      | exact ⟨⟨by omega, by omega⟩, .inl (by omega), .inr (.inl (by omega))⟩
      | (simp only [List.length_take, List.length_append, List.length_nil, List.length_cons, rowsD, List.flatten, List.map_cons, List.map_nil]; omega)
      | (simp [rowsD]; omega)
      | (have hx1 : L.length ≤ i.toNat := by omega
         have he : L.drop i.toNat = [] := List.drop_eq_nil_of_le hx1
         rw [he] at hzi
         replace hzi : z = (i, false) := hzi
         have hx2 : cs.length ≤ i.toNat * 3 := by omega
         have hcd : cs.drop (i.toNat * 3) = [] := List.drop_eq_nil_of_le hx2
         first
           | (refine place_ret hcs hm ⟨hi.1, by omega⟩ (by rw [← hz, hzi]) (by rw [← hz, hzi]) (List.take_of_length_le (by rw [List.length_drop]; omega)) ?_
              simp only [List.length_cons, List.length_nil]
              omega)
           | (refine place_ret hcs hm ⟨hi.1, by omega⟩ (by rw [← hz, hzi]) (by rw [← hz, hzi]) (tail := rowsD []) hcd.symm ?_
              simp only [List.length_cons, List.length_nil]
              omega)
           | fail)
      | fail
set_option maxRecDepth 100000 in
theorem out_ret {q lf : Int} {o a : Bool} {v m : Nat} {cs : List DV} {L : List FileM} {k : Nat} (hcs : cs = cellsF L) (hm : m = L.length) (hk : k < m) {tail : List DV} (ht : tail = cs.drop (k * 3 + 3)) {w cnt : Nat} (hw : w ≤ 3) (hcnt : cnt = m - 1) :
    RetW (List.length (rS q (some (v, m, cs)) o a lf)) (fun r st' => r = .tup [] ∧ st' = rS q (some (v + 4, m - 1, cellsF (L.take k ++ L.drop (k + 1)))) o a lf) (.tup [])
      [rB q (.view 3 2 w 0 cnt) o a lf, gB cs v, gB (cs.take (k * 3) ++ tail) w] := by
  subst hcnt ht
  have e0 : cs.take (k * 3) ++ cs.drop (k * 3 + 3) = cellsF (L.take k ++ L.drop (k + 1)) := by
    rw [cellsF_append, hcs, cells_take L k (by omega), show k * 3 + 3 = (k + 1) * 3 by omega, cells_drop L (k + 1) (by omega)]
  rw [e0]
  have hq : closedL 0 (cellsF (L.take k ++ L.drop (k + 1))) = true := by rw [cellsF, rowsD]; exact closedL_data 0 _
  obtain ⟨cc, hcc⟩ : ∃ cc, cc = cellsF (L.take k ++ L.drop (k + 1)) := ⟨_, rfl⟩
  rw [← hcc] at hq ⊢
  have hcl : closedL 0 cs = true := by rw [hcs, cellsF, rowsD]; exact closedL_data 0 _
  refine ret_bump2 2 (v + 4) (gB cc w) rfl rfl (by show w ≤ v + 4; omega) ?_
  have e1 : bumpSt 2 (v + 4) [rB q (.view 3 2 w 0 (m - 1)) o a lf, gB cs v, gB cc w] = [rB q (.view 3 2 (v + 4) 0 (m - 1)) o a lf, gB cs v, gB cc (v + 4)] := by
    simp [bumpSt, bumpL, bumpD, bumpL_closed _ _ _ _ hcl, bumpL_closed _ _ _ _ hq]
  have e2 : bumpD 2 (gB cc w).ver (v + 4) (.tup []) = .tup [] := rfl
  rw [e2, e1]
  refine ret_keep2 [0, 2] rfl ⟨⟨trivial, .inl rfl⟩, .inr ⟨_, _, rfl, rfl, rfl, ?_⟩⟩ ?_
  · show v < v + 4
    omega
  have hpl := pullL_closed0 [0, 2] _ hq
  have e : keepSt [0, 2] [rB q (.view 3 2 (v + 4) 0 (m - 1)) o a lf, gB cs v, gB cc (v + 4)] = [rB q (.view 3 1 (v + 4) 0 (m - 1)) o a lf, gB cc (v + 4)] := by
    simp only [keepSt, List.map_cons, List.map_nil, pullBox, List.getD_cons_zero, List.getD_cons_succ, hpl]
    rfl
  rw [e]
  exact RetW.refl ⟨rfl, rfl⟩
set_option maxRecDepth 100000 in
theorem w_rout1 (q : Int) (v m : Nat) (cs : List DV) (o a : Bool) (lf : Int) (L : List FileM) (k : Int) (hcs : cs = cellsF L) (hm : m = L.length) (hL : L.length ≤ 1000) (hk : 0 ≤ k ∧ k < (m : Int)) : FnD Try.prog 55 [.ref 0 0 0, .d (.sc (.int .i64 k))] (rS q (some (v, m, cs)) o a lf) (fun r st' => r = .tup [] ∧ st' = rS q (some (v + 4, m - 1, cellsF (L.take k.toNat ++ L.drop (k.toNat + 1)))) o a lf) := by
  have ek : IntKind.wrap .i64 (k + 1) = k + 1 := wrap_i64 (by unfold r64; omega)
  have hl : cs.length = m * 3 := by rw [hcs, cellsF_len, hm]
  have hH : SoundK Try.prog [] := by exact noK_ok
  have hB : SoundB Try.prog [] := by exact noB_ok
  refine FnD_cbv (T := fun _ => tabY [] [0]) (H := fun _ => []) (tabY_ok _ _) hH follows_mixed Try.func55 rfl Try.ntmps55 (by simp) fun A X W hA hX hW => ?_
  cbv
  replace hk : 0 ≤ k ∧ k < (m : Int) := hk
  by_cases hlt : k + 1 < (m : Int)
  · skip
    repeat' first
      | ((with_reducible refine regionU [] [] [50, 50, 1, 1, 1, 1, 1, 1, 50, 2, 2, 2, 2, 2, 2, 2] (T := fun _ => tabY [5000] []) (H := fun _ => []) (B := fun _ => []) (R := fun _ => []) (A := A) (tabY_ok _ _) hH noB_ok noR_ok follows_mixed hA hX (by kernel_rfl) (by kernel_rfl) (by kernel_rfl) (by kernel_rfl) (by kernel_rfl) ?_) <;> cbv)
      | (refine And.intro ?_ ?_)
    all_goals subst hA hX hW
    all_goals clear hH hB
    all_goals try simp only [A0, nc, Nat.zero_add, Nat.add_zero, List.nil_append, List.drop_zero] at *
    all_goals try simp only [ek]
    all_goals first
      | exact rfl
      | exact trivial
      | omega
      | exact ⟨by omega, by omega⟩
      | exact ⟨⟨by omega, by omega⟩, .inl (by omega), .inl rfl⟩
      | exact ⟨⟨by omega, by omega⟩, .inl (by omega), .inr (.inl (by omega))⟩
      | (simp only [List.length_take, List.length_append, List.length_nil, List.length_cons, rowsD, List.flatten, List.map_cons, List.map_nil]; omega)
      | (refine out_ret hcs hm (k := k.toNat) (by omega) ((List.take_of_length_le (by rw [List.length_drop]; omega)).trans (by rw [show (k + 1).toNat * 3 = k.toNat * 3 + 3 by omega])) (by omega) ?_
         first | omega | (simp only [List.length_nil]; omega))
      | fail
  · skip
    repeat' first
      | ((with_reducible refine regionU [] [] [50, 50, 1, 1, 1, 1, 1, 1, 50, 2, 2, 2, 2, 2, 2, 2] (T := fun _ => tabY [5000, 5002] []) (H := fun _ => []) (B := fun _ => []) (R := fun _ => []) (A := A) (tabY_ok _ _) hH noB_ok noR_ok follows_mixed hA hX (by kernel_rfl) (by kernel_rfl) (by kernel_rfl) (by kernel_rfl) (by kernel_rfl) ?_) <;> cbv)
      | (refine And.intro ?_ ?_)
    all_goals subst hA hX hW
    all_goals clear hH hB
    all_goals try simp only [A0, nc, Nat.zero_add, Nat.add_zero, List.nil_append, List.drop_zero] at *
    all_goals try simp only [ek]
    all_goals first
      | exact rfl
      | exact trivial
      | omega
      | exact ⟨by omega, by omega⟩
      | exact ⟨⟨by omega, by omega⟩, .inl (by omega), .inl rfl⟩
      | exact ⟨⟨by omega, by omega⟩, .inl (by omega), .inr (.inl (by omega))⟩
      | (simp only [List.length_take, List.length_append, List.length_nil, List.length_cons, rowsD, List.flatten, List.map_cons, List.map_nil]; omega)
      | (refine out_ret hcs hm (k := k.toNat) (by omega) (tail := rowsD []) (List.drop_eq_nil_of_le (show cs.length ≤ k.toNat * 3 + 3 by omega)).symm (by omega) ?_
         first | omega | (simp only [List.length_nil]; omega))
      | fail
end Go.Proofs.Ytmjmbfcfnhnpmaa
namespace Go.Proofs.Ytmjmbfcfnhnpmaa
open Go.RowKit
set_option linter.all false
set_option maxHeartbeats 4000000
def atX (cs : List DV) (nm : ByteArray) : Int := atL nm (rowF cs) 0
def plcI (cs : List DV) (nm : ByteArray) : Int := (findF nm (rowF cs) 0).1
def plcW (cs : List DV) (nm : ByteArray) (v : Nat) : Nat := plcV nm (rowF cs) v
def plcM (cs : List DV) (nm : ByteArray) : Nat := (plcL nm (rowF cs)).length
def plcC (cs : List DV) (nm : ByteArray) : List DV := cellsF (plcL nm (rowF cs))
def oneC (nm : ByteArray) : List DV := cellsF [⟨nm, [], 0⟩]
def outC (cs : List DV) (k : Int) : List DV := cellsF ((rowF cs).take k.toNat ++ (rowF cs).drop (k.toNat + 1))
structure FsRd where
  rt : List DV → ByteArray → Int
  tot : List DV → Int
  powB : Int → Bool
  powO : Bool → Int → Bool
  powL : Int → Int
  plI : List DV → ByteArray → Int
  plV : List DV → ByteArray → Nat → Nat
  plM : List DV → ByteArray → Nat
  plC : List DV → ByteArray → List DV
  one : ByteArray → List DV
  outC : List DV → Int → List DV
  v4 : Nat → Nat
  p1 : Nat → Nat
  isF : List DV → Nat → Prop
  same : Nat → Nat → Prop
  okl : Int → Prop
  inb : Int → Nat → Prop
def FsRd0 : FsRd where
  rt := atX
  tot := totX
  powB := rpB
  powO := rpO
  powL := rpL
  plI := plcI
  plV := plcW
  plM := plcM
  plC := plcC
  one := oneC
  outC := outC
  v4 := (· + 4)
  p1 := (· - 1)
  isF := isF
  same := (· = ·)
  okl := (fun l => -1 ≤ l ∧ l ≤ 9223372036854775807)
  inb := (fun k m => 0 ≤ k ∧ k < (m : Int))
def kb_rat (F : FsRd) : FuncId × (List DV → Store → SV) := (54, fun args st => match args with
  | [.ref b ver o0, .d (.sc (.string name))] => (match st[b]? with
    | some ⟨t, [.d (.sc (.slice none 0 0)), .d (.sc (.int .i64 q)), .d (.sc (.int .i64 l)), .d (.sc (.bool o))], false, bv, true⟩ => (bif (ver == 0) && (o0 == 0) && (bv == 0) && (t == 74) then some ([], .d (.sc (.int .i64 (-1))), st.set b (rB q (.d (.sc (.slice none 0 0))) o false l)) else none)
    | some ⟨t, [.view sz c v off n, .d (.sc (.int .i64 q)), .d (.sc (.int .i64 l)), .d (.sc (.bool o))], false, bv, true⟩ => (match st[c]? with
      | some ⟨t2, cs, true, v2, true⟩ => (bif (ver == 0) && (o0 == 0) && (bv == 0) && (t == 74) && (sz == 3) && (off == 0) && (t2 == 85) && !(b == c) then some ([F.same v2 v, F.isF cs n], .d (.sc (.int .i64 (F.rt cs name))), (st.set b (rB q (.view 3 c v 0 n) o false l)).set c (gB cs v)) else none)
      | _ => none)
    | _ => none)
  | _ => none)
theorem okb_rat (args : List DV) (st : Store) (cs : List Prop) (r : DV) (st' : Store) (h : (kb_rat FsRd0).2 args st = some (cs, r, st')) (hc : allP cs True) (K : DV → Store → Prop) (hk : K r st') : FnD Try.prog 54 args st K := by
  unfold kb_rat at h
  simp only at h
  split at h
  · split at h
    · rename_i hb
      simp only [cond_eq_ite, Bool.and_eq_true, beq_iff_eq, Option.ite_none_right_eq_some] at h
      obtain ⟨⟨⟨⟨rfl, rfl⟩, rfl⟩, rfl⟩, h⟩ := h
      cases h
      refine FnD.rk0 (β := Unit) (G := fun _ => True) (a := false) (a' := fun _ => false) (fr' := fun _ => none) _ (FnD.mono (w_rat0 _ _ _ _ _) fun r st' h => ⟨(), trivial, h.1, h.2⟩) hb rfl (fun _ _ => rfl) (fun _ _ _ _ _ h => by cases h) fun _ _ => ⟨fun _ => hk, fun _ _ _ h => by cases h⟩
    · rename_i hb
      split at h
      · rename_i hb2
        simp only [cond_eq_ite, Bool.and_eq_true, beq_iff_eq, Option.ite_none_right_eq_some, Bool.not_eq_true', beq_eq_false_iff_ne] at h
        obtain ⟨⟨⟨⟨⟨⟨⟨⟨rfl, rfl⟩, rfl⟩, rfl⟩, rfl⟩, rfl⟩, rfl⟩, hbc⟩, h⟩ := h
        cases h
        have hc1 : _ = _ := hc.1
        subst hc1
        have hc2 : isF _ _ := hc.2.1
        refine FnD.rk (β := Unit) (G := fun _ => True) (a := false) (a' := fun _ => false) _ _ (FnD.mono (w_rat1 _ _ _ _ _ _ _ (rowF _) _ hc2.1 hc2.2.1 hc2.2.2.2) fun r st' h => ⟨(), trivial, h.1, h.2⟩) hb hb2 hbc rfl (fun _ _ => rfl) hc2.closed (fun _ _ => hc2.closed) fun _ _ => hk
      · cases h
    · cases h
  · cases h
def kb_rtot (F : FsRd) : FuncId × (List DV → Store → SV) := (46, fun args st => match args with
  | [.ref b ver o0] => (match st[b]? with
    | some ⟨t, [.d (.sc (.slice none 0 0)), .d (.sc (.int .i64 q)), .d (.sc (.int .i64 l)), .d (.sc (.bool o))], false, bv, true⟩ => (bif (ver == 0) && (o0 == 0) && (bv == 0) && (t == 74) then some ([], .d (.sc (.int .i64 0)), st.set b (rB q (.d (.sc (.slice none 0 0))) o false l)) else none)
    | some ⟨t, [.view sz c v off n, .d (.sc (.int .i64 q)), .d (.sc (.int .i64 l)), .d (.sc (.bool o))], false, bv, true⟩ => (match st[c]? with
      | some ⟨t2, cs, true, v2, true⟩ => (bif (ver == 0) && (o0 == 0) && (bv == 0) && (t == 74) && (sz == 3) && (off == 0) && (t2 == 85) && !(b == c) then some ([F.same v2 v, F.isF cs n], .d (.sc (.int .i64 (F.tot cs))), (st.set b (rB q (.view 3 c v 0 n) o false l)).set c (gB cs v)) else none)
      | _ => none)
    | _ => none)
  | _ => none)
theorem okb_rtot (args : List DV) (st : Store) (cs : List Prop) (r : DV) (st' : Store) (h : (kb_rtot FsRd0).2 args st = some (cs, r, st')) (hc : allP cs True) (K : DV → Store → Prop) (hk : K r st') : FnD Try.prog 46 args st K := by
  unfold kb_rtot at h
  simp only at h
  split at h
  · split at h
    · rename_i hb
      simp only [cond_eq_ite, Bool.and_eq_true, beq_iff_eq, Option.ite_none_right_eq_some] at h
      obtain ⟨⟨⟨⟨rfl, rfl⟩, rfl⟩, rfl⟩, h⟩ := h
      cases h
      refine FnD.rk0 (β := Unit) (G := fun _ => True) (a := false) (a' := fun _ => false) (fr' := fun _ => none) _ (FnD.mono (w_rtot0 _ _ _ _) fun r st' h => ⟨(), trivial, h.1, h.2⟩) hb rfl (fun _ _ => rfl) (fun _ _ _ _ _ h => by cases h) fun _ _ => ⟨fun _ => hk, fun _ _ _ h => by cases h⟩
    · rename_i hb
      split at h
      · rename_i hb2
        simp only [cond_eq_ite, Bool.and_eq_true, beq_iff_eq, Option.ite_none_right_eq_some, Bool.not_eq_true', beq_eq_false_iff_ne] at h
        obtain ⟨⟨⟨⟨⟨⟨⟨⟨rfl, rfl⟩, rfl⟩, rfl⟩, rfl⟩, rfl⟩, rfl⟩, hbc⟩, h⟩ := h
        cases h
        have hc1 : _ = _ := hc.1
        subst hc1
        have hc2 : isF _ _ := hc.2.1
        refine FnD.rk (β := Unit) (G := fun _ => True) (a := false) (a' := fun _ => false) _ _ (FnD.mono (w_rtot1 _ _ _ _ _ _ _ (rowF _) hc2.1 hc2.2.1 hc2.2.2.2 hc2.2.2.1) fun r st' h => ⟨(), trivial, h.1, h.2⟩) hb hb2 hbc rfl (fun _ _ => rfl) hc2.closed (fun _ _ => hc2.closed) fun _ _ => hk
      · cases h
    · cases h
  · cases h
def kb_rpow (F : FsRd) : FuncId × (List DV → Store → SV) := (52, fun args st => match args with
  | [.ref b ver o0] => (match st[b]? with
    | some ⟨t, [.d (.sc (.slice none 0 0)), .d (.sc (.int .i64 q)), .d (.sc (.int .i64 l)), .d (.sc (.bool o))], false, bv, true⟩ => (bif (ver == 0) && (o0 == 0) && (bv == 0) && (t == 74) then some ([F.okl l], .d (.sc (.bool (F.powB l))), st.set b (rB q (.d (.sc (.slice none 0 0))) (F.powO o l) false (F.powL l))) else none)
    | some ⟨t, [.view sz c v off n, .d (.sc (.int .i64 q)), .d (.sc (.int .i64 l)), .d (.sc (.bool o))], false, bv, true⟩ => (match st[c]? with
      | some ⟨t2, cs, true, v2, true⟩ => (bif (ver == 0) && (o0 == 0) && (bv == 0) && (t == 74) && (sz == 3) && (off == 0) && (t2 == 85) && !(b == c) then some ([F.same v2 v, F.isF cs n, F.okl l], .d (.sc (.bool (F.powB l))), (st.set b (rB q (.view 3 c v 0 n) (F.powO o l) false (F.powL l))).set c (gB cs v)) else none)
      | _ => none)
    | _ => none)
  | _ => none)
theorem okb_rpow (args : List DV) (st : Store) (cs : List Prop) (r : DV) (st' : Store) (h : (kb_rpow FsRd0).2 args st = some (cs, r, st')) (hc : allP cs True) (K : DV → Store → Prop) (hk : K r st') : FnD Try.prog 52 args st K := by
  unfold kb_rpow at h
  simp only at h
  split at h
  · split at h
    · rename_i hb
      simp only [cond_eq_ite, Bool.and_eq_true, beq_iff_eq, Option.ite_none_right_eq_some] at h
      obtain ⟨⟨⟨⟨rfl, rfl⟩, rfl⟩, rfl⟩, h⟩ := h
      cases h
      refine FnD.rk0 (β := Unit) (G := fun _ => True) (a := false) (a' := fun _ => false) (fr' := fun _ => none) _ (FnD.mono (w_rpow0 _ _ _ _ hc.1) fun r st' h => ⟨(), trivial, h.1, h.2⟩) hb rfl (fun _ _ => rfl) (fun _ _ _ _ _ h => by cases h) fun _ _ => ⟨fun _ => hk, fun _ _ _ h => by cases h⟩
    · rename_i hb
      split at h
      · rename_i hb2
        simp only [cond_eq_ite, Bool.and_eq_true, beq_iff_eq, Option.ite_none_right_eq_some, Bool.not_eq_true', beq_eq_false_iff_ne] at h
        obtain ⟨⟨⟨⟨⟨⟨⟨⟨rfl, rfl⟩, rfl⟩, rfl⟩, rfl⟩, rfl⟩, rfl⟩, hbc⟩, h⟩ := h
        cases h
        have hc1 : _ = _ := hc.1
        subst hc1
        have hc2 : isF _ _ := hc.2.1
        refine FnD.rk (β := Unit) (G := fun _ => True) (a := false) (a' := fun _ => false) _ _ (FnD.mono (w_rpow1 _ _ _ _ _ _ _ hc.2.2.1) fun r st' h => ⟨(), trivial, h.1, h.2⟩) hb hb2 hbc rfl (fun _ _ => rfl) hc2.closed (fun _ _ => hc2.closed) fun _ _ => hk
      · cases h
    · cases h
  · cases h
def kb_rplace (F : FsRd) : FuncId × (List DV → Store → SV) := (53, fun args st => match args with
  | [.ref b ver o0, .d (.sc (.string name))] => (match st[b]? with
    | some ⟨t, [.d (.sc (.slice none 0 0)), .d (.sc (.int .i64 q)), .d (.sc (.int .i64 l)), .d (.sc (.bool o))], false, bv, true⟩ => (bif (ver == 0) && (o0 == 0) && (bv == 0) && (t == 74) then some ([], .d (.sc (.int .i64 0)), st.set b (rB q (.view 3 st.length 3 0 1) o false l) ++ [gB (F.one name) 3]) else none)
    | some ⟨t, [.view sz c v off n, .d (.sc (.int .i64 q)), .d (.sc (.int .i64 l)), .d (.sc (.bool o))], false, bv, true⟩ => (match st[c]? with
      | some ⟨t2, cs, true, v2, true⟩ => (bif (ver == 0) && (o0 == 0) && (bv == 0) && (t == 74) && (sz == 3) && (off == 0) && (t2 == 85) && !(b == c) then some ([F.same v2 v, F.isF cs n], .d (.sc (.int .i64 (F.plI cs name))), (st.set b (rB q (.view 3 c (F.plV cs name v) 0 (F.plM cs name)) o false l)).set c (gB (F.plC cs name) (F.plV cs name v))) else none)
      | _ => none)
    | _ => none)
  | _ => none)
theorem okb_rplace (args : List DV) (st : Store) (cs : List Prop) (r : DV) (st' : Store) (h : (kb_rplace FsRd0).2 args st = some (cs, r, st')) (hc : allP cs True) (K : DV → Store → Prop) (hk : K r st') : FnD Try.prog 53 args st K := by
  unfold kb_rplace at h
  simp only at h
  split at h
  · split at h
    · rename_i hb
      simp only [cond_eq_ite, Bool.and_eq_true, beq_iff_eq, Option.ite_none_right_eq_some] at h
      obtain ⟨⟨⟨⟨rfl, rfl⟩, rfl⟩, rfl⟩, h⟩ := h
      cases h
      refine FnD.rk0 (β := Unit) (G := fun _ => True) (a := false) (a' := fun _ => false) (fr' := fun _ => some (3, 1, (FsRd0.one _))) _ (FnD.mono (w_rplace0 _ _ _ _ _) fun r st' h => ⟨(), trivial, h.1, h.2⟩) hb rfl (fun _ _ => rfl) (fun _ _ _ _ _ h => by cases h; exact closedL_data 0 _) fun _ _ => ⟨fun h => (by cases h), fun _ _ _ h => (by cases h; exact hk)⟩
    · rename_i hb
      split at h
      · rename_i hb2
        simp only [cond_eq_ite, Bool.and_eq_true, beq_iff_eq, Option.ite_none_right_eq_some, Bool.not_eq_true', beq_eq_false_iff_ne] at h
        obtain ⟨⟨⟨⟨⟨⟨⟨⟨rfl, rfl⟩, rfl⟩, rfl⟩, rfl⟩, rfl⟩, rfl⟩, hbc⟩, h⟩ := h
        cases h
        have hc1 : _ = _ := hc.1
        subst hc1
        have hc2 : isF _ _ := hc.2.1
        refine FnD.rk (β := Unit) (G := fun _ => True) (a := false) (a' := fun _ => false) _ _ (FnD.mono (w_rplace1 _ _ _ _ _ _ _ (rowF _) _ hc2.1 hc2.2.1 hc2.2.2.2) fun r st' h => ⟨(), trivial, h.1, h.2⟩) hb hb2 hbc rfl (fun _ _ => rfl) hc2.closed (fun _ _ => by exact closedL_data 0 _) fun _ _ => hk
      · cases h
    · cases h
  · cases h
def kb_rout (F : FsRd) : FuncId × (List DV → Store → SV) := (55, fun args st => match args with
  | [.ref b ver o0, .d (.sc (.int .i64 k))] => (match st[b]? with
    | some ⟨t, [.d (.sc (.slice none 0 0)), .d (.sc (.int .i64 q)), .d (.sc (.int .i64 l)), .d (.sc (.bool o))], false, bv, true⟩ => (bif (ver == 0) && (o0 == 0) && (bv == 0) && (t == 74) then none else none)
    | some ⟨t, [.view sz c v off n, .d (.sc (.int .i64 q)), .d (.sc (.int .i64 l)), .d (.sc (.bool o))], false, bv, true⟩ => (match st[c]? with
      | some ⟨t2, cs, true, v2, true⟩ => (bif (ver == 0) && (o0 == 0) && (bv == 0) && (t == 74) && (sz == 3) && (off == 0) && (t2 == 85) && !(b == c) then some ([F.same v2 v, F.isF cs n, F.inb k n], .tup [], (st.set b (rB q (.view 3 c (F.v4 v) 0 (F.p1 n)) o false l)).set c (gB (F.outC cs k) (F.v4 v))) else none)
      | _ => none)
    | _ => none)
  | _ => none)
theorem okb_rout (args : List DV) (st : Store) (cs : List Prop) (r : DV) (st' : Store) (h : (kb_rout FsRd0).2 args st = some (cs, r, st')) (hc : allP cs True) (K : DV → Store → Prop) (hk : K r st') : FnD Try.prog 55 args st K := by
  unfold kb_rout at h
  simp only at h
  split at h
  · split at h
    · rename_i hb
      simp at h
    · rename_i hb
      split at h
      · rename_i hb2
        simp only [cond_eq_ite, Bool.and_eq_true, beq_iff_eq, Option.ite_none_right_eq_some, Bool.not_eq_true', beq_eq_false_iff_ne] at h
        obtain ⟨⟨⟨⟨⟨⟨⟨⟨rfl, rfl⟩, rfl⟩, rfl⟩, rfl⟩, rfl⟩, rfl⟩, hbc⟩, h⟩ := h
        cases h
        have hc1 : _ = _ := hc.1
        subst hc1
        have hc2 : isF _ _ := hc.2.1
        refine FnD.rk (β := Unit) (G := fun _ => True) (a := false) (a' := fun _ => false) _ _ (FnD.mono (w_rout1 _ _ _ _ _ _ _ (rowF _) _ hc2.1 hc2.2.1 hc2.2.2.2 hc.2.2.1) fun r st' h => ⟨(), trivial, h.1, h.2⟩) hb hb2 hbc rfl (fun _ _ => rfl) hc2.closed (fun _ _ => by exact closedL_data 0 _) fun _ _ => hk
      · cases h
    · cases h
  · cases h
end Go.Proofs.Ytmjmbfcfnhnpmaa
namespace Go.Proofs.Ytmjmbfcfnhnpmaa
open Go.RowKit
set_option linter.all false
/-- How many changes are left, as the document keeps it. -/
def rlf (a : Bool) (l : Int) : Int := bif a then l else -1
theorem rlf_ok {a : Bool} {l : Int} (h : 0 ≤ l ∧ l ≤ 9223372036854775807) : -1 ≤ rlf a l ∧ rlf a l ≤ 9223372036854775807 := by
  cases a <;> simp only [rlf, cond_true, cond_false] <;> omega
theorem rpB_eq {a : Bool} {l : Int} (h : 0 ≤ l) : rpB (rlf a l) = decide (powE a l = 0) := by
  cases a
  · simp [rpB, rlf, powE]
  · by_cases e : l = 0 <;> simp [rpB, rlf, powE, e]
theorem rpO_eq {o a : Bool} {l : Int} (h : 0 ≤ l) : rpO o (rlf a l) = powO o a l := by
  cases a
  · simp [rpO, rlf, powO]
  · by_cases e : l = 0 <;> simp [rpO, rlf, powO, e]
theorem rpL_eq {a : Bool} {l : Int} (h : 0 ≤ l) : rpL (rlf a l) = rlf a (powL a l) := by
  cases a
  · simp [rpL, rlf, powL]
  · by_cases e : l = 0
    · simp [rpL, rlf, powL, e]
    · have h1 : 0 < l := by omega
      simp [rpL, rlf, powL, e, h1]
theorem powE_no {a : Bool} {l : Int} (h : ¬ powE a l = 0) : powE a l = 10 := by
  rcases powE_cases a l with e | e
  · exact absurd e h
  · exact e
/-- What a method of the document's disk leaves. -/
def rkR (fr : Fr) (D : Dk) (res r : DV) (st : Store) : Prop := ∃ fr' : Fr, (fr = none ∧ (fr' = none ∨ D.L ≠ []) ∨ fr ≠ none ∧ fr' ≠ none) ∧ fr'.vr ≤ fr.vr + 9 ∧ fr'.is D.L ∧ r = res ∧ st = rS D.q fr' D.o D.a (rlf D.a D.l)
/-- Files by rising names. -/
def srtF (L : List FileM) : Prop := (L.map FileM.name).Pairwise fun a b => ltb a b = true
theorem at_none {nm : ByteArray} : ∀ {L : List FileM} {i : Int}, (∀ g ∈ L, g.name ≠ nm) → atL nm L i = -1
  | [], _, _ => rfl
  | f :: L, i, h => by
      rw [atL, if_neg (h f (by simp))]
      exact at_none fun g hg => h g (by simp [hg])
theorem at_find {nm : ByteArray} : ∀ {L : List FileM} {i : Int}, srtF L → atL nm L i = if (findF nm L i).2 = true then (findF nm L i).1 else -1
  | [], _, _ => rfl
  | f :: L, i, h => by
      have h2 := List.pairwise_cons.1 (show (f.name :: L.map FileM.name).Pairwise _ from h)
      rw [atL, find_step]
      by_cases e : f.name = nm
      · have e2 : ¬ (ltb f.name nm = true) := by rw [e, ltb_irrefl]; decide
        rw [if_pos e, if_neg e2]
        simp [e]
      · rw [if_neg e]
        cases hl : ltb f.name nm with
        | true =>
          rw [if_pos rfl]
          exact at_find h2.2
        | false =>
          have h3 : ltb nm f.name = true := ltb_flip hl e
          have hn : atL nm L (i + 1) = -1 := at_none fun g hg e2 => by
            have := h2.1 g.name (List.mem_map_of_mem hg)
            rw [e2] at this
            rw [ltb_asym h3] at this
            cases this
          rw [hn]
          simp [e]
theorem srtF.names {L M : List FileM} (h : srtF L) (e : M.map FileM.name = L.map FileM.name) : srtF M := by unfold srtF; rw [e]; exact h
theorem map_set_name {L : List FileM} {k : Nat} {f g : FileM} (h : L[k]? = some f) (e : g.name = f.name) : (L.set k g).map FileM.name = L.map FileM.name := by
  rw [List.map_set, e]
  obtain ⟨h1, h2⟩ := List.getElem?_eq_some_iff.1 h
  apply List.ext_getElem?
  intro i
  rw [List.getElem?_set]
  by_cases hi : k = i
  · subst hi
    simp [h1, h2]
  · simp [hi]
theorem srtF.set {L : List FileM} {k : Nat} {f g : FileM} (h : srtF L) (hk : L[k]? = some f) (e : g.name = f.name) : srtF (L.set k g) := h.names (map_set_name hk e)
theorem srtF.sub {L M : List FileM} (h : srtF L) (e : M.Sublist L) : srtF M := List.Pairwise.sublist (e.map _) h
theorem srtF.out {L : List FileM} (h : srtF L) (k : Nat) : srtF (outFl L k) := by
  refine h.sub ?_
  rw [show outFl L k = L.eraseIdx k by rw [outFl, List.eraseIdx_eq_take_drop_succ]]
  exact List.eraseIdx_sublist L k
theorem find_parts {nm : ByteArray} : ∀ {L : List FileM} {i : Int}, srtF L → (findF nm L i).2 = false → (∀ g ∈ L.take ((findF nm L i).1 - i).toNat, ltb g.name nm = true) ∧ (∀ g ∈ L.drop ((findF nm L i).1 - i).toNat, ltb nm g.name = true)
  | [], i, _, _ => by simp
  | f :: L, i, h, hf => by
      have h2 := List.pairwise_cons.1 (show (f.name :: L.map FileM.name).Pairwise _ from h)
      rw [find_step] at hf ⊢
      cases hl : ltb f.name nm with
      | true =>
        rw [hl] at hf
        rw [if_pos rfl] at hf ⊢
        have hr := (findF_range nm L (i + 1)).1
        have e : ((findF nm L (i + 1)).1 - i).toNat = ((findF nm L (i + 1)).1 - (i + 1)).toNat + 1 := by omega
        obtain ⟨g1, g2⟩ := find_parts h2.2 hf
        rw [e]
        refine ⟨fun g hg => ?_, fun g hg => g2 g (by simpa using hg)⟩
        rw [List.take_succ_cons] at hg
        rcases List.mem_cons.1 hg with rfl | hg
        · exact hl
        · exact g1 g hg
      | false =>
        rw [hl] at hf
        rw [if_neg (by decide)] at hf ⊢
        have hne : f.name ≠ nm := by simpa using hf
        have h3 : ltb nm f.name = true := ltb_flip hl hne
        simp only [Int.sub_self, Int.toNat_zero, List.take_zero, List.drop_zero]
        refine ⟨by simp, fun g hg => ?_⟩
        rcases List.mem_cons.1 hg with rfl | hg
        · exact h3
        · exact ltb_trans h3 (h2.1 g.name (List.mem_map_of_mem hg))
theorem srtF.ins {L : List FileM} (h : srtF L) {g : FileM} (hf : (findF g.name L 0).2 = false) : srtF (L.take (findF g.name L 0).1.toNat ++ [g] ++ L.drop (findF g.name L 0).1.toNat) := by
  obtain ⟨h1, h2⟩ := find_parts h hf
  rw [Int.sub_zero] at h1 h2
  unfold srtF
  rw [List.map_append, List.map_append, List.pairwise_append, List.pairwise_append]
  refine ⟨⟨List.Pairwise.sublist ((List.take_sublist _ _).map _) h, by simp, fun a ha b hb => ?_⟩, List.Pairwise.sublist ((List.drop_sublist _ _).map _) h, fun a ha b hb => ?_⟩
  · obtain ⟨x, hx, rfl⟩ := List.mem_map.1 ha
    simp at hb
    subst hb
    exact h1 x hx
  · obtain ⟨y, hy, rfl⟩ := List.mem_map.1 hb
    rcases List.mem_append.1 ha with ha | ha
    · obtain ⟨x, hx, rfl⟩ := List.mem_map.1 ha
      exact ltb_trans (h1 x hx) (h2 y hy)
    · simp at ha
      subst ha
      exact h2 y hy
theorem srtF.plc {L : List FileM} (h : srtF L) (nm : ByteArray) : srtF (plcL nm L) := by
  unfold plcL
  cases hf : (findF nm L 0).2 with
  | true => rw [if_pos rfl]; exact h
  | false => rw [if_neg (by decide)]; exact h.ins (g := ⟨nm, [], 0⟩) hf
/-- The file that was placed stands where its name is found. -/
theorem plc_get (nm : ByteArray) (L : List FileM) : ∃ f, (plcL nm L)[(findF nm L 0).1.toNat]? = some f ∧ f.name = nm ∧ (findF nm L 0).1.toNat < (plcL nm L).length ∧
    (∀ p, addF L nm p = (plcL nm L).set (findF nm L 0).1.toNat ⟨f.name, f.data ++ p, f.kept⟩) ∧ (∀ d k, placeF L ⟨nm, d, k⟩ = (plcL nm L).set (findF nm L 0).1.toNat ⟨f.name, d, k⟩) ∧ (f ∈ L ∨ f = ⟨nm, [], 0⟩) := by
  have hfn := @find_none L nm
  cases hf : (findF nm L 0).2 with
  | true =>
    obtain ⟨f, h4, h5⟩ := find_get hf
    rw [Int.sub_zero] at h4
    have hp : plcL nm L = L := by unfold plcL; rw [if_pos hf]
    rw [hp]
    refine ⟨f, h4, h5, (List.getElem?_eq_some_iff.1 h4).1, fun p => ?_, fun d k => ?_, .inl (List.mem_of_getElem? h4)⟩
    · unfold addF
      rw [if_pos hf]
      simp only [h4]
    · unfold placeF
      rw [if_pos hf, h5]
  | false =>
    have hp : plcL nm L = L.take (findF nm L 0).1.toNat ++ [⟨nm, [], 0⟩] ++ L.drop (findF nm L 0).1.toNat := by unfold plcL; rw [if_neg (by rw [hf]; decide)]
    obtain ⟨i1, i2, i3⟩ := ins_get L ⟨nm, [], 0⟩ (findF nm L 0).1.toNat (by omega)
    rw [hp]
    refine ⟨_, i1, rfl, (List.getElem?_eq_some_iff.1 i1).1, fun p => ?_, fun d k => ?_, .inr rfl⟩
    · unfold addF
      rw [if_neg (by rw [hf]; decide), i3]
      rfl
    · unfold placeF
      rw [if_neg (by rw [hf]; decide), i3]
theorem srtF.app {L : List FileM} (h : srtF L) (nm : ByteArray) (p : List (List PD)) : srtF (addF L nm p) := by
  obtain ⟨f, h1, h2, h3, h4, _⟩ := plc_get nm L
  rw [h4]
  exact (h.plc nm).set h1 rfl
theorem srtF.place {L : List FileM} (h : srtF L) (g : FileM) : srtF (placeF L g) := by
  obtain ⟨f, h1, h2, h3, _, h4, _⟩ := plc_get g.name L
  have := h4 g.data g.kept
  rw [show placeF L g = _ from this]
  exact (h.plc g.name).set h1 rfl
theorem srtF.ren {L : List FileM} (h : srtF L) (k : Nat) (to : ByteArray) : srtF (renF L k to) := by
  unfold renF
  split
  · exact (h.out k).place _
  · exact h
theorem srtF.kept {L : List FileM} (h : srtF L) (k : Nat) : srtF (setKept L k) := by
  unfold setKept
  split
  · rename_i f hf
    exact h.set hf rfl
  · exact h
theorem srtF.crash {L : List FileM} (h : srtF L) (ps : List Int) : srtF (crF ps L) := by
  refine h.names ?_
  unfold crF
  apply List.ext_getElem?
  intro i
  simp only [List.getElem?_map, List.getElem?_mapIdx]
  cases L[i]? <;> rfl
/-- Is a file known, told by where it stands. -/
theorem know_at {D : Dk} {nm : ByteArray} (h : srtF D.L) : D.know nm = if D.o = true then 10 else if atL nm D.L 0 < 0 then 8 else 0 := by
  have hr := (findF_range nm D.L 0).1
  unfold Dk.know knE findX
  rw [rowF_cells, at_find h]
  cases D.o <;> cases hf : (findF nm D.L 0).2 <;> simp <;> omega
theorem at_is {D : Dk} {nm : ByteArray} (h : srtF D.L) (h0 : ¬ atL nm D.L 0 < 0) : ∃ (k : Nat) (f : FileM), atL nm D.L 0 = (k : Int) ∧ k = D.at nm ∧ D.L[k]? = some f ∧ k < D.L.length ∧ f.name = nm := by
  rw [at_find h] at h0 ⊢
  cases hf : (findF nm D.L 0).2 with
  | true =>
    obtain ⟨f, h4, h5⟩ := Dk.at_get (D := D) hf
    have hr := (findF_range nm D.L 0).1
    refine ⟨D.at nm, f, ?_, rfl, h4, (List.getElem?_eq_some_iff.1 h4).1, h5⟩
    rw [if_pos rfl]
    unfold Dk.at
    omega
  | false =>
    rw [hf, if_neg (by decide)] at h0
    exact absurd (by decide) h0
end Go.Proofs.Ytmjmbfcfnhnpmaa
namespace Go.Proofs.Ytmjmbfcfnhnpmaa
open Go.RowKit
set_option linter.all false
set_option maxHeartbeats 4000000
theorem fz_cells (b v sz : Nat) (xs : List (List PD)) (L : List FileM) : fzL b v sz xs (cellsF L) = cellsF L := by
  rw [fzL_eq, cellsF, rowsD, List.map_map]
  rfl
theorem splice_map {β : Type} (f : DV → DV) (cs : List DV) (j : Nat) (ds : List DV) (h : cs.map f = cs) : (splice cs j ds).map f = splice cs j (ds.map f) := by
  unfold splice
  rw [List.map_append, List.map_append, List.map_take, List.map_drop, h, List.length_map]
/-- A file's bytes, stored as a row of one's own, told as settled ones. -/
theorem ret_data {k : Nat} (hk : k ≤ 2) (hk1 : keep2B k [0, 1] 3 = true) (hlp : ∀ st : Store, laterP st [0, 1] k) {R : DV → Store → Prop} {d : DV} {q l : Int} {o : Bool} {v m w n i : Nat} {L : List FileM} {f : FileM} {bs : List DV} {xs : List (List PD)} (hi : L[i]? = some f) (hbs : bs = rowsD xs) (hxs : ∀ x ∈ xs, x.length = 1) (hn : n = xs.length) (hd1 : ∀ b ver, fzD b ver 1 xs d = d) (hd2 : pullD [0, 1] d = d)
    (h : R d [rB q (.view 3 1 v 0 m) o false l, gB (cellsF (L.set i ⟨f.name, xs, f.kept⟩)) v]) :
    RetW k R d [rB q (.view 3 1 v 0 m) o false l, gB (splice (cellsF L) (i * 3 + 1) [.view 1 2 w 0 n]) v, ⟨5, bs, true, w, true⟩] := by
  subst hbs hn
  refine ret_freeze 2 1 xs _ rfl rfl hk rfl hxs ?_
  have hc : ∀ ver, fzL 2 ver 1 xs (splice (cellsF L) (i * 3 + 1) [.view 1 2 ver 0 xs.length]) = cellsF (L.set i ⟨f.name, xs, f.kept⟩) := by
    intro ver
    rw [fzL_eq, splice_map (β := Nat) _ _ _ _ (by rw [← fzL_eq]; exact fz_cells 2 ver 1 xs L), ← set_data L i f hi xs]
    simp [fzD]
  have hp : ∀ κ, pullL κ (cellsF (L.set i ⟨f.name, xs, f.kept⟩)) = cellsF (L.set i ⟨f.name, xs, f.kept⟩) := fun κ => by rw [pullL_eq]; exact pull_rows κ _
  rw [hd1]
  refine ret_keep2 [0, 1] hk1 (hlp _) ?_
  rw [hd2]
  refine RetW.refl ?_
  have e : keepSt [0, 1] (fzSt 2 1 xs [rB q (.view 3 1 v 0 m) o false l, gB (splice (cellsF L) (i * 3 + 1) [.view 1 2 w 0 xs.length]) v, ⟨5, rowsD xs, true, w, true⟩]) = [rB q (.view 3 1 v 0 m) o false l, gB (cellsF (L.set i ⟨f.name, xs, f.kept⟩)) v] := by
    simp [keepSt, fzSt, fzBox, fzL, fzD, pullBox, pullL, pullD, hc, hp]
    rfl
  rw [e]
  exact h
theorem app_off {D : Dk} {n : ByteArray} {p : List (List PD)} (h : D.o = true) : D.app n p = (10, D) := by unfold Dk.app; rw [if_pos h]
theorem app_path {D : Dk} {n : ByteArray} {p : List (List PD)} (h : D.o = false) (h1 : mayF n = false) : D.app n p = (11, D) := by unfold Dk.app; rw [if_neg (by rw [h]; decide), if_pos h1]
theorem app_full {D : Dk} {n : ByteArray} {p : List (List PD)} (h : D.o = false) (h1 : mayF n = true) (h2 : D.q < totF D.L + p.length) : D.app n p = (7, D) := by unfold Dk.app; rw [if_neg (by rw [h]; decide), if_neg (by rw [h1]; decide), if_pos (by omega)]
theorem app_pow {D : Dk} {n : ByteArray} {p : List (List PD)} (h : D.o = false) (h1 : mayF n = true) (h2 : ¬ D.q < totF D.L + p.length) (h3 : ¬ powE D.a D.l = 0) : D.app n p = (10, ⟨D.q, D.L, powO D.o D.a D.l, D.a, powL D.a D.l⟩) := by
  unfold Dk.app; rw [if_neg (by rw [h]; decide), if_neg (by rw [h1]; decide), if_neg (by omega), if_neg h3, powE_no h3]
theorem app_do {D : Dk} {n : ByteArray} {p : List (List PD)} (h : D.o = false) (h1 : mayF n = true) (h2 : ¬ D.q < totF D.L + p.length) (h3 : powE D.a D.l = 0) : D.app n p = (0, ⟨D.q, addF D.L n p, powO D.o D.a D.l, D.a, powL D.a D.l⟩) := by
  unfold Dk.app; rw [if_neg (by rw [h]; decide), if_neg (by rw [h1]; decide), if_neg (by omega), if_pos h3]
theorem rk_n {D : Dk} {o : Bool} {l : Int} {res : DV} (h0 : D.L = []) (ho : o = D.o) (hl : l = rlf D.a D.l) : rkR none D res res (rS D.q none o false l) := ⟨none, .inl ⟨rfl, .inl rfl⟩, Nat.zero_le _, h0, rfl, by subst ho hl; rfl⟩
theorem rk_ns {D : Dk} {o : Bool} {l : Int} {res : DV} {v m : Nat} {cs : List DV} (h0 : D.L ≠ []) (hv : v ≤ 9) (hcs : cs = cellsF D.L) (hm : m = D.L.length) (ho : o = D.o) (hl : l = rlf D.a D.l) : rkR none D res res (rS D.q (some (v, m, cs)) o false l) := ⟨some (v, m, cs), .inl ⟨rfl, .inr h0⟩, by show v ≤ 0 + 9; omega, ⟨hcs, hm⟩, rfl, by subst ho hl; rfl⟩
theorem rk_s {D : Dk} {o : Bool} {l : Int} {res : DV} {v m v' m' : Nat} {cs cs' : List DV} (hv : v' ≤ v + 9) (hcs : cs' = cellsF D.L) (hm : m' = D.L.length) (ho : o = D.o) (hl : l = rlf D.a D.l) : rkR (some (v, m, cs)) D res res (rS D.q (some (v', m', cs')) o false l) := ⟨some (v', m', cs'), .inr ⟨by simp, by simp⟩, hv, ⟨hcs, hm⟩, rfl, by subst ho hl; rfl⟩
theorem plc_facts {nm : ByteArray} {L : List FileM} {q : Int} {o a : Bool} {lf : Int} (hD : okD 900 ⟨q, L, o, a, lf⟩) : ∃ (k : Nat) (f : FileM), (findF nm L 0).1 = (k : Int) ∧ (plcL nm L)[k]? = some f ∧ k < (plcL nm L).length ∧ (plcL nm L).length ≤ 901 ∧ (cellsF (plcL nm L))[k * 3 + 1]? = some (.d (.slc 1 f.data)) ∧ (cellsF (plcL nm L))[k * 3 + 2]? = some (.d (.sc (.int .i64 f.kept))) ∧ isB f.data ∧
    (∀ p, addF L nm p = (plcL nm L).set k ⟨f.name, f.data ++ p, f.kept⟩) ∧ (∀ d j, placeF L ⟨nm, d, j⟩ = (plcL nm L).set k ⟨f.name, d, j⟩) ∧ (cellsF (plcL nm L)).length = (plcL nm L).length * 3 := by
  obtain ⟨f, h1, h2, h3, h4, h5, h6⟩ := plc_get nm L
  have hr := (findF_range nm L 0).1
  obtain ⟨k, hk⟩ : ∃ k : Nat, (findF nm L 0).1 = (k : Int) := ⟨(findF nm L 0).1.toNat, by omega⟩
  rw [hk, Int.toNat_natCast] at h1 h3 h4 h5
  obtain ⟨g0, g1, g2, g3, g4⟩ := file_cell rfl k h3
  rw [(List.getElem?_eq_some_iff.1 h1).2] at g1 g2
  refine ⟨k, f, hk, h1, h3, ?_, g1, g2, ?_, h4, h5, cellsF_len _⟩
  · have := hD.len
    have hL : L.length ≤ 900 := this
    unfold plcL
    split
    · omega
    · simp only [List.length_append, List.length_take, List.length_drop, List.length_cons, List.length_nil]
      omega
  · rcases h6 with h6 | h6
    · exact (hD.fs f h6).1
    · rw [h6]; exact ⟨[], rfl, by simp⟩
theorem app_sz {x y : List (List PD)} (h : isB x) (g : isB y) : ∀ r ∈ x ++ y, r.length = 1 := fun r hr => by
  rcases List.mem_append.1 hr with h1 | h1
  · exact h.sz r h1
  · exact g.sz r h1
set_option maxRecDepth 100000 in
theorem w_rapp (q : Int) (fr : Fr) (o a : Bool) (lf l : Int) (L : List FileM) (name : ByteArray) (p : List (List PD)) (hfr : fr.is L) (hD : okD 900 ⟨q, L, o, a, lf⟩) (hs : srtF L) (hl : l = rlf a lf) (hn : name.size ≤ 1048576) (hp : isB p) : FnD Try.prog 37 [.ref 0 0 0, .d (.sc (.string name)), .d (.slc 1 p)] (rS q fr o a l) (fun r st' => rkR fr ((Dk.mk q L o a lf).app name p).2 (.d (.sc (.int .i64 ((Dk.mk q L o a lf).app name p).1))) r st') := by
  rcases fr with _ | ⟨v, m, cs⟩
  · have hl0 : L = [] := hfr
    have hlk := rlf_ok (a := a) hD.l
    rw [← hl] at hlk
    have hpl := hp.len
    have htot : totF L ≤ 1048576 := by have := hD.tot; have := hD.q; simp only at *; omega
    have htn := totF_nonneg L
    obtain ⟨k, f, k1, k2, k3, k4, k5, k6, k7, k8, k9, k10⟩ := plc_facts (nm := name) hD
    have hfd := k7.len
    have hrd : (rowsD f.data).length = f.data.length * 1 := rowsD_len k7.sz
    have hD1 : 0 ≤ lf := hD.l.1
    have hpw := rpB_eq (a := a) hD1
    rw [← hl] at hpw
    have hpo := rpO_eq (o := o) (a := a) hD1
    rw [← hl] at hpo
    have hpL := rpL_eq (a := a) hD1
    rw [← hl] at hpL
    have hw : IntKind.wrap .i64 (0 + (p.length : Int)) = totF L + p.length := by
      rw [hl0]
      exact wrap_i64 (by unfold r64; omega)
    have hq1 : oneC name = cellsF (plcL name L) := by rw [hl0]; rfl
    have hq2 : k = 0 := by rw [hl0] at k1; simpa [findF] using k1.symm
    have hq3 : (plcL name L).length = 1 := by rw [hl0]; rfl
    obtain ⟨GFsRn, hFsRn⟩ : ∃ F, F = FsRn0 := ⟨_, rfl⟩
    obtain ⟨GFsRd, hFsRd⟩ : ∃ F, F = FsRd0 := ⟨_, rfl⟩
    have hH : SoundK Try.prog [kn_rname GFsRn] := by subst hFsRn hFsRd; exact orK_ok ok_rname noK_ok
    have hB : SoundB Try.prog [kb_rtot GFsRd, kb_rpow GFsRd, kb_rplace GFsRd] := by subst hFsRn hFsRd; exact orB_ok okb_rtot (orB_ok okb_rpow (orB_ok okb_rplace noB_ok))
    refine FnD_cbv (T := fun _ => tabY [46, 47, 52, 53] [5, 10]) (H := fun _ => [kn_rname GFsRn]) (tabY_ok _ _) hH follows_mixed Try.func37 rfl Try.ntmps37 (by simp) fun A X W hA hX hW => ?_
    cbv
    repeat' first
      | (refine part (fun h => ?_) (fun h => ?_) <;> try cbv)
      | ((with_reducible refine regionB (id := 5) [46] (T := fun _ => tabY [46, 47, 52, 53] []) (H := fun _ => [kn_rname GFsRn]) (B := fun _ => [kb_rtot GFsRd, kb_rpow GFsRd, kb_rplace GFsRd]) (A := A) (tabY_ok _ _) hH hB follows_mixed hA hX (by kernel_rfl) (by kernel_rfl) ?_) <;> cbv)
      | ((with_reducible refine regionU (id := 10) [] [] [50, 50, 50, 3, 50, 50, 50, 50, 50, 1, 50, 1, 1, 1, 50, 50, 50, 3, 3] (T := fun _ => tabY [46, 47, 52, 53] []) (H := fun _ => [kn_rname GFsRn]) (B := fun _ => []) (R := fun _ => []) (A := A) (tabY_ok _ _) hH noB_ok noR_ok follows_mixed hA hX (by kernel_rfl) (by kernel_rfl) (by kernel_rfl) (by kernel_rfl) (by kernel_rfl) ?_) <;> cbv)
      | (refine And.intro ?_ ?_)
      | ((with_reducible refine callB hX hB ?_) <;> cbv)
    all_goals subst hA hX hW hFsRn hFsRd
    all_goals clear hH hB
    all_goals try simp only [A0, nc, FsRn0, FsRd0, Nat.zero_add, Nat.add_zero, List.nil_append, List.drop_zero] at *
    all_goals try rw [hw] at *
    all_goals try simp only [hpw, hpo, hpL] at *
    all_goals have z0 : Int.toNat 0 = k := by rw [hq2]; rfl
    all_goals try simp only [hq1, z0, k5]
    all_goals first
      | exact rfl
      | exact hn
      | exact hlk
      | exact hisF
      | exact ⟨by decide, by decide⟩
      | exact one_at k5
      | exact hrd
      | exact ⟨by omega, by omega⟩
      | omega
      | (have h0 : o = true := by assumption
         rw [app_off (D := ⟨q, L, o, a, lf⟩) h0]
         exact RetW.refl (rk_n hl0 rfl hl))
      | (have h0 : o = false := by assumption
         have h1 : mayF name = false := by simpa using (show (!mayF name) = true by assumption)
         rw [app_path (D := ⟨q, L, o, a, lf⟩) h0 h1]
         exact RetW.refl (rk_n hl0 rfl hl))
      | (have h0 : o = false := by assumption
         have h1 : mayF name = true := by simpa using (show (!mayF name) = false by assumption)
         have h2 : q < totF L + p.length := by simpa using (show decide (q < totF L + p.length) = true by assumption)
         rw [app_full (D := ⟨q, L, o, a, lf⟩) h0 h1 h2]
         exact RetW.refl (rk_n hl0 rfl hl))
      | (have h0 : o = false := by assumption
         have h1 : mayF name = true := by simpa using (show (!mayF name) = false by assumption)
         have h2 : ¬ q < totF L + p.length := by simpa using (show decide (q < totF L + p.length) = false by assumption)
         first
           | (have h3 : ¬ powE a lf = 0 := by simpa using (show (!decide (powE a lf = 0)) = true by assumption)
              rw [app_pow (D := ⟨q, L, o, a, lf⟩) h0 h1 h2 h3]
              exact RetW.refl (rk_n hl0 rfl rfl))
           | (have h3 : powE a lf = 0 := by simpa using (show (!decide (powE a lf = 0)) = false by assumption)
              rw [app_do (D := ⟨q, L, o, a, lf⟩) h0 h1 h2 h3, k8]
              refine ret_data (k := 1) (by decide) rfl (fun _ => ⟨trivial, .inl rfl⟩) k2 (rowsD_append _ _).symm (app_sz k7 hp) (by rw [List.length_append]) (fun _ _ => rfl) rfl ?_
              exact rk_ns (by simp only [ne_eq, List.set_eq_nil_iff]; intro e; rw [e] at k3; exact absurd k3 (Nat.not_lt_zero _)) (by decide) rfl (by simp only [List.length_set]; omega) rfl rfl)
           | fail)
      | fail
  · obtain ⟨hcs, hm⟩ := hfr
    have hisF : isF cs m := by rw [hcs, hm]; exact isF.mk (hD.okL (by decide))
    have hrow : rowF cs = L := by rw [hcs]; exact rowF_cells L
    have hpull : ∀ κ, pullL κ cs = cs := fun κ => by rw [hcs, pullL_eq]; exact pull_rows κ _
    have hlc : cs.length = m * 3 := by rw [hcs, cellsF_len, hm]
    have hlk := rlf_ok (a := a) hD.l
    rw [← hl] at hlk
    have hpl := hp.len
    have htot : totF L ≤ 1048576 := by have := hD.tot; have := hD.q; simp only at *; omega
    have htn := totF_nonneg L
    obtain ⟨k, f, k1, k2, k3, k4, k5, k6, k7, k8, k9, k10⟩ := plc_facts (nm := name) hD
    have hfd := k7.len
    have hrd : (rowsD f.data).length = f.data.length * 1 := rowsD_len k7.sz
    have hD1 : 0 ≤ lf := hD.l.1
    have hpw := rpB_eq (a := a) hD1
    rw [← hl] at hpw
    have hpo := rpO_eq (o := o) (a := a) hD1
    rw [← hl] at hpo
    have hpL := rpL_eq (a := a) hD1
    rw [← hl] at hpL
    have hw : IntKind.wrap .i64 (totX cs + (p.length : Int)) = totF L + p.length := by
      rw [totX, hrow]
      exact wrap_i64 (by unfold r64; omega)
    have hqI : plcI cs name = (k : Int) := by rw [plcI, hrow, k1]
    have hqM : plcM cs name = (plcL name L).length := by rw [plcM, hrow]
    have hqC : plcC cs name = cellsF (plcL name L) := by rw [plcC, hrow]
    have hqW : plcW cs name v ≤ v + 4 := by rw [plcW]; unfold plcV; split <;> omega
    obtain ⟨GFsRn, hFsRn⟩ : ∃ F, F = FsRn0 := ⟨_, rfl⟩
    obtain ⟨GFsRd, hFsRd⟩ : ∃ F, F = FsRd0 := ⟨_, rfl⟩
    have hH : SoundK Try.prog [kn_rname GFsRn] := by subst hFsRn hFsRd; exact orK_ok ok_rname noK_ok
    have hB : SoundB Try.prog [kb_rtot GFsRd, kb_rpow GFsRd, kb_rplace GFsRd] := by subst hFsRn hFsRd; exact orB_ok okb_rtot (orB_ok okb_rpow (orB_ok okb_rplace noB_ok))
    refine FnD_cbv (T := fun _ => tabY [46, 47, 52, 53] [5, 10]) (H := fun _ => [kn_rname GFsRn]) (tabY_ok _ _) hH follows_mixed Try.func37 rfl Try.ntmps37 (by simp) fun A X W hA hX hW => ?_
    cbv
    repeat' first
      | (refine part (fun h => ?_) (fun h => ?_) <;> try cbv)
      | ((with_reducible refine regionB (id := 5) [46] (T := fun _ => tabY [46, 47, 52, 53] []) (H := fun _ => [kn_rname GFsRn]) (B := fun _ => [kb_rtot GFsRd, kb_rpow GFsRd, kb_rplace GFsRd]) (A := A) (tabY_ok _ _) hH hB follows_mixed hA hX (by kernel_rfl) (by kernel_rfl) ?_) <;> cbv)
      | ((with_reducible refine regionU (id := 10) [] [] [50, 50, 50, 3, 50, 50, 50, 50, 50, 1, 50, 1, 1, 1, 50, 50, 50, 3, 3] (T := fun _ => tabY [46, 47, 52, 53] []) (H := fun _ => [kn_rname GFsRn]) (B := fun _ => []) (R := fun _ => []) (A := A) (tabY_ok _ _) hH noB_ok noR_ok follows_mixed hA hX (by kernel_rfl) (by kernel_rfl) (by kernel_rfl) (by kernel_rfl) (by kernel_rfl) ?_) <;> cbv)
      | (refine And.intro ?_ ?_)
      | ((with_reducible refine callB hX hB ?_) <;> cbv)
    all_goals subst hA hX hW hFsRn hFsRd
    all_goals clear hH hB
    all_goals try simp only [A0, nc, FsRn0, FsRd0, Nat.zero_add, Nat.add_zero, List.nil_append, List.drop_zero] at *
    all_goals try rw [hw] at *
    all_goals try simp only [hpw, hpo, hpL] at *
    all_goals try simp only [hqI, hqM, hqC, Int.toNat_natCast, k5]
    all_goals first
      | exact rfl
      | exact hn
      | exact hlk
      | exact hisF
      | exact ⟨by decide, by decide⟩
      | exact one_at k5
      | exact hrd
      | exact ⟨by omega, by omega⟩
      | omega
      | (have h0 : o = true := by assumption
         rw [app_off (D := ⟨q, L, o, a, lf⟩) h0]
         exact RetW.refl (rk_s (by omega) hcs hm rfl hl))
      | (have h0 : o = false := by assumption
         have h1 : mayF name = false := by simpa using (show (!mayF name) = true by assumption)
         rw [app_path (D := ⟨q, L, o, a, lf⟩) h0 h1]
         exact RetW.refl (rk_s (by omega) hcs hm rfl hl))
      | (have h0 : o = false := by assumption
         have h1 : mayF name = true := by simpa using (show (!mayF name) = false by assumption)
         have h2 : q < totF L + p.length := by simpa using (show decide (q < totF L + p.length) = true by assumption)
         rw [app_full (D := ⟨q, L, o, a, lf⟩) h0 h1 h2]
         exact RetW.refl (rk_s (by omega) hcs hm rfl hl))
      | (have h0 : o = false := by assumption
         have h1 : mayF name = true := by simpa using (show (!mayF name) = false by assumption)
         have h2 : ¬ q < totF L + p.length := by simpa using (show decide (q < totF L + p.length) = false by assumption)
         first
           | (have h3 : ¬ powE a lf = 0 := by simpa using (show (!decide (powE a lf = 0)) = true by assumption)
              rw [app_pow (D := ⟨q, L, o, a, lf⟩) h0 h1 h2 h3]
              exact RetW.refl (rk_s (by omega) hcs hm rfl rfl))
           | (have h3 : powE a lf = 0 := by simpa using (show (!decide (powE a lf = 0)) = false by assumption)
              rw [app_do (D := ⟨q, L, o, a, lf⟩) h0 h1 h2 h3, k8]
              refine ret_data (k := 2) (by decide) rfl (fun _ => ⟨⟨trivial, .inl rfl⟩, .inl rfl⟩) k2 (rowsD_append _ _).symm (app_sz k7 hp) (by rw [List.length_append]) (fun _ _ => rfl) rfl ?_
              exact rk_s (by omega) rfl (by simp only [List.length_set]) rfl rfl)
           | fail)
      | fail
end Go.Proofs.Ytmjmbfcfnhnpmaa
namespace Go.Proofs.Ytmjmbfcfnhnpmaa
open Go.RowKit
set_option linter.all false
set_option maxHeartbeats 4000000
theorem kn_off {D : Dk} {nm : ByteArray} {x : Int × Dk} (h : D.o = true) : (if D.know nm = 0 then x else (D.know nm, D)) = (10, D) := by
  have e : D.know nm = 10 := by unfold Dk.know knE; rw [h]; rfl
  rw [e, if_neg (by decide)]
theorem kn_none {D : Dk} {nm : ByteArray} {x : Int × Dk} (hs : srtF D.L) (h : D.o = false) (h1 : atL nm D.L 0 < 0) : (if D.know nm = 0 then x else (D.know nm, D)) = (8, D) := by
  have e : D.know nm = 8 := by rw [know_at hs, if_neg (by rw [h]; decide), if_pos h1]
  rw [e, if_neg (by decide)]
theorem kn_ok {D : Dk} {nm : ByteArray} {x : Int × Dk} (hs : srtF D.L) (h : D.o = false) (h1 : ¬ atL nm D.L 0 < 0) : (if D.know nm = 0 then x else (D.know nm, D)) = x := by
  have e : D.know nm = 0 := by rw [know_at hs, if_neg (by rw [h]; decide), if_neg h1]
  rw [e, if_pos rfl]
theorem pw_no {a : Bool} {l : Int} {x : Int × Dk} {P : Dk} (h : ¬ powE a l = 0) : (if powE a l = 0 then x else (powE a l, P)) = (10, P) := by rw [if_neg h, powE_no h]
theorem pw_ok {a : Bool} {l : Int} {x y : Int × Dk} (h : powE a l = 0) : (if powE a l = 0 then x else y) = x := if_pos h
theorem at_facts {name : ByteArray} {L : List FileM} {cs : List DV} (hs : srtF L) (hcs : cs = cellsF L) : ∃ (k : Nat) (f : FileM), ¬ atL name L 0 < 0 → atL name L 0 = (k : Int) ∧ (findF name L 0).1.toNat = k ∧ L[k]? = some f ∧ k < L.length ∧ f.name = name ∧ cs[k * 3 + 1]? = some (.d (.slc 1 f.data)) ∧ cs[k * 3 + 2]? = some (.d (.sc (.int .i64 f.kept))) ∧ k * 3 + 3 ≤ cs.length := by
  by_cases h0 : atL name L 0 < 0
  · exact ⟨0, ⟨name, [], 0⟩, fun h => absurd h0 h⟩
  · obtain ⟨k, f, e1, e2, e3, e4, e5⟩ := at_is (D := ⟨0, L, false, false, 0⟩) hs h0
    obtain ⟨g0, g1, g2, g3, g4⟩ := file_cell hcs k e4
    have ef : L[k] = f := (List.getElem?_eq_some_iff.1 e3).2
    rw [ef] at g1 g2
    exact ⟨k, f, fun _ => ⟨e1, e2.symm, e3, e4, e5, g1, g2, g4⟩⟩
set_option maxRecDepth 100000 in
theorem w_rsync (q : Int) (fr : Fr) (o a : Bool) (lf l : Int) (L : List FileM) (name : ByteArray)  (hfr : fr.is L) (hD : okD 900 ⟨q, L, o, a, lf⟩) (hs : srtF L) (hl : l = rlf a lf) : FnD Try.prog 38 [.ref 0 0 0, .d (.sc (.string name))] (rS q fr o a l) (fun r st' => rkR fr ((Dk.mk q L o a lf).sync name).2 (.d (.sc (.int .i64 ((Dk.mk q L o a lf).sync name).1))) r st') := by
  rcases fr with _ | ⟨v, m, cs⟩
  · have hl0 : L = [] := hfr
    have hlk := rlf_ok (a := a) hD.l
    rw [← hl] at hlk
    have htot : totF L ≤ 1048576 := by have := hD.tot; have := hD.q; simp only at *; omega
    have htn := totF_nonneg L
    have hLl : L.length ≤ 900 := hD.len
    have hfs := hD.fs
    have hD1 : 0 ≤ lf := hD.l.1
    have hpw := rpB_eq (a := a) hD1
    rw [← hl] at hpw
    have hpo := rpO_eq (o := o) (a := a) hD1
    rw [← hl] at hpo
    have hpL := rpL_eq (a := a) hD1
    rw [← hl] at hpL
    have hat : atL name L 0 = -1 := by rw [hl0]; rfl
    obtain ⟨GFsRd, hFsRd⟩ : ∃ F, F = FsRd0 := ⟨_, rfl⟩
    have hH : SoundK Try.prog [] := by subst hFsRd; exact noK_ok
    have hB : SoundB Try.prog [kb_rat GFsRd, kb_rpow GFsRd] := by subst hFsRd; exact orB_ok okb_rat (orB_ok okb_rpow noB_ok)
    refine FnD_cbv (T := fun _ => tabY [31, 32, 35, 36] [8]) (H := fun _ => []) (tabY_ok _ _) hH follows_mixed Try.func38 rfl Try.ntmps38 (by simp) fun A X W hA hX hW => ?_
    cbv
    repeat' first
      | (refine part (fun h => ?_) (fun h => ?_) <;> try cbv)
      | ((with_reducible refine regionZ (id := 8) (T := fun _ => tabY [31, 32, 35, 36] []) (H := fun _ => []) (A := A) (tabY_ok _ _) hH follows_mixed hA hX (by kernel_rfl) ?_) <;> cbv)
      | (refine And.intro ?_ ?_)
      | ((with_reducible refine callB hX hB ?_) <;> cbv)
    all_goals subst hA hX hW hFsRd
    all_goals clear hH hB
    all_goals try simp only [A0, nc, FsRd0, Nat.zero_add, Nat.add_zero, List.nil_append, List.drop_zero] at *
    all_goals try simp only [hpw, hpo, hpL, hat] at *
    all_goals first
      | exact rfl
      | exact trivial
      | exact hlk
      | exact hisF
      | assumption
      | (exfalso
         have h9 : decide ((-1 : Int) < 0) = false := by assumption
         exact absurd h9 (by decide))
      | (have h0 : o = true := by assumption
         rw [show (Dk.mk q L o a lf).sync name = (10, ⟨q, L, o, a, lf⟩) from by unfold Dk.sync; exact kn_off h0]
         exact RetW.refl (rk_n hl0 rfl hl))
      | (have h0 : o = false := by assumption
         have h1 : atL name L 0 < 0 := by rw [hl0]; exact (by decide : (-1 : Int) < 0)
         rw [show (Dk.mk q L o a lf).sync name = (8, ⟨q, L, o, a, lf⟩) from by unfold Dk.sync;  exact kn_none hs h0 h1]
         exact RetW.refl (rk_n hl0 rfl hl))
      | (have h0 : o = false := by assumption
         have h1 : ¬ atL name L 0 < 0 := of_decide_eq_false (by assumption)
         have h3 : ¬ powE a lf = 0 := by simpa using (show (!decide (powE a lf = 0)) = true by assumption)
         rw [show (Dk.mk q L o a lf).sync name = (10, ⟨q, L, powO o a lf, a, powL a lf⟩) from by unfold Dk.sync;  rw [kn_ok hs h0 h1]; exact pw_no h3]
         exact RetW.refl (rk_n hl0 rfl rfl))
      | fail
  · obtain ⟨hcs, hm⟩ := hfr
    have hisF : isF cs m := by rw [hcs, hm]; exact isF.mk (hD.okL (by decide))
    have hrow : rowF cs = L := by rw [hcs]; exact rowF_cells L
    have hpull : ∀ κ, pullL κ cs = cs := fun κ => by rw [hcs, pullL_eq]; exact pull_rows κ _
    have hlc : cs.length = m * 3 := by rw [hcs, cellsF_len, hm]
    have hlk := rlf_ok (a := a) hD.l
    rw [← hl] at hlk
    have htot : totF L ≤ 1048576 := by have := hD.tot; have := hD.q; simp only at *; omega
    have htn := totF_nonneg L
    have hLl : L.length ≤ 900 := hD.len
    have hfs := hD.fs
    have hD1 : 0 ≤ lf := hD.l.1
    have hpw := rpB_eq (a := a) hD1
    rw [← hl] at hpw
    have hpo := rpO_eq (o := o) (a := a) hD1
    rw [← hl] at hpo
    have hpL := rpL_eq (a := a) hD1
    rw [← hl] at hpL
    have hat : atX cs name = atL name L 0 := by rw [atX, hrow]
    obtain ⟨k, f, hk⟩ := at_facts (name := name) (L := L) hs hcs
    obtain ⟨GFsRd, hFsRd⟩ : ∃ F, F = FsRd0 := ⟨_, rfl⟩
    have hH : SoundK Try.prog [] := by subst hFsRd; exact noK_ok
    have hB : SoundB Try.prog [kb_rat GFsRd, kb_rpow GFsRd] := by subst hFsRd; exact orB_ok okb_rat (orB_ok okb_rpow noB_ok)
    refine FnD_cbv (T := fun _ => tabY [31, 32, 35, 36] [8]) (H := fun _ => []) (tabY_ok _ _) hH follows_mixed Try.func38 rfl Try.ntmps38 (by simp) fun A X W hA hX hW => ?_
    cbv
    repeat' first
      | (refine part (fun h => ?_) (fun h => ?_) <;> try cbv)
      | ((with_reducible refine regionZ (id := 8) (T := fun _ => tabY [31, 32, 35, 36] []) (H := fun _ => []) (A := A) (tabY_ok _ _) hH follows_mixed hA hX (by kernel_rfl) ?_) <;> cbv)
      | (refine And.intro ?_ ?_)
      | ((with_reducible refine callB hX hB ?_) <;> cbv)
    all_goals subst hA hX hW hFsRd
    all_goals clear hH hB
    all_goals try simp only [A0, nc, FsRd0, Nat.zero_add, Nat.add_zero, List.nil_append, List.drop_zero] at *
    all_goals try simp only [hpw, hpo, hpL, hat] at *
    all_goals first
      | exact rfl
      | exact trivial
      | exact hlk
      | exact hisF
      | assumption
      | (have h0 : ¬ atL name L 0 < 0 := of_decide_eq_false (by assumption)
         obtain ⟨e1, e2, e3, e4, e5, e6, e7, e8⟩ := hk h0
         simp only [e1, Int.toNat_natCast, e6, e7]
         first
           | exact ⟨by omega, by omega⟩
           | exact one_at e6
           | exact one_at e7
           | omega
           | fail)
      | (have h0 : o = true := by assumption
         rw [show (Dk.mk q L o a lf).sync name = (10, ⟨q, L, o, a, lf⟩) from by unfold Dk.sync; exact kn_off h0]
         exact RetW.refl (rk_s (by omega) hcs hm rfl hl))
      | (have h0 : o = false := by assumption
         have h1 : atL name L 0 < 0 := of_decide_eq_true (by assumption)
         rw [show (Dk.mk q L o a lf).sync name = (8, ⟨q, L, o, a, lf⟩) from by unfold Dk.sync;  exact kn_none hs h0 h1]
         exact RetW.refl (rk_s (by omega) hcs hm rfl hl))
      | (have h0 : o = false := by assumption
         have h1 : ¬ atL name L 0 < 0 := of_decide_eq_false (by assumption)
         have h3 : ¬ powE a lf = 0 := by simpa using (show (!decide (powE a lf = 0)) = true by assumption)
         rw [show (Dk.mk q L o a lf).sync name = (10, ⟨q, L, powO o a lf, a, powL a lf⟩) from by unfold Dk.sync;  rw [kn_ok hs h0 h1]; exact pw_no h3]
         exact RetW.refl (rk_s (by omega) hcs hm rfl rfl))
      | (have h0 : o = false := by assumption
         have h1 : ¬ atL name L 0 < 0 := of_decide_eq_false (by assumption)
         have h3 : powE a lf = 0 := by simpa using (show (!decide (powE a lf = 0)) = false by assumption)
         obtain ⟨e1, e2, e3, e4, e5, e6, e7, e8⟩ := hk h1
         rw [show (Dk.mk q L o a lf).sync name = (0, ⟨q, setKept L k, powO o a lf, a, powL a lf⟩) from by unfold Dk.sync; rw [kn_ok hs h0 h1, pw_ok h3]; unfold Dk.at; simp only [e2]]
         rw [setKept_some e3]
         simp only [e1, Int.toNat_natCast, e6]
         rw [hcs, set_kept L k f e3]
         exact RetW.refl (rk_s (by omega) rfl (by simp only [List.length_set]; exact hm) rfl rfl))
      | fail
set_option maxRecDepth 100000 in
theorem w_rrem (q : Int) (fr : Fr) (o a : Bool) (lf l : Int) (L : List FileM) (name : ByteArray)  (hfr : fr.is L) (hD : okD 900 ⟨q, L, o, a, lf⟩) (hs : srtF L) (hl : l = rlf a lf) : FnD Try.prog 42 [.ref 0 0 0, .d (.sc (.string name))] (rS q fr o a l) (fun r st' => rkR fr ((Dk.mk q L o a lf).rem name).2 (.d (.sc (.int .i64 ((Dk.mk q L o a lf).rem name).1))) r st') := by
  rcases fr with _ | ⟨v, m, cs⟩
  · have hl0 : L = [] := hfr
    have hlk := rlf_ok (a := a) hD.l
    rw [← hl] at hlk
    have htot : totF L ≤ 1048576 := by have := hD.tot; have := hD.q; simp only at *; omega
    have htn := totF_nonneg L
    have hLl : L.length ≤ 900 := hD.len
    have hfs := hD.fs
    have hD1 : 0 ≤ lf := hD.l.1
    have hpw := rpB_eq (a := a) hD1
    rw [← hl] at hpw
    have hpo := rpO_eq (o := o) (a := a) hD1
    rw [← hl] at hpo
    have hpL := rpL_eq (a := a) hD1
    rw [← hl] at hpL
    have hat : atL name L 0 = -1 := by rw [hl0]; rfl
    obtain ⟨GFsRd, hFsRd⟩ : ∃ F, F = FsRd0 := ⟨_, rfl⟩
    have hH : SoundK Try.prog [] := by subst hFsRd; exact noK_ok
    have hB : SoundB Try.prog [kb_rat GFsRd, kb_rpow GFsRd, kb_rout GFsRd] := by subst hFsRd; exact orB_ok okb_rat (orB_ok okb_rpow (orB_ok okb_rout noB_ok))
    refine FnD_cbv (T := fun _ => tabY [] []) (H := fun _ => []) (tabY_ok _ _) hH follows_mixed Try.func42 rfl Try.ntmps42 (by simp) fun A X W hA hX hW => ?_
    cbv
    repeat' first
      | (refine part (fun h => ?_) (fun h => ?_) <;> try cbv)
      | (refine And.intro ?_ ?_)
      | ((with_reducible refine callB hX hB ?_) <;> cbv)
    all_goals subst hA hX hW hFsRd
    all_goals clear hH hB
    all_goals try simp only [A0, nc, FsRd0, Nat.zero_add, Nat.add_zero, List.nil_append, List.drop_zero] at *
    all_goals try simp only [hpw, hpo, hpL, hat] at *
    all_goals first
      | exact rfl
      | exact trivial
      | exact hlk
      | exact hisF
      | assumption
      | (exfalso
         have h9 : decide ((-1 : Int) < 0) = false := by assumption
         exact absurd h9 (by decide))
      | (have h0 : o = true := by assumption
         rw [show (Dk.mk q L o a lf).rem name = (10, ⟨q, L, o, a, lf⟩) from by unfold Dk.rem; exact kn_off h0]
         exact RetW.refl (rk_n hl0 rfl hl))
      | (have h0 : o = false := by assumption
         have h1 : atL name L 0 < 0 := by rw [hl0]; exact (by decide : (-1 : Int) < 0)
         rw [show (Dk.mk q L o a lf).rem name = (8, ⟨q, L, o, a, lf⟩) from by unfold Dk.rem;  exact kn_none hs h0 h1]
         exact RetW.refl (rk_n hl0 rfl hl))
      | (have h0 : o = false := by assumption
         have h1 : ¬ atL name L 0 < 0 := of_decide_eq_false (by assumption)
         have h3 : ¬ powE a lf = 0 := by simpa using (show (!decide (powE a lf = 0)) = true by assumption)
         rw [show (Dk.mk q L o a lf).rem name = (10, ⟨q, L, powO o a lf, a, powL a lf⟩) from by unfold Dk.rem;  rw [kn_ok hs h0 h1]; exact pw_no h3]
         exact RetW.refl (rk_n hl0 rfl rfl))
      | fail
  · obtain ⟨hcs, hm⟩ := hfr
    have hisF : isF cs m := by rw [hcs, hm]; exact isF.mk (hD.okL (by decide))
    have hrow : rowF cs = L := by rw [hcs]; exact rowF_cells L
    have hpull : ∀ κ, pullL κ cs = cs := fun κ => by rw [hcs, pullL_eq]; exact pull_rows κ _
    have hlc : cs.length = m * 3 := by rw [hcs, cellsF_len, hm]
    have hlk := rlf_ok (a := a) hD.l
    rw [← hl] at hlk
    have htot : totF L ≤ 1048576 := by have := hD.tot; have := hD.q; simp only at *; omega
    have htn := totF_nonneg L
    have hLl : L.length ≤ 900 := hD.len
    have hfs := hD.fs
    have hD1 : 0 ≤ lf := hD.l.1
    have hpw := rpB_eq (a := a) hD1
    rw [← hl] at hpw
    have hpo := rpO_eq (o := o) (a := a) hD1
    rw [← hl] at hpo
    have hpL := rpL_eq (a := a) hD1
    rw [← hl] at hpL
    have hat : atX cs name = atL name L 0 := by rw [atX, hrow]
    obtain ⟨k, f, hk⟩ := at_facts (name := name) (L := L) hs hcs
    obtain ⟨GFsRd, hFsRd⟩ : ∃ F, F = FsRd0 := ⟨_, rfl⟩
    have hH : SoundK Try.prog [] := by subst hFsRd; exact noK_ok
    have hB : SoundB Try.prog [kb_rat GFsRd, kb_rpow GFsRd, kb_rout GFsRd] := by subst hFsRd; exact orB_ok okb_rat (orB_ok okb_rpow (orB_ok okb_rout noB_ok))
    refine FnD_cbv (T := fun _ => tabY [] []) (H := fun _ => []) (tabY_ok _ _) hH follows_mixed Try.func42 rfl Try.ntmps42 (by simp) fun A X W hA hX hW => ?_
    cbv
    repeat' first
      | (refine part (fun h => ?_) (fun h => ?_) <;> try cbv)
      | (refine And.intro ?_ ?_)
      | ((with_reducible refine callB hX hB ?_) <;> cbv)
    all_goals subst hA hX hW hFsRd
    all_goals clear hH hB
    all_goals try simp only [A0, nc, FsRd0, Nat.zero_add, Nat.add_zero, List.nil_append, List.drop_zero] at *
    all_goals try simp only [hpw, hpo, hpL, hat] at *
    all_goals first
      | exact rfl
      | exact trivial
      | exact hlk
      | exact hisF
      | assumption
      | (have h0 : ¬ atL name L 0 < 0 := of_decide_eq_false (by assumption)
         obtain ⟨e1, e2, e3, e4, e5, e6, e7, e8⟩ := hk h0
         simp only [e1, Int.toNat_natCast, e6, e7]
         first
           | exact ⟨by omega, by omega⟩
           | exact one_at e6
           | exact one_at e7
           | omega
           | fail)
      | (have h0 : o = true := by assumption
         rw [show (Dk.mk q L o a lf).rem name = (10, ⟨q, L, o, a, lf⟩) from by unfold Dk.rem; exact kn_off h0]
         exact RetW.refl (rk_s (by omega) hcs hm rfl hl))
      | (have h0 : o = false := by assumption
         have h1 : atL name L 0 < 0 := of_decide_eq_true (by assumption)
         rw [show (Dk.mk q L o a lf).rem name = (8, ⟨q, L, o, a, lf⟩) from by unfold Dk.rem;  exact kn_none hs h0 h1]
         exact RetW.refl (rk_s (by omega) hcs hm rfl hl))
      | (have h0 : o = false := by assumption
         have h1 : ¬ atL name L 0 < 0 := of_decide_eq_false (by assumption)
         have h3 : ¬ powE a lf = 0 := by simpa using (show (!decide (powE a lf = 0)) = true by assumption)
         rw [show (Dk.mk q L o a lf).rem name = (10, ⟨q, L, powO o a lf, a, powL a lf⟩) from by unfold Dk.rem;  rw [kn_ok hs h0 h1]; exact pw_no h3]
         exact RetW.refl (rk_s (by omega) hcs hm rfl rfl))
      | (have h0 : o = false := by assumption
         have h1 : ¬ atL name L 0 < 0 := of_decide_eq_false (by assumption)
         have h3 : powE a lf = 0 := by simpa using (show (!decide (powE a lf = 0)) = false by assumption)
         obtain ⟨e1, e2, e3, e4, e5, e6, e7, e8⟩ := hk h1
         rw [show (Dk.mk q L o a lf).rem name = (0, ⟨q, outFl L k, powO o a lf, a, powL a lf⟩) from by unfold Dk.rem; rw [kn_ok hs h0 h1, pw_ok h3]; unfold Dk.at; simp only [e2]]
         simp only [e1, outC, hrow, Int.toNat_natCast]
         refine RetW.refl (rk_s (by omega) rfl ?_ rfl rfl)
         simp only [outFl, List.length_append, List.length_take, List.length_drop]
         omega)
      | fail
end Go.Proofs.Ytmjmbfcfnhnpmaa
namespace Go.Proofs.Ytmjmbfcfnhnpmaa
open Go.RowKit
set_option linter.all false
set_option maxHeartbeats 4000000
def cutF (L : List FileM) (k : Nat) (n : Int) : List FileM := match L[k]? with
  | some f => L.set k ⟨f.name, f.data.take n.toNat, min f.kept n⟩
  | none => L
theorem cutF_some {L : List FileM} {k : Nat} {f : FileM} {n : Int} (h : L[k]? = some f) : cutF L k n = L.set k ⟨f.name, f.data.take n.toNat, min f.kept n⟩ := by unfold cutF; rw [h]
def Dk.cut (D : Dk) (name : ByteArray) (n : Int) : Int × Dk :=
  if D.know name = 0 then (if n < 0 ∨ ((readF D.L name).length : Int) < n then (1, D) else if powE D.a D.l = 0 then (0, ⟨D.q, cutF D.L (D.at name) n, powO D.o D.a D.l, D.a, powL D.a D.l⟩) else (powE D.a D.l, ⟨D.q, D.L, powO D.o D.a D.l, D.a, powL D.a D.l⟩)) else (D.know name, D)
theorem srtF.cut {L : List FileM} (h : srtF L) (k : Nat) (n : Int) : srtF (cutF L k n) := by
  unfold cutF
  split
  · rename_i f hf
    exact h.set hf rfl
  · exact h
theorem splice_set {cs : List DV} {a : Nat} {x : DV} (h : a < cs.length) : splice cs a [x] = cs.set a x := by
  unfold splice
  rw [List.set_eq_take_append_cons_drop, if_pos h]
  simp
theorem splc_get {cs : List DV} {a b : Nat} {x : DV} (h : a < cs.length) (hab : a ≠ b) : (splice cs a [x])[b]? = cs[b]? := by
  rw [splice_set h, List.getElem?_set_ne hab]
theorem splice_two {cs : List DV} {a b : Nat} {x y : DV} (ha : a < cs.length) (hb : b < cs.length) (hab : a ≠ b) : splice (splice cs a [x]) b [y] = splice (splice cs b [y]) a [x] := by
  rw [splice_set ha, splice_set hb, splice_set (by rw [List.length_set]; exact hb), splice_set (by rw [List.length_set]; exact ha), List.set_comm _ _ hab]
theorem splice_len {cs : List DV} {a : Nat} {x : DV} (ha : a < cs.length) : (splice cs a [x]).length = cs.length := by rw [splice_set ha, List.length_set]
set_option maxRecDepth 100000 in
theorem w_rcut (q : Int) (fr : Fr) (o a : Bool) (lf l : Int) (L : List FileM) (name : ByteArray) (n : Int) (hfr : fr.is L) (hD : okD 900 ⟨q, L, o, a, lf⟩) (hs : srtF L) (hl : l = rlf a lf) : FnD Try.prog 40 [.ref 0 0 0, .d (.sc (.string name)), .d (.sc (.int .i64 n))] (rS q fr o a l) (fun r st' => rkR fr ((Dk.mk q L o a lf).cut name n).2 (.d (.sc (.int .i64 ((Dk.mk q L o a lf).cut name n).1))) r st') := by
  rcases fr with _ | ⟨v, m, cs⟩
  · have hl0 : L = [] := hfr
    have hlk := rlf_ok (a := a) hD.l
    rw [← hl] at hlk
    have htot : totF L ≤ 1048576 := by have := hD.tot; have := hD.q; simp only at *; omega
    have htn := totF_nonneg L
    have hLl : L.length ≤ 900 := hD.len
    have hfs := hD.fs
    have hD1 : 0 ≤ lf := hD.l.1
    have hpw := rpB_eq (a := a) hD1
    rw [← hl] at hpw
    have hpo := rpO_eq (o := o) (a := a) hD1
    rw [← hl] at hpo
    have hpL := rpL_eq (a := a) hD1
    rw [← hl] at hpL
    have hat : atL name L 0 = -1 := by rw [hl0]; rfl
    obtain ⟨GFsRd, hFsRd⟩ : ∃ F, F = FsRd0 := ⟨_, rfl⟩
    have hH : SoundK Try.prog [] := by subst hFsRd; exact noK_ok
    have hB : SoundB Try.prog [kb_rat GFsRd, kb_rpow GFsRd] := by subst hFsRd; exact orB_ok okb_rat (orB_ok okb_rpow noB_ok)
    refine FnD_cbv (T := fun _ => tabY [29, 30, 50, 51, 56, 57, 68, 69, 73, 74] [10, 11]) (H := fun _ => []) (tabY_ok _ _) hH follows_mixed Try.func40 rfl Try.ntmps40 (by simp) fun A X W hA hX hW => ?_
    cbv
    repeat' first
      | (refine part (fun h => ?_) (fun h => ?_) <;> try cbv)
      | ((with_reducible refine regionU (id := 10) [] [] [50, 50, 50, 2, 50, 50, 50, 50, 50, 1, 50, 1, 1, 1, 50, 1, 50, 2, 2] (T := fun _ => tabY [29, 30, 50, 51, 56, 57, 68, 69, 73, 74] []) (H := fun _ => []) (B := fun _ => []) (R := fun _ => []) (A := A) (tabY_ok _ _) hH noB_ok noR_ok follows_mixed hA hX (by kernel_rfl) (by kernel_rfl) (by kernel_rfl) (by kernel_rfl) (by kernel_rfl) ?_) <;> cbv)
      | ((with_reducible refine regionZ (id := 11) (T := fun _ => tabY [29, 30, 50, 51, 56, 57, 68, 69, 73, 74] []) (H := fun _ => []) (A := A) (tabY_ok _ _) hH follows_mixed hA hX (by kernel_rfl) ?_) <;> cbv)
      | (refine And.intro ?_ ?_)
      | ((with_reducible refine callB hX hB ?_) <;> cbv)
    all_goals subst hA hX hW hFsRd
    all_goals clear hH hB
    all_goals try simp only [A0, nc, FsRd0, Nat.zero_add, Nat.add_zero, List.nil_append, List.drop_zero] at *
    all_goals try simp only [hpw, hpo, hpL, hat] at *
    all_goals first
      | exact rfl
      | exact trivial
      | exact hlk
      | exact hisF
      | assumption
      | (exfalso
         have h9 : decide ((-1 : Int) < 0) = false := by assumption
         exact absurd h9 (by decide))
      | (intro q; exact q)
      | (intro _; exact trivial)
      | (intro q; simpa using q)
      | (have h0 : o = false := by assumption
         have h1 : ¬ atL name L 0 < 0 := of_decide_eq_false (by assumption)
         obtain ⟨e1, e2, e3, e4, e5, e6, e7, e8⟩ := hk h1
         have hrf : readF L name = f.data := by unfold readF; rw [e2, e3]
         have hfb := (hfs f (List.mem_of_getElem? e3)).1
         have hfd := hfb.len
         have hj : k * 3 + 1 < cs.length := by omega
         have hj2 : k * 3 + 2 < cs.length := by omega
         have g9 : ∀ x, (splice cs (k * 3 + 1) [x])[k * 3 + 2]? = some (.d (.sc (.int .i64 f.kept))) := fun x => by rw [splc_get hj (by omega)]; exact e7
         have g8 : ∀ x, (splice cs (k * 3 + 1) [x]).length = cs.length := fun x => splice_len hj
         have has6 := one_at e6
         have hkn := fun x => kn_ok (x := x) (D := ⟨q, L, o, a, lf⟩) hs h0 h1
         clear hk
         simp only [e1, Int.toNat_natCast, e6] at *
         first
           | (intro _; exact has6)
           | (have hh : (bif decide (n < 0) then true else decide ((f.data.length : Int) < n)) = true := by assumption
              have ha : n < 0 ∨ (f.data.length : Int) < n := by
                by_cases h7 : n < 0
                · exact .inl h7
                · right; simpa [h7] using hh
              rw [show (Dk.mk q L o a lf).cut name n = (1, ⟨q, L, o, a, lf⟩) from by unfold Dk.cut; rw [hkn, hrf, if_pos ha]]
              exact RetW.refl (rk_n hl0 rfl hl))
           | (have hh : (bif decide (n < 0) then true else decide ((f.data.length : Int) < n)) = false := by assumption
              have ha : ¬ (n < 0 ∨ (f.data.length : Int) < n) := by
                by_cases h7 : n < 0
                · simp [h7] at hh
                · simp [h7] at hh
                  omega
              have ha1 : 0 ≤ n ∧ n ≤ (f.data.length : Int) := by omega
              have hz : Int.toNat 0 = 0 := rfl
              try simp only [hz, Nat.sub_zero, List.drop_zero, g9, g8, List.length_take]
              first
                | exact ⟨by omega, by omega, by omega⟩
                | exact ⟨by omega, by omega⟩
                | omega
                | exact ⟨rfl, by omega, (one_at (g9 _)).2.2⟩
                | (have h3 : ¬ powE a lf = 0 := by simpa using (show (!decide (powE a lf = 0)) = true by assumption)
                   rw [show (Dk.mk q L o a lf).cut name n = (10, ⟨q, L, powO o a lf, a, powL a lf⟩) from by unfold Dk.cut; rw [hkn, hrf, if_neg ha]; exact pw_no h3]
                   exact RetW.refl (rk_n hl0 rfl rfl))
                | (have h3 : powE a lf = 0 := by simpa using (show (!decide (powE a lf = 0)) = false by assumption)
                   rw [show (Dk.mk q L o a lf).cut name n = (0, ⟨q, cutF L k n, powO o a lf, a, powL a lf⟩) from by unfold Dk.cut; rw [hkn, hrf, if_neg ha, pw_ok h3]; unfold Dk.at; simp only [e2]]
                   rw [cutF_some e3, splice_two hj hj2 (by omega), hcs, set_kept L k f e3]
                   have e3' : (L.set k ⟨f.name, f.data, min f.kept n⟩)[k]? = some ⟨f.name, f.data, min f.kept n⟩ := by simp [e4]
                   refine ret_data (k := 2) (by decide) rfl (fun _ => ⟨⟨trivial, .inl rfl⟩, .inl rfl⟩) e3' rfl (fun x hx => hfb.sz x (List.mem_of_mem_take hx)) (by rw [List.length_take]) (fun _ _ => rfl) rfl ?_
                   refine rk_s (by omega) ?_ (by simp only [List.length_set]; exact hm) rfl rfl
                   simp only [List.set_set])
                | fail)
           | fail)
      | (have h0 : o = true := by assumption
         rw [show (Dk.mk q L o a lf).cut name n = (10, ⟨q, L, o, a, lf⟩) from by unfold Dk.cut; exact kn_off h0]
         exact RetW.refl (rk_n hl0 rfl hl))
      | (have h0 : o = false := by assumption
         have h1 : atL name L 0 < 0 := by rw [hl0]; exact (by decide : (-1 : Int) < 0)
         rw [show (Dk.mk q L o a lf).cut name n = (8, ⟨q, L, o, a, lf⟩) from by unfold Dk.cut;  exact kn_none hs h0 h1]
         exact RetW.refl (rk_n hl0 rfl hl))
      | (have h0 : o = false := by assumption
         have h1 : ¬ atL name L 0 < 0 := of_decide_eq_false (by assumption)
         have h3 : ¬ powE a lf = 0 := by simpa using (show (!decide (powE a lf = 0)) = true by assumption)
         rw [show (Dk.mk q L o a lf).cut name n = (10, ⟨q, L, powO o a lf, a, powL a lf⟩) from by unfold Dk.cut;  rw [kn_ok hs h0 h1]; exact pw_no h3]
         exact RetW.refl (rk_n hl0 rfl rfl))
      | fail
  · obtain ⟨hcs, hm⟩ := hfr
    have hisF : isF cs m := by rw [hcs, hm]; exact isF.mk (hD.okL (by decide))
    have hrow : rowF cs = L := by rw [hcs]; exact rowF_cells L
    have hpull : ∀ κ, pullL κ cs = cs := fun κ => by rw [hcs, pullL_eq]; exact pull_rows κ _
    have hlc : cs.length = m * 3 := by rw [hcs, cellsF_len, hm]
    have hlk := rlf_ok (a := a) hD.l
    rw [← hl] at hlk
    have htot : totF L ≤ 1048576 := by have := hD.tot; have := hD.q; simp only at *; omega
    have htn := totF_nonneg L
    have hLl : L.length ≤ 900 := hD.len
    have hfs := hD.fs
    have hD1 : 0 ≤ lf := hD.l.1
    have hpw := rpB_eq (a := a) hD1
    rw [← hl] at hpw
    have hpo := rpO_eq (o := o) (a := a) hD1
    rw [← hl] at hpo
    have hpL := rpL_eq (a := a) hD1
    rw [← hl] at hpL
    have hat : atX cs name = atL name L 0 := by rw [atX, hrow]
    obtain ⟨k, f, hk⟩ := at_facts (name := name) (L := L) hs hcs
    obtain ⟨GFsRd, hFsRd⟩ : ∃ F, F = FsRd0 := ⟨_, rfl⟩
    have hH : SoundK Try.prog [] := by subst hFsRd; exact noK_ok
    have hB : SoundB Try.prog [kb_rat GFsRd, kb_rpow GFsRd] := by subst hFsRd; exact orB_ok okb_rat (orB_ok okb_rpow noB_ok)
    refine FnD_cbv (T := fun _ => tabY [29, 30, 50, 51, 56, 57, 68, 69, 73, 74] [10, 11]) (H := fun _ => []) (tabY_ok _ _) hH follows_mixed Try.func40 rfl Try.ntmps40 (by simp) fun A X W hA hX hW => ?_
    cbv
    repeat' first
      | (refine part (fun h => ?_) (fun h => ?_) <;> try cbv)
      | ((with_reducible refine regionU (id := 10) [] [] [50, 50, 50, 2, 50, 50, 50, 50, 50, 1, 50, 1, 1, 1, 50, 1, 50, 2, 2] (T := fun _ => tabY [29, 30, 50, 51, 56, 57, 68, 69, 73, 74] []) (H := fun _ => []) (B := fun _ => []) (R := fun _ => []) (A := A) (tabY_ok _ _) hH noB_ok noR_ok follows_mixed hA hX (by kernel_rfl) (by kernel_rfl) (by kernel_rfl) (by kernel_rfl) (by kernel_rfl) ?_) <;> cbv)
      | ((with_reducible refine regionZ (id := 11) (T := fun _ => tabY [29, 30, 50, 51, 56, 57, 68, 69, 73, 74] []) (H := fun _ => []) (A := A) (tabY_ok _ _) hH follows_mixed hA hX (by kernel_rfl) ?_) <;> cbv)
      | (refine And.intro ?_ ?_)
      | ((with_reducible refine callB hX hB ?_) <;> cbv)
    all_goals subst hA hX hW hFsRd
    all_goals clear hH hB
    all_goals try simp only [A0, nc, FsRd0, Nat.zero_add, Nat.add_zero, List.nil_append, List.drop_zero] at *
    all_goals try simp only [hpw, hpo, hpL, hat] at *
    all_goals first
      | exact rfl
      | exact trivial
      | exact hlk
      | exact hisF
      | assumption
      | (have h0 : ¬ atL name L 0 < 0 := of_decide_eq_false (by assumption)
         obtain ⟨e1, e2, e3, e4, e5, e6, e7, e8⟩ := hk h0
         simp only [e1, Int.toNat_natCast, e6, e7]
         first
           | exact ⟨by omega, by omega⟩
           | exact one_at e6
           | exact one_at e7
           | omega
           | fail)
      | (intro q; exact q)
      | (intro _; exact trivial)
      | (intro q; simpa using q)
      | (have h0 : o = false := by assumption
         have h1 : ¬ atL name L 0 < 0 := of_decide_eq_false (by assumption)
         obtain ⟨e1, e2, e3, e4, e5, e6, e7, e8⟩ := hk h1
         have hrf : readF L name = f.data := by unfold readF; rw [e2, e3]
         have hfb := (hfs f (List.mem_of_getElem? e3)).1
         have hfd := hfb.len
         have hj : k * 3 + 1 < cs.length := by omega
         have hj2 : k * 3 + 2 < cs.length := by omega
         have g9 : ∀ x, (splice cs (k * 3 + 1) [x])[k * 3 + 2]? = some (.d (.sc (.int .i64 f.kept))) := fun x => by rw [splc_get hj (by omega)]; exact e7
         have g8 : ∀ x, (splice cs (k * 3 + 1) [x]).length = cs.length := fun x => splice_len hj
         have has6 := one_at e6
         have hkn := fun x => kn_ok (x := x) (D := ⟨q, L, o, a, lf⟩) hs h0 h1
         clear hk
         simp only [e1, Int.toNat_natCast, e6] at *
         first
           | (intro _; exact has6)
           | (have hh : (bif decide (n < 0) then true else decide ((f.data.length : Int) < n)) = true := by assumption
              have ha : n < 0 ∨ (f.data.length : Int) < n := by
                by_cases h7 : n < 0
                · exact .inl h7
                · right; simpa [h7] using hh
              rw [show (Dk.mk q L o a lf).cut name n = (1, ⟨q, L, o, a, lf⟩) from by unfold Dk.cut; rw [hkn, hrf, if_pos ha]]
              exact RetW.refl (rk_s (by omega) hcs hm rfl hl))
           | (have hh : (bif decide (n < 0) then true else decide ((f.data.length : Int) < n)) = false := by assumption
              have ha : ¬ (n < 0 ∨ (f.data.length : Int) < n) := by
                by_cases h7 : n < 0
                · simp [h7] at hh
                · simp [h7] at hh
                  omega
              have ha1 : 0 ≤ n ∧ n ≤ (f.data.length : Int) := by omega
              have hz : Int.toNat 0 = 0 := rfl
              try simp only [hz, Nat.sub_zero, List.drop_zero, g9, g8, List.length_take]
              first
                | exact ⟨by omega, by omega, by omega⟩
                | exact ⟨by omega, by omega⟩
                | omega
                | exact ⟨rfl, by omega, (one_at (g9 _)).2.2⟩
                | (have h3 : ¬ powE a lf = 0 := by simpa using (show (!decide (powE a lf = 0)) = true by assumption)
                   rw [show (Dk.mk q L o a lf).cut name n = (10, ⟨q, L, powO o a lf, a, powL a lf⟩) from by unfold Dk.cut; rw [hkn, hrf, if_neg ha]; exact pw_no h3]
                   exact RetW.refl (rk_s (by omega) hcs hm rfl rfl))
                | (have h3 : powE a lf = 0 := by simpa using (show (!decide (powE a lf = 0)) = false by assumption)
                   rw [show (Dk.mk q L o a lf).cut name n = (0, ⟨q, cutF L k n, powO o a lf, a, powL a lf⟩) from by unfold Dk.cut; rw [hkn, hrf, if_neg ha, pw_ok h3]; unfold Dk.at; simp only [e2]]
                   rw [cutF_some e3, splice_two hj hj2 (by omega), hcs, set_kept L k f e3]
                   have e3' : (L.set k ⟨f.name, f.data, min f.kept n⟩)[k]? = some ⟨f.name, f.data, min f.kept n⟩ := by simp [e4]
                   refine ret_data (k := 2) (by decide) rfl (fun _ => ⟨⟨trivial, .inl rfl⟩, .inl rfl⟩) e3' rfl (fun x hx => hfb.sz x (List.mem_of_mem_take hx)) (by rw [List.length_take]) (fun _ _ => rfl) rfl ?_
                   refine rk_s (by omega) ?_ (by simp only [List.length_set]; exact hm) rfl rfl
                   simp only [List.set_set])
                | fail)
           | fail)
      | (have h0 : o = true := by assumption
         rw [show (Dk.mk q L o a lf).cut name n = (10, ⟨q, L, o, a, lf⟩) from by unfold Dk.cut; exact kn_off h0]
         exact RetW.refl (rk_s (by omega) hcs hm rfl hl))
      | (have h0 : o = false := by assumption
         have h1 : atL name L 0 < 0 := of_decide_eq_true (by assumption)
         rw [show (Dk.mk q L o a lf).cut name n = (8, ⟨q, L, o, a, lf⟩) from by unfold Dk.cut;  exact kn_none hs h0 h1]
         exact RetW.refl (rk_s (by omega) hcs hm rfl hl))
      | (have h0 : o = false := by assumption
         have h1 : ¬ atL name L 0 < 0 := of_decide_eq_false (by assumption)
         have h3 : ¬ powE a lf = 0 := by simpa using (show (!decide (powE a lf = 0)) = true by assumption)
         rw [show (Dk.mk q L o a lf).cut name n = (10, ⟨q, L, powO o a lf, a, powL a lf⟩) from by unfold Dk.cut;  rw [kn_ok hs h0 h1]; exact pw_no h3]
         exact RetW.refl (rk_s (by omega) hcs hm rfl rfl))
      | fail
end Go.Proofs.Ytmjmbfcfnhnpmaa
