/- The document's bytes as a row of one's own. No condition. -/
import Derived.Test.YtbhapclaochcnaaLeV
import Derived.Test.YtbhapclaochcnaaAm45
namespace Go.Proofs.Ytbhapclaochcnaa
open Go.RowKit
set_option linter.all false
set_option maxHeartbeats 8000000
theorem rows_closed (xs : List (List PD)) : closedL 0 (rowsD xs) = true := closedL_data 0 _
/-- A contract that makes a row of one's own, whatever boxes there are. -/
theorem FnD.newRowP {z2 : Nat} {P : Program} {f : FuncId} {args : List DV} {T : TypeId} {L : List (List PD)} (h : FnD P f args [] (fun r st' => ∃ v cs m, cs = rowsD L ∧ m = L.length ∧ r = .view z2 0 v 0 m ∧ st' = [⟨T, cs, true, v, true⟩])) (ha : closedL 0 args = true) {st : Store} {K : DV → Store → Prop} (hk : ∀ v cs m, cs = rowsD L → m = L.length → K (.view z2 st.length v 0 m) (st ++ [⟨T, cs, true, v, true⟩])) : FnD P f args st K := by
  refine FnD.at (args' := args) h [] (by simp [ha]) (by simp) (by rw [renL_pure _ _ ha]) ?_
  rintro r0 stc ⟨v, cs, m, rfl, rfl, rfl, rfl⟩ _
  have e2 : mergeL st [] ([(⟨T, rowsD L, true, v, true⟩ : Box)].map (Box.ren (place [] st.length))) = st ++ [⟨T, rowsD L, true, v, true⟩] := by
    have e3 : (rowsD L).map (renD (place [] st.length)) = rowsD L := by rw [← renL_eq]; exact renL_pure _ _ (rows_closed _)
    simp only [List.map_cons, List.map_nil, Box.ren, e3]
    apply List.ext_getElem?
    intro i
    rw [mergeL]
    simp only [List.idxOf?_nil, List.length_nil, List.drop_zero]
    congr 2
    apply List.ext_getElem?
    intro j
    simp
  rw [e2]
  have e4 : renD (place [] st.length) (.view z2 0 v 0 L.length) = .view z2 st.length v 0 L.length := by simp [renD, place]
  rw [e4]
  exact hk v _ _ rfl rfl
/-- A row of bytes of one's own that shows these. -/
def ownV (V : Nat) (L : List (List PD)) (r : DV) (st : Store) : Prop := r = .view 1 0 V 0 L.length ∧ st = [⟨5, rowsD L, true, V, true⟩]
def ownL (L : List (List PD)) (r : DV) (st : Store) : Prop := ∃ V, ownV V L r st
theorem FnD.own {P : Program} {f : FuncId} {args : List DV} {L : List (List PD)} (h : FnD P f args [] (ownL L)) (ha : closedL 0 args = true) {st : Store} {K : DV → Store → Prop} (hk : ∀ v cs m, cs = rowsD L → m = L.length → K (.view 1 st.length v 0 m) (st ++ [⟨5, cs, true, v, true⟩])) : FnD P f args st K := FnD.newRowP (h.mono fun r st ⟨V, h1, h2⟩ => ⟨V, _, _, rfl, rfl, h1, h2⟩) ha hk
theorem FnD.ownV {P : Program} {f : FuncId} {args : List DV} {V : Nat} {L : List (List PD)} (h : FnD P f args [] (ownV V L)) (ha : closedL 0 args = true) {st : Store} {K : DV → Store → Prop} (hk : K (.view 1 st.length V 0 L.length) (st ++ [⟨5, rowsD L, true, V, true⟩])) : FnD P f args st K := by
  refine FnD.at (args' := args) h [] (by simp [ha]) (by simp) (by rw [renL_pure _ _ ha]) ?_
  rintro r0 stc ⟨rfl, rfl⟩ _
  have e2 : mergeL st [] ([(⟨5, rowsD L, true, V, true⟩ : Box)].map (Box.ren (place [] st.length))) = st ++ [⟨5, rowsD L, true, V, true⟩] := by
    have e3 : (rowsD L).map (renD (place [] st.length)) = rowsD L := by rw [← renL_eq]; exact renL_pure _ _ (rows_closed _)
    simp only [List.map_cons, List.map_nil, Box.ren, e3]
    apply List.ext_getElem?
    intro i
    rw [mergeL]
    simp only [List.idxOf?_nil, List.length_nil, List.drop_zero]
    congr 2
    apply List.ext_getElem?
    intro j
    simp
  rw [e2]
  have e4 : renD (place [] st.length) (.view 1 0 V 0 L.length) = .view 1 st.length V 0 L.length := by simp [renD, place]
  rw [e4]
  exact hk
theorem own_keep {L : List (List PD)} {v m b : Nat} {cs : List DV} {st : Store} (hk : keepB 0 [b] st.length = true) (hb : st[b]? = some ⟨5, cs, true, v, true⟩) (hcs : cs = rowsD L) (hm : m = L.length) : RetW 0 (ownV v L) (.view 1 b v 0 m) st := by
  refine ret_keep [b] hk ⟨?_, ?_⟩
  · subst hm
    simp [pullD]
  · have e : st.getD b noBox = ⟨5, cs, true, v, true⟩ := by rw [List.getD_eq_getElem?_getD, hb]; rfl
    simp only [keepSt, List.map_cons, List.map_nil, e, pullBox, hcs, pullL_eq, pull_rows]
theorem own_bump {L : List (List PD)} {v w : Nat} (h : v ≤ w) : RetW 0 (ownV w L) (.view 1 0 v 0 L.length) [⟨5, rowsD L, true, v, true⟩] := by
  refine ret_bump2 0 w ⟨5, rowsD L, true, v, true⟩ rfl rfl h (RetW.refl ⟨?_, ?_⟩)
  · simp [bumpD]
  · simp only [bumpSt, List.getElem?_cons_zero, List.map_cons, List.map_nil, List.set_cons_zero, bumpL_eq, rowsD, List.map_map]
    rfl
theorem ownV.to20 {P : Program} {f : FuncId} {args : List DV} {V : Nat} {L : List (List PD)} (h : FnD P f args [] (ownV V L)) (hv : V ≤ 20) : FnD P f args [] (ownV 20 L) := FnD.ret (h.mono fun r st ⟨h1, h2⟩ => by subst h1; subst h2; exact own_bump hv)
theorem own_fin {L : List (List PD)} {v m : Nat} {cs : List DV} (hcs : cs = rowsD L) (hm : m = L.length) : RetW 0 (ownL L) (.view 1 0 v 0 m) [⟨5, cs, true, v, true⟩] := by
  obtain ⟨d, st, h1, h2⟩ := own_keep (L := L) (v := v) (m := m) (b := 0) (st := [⟨5, cs, true, v, true⟩]) rfl rfl hcs hm
  exact ⟨d, st, h1, v, h2⟩
set_option maxRecDepth 100000 in
theorem w_rnumE (bs : List UInt8) (xs : List (List PD)) (n : Int) (hxs : xs = bytesP bs) (hb : bs.length ≤ 8000000) (hp1 : r64 n) : FnD Try.prog 43 [.d (.slc 1 xs), intD n] [] (fun r st' => ∃ v cs m, cs = rowsD (bytesP (bs ++ numB n)) ∧ m = (bs ++ numB n).length ∧ v = 1 + (numB n).length ∧ r = .view 1 0 v 0 m ∧ st' = [⟨5, cs, true, v, true⟩]) := by
  obtain ⟨GFsW, hFsW⟩ : ∃ F, F = FsW0 := ⟨_, rfl⟩
  have hH : SoundK Try.prog [kn_zig2 GFsW] := by subst hFsW; exact orK_ok ok_zig2 noK_ok
  have hB : SoundB Try.prog [] := by subst hFsW; exact noB_ok
  refine FnD_cbv (T := fun _ => tabY [] []) (H := fun _ => [kn_zig2 GFsW]) (tabY_ok _ _) hH follows_mixed Try.func43 rfl Try.ntmps43 (by simp) fun A X W hA hX hW => ?_
  cbv
  have hz := zig_range hp1
  have hz2 : ((zig n).toNat : Int) = zig n := Int.toNat_of_nonneg hz.1
  have hl : xs.length = bs.length := by rw [hxs]; exact bytesP_length bs
  refine And.intro ?_ (And.intro ?_ (And.intro ?_ (And.intro ?_ ?_)))
  · subst hA; simp only [A0]
  · subst hA; simp only [A0]; rfl
  · subst hA; simp only [A0]; omega
  · subst hFsW; exact hp1
  refine loopL (T := fun _ => tabY [] []) (H := fun _ => [kn_zig2 GFsW]) (tabY_ok _ _) hH follows_mixed hA hX (fun x : List DV × Int × Nat × Nat => ∃ (bs1 : List UInt8) (f u : Nat), x.1 = rowsD (bytesP bs1) ∧ x.2.1 = u ∧ x.2.2.2 = bs1.length ∧ bs1 ++ numF (f + 1) u = bs ++ numB n ∧ u < 128 ^ (f + 1) ∧ u < 18446744073709551616 ∧ f + bs1.length ≤ 8388620 ∧ x.2.2.1 + bs.length = 1 + bs1.length)
    (fun x => [(5, .view 1 0 x.2.2.1 0 x.2.2.2), (6, .d (.sc (.int .u64 x.2.1)))]) (fun x => [⟨5, x.1, true, x.2.2.1, true⟩])
    (fun x => x.2.1.toNat) (rowsD (bytesP bs), zig n, 1, bs.length) ?_ ?_ ?_
  · refine ⟨bs, 9, (zig n).toNat, rfl, hz2.symm, rfl, rfl, ?_, ?_, ?_, rfl⟩
    all_goals omega
  · subst hA hFsW
    refine told_stR ?_ ?_
    · simp [A0, hxs]
    · simp [toldP, getS, A0, FsW0, hl]
  rintro R ⟨cells, u, v, len⟩ hR ⟨bs1, f, u1, h1, h2, h3, e1, e2, e3, e4, e5⟩
  replace h1 : cells = rowsD (bytesP bs1) := h1
  replace h3 : len = bs1.length := h3
  replace e5 : v + bs.length = 1 + bs1.length := e5
  cbv
  repeat' first
    | (refine part (fun h => ?_) (fun h => ?_) <;> try cbv)
    | (refine And.intro ?_ ?_)
    | (with_reducible refine callB hX hB ?_) <;> cbv
  all_goals subst hR hA hX hW hFsW
  all_goals clear hH hB
  all_goals simp only [A0, FsW0, decide_eq_true_eq, decide_eq_false_iff_not] at *
  all_goals replace h2 : u = (u1 : Int) := h2
  all_goals subst h2
  all_goals first
    | rfl
    | decide
    | omega
    | (rw [h1, rowsB_length, h3, Nat.mul_one]; done)
    | (simp; done)
    | (have hf : (u1 : Int).fdiv (2 ^ min (Int.toNat 7) (IntKind.bits .u64)) = ((u1 / 128 : Nat) : Int) := fdiv128 u1
       obtain ⟨f1, rfl⟩ : ∃ f1, f = f1 + 1 := by
         cases f with
         | zero => omega
         | succ f1 => exact ⟨f1, rfl⟩
       have hu : u1 / 128 < 128 ^ (f1 + 1) := by
         rw [Nat.pow_succ] at e2
         exact Nat.div_lt_of_lt_mul (by rw [Nat.mul_comm]; exact e2)
       refine ⟨(cells ++ [.d (.sc (.int .u8 ((UInt8.ofNat (u1 % 128 + 128)).toNat : Int)))], ((u1 / 128 : Nat) : Int), v + 1, len + 1), ⟨bs1 ++ [UInt8.ofNat (u1 % 128 + 128)], f1, u1 / 128, ?_, rfl, ?_, ?_, hu, ?_, ?_, ?_⟩, ?_, told_keep [0] rfl ?_ ?_⟩
       · simp only [rowsB_append, rowsB_one, h1]
       · simp [h3]
       · rw [← e1, numF_step (f1 + 1) u1 (by omega)]
         simp only [List.append_assoc, List.singleton_append]
       · omega
       · simp only [List.length_append, List.length_singleton]; omega
       · simp only [List.length_append, List.length_singleton]; omega
       · simp only; omega
       · simp only [and127n, or128n]
         simp [keepSt, pullBox, pullL_eq, h1, pull_rows, pullD]
       · rw [hf]
         simp [toldP, getS, pullD])
    | (have hb2 : numF (f + 1) u1 = [UInt8.ofNat u1] := numF_last f u1 (by omega)
       rw [hb2] at e1
       have e6 := congrArg List.length e1
       simp only [List.length_append, List.length_singleton] at e6
       refine ret_keep [0] rfl ⟨v + 1, _, _, rfl, rfl, by omega, ?_, ?_⟩
       · simp [pullD, ← e1, h3]
       · rw [← e1, rowsB_append, rowsB_one, ← h1, low8 u1 (by omega)]
         simp [keepSt, pullBox, pullL_eq, h1, pull_rows, pullD])
theorem w_numL (xs : List (List PD)) (n : Int) (hp0 : isB xs) (hp1 : r64 n) : FnD Try.prog 43 [.d (.slc 1 xs), intD n] [] (ownV 20 (numX xs n)) := by
  obtain ⟨bs, hxs, hb⟩ := hp0
  have hl := numB_length n
  refine ownV.to20 (V := 1 + (numB n).length) ((w_rnumE bs xs n hxs hb hp1).mono ?_) (by omega)
  rintro r st ⟨v, cs, m, hcs, hm, rfl, rfl, rfl⟩
  refine ⟨?_, ?_⟩
  · rw [hm, hxs, numX, List.length_append, List.length_append, bytesP_length, bytesP_length]
  · rw [hcs, hxs, numX, bytesP_append]
set_option maxRecDepth 100000 in
theorem w_textL (xs : List (List PD)) (s : ByteArray) (hp0 : isB xs) (hp1 : szT s) : FnD Try.prog 57 [.d (.slc 1 xs), strD s] [] (ownL (textX xs s)) := by
  have hs : s.size ≤ 4194304 := hp1
  obtain ⟨bs, hxs, hb⟩ := hp0
  have hH : SoundK Try.prog [] := by exact noK_ok
  have hB : SoundB Try.prog [] := by exact noB_ok
  refine FnD_cbv (T := fun _ => tabY [] []) (H := fun _ => []) (tabY_ok _ _) hH follows_mixed Try.func57 rfl Try.ntmps57 (by simp) fun A X W hA hX hW => ?_
  cbv
  refine callL hX ((w_rnum bs xs _ hxs hb ?_).mono ?_)
  · subst hA
    show r64 (s.size : Int)
    unfold r64; omega
  rintro r st ⟨v, cs2, m2, hcs2, hm2, rfl, rfl⟩
  cbv
  have hn := numB_length (s.size : Int)
  subst hA hX hW
  replace hcs2 : cs2 = rowsD (bytesP (bs ++ numB (s.size : Int))) := hcs2
  replace hm2 : m2 = (bs ++ numB (s.size : Int)).length := hm2
  have hsz : s.data.toList.length = s.size := by rw [Array.length_toList]; rfl
  refine And.intro rfl (And.intro ?_ (And.intro ?_ ?_))
  · simp only [A0]
    rw [hcs2, rowsB_length, hm2, Nat.mul_one]
  · simp only [A0]
    rw [hm2, List.length_append]
    omega
  · refine own_fin ?_ ?_
    · simp only [A0, hcs2, textX, textB, hxs]
      rw [← rowsB_append]
      simp only [bytesP_append, List.append_assoc]
    · simp only [A0, hm2, textX, hxs, bytesP_append, bytesP_length, textB, List.length_append, hsz]
      try omega
theorem FnD.ownW {P : Program} {f : FuncId} {args : List DV} {V : Nat} {L : List (List PD)} (h : FnD P f args [] (Go.Proofs.Ytbhapclaochcnaa.ownV V L)) (ha : closedL 0 args = true) {st : Store} {K : DV → Store → Prop} (hk : ∀ cs m, cs = rowsD L → m = L.length → K (.view 1 st.length V 0 m) (st ++ [⟨5, cs, true, V, true⟩])) : FnD P f args st K := FnD.ownV h ha (hk _ _ rfl rfl)
set_option maxRecDepth 100000 in
theorem w_flag2 (xs : List (List PD)) (b : Bool) (hp0 : isB xs) : FnD Try.prog 44 [.d (.slc 1 xs), boolD b] [] (ownV 2 (flagX xs b)) := by
  obtain ⟨bs, hxs, hb⟩ := hp0
  have hl : xs.length = bs.length := by rw [hxs]; exact bytesP_length bs
  cases b
  · have hH : SoundK Try.prog [] := by exact noK_ok
    have hB : SoundB Try.prog [] := by exact noB_ok
    refine FnD_cbv (T := fun _ => tabY [] []) (H := fun _ => []) (tabY_ok _ _) hH follows_mixed Try.func44 rfl Try.ntmps44 (by simp) fun A X W hA hX hW => ?_
    cbv
    repeat' first
      | (refine part (fun h => ?_) (fun h => ?_) <;> try cbv)
      | (refine And.intro ?_ ?_)
    all_goals subst hA hX hW
    all_goals clear hH hB
    all_goals simp only [A0] at *
    all_goals first
      | rfl
      | omega
      | (simp; done)
      | (simp; omega)
      | (rw [hxs, rowsB_length, bytesP_length]; simp; done)
      | (simp [hxs, rowsB_length, bytesP_length]; done)
      | (refine own_keep (b := 0) rfl rfl ?_ ?_ <;> simp [flagX, hxs, bytesP_length, rowsB_append, rowsB_one, bytesP_append]; done)
      | fail
  · have hH : SoundK Try.prog [] := by exact noK_ok
    have hB : SoundB Try.prog [] := by exact noB_ok
    refine FnD_cbv (T := fun _ => tabY [] []) (H := fun _ => []) (tabY_ok _ _) hH follows_mixed Try.func44 rfl Try.ntmps44 (by simp) fun A X W hA hX hW => ?_
    cbv
    repeat' first
      | (refine part (fun h => ?_) (fun h => ?_) <;> try cbv)
      | (refine And.intro ?_ ?_)
    all_goals subst hA hX hW
    all_goals clear hH hB
    all_goals simp only [A0] at *
    all_goals first
      | rfl
      | omega
      | (simp; done)
      | (simp; omega)
      | (rw [hxs, rowsB_length, bytesP_length]; simp; done)
      | (simp [hxs, rowsB_length, bytesP_length]; done)
      | (refine own_keep (b := 0) rfl rfl ?_ ?_ <;> simp [flagX, hxs, bytesP_length, rowsB_append, rowsB_one, bytesP_append]; done)
      | fail
theorem w_flagL (xs : List (List PD)) (b : Bool) (hp0 : isB xs) : FnD Try.prog 44 [.d (.slc 1 xs), boolD b] [] (ownV 20 (flagX xs b)) := ownV.to20 (w_flag2 xs b hp0) (by decide)
/-- The rows of cells that hold one datum each. -/
def unB : List DV → List (List PD)
  | .d p :: r => [p] :: unB r
  | _ => []
theorem unB_bytes (bs : List UInt8) : unB (rowsD (bytesP bs)) = bytesP bs := by
  induction bs with
  | nil => rfl
  | cons b bs ih =>
    have e : rowsD (bytesP (b :: bs)) = .d (.sc (.int .u8 b.toNat)) :: rowsD (bytesP bs) := rfl
    rw [e, unB, ih]
    rfl
theorem unB_isB {xs : List (List PD)} (h : isB xs) : unB (rowsD xs) = xs := by
  obtain ⟨bs, rfl, _⟩ := h
  exact unB_bytes bs
def isVw (cs : List DV) (m : Nat) : Prop := cs = rowsD (unB cs) ∧ m = (unB cs).length ∧ ∀ x ∈ unB cs, x.length = 1
def fzOk (b v : Nat) (xs : List (List PD)) (st : Store) : Prop := fzSt b 1 xs st = st.set b ⟨5, [], false, v + 1, false⟩
structure FsOw where
  rnum : List (List PD) → Int → List (List PD)
  flag : List (List PD) → Bool → List (List PD)
  ballot : List (List PD) → Ballot → List (List PD)
  attr : List (List PD) → Attr → List (List PD)
  len : List (List PD) → Nat
  rws : List (List PD) → List DV
  unB : List DV → List (List PD)
  isB : List (List PD) → Prop
  r64 : Int → Prop
  isVw : List DV → Nat → Prop
  fz : Nat → Nat → List (List PD) → Store → Prop
  isBn : Nat → List (List PD) → Prop
  rBal : Ballot → Prop
  rAttr : Attr → Prop
noncomputable def FsOw0 : FsOw where
  rnum := numX
  flag := flagX
  ballot := ballotX
  attr := putA
  len := List.length
  rws := rowsD
  unB := unB
  isB := isB
  r64 := r64
  isVw := isVw
  fz := fzOk
  isBn := isBn
  rBal := rBal
  rAttr := rAttr
def kb_numO (F : FsOw) : FuncId × (List DV → Store → SV) := (43, fun args st => match args with
  | [.d (.slc 1 xs), .d (.sc (.int .i64 n))] => some ([F.isB xs, F.r64 n], .view 1 st.length 20 0 (F.len (F.rnum xs n)), st ++ [⟨5, F.rws (F.rnum xs n), true, 20, true⟩])
  | [.view 1 b v 0 m, .d (.sc (.int .i64 n))] => (match st[b]? with
    | some ⟨5, cs, true, w, true⟩ => some ([F.isVw cs m, v = w, F.isB (F.unB cs), F.r64 n, F.fz b v (F.unB cs) st], .view 1 st.length 20 0 (F.len (F.rnum (F.unB cs) n)), st.set b ⟨5, [], false, v + 1, false⟩ ++ [⟨5, F.rws (F.rnum (F.unB cs) n), true, 20, true⟩])
    | _ => none)
  | _ => none)
theorem okb_numO (args : List DV) (st : Store) (cs : List Prop) (r : DV) (st' : Store) (h : (kb_numO FsOw0).2 args st = some (cs, r, st')) (hc : allP cs True) (K : DV → Store → Prop) (hk : K r st') : FnD Try.prog 43 args st K := by
  unfold kb_numO at h
  simp only at h
  split at h
  · cases h
    exact FnD.ownV (w_numL _ _ hc.1 hc.2.1) rfl hk
  · split at h
    · rename_i hb
      cases h
      obtain ⟨⟨h1, h2, h3⟩, h4, h5, h6, h7, _⟩ := hc
      subst h4
      refine FnD.freeze _ 1 _ _ hb rfl h1 h3 ?_
      rw [show fzSt _ 1 (unB _) st = _ from h7]
      refine Eq.mpr (congrArg (fun a => FnD Try.prog _ a _ _) ?_) (FnD.ownV (w_numL _ _ h5 h6) rfl (Eq.mpr ?_ hk))
      · simp only [List.map_cons, List.map_nil, fzD, h2]
        simp
        exact ⟨rfl, rfl⟩
      · rw [List.length_set]
        rfl
    · cases h
  · cases h
def kb_flagO (F : FsOw) : FuncId × (List DV → Store → SV) := (44, fun args st => match args with
  | [.d (.slc 1 xs), .d (.sc (.bool n))] => some ([F.isB xs], .view 1 st.length 20 0 (F.len (F.flag xs n)), st ++ [⟨5, F.rws (F.flag xs n), true, 20, true⟩])
  | _ => none)
theorem okb_flagO (args : List DV) (st : Store) (cs : List Prop) (r : DV) (st' : Store) (h : (kb_flagO FsOw0).2 args st = some (cs, r, st')) (hc : allP cs True) (K : DV → Store → Prop) (hk : K r st') : FnD Try.prog 44 args st K := by
  unfold kb_flagO at h
  simp only at h
  split at h
  · cases h
    exact FnD.ownV (w_flagL _ _ hc.1) rfl hk
  · cases h
set_option maxRecDepth 100000 in
theorem w_ballotL (xs : List (List PD)) (x : Ballot) (hp0 : isBn 4000000 xs) (hp1 : rBal x) : FnD Try.prog 42 [.d (.slc 1 xs), x.D] [] (ownV 20 (ballotX xs x)) := by
  obtain ⟨e, r⟩ := x
  have hB1 : isB (numX xs e) := (hp0.num e).le (by decide)
  have hu := unB_isB hB1
  obtain ⟨GFsOw, hFsOw⟩ : ∃ F, F = FsOw0 := ⟨_, rfl⟩
  have hH : SoundK Try.prog [] := by subst hFsOw; exact noK_ok
  have hB : SoundB Try.prog [kb_numO GFsOw] := by subst hFsOw; exact orB_ok okb_numO noB_ok
  refine FnD_cbv (T := fun _ => tabY [] [1]) (H := fun _ => []) (tabY_ok _ _) hH follows_mixed Try.func42 rfl Try.ntmps42 (by simp) fun A X W hA hX hW => ?_
  cbv
  repeat' first
    | (refine part (fun h => ?_) (fun h => ?_) <;> try cbv)
    | (refine And.intro ?_ ?_)
    | (with_reducible refine callB hX hB ?_) <;> cbv
    | (with_reducible refine regionB [43] (T := fun _ => tabY [] []) (H := fun _ => []) (B := fun _ => [kb_numO GFsOw]) (A := A) (tabY_ok _ _) hH hB follows_mixed hA hX (by kernel_rfl) (by kernel_rfl) ?_) <;> cbv
  all_goals subst hA hX hW hFsOw
  all_goals clear hH hB
  all_goals try simp only [A0, FsOw0] at *
  all_goals try rw [hu]
  all_goals first
    | rfl
    | (show Region.lexB _ _ = true; kernel_rfl)
    | (show turnsI _ _ = true; kernel_rfl)
    | exact hp0.le (by decide)
    | exact hB1
    | exact hp1.1
    | exact hp1.2
    | exact ⟨by rw [hu], by rw [hu], by rw [hu]; exact fun x hx => by obtain ⟨bs, hbs, _⟩ := hB1; rw [hbs] at hx; exact bytesP_sz bs x hx⟩
    | (refine own_keep (b := 2) rfl rfl ?_ ?_ <;> rfl)
    | fail
set_option maxRecDepth 100000 in
theorem w_attrL (xs : List (List PD)) (a : Attr) (hp0 : isBn 4000000 xs) (hrd : rAttr a) : FnD Try.prog 45 [.d (.slc 1 xs), a.D] [] (ownV 20 (putA xs a)) := by
  obtain ⟨s, d0, d1, d2, d3, d4, d5, d6⟩ := a
  obtain ⟨x0, hx0⟩ : ∃ x, x = numX xs s := ⟨_, rfl⟩
  have hNs : FnV Try.prog 43 [.d (.slc 1 xs), .d (.sc (.int .i64 s))] (.d (.slc 1 x0)) := by
    rw [hx0]
    exact v_rnum xs s (hp0.le (by decide)) hrd.1
  have hy0 : isBn 4000010 x0 := by rw [hx0]; exact hp0.num s
  obtain ⟨x1, hx1⟩ : ∃ x, x = numX x0 d0 := ⟨_, rfl⟩
  have hN0 : FnV Try.prog 43 [.d (.slc 1 x0), .d (.sc (.int .i64 d0))] (.d (.slc 1 x1)) := by
    rw [hx1]
    exact v_rnum x0 d0 (hy0.le (by decide)) hrd.2.1
  have hy1 : isBn 4000020 x1 := by rw [hx1]; exact hy0.num d0
  obtain ⟨x2, hx2⟩ : ∃ x, x = numX x1 d1 := ⟨_, rfl⟩
  have hN1 : FnV Try.prog 43 [.d (.slc 1 x1), .d (.sc (.int .i64 d1))] (.d (.slc 1 x2)) := by
    rw [hx2]
    exact v_rnum x1 d1 (hy1.le (by decide)) hrd.2.2.1
  have hy2 : isBn 4000030 x2 := by rw [hx2]; exact hy1.num d1
  obtain ⟨x3, hx3⟩ : ∃ x, x = numX x2 d2 := ⟨_, rfl⟩
  have hN2 : FnV Try.prog 43 [.d (.slc 1 x2), .d (.sc (.int .i64 d2))] (.d (.slc 1 x3)) := by
    rw [hx3]
    exact v_rnum x2 d2 (hy2.le (by decide)) hrd.2.2.2.1
  have hy3 : isBn 4000040 x3 := by rw [hx3]; exact hy2.num d2
  obtain ⟨x4, hx4⟩ : ∃ x, x = numX x3 d3 := ⟨_, rfl⟩
  have hN3 : FnV Try.prog 43 [.d (.slc 1 x3), .d (.sc (.int .i64 d3))] (.d (.slc 1 x4)) := by
    rw [hx4]
    exact v_rnum x3 d3 (hy3.le (by decide)) hrd.2.2.2.2.1
  have hy4 : isBn 4000050 x4 := by rw [hx4]; exact hy3.num d3
  obtain ⟨x5, hx5⟩ : ∃ x, x = numX x4 d4 := ⟨_, rfl⟩
  have hN4 : FnV Try.prog 43 [.d (.slc 1 x4), .d (.sc (.int .i64 d4))] (.d (.slc 1 x5)) := by
    rw [hx5]
    exact v_rnum x4 d4 (hy4.le (by decide)) hrd.2.2.2.2.2.1
  have hy5 : isBn 4000060 x5 := by rw [hx5]; exact hy4.num d4
  obtain ⟨x6, hx6⟩ : ∃ x, x = numX x5 d5 := ⟨_, rfl⟩
  have hN5 : FnV Try.prog 43 [.d (.slc 1 x5), .d (.sc (.int .i64 d5))] (.d (.slc 1 x6)) := by
    rw [hx6]
    exact v_rnum x5 d5 (hy5.le (by decide)) hrd.2.2.2.2.2.2.1
  have hy6 : isBn 4000070 x6 := by rw [hx6]; exact hy5.num d5
  have hW0 := w_numL x6 d6 (hy6.le (by decide)) hrd.2.2.2.2.2.2.2
  obtain ⟨L, hLe⟩ : ∃ L, L = numX x6 d6 := ⟨_, rfl⟩
  have hL : putA xs ⟨s, d0, d1, d2, d3, d4, d5, d6⟩ = L := by rw [hLe, hx6, hx5, hx4, hx3, hx2, hx1, hx0]; rfl
  rw [hL]
  rw [← hLe] at hW0
  have hH : SoundK Try.prog [] := by exact noK_ok
  have hB : SoundB Try.prog [] := by exact noB_ok
  refine FnD_cbv (T := fun _ => tabY [5003] []) (H := fun _ => []) (tabY_ok _ _) hH follows_mixed Try.func45 rfl Try.ntmps45 (by simp) fun A X W hA hX hW => ?_
  cbv
  have l0 : A.cmp .lss 0 7 = true := by subst hA; rfl
  cbv at l0
  have l1 : A.cmp .lss 1 7 = true := by subst hA; rfl
  cbv at l1
  have l2 : A.cmp .lss 2 7 = true := by subst hA; rfl
  cbv at l2
  have l3 : A.cmp .lss 3 7 = true := by subst hA; rfl
  cbv at l3
  have l4 : A.cmp .lss 4 7 = true := by subst hA; rfl
  cbv at l4
  have l5 : A.cmp .lss 5 7 = true := by subst hA; rfl
  cbv at l5
  have l6 : A.cmp .lss 6 7 = true := by subst hA; rfl
  cbv at l6
  have l7 : A.cmp .lss 7 7 = false := by subst hA; rfl
  cbv at l7
  have b0 : A.bin .add .i64 0 1 = 1 := by subst hA; rfl
  cbv at b0
  have b1 : A.bin .add .i64 1 1 = 2 := by subst hA; rfl
  cbv at b1
  have b2 : A.bin .add .i64 2 1 = 3 := by subst hA; rfl
  cbv at b2
  have b3 : A.bin .add .i64 3 1 = 4 := by subst hA; rfl
  cbv at b3
  have b4 : A.bin .add .i64 4 1 = 5 := by subst hA; rfl
  cbv at b4
  have b5 : A.bin .add .i64 5 1 = 6 := by subst hA; rfl
  cbv at b5
  have b6 : A.bin .add .i64 6 1 = 7 := by subst hA; rfl
  cbv at b6
  have o0_0 : A.off 0 0 1 = 0 := by subst hA; rfl
  cbv at o0_0
  have o0_1 : A.off 0 1 1 = 1 := by subst hA; rfl
  cbv at o0_1
  have o0_2 : A.off 0 2 1 = 2 := by subst hA; rfl
  cbv at o0_2
  have o0_3 : A.off 0 3 1 = 3 := by subst hA; rfl
  cbv at o0_3
  have o0_4 : A.off 0 4 1 = 4 := by subst hA; rfl
  cbv at o0_4
  have o0_5 : A.off 0 5 1 = 5 := by subst hA; rfl
  cbv at o0_5
  have o0_6 : A.off 0 6 1 = 6 := by subst hA; rfl
  cbv at o0_6
  repeat' first
    | (simp only [l0, l1, l2, l3, l4, l5, l6, l7, b0, b1, b2, b3, b4, b5, b6, o0_0, o0_1, o0_2, o0_3, o0_4, o0_5, o0_6]; cbv)
    | (refine And.intro ?_ ?_)
    | (refine callL hX (FnV.use hNs rfl ?_); cbv)
    | (refine callL hX (FnV.use hN0 rfl ?_); cbv)
    | (refine callL hX (FnV.use hN1 rfl ?_); cbv)
    | (refine callL hX (FnV.use hN2 rfl ?_); cbv)
    | (refine callL hX (FnV.use hN3 rfl ?_); cbv)
    | (refine callL hX (FnV.use hN4 rfl ?_); cbv)
    | (refine callL hX (FnV.use hN5 rfl ?_); cbv)
  rotate_right 1
  refine unrollL (T := fun _ => tabY [5003] []) (H := fun _ => []) (tabY_ok _ _) noK_ok follows_mixed hA hX 8 fun R hR => ?_
  repeat' first
    | (simp only [l0, l1, l2, l3, l4, l5, l6, l7, b0, b1, b2, b3, b4, b5, b6, o0_0, o0_1, o0_2, o0_3, o0_4, o0_5, o0_6]; cbv)
    | (refine And.intro ?_ ?_)
    | (refine hR _ _ _ ?_; cbv)
    | (refine callL hX (FnV.use hNs rfl ?_); cbv)
    | (refine callL hX (FnV.use hN0 rfl ?_); cbv)
    | (refine callL hX (FnV.use hN1 rfl ?_); cbv)
    | (refine callL hX (FnV.use hN2 rfl ?_); cbv)
    | (refine callL hX (FnV.use hN3 rfl ?_); cbv)
    | (refine callL hX (FnV.use hN4 rfl ?_); cbv)
    | (refine callL hX (FnV.use hN5 rfl ?_); cbv)
    | (refine callL hX (FnD.ownW hW0 rfl fun cs m hcs hm => ?_); cbv)
  all_goals subst hA hX hW
  all_goals first
    | rfl
    | exact own_keep (b := 1) rfl rfl hcs hm
    | exact ⟨by decide, by decide⟩
    | (simp; done)
    | fail
def kb_attrO (F : FsOw) : FuncId × (List DV → Store → SV) := (45, fun args st => match args with
  | [.d (.slc 1 xs), .agg [.d (.sc (.int .i64 s)), .d (.sc (.int .i64 d0)), .d (.sc (.int .i64 d1)), .d (.sc (.int .i64 d2)), .d (.sc (.int .i64 d3)), .d (.sc (.int .i64 d4)), .d (.sc (.int .i64 d5)), .d (.sc (.int .i64 d6))]] => some ([F.isBn 4000000 xs, F.rAttr ⟨s, d0, d1, d2, d3, d4, d5, d6⟩], .view 1 st.length 20 0 (F.len (F.attr xs ⟨s, d0, d1, d2, d3, d4, d5, d6⟩)), st ++ [⟨5, F.rws (F.attr xs ⟨s, d0, d1, d2, d3, d4, d5, d6⟩), true, 20, true⟩])
  | _ => none)
theorem okb_attrO (args : List DV) (st : Store) (cs : List Prop) (r : DV) (st' : Store) (h : (kb_attrO FsOw0).2 args st = some (cs, r, st')) (hc : allP cs True) (K : DV → Store → Prop) (hk : K r st') : FnD Try.prog 45 args st K := by
  unfold kb_attrO at h
  simp only at h
  split at h
  · cases h
    exact FnD.ownV (w_attrL _ ⟨_, _, _, _, _, _, _, _⟩ hc.1 hc.2.1) rfl hk
  · cases h
def kb_ballotO (F : FsOw) : FuncId × (List DV → Store → SV) := (42, fun args st => match args with
  | [.d (.slc 1 xs), .agg [.d (.sc (.int .i64 s)), .d (.sc (.int .i64 d0))]] => some ([F.isBn 4000000 xs, F.rBal ⟨s, d0⟩], .view 1 st.length 20 0 (F.len (F.ballot xs ⟨s, d0⟩)), st ++ [⟨5, F.rws (F.ballot xs ⟨s, d0⟩), true, 20, true⟩])
  | _ => none)
theorem okb_ballotO (args : List DV) (st : Store) (cs : List Prop) (r : DV) (st' : Store) (h : (kb_ballotO FsOw0).2 args st = some (cs, r, st')) (hc : allP cs True) (K : DV → Store → Prop) (hk : K r st') : FnD Try.prog 42 args st K := by
  unfold kb_ballotO at h
  simp only at h
  split at h
  · cases h
    exact FnD.ownV (w_ballotL _ ⟨_, _⟩ hc.1 hc.2.1) rfl hk
  · cases h
end Go.Proofs.Ytbhapclaochcnaa
namespace Go.Proofs.Ytbhapclaochcnaa
open Go.RowKit
set_option linter.all false
set_option maxHeartbeats 8000000
set_option maxRecDepth 100000 in
theorem w_cellL0 (xs : List (List PD)) (c : Cell) (hp0 : isBn 1500000 xs) (hp1 : okCell c) (hp2 : rightCell c = true) (hs : c.status = 0) : FnD Try.prog 14 [.d (.slc 1 xs), c.D] [] (ownV 20 (putCellM xs c)) := by
  obtain ⟨k0, k1, k2, k3, k4⟩ := hp1
  have hrp := rightCell_parts hp2
  obtain ⟨c_status, c_pe, c_pr, c_ve, c_vr, c_ckind, c_cclient, c_cseq, c_ckey, c_cfin, c_cold, c_cval, c_aseq, c_ad0, c_ad1, c_ad2, c_ad3, c_ad4, c_ad5, c_ad6, c_same⟩ := c
  replace hs : c_status = 0 := hs
  obtain ⟨GFsW, hFsW⟩ : ∃ F, F = FsW0 := ⟨_, rfl⟩
  obtain ⟨GFsOw, hFsOw⟩ : ∃ F, F = FsOw0 := ⟨_, rfl⟩
  have hH : SoundK Try.prog [kn_rnum GFsW] := by subst hFsW hFsOw; exact orK_ok ok_rnum noK_ok
  have hB : SoundB Try.prog [kb_ballotO GFsOw] := by subst hFsW hFsOw; exact orB_ok okb_ballotO noB_ok
  refine FnD_cbv (T := fun _ => tabY [] [1]) (H := fun _ => [kn_rnum GFsW]) (tabY_ok _ _) hH follows_mixed Try.func14 rfl Try.ntmps14 (by simp) fun A X W hA hX hW => ?_
  cbv
  have h0 : A.cmp .eql c_status 0 = true := by subst hA; simp only [A0]; exact decide_eq_true hs
  cbv at h0
  repeat' first
    | (simp only [h0]; cbv)
    | (refine part (fun h => ?_) (fun h => ?_) <;> try cbv)
    | (refine And.intro ?_ ?_)
    | (with_reducible refine callB hX hB ?_) <;> cbv
    | (with_reducible refine regionB [42] (T := fun _ => tabY [] []) (H := fun _ => [kn_rnum GFsW]) (B := fun _ => [kb_ballotO GFsOw]) (A := A) (tabY_ok _ _) hH hB follows_mixed hA hX (by kernel_rfl) (by kernel_rfl) ?_) <;> cbv
  all_goals subst hA hX hW hFsW hFsOw
  all_goals clear hH hB
  all_goals try simp only [A0, nc, FsW0, FsOw0] at *
  all_goals have b0 : isBn 1500000 xs := hp0
  all_goals have b1 := b0.num c_status
  all_goals have b2 := b1.ballot ⟨c_pe, c_pr⟩
  all_goals have b3 := b2.ballot ⟨c_ve, c_vr⟩
  all_goals have b4 := b3.cmdX hrp.1
  all_goals have b5 := b4.dput ⟨c_aseq, c_ad0, c_ad1, c_ad2, c_ad3, c_ad4, c_ad5, c_ad6⟩
  all_goals first
    | rfl
    | (show Region.lexB _ _ = true; kernel_rfl)
    | (show turnsI _ _ = true; kernel_rfl)
    | exact b0.le (by omega)
    | exact b1.mono (by omega)
    | exact b2.mono (by omega)
    | exact b3.mono (by omega)
    | exact b4.mono (by omega)
    | exact b5.le (by omega)
    | exact k0
    | exact k1
    | exact k2
    | exact k3
    | exact k4
    | (unfold putCellM
       split
       all_goals first
         | (exfalso; rename_i hq; exact hs hq)
         | (exfalso; rename_i hq; exact hq hs)
         | exact own_keep (b := 1) rfl rfl rfl rfl)
    | fail
set_option maxRecDepth 100000 in
theorem w_cellL1 (xs : List (List PD)) (c : Cell) (hp0 : isBn 1500000 xs) (hp1 : okCell c) (hp2 : rightCell c = true) (hs : ¬ c.status = 0) : FnD Try.prog 14 [.d (.slc 1 xs), c.D] [] (ownV 20 (putCellM xs c)) := by
  obtain ⟨k0, k1, k2, k3, k4⟩ := hp1
  have hrp := rightCell_parts hp2
  obtain ⟨c_status, c_pe, c_pr, c_ve, c_vr, c_ckind, c_cclient, c_cseq, c_ckey, c_cfin, c_cold, c_cval, c_aseq, c_ad0, c_ad1, c_ad2, c_ad3, c_ad4, c_ad5, c_ad6, c_same⟩ := c
  replace hs : ¬ c_status = 0 := hs
  obtain ⟨GFsW, hFsW⟩ : ∃ F, F = FsW0 := ⟨_, rfl⟩
  obtain ⟨GFsR6, hFsR6⟩ : ∃ F, F = FsR60 := ⟨_, rfl⟩
  obtain ⟨GFsOw, hFsOw⟩ : ∃ F, F = FsOw0 := ⟨_, rfl⟩
  have hH : SoundK Try.prog [kn_rnum GFsW, kn_ballot2 GFsR6, kn_cmd2 GFsR6, kn_attr2 GFsR6] := by subst hFsW hFsR6 hFsOw; exact orK_ok ok_rnum (orK_ok ok_ballot2 (orK_ok ok_cmd2 (orK_ok ok_attr2 noK_ok)))
  have hB : SoundB Try.prog [kb_flagO GFsOw] := by subst hFsW hFsR6 hFsOw; exact orB_ok okb_flagO noB_ok
  refine FnD_cbv (T := fun _ => tabY [] [4]) (H := fun _ => [kn_rnum GFsW, kn_ballot2 GFsR6, kn_cmd2 GFsR6, kn_attr2 GFsR6]) (tabY_ok _ _) hH follows_mixed Try.func14 rfl Try.ntmps14 (by simp) fun A X W hA hX hW => ?_
  cbv
  have h0 : A.cmp .eql c_status 0 = false := by subst hA; simp only [A0]; exact decide_eq_false hs
  cbv at h0
  repeat' first
    | (simp only [h0]; cbv)
    | (refine part (fun h => ?_) (fun h => ?_) <;> try cbv)
    | (refine And.intro ?_ ?_)
    | (with_reducible refine callB hX hB ?_) <;> cbv
    | (with_reducible refine regionB [44] (T := fun _ => tabY [] []) (H := fun _ => [kn_rnum GFsW, kn_ballot2 GFsR6, kn_cmd2 GFsR6, kn_attr2 GFsR6]) (B := fun _ => [kb_flagO GFsOw]) (A := A) (tabY_ok _ _) hH hB follows_mixed hA hX (by kernel_rfl) (by kernel_rfl) ?_) <;> cbv
  all_goals subst hA hX hW hFsW hFsR6 hFsOw
  all_goals clear hH hB
  all_goals try simp only [A0, nc, FsW0, FsR60, FsOw0] at *
  all_goals have b0 : isBn 1500000 xs := hp0
  all_goals have b1 := b0.num c_status
  all_goals have b2 := b1.ballot ⟨c_pe, c_pr⟩
  all_goals have b3 := b2.ballot ⟨c_ve, c_vr⟩
  all_goals have b4 := b3.cmdX hrp.1
  all_goals have b5 := b4.dput ⟨c_aseq, c_ad0, c_ad1, c_ad2, c_ad3, c_ad4, c_ad5, c_ad6⟩
  all_goals first
    | rfl
    | (show Region.lexB _ _ = true; kernel_rfl)
    | (show turnsI _ _ = true; kernel_rfl)
    | exact b0.le (by omega)
    | exact b1.mono (by omega)
    | exact b2.mono (by omega)
    | exact b3.mono (by omega)
    | exact b4.mono (by omega)
    | exact b5.le (by omega)
    | exact k0
    | exact k1
    | exact k2
    | exact k3
    | exact k4
    | (unfold putCellM
       split
       all_goals first
         | (exfalso; rename_i hq; exact hs hq)
         | (exfalso; rename_i hq; exact hq hs)
         | exact own_keep (b := 1) rfl rfl rfl rfl)
    | fail
theorem w_cellL (xs : List (List PD)) (c : Cell) (hp0 : isBn 1500000 xs) (hp1 : okCell c) (hp2 : rightCell c = true) : FnD Try.prog 14 [.d (.slc 1 xs), c.D] [] (ownV 20 (putCellM xs c)) := by
  by_cases hs : c.status = 0
  · exact w_cellL0 xs c hp0 hp1 hp2 hs
  · exact w_cellL1 xs c hp0 hp1 hp2 hs
end Go.Proofs.Ytbhapclaochcnaa
namespace Go.Proofs.Ytbhapclaochcnaa
open Go.RowKit
set_option linter.all false
set_option maxHeartbeats 8000000
theorem own_keepL {L : List (List PD)} {v m b : Nat} {cs : List DV} {st : Store} (hk : keepB 0 [b] st.length = true) (hb : st[b]? = some ⟨5, cs, true, v, true⟩) (hcs : cs = rowsD L) (hm : m = L.length) : RetW 0 (ownL L) (.view 1 b v 0 m) st := by
  obtain ⟨d, st, h1, h2⟩ := own_keep (L := L) hk hb hcs hm
  exact ⟨d, st, h1, v, h2⟩
set_option maxRecDepth 100000 in
theorem w_plL1 (m : Letter) (hp0 : okLet m) (hr : rightL m = true) (e : m.lkind = 1) : FnD Try.prog 18 [m.D] [] (ownL (putLet m)) := by
  obtain ⟨m_lkind, m_src, m_dst, m_irep, m_islot, m_be, m_br, m_mkind, m_mclient, m_mseq, m_mkey, m_mfin, m_mold, m_mval, m_tseq, m_td0, m_td1, m_td2, m_td3, m_td4, m_td5, m_td6, m_lstatus, m_lpe, m_lpr, m_lve, m_lvr, m_lckind, m_lcclient, m_lcseq, m_lckey, m_lcfin, m_lcold, m_lcval, m_laseq, m_lad0, m_lad1, m_lad2, m_lad3, m_lad4, m_lad5, m_lad6, m_lsame, m_fd0, m_fd1, m_fd2, m_fd3, m_fd4, m_fd5, m_fd6, m_data⟩ := m
  replace e : m_lkind = 1 := e
  subst e
  have hrp := rightL_parts hr
  obtain ⟨GFsR5, hFsR5⟩ : ∃ F, F = FsR50 := ⟨_, rfl⟩
  obtain ⟨GFsW, hFsW⟩ : ∃ F, F = FsW0 := ⟨_, rfl⟩
  obtain ⟨GFsR6, hFsR6⟩ : ∃ F, F = FsR60 := ⟨_, rfl⟩
  obtain ⟨GFsOw, hFsOw⟩ : ∃ F, F = FsOw0 := ⟨_, rfl⟩
  have hH : SoundK Try.prog [kn_rightL2 GFsR5, kn_rnum GFsW, kn_inst2 GFsR6, kn_ballot2 GFsR6, kn_cmd2 GFsR6, kn_putCell2 GFsR6, kn_rtext GFsW] := by subst hFsR5 hFsW hFsR6 hFsOw; exact orK_ok ok_rightL2 (orK_ok ok_rnum (orK_ok ok_inst2 (orK_ok ok_ballot2 (orK_ok ok_cmd2 (orK_ok ok_putCell2 (orK_ok ok_rtext noK_ok))))))
  have hB : SoundB Try.prog [kb_attrO GFsOw] := by subst hFsR5 hFsW hFsR6 hFsOw; exact orB_ok okb_attrO noB_ok
  refine FnD_cbv (T := fun _ => tabY [5003] [12]) (H := fun _ => [kn_rightL2 GFsR5, kn_rnum GFsW, kn_inst2 GFsR6, kn_ballot2 GFsR6, kn_cmd2 GFsR6, kn_putCell2 GFsR6, kn_rtext GFsW]) (tabY_ok _ _) hH follows_mixed Try.func18 rfl Try.ntmps18 (by simp) fun A X W hA hX hW => ?_
  cbv
  have l0 : A.cmp .lss 0 7 = true := by subst hA; rfl
  cbv at l0
  have l1 : A.cmp .lss 1 7 = true := by subst hA; rfl
  cbv at l1
  have l2 : A.cmp .lss 2 7 = true := by subst hA; rfl
  cbv at l2
  have l3 : A.cmp .lss 3 7 = true := by subst hA; rfl
  cbv at l3
  have l4 : A.cmp .lss 4 7 = true := by subst hA; rfl
  cbv at l4
  have l5 : A.cmp .lss 5 7 = true := by subst hA; rfl
  cbv at l5
  have l6 : A.cmp .lss 6 7 = true := by subst hA; rfl
  cbv at l6
  have l7 : A.cmp .lss 7 7 = false := by subst hA; rfl
  cbv at l7
  have b0 : A.bin .add .i64 0 1 = 1 := by subst hA; rfl
  cbv at b0
  have b1 : A.bin .add .i64 1 1 = 2 := by subst hA; rfl
  cbv at b1
  have b2 : A.bin .add .i64 2 1 = 3 := by subst hA; rfl
  cbv at b2
  have b3 : A.bin .add .i64 3 1 = 4 := by subst hA; rfl
  cbv at b3
  have b4 : A.bin .add .i64 4 1 = 5 := by subst hA; rfl
  cbv at b4
  have b5 : A.bin .add .i64 5 1 = 6 := by subst hA; rfl
  cbv at b5
  have b6 : A.bin .add .i64 6 1 = 7 := by subst hA; rfl
  cbv at b6
  have o0_0 : A.off 0 0 1 = 0 := by subst hA; rfl
  cbv at o0_0
  have o0_1 : A.off 0 1 1 = 1 := by subst hA; rfl
  cbv at o0_1
  have o0_2 : A.off 0 2 1 = 2 := by subst hA; rfl
  cbv at o0_2
  have o0_3 : A.off 0 3 1 = 3 := by subst hA; rfl
  cbv at o0_3
  have o0_4 : A.off 0 4 1 = 4 := by subst hA; rfl
  cbv at o0_4
  have o0_5 : A.off 0 5 1 = 5 := by subst hA; rfl
  cbv at o0_5
  have o0_6 : A.off 0 6 1 = 6 := by subst hA; rfl
  cbv at o0_6
  have hq : GFsR5.rightL2 (⟨1, m_src, m_dst, m_irep, m_islot, m_be, m_br, m_mkind, m_mclient, m_mseq, m_mkey, m_mfin, m_mold, m_mval, m_tseq, m_td0, m_td1, m_td2, m_td3, m_td4, m_td5, m_td6, m_lstatus, m_lpe, m_lpr, m_lve, m_lvr, m_lckind, m_lcclient, m_lcseq, m_lckey, m_lcfin, m_lcold, m_lcval, m_laseq, m_lad0, m_lad1, m_lad2, m_lad3, m_lad4, m_lad5, m_lad6, m_lsame, m_fd0, m_fd1, m_fd2, m_fd3, m_fd4, m_fd5, m_fd6, m_data⟩ : Letter) = true := by subst hFsR5; exact hr
  have nt : A.not true = false := by subst hA; rfl
  cbv at hq nt
  have f1 : A.cmp .lss 1 1 = false := by subst hA; rfl
  have f2 : A.cmp .gtr 1 11 = false := by subst hA; rfl
  have f3 : A.cmp .lss 1 9 = true := by subst hA; rfl
  have f4 : A.cmp .neq 1 5 = true := by subst hA; rfl
  have g0 : A.cmp .eql 1 1 = true := by subst hA; rfl
  have g1 : A.cmp .eql 1 3 = false := by subst hA; rfl
  have g2 : A.cmp .eql 1 5 = false := by subst hA; rfl
  have g3 : A.cmp .eql 1 2 = false := by subst hA; rfl
  have g4 : A.cmp .eql 1 7 = false := by subst hA; rfl
  have g5 : A.cmp .eql 1 9 = false := by subst hA; rfl
  have g6 : A.cmp .eql 1 11 = false := by subst hA; rfl
  have g7 : A.cmp .eql 1 10 = false := by subst hA; rfl
  have ftf : A.cond false true false = false := by subst hA; rfl
  have fff : A.cond false false false = false := by subst hA; rfl
  cbv at f1 f2 f3 f4 g0 g1 g2 g3 g4 g5 g6 g7 ftf fff
  repeat' first
    | (simp only [hq, nt, f1, f2, f3, f4, g0, g1, g2, g3, g4, g5, g6, g7, ftf, fff, l0, l1, l2, l3, l4, l5, l6, l7, b0, b1, b2, b3, b4, b5, b6, o0_0, o0_1, o0_2, o0_3, o0_4, o0_5, o0_6]; cbv)
    | (refine And.intro ?_ ?_)
    | ((with_reducible refine callB hX hB ?_) <;> cbv)
    | ((with_reducible refine regionB [45] (T := fun _ => tabY [5003] []) (H := fun _ => [kn_rightL2 GFsR5, kn_rnum GFsW, kn_inst2 GFsR6, kn_ballot2 GFsR6, kn_cmd2 GFsR6, kn_putCell2 GFsR6, kn_rtext GFsW]) (B := fun _ => [kb_attrO GFsOw]) (A := A) (tabY_ok _ _) hH hB follows_mixed hA hX (by kernel_rfl) (by kernel_rfl) ?_) <;> cbv)
  all_goals clear hH hB
  all_goals subst hA hX hW hFsR5 hFsW hFsR6 hFsOw
  all_goals obtain ⟨⟨k0, k1, k2⟩, ⟨k3, k4⟩, k5, k6, k7, k8, ⟨f0, f1, f2, f3, f4, f5, f6⟩, kd⟩ : okLet (⟨1, m_src, m_dst, m_irep, m_islot, m_be, m_br, m_mkind, m_mclient, m_mseq, m_mkey, m_mfin, m_mold, m_mval, m_tseq, m_td0, m_td1, m_td2, m_td3, m_td4, m_td5, m_td6, m_lstatus, m_lpe, m_lpr, m_lve, m_lvr, m_lckind, m_lcclient, m_lcseq, m_lckey, m_lcfin, m_lcold, m_lcval, m_laseq, m_lad0, m_lad1, m_lad2, m_lad3, m_lad4, m_lad5, m_lad6, m_lsame, m_fd0, m_fd1, m_fd2, m_fd3, m_fd4, m_fd5, m_fd6, m_data⟩ : Letter) := hp0
  all_goals have b0 : isBn 0 [] := ⟨[], rfl, Nat.le_refl _⟩
  all_goals have b1 := (isBn.num b0 1)
  all_goals have b2 := (isBn.num b1 m_src)
  all_goals have b3 := (isBn.num b2 m_dst)
  all_goals have b4 := (isBn.num b3 m_irep)
  all_goals have b5 := (isBn.num b4 m_islot)
  all_goals have b6 := (isBn.ballot b5 ⟨m_be, m_br⟩)
  all_goals have b7 := (isBn.cmdX b6 hrp.1)
  all_goals have b8 := (isBn.dput b7 ⟨m_tseq, m_td0, m_td1, m_td2, m_td3, m_td4, m_td5, m_td6⟩)
  all_goals first
    | (show Region.lexB _ _ = true; kernel_rfl)
    | exact k0
    | exact k1
    | exact k2
    | exact ⟨k3, k4⟩
    | exact k5
    | exact k6
    | exact k7
    | exact k8
    | exact hrp.2.2
    | (show szT _; unfold szT; exact Nat.le_trans kd (by decide))
    | exact b0.le (by omega)
    | exact b0.mono (by omega)
    | exact b1.le (by omega)
    | exact b1.mono (by omega)
    | exact b2.le (by omega)
    | exact b2.mono (by omega)
    | exact b3.le (by omega)
    | exact b3.mono (by omega)
    | exact b4.le (by omega)
    | exact b4.mono (by omega)
    | exact b5.le (by omega)
    | exact b5.mono (by omega)
    | exact b6.le (by omega)
    | exact b6.mono (by omega)
    | exact b7.le (by omega)
    | exact b7.mono (by omega)
    | exact b8.le (by omega)
    | exact b8.mono (by omega)
    | (simp only [hq, nt, A0]; intros; first | assumption | trivial | (simp_all; done))
    | (have hc : rightC ⟨m_mkind, m_mclient, m_mseq, m_mkey, m_mfin, m_mold, m_mval⟩ = true := hrp.1
       have hl : rightCell ⟨m_lstatus, m_lpe, m_lpr, m_lve, m_lvr, m_lckind, m_lcclient, m_lcseq, m_lckey, m_lcfin, m_lcold, m_lcval, m_laseq, m_lad0, m_lad1, m_lad2, m_lad3, m_lad4, m_lad5, m_lad6, m_lsame⟩ = true := hrp.2.2
       first
         | refine own_keepL (L := putLet (⟨1, m_src, m_dst, m_irep, m_islot, m_be, m_br, m_mkind, m_mclient, m_mseq, m_mkey, m_mfin, m_mold, m_mval, m_tseq, m_td0, m_td1, m_td2, m_td3, m_td4, m_td5, m_td6, m_lstatus, m_lpe, m_lpr, m_lve, m_lvr, m_lckind, m_lcclient, m_lcseq, m_lckey, m_lcfin, m_lcold, m_lcval, m_laseq, m_lad0, m_lad1, m_lad2, m_lad3, m_lad4, m_lad5, m_lad6, m_lsame, m_fd0, m_fd1, m_fd2, m_fd3, m_fd4, m_fd5, m_fd6, m_data⟩ : Letter)) rfl rfl (hcs.trans (congrArg rowsD ?_)) (hm.trans (congrArg List.length ?_))
         | refine own_keepL (L := putLet (⟨1, m_src, m_dst, m_irep, m_islot, m_be, m_br, m_mkind, m_mclient, m_mseq, m_mkey, m_mfin, m_mold, m_mval, m_tseq, m_td0, m_td1, m_td2, m_td3, m_td4, m_td5, m_td6, m_lstatus, m_lpe, m_lpr, m_lve, m_lvr, m_lckind, m_lcclient, m_lcseq, m_lckey, m_lcfin, m_lcold, m_lcval, m_laseq, m_lad0, m_lad1, m_lad2, m_lad3, m_lad4, m_lad5, m_lad6, m_lsame, m_fd0, m_fd1, m_fd2, m_fd3, m_fd4, m_fd5, m_fd6, m_data⟩ : Letter)) rfl rfl (congrArg rowsD ?_) (congrArg List.length ?_)
       all_goals
         unfold putLet
         rw [if_pos hr]
         try simp only [A0, nc, FsR50, FsW0, FsR60, FsOw0, cmdX_put hc, putCellM_eq hl]
         rfl)
    | (simp; done)
    | exact ⟨by decide, by decide⟩
    | fail
set_option maxRecDepth 100000 in
theorem w_plL2 (m : Letter) (hp0 : okLet m) (hr : rightL m = true) (e : m.lkind = 2) : FnD Try.prog 18 [m.D] [] (ownL (putLet m)) := by
  obtain ⟨m_lkind, m_src, m_dst, m_irep, m_islot, m_be, m_br, m_mkind, m_mclient, m_mseq, m_mkey, m_mfin, m_mold, m_mval, m_tseq, m_td0, m_td1, m_td2, m_td3, m_td4, m_td5, m_td6, m_lstatus, m_lpe, m_lpr, m_lve, m_lvr, m_lckind, m_lcclient, m_lcseq, m_lckey, m_lcfin, m_lcold, m_lcval, m_laseq, m_lad0, m_lad1, m_lad2, m_lad3, m_lad4, m_lad5, m_lad6, m_lsame, m_fd0, m_fd1, m_fd2, m_fd3, m_fd4, m_fd5, m_fd6, m_data⟩ := m
  replace e : m_lkind = 2 := e
  subst e
  have hrp := rightL_parts hr
  obtain ⟨GFsR5, hFsR5⟩ : ∃ F, F = FsR50 := ⟨_, rfl⟩
  obtain ⟨GFsW, hFsW⟩ : ∃ F, F = FsW0 := ⟨_, rfl⟩
  obtain ⟨GFsR6, hFsR6⟩ : ∃ F, F = FsR60 := ⟨_, rfl⟩
  obtain ⟨GFsOw, hFsOw⟩ : ∃ F, F = FsOw0 := ⟨_, rfl⟩
  have hH : SoundK Try.prog [kn_rightL2 GFsR5, kn_rnum GFsW, kn_inst2 GFsR6, kn_ballot2 GFsR6, kn_cmd2 GFsR6, kn_putCell2 GFsR6, kn_rtext GFsW] := by subst hFsR5 hFsW hFsR6 hFsOw; exact orK_ok ok_rightL2 (orK_ok ok_rnum (orK_ok ok_inst2 (orK_ok ok_ballot2 (orK_ok ok_cmd2 (orK_ok ok_putCell2 (orK_ok ok_rtext noK_ok))))))
  have hB : SoundB Try.prog [kb_attrO GFsOw] := by subst hFsR5 hFsW hFsR6 hFsOw; exact orB_ok okb_attrO noB_ok
  refine FnD_cbv (T := fun _ => tabY [5003] []) (H := fun _ => [kn_rightL2 GFsR5, kn_rnum GFsW, kn_inst2 GFsR6, kn_ballot2 GFsR6, kn_cmd2 GFsR6, kn_putCell2 GFsR6, kn_rtext GFsW]) (tabY_ok _ _) hH follows_mixed Try.func18 rfl Try.ntmps18 (by simp) fun A X W hA hX hW => ?_
  cbv
  have l0 : A.cmp .lss 0 7 = true := by subst hA; rfl
  cbv at l0
  have l1 : A.cmp .lss 1 7 = true := by subst hA; rfl
  cbv at l1
  have l2 : A.cmp .lss 2 7 = true := by subst hA; rfl
  cbv at l2
  have l3 : A.cmp .lss 3 7 = true := by subst hA; rfl
  cbv at l3
  have l4 : A.cmp .lss 4 7 = true := by subst hA; rfl
  cbv at l4
  have l5 : A.cmp .lss 5 7 = true := by subst hA; rfl
  cbv at l5
  have l6 : A.cmp .lss 6 7 = true := by subst hA; rfl
  cbv at l6
  have l7 : A.cmp .lss 7 7 = false := by subst hA; rfl
  cbv at l7
  have b0 : A.bin .add .i64 0 1 = 1 := by subst hA; rfl
  cbv at b0
  have b1 : A.bin .add .i64 1 1 = 2 := by subst hA; rfl
  cbv at b1
  have b2 : A.bin .add .i64 2 1 = 3 := by subst hA; rfl
  cbv at b2
  have b3 : A.bin .add .i64 3 1 = 4 := by subst hA; rfl
  cbv at b3
  have b4 : A.bin .add .i64 4 1 = 5 := by subst hA; rfl
  cbv at b4
  have b5 : A.bin .add .i64 5 1 = 6 := by subst hA; rfl
  cbv at b5
  have b6 : A.bin .add .i64 6 1 = 7 := by subst hA; rfl
  cbv at b6
  have o0_0 : A.off 0 0 1 = 0 := by subst hA; rfl
  cbv at o0_0
  have o0_1 : A.off 0 1 1 = 1 := by subst hA; rfl
  cbv at o0_1
  have o0_2 : A.off 0 2 1 = 2 := by subst hA; rfl
  cbv at o0_2
  have o0_3 : A.off 0 3 1 = 3 := by subst hA; rfl
  cbv at o0_3
  have o0_4 : A.off 0 4 1 = 4 := by subst hA; rfl
  cbv at o0_4
  have o0_5 : A.off 0 5 1 = 5 := by subst hA; rfl
  cbv at o0_5
  have o0_6 : A.off 0 6 1 = 6 := by subst hA; rfl
  cbv at o0_6
  have hq : GFsR5.rightL2 (⟨2, m_src, m_dst, m_irep, m_islot, m_be, m_br, m_mkind, m_mclient, m_mseq, m_mkey, m_mfin, m_mold, m_mval, m_tseq, m_td0, m_td1, m_td2, m_td3, m_td4, m_td5, m_td6, m_lstatus, m_lpe, m_lpr, m_lve, m_lvr, m_lckind, m_lcclient, m_lcseq, m_lckey, m_lcfin, m_lcold, m_lcval, m_laseq, m_lad0, m_lad1, m_lad2, m_lad3, m_lad4, m_lad5, m_lad6, m_lsame, m_fd0, m_fd1, m_fd2, m_fd3, m_fd4, m_fd5, m_fd6, m_data⟩ : Letter) = true := by subst hFsR5; exact hr
  have nt : A.not true = false := by subst hA; rfl
  cbv at hq nt
  have f1 : A.cmp .lss 2 1 = false := by subst hA; rfl
  have f2 : A.cmp .gtr 2 11 = false := by subst hA; rfl
  have f3 : A.cmp .lss 2 9 = true := by subst hA; rfl
  have f4 : A.cmp .neq 2 5 = true := by subst hA; rfl
  have g0 : A.cmp .eql 2 1 = false := by subst hA; rfl
  have g1 : A.cmp .eql 2 3 = false := by subst hA; rfl
  have g2 : A.cmp .eql 2 5 = false := by subst hA; rfl
  have g3 : A.cmp .eql 2 2 = true := by subst hA; rfl
  have g4 : A.cmp .eql 2 7 = false := by subst hA; rfl
  have g5 : A.cmp .eql 2 9 = false := by subst hA; rfl
  have g6 : A.cmp .eql 2 11 = false := by subst hA; rfl
  have g7 : A.cmp .eql 2 10 = false := by subst hA; rfl
  have ftf : A.cond false true false = false := by subst hA; rfl
  have fff : A.cond false false false = false := by subst hA; rfl
  cbv at f1 f2 f3 f4 g0 g1 g2 g3 g4 g5 g6 g7 ftf fff
  repeat' first
    | (simp only [hq, nt, f1, f2, f3, f4, g0, g1, g2, g3, g4, g5, g6, g7, ftf, fff, l0, l1, l2, l3, l4, l5, l6, l7, b0, b1, b2, b3, b4, b5, b6, o0_0, o0_1, o0_2, o0_3, o0_4, o0_5, o0_6]; cbv)
    | (refine And.intro ?_ ?_)
    | ((with_reducible refine callB hX hB ?_) <;> cbv)
    | ((with_reducible refine regionB [45] (T := fun _ => tabY [5003] []) (H := fun _ => [kn_rightL2 GFsR5, kn_rnum GFsW, kn_inst2 GFsR6, kn_ballot2 GFsR6, kn_cmd2 GFsR6, kn_putCell2 GFsR6, kn_rtext GFsW]) (B := fun _ => [kb_attrO GFsOw]) (A := A) (tabY_ok _ _) hH hB follows_mixed hA hX (by kernel_rfl) (by kernel_rfl) ?_) <;> cbv)
  all_goals clear hH hB
  all_goals subst hA hX hW hFsR5 hFsW hFsR6 hFsOw
  all_goals obtain ⟨⟨k0, k1, k2⟩, ⟨k3, k4⟩, k5, k6, k7, k8, ⟨f0, f1, f2, f3, f4, f5, f6⟩, kd⟩ : okLet (⟨2, m_src, m_dst, m_irep, m_islot, m_be, m_br, m_mkind, m_mclient, m_mseq, m_mkey, m_mfin, m_mold, m_mval, m_tseq, m_td0, m_td1, m_td2, m_td3, m_td4, m_td5, m_td6, m_lstatus, m_lpe, m_lpr, m_lve, m_lvr, m_lckind, m_lcclient, m_lcseq, m_lckey, m_lcfin, m_lcold, m_lcval, m_laseq, m_lad0, m_lad1, m_lad2, m_lad3, m_lad4, m_lad5, m_lad6, m_lsame, m_fd0, m_fd1, m_fd2, m_fd3, m_fd4, m_fd5, m_fd6, m_data⟩ : Letter) := hp0
  all_goals have b0 : isBn 0 [] := ⟨[], rfl, Nat.le_refl _⟩
  all_goals have b1 := (isBn.num b0 2)
  all_goals have b2 := (isBn.num b1 m_src)
  all_goals have b3 := (isBn.num b2 m_dst)
  all_goals have b4 := (isBn.num b3 m_irep)
  all_goals have b5 := (isBn.num b4 m_islot)
  all_goals have b6 := (isBn.ballot b5 ⟨m_be, m_br⟩)
  all_goals have b7 := (isBn.dput b6 ⟨m_tseq, m_td0, m_td1, m_td2, m_td3, m_td4, m_td5, m_td6⟩)
  all_goals first
    | (show Region.lexB _ _ = true; kernel_rfl)
    | exact k0
    | exact k1
    | exact k2
    | exact ⟨k3, k4⟩
    | exact k5
    | exact k6
    | exact k7
    | exact k8
    | exact hrp.2.2
    | (show szT _; unfold szT; exact Nat.le_trans kd (by decide))
    | exact b0.le (by omega)
    | exact b0.mono (by omega)
    | exact b1.le (by omega)
    | exact b1.mono (by omega)
    | exact b2.le (by omega)
    | exact b2.mono (by omega)
    | exact b3.le (by omega)
    | exact b3.mono (by omega)
    | exact b4.le (by omega)
    | exact b4.mono (by omega)
    | exact b5.le (by omega)
    | exact b5.mono (by omega)
    | exact b6.le (by omega)
    | exact b6.mono (by omega)
    | exact b7.le (by omega)
    | exact b7.mono (by omega)
    | (simp only [hq, nt, A0]; intros; first | assumption | trivial | (simp_all; done))
    | (have hc : rightC ⟨m_mkind, m_mclient, m_mseq, m_mkey, m_mfin, m_mold, m_mval⟩ = true := hrp.1
       have hl : rightCell ⟨m_lstatus, m_lpe, m_lpr, m_lve, m_lvr, m_lckind, m_lcclient, m_lcseq, m_lckey, m_lcfin, m_lcold, m_lcval, m_laseq, m_lad0, m_lad1, m_lad2, m_lad3, m_lad4, m_lad5, m_lad6, m_lsame⟩ = true := hrp.2.2
       first
         | refine own_keepL (L := putLet (⟨2, m_src, m_dst, m_irep, m_islot, m_be, m_br, m_mkind, m_mclient, m_mseq, m_mkey, m_mfin, m_mold, m_mval, m_tseq, m_td0, m_td1, m_td2, m_td3, m_td4, m_td5, m_td6, m_lstatus, m_lpe, m_lpr, m_lve, m_lvr, m_lckind, m_lcclient, m_lcseq, m_lckey, m_lcfin, m_lcold, m_lcval, m_laseq, m_lad0, m_lad1, m_lad2, m_lad3, m_lad4, m_lad5, m_lad6, m_lsame, m_fd0, m_fd1, m_fd2, m_fd3, m_fd4, m_fd5, m_fd6, m_data⟩ : Letter)) rfl rfl (hcs.trans (congrArg rowsD ?_)) (hm.trans (congrArg List.length ?_))
         | refine own_keepL (L := putLet (⟨2, m_src, m_dst, m_irep, m_islot, m_be, m_br, m_mkind, m_mclient, m_mseq, m_mkey, m_mfin, m_mold, m_mval, m_tseq, m_td0, m_td1, m_td2, m_td3, m_td4, m_td5, m_td6, m_lstatus, m_lpe, m_lpr, m_lve, m_lvr, m_lckind, m_lcclient, m_lcseq, m_lckey, m_lcfin, m_lcold, m_lcval, m_laseq, m_lad0, m_lad1, m_lad2, m_lad3, m_lad4, m_lad5, m_lad6, m_lsame, m_fd0, m_fd1, m_fd2, m_fd3, m_fd4, m_fd5, m_fd6, m_data⟩ : Letter)) rfl rfl (congrArg rowsD ?_) (congrArg List.length ?_)
       all_goals
         unfold putLet
         rw [if_pos hr]
         try simp only [A0, nc, FsR50, FsW0, FsR60, FsOw0, cmdX_put hc, putCellM_eq hl]
         rfl)
    | (simp; done)
    | exact ⟨by decide, by decide⟩
    | fail
set_option maxRecDepth 100000 in
theorem w_plL3 (m : Letter) (hp0 : okLet m) (hr : rightL m = true) (e : m.lkind = 3) : FnD Try.prog 18 [m.D] [] (ownL (putLet m)) := by
  obtain ⟨m_lkind, m_src, m_dst, m_irep, m_islot, m_be, m_br, m_mkind, m_mclient, m_mseq, m_mkey, m_mfin, m_mold, m_mval, m_tseq, m_td0, m_td1, m_td2, m_td3, m_td4, m_td5, m_td6, m_lstatus, m_lpe, m_lpr, m_lve, m_lvr, m_lckind, m_lcclient, m_lcseq, m_lckey, m_lcfin, m_lcold, m_lcval, m_laseq, m_lad0, m_lad1, m_lad2, m_lad3, m_lad4, m_lad5, m_lad6, m_lsame, m_fd0, m_fd1, m_fd2, m_fd3, m_fd4, m_fd5, m_fd6, m_data⟩ := m
  replace e : m_lkind = 3 := e
  subst e
  have hrp := rightL_parts hr
  obtain ⟨GFsR5, hFsR5⟩ : ∃ F, F = FsR50 := ⟨_, rfl⟩
  obtain ⟨GFsW, hFsW⟩ : ∃ F, F = FsW0 := ⟨_, rfl⟩
  obtain ⟨GFsR6, hFsR6⟩ : ∃ F, F = FsR60 := ⟨_, rfl⟩
  obtain ⟨GFsOw, hFsOw⟩ : ∃ F, F = FsOw0 := ⟨_, rfl⟩
  have hH : SoundK Try.prog [kn_rightL2 GFsR5, kn_rnum GFsW, kn_inst2 GFsR6, kn_ballot2 GFsR6, kn_cmd2 GFsR6, kn_putCell2 GFsR6, kn_rtext GFsW] := by subst hFsR5 hFsW hFsR6 hFsOw; exact orK_ok ok_rightL2 (orK_ok ok_rnum (orK_ok ok_inst2 (orK_ok ok_ballot2 (orK_ok ok_cmd2 (orK_ok ok_putCell2 (orK_ok ok_rtext noK_ok))))))
  have hB : SoundB Try.prog [kb_attrO GFsOw] := by subst hFsR5 hFsW hFsR6 hFsOw; exact orB_ok okb_attrO noB_ok
  refine FnD_cbv (T := fun _ => tabY [5003] [12]) (H := fun _ => [kn_rightL2 GFsR5, kn_rnum GFsW, kn_inst2 GFsR6, kn_ballot2 GFsR6, kn_cmd2 GFsR6, kn_putCell2 GFsR6, kn_rtext GFsW]) (tabY_ok _ _) hH follows_mixed Try.func18 rfl Try.ntmps18 (by simp) fun A X W hA hX hW => ?_
  cbv
  have l0 : A.cmp .lss 0 7 = true := by subst hA; rfl
  cbv at l0
  have l1 : A.cmp .lss 1 7 = true := by subst hA; rfl
  cbv at l1
  have l2 : A.cmp .lss 2 7 = true := by subst hA; rfl
  cbv at l2
  have l3 : A.cmp .lss 3 7 = true := by subst hA; rfl
  cbv at l3
  have l4 : A.cmp .lss 4 7 = true := by subst hA; rfl
  cbv at l4
  have l5 : A.cmp .lss 5 7 = true := by subst hA; rfl
  cbv at l5
  have l6 : A.cmp .lss 6 7 = true := by subst hA; rfl
  cbv at l6
  have l7 : A.cmp .lss 7 7 = false := by subst hA; rfl
  cbv at l7
  have b0 : A.bin .add .i64 0 1 = 1 := by subst hA; rfl
  cbv at b0
  have b1 : A.bin .add .i64 1 1 = 2 := by subst hA; rfl
  cbv at b1
  have b2 : A.bin .add .i64 2 1 = 3 := by subst hA; rfl
  cbv at b2
  have b3 : A.bin .add .i64 3 1 = 4 := by subst hA; rfl
  cbv at b3
  have b4 : A.bin .add .i64 4 1 = 5 := by subst hA; rfl
  cbv at b4
  have b5 : A.bin .add .i64 5 1 = 6 := by subst hA; rfl
  cbv at b5
  have b6 : A.bin .add .i64 6 1 = 7 := by subst hA; rfl
  cbv at b6
  have o0_0 : A.off 0 0 1 = 0 := by subst hA; rfl
  cbv at o0_0
  have o0_1 : A.off 0 1 1 = 1 := by subst hA; rfl
  cbv at o0_1
  have o0_2 : A.off 0 2 1 = 2 := by subst hA; rfl
  cbv at o0_2
  have o0_3 : A.off 0 3 1 = 3 := by subst hA; rfl
  cbv at o0_3
  have o0_4 : A.off 0 4 1 = 4 := by subst hA; rfl
  cbv at o0_4
  have o0_5 : A.off 0 5 1 = 5 := by subst hA; rfl
  cbv at o0_5
  have o0_6 : A.off 0 6 1 = 6 := by subst hA; rfl
  cbv at o0_6
  have hq : GFsR5.rightL2 (⟨3, m_src, m_dst, m_irep, m_islot, m_be, m_br, m_mkind, m_mclient, m_mseq, m_mkey, m_mfin, m_mold, m_mval, m_tseq, m_td0, m_td1, m_td2, m_td3, m_td4, m_td5, m_td6, m_lstatus, m_lpe, m_lpr, m_lve, m_lvr, m_lckind, m_lcclient, m_lcseq, m_lckey, m_lcfin, m_lcold, m_lcval, m_laseq, m_lad0, m_lad1, m_lad2, m_lad3, m_lad4, m_lad5, m_lad6, m_lsame, m_fd0, m_fd1, m_fd2, m_fd3, m_fd4, m_fd5, m_fd6, m_data⟩ : Letter) = true := by subst hFsR5; exact hr
  have nt : A.not true = false := by subst hA; rfl
  cbv at hq nt
  have f1 : A.cmp .lss 3 1 = false := by subst hA; rfl
  have f2 : A.cmp .gtr 3 11 = false := by subst hA; rfl
  have f3 : A.cmp .lss 3 9 = true := by subst hA; rfl
  have f4 : A.cmp .neq 3 5 = true := by subst hA; rfl
  have g0 : A.cmp .eql 3 1 = false := by subst hA; rfl
  have g1 : A.cmp .eql 3 3 = true := by subst hA; rfl
  have g2 : A.cmp .eql 3 5 = false := by subst hA; rfl
  have g3 : A.cmp .eql 3 2 = false := by subst hA; rfl
  have g4 : A.cmp .eql 3 7 = false := by subst hA; rfl
  have g5 : A.cmp .eql 3 9 = false := by subst hA; rfl
  have g6 : A.cmp .eql 3 11 = false := by subst hA; rfl
  have g7 : A.cmp .eql 3 10 = false := by subst hA; rfl
  have ftf : A.cond false true false = false := by subst hA; rfl
  have fff : A.cond false false false = false := by subst hA; rfl
  cbv at f1 f2 f3 f4 g0 g1 g2 g3 g4 g5 g6 g7 ftf fff
  repeat' first
    | (simp only [hq, nt, f1, f2, f3, f4, g0, g1, g2, g3, g4, g5, g6, g7, ftf, fff, l0, l1, l2, l3, l4, l5, l6, l7, b0, b1, b2, b3, b4, b5, b6, o0_0, o0_1, o0_2, o0_3, o0_4, o0_5, o0_6]; cbv)
    | (refine And.intro ?_ ?_)
    | ((with_reducible refine callB hX hB ?_) <;> cbv)
    | ((with_reducible refine regionB [45] (T := fun _ => tabY [5003] []) (H := fun _ => [kn_rightL2 GFsR5, kn_rnum GFsW, kn_inst2 GFsR6, kn_ballot2 GFsR6, kn_cmd2 GFsR6, kn_putCell2 GFsR6, kn_rtext GFsW]) (B := fun _ => [kb_attrO GFsOw]) (A := A) (tabY_ok _ _) hH hB follows_mixed hA hX (by kernel_rfl) (by kernel_rfl) ?_) <;> cbv)
  all_goals clear hH hB
  all_goals subst hA hX hW hFsR5 hFsW hFsR6 hFsOw
  all_goals obtain ⟨⟨k0, k1, k2⟩, ⟨k3, k4⟩, k5, k6, k7, k8, ⟨f0, f1, f2, f3, f4, f5, f6⟩, kd⟩ : okLet (⟨3, m_src, m_dst, m_irep, m_islot, m_be, m_br, m_mkind, m_mclient, m_mseq, m_mkey, m_mfin, m_mold, m_mval, m_tseq, m_td0, m_td1, m_td2, m_td3, m_td4, m_td5, m_td6, m_lstatus, m_lpe, m_lpr, m_lve, m_lvr, m_lckind, m_lcclient, m_lcseq, m_lckey, m_lcfin, m_lcold, m_lcval, m_laseq, m_lad0, m_lad1, m_lad2, m_lad3, m_lad4, m_lad5, m_lad6, m_lsame, m_fd0, m_fd1, m_fd2, m_fd3, m_fd4, m_fd5, m_fd6, m_data⟩ : Letter) := hp0
  all_goals have b0 : isBn 0 [] := ⟨[], rfl, Nat.le_refl _⟩
  all_goals have b1 := (isBn.num b0 3)
  all_goals have b2 := (isBn.num b1 m_src)
  all_goals have b3 := (isBn.num b2 m_dst)
  all_goals have b4 := (isBn.num b3 m_irep)
  all_goals have b5 := (isBn.num b4 m_islot)
  all_goals have b6 := (isBn.ballot b5 ⟨m_be, m_br⟩)
  all_goals have b7 := (isBn.cmdX b6 hrp.1)
  all_goals have b8 := (isBn.dput b7 ⟨m_tseq, m_td0, m_td1, m_td2, m_td3, m_td4, m_td5, m_td6⟩)
  all_goals first
    | (show Region.lexB _ _ = true; kernel_rfl)
    | exact k0
    | exact k1
    | exact k2
    | exact ⟨k3, k4⟩
    | exact k5
    | exact k6
    | exact k7
    | exact k8
    | exact hrp.2.2
    | (show szT _; unfold szT; exact Nat.le_trans kd (by decide))
    | exact b0.le (by omega)
    | exact b0.mono (by omega)
    | exact b1.le (by omega)
    | exact b1.mono (by omega)
    | exact b2.le (by omega)
    | exact b2.mono (by omega)
    | exact b3.le (by omega)
    | exact b3.mono (by omega)
    | exact b4.le (by omega)
    | exact b4.mono (by omega)
    | exact b5.le (by omega)
    | exact b5.mono (by omega)
    | exact b6.le (by omega)
    | exact b6.mono (by omega)
    | exact b7.le (by omega)
    | exact b7.mono (by omega)
    | exact b8.le (by omega)
    | exact b8.mono (by omega)
    | (simp only [hq, nt, A0]; intros; first | assumption | trivial | (simp_all; done))
    | (have hc : rightC ⟨m_mkind, m_mclient, m_mseq, m_mkey, m_mfin, m_mold, m_mval⟩ = true := hrp.1
       have hl : rightCell ⟨m_lstatus, m_lpe, m_lpr, m_lve, m_lvr, m_lckind, m_lcclient, m_lcseq, m_lckey, m_lcfin, m_lcold, m_lcval, m_laseq, m_lad0, m_lad1, m_lad2, m_lad3, m_lad4, m_lad5, m_lad6, m_lsame⟩ = true := hrp.2.2
       first
         | refine own_keepL (L := putLet (⟨3, m_src, m_dst, m_irep, m_islot, m_be, m_br, m_mkind, m_mclient, m_mseq, m_mkey, m_mfin, m_mold, m_mval, m_tseq, m_td0, m_td1, m_td2, m_td3, m_td4, m_td5, m_td6, m_lstatus, m_lpe, m_lpr, m_lve, m_lvr, m_lckind, m_lcclient, m_lcseq, m_lckey, m_lcfin, m_lcold, m_lcval, m_laseq, m_lad0, m_lad1, m_lad2, m_lad3, m_lad4, m_lad5, m_lad6, m_lsame, m_fd0, m_fd1, m_fd2, m_fd3, m_fd4, m_fd5, m_fd6, m_data⟩ : Letter)) rfl rfl (hcs.trans (congrArg rowsD ?_)) (hm.trans (congrArg List.length ?_))
         | refine own_keepL (L := putLet (⟨3, m_src, m_dst, m_irep, m_islot, m_be, m_br, m_mkind, m_mclient, m_mseq, m_mkey, m_mfin, m_mold, m_mval, m_tseq, m_td0, m_td1, m_td2, m_td3, m_td4, m_td5, m_td6, m_lstatus, m_lpe, m_lpr, m_lve, m_lvr, m_lckind, m_lcclient, m_lcseq, m_lckey, m_lcfin, m_lcold, m_lcval, m_laseq, m_lad0, m_lad1, m_lad2, m_lad3, m_lad4, m_lad5, m_lad6, m_lsame, m_fd0, m_fd1, m_fd2, m_fd3, m_fd4, m_fd5, m_fd6, m_data⟩ : Letter)) rfl rfl (congrArg rowsD ?_) (congrArg List.length ?_)
       all_goals
         unfold putLet
         rw [if_pos hr]
         try simp only [A0, nc, FsR50, FsW0, FsR60, FsOw0, cmdX_put hc, putCellM_eq hl]
         rfl)
    | (simp; done)
    | exact ⟨by decide, by decide⟩
    | fail
set_option maxRecDepth 100000 in
theorem w_plL4 (m : Letter) (hp0 : okLet m) (hr : rightL m = true) (e : m.lkind = 4) : FnD Try.prog 18 [m.D] [] (ownL (putLet m)) := by
  obtain ⟨m_lkind, m_src, m_dst, m_irep, m_islot, m_be, m_br, m_mkind, m_mclient, m_mseq, m_mkey, m_mfin, m_mold, m_mval, m_tseq, m_td0, m_td1, m_td2, m_td3, m_td4, m_td5, m_td6, m_lstatus, m_lpe, m_lpr, m_lve, m_lvr, m_lckind, m_lcclient, m_lcseq, m_lckey, m_lcfin, m_lcold, m_lcval, m_laseq, m_lad0, m_lad1, m_lad2, m_lad3, m_lad4, m_lad5, m_lad6, m_lsame, m_fd0, m_fd1, m_fd2, m_fd3, m_fd4, m_fd5, m_fd6, m_data⟩ := m
  replace e : m_lkind = 4 := e
  subst e
  have hrp := rightL_parts hr
  obtain ⟨GFsR5, hFsR5⟩ : ∃ F, F = FsR50 := ⟨_, rfl⟩
  obtain ⟨GFsW, hFsW⟩ : ∃ F, F = FsW0 := ⟨_, rfl⟩
  obtain ⟨GFsR6, hFsR6⟩ : ∃ F, F = FsR60 := ⟨_, rfl⟩
  obtain ⟨GFsOw, hFsOw⟩ : ∃ F, F = FsOw0 := ⟨_, rfl⟩
  have hH : SoundK Try.prog [kn_rightL2 GFsR5, kn_rnum GFsW, kn_inst2 GFsR6, kn_cmd2 GFsR6, kn_attr2 GFsR6, kn_putCell2 GFsR6, kn_rtext GFsW] := by subst hFsR5 hFsW hFsR6 hFsOw; exact orK_ok ok_rightL2 (orK_ok ok_rnum (orK_ok ok_inst2 (orK_ok ok_cmd2 (orK_ok ok_attr2 (orK_ok ok_putCell2 (orK_ok ok_rtext noK_ok))))))
  have hB : SoundB Try.prog [kb_ballotO GFsOw] := by subst hFsR5 hFsW hFsR6 hFsOw; exact orB_ok okb_ballotO noB_ok
  refine FnD_cbv (T := fun _ => tabY [5003] []) (H := fun _ => [kn_rightL2 GFsR5, kn_rnum GFsW, kn_inst2 GFsR6, kn_cmd2 GFsR6, kn_attr2 GFsR6, kn_putCell2 GFsR6, kn_rtext GFsW]) (tabY_ok _ _) hH follows_mixed Try.func18 rfl Try.ntmps18 (by simp) fun A X W hA hX hW => ?_
  cbv
  have l0 : A.cmp .lss 0 7 = true := by subst hA; rfl
  cbv at l0
  have l1 : A.cmp .lss 1 7 = true := by subst hA; rfl
  cbv at l1
  have l2 : A.cmp .lss 2 7 = true := by subst hA; rfl
  cbv at l2
  have l3 : A.cmp .lss 3 7 = true := by subst hA; rfl
  cbv at l3
  have l4 : A.cmp .lss 4 7 = true := by subst hA; rfl
  cbv at l4
  have l5 : A.cmp .lss 5 7 = true := by subst hA; rfl
  cbv at l5
  have l6 : A.cmp .lss 6 7 = true := by subst hA; rfl
  cbv at l6
  have l7 : A.cmp .lss 7 7 = false := by subst hA; rfl
  cbv at l7
  have b0 : A.bin .add .i64 0 1 = 1 := by subst hA; rfl
  cbv at b0
  have b1 : A.bin .add .i64 1 1 = 2 := by subst hA; rfl
  cbv at b1
  have b2 : A.bin .add .i64 2 1 = 3 := by subst hA; rfl
  cbv at b2
  have b3 : A.bin .add .i64 3 1 = 4 := by subst hA; rfl
  cbv at b3
  have b4 : A.bin .add .i64 4 1 = 5 := by subst hA; rfl
  cbv at b4
  have b5 : A.bin .add .i64 5 1 = 6 := by subst hA; rfl
  cbv at b5
  have b6 : A.bin .add .i64 6 1 = 7 := by subst hA; rfl
  cbv at b6
  have o0_0 : A.off 0 0 1 = 0 := by subst hA; rfl
  cbv at o0_0
  have o0_1 : A.off 0 1 1 = 1 := by subst hA; rfl
  cbv at o0_1
  have o0_2 : A.off 0 2 1 = 2 := by subst hA; rfl
  cbv at o0_2
  have o0_3 : A.off 0 3 1 = 3 := by subst hA; rfl
  cbv at o0_3
  have o0_4 : A.off 0 4 1 = 4 := by subst hA; rfl
  cbv at o0_4
  have o0_5 : A.off 0 5 1 = 5 := by subst hA; rfl
  cbv at o0_5
  have o0_6 : A.off 0 6 1 = 6 := by subst hA; rfl
  cbv at o0_6
  have hq : GFsR5.rightL2 (⟨4, m_src, m_dst, m_irep, m_islot, m_be, m_br, m_mkind, m_mclient, m_mseq, m_mkey, m_mfin, m_mold, m_mval, m_tseq, m_td0, m_td1, m_td2, m_td3, m_td4, m_td5, m_td6, m_lstatus, m_lpe, m_lpr, m_lve, m_lvr, m_lckind, m_lcclient, m_lcseq, m_lckey, m_lcfin, m_lcold, m_lcval, m_laseq, m_lad0, m_lad1, m_lad2, m_lad3, m_lad4, m_lad5, m_lad6, m_lsame, m_fd0, m_fd1, m_fd2, m_fd3, m_fd4, m_fd5, m_fd6, m_data⟩ : Letter) = true := by subst hFsR5; exact hr
  have nt : A.not true = false := by subst hA; rfl
  cbv at hq nt
  have f1 : A.cmp .lss 4 1 = false := by subst hA; rfl
  have f2 : A.cmp .gtr 4 11 = false := by subst hA; rfl
  have f3 : A.cmp .lss 4 9 = true := by subst hA; rfl
  have f4 : A.cmp .neq 4 5 = true := by subst hA; rfl
  have g0 : A.cmp .eql 4 1 = false := by subst hA; rfl
  have g1 : A.cmp .eql 4 3 = false := by subst hA; rfl
  have g2 : A.cmp .eql 4 5 = false := by subst hA; rfl
  have g3 : A.cmp .eql 4 2 = false := by subst hA; rfl
  have g4 : A.cmp .eql 4 7 = false := by subst hA; rfl
  have g5 : A.cmp .eql 4 9 = false := by subst hA; rfl
  have g6 : A.cmp .eql 4 11 = false := by subst hA; rfl
  have g7 : A.cmp .eql 4 10 = false := by subst hA; rfl
  have ftf : A.cond false true false = false := by subst hA; rfl
  have fff : A.cond false false false = false := by subst hA; rfl
  cbv at f1 f2 f3 f4 g0 g1 g2 g3 g4 g5 g6 g7 ftf fff
  repeat' first
    | (simp only [hq, nt, f1, f2, f3, f4, g0, g1, g2, g3, g4, g5, g6, g7, ftf, fff, l0, l1, l2, l3, l4, l5, l6, l7, b0, b1, b2, b3, b4, b5, b6, o0_0, o0_1, o0_2, o0_3, o0_4, o0_5, o0_6]; cbv)
    | (refine And.intro ?_ ?_)
    | ((with_reducible refine callB hX hB ?_) <;> cbv)
    | ((with_reducible refine regionB [45] (T := fun _ => tabY [5003] []) (H := fun _ => [kn_rightL2 GFsR5, kn_rnum GFsW, kn_inst2 GFsR6, kn_cmd2 GFsR6, kn_attr2 GFsR6, kn_putCell2 GFsR6, kn_rtext GFsW]) (B := fun _ => [kb_ballotO GFsOw]) (A := A) (tabY_ok _ _) hH hB follows_mixed hA hX (by kernel_rfl) (by kernel_rfl) ?_) <;> cbv)
  all_goals clear hH hB
  all_goals subst hA hX hW hFsR5 hFsW hFsR6 hFsOw
  all_goals obtain ⟨⟨k0, k1, k2⟩, ⟨k3, k4⟩, k5, k6, k7, k8, ⟨f0, f1, f2, f3, f4, f5, f6⟩, kd⟩ : okLet (⟨4, m_src, m_dst, m_irep, m_islot, m_be, m_br, m_mkind, m_mclient, m_mseq, m_mkey, m_mfin, m_mold, m_mval, m_tseq, m_td0, m_td1, m_td2, m_td3, m_td4, m_td5, m_td6, m_lstatus, m_lpe, m_lpr, m_lve, m_lvr, m_lckind, m_lcclient, m_lcseq, m_lckey, m_lcfin, m_lcold, m_lcval, m_laseq, m_lad0, m_lad1, m_lad2, m_lad3, m_lad4, m_lad5, m_lad6, m_lsame, m_fd0, m_fd1, m_fd2, m_fd3, m_fd4, m_fd5, m_fd6, m_data⟩ : Letter) := hp0
  all_goals have b0 : isBn 0 [] := ⟨[], rfl, Nat.le_refl _⟩
  all_goals have b1 := (isBn.num b0 4)
  all_goals have b2 := (isBn.num b1 m_src)
  all_goals have b3 := (isBn.num b2 m_dst)
  all_goals have b4 := (isBn.num b3 m_irep)
  all_goals have b5 := (isBn.num b4 m_islot)
  all_goals have b6 := (isBn.ballot b5 ⟨m_be, m_br⟩)
  all_goals first
    | (show Region.lexB _ _ = true; kernel_rfl)
    | exact k0
    | exact k1
    | exact k2
    | exact ⟨k3, k4⟩
    | exact k5
    | exact k6
    | exact k7
    | exact k8
    | exact hrp.2.2
    | (show szT _; unfold szT; exact Nat.le_trans kd (by decide))
    | exact b0.le (by omega)
    | exact b0.mono (by omega)
    | exact b1.le (by omega)
    | exact b1.mono (by omega)
    | exact b2.le (by omega)
    | exact b2.mono (by omega)
    | exact b3.le (by omega)
    | exact b3.mono (by omega)
    | exact b4.le (by omega)
    | exact b4.mono (by omega)
    | exact b5.le (by omega)
    | exact b5.mono (by omega)
    | exact b6.le (by omega)
    | exact b6.mono (by omega)
    | (simp only [hq, nt, A0]; intros; first | assumption | trivial | (simp_all; done))
    | (have hc : rightC ⟨m_mkind, m_mclient, m_mseq, m_mkey, m_mfin, m_mold, m_mval⟩ = true := hrp.1
       have hl : rightCell ⟨m_lstatus, m_lpe, m_lpr, m_lve, m_lvr, m_lckind, m_lcclient, m_lcseq, m_lckey, m_lcfin, m_lcold, m_lcval, m_laseq, m_lad0, m_lad1, m_lad2, m_lad3, m_lad4, m_lad5, m_lad6, m_lsame⟩ = true := hrp.2.2
       first
         | refine own_keepL (L := putLet (⟨4, m_src, m_dst, m_irep, m_islot, m_be, m_br, m_mkind, m_mclient, m_mseq, m_mkey, m_mfin, m_mold, m_mval, m_tseq, m_td0, m_td1, m_td2, m_td3, m_td4, m_td5, m_td6, m_lstatus, m_lpe, m_lpr, m_lve, m_lvr, m_lckind, m_lcclient, m_lcseq, m_lckey, m_lcfin, m_lcold, m_lcval, m_laseq, m_lad0, m_lad1, m_lad2, m_lad3, m_lad4, m_lad5, m_lad6, m_lsame, m_fd0, m_fd1, m_fd2, m_fd3, m_fd4, m_fd5, m_fd6, m_data⟩ : Letter)) rfl rfl (hcs.trans (congrArg rowsD ?_)) (hm.trans (congrArg List.length ?_))
         | refine own_keepL (L := putLet (⟨4, m_src, m_dst, m_irep, m_islot, m_be, m_br, m_mkind, m_mclient, m_mseq, m_mkey, m_mfin, m_mold, m_mval, m_tseq, m_td0, m_td1, m_td2, m_td3, m_td4, m_td5, m_td6, m_lstatus, m_lpe, m_lpr, m_lve, m_lvr, m_lckind, m_lcclient, m_lcseq, m_lckey, m_lcfin, m_lcold, m_lcval, m_laseq, m_lad0, m_lad1, m_lad2, m_lad3, m_lad4, m_lad5, m_lad6, m_lsame, m_fd0, m_fd1, m_fd2, m_fd3, m_fd4, m_fd5, m_fd6, m_data⟩ : Letter)) rfl rfl (congrArg rowsD ?_) (congrArg List.length ?_)
       all_goals
         unfold putLet
         rw [if_pos hr]
         try simp only [A0, nc, FsR50, FsW0, FsR60, FsOw0, cmdX_put hc, putCellM_eq hl]
         rfl)
    | (simp; done)
    | exact ⟨by decide, by decide⟩
    | fail
set_option maxRecDepth 100000 in
theorem w_plL5 (m : Letter) (hp0 : okLet m) (hr : rightL m = true) (e : m.lkind = 5) : FnD Try.prog 18 [m.D] [] (ownL (putLet m)) := by
  obtain ⟨m_lkind, m_src, m_dst, m_irep, m_islot, m_be, m_br, m_mkind, m_mclient, m_mseq, m_mkey, m_mfin, m_mold, m_mval, m_tseq, m_td0, m_td1, m_td2, m_td3, m_td4, m_td5, m_td6, m_lstatus, m_lpe, m_lpr, m_lve, m_lvr, m_lckind, m_lcclient, m_lcseq, m_lckey, m_lcfin, m_lcold, m_lcval, m_laseq, m_lad0, m_lad1, m_lad2, m_lad3, m_lad4, m_lad5, m_lad6, m_lsame, m_fd0, m_fd1, m_fd2, m_fd3, m_fd4, m_fd5, m_fd6, m_data⟩ := m
  replace e : m_lkind = 5 := e
  subst e
  have hrp := rightL_parts hr
  obtain ⟨GFsR5, hFsR5⟩ : ∃ F, F = FsR50 := ⟨_, rfl⟩
  obtain ⟨GFsW, hFsW⟩ : ∃ F, F = FsW0 := ⟨_, rfl⟩
  obtain ⟨GFsR6, hFsR6⟩ : ∃ F, F = FsR60 := ⟨_, rfl⟩
  obtain ⟨GFsOw, hFsOw⟩ : ∃ F, F = FsOw0 := ⟨_, rfl⟩
  have hH : SoundK Try.prog [kn_rightL2 GFsR5, kn_rnum GFsW, kn_inst2 GFsR6, kn_ballot2 GFsR6, kn_cmd2 GFsR6, kn_putCell2 GFsR6, kn_rtext GFsW] := by subst hFsR5 hFsW hFsR6 hFsOw; exact orK_ok ok_rightL2 (orK_ok ok_rnum (orK_ok ok_inst2 (orK_ok ok_ballot2 (orK_ok ok_cmd2 (orK_ok ok_putCell2 (orK_ok ok_rtext noK_ok))))))
  have hB : SoundB Try.prog [kb_attrO GFsOw] := by subst hFsR5 hFsW hFsR6 hFsOw; exact orB_ok okb_attrO noB_ok
  refine FnD_cbv (T := fun _ => tabY [5003] [12]) (H := fun _ => [kn_rightL2 GFsR5, kn_rnum GFsW, kn_inst2 GFsR6, kn_ballot2 GFsR6, kn_cmd2 GFsR6, kn_putCell2 GFsR6, kn_rtext GFsW]) (tabY_ok _ _) hH follows_mixed Try.func18 rfl Try.ntmps18 (by simp) fun A X W hA hX hW => ?_
  cbv
  have l0 : A.cmp .lss 0 7 = true := by subst hA; rfl
  cbv at l0
  have l1 : A.cmp .lss 1 7 = true := by subst hA; rfl
  cbv at l1
  have l2 : A.cmp .lss 2 7 = true := by subst hA; rfl
  cbv at l2
  have l3 : A.cmp .lss 3 7 = true := by subst hA; rfl
  cbv at l3
  have l4 : A.cmp .lss 4 7 = true := by subst hA; rfl
  cbv at l4
  have l5 : A.cmp .lss 5 7 = true := by subst hA; rfl
  cbv at l5
  have l6 : A.cmp .lss 6 7 = true := by subst hA; rfl
  cbv at l6
  have l7 : A.cmp .lss 7 7 = false := by subst hA; rfl
  cbv at l7
  have b0 : A.bin .add .i64 0 1 = 1 := by subst hA; rfl
  cbv at b0
  have b1 : A.bin .add .i64 1 1 = 2 := by subst hA; rfl
  cbv at b1
  have b2 : A.bin .add .i64 2 1 = 3 := by subst hA; rfl
  cbv at b2
  have b3 : A.bin .add .i64 3 1 = 4 := by subst hA; rfl
  cbv at b3
  have b4 : A.bin .add .i64 4 1 = 5 := by subst hA; rfl
  cbv at b4
  have b5 : A.bin .add .i64 5 1 = 6 := by subst hA; rfl
  cbv at b5
  have b6 : A.bin .add .i64 6 1 = 7 := by subst hA; rfl
  cbv at b6
  have o0_0 : A.off 0 0 1 = 0 := by subst hA; rfl
  cbv at o0_0
  have o0_1 : A.off 0 1 1 = 1 := by subst hA; rfl
  cbv at o0_1
  have o0_2 : A.off 0 2 1 = 2 := by subst hA; rfl
  cbv at o0_2
  have o0_3 : A.off 0 3 1 = 3 := by subst hA; rfl
  cbv at o0_3
  have o0_4 : A.off 0 4 1 = 4 := by subst hA; rfl
  cbv at o0_4
  have o0_5 : A.off 0 5 1 = 5 := by subst hA; rfl
  cbv at o0_5
  have o0_6 : A.off 0 6 1 = 6 := by subst hA; rfl
  cbv at o0_6
  have hq : GFsR5.rightL2 (⟨5, m_src, m_dst, m_irep, m_islot, m_be, m_br, m_mkind, m_mclient, m_mseq, m_mkey, m_mfin, m_mold, m_mval, m_tseq, m_td0, m_td1, m_td2, m_td3, m_td4, m_td5, m_td6, m_lstatus, m_lpe, m_lpr, m_lve, m_lvr, m_lckind, m_lcclient, m_lcseq, m_lckey, m_lcfin, m_lcold, m_lcval, m_laseq, m_lad0, m_lad1, m_lad2, m_lad3, m_lad4, m_lad5, m_lad6, m_lsame, m_fd0, m_fd1, m_fd2, m_fd3, m_fd4, m_fd5, m_fd6, m_data⟩ : Letter) = true := by subst hFsR5; exact hr
  have nt : A.not true = false := by subst hA; rfl
  cbv at hq nt
  have f1 : A.cmp .lss 5 1 = false := by subst hA; rfl
  have f2 : A.cmp .gtr 5 11 = false := by subst hA; rfl
  have f3 : A.cmp .lss 5 9 = true := by subst hA; rfl
  have f4 : A.cmp .neq 5 5 = false := by subst hA; rfl
  have g0 : A.cmp .eql 5 1 = false := by subst hA; rfl
  have g1 : A.cmp .eql 5 3 = false := by subst hA; rfl
  have g2 : A.cmp .eql 5 5 = true := by subst hA; rfl
  have g3 : A.cmp .eql 5 2 = false := by subst hA; rfl
  have g4 : A.cmp .eql 5 7 = false := by subst hA; rfl
  have g5 : A.cmp .eql 5 9 = false := by subst hA; rfl
  have g6 : A.cmp .eql 5 11 = false := by subst hA; rfl
  have g7 : A.cmp .eql 5 10 = false := by subst hA; rfl
  have ftf : A.cond false true false = false := by subst hA; rfl
  have fff : A.cond false false false = false := by subst hA; rfl
  cbv at f1 f2 f3 f4 g0 g1 g2 g3 g4 g5 g6 g7 ftf fff
  repeat' first
    | (simp only [hq, nt, f1, f2, f3, f4, g0, g1, g2, g3, g4, g5, g6, g7, ftf, fff, l0, l1, l2, l3, l4, l5, l6, l7, b0, b1, b2, b3, b4, b5, b6, o0_0, o0_1, o0_2, o0_3, o0_4, o0_5, o0_6]; cbv)
    | (refine And.intro ?_ ?_)
    | ((with_reducible refine callB hX hB ?_) <;> cbv)
    | ((with_reducible refine regionB [45] (T := fun _ => tabY [5003] []) (H := fun _ => [kn_rightL2 GFsR5, kn_rnum GFsW, kn_inst2 GFsR6, kn_ballot2 GFsR6, kn_cmd2 GFsR6, kn_putCell2 GFsR6, kn_rtext GFsW]) (B := fun _ => [kb_attrO GFsOw]) (A := A) (tabY_ok _ _) hH hB follows_mixed hA hX (by kernel_rfl) (by kernel_rfl) ?_) <;> cbv)
  all_goals clear hH hB
  all_goals subst hA hX hW hFsR5 hFsW hFsR6 hFsOw
  all_goals obtain ⟨⟨k0, k1, k2⟩, ⟨k3, k4⟩, k5, k6, k7, k8, ⟨f0, f1, f2, f3, f4, f5, f6⟩, kd⟩ : okLet (⟨5, m_src, m_dst, m_irep, m_islot, m_be, m_br, m_mkind, m_mclient, m_mseq, m_mkey, m_mfin, m_mold, m_mval, m_tseq, m_td0, m_td1, m_td2, m_td3, m_td4, m_td5, m_td6, m_lstatus, m_lpe, m_lpr, m_lve, m_lvr, m_lckind, m_lcclient, m_lcseq, m_lckey, m_lcfin, m_lcold, m_lcval, m_laseq, m_lad0, m_lad1, m_lad2, m_lad3, m_lad4, m_lad5, m_lad6, m_lsame, m_fd0, m_fd1, m_fd2, m_fd3, m_fd4, m_fd5, m_fd6, m_data⟩ : Letter) := hp0
  all_goals have b0 : isBn 0 [] := ⟨[], rfl, Nat.le_refl _⟩
  all_goals have b1 := (isBn.num b0 5)
  all_goals have b2 := (isBn.num b1 m_src)
  all_goals have b3 := (isBn.num b2 m_dst)
  all_goals have b4 := (isBn.num b3 m_irep)
  all_goals have b5 := (isBn.num b4 m_islot)
  all_goals have b6 := (isBn.cmdX b5 hrp.1)
  all_goals have b7 := (isBn.dput b6 ⟨m_tseq, m_td0, m_td1, m_td2, m_td3, m_td4, m_td5, m_td6⟩)
  all_goals first
    | (show Region.lexB _ _ = true; kernel_rfl)
    | exact k0
    | exact k1
    | exact k2
    | exact ⟨k3, k4⟩
    | exact k5
    | exact k6
    | exact k7
    | exact k8
    | exact hrp.2.2
    | (show szT _; unfold szT; exact Nat.le_trans kd (by decide))
    | exact b0.le (by omega)
    | exact b0.mono (by omega)
    | exact b1.le (by omega)
    | exact b1.mono (by omega)
    | exact b2.le (by omega)
    | exact b2.mono (by omega)
    | exact b3.le (by omega)
    | exact b3.mono (by omega)
    | exact b4.le (by omega)
    | exact b4.mono (by omega)
    | exact b5.le (by omega)
    | exact b5.mono (by omega)
    | exact b6.le (by omega)
    | exact b6.mono (by omega)
    | exact b7.le (by omega)
    | exact b7.mono (by omega)
    | (simp only [hq, nt, A0]; intros; first | assumption | trivial | (simp_all; done))
    | (have hc : rightC ⟨m_mkind, m_mclient, m_mseq, m_mkey, m_mfin, m_mold, m_mval⟩ = true := hrp.1
       have hl : rightCell ⟨m_lstatus, m_lpe, m_lpr, m_lve, m_lvr, m_lckind, m_lcclient, m_lcseq, m_lckey, m_lcfin, m_lcold, m_lcval, m_laseq, m_lad0, m_lad1, m_lad2, m_lad3, m_lad4, m_lad5, m_lad6, m_lsame⟩ = true := hrp.2.2
       first
         | refine own_keepL (L := putLet (⟨5, m_src, m_dst, m_irep, m_islot, m_be, m_br, m_mkind, m_mclient, m_mseq, m_mkey, m_mfin, m_mold, m_mval, m_tseq, m_td0, m_td1, m_td2, m_td3, m_td4, m_td5, m_td6, m_lstatus, m_lpe, m_lpr, m_lve, m_lvr, m_lckind, m_lcclient, m_lcseq, m_lckey, m_lcfin, m_lcold, m_lcval, m_laseq, m_lad0, m_lad1, m_lad2, m_lad3, m_lad4, m_lad5, m_lad6, m_lsame, m_fd0, m_fd1, m_fd2, m_fd3, m_fd4, m_fd5, m_fd6, m_data⟩ : Letter)) rfl rfl (hcs.trans (congrArg rowsD ?_)) (hm.trans (congrArg List.length ?_))
         | refine own_keepL (L := putLet (⟨5, m_src, m_dst, m_irep, m_islot, m_be, m_br, m_mkind, m_mclient, m_mseq, m_mkey, m_mfin, m_mold, m_mval, m_tseq, m_td0, m_td1, m_td2, m_td3, m_td4, m_td5, m_td6, m_lstatus, m_lpe, m_lpr, m_lve, m_lvr, m_lckind, m_lcclient, m_lcseq, m_lckey, m_lcfin, m_lcold, m_lcval, m_laseq, m_lad0, m_lad1, m_lad2, m_lad3, m_lad4, m_lad5, m_lad6, m_lsame, m_fd0, m_fd1, m_fd2, m_fd3, m_fd4, m_fd5, m_fd6, m_data⟩ : Letter)) rfl rfl (congrArg rowsD ?_) (congrArg List.length ?_)
       all_goals
         unfold putLet
         rw [if_pos hr]
         try simp only [A0, nc, FsR50, FsW0, FsR60, FsOw0, cmdX_put hc, putCellM_eq hl]
         rfl)
    | (simp; done)
    | exact ⟨by decide, by decide⟩
    | fail
set_option maxRecDepth 100000 in
theorem w_plL6 (m : Letter) (hp0 : okLet m) (hr : rightL m = true) (e : m.lkind = 6) : FnD Try.prog 18 [m.D] [] (ownL (putLet m)) := by
  obtain ⟨m_lkind, m_src, m_dst, m_irep, m_islot, m_be, m_br, m_mkind, m_mclient, m_mseq, m_mkey, m_mfin, m_mold, m_mval, m_tseq, m_td0, m_td1, m_td2, m_td3, m_td4, m_td5, m_td6, m_lstatus, m_lpe, m_lpr, m_lve, m_lvr, m_lckind, m_lcclient, m_lcseq, m_lckey, m_lcfin, m_lcold, m_lcval, m_laseq, m_lad0, m_lad1, m_lad2, m_lad3, m_lad4, m_lad5, m_lad6, m_lsame, m_fd0, m_fd1, m_fd2, m_fd3, m_fd4, m_fd5, m_fd6, m_data⟩ := m
  replace e : m_lkind = 6 := e
  subst e
  have hrp := rightL_parts hr
  obtain ⟨GFsR5, hFsR5⟩ : ∃ F, F = FsR50 := ⟨_, rfl⟩
  obtain ⟨GFsW, hFsW⟩ : ∃ F, F = FsW0 := ⟨_, rfl⟩
  obtain ⟨GFsR6, hFsR6⟩ : ∃ F, F = FsR60 := ⟨_, rfl⟩
  obtain ⟨GFsOw, hFsOw⟩ : ∃ F, F = FsOw0 := ⟨_, rfl⟩
  have hH : SoundK Try.prog [kn_rightL2 GFsR5, kn_rnum GFsW, kn_inst2 GFsR6, kn_cmd2 GFsR6, kn_attr2 GFsR6, kn_putCell2 GFsR6, kn_rtext GFsW] := by subst hFsR5 hFsW hFsR6 hFsOw; exact orK_ok ok_rightL2 (orK_ok ok_rnum (orK_ok ok_inst2 (orK_ok ok_cmd2 (orK_ok ok_attr2 (orK_ok ok_putCell2 (orK_ok ok_rtext noK_ok))))))
  have hB : SoundB Try.prog [kb_ballotO GFsOw] := by subst hFsR5 hFsW hFsR6 hFsOw; exact orB_ok okb_ballotO noB_ok
  refine FnD_cbv (T := fun _ => tabY [5003] []) (H := fun _ => [kn_rightL2 GFsR5, kn_rnum GFsW, kn_inst2 GFsR6, kn_cmd2 GFsR6, kn_attr2 GFsR6, kn_putCell2 GFsR6, kn_rtext GFsW]) (tabY_ok _ _) hH follows_mixed Try.func18 rfl Try.ntmps18 (by simp) fun A X W hA hX hW => ?_
  cbv
  have l0 : A.cmp .lss 0 7 = true := by subst hA; rfl
  cbv at l0
  have l1 : A.cmp .lss 1 7 = true := by subst hA; rfl
  cbv at l1
  have l2 : A.cmp .lss 2 7 = true := by subst hA; rfl
  cbv at l2
  have l3 : A.cmp .lss 3 7 = true := by subst hA; rfl
  cbv at l3
  have l4 : A.cmp .lss 4 7 = true := by subst hA; rfl
  cbv at l4
  have l5 : A.cmp .lss 5 7 = true := by subst hA; rfl
  cbv at l5
  have l6 : A.cmp .lss 6 7 = true := by subst hA; rfl
  cbv at l6
  have l7 : A.cmp .lss 7 7 = false := by subst hA; rfl
  cbv at l7
  have b0 : A.bin .add .i64 0 1 = 1 := by subst hA; rfl
  cbv at b0
  have b1 : A.bin .add .i64 1 1 = 2 := by subst hA; rfl
  cbv at b1
  have b2 : A.bin .add .i64 2 1 = 3 := by subst hA; rfl
  cbv at b2
  have b3 : A.bin .add .i64 3 1 = 4 := by subst hA; rfl
  cbv at b3
  have b4 : A.bin .add .i64 4 1 = 5 := by subst hA; rfl
  cbv at b4
  have b5 : A.bin .add .i64 5 1 = 6 := by subst hA; rfl
  cbv at b5
  have b6 : A.bin .add .i64 6 1 = 7 := by subst hA; rfl
  cbv at b6
  have o0_0 : A.off 0 0 1 = 0 := by subst hA; rfl
  cbv at o0_0
  have o0_1 : A.off 0 1 1 = 1 := by subst hA; rfl
  cbv at o0_1
  have o0_2 : A.off 0 2 1 = 2 := by subst hA; rfl
  cbv at o0_2
  have o0_3 : A.off 0 3 1 = 3 := by subst hA; rfl
  cbv at o0_3
  have o0_4 : A.off 0 4 1 = 4 := by subst hA; rfl
  cbv at o0_4
  have o0_5 : A.off 0 5 1 = 5 := by subst hA; rfl
  cbv at o0_5
  have o0_6 : A.off 0 6 1 = 6 := by subst hA; rfl
  cbv at o0_6
  have hq : GFsR5.rightL2 (⟨6, m_src, m_dst, m_irep, m_islot, m_be, m_br, m_mkind, m_mclient, m_mseq, m_mkey, m_mfin, m_mold, m_mval, m_tseq, m_td0, m_td1, m_td2, m_td3, m_td4, m_td5, m_td6, m_lstatus, m_lpe, m_lpr, m_lve, m_lvr, m_lckind, m_lcclient, m_lcseq, m_lckey, m_lcfin, m_lcold, m_lcval, m_laseq, m_lad0, m_lad1, m_lad2, m_lad3, m_lad4, m_lad5, m_lad6, m_lsame, m_fd0, m_fd1, m_fd2, m_fd3, m_fd4, m_fd5, m_fd6, m_data⟩ : Letter) = true := by subst hFsR5; exact hr
  have nt : A.not true = false := by subst hA; rfl
  cbv at hq nt
  have f1 : A.cmp .lss 6 1 = false := by subst hA; rfl
  have f2 : A.cmp .gtr 6 11 = false := by subst hA; rfl
  have f3 : A.cmp .lss 6 9 = true := by subst hA; rfl
  have f4 : A.cmp .neq 6 5 = true := by subst hA; rfl
  have g0 : A.cmp .eql 6 1 = false := by subst hA; rfl
  have g1 : A.cmp .eql 6 3 = false := by subst hA; rfl
  have g2 : A.cmp .eql 6 5 = false := by subst hA; rfl
  have g3 : A.cmp .eql 6 2 = false := by subst hA; rfl
  have g4 : A.cmp .eql 6 7 = false := by subst hA; rfl
  have g5 : A.cmp .eql 6 9 = false := by subst hA; rfl
  have g6 : A.cmp .eql 6 11 = false := by subst hA; rfl
  have g7 : A.cmp .eql 6 10 = false := by subst hA; rfl
  have ftf : A.cond false true false = false := by subst hA; rfl
  have fff : A.cond false false false = false := by subst hA; rfl
  cbv at f1 f2 f3 f4 g0 g1 g2 g3 g4 g5 g6 g7 ftf fff
  repeat' first
    | (simp only [hq, nt, f1, f2, f3, f4, g0, g1, g2, g3, g4, g5, g6, g7, ftf, fff, l0, l1, l2, l3, l4, l5, l6, l7, b0, b1, b2, b3, b4, b5, b6, o0_0, o0_1, o0_2, o0_3, o0_4, o0_5, o0_6]; cbv)
    | (refine And.intro ?_ ?_)
    | ((with_reducible refine callB hX hB ?_) <;> cbv)
    | ((with_reducible refine regionB [45] (T := fun _ => tabY [5003] []) (H := fun _ => [kn_rightL2 GFsR5, kn_rnum GFsW, kn_inst2 GFsR6, kn_cmd2 GFsR6, kn_attr2 GFsR6, kn_putCell2 GFsR6, kn_rtext GFsW]) (B := fun _ => [kb_ballotO GFsOw]) (A := A) (tabY_ok _ _) hH hB follows_mixed hA hX (by kernel_rfl) (by kernel_rfl) ?_) <;> cbv)
  all_goals clear hH hB
  all_goals subst hA hX hW hFsR5 hFsW hFsR6 hFsOw
  all_goals obtain ⟨⟨k0, k1, k2⟩, ⟨k3, k4⟩, k5, k6, k7, k8, ⟨f0, f1, f2, f3, f4, f5, f6⟩, kd⟩ : okLet (⟨6, m_src, m_dst, m_irep, m_islot, m_be, m_br, m_mkind, m_mclient, m_mseq, m_mkey, m_mfin, m_mold, m_mval, m_tseq, m_td0, m_td1, m_td2, m_td3, m_td4, m_td5, m_td6, m_lstatus, m_lpe, m_lpr, m_lve, m_lvr, m_lckind, m_lcclient, m_lcseq, m_lckey, m_lcfin, m_lcold, m_lcval, m_laseq, m_lad0, m_lad1, m_lad2, m_lad3, m_lad4, m_lad5, m_lad6, m_lsame, m_fd0, m_fd1, m_fd2, m_fd3, m_fd4, m_fd5, m_fd6, m_data⟩ : Letter) := hp0
  all_goals have b0 : isBn 0 [] := ⟨[], rfl, Nat.le_refl _⟩
  all_goals have b1 := (isBn.num b0 6)
  all_goals have b2 := (isBn.num b1 m_src)
  all_goals have b3 := (isBn.num b2 m_dst)
  all_goals have b4 := (isBn.num b3 m_irep)
  all_goals have b5 := (isBn.num b4 m_islot)
  all_goals have b6 := (isBn.ballot b5 ⟨m_be, m_br⟩)
  all_goals first
    | (show Region.lexB _ _ = true; kernel_rfl)
    | exact k0
    | exact k1
    | exact k2
    | exact ⟨k3, k4⟩
    | exact k5
    | exact k6
    | exact k7
    | exact k8
    | exact hrp.2.2
    | (show szT _; unfold szT; exact Nat.le_trans kd (by decide))
    | exact b0.le (by omega)
    | exact b0.mono (by omega)
    | exact b1.le (by omega)
    | exact b1.mono (by omega)
    | exact b2.le (by omega)
    | exact b2.mono (by omega)
    | exact b3.le (by omega)
    | exact b3.mono (by omega)
    | exact b4.le (by omega)
    | exact b4.mono (by omega)
    | exact b5.le (by omega)
    | exact b5.mono (by omega)
    | exact b6.le (by omega)
    | exact b6.mono (by omega)
    | (simp only [hq, nt, A0]; intros; first | assumption | trivial | (simp_all; done))
    | (have hc : rightC ⟨m_mkind, m_mclient, m_mseq, m_mkey, m_mfin, m_mold, m_mval⟩ = true := hrp.1
       have hl : rightCell ⟨m_lstatus, m_lpe, m_lpr, m_lve, m_lvr, m_lckind, m_lcclient, m_lcseq, m_lckey, m_lcfin, m_lcold, m_lcval, m_laseq, m_lad0, m_lad1, m_lad2, m_lad3, m_lad4, m_lad5, m_lad6, m_lsame⟩ = true := hrp.2.2
       first
         | refine own_keepL (L := putLet (⟨6, m_src, m_dst, m_irep, m_islot, m_be, m_br, m_mkind, m_mclient, m_mseq, m_mkey, m_mfin, m_mold, m_mval, m_tseq, m_td0, m_td1, m_td2, m_td3, m_td4, m_td5, m_td6, m_lstatus, m_lpe, m_lpr, m_lve, m_lvr, m_lckind, m_lcclient, m_lcseq, m_lckey, m_lcfin, m_lcold, m_lcval, m_laseq, m_lad0, m_lad1, m_lad2, m_lad3, m_lad4, m_lad5, m_lad6, m_lsame, m_fd0, m_fd1, m_fd2, m_fd3, m_fd4, m_fd5, m_fd6, m_data⟩ : Letter)) rfl rfl (hcs.trans (congrArg rowsD ?_)) (hm.trans (congrArg List.length ?_))
         | refine own_keepL (L := putLet (⟨6, m_src, m_dst, m_irep, m_islot, m_be, m_br, m_mkind, m_mclient, m_mseq, m_mkey, m_mfin, m_mold, m_mval, m_tseq, m_td0, m_td1, m_td2, m_td3, m_td4, m_td5, m_td6, m_lstatus, m_lpe, m_lpr, m_lve, m_lvr, m_lckind, m_lcclient, m_lcseq, m_lckey, m_lcfin, m_lcold, m_lcval, m_laseq, m_lad0, m_lad1, m_lad2, m_lad3, m_lad4, m_lad5, m_lad6, m_lsame, m_fd0, m_fd1, m_fd2, m_fd3, m_fd4, m_fd5, m_fd6, m_data⟩ : Letter)) rfl rfl (congrArg rowsD ?_) (congrArg List.length ?_)
       all_goals
         unfold putLet
         rw [if_pos hr]
         try simp only [A0, nc, FsR50, FsW0, FsR60, FsOw0, cmdX_put hc, putCellM_eq hl]
         rfl)
    | (simp; done)
    | exact ⟨by decide, by decide⟩
    | fail
set_option maxRecDepth 100000 in
theorem w_plL7 (m : Letter) (hp0 : okLet m) (hr : rightL m = true) (e : m.lkind = 7) : FnD Try.prog 18 [m.D] [] (ownL (putLet m)) := by
  obtain ⟨m_lkind, m_src, m_dst, m_irep, m_islot, m_be, m_br, m_mkind, m_mclient, m_mseq, m_mkey, m_mfin, m_mold, m_mval, m_tseq, m_td0, m_td1, m_td2, m_td3, m_td4, m_td5, m_td6, m_lstatus, m_lpe, m_lpr, m_lve, m_lvr, m_lckind, m_lcclient, m_lcseq, m_lckey, m_lcfin, m_lcold, m_lcval, m_laseq, m_lad0, m_lad1, m_lad2, m_lad3, m_lad4, m_lad5, m_lad6, m_lsame, m_fd0, m_fd1, m_fd2, m_fd3, m_fd4, m_fd5, m_fd6, m_data⟩ := m
  replace e : m_lkind = 7 := e
  subst e
  have hrp := rightL_parts hr
  obtain ⟨GFsR5, hFsR5⟩ : ∃ F, F = FsR50 := ⟨_, rfl⟩
  obtain ⟨GFsW, hFsW⟩ : ∃ F, F = FsW0 := ⟨_, rfl⟩
  obtain ⟨GFsR6, hFsR6⟩ : ∃ F, F = FsR60 := ⟨_, rfl⟩
  have hH : SoundK Try.prog [kn_rightL2 GFsR5, kn_rnum GFsW, kn_inst2 GFsR6, kn_ballot2 GFsR6, kn_cmd2 GFsR6, kn_attr2 GFsR6, kn_rtext GFsW] := by subst hFsR5 hFsW hFsR6; exact orK_ok ok_rightL2 (orK_ok ok_rnum (orK_ok ok_inst2 (orK_ok ok_ballot2 (orK_ok ok_cmd2 (orK_ok ok_attr2 (orK_ok ok_rtext noK_ok))))))
  have hB : SoundB Try.prog [] := by subst hFsR5 hFsW hFsR6; exact noB_ok
  refine FnD_cbv (T := fun _ => tabY [5003] []) (H := fun _ => [kn_rightL2 GFsR5, kn_rnum GFsW, kn_inst2 GFsR6, kn_ballot2 GFsR6, kn_cmd2 GFsR6, kn_attr2 GFsR6, kn_rtext GFsW]) (tabY_ok _ _) hH follows_mixed Try.func18 rfl Try.ntmps18 (by simp) fun A X W hA hX hW => ?_
  cbv
  have l0 : A.cmp .lss 0 7 = true := by subst hA; rfl
  cbv at l0
  have l1 : A.cmp .lss 1 7 = true := by subst hA; rfl
  cbv at l1
  have l2 : A.cmp .lss 2 7 = true := by subst hA; rfl
  cbv at l2
  have l3 : A.cmp .lss 3 7 = true := by subst hA; rfl
  cbv at l3
  have l4 : A.cmp .lss 4 7 = true := by subst hA; rfl
  cbv at l4
  have l5 : A.cmp .lss 5 7 = true := by subst hA; rfl
  cbv at l5
  have l6 : A.cmp .lss 6 7 = true := by subst hA; rfl
  cbv at l6
  have l7 : A.cmp .lss 7 7 = false := by subst hA; rfl
  cbv at l7
  have b0 : A.bin .add .i64 0 1 = 1 := by subst hA; rfl
  cbv at b0
  have b1 : A.bin .add .i64 1 1 = 2 := by subst hA; rfl
  cbv at b1
  have b2 : A.bin .add .i64 2 1 = 3 := by subst hA; rfl
  cbv at b2
  have b3 : A.bin .add .i64 3 1 = 4 := by subst hA; rfl
  cbv at b3
  have b4 : A.bin .add .i64 4 1 = 5 := by subst hA; rfl
  cbv at b4
  have b5 : A.bin .add .i64 5 1 = 6 := by subst hA; rfl
  cbv at b5
  have b6 : A.bin .add .i64 6 1 = 7 := by subst hA; rfl
  cbv at b6
  have o0_0 : A.off 0 0 1 = 0 := by subst hA; rfl
  cbv at o0_0
  have o0_1 : A.off 0 1 1 = 1 := by subst hA; rfl
  cbv at o0_1
  have o0_2 : A.off 0 2 1 = 2 := by subst hA; rfl
  cbv at o0_2
  have o0_3 : A.off 0 3 1 = 3 := by subst hA; rfl
  cbv at o0_3
  have o0_4 : A.off 0 4 1 = 4 := by subst hA; rfl
  cbv at o0_4
  have o0_5 : A.off 0 5 1 = 5 := by subst hA; rfl
  cbv at o0_5
  have o0_6 : A.off 0 6 1 = 6 := by subst hA; rfl
  cbv at o0_6
  have hq : GFsR5.rightL2 (⟨7, m_src, m_dst, m_irep, m_islot, m_be, m_br, m_mkind, m_mclient, m_mseq, m_mkey, m_mfin, m_mold, m_mval, m_tseq, m_td0, m_td1, m_td2, m_td3, m_td4, m_td5, m_td6, m_lstatus, m_lpe, m_lpr, m_lve, m_lvr, m_lckind, m_lcclient, m_lcseq, m_lckey, m_lcfin, m_lcold, m_lcval, m_laseq, m_lad0, m_lad1, m_lad2, m_lad3, m_lad4, m_lad5, m_lad6, m_lsame, m_fd0, m_fd1, m_fd2, m_fd3, m_fd4, m_fd5, m_fd6, m_data⟩ : Letter) = true := by subst hFsR5; exact hr
  have nt : A.not true = false := by subst hA; rfl
  cbv at hq nt
  have f1 : A.cmp .lss 7 1 = false := by subst hA; rfl
  have f2 : A.cmp .gtr 7 11 = false := by subst hA; rfl
  have f3 : A.cmp .lss 7 9 = true := by subst hA; rfl
  have f4 : A.cmp .neq 7 5 = true := by subst hA; rfl
  have g0 : A.cmp .eql 7 1 = false := by subst hA; rfl
  have g1 : A.cmp .eql 7 3 = false := by subst hA; rfl
  have g2 : A.cmp .eql 7 5 = false := by subst hA; rfl
  have g3 : A.cmp .eql 7 2 = false := by subst hA; rfl
  have g4 : A.cmp .eql 7 7 = true := by subst hA; rfl
  have g5 : A.cmp .eql 7 9 = false := by subst hA; rfl
  have g6 : A.cmp .eql 7 11 = false := by subst hA; rfl
  have g7 : A.cmp .eql 7 10 = false := by subst hA; rfl
  have ftf : A.cond false true false = false := by subst hA; rfl
  have fff : A.cond false false false = false := by subst hA; rfl
  cbv at f1 f2 f3 f4 g0 g1 g2 g3 g4 g5 g6 g7 ftf fff
  have hkc : okCell ⟨m_lstatus, m_lpe, m_lpr, m_lve, m_lvr, m_lckind, m_lcclient, m_lcseq, m_lckey, m_lcfin, m_lcold, m_lcval, m_laseq, m_lad0, m_lad1, m_lad2, m_lad3, m_lad4, m_lad5, m_lad6, m_lsame⟩ := hp0.2.2.2.2.2.1
  have hrc : rightCell ⟨m_lstatus, m_lpe, m_lpr, m_lve, m_lvr, m_lckind, m_lcclient, m_lcseq, m_lckey, m_lcfin, m_lcold, m_lcval, m_laseq, m_lad0, m_lad1, m_lad2, m_lad3, m_lad4, m_lad5, m_lad6, m_lsame⟩ = true := hrp.2.2
  repeat' first
    | (simp only [hq, nt, f1, f2, f3, f4, g0, g1, g2, g3, g4, g5, g6, g7, ftf, fff, l0, l1, l2, l3, l4, l5, l6, l7, b0, b1, b2, b3, b4, b5, b6, o0_0, o0_1, o0_2, o0_3, o0_4, o0_5, o0_6]; cbv)
    | (refine And.intro ?_ ?_)
    | (refine callL hX (FnD.ownW (w_cellL _ ⟨m_lstatus, m_lpe, m_lpr, m_lve, m_lvr, m_lckind, m_lcclient, m_lcseq, m_lckey, m_lcfin, m_lcold, m_lcval, m_laseq, m_lad0, m_lad1, m_lad2, m_lad3, m_lad4, m_lad5, m_lad6, m_lsame⟩ ?_ hkc hrc) rfl fun cc mm hcs hm => ?_); rotate_right 1; cbv)
  all_goals clear hH hB
  all_goals subst hA hX hW hFsR5 hFsW hFsR6
  all_goals obtain ⟨⟨k0, k1, k2⟩, ⟨k3, k4⟩, k5, k6, k7, k8, ⟨f0, f1, f2, f3, f4, f5, f6⟩, kd⟩ : okLet (⟨7, m_src, m_dst, m_irep, m_islot, m_be, m_br, m_mkind, m_mclient, m_mseq, m_mkey, m_mfin, m_mold, m_mval, m_tseq, m_td0, m_td1, m_td2, m_td3, m_td4, m_td5, m_td6, m_lstatus, m_lpe, m_lpr, m_lve, m_lvr, m_lckind, m_lcclient, m_lcseq, m_lckey, m_lcfin, m_lcold, m_lcval, m_laseq, m_lad0, m_lad1, m_lad2, m_lad3, m_lad4, m_lad5, m_lad6, m_lsame, m_fd0, m_fd1, m_fd2, m_fd3, m_fd4, m_fd5, m_fd6, m_data⟩ : Letter) := hp0
  all_goals have b0 : isBn 0 [] := ⟨[], rfl, Nat.le_refl _⟩
  all_goals have b1 := (isBn.num b0 7)
  all_goals have b2 := (isBn.num b1 m_src)
  all_goals have b3 := (isBn.num b2 m_dst)
  all_goals have b4 := (isBn.num b3 m_irep)
  all_goals have b5 := (isBn.num b4 m_islot)
  all_goals have b6 := (isBn.ballot b5 ⟨m_be, m_br⟩)
  all_goals have b7 := (isBn.cell b6 hrp.2.2)
  all_goals first
    | (show Region.lexB _ _ = true; kernel_rfl)
    | exact k0
    | exact k1
    | exact k2
    | exact ⟨k3, k4⟩
    | exact k5
    | exact k6
    | exact k7
    | exact k8
    | exact hrp.2.2
    | (show szT _; unfold szT; exact Nat.le_trans kd (by decide))
    | exact b0.le (by omega)
    | exact b0.mono (by omega)
    | exact b1.le (by omega)
    | exact b1.mono (by omega)
    | exact b2.le (by omega)
    | exact b2.mono (by omega)
    | exact b3.le (by omega)
    | exact b3.mono (by omega)
    | exact b4.le (by omega)
    | exact b4.mono (by omega)
    | exact b5.le (by omega)
    | exact b5.mono (by omega)
    | exact b6.le (by omega)
    | exact b6.mono (by omega)
    | exact b7.le (by omega)
    | exact b7.mono (by omega)
    | (simp only [hq, nt, A0]; intros; first | assumption | trivial | (simp_all; done))
    | (have hc : rightC ⟨m_mkind, m_mclient, m_mseq, m_mkey, m_mfin, m_mold, m_mval⟩ = true := hrp.1
       have hl : rightCell ⟨m_lstatus, m_lpe, m_lpr, m_lve, m_lvr, m_lckind, m_lcclient, m_lcseq, m_lckey, m_lcfin, m_lcold, m_lcval, m_laseq, m_lad0, m_lad1, m_lad2, m_lad3, m_lad4, m_lad5, m_lad6, m_lsame⟩ = true := hrp.2.2
       first
         | refine own_keepL (L := putLet (⟨7, m_src, m_dst, m_irep, m_islot, m_be, m_br, m_mkind, m_mclient, m_mseq, m_mkey, m_mfin, m_mold, m_mval, m_tseq, m_td0, m_td1, m_td2, m_td3, m_td4, m_td5, m_td6, m_lstatus, m_lpe, m_lpr, m_lve, m_lvr, m_lckind, m_lcclient, m_lcseq, m_lckey, m_lcfin, m_lcold, m_lcval, m_laseq, m_lad0, m_lad1, m_lad2, m_lad3, m_lad4, m_lad5, m_lad6, m_lsame, m_fd0, m_fd1, m_fd2, m_fd3, m_fd4, m_fd5, m_fd6, m_data⟩ : Letter)) rfl rfl (hcs.trans (congrArg rowsD ?_)) (hm.trans (congrArg List.length ?_))
         | refine own_keepL (L := putLet (⟨7, m_src, m_dst, m_irep, m_islot, m_be, m_br, m_mkind, m_mclient, m_mseq, m_mkey, m_mfin, m_mold, m_mval, m_tseq, m_td0, m_td1, m_td2, m_td3, m_td4, m_td5, m_td6, m_lstatus, m_lpe, m_lpr, m_lve, m_lvr, m_lckind, m_lcclient, m_lcseq, m_lckey, m_lcfin, m_lcold, m_lcval, m_laseq, m_lad0, m_lad1, m_lad2, m_lad3, m_lad4, m_lad5, m_lad6, m_lsame, m_fd0, m_fd1, m_fd2, m_fd3, m_fd4, m_fd5, m_fd6, m_data⟩ : Letter)) rfl rfl (congrArg rowsD ?_) (congrArg List.length ?_)
       all_goals
         unfold putLet
         rw [if_pos hr]
         try simp only [A0, nc, FsR50, FsW0, FsR60, cmdX_put hc, putCellM_eq hl]
         rfl)
    | (simp; done)
    | exact ⟨by decide, by decide⟩
    | fail
set_option maxRecDepth 100000 in
theorem w_plL8 (m : Letter) (hp0 : okLet m) (hr : rightL m = true) (e : m.lkind = 8) : FnD Try.prog 18 [m.D] [] (ownL (putLet m)) := by
  obtain ⟨m_lkind, m_src, m_dst, m_irep, m_islot, m_be, m_br, m_mkind, m_mclient, m_mseq, m_mkey, m_mfin, m_mold, m_mval, m_tseq, m_td0, m_td1, m_td2, m_td3, m_td4, m_td5, m_td6, m_lstatus, m_lpe, m_lpr, m_lve, m_lvr, m_lckind, m_lcclient, m_lcseq, m_lckey, m_lcfin, m_lcold, m_lcval, m_laseq, m_lad0, m_lad1, m_lad2, m_lad3, m_lad4, m_lad5, m_lad6, m_lsame, m_fd0, m_fd1, m_fd2, m_fd3, m_fd4, m_fd5, m_fd6, m_data⟩ := m
  replace e : m_lkind = 8 := e
  subst e
  have hrp := rightL_parts hr
  obtain ⟨GFsR5, hFsR5⟩ : ∃ F, F = FsR50 := ⟨_, rfl⟩
  obtain ⟨GFsW, hFsW⟩ : ∃ F, F = FsW0 := ⟨_, rfl⟩
  obtain ⟨GFsR6, hFsR6⟩ : ∃ F, F = FsR60 := ⟨_, rfl⟩
  obtain ⟨GFsOw, hFsOw⟩ : ∃ F, F = FsOw0 := ⟨_, rfl⟩
  have hH : SoundK Try.prog [kn_rightL2 GFsR5, kn_rnum GFsW, kn_inst2 GFsR6, kn_cmd2 GFsR6, kn_attr2 GFsR6, kn_putCell2 GFsR6, kn_rtext GFsW] := by subst hFsR5 hFsW hFsR6 hFsOw; exact orK_ok ok_rightL2 (orK_ok ok_rnum (orK_ok ok_inst2 (orK_ok ok_cmd2 (orK_ok ok_attr2 (orK_ok ok_putCell2 (orK_ok ok_rtext noK_ok))))))
  have hB : SoundB Try.prog [kb_ballotO GFsOw] := by subst hFsR5 hFsW hFsR6 hFsOw; exact orB_ok okb_ballotO noB_ok
  refine FnD_cbv (T := fun _ => tabY [5003] []) (H := fun _ => [kn_rightL2 GFsR5, kn_rnum GFsW, kn_inst2 GFsR6, kn_cmd2 GFsR6, kn_attr2 GFsR6, kn_putCell2 GFsR6, kn_rtext GFsW]) (tabY_ok _ _) hH follows_mixed Try.func18 rfl Try.ntmps18 (by simp) fun A X W hA hX hW => ?_
  cbv
  have l0 : A.cmp .lss 0 7 = true := by subst hA; rfl
  cbv at l0
  have l1 : A.cmp .lss 1 7 = true := by subst hA; rfl
  cbv at l1
  have l2 : A.cmp .lss 2 7 = true := by subst hA; rfl
  cbv at l2
  have l3 : A.cmp .lss 3 7 = true := by subst hA; rfl
  cbv at l3
  have l4 : A.cmp .lss 4 7 = true := by subst hA; rfl
  cbv at l4
  have l5 : A.cmp .lss 5 7 = true := by subst hA; rfl
  cbv at l5
  have l6 : A.cmp .lss 6 7 = true := by subst hA; rfl
  cbv at l6
  have l7 : A.cmp .lss 7 7 = false := by subst hA; rfl
  cbv at l7
  have b0 : A.bin .add .i64 0 1 = 1 := by subst hA; rfl
  cbv at b0
  have b1 : A.bin .add .i64 1 1 = 2 := by subst hA; rfl
  cbv at b1
  have b2 : A.bin .add .i64 2 1 = 3 := by subst hA; rfl
  cbv at b2
  have b3 : A.bin .add .i64 3 1 = 4 := by subst hA; rfl
  cbv at b3
  have b4 : A.bin .add .i64 4 1 = 5 := by subst hA; rfl
  cbv at b4
  have b5 : A.bin .add .i64 5 1 = 6 := by subst hA; rfl
  cbv at b5
  have b6 : A.bin .add .i64 6 1 = 7 := by subst hA; rfl
  cbv at b6
  have o0_0 : A.off 0 0 1 = 0 := by subst hA; rfl
  cbv at o0_0
  have o0_1 : A.off 0 1 1 = 1 := by subst hA; rfl
  cbv at o0_1
  have o0_2 : A.off 0 2 1 = 2 := by subst hA; rfl
  cbv at o0_2
  have o0_3 : A.off 0 3 1 = 3 := by subst hA; rfl
  cbv at o0_3
  have o0_4 : A.off 0 4 1 = 4 := by subst hA; rfl
  cbv at o0_4
  have o0_5 : A.off 0 5 1 = 5 := by subst hA; rfl
  cbv at o0_5
  have o0_6 : A.off 0 6 1 = 6 := by subst hA; rfl
  cbv at o0_6
  have hq : GFsR5.rightL2 (⟨8, m_src, m_dst, m_irep, m_islot, m_be, m_br, m_mkind, m_mclient, m_mseq, m_mkey, m_mfin, m_mold, m_mval, m_tseq, m_td0, m_td1, m_td2, m_td3, m_td4, m_td5, m_td6, m_lstatus, m_lpe, m_lpr, m_lve, m_lvr, m_lckind, m_lcclient, m_lcseq, m_lckey, m_lcfin, m_lcold, m_lcval, m_laseq, m_lad0, m_lad1, m_lad2, m_lad3, m_lad4, m_lad5, m_lad6, m_lsame, m_fd0, m_fd1, m_fd2, m_fd3, m_fd4, m_fd5, m_fd6, m_data⟩ : Letter) = true := by subst hFsR5; exact hr
  have nt : A.not true = false := by subst hA; rfl
  cbv at hq nt
  have f1 : A.cmp .lss 8 1 = false := by subst hA; rfl
  have f2 : A.cmp .gtr 8 11 = false := by subst hA; rfl
  have f3 : A.cmp .lss 8 9 = true := by subst hA; rfl
  have f4 : A.cmp .neq 8 5 = true := by subst hA; rfl
  have g0 : A.cmp .eql 8 1 = false := by subst hA; rfl
  have g1 : A.cmp .eql 8 3 = false := by subst hA; rfl
  have g2 : A.cmp .eql 8 5 = false := by subst hA; rfl
  have g3 : A.cmp .eql 8 2 = false := by subst hA; rfl
  have g4 : A.cmp .eql 8 7 = false := by subst hA; rfl
  have g5 : A.cmp .eql 8 9 = false := by subst hA; rfl
  have g6 : A.cmp .eql 8 11 = false := by subst hA; rfl
  have g7 : A.cmp .eql 8 10 = false := by subst hA; rfl
  have ftf : A.cond false true false = false := by subst hA; rfl
  have fff : A.cond false false false = false := by subst hA; rfl
  cbv at f1 f2 f3 f4 g0 g1 g2 g3 g4 g5 g6 g7 ftf fff
  repeat' first
    | (simp only [hq, nt, f1, f2, f3, f4, g0, g1, g2, g3, g4, g5, g6, g7, ftf, fff, l0, l1, l2, l3, l4, l5, l6, l7, b0, b1, b2, b3, b4, b5, b6, o0_0, o0_1, o0_2, o0_3, o0_4, o0_5, o0_6]; cbv)
    | (refine And.intro ?_ ?_)
    | ((with_reducible refine callB hX hB ?_) <;> cbv)
    | ((with_reducible refine regionB [45] (T := fun _ => tabY [5003] []) (H := fun _ => [kn_rightL2 GFsR5, kn_rnum GFsW, kn_inst2 GFsR6, kn_cmd2 GFsR6, kn_attr2 GFsR6, kn_putCell2 GFsR6, kn_rtext GFsW]) (B := fun _ => [kb_ballotO GFsOw]) (A := A) (tabY_ok _ _) hH hB follows_mixed hA hX (by kernel_rfl) (by kernel_rfl) ?_) <;> cbv)
  all_goals clear hH hB
  all_goals subst hA hX hW hFsR5 hFsW hFsR6 hFsOw
  all_goals obtain ⟨⟨k0, k1, k2⟩, ⟨k3, k4⟩, k5, k6, k7, k8, ⟨f0, f1, f2, f3, f4, f5, f6⟩, kd⟩ : okLet (⟨8, m_src, m_dst, m_irep, m_islot, m_be, m_br, m_mkind, m_mclient, m_mseq, m_mkey, m_mfin, m_mold, m_mval, m_tseq, m_td0, m_td1, m_td2, m_td3, m_td4, m_td5, m_td6, m_lstatus, m_lpe, m_lpr, m_lve, m_lvr, m_lckind, m_lcclient, m_lcseq, m_lckey, m_lcfin, m_lcold, m_lcval, m_laseq, m_lad0, m_lad1, m_lad2, m_lad3, m_lad4, m_lad5, m_lad6, m_lsame, m_fd0, m_fd1, m_fd2, m_fd3, m_fd4, m_fd5, m_fd6, m_data⟩ : Letter) := hp0
  all_goals have b0 : isBn 0 [] := ⟨[], rfl, Nat.le_refl _⟩
  all_goals have b1 := (isBn.num b0 8)
  all_goals have b2 := (isBn.num b1 m_src)
  all_goals have b3 := (isBn.num b2 m_dst)
  all_goals have b4 := (isBn.num b3 m_irep)
  all_goals have b5 := (isBn.num b4 m_islot)
  all_goals have b6 := (isBn.ballot b5 ⟨m_be, m_br⟩)
  all_goals first
    | (show Region.lexB _ _ = true; kernel_rfl)
    | exact k0
    | exact k1
    | exact k2
    | exact ⟨k3, k4⟩
    | exact k5
    | exact k6
    | exact k7
    | exact k8
    | exact hrp.2.2
    | (show szT _; unfold szT; exact Nat.le_trans kd (by decide))
    | exact b0.le (by omega)
    | exact b0.mono (by omega)
    | exact b1.le (by omega)
    | exact b1.mono (by omega)
    | exact b2.le (by omega)
    | exact b2.mono (by omega)
    | exact b3.le (by omega)
    | exact b3.mono (by omega)
    | exact b4.le (by omega)
    | exact b4.mono (by omega)
    | exact b5.le (by omega)
    | exact b5.mono (by omega)
    | exact b6.le (by omega)
    | exact b6.mono (by omega)
    | (simp only [hq, nt, A0]; intros; first | assumption | trivial | (simp_all; done))
    | (have hc : rightC ⟨m_mkind, m_mclient, m_mseq, m_mkey, m_mfin, m_mold, m_mval⟩ = true := hrp.1
       have hl : rightCell ⟨m_lstatus, m_lpe, m_lpr, m_lve, m_lvr, m_lckind, m_lcclient, m_lcseq, m_lckey, m_lcfin, m_lcold, m_lcval, m_laseq, m_lad0, m_lad1, m_lad2, m_lad3, m_lad4, m_lad5, m_lad6, m_lsame⟩ = true := hrp.2.2
       first
         | refine own_keepL (L := putLet (⟨8, m_src, m_dst, m_irep, m_islot, m_be, m_br, m_mkind, m_mclient, m_mseq, m_mkey, m_mfin, m_mold, m_mval, m_tseq, m_td0, m_td1, m_td2, m_td3, m_td4, m_td5, m_td6, m_lstatus, m_lpe, m_lpr, m_lve, m_lvr, m_lckind, m_lcclient, m_lcseq, m_lckey, m_lcfin, m_lcold, m_lcval, m_laseq, m_lad0, m_lad1, m_lad2, m_lad3, m_lad4, m_lad5, m_lad6, m_lsame, m_fd0, m_fd1, m_fd2, m_fd3, m_fd4, m_fd5, m_fd6, m_data⟩ : Letter)) rfl rfl (hcs.trans (congrArg rowsD ?_)) (hm.trans (congrArg List.length ?_))
         | refine own_keepL (L := putLet (⟨8, m_src, m_dst, m_irep, m_islot, m_be, m_br, m_mkind, m_mclient, m_mseq, m_mkey, m_mfin, m_mold, m_mval, m_tseq, m_td0, m_td1, m_td2, m_td3, m_td4, m_td5, m_td6, m_lstatus, m_lpe, m_lpr, m_lve, m_lvr, m_lckind, m_lcclient, m_lcseq, m_lckey, m_lcfin, m_lcold, m_lcval, m_laseq, m_lad0, m_lad1, m_lad2, m_lad3, m_lad4, m_lad5, m_lad6, m_lsame, m_fd0, m_fd1, m_fd2, m_fd3, m_fd4, m_fd5, m_fd6, m_data⟩ : Letter)) rfl rfl (congrArg rowsD ?_) (congrArg List.length ?_)
       all_goals
         unfold putLet
         rw [if_pos hr]
         try simp only [A0, nc, FsR50, FsW0, FsR60, FsOw0, cmdX_put hc, putCellM_eq hl]
         rfl)
    | (simp; done)
    | exact ⟨by decide, by decide⟩
    | fail
set_option maxRecDepth 100000 in
theorem w_plL9 (m : Letter) (hp0 : okLet m) (hr : rightL m = true) (e : m.lkind = 9) : FnD Try.prog 18 [m.D] [] (ownL (putLet m)) := by
  obtain ⟨m_lkind, m_src, m_dst, m_irep, m_islot, m_be, m_br, m_mkind, m_mclient, m_mseq, m_mkey, m_mfin, m_mold, m_mval, m_tseq, m_td0, m_td1, m_td2, m_td3, m_td4, m_td5, m_td6, m_lstatus, m_lpe, m_lpr, m_lve, m_lvr, m_lckind, m_lcclient, m_lcseq, m_lckey, m_lcfin, m_lcold, m_lcval, m_laseq, m_lad0, m_lad1, m_lad2, m_lad3, m_lad4, m_lad5, m_lad6, m_lsame, m_fd0, m_fd1, m_fd2, m_fd3, m_fd4, m_fd5, m_fd6, m_data⟩ := m
  replace e : m_lkind = 9 := e
  subst e
  have hrp := rightL_parts hr
  obtain ⟨GFsR5, hFsR5⟩ : ∃ F, F = FsR50 := ⟨_, rfl⟩
  obtain ⟨GFsW, hFsW⟩ : ∃ F, F = FsW0 := ⟨_, rfl⟩
  have hH : SoundK Try.prog [kn_rightL2 GFsR5, kn_rnum GFsW] := by subst hFsR5 hFsW; exact orK_ok ok_rightL2 (orK_ok ok_rnum noK_ok)
  have hB : SoundB Try.prog [] := by subst hFsR5 hFsW; exact noB_ok
  refine FnD_cbv (T := fun _ => tabY [5003] []) (H := fun _ => [kn_rightL2 GFsR5, kn_rnum GFsW]) (tabY_ok _ _) hH follows_mixed Try.func18 rfl Try.ntmps18 (by simp) fun A X W hA hX hW => ?_
  cbv
  have l0 : A.cmp .lss 0 7 = true := by subst hA; rfl
  cbv at l0
  have l1 : A.cmp .lss 1 7 = true := by subst hA; rfl
  cbv at l1
  have l2 : A.cmp .lss 2 7 = true := by subst hA; rfl
  cbv at l2
  have l3 : A.cmp .lss 3 7 = true := by subst hA; rfl
  cbv at l3
  have l4 : A.cmp .lss 4 7 = true := by subst hA; rfl
  cbv at l4
  have l5 : A.cmp .lss 5 7 = true := by subst hA; rfl
  cbv at l5
  have l6 : A.cmp .lss 6 7 = true := by subst hA; rfl
  cbv at l6
  have l7 : A.cmp .lss 7 7 = false := by subst hA; rfl
  cbv at l7
  have b0 : A.bin .add .i64 0 1 = 1 := by subst hA; rfl
  cbv at b0
  have b1 : A.bin .add .i64 1 1 = 2 := by subst hA; rfl
  cbv at b1
  have b2 : A.bin .add .i64 2 1 = 3 := by subst hA; rfl
  cbv at b2
  have b3 : A.bin .add .i64 3 1 = 4 := by subst hA; rfl
  cbv at b3
  have b4 : A.bin .add .i64 4 1 = 5 := by subst hA; rfl
  cbv at b4
  have b5 : A.bin .add .i64 5 1 = 6 := by subst hA; rfl
  cbv at b5
  have b6 : A.bin .add .i64 6 1 = 7 := by subst hA; rfl
  cbv at b6
  have o0_0 : A.off 0 0 1 = 0 := by subst hA; rfl
  cbv at o0_0
  have o0_1 : A.off 0 1 1 = 1 := by subst hA; rfl
  cbv at o0_1
  have o0_2 : A.off 0 2 1 = 2 := by subst hA; rfl
  cbv at o0_2
  have o0_3 : A.off 0 3 1 = 3 := by subst hA; rfl
  cbv at o0_3
  have o0_4 : A.off 0 4 1 = 4 := by subst hA; rfl
  cbv at o0_4
  have o0_5 : A.off 0 5 1 = 5 := by subst hA; rfl
  cbv at o0_5
  have o0_6 : A.off 0 6 1 = 6 := by subst hA; rfl
  cbv at o0_6
  have hq : GFsR5.rightL2 (⟨9, m_src, m_dst, m_irep, m_islot, m_be, m_br, m_mkind, m_mclient, m_mseq, m_mkey, m_mfin, m_mold, m_mval, m_tseq, m_td0, m_td1, m_td2, m_td3, m_td4, m_td5, m_td6, m_lstatus, m_lpe, m_lpr, m_lve, m_lvr, m_lckind, m_lcclient, m_lcseq, m_lckey, m_lcfin, m_lcold, m_lcval, m_laseq, m_lad0, m_lad1, m_lad2, m_lad3, m_lad4, m_lad5, m_lad6, m_lsame, m_fd0, m_fd1, m_fd2, m_fd3, m_fd4, m_fd5, m_fd6, m_data⟩ : Letter) = true := by subst hFsR5; exact hr
  have nt : A.not true = false := by subst hA; rfl
  cbv at hq nt
  obtain ⟨⟨k0, k1, k2⟩, ⟨k3, k4⟩, k5, k6, k7, k8, ⟨f0, f1, f2, f3, f4, f5, f6⟩, kd⟩ : okLet (⟨9, m_src, m_dst, m_irep, m_islot, m_be, m_br, m_mkind, m_mclient, m_mseq, m_mkey, m_mfin, m_mold, m_mval, m_tseq, m_td0, m_td1, m_td2, m_td3, m_td4, m_td5, m_td6, m_lstatus, m_lpe, m_lpr, m_lve, m_lvr, m_lckind, m_lcclient, m_lcseq, m_lckey, m_lcfin, m_lcold, m_lcval, m_laseq, m_lad0, m_lad1, m_lad2, m_lad3, m_lad4, m_lad5, m_lad6, m_lsame, m_fd0, m_fd1, m_fd2, m_fd3, m_fd4, m_fd5, m_fd6, m_data⟩ : Letter) := hp0
  obtain ⟨x0, hx0⟩ : ∃ x, x = numX [] 9 := ⟨_, rfl⟩
  have hN0 : FnV Try.prog 43 [.d (.sc (.slice none 0 0)), .d (.sc (.int .i64 9))] (.d (.slc 1 x0)) := by
    refine FnP.ups (args := [.d (.sc (.slice none 0 0)), .d (.sc (.int .i64 9))]) (?_ : FnV Try.prog 43 [.d (.slc 1 []), .d (.sc (.int .i64 9))] (.d (.slc 1 x0))) (UpL.nil (UpL.keep UpL.done))
    rw [hx0]
    exact v_rnum [] 9 ⟨[], rfl, by decide⟩ k0
  have hy0 : isBn 10 x0 := by rw [hx0]; exact isBn.num (k := 0) ⟨[], rfl, Nat.le_refl _⟩ _
  obtain ⟨x1, hx1⟩ : ∃ x, x = numX x0 m_src := ⟨_, rfl⟩
  have hN1 : FnV Try.prog 43 [.d (.slc 1 x0), .d (.sc (.int .i64 m_src))] (.d (.slc 1 x1)) := by
    rw [hx1]
    exact v_rnum x0 m_src (hy0.le (by decide)) k1
  have hy1 : isBn 20 x1 := by rw [hx1]; exact hy0.num _
  obtain ⟨x2, hx2⟩ : ∃ x, x = numX x1 m_dst := ⟨_, rfl⟩
  have hN2 : FnV Try.prog 43 [.d (.slc 1 x1), .d (.sc (.int .i64 m_dst))] (.d (.slc 1 x2)) := by
    rw [hx2]
    exact v_rnum x1 m_dst (hy1.le (by decide)) k2
  have hy2 : isBn 30 x2 := by rw [hx2]; exact hy1.num _
  obtain ⟨x3, hx3⟩ : ∃ x, x = numX x2 m_fd0 := ⟨_, rfl⟩
  have hN3 : FnV Try.prog 43 [.d (.slc 1 x2), .d (.sc (.int .i64 m_fd0))] (.d (.slc 1 x3)) := by
    rw [hx3]
    exact v_rnum x2 m_fd0 (hy2.le (by decide)) f0
  have hy3 : isBn 40 x3 := by rw [hx3]; exact hy2.num _
  obtain ⟨x4, hx4⟩ : ∃ x, x = numX x3 m_fd1 := ⟨_, rfl⟩
  have hN4 : FnV Try.prog 43 [.d (.slc 1 x3), .d (.sc (.int .i64 m_fd1))] (.d (.slc 1 x4)) := by
    rw [hx4]
    exact v_rnum x3 m_fd1 (hy3.le (by decide)) f1
  have hy4 : isBn 50 x4 := by rw [hx4]; exact hy3.num _
  obtain ⟨x5, hx5⟩ : ∃ x, x = numX x4 m_fd2 := ⟨_, rfl⟩
  have hN5 : FnV Try.prog 43 [.d (.slc 1 x4), .d (.sc (.int .i64 m_fd2))] (.d (.slc 1 x5)) := by
    rw [hx5]
    exact v_rnum x4 m_fd2 (hy4.le (by decide)) f2
  have hy5 : isBn 60 x5 := by rw [hx5]; exact hy4.num _
  obtain ⟨x6, hx6⟩ : ∃ x, x = numX x5 m_fd3 := ⟨_, rfl⟩
  have hN6 : FnV Try.prog 43 [.d (.slc 1 x5), .d (.sc (.int .i64 m_fd3))] (.d (.slc 1 x6)) := by
    rw [hx6]
    exact v_rnum x5 m_fd3 (hy5.le (by decide)) f3
  have hy6 : isBn 70 x6 := by rw [hx6]; exact hy5.num _
  obtain ⟨x7, hx7⟩ : ∃ x, x = numX x6 m_fd4 := ⟨_, rfl⟩
  have hN7 : FnV Try.prog 43 [.d (.slc 1 x6), .d (.sc (.int .i64 m_fd4))] (.d (.slc 1 x7)) := by
    rw [hx7]
    exact v_rnum x6 m_fd4 (hy6.le (by decide)) f4
  have hy7 : isBn 80 x7 := by rw [hx7]; exact hy6.num _
  obtain ⟨x8, hx8⟩ : ∃ x, x = numX x7 m_fd5 := ⟨_, rfl⟩
  have hN8 : FnV Try.prog 43 [.d (.slc 1 x7), .d (.sc (.int .i64 m_fd5))] (.d (.slc 1 x8)) := by
    rw [hx8]
    exact v_rnum x7 m_fd5 (hy7.le (by decide)) f5
  have hy8 : isBn 90 x8 := by rw [hx8]; exact hy7.num _
  have hW0 := w_numL x8 m_fd6 (hy8.le (by decide)) f6
  obtain ⟨L, hLe⟩ : ∃ L, L = numX x8 m_fd6 := ⟨_, rfl⟩
  have hL : putLet (⟨9, m_src, m_dst, m_irep, m_islot, m_be, m_br, m_mkind, m_mclient, m_mseq, m_mkey, m_mfin, m_mold, m_mval, m_tseq, m_td0, m_td1, m_td2, m_td3, m_td4, m_td5, m_td6, m_lstatus, m_lpe, m_lpr, m_lve, m_lvr, m_lckind, m_lcclient, m_lcseq, m_lckey, m_lcfin, m_lcold, m_lcval, m_laseq, m_lad0, m_lad1, m_lad2, m_lad3, m_lad4, m_lad5, m_lad6, m_lsame, m_fd0, m_fd1, m_fd2, m_fd3, m_fd4, m_fd5, m_fd6, m_data⟩ : Letter) = L := by
    unfold putLet
    rw [if_pos hr, hLe, hx8, hx7, hx6, hx5, hx4, hx3, hx2, hx1, hx0]
    try rfl
  rw [← hLe] at hW0
  have hz : GFsW.rnum (GFsW.rnum (GFsW.rnum [] 9) m_src) m_dst = x2 := by
    subst hFsW
    rw [hx2, hx1, hx0]
    rfl
  cbv at hz
  have f1 : A.cmp .lss 9 1 = false := by subst hA; rfl
  have f2 : A.cmp .gtr 9 11 = false := by subst hA; rfl
  have f3 : A.cmp .lss 9 9 = false := by subst hA; rfl
  have f4 : A.cmp .neq 9 5 = true := by subst hA; rfl
  have g0 : A.cmp .eql 9 1 = false := by subst hA; rfl
  have g1 : A.cmp .eql 9 3 = false := by subst hA; rfl
  have g2 : A.cmp .eql 9 5 = false := by subst hA; rfl
  have g3 : A.cmp .eql 9 2 = false := by subst hA; rfl
  have g4 : A.cmp .eql 9 7 = false := by subst hA; rfl
  have g5 : A.cmp .eql 9 9 = true := by subst hA; rfl
  have g6 : A.cmp .eql 9 11 = false := by subst hA; rfl
  have g7 : A.cmp .eql 9 10 = false := by subst hA; rfl
  have ftf : A.cond false true false = false := by subst hA; rfl
  have fff : A.cond false false false = false := by subst hA; rfl
  cbv at f1 f2 f3 f4 g0 g1 g2 g3 g4 g5 g6 g7 ftf fff
  repeat' first
    | (simp only [hq, nt, hz, f1, f2, f3, f4, g0, g1, g2, g3, g4, g5, g6, g7, ftf, fff, l0, l1, l2, l3, l4, l5, l6, l7, b0, b1, b2, b3, b4, b5, b6, o0_0, o0_1, o0_2, o0_3, o0_4, o0_5, o0_6]; cbv)
    | (refine And.intro ?_ ?_)
  rotate_right 1
  · refine unrollL (T := fun _ => tabY [5003] []) (H := fun _ => []) (tabY_ok _ _) noK_ok follows_mixed hA hX 9 fun R2 hR2 => ?_
    cbv
    refine hR2 _ _ _ ?_
    cbv
    repeat' first
      | (simp only [hq, nt, f1, f2, f3, f4, g0, g1, g2, g3, g4, g5, g6, g7, ftf, fff, l0, l1, l2, l3, l4, l5, l6, l7, b0, b1, b2, b3, b4, b5, b6, o0_0, o0_1, o0_2, o0_3, o0_4, o0_5, o0_6]; cbv)
      | (refine And.intro ?_ ?_)
      | (refine hR2 _ _ _ ?_; cbv)
      | (refine callL hX (FnV.use hN3 rfl ?_); cbv)
      | (refine callL hX (FnV.use hN4 rfl ?_); cbv)
      | (refine callL hX (FnV.use hN5 rfl ?_); cbv)
      | (refine callL hX (FnV.use hN6 rfl ?_); cbv)
      | (refine callL hX (FnV.use hN7 rfl ?_); cbv)
      | (refine callL hX (FnV.use hN8 rfl ?_); cbv)
      | (refine callL hX (FnD.ownW hW0 rfl fun cc mm hcs hm => ?_); cbv)
    all_goals clear hR2
    all_goals subst hA hX hW hFsR5 hFsW
    all_goals first
      | rfl
      | (rw [hL]; exact own_keepL rfl rfl hcs hm)
      | exact ⟨by decide, by decide⟩
      | (simp; done)
      | fail
  all_goals subst hA hX hW hFsR5 hFsW
  all_goals first
    | rfl
    | exact k0
    | exact k1
    | exact k2
    | (show Region.lexB _ _ = true; kernel_rfl)
    | (show isB []; exact ⟨[], rfl, by decide⟩)
    | (show isB (numX [] 9); rw [← hx0]; exact hy0.le (by decide))
    | (show isB (numX (numX [] 9) m_src); rw [← hx0, ← hx1]; exact hy1.le (by decide))
    | (show okLet (⟨9, m_src, m_dst, m_irep, m_islot, m_be, m_br, m_mkind, m_mclient, m_mseq, m_mkey, m_mfin, m_mold, m_mval, m_tseq, m_td0, m_td1, m_td2, m_td3, m_td4, m_td5, m_td6, m_lstatus, m_lpe, m_lpr, m_lve, m_lvr, m_lckind, m_lcclient, m_lcseq, m_lckey, m_lcfin, m_lcold, m_lcval, m_laseq, m_lad0, m_lad1, m_lad2, m_lad3, m_lad4, m_lad5, m_lad6, m_lsame, m_fd0, m_fd1, m_fd2, m_fd3, m_fd4, m_fd5, m_fd6, m_data⟩ : Letter); exact ⟨⟨k0, k1, k2⟩, ⟨k3, k4⟩, k5, k6, k7, k8, ⟨f0, f1, f2, f3, f4, f5, f6⟩, kd⟩)
    | exact ⟨by decide, by decide⟩
    | (simp; done)
    | fail
set_option maxRecDepth 100000 in
theorem w_plL10 (m : Letter) (hp0 : okLet m) (hr : rightL m = true) (e : m.lkind = 10) : FnD Try.prog 18 [m.D] [] (ownL (putLet m)) := by
  obtain ⟨m_lkind, m_src, m_dst, m_irep, m_islot, m_be, m_br, m_mkind, m_mclient, m_mseq, m_mkey, m_mfin, m_mold, m_mval, m_tseq, m_td0, m_td1, m_td2, m_td3, m_td4, m_td5, m_td6, m_lstatus, m_lpe, m_lpr, m_lve, m_lvr, m_lckind, m_lcclient, m_lcseq, m_lckey, m_lcfin, m_lcold, m_lcval, m_laseq, m_lad0, m_lad1, m_lad2, m_lad3, m_lad4, m_lad5, m_lad6, m_lsame, m_fd0, m_fd1, m_fd2, m_fd3, m_fd4, m_fd5, m_fd6, m_data⟩ := m
  replace e : m_lkind = 10 := e
  subst e
  have hrp := rightL_parts hr
  obtain ⟨GFsR5, hFsR5⟩ : ∃ F, F = FsR50 := ⟨_, rfl⟩
  obtain ⟨GFsW, hFsW⟩ : ∃ F, F = FsW0 := ⟨_, rfl⟩
  obtain ⟨GFsR6, hFsR6⟩ : ∃ F, F = FsR60 := ⟨_, rfl⟩
  have hH : SoundK Try.prog [kn_rightL2 GFsR5, kn_rnum GFsW, kn_inst2 GFsR6, kn_ballot2 GFsR6, kn_cmd2 GFsR6, kn_attr2 GFsR6, kn_putCell2 GFsR6] := by subst hFsR5 hFsW hFsR6; exact orK_ok ok_rightL2 (orK_ok ok_rnum (orK_ok ok_inst2 (orK_ok ok_ballot2 (orK_ok ok_cmd2 (orK_ok ok_attr2 (orK_ok ok_putCell2 noK_ok))))))
  have hB : SoundB Try.prog [] := by subst hFsR5 hFsW hFsR6; exact noB_ok
  refine FnD_cbv (T := fun _ => tabY [5003] []) (H := fun _ => [kn_rightL2 GFsR5, kn_rnum GFsW, kn_inst2 GFsR6, kn_ballot2 GFsR6, kn_cmd2 GFsR6, kn_attr2 GFsR6, kn_putCell2 GFsR6]) (tabY_ok _ _) hH follows_mixed Try.func18 rfl Try.ntmps18 (by simp) fun A X W hA hX hW => ?_
  cbv
  have l0 : A.cmp .lss 0 7 = true := by subst hA; rfl
  cbv at l0
  have l1 : A.cmp .lss 1 7 = true := by subst hA; rfl
  cbv at l1
  have l2 : A.cmp .lss 2 7 = true := by subst hA; rfl
  cbv at l2
  have l3 : A.cmp .lss 3 7 = true := by subst hA; rfl
  cbv at l3
  have l4 : A.cmp .lss 4 7 = true := by subst hA; rfl
  cbv at l4
  have l5 : A.cmp .lss 5 7 = true := by subst hA; rfl
  cbv at l5
  have l6 : A.cmp .lss 6 7 = true := by subst hA; rfl
  cbv at l6
  have l7 : A.cmp .lss 7 7 = false := by subst hA; rfl
  cbv at l7
  have b0 : A.bin .add .i64 0 1 = 1 := by subst hA; rfl
  cbv at b0
  have b1 : A.bin .add .i64 1 1 = 2 := by subst hA; rfl
  cbv at b1
  have b2 : A.bin .add .i64 2 1 = 3 := by subst hA; rfl
  cbv at b2
  have b3 : A.bin .add .i64 3 1 = 4 := by subst hA; rfl
  cbv at b3
  have b4 : A.bin .add .i64 4 1 = 5 := by subst hA; rfl
  cbv at b4
  have b5 : A.bin .add .i64 5 1 = 6 := by subst hA; rfl
  cbv at b5
  have b6 : A.bin .add .i64 6 1 = 7 := by subst hA; rfl
  cbv at b6
  have o0_0 : A.off 0 0 1 = 0 := by subst hA; rfl
  cbv at o0_0
  have o0_1 : A.off 0 1 1 = 1 := by subst hA; rfl
  cbv at o0_1
  have o0_2 : A.off 0 2 1 = 2 := by subst hA; rfl
  cbv at o0_2
  have o0_3 : A.off 0 3 1 = 3 := by subst hA; rfl
  cbv at o0_3
  have o0_4 : A.off 0 4 1 = 4 := by subst hA; rfl
  cbv at o0_4
  have o0_5 : A.off 0 5 1 = 5 := by subst hA; rfl
  cbv at o0_5
  have o0_6 : A.off 0 6 1 = 6 := by subst hA; rfl
  cbv at o0_6
  have hq : GFsR5.rightL2 (⟨10, m_src, m_dst, m_irep, m_islot, m_be, m_br, m_mkind, m_mclient, m_mseq, m_mkey, m_mfin, m_mold, m_mval, m_tseq, m_td0, m_td1, m_td2, m_td3, m_td4, m_td5, m_td6, m_lstatus, m_lpe, m_lpr, m_lve, m_lvr, m_lckind, m_lcclient, m_lcseq, m_lckey, m_lcfin, m_lcold, m_lcval, m_laseq, m_lad0, m_lad1, m_lad2, m_lad3, m_lad4, m_lad5, m_lad6, m_lsame, m_fd0, m_fd1, m_fd2, m_fd3, m_fd4, m_fd5, m_fd6, m_data⟩ : Letter) = true := by subst hFsR5; exact hr
  have nt : A.not true = false := by subst hA; rfl
  cbv at hq nt
  have f1 : A.cmp .lss 10 1 = false := by subst hA; rfl
  have f2 : A.cmp .gtr 10 11 = false := by subst hA; rfl
  have f3 : A.cmp .lss 10 9 = false := by subst hA; rfl
  have f4 : A.cmp .neq 10 5 = true := by subst hA; rfl
  have g0 : A.cmp .eql 10 1 = false := by subst hA; rfl
  have g1 : A.cmp .eql 10 3 = false := by subst hA; rfl
  have g2 : A.cmp .eql 10 5 = false := by subst hA; rfl
  have g3 : A.cmp .eql 10 2 = false := by subst hA; rfl
  have g4 : A.cmp .eql 10 7 = false := by subst hA; rfl
  have g5 : A.cmp .eql 10 9 = false := by subst hA; rfl
  have g6 : A.cmp .eql 10 11 = false := by subst hA; rfl
  have g7 : A.cmp .eql 10 10 = true := by subst hA; rfl
  have ftf : A.cond false true false = false := by subst hA; rfl
  have fff : A.cond false false false = false := by subst hA; rfl
  cbv at f1 f2 f3 f4 g0 g1 g2 g3 g4 g5 g6 g7 ftf fff
  repeat' first
    | (simp only [hq, nt, f1, f2, f3, f4, g0, g1, g2, g3, g4, g5, g6, g7, ftf, fff, l0, l1, l2, l3, l4, l5, l6, l7, b0, b1, b2, b3, b4, b5, b6, o0_0, o0_1, o0_2, o0_3, o0_4, o0_5, o0_6]; cbv)
    | (refine And.intro ?_ ?_)
    | (refine callL hX (FnD.own (w_textL _ m_data ?_ ?_) rfl fun vv cc mm hcs hm => ?_); rotate_right 1; cbv)
  all_goals clear hH hB
  all_goals subst hA hX hW hFsR5 hFsW hFsR6
  all_goals obtain ⟨⟨k0, k1, k2⟩, ⟨k3, k4⟩, k5, k6, k7, k8, ⟨f0, f1, f2, f3, f4, f5, f6⟩, kd⟩ : okLet (⟨10, m_src, m_dst, m_irep, m_islot, m_be, m_br, m_mkind, m_mclient, m_mseq, m_mkey, m_mfin, m_mold, m_mval, m_tseq, m_td0, m_td1, m_td2, m_td3, m_td4, m_td5, m_td6, m_lstatus, m_lpe, m_lpr, m_lve, m_lvr, m_lckind, m_lcclient, m_lcseq, m_lckey, m_lcfin, m_lcold, m_lcval, m_laseq, m_lad0, m_lad1, m_lad2, m_lad3, m_lad4, m_lad5, m_lad6, m_lsame, m_fd0, m_fd1, m_fd2, m_fd3, m_fd4, m_fd5, m_fd6, m_data⟩ : Letter) := hp0
  all_goals have b0 : isBn 0 [] := ⟨[], rfl, Nat.le_refl _⟩
  all_goals have b1 := (isBn.num b0 10)
  all_goals have b2 := (isBn.num b1 m_src)
  all_goals have b3 := (isBn.num b2 m_dst)
  all_goals first
    | (show Region.lexB _ _ = true; kernel_rfl)
    | exact k0
    | exact k1
    | exact k2
    | exact ⟨k3, k4⟩
    | exact k5
    | exact k6
    | exact k7
    | exact k8
    | exact hrp.2.2
    | (show szT _; unfold szT; exact Nat.le_trans kd (by decide))
    | exact b0.le (by omega)
    | exact b0.mono (by omega)
    | exact b1.le (by omega)
    | exact b1.mono (by omega)
    | exact b2.le (by omega)
    | exact b2.mono (by omega)
    | exact b3.le (by omega)
    | exact b3.mono (by omega)
    | (simp only [hq, nt, A0]; intros; first | assumption | trivial | (simp_all; done))
    | (have hc : rightC ⟨m_mkind, m_mclient, m_mseq, m_mkey, m_mfin, m_mold, m_mval⟩ = true := hrp.1
       have hl : rightCell ⟨m_lstatus, m_lpe, m_lpr, m_lve, m_lvr, m_lckind, m_lcclient, m_lcseq, m_lckey, m_lcfin, m_lcold, m_lcval, m_laseq, m_lad0, m_lad1, m_lad2, m_lad3, m_lad4, m_lad5, m_lad6, m_lsame⟩ = true := hrp.2.2
       first
         | refine own_keepL (L := putLet (⟨10, m_src, m_dst, m_irep, m_islot, m_be, m_br, m_mkind, m_mclient, m_mseq, m_mkey, m_mfin, m_mold, m_mval, m_tseq, m_td0, m_td1, m_td2, m_td3, m_td4, m_td5, m_td6, m_lstatus, m_lpe, m_lpr, m_lve, m_lvr, m_lckind, m_lcclient, m_lcseq, m_lckey, m_lcfin, m_lcold, m_lcval, m_laseq, m_lad0, m_lad1, m_lad2, m_lad3, m_lad4, m_lad5, m_lad6, m_lsame, m_fd0, m_fd1, m_fd2, m_fd3, m_fd4, m_fd5, m_fd6, m_data⟩ : Letter)) rfl rfl (hcs.trans (congrArg rowsD ?_)) (hm.trans (congrArg List.length ?_))
         | refine own_keepL (L := putLet (⟨10, m_src, m_dst, m_irep, m_islot, m_be, m_br, m_mkind, m_mclient, m_mseq, m_mkey, m_mfin, m_mold, m_mval, m_tseq, m_td0, m_td1, m_td2, m_td3, m_td4, m_td5, m_td6, m_lstatus, m_lpe, m_lpr, m_lve, m_lvr, m_lckind, m_lcclient, m_lcseq, m_lckey, m_lcfin, m_lcold, m_lcval, m_laseq, m_lad0, m_lad1, m_lad2, m_lad3, m_lad4, m_lad5, m_lad6, m_lsame, m_fd0, m_fd1, m_fd2, m_fd3, m_fd4, m_fd5, m_fd6, m_data⟩ : Letter)) rfl rfl (congrArg rowsD ?_) (congrArg List.length ?_)
       all_goals
         unfold putLet
         rw [if_pos hr]
         try simp only [A0, nc, FsR50, FsW0, FsR60, cmdX_put hc, putCellM_eq hl]
         rfl)
    | (simp; done)
    | exact ⟨by decide, by decide⟩
    | fail
set_option maxRecDepth 100000 in
theorem w_plL11 (m : Letter) (hp0 : okLet m) (hr : rightL m = true) (e : m.lkind = 11) : FnD Try.prog 18 [m.D] [] (ownL (putLet m)) := by
  obtain ⟨m_lkind, m_src, m_dst, m_irep, m_islot, m_be, m_br, m_mkind, m_mclient, m_mseq, m_mkey, m_mfin, m_mold, m_mval, m_tseq, m_td0, m_td1, m_td2, m_td3, m_td4, m_td5, m_td6, m_lstatus, m_lpe, m_lpr, m_lve, m_lvr, m_lckind, m_lcclient, m_lcseq, m_lckey, m_lcfin, m_lcold, m_lcval, m_laseq, m_lad0, m_lad1, m_lad2, m_lad3, m_lad4, m_lad5, m_lad6, m_lsame, m_fd0, m_fd1, m_fd2, m_fd3, m_fd4, m_fd5, m_fd6, m_data⟩ := m
  replace e : m_lkind = 11 := e
  subst e
  have hrp := rightL_parts hr
  obtain ⟨GFsR5, hFsR5⟩ : ∃ F, F = FsR50 := ⟨_, rfl⟩
  obtain ⟨GFsW, hFsW⟩ : ∃ F, F = FsW0 := ⟨_, rfl⟩
  have hH : SoundK Try.prog [kn_rightL2 GFsR5, kn_rnum GFsW] := by subst hFsR5 hFsW; exact orK_ok ok_rightL2 (orK_ok ok_rnum noK_ok)
  have hB : SoundB Try.prog [] := by subst hFsR5 hFsW; exact noB_ok
  refine FnD_cbv (T := fun _ => tabY [5003] []) (H := fun _ => [kn_rightL2 GFsR5, kn_rnum GFsW]) (tabY_ok _ _) hH follows_mixed Try.func18 rfl Try.ntmps18 (by simp) fun A X W hA hX hW => ?_
  cbv
  have l0 : A.cmp .lss 0 7 = true := by subst hA; rfl
  cbv at l0
  have l1 : A.cmp .lss 1 7 = true := by subst hA; rfl
  cbv at l1
  have l2 : A.cmp .lss 2 7 = true := by subst hA; rfl
  cbv at l2
  have l3 : A.cmp .lss 3 7 = true := by subst hA; rfl
  cbv at l3
  have l4 : A.cmp .lss 4 7 = true := by subst hA; rfl
  cbv at l4
  have l5 : A.cmp .lss 5 7 = true := by subst hA; rfl
  cbv at l5
  have l6 : A.cmp .lss 6 7 = true := by subst hA; rfl
  cbv at l6
  have l7 : A.cmp .lss 7 7 = false := by subst hA; rfl
  cbv at l7
  have b0 : A.bin .add .i64 0 1 = 1 := by subst hA; rfl
  cbv at b0
  have b1 : A.bin .add .i64 1 1 = 2 := by subst hA; rfl
  cbv at b1
  have b2 : A.bin .add .i64 2 1 = 3 := by subst hA; rfl
  cbv at b2
  have b3 : A.bin .add .i64 3 1 = 4 := by subst hA; rfl
  cbv at b3
  have b4 : A.bin .add .i64 4 1 = 5 := by subst hA; rfl
  cbv at b4
  have b5 : A.bin .add .i64 5 1 = 6 := by subst hA; rfl
  cbv at b5
  have b6 : A.bin .add .i64 6 1 = 7 := by subst hA; rfl
  cbv at b6
  have o0_0 : A.off 0 0 1 = 0 := by subst hA; rfl
  cbv at o0_0
  have o0_1 : A.off 0 1 1 = 1 := by subst hA; rfl
  cbv at o0_1
  have o0_2 : A.off 0 2 1 = 2 := by subst hA; rfl
  cbv at o0_2
  have o0_3 : A.off 0 3 1 = 3 := by subst hA; rfl
  cbv at o0_3
  have o0_4 : A.off 0 4 1 = 4 := by subst hA; rfl
  cbv at o0_4
  have o0_5 : A.off 0 5 1 = 5 := by subst hA; rfl
  cbv at o0_5
  have o0_6 : A.off 0 6 1 = 6 := by subst hA; rfl
  cbv at o0_6
  have hq : GFsR5.rightL2 (⟨11, m_src, m_dst, m_irep, m_islot, m_be, m_br, m_mkind, m_mclient, m_mseq, m_mkey, m_mfin, m_mold, m_mval, m_tseq, m_td0, m_td1, m_td2, m_td3, m_td4, m_td5, m_td6, m_lstatus, m_lpe, m_lpr, m_lve, m_lvr, m_lckind, m_lcclient, m_lcseq, m_lckey, m_lcfin, m_lcold, m_lcval, m_laseq, m_lad0, m_lad1, m_lad2, m_lad3, m_lad4, m_lad5, m_lad6, m_lsame, m_fd0, m_fd1, m_fd2, m_fd3, m_fd4, m_fd5, m_fd6, m_data⟩ : Letter) = true := by subst hFsR5; exact hr
  have nt : A.not true = false := by subst hA; rfl
  cbv at hq nt
  obtain ⟨⟨k0, k1, k2⟩, ⟨k3, k4⟩, k5, k6, k7, k8, ⟨f0, f1, f2, f3, f4, f5, f6⟩, kd⟩ : okLet (⟨11, m_src, m_dst, m_irep, m_islot, m_be, m_br, m_mkind, m_mclient, m_mseq, m_mkey, m_mfin, m_mold, m_mval, m_tseq, m_td0, m_td1, m_td2, m_td3, m_td4, m_td5, m_td6, m_lstatus, m_lpe, m_lpr, m_lve, m_lvr, m_lckind, m_lcclient, m_lcseq, m_lckey, m_lcfin, m_lcold, m_lcval, m_laseq, m_lad0, m_lad1, m_lad2, m_lad3, m_lad4, m_lad5, m_lad6, m_lsame, m_fd0, m_fd1, m_fd2, m_fd3, m_fd4, m_fd5, m_fd6, m_data⟩ : Letter) := hp0
  obtain ⟨x0, hx0⟩ : ∃ x, x = numX [] 11 := ⟨_, rfl⟩
  have hN0 : FnV Try.prog 43 [.d (.sc (.slice none 0 0)), .d (.sc (.int .i64 11))] (.d (.slc 1 x0)) := by
    refine FnP.ups (args := [.d (.sc (.slice none 0 0)), .d (.sc (.int .i64 11))]) (?_ : FnV Try.prog 43 [.d (.slc 1 []), .d (.sc (.int .i64 11))] (.d (.slc 1 x0))) (UpL.nil (UpL.keep UpL.done))
    rw [hx0]
    exact v_rnum [] 11 ⟨[], rfl, by decide⟩ k0
  have hy0 : isBn 10 x0 := by rw [hx0]; exact isBn.num (k := 0) ⟨[], rfl, Nat.le_refl _⟩ _
  obtain ⟨x1, hx1⟩ : ∃ x, x = numX x0 m_src := ⟨_, rfl⟩
  have hN1 : FnV Try.prog 43 [.d (.slc 1 x0), .d (.sc (.int .i64 m_src))] (.d (.slc 1 x1)) := by
    rw [hx1]
    exact v_rnum x0 m_src (hy0.le (by decide)) k1
  have hy1 : isBn 20 x1 := by rw [hx1]; exact hy0.num _
  obtain ⟨x2, hx2⟩ : ∃ x, x = numX x1 m_dst := ⟨_, rfl⟩
  have hN2 : FnV Try.prog 43 [.d (.slc 1 x1), .d (.sc (.int .i64 m_dst))] (.d (.slc 1 x2)) := by
    rw [hx2]
    exact v_rnum x1 m_dst (hy1.le (by decide)) k2
  have hy2 : isBn 30 x2 := by rw [hx2]; exact hy1.num _
  obtain ⟨x3, hx3⟩ : ∃ x, x = numX x2 m_fd0 := ⟨_, rfl⟩
  have hN3 : FnV Try.prog 43 [.d (.slc 1 x2), .d (.sc (.int .i64 m_fd0))] (.d (.slc 1 x3)) := by
    rw [hx3]
    exact v_rnum x2 m_fd0 (hy2.le (by decide)) f0
  have hy3 : isBn 40 x3 := by rw [hx3]; exact hy2.num _
  obtain ⟨x4, hx4⟩ : ∃ x, x = numX x3 m_fd1 := ⟨_, rfl⟩
  have hN4 : FnV Try.prog 43 [.d (.slc 1 x3), .d (.sc (.int .i64 m_fd1))] (.d (.slc 1 x4)) := by
    rw [hx4]
    exact v_rnum x3 m_fd1 (hy3.le (by decide)) f1
  have hy4 : isBn 50 x4 := by rw [hx4]; exact hy3.num _
  obtain ⟨x5, hx5⟩ : ∃ x, x = numX x4 m_fd2 := ⟨_, rfl⟩
  have hN5 : FnV Try.prog 43 [.d (.slc 1 x4), .d (.sc (.int .i64 m_fd2))] (.d (.slc 1 x5)) := by
    rw [hx5]
    exact v_rnum x4 m_fd2 (hy4.le (by decide)) f2
  have hy5 : isBn 60 x5 := by rw [hx5]; exact hy4.num _
  obtain ⟨x6, hx6⟩ : ∃ x, x = numX x5 m_fd3 := ⟨_, rfl⟩
  have hN6 : FnV Try.prog 43 [.d (.slc 1 x5), .d (.sc (.int .i64 m_fd3))] (.d (.slc 1 x6)) := by
    rw [hx6]
    exact v_rnum x5 m_fd3 (hy5.le (by decide)) f3
  have hy6 : isBn 70 x6 := by rw [hx6]; exact hy5.num _
  obtain ⟨x7, hx7⟩ : ∃ x, x = numX x6 m_fd4 := ⟨_, rfl⟩
  have hN7 : FnV Try.prog 43 [.d (.slc 1 x6), .d (.sc (.int .i64 m_fd4))] (.d (.slc 1 x7)) := by
    rw [hx7]
    exact v_rnum x6 m_fd4 (hy6.le (by decide)) f4
  have hy7 : isBn 80 x7 := by rw [hx7]; exact hy6.num _
  obtain ⟨x8, hx8⟩ : ∃ x, x = numX x7 m_fd5 := ⟨_, rfl⟩
  have hN8 : FnV Try.prog 43 [.d (.slc 1 x7), .d (.sc (.int .i64 m_fd5))] (.d (.slc 1 x8)) := by
    rw [hx8]
    exact v_rnum x7 m_fd5 (hy7.le (by decide)) f5
  have hy8 : isBn 90 x8 := by rw [hx8]; exact hy7.num _
  have hW0 := w_numL x8 m_fd6 (hy8.le (by decide)) f6
  obtain ⟨L, hLe⟩ : ∃ L, L = numX x8 m_fd6 := ⟨_, rfl⟩
  have hL : putLet (⟨11, m_src, m_dst, m_irep, m_islot, m_be, m_br, m_mkind, m_mclient, m_mseq, m_mkey, m_mfin, m_mold, m_mval, m_tseq, m_td0, m_td1, m_td2, m_td3, m_td4, m_td5, m_td6, m_lstatus, m_lpe, m_lpr, m_lve, m_lvr, m_lckind, m_lcclient, m_lcseq, m_lckey, m_lcfin, m_lcold, m_lcval, m_laseq, m_lad0, m_lad1, m_lad2, m_lad3, m_lad4, m_lad5, m_lad6, m_lsame, m_fd0, m_fd1, m_fd2, m_fd3, m_fd4, m_fd5, m_fd6, m_data⟩ : Letter) = L := by
    unfold putLet
    rw [if_pos hr, hLe, hx8, hx7, hx6, hx5, hx4, hx3, hx2, hx1, hx0]
    try rfl
  rw [← hLe] at hW0
  have hz : GFsW.rnum (GFsW.rnum (GFsW.rnum [] 11) m_src) m_dst = x2 := by
    subst hFsW
    rw [hx2, hx1, hx0]
    rfl
  cbv at hz
  have f1 : A.cmp .lss 11 1 = false := by subst hA; rfl
  have f2 : A.cmp .gtr 11 11 = false := by subst hA; rfl
  have f3 : A.cmp .lss 11 9 = false := by subst hA; rfl
  have f4 : A.cmp .neq 11 5 = true := by subst hA; rfl
  have g0 : A.cmp .eql 11 1 = false := by subst hA; rfl
  have g1 : A.cmp .eql 11 3 = false := by subst hA; rfl
  have g2 : A.cmp .eql 11 5 = false := by subst hA; rfl
  have g3 : A.cmp .eql 11 2 = false := by subst hA; rfl
  have g4 : A.cmp .eql 11 7 = false := by subst hA; rfl
  have g5 : A.cmp .eql 11 9 = false := by subst hA; rfl
  have g6 : A.cmp .eql 11 11 = true := by subst hA; rfl
  have g7 : A.cmp .eql 11 10 = false := by subst hA; rfl
  have ftf : A.cond false true false = false := by subst hA; rfl
  have fff : A.cond false false false = false := by subst hA; rfl
  cbv at f1 f2 f3 f4 g0 g1 g2 g3 g4 g5 g6 g7 ftf fff
  repeat' first
    | (simp only [hq, nt, hz, f1, f2, f3, f4, g0, g1, g2, g3, g4, g5, g6, g7, ftf, fff, l0, l1, l2, l3, l4, l5, l6, l7, b0, b1, b2, b3, b4, b5, b6, o0_0, o0_1, o0_2, o0_3, o0_4, o0_5, o0_6]; cbv)
    | (refine And.intro ?_ ?_)
  rotate_right 1
  · refine unrollL (T := fun _ => tabY [5003] []) (H := fun _ => []) (tabY_ok _ _) noK_ok follows_mixed hA hX 9 fun R2 hR2 => ?_
    cbv
    refine hR2 _ _ _ ?_
    cbv
    repeat' first
      | (simp only [hq, nt, f1, f2, f3, f4, g0, g1, g2, g3, g4, g5, g6, g7, ftf, fff, l0, l1, l2, l3, l4, l5, l6, l7, b0, b1, b2, b3, b4, b5, b6, o0_0, o0_1, o0_2, o0_3, o0_4, o0_5, o0_6]; cbv)
      | (refine And.intro ?_ ?_)
      | (refine hR2 _ _ _ ?_; cbv)
      | (refine callL hX (FnV.use hN3 rfl ?_); cbv)
      | (refine callL hX (FnV.use hN4 rfl ?_); cbv)
      | (refine callL hX (FnV.use hN5 rfl ?_); cbv)
      | (refine callL hX (FnV.use hN6 rfl ?_); cbv)
      | (refine callL hX (FnV.use hN7 rfl ?_); cbv)
      | (refine callL hX (FnV.use hN8 rfl ?_); cbv)
      | (refine callL hX (FnD.ownW hW0 rfl fun cc mm hcs hm => ?_); cbv)
    all_goals clear hR2
    all_goals subst hA hX hW hFsR5 hFsW
    all_goals first
      | rfl
      | (rw [hL]; exact own_keepL rfl rfl hcs hm)
      | exact ⟨by decide, by decide⟩
      | (simp; done)
      | fail
  all_goals subst hA hX hW hFsR5 hFsW
  all_goals first
    | rfl
    | exact k0
    | exact k1
    | exact k2
    | (show Region.lexB _ _ = true; kernel_rfl)
    | (show isB []; exact ⟨[], rfl, by decide⟩)
    | (show isB (numX [] 11); rw [← hx0]; exact hy0.le (by decide))
    | (show isB (numX (numX [] 11) m_src); rw [← hx0, ← hx1]; exact hy1.le (by decide))
    | (show okLet (⟨11, m_src, m_dst, m_irep, m_islot, m_be, m_br, m_mkind, m_mclient, m_mseq, m_mkey, m_mfin, m_mold, m_mval, m_tseq, m_td0, m_td1, m_td2, m_td3, m_td4, m_td5, m_td6, m_lstatus, m_lpe, m_lpr, m_lve, m_lvr, m_lckind, m_lcclient, m_lcseq, m_lckey, m_lcfin, m_lcold, m_lcval, m_laseq, m_lad0, m_lad1, m_lad2, m_lad3, m_lad4, m_lad5, m_lad6, m_lsame, m_fd0, m_fd1, m_fd2, m_fd3, m_fd4, m_fd5, m_fd6, m_data⟩ : Letter); exact ⟨⟨k0, k1, k2⟩, ⟨k3, k4⟩, k5, k6, k7, k8, ⟨f0, f1, f2, f3, f4, f5, f6⟩, kd⟩)
    | exact ⟨by decide, by decide⟩
    | (simp; done)
    | fail
theorem w_putLetL (m : Letter) (hp0 : okLet m) (hr : rightL m = true) : FnD Try.prog 18 [m.D] [] (ownL (putLet m)) := by
  rcases kinds (rightL_kind hr) with e | e | e | e | e | e | e | e | e | e | e
  · exact w_plL1 m hp0 hr e
  · exact w_plL2 m hp0 hr e
  · exact w_plL3 m hp0 hr e
  · exact w_plL4 m hp0 hr e
  · exact w_plL5 m hp0 hr e
  · exact w_plL6 m hp0 hr e
  · exact w_plL7 m hp0 hr e
  · exact w_plL8 m hp0 hr e
  · exact w_plL9 m hp0 hr e
  · exact w_plL10 m hp0 hr e
  · exact w_plL11 m hp0 hr e
end Go.Proofs.Ytbhapclaochcnaa
