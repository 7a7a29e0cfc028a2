/- Ballots, flags and cells as bytes. No condition. -/
import Derived.Test.YtbhapclaochcnaaLe2
namespace Go.Proofs.Ytbhapclaochcnaa
open Go.RowKit
set_option linter.all false
set_option maxHeartbeats 4000000

structure FsW9 where
  pflag : List (List PD) → Bool → List (List PD)
  isB : List (List PD) → Prop
noncomputable def FsW90 : FsW9 where
  pflag := flagX
  isB := isB
set_option maxRecDepth 100000 in
theorem v_pflag (xs : List (List PD)) (b : Bool) (hp0 : isB xs) : FnV Try.prog 58 [.d (.slc 1 xs), boolD b] (.d (.slc 1 (flagX xs b))) := by
  obtain ⟨bs, hxs, hb⟩ := hp0
  cases b
  · have hH : SoundK Try.prog [] := by exact noK_ok
    have hB : SoundB Try.prog [] := by exact noB_ok
    refine FnD_cbv (T := fun _ => tabY [] []) (H := fun _ => []) (tabY_ok _ _) hH follows_mixed Try.func58 rfl Try.ntmps58 (by simp) fun A X W hA hX hW => ?_
    cbv
    refine callL hX ((w_grown bs xs _ hxs (by decide) (by decide) (by omega)).mono ?_)
    rintro r st ⟨cs, m, hcs, hm, rfl, rfl⟩
    cbv
    repeat' first
      | (refine And.intro ?_ ?_)
    all_goals subst hA hX hW
    all_goals clear hH hB
    all_goals simp only [A0] at *
    all_goals first
      | rfl
      | omega
      | (simp; done)
      | (simp; omega)
      | (rw [hxs, rowsB_length, bytesP_length]; simp; done)
      | (simp [hxs, rowsB_length, bytesP_length]; done)
      | (simp [hcs, rowsB_length, hm]; done)
      | (simp [hcs, rowsB_length, hm]; omega)
      | (refine ret_bytes (bs := bs ++ [1]) rfl ?_ ?_ (by simp [flagX, hxs, bytesP_append]) <;> simp [hxs, bytesP_length, rowsB_append, rowsB_one]; done)
      | (refine ret_bytes (bs := bs ++ [0]) rfl ?_ ?_ (by simp [flagX, hxs, bytesP_append]) <;> simp [hxs, bytesP_length, rowsB_append, rowsB_one]; done)
      | (refine ret_bytes (bs := bs ++ [1]) rfl ?_ ?_ (by simp [flagX, hxs, bytesP_append]) <;> simp [hcs, hm, rowsB_append, rowsB_one]; done)
      | (refine ret_bytes (bs := bs ++ [0]) rfl ?_ ?_ (by simp [flagX, hxs, bytesP_append]) <;> simp [hcs, hm, rowsB_append, rowsB_one]; done)

  · have hH : SoundK Try.prog [] := by exact noK_ok
    have hB : SoundB Try.prog [] := by exact noB_ok
    refine FnD_cbv (T := fun _ => tabY [] []) (H := fun _ => []) (tabY_ok _ _) hH follows_mixed Try.func58 rfl Try.ntmps58 (by simp) fun A X W hA hX hW => ?_
    cbv
    refine callL hX ((w_grown bs xs _ hxs (by decide) (by decide) (by omega)).mono ?_)
    rintro r st ⟨cs, m, hcs, hm, rfl, rfl⟩
    cbv
    repeat' first
      | (refine And.intro ?_ ?_)
    all_goals subst hA hX hW
    all_goals clear hH hB
    all_goals simp only [A0] at *
    all_goals first
      | rfl
      | omega
      | (simp; done)
      | (simp; omega)
      | (rw [hxs, rowsB_length, bytesP_length]; simp; done)
      | (simp [hxs, rowsB_length, bytesP_length]; done)
      | (simp [hcs, rowsB_length, hm]; done)
      | (simp [hcs, rowsB_length, hm]; omega)
      | (refine ret_bytes (bs := bs ++ [1]) rfl ?_ ?_ (by simp [flagX, hxs, bytesP_append]) <;> simp [hxs, bytesP_length, rowsB_append, rowsB_one]; done)
      | (refine ret_bytes (bs := bs ++ [0]) rfl ?_ ?_ (by simp [flagX, hxs, bytesP_append]) <;> simp [hxs, bytesP_length, rowsB_append, rowsB_one]; done)
      | (refine ret_bytes (bs := bs ++ [1]) rfl ?_ ?_ (by simp [flagX, hxs, bytesP_append]) <;> simp [hcs, hm, rowsB_append, rowsB_one]; done)
      | (refine ret_bytes (bs := bs ++ [0]) rfl ?_ ?_ (by simp [flagX, hxs, bytesP_append]) <;> simp [hcs, hm, rowsB_append, rowsB_one]; done)

def kn_pflag (F : FsW9) : FuncId × (List DV → RV) := (58, fun args => match args with
  | [.d (.slc 1 xs), .d (.sc (.bool b))] => some ([F.isB xs], .d (.slc 1 (F.pflag xs b)))
  | [.d (.sc (.slice none 0 0)), .d (.sc (.bool b))] => some ([F.isB []], .d (.slc 1 (F.pflag [] b)))
  | _ => none)
theorem ok_pflag (args : List DV) (cs : List Prop) (r : DV) (h : (kn_pflag FsW90).2 args = some (cs, r)) (hc : allP cs True) : FnV Try.prog 58 args r ∧ closedL 0 args = true := by
  unfold kn_pflag at h
  simp only at h
  split at h
  · cases h; exact ⟨v_pflag _ _ hc.1, rfl⟩
  · cases h; exact ⟨FnP.nils (v_pflag [] _ hc.1) ⟨.inr ⟨rfl, _, rfl⟩, ⟨.inl rfl, trivial⟩⟩, rfl⟩
  · cases h
theorem right_cases {c : Cmd} (h : rightC c = true) : c = .zero ∨ (1 ≤ c.kind ∧ c.kind ≤ 5 ∧ c = bare c ∧ c.key.size ≤ 16 ∧ c.fin.size ≤ 16 ∧ c.old.size ≤ 64 ∧ c.val.size ≤ 64) := by
  simp only [rightC, within, Bool.or_eq_true, Bool.and_eq_true, decide_eq_true_eq] at h
  rcases h with h | h
  · exact .inl h
  · exact .inr ⟨by omega, by omega, by grind, by grind, by grind, by grind, by grind⟩

theorem putB_small {c : Cmd} (h : rightC c = true) : (putB c).length ≤ 400 := by
  have h1 := numB_length c.kind
  have h2 := numB_length c.client
  have h3 := numB_length c.seq
  have h4 := textB_length c.key
  have h5 := textB_length c.fin
  have h6 := textB_length c.old
  have h7 := textB_length c.val
  have hs : c.key.size ≤ 64 ∧ c.fin.size ≤ 64 ∧ c.old.size ≤ 64 ∧ c.val.size ≤ 64 := by
    rcases right_cases h with e | ⟨_, _, _, e1, e2, e3, e4⟩
    · subst e; decide
    · omega
  unfold putB
  split
  · simp only [List.length_append, List.length_nil]; omega
  · simp only [List.length_append]
    split
    · omega
    split
    · simp only [List.length_append]; omega
    split
    · omega
    · simp only [List.length_nil]; omega
theorem putD_small (a : Attr) : (putD a).length ≤ 80 := by
  have p := numB_length
  have h0 := p a.seq
  have h1 := p a.d0
  have h2 := p a.d1
  have h3 := p a.d2
  have h4 := p a.d3
  have h5 := p a.d4
  have h6 := p a.d5
  have h7 := p a.d6
  simp only [putD, List.length_append]
  omega
theorem isBn.put {k : Nat} {xs : List (List PD)} (h : isBn k xs) {c : Cmd} (hr : rightC c = true) : isBn (k + 400) (putX xs c) := by
  obtain ⟨bs, rfl, h2⟩ := h
  have := putB_small hr
  exact ⟨bs ++ putB c, by unfold putX; rw [hr, ← bytesP_append]; rfl, by rw [List.length_append]; omega⟩
theorem isBn.dput {k : Nat} {xs : List (List PD)} (h : isBn k xs) (a : Attr) : isBn (k + 80) (putA xs a) := by
  obtain ⟨bs, rfl, h2⟩ := h
  have := putD_small a
  exact ⟨bs ++ putD a, by rw [putA_eq, bytesP_append], by rw [List.length_append]; omega⟩
theorem isBn.mono {k m : Nat} {xs : List (List PD)} (h : isBn k xs) (hk : k ≤ m) : isBn m xs := by
  obtain ⟨bs, h1, h2⟩ := h
  exact ⟨bs, h1, by omega⟩
noncomputable def ballotX (xs : List (List PD)) (b : Ballot) : List (List PD) := numX (numX xs b.epoch) b.replica
def rBal (b : Ballot) : Prop := r64 b.epoch ∧ r64 b.replica
def ballotB (b : Ballot) : List UInt8 := numB b.epoch ++ numB b.replica
/-- The bytes of a cell. -/
def cellB (c : Cell) : List UInt8 := numB c.status ++ (ballotB c.prom ++ (if c.status = 0 then [] else ballotB c.voted ++ (putB c.cmd ++ (putD c.attr ++ [if c.same then 1 else 0]))))
noncomputable def putCellX (xs : List (List PD)) (c : Cell) : List (List PD) := if rightCell c then xs ++ bytesP (cellB c) else xs
def okCell (c : Cell) : Prop := r64 c.status ∧ rBal c.prom ∧ rBal c.voted ∧ okC c.cmd ∧ rAttr c.attr
theorem isBn.ballot {k : Nat} {xs : List (List PD)} (h : isBn k xs) (b : Ballot) : isBn (k + 20) (ballotX xs b) := (h.num _).num _
theorem rightCell_parts {c : Cell} (h : rightCell c = true) : rightC c.cmd = true ∧ rightA c.attr = true := by
  unfold rightCell at h
  revert h
  generalize (bif (bif (bif (bif decide (c.status < 0) then true else decide (3 < c.status)) then true else !rightB c.prom) then true else !rightB c.voted) then true else belowB c.prom c.voted) = p
  generalize (bif (bif c.same then (bif !decide (c.status = 1) then true else !(decide (c.ve = 0) && (decide (c.vr = 0) && true))) else false) then true else (bif decide (c.status = 0) then !cellOnly c else false)) = q
  cases p <;> cases q <;> cases rightC c.cmd <;> simp

theorem putCell_short {xs : List (List PD)} {c : Cell} (h : rightCell c = true) (q : c.status = 0) : putCellX xs c = ballotX (numX xs c.status) c.prom := by
  unfold putCellX cellB
  rw [if_pos h, if_pos q]
  simp [ballotX, numX, ballotB, ← bytesP_append]
theorem putCell_long {xs : List (List PD)} {c : Cell} (h : rightCell c = true) (q : ¬ c.status = 0) : putCellX xs c = flagX (putA (putX (ballotX (ballotX (numX xs c.status) c.prom) c.voted) c.cmd) c.attr) c.same := by
  unfold putCellX cellB
  rw [if_pos h, if_neg q, putA_eq]
  unfold putX
  rw [if_pos (rightCell_parts h).1]
  simp [ballotX, numX, ballotB, flagX, ← bytesP_append]

structure FsL4 where
  ballotX : List (List PD) → Ballot → List (List PD)
  putCellX : List (List PD) → Cell → List (List PD)
  isBn : Nat → List (List PD) → Prop
  rBal : Ballot → Prop
  okCell : Cell → Prop
noncomputable def FsL40 : FsL4 where
  ballotX := ballotX
  putCellX := putCellX
  isBn := isBn
  rBal := rBal
  okCell := okCell
set_option maxRecDepth 100000 in
theorem v_ballotX (xs : List (List PD)) (x : Ballot) (hp0 : FsL40.isBn 4000000 xs) (hp1 : FsL40.rBal x) : FnV Try.prog 32 [.d (.slc 1 xs), Ballot.D x] (.d (.slc 1 (ballotX xs x))) := by
  obtain ⟨x_epoch, x_replica⟩ := x
  obtain ⟨GFsQ, hGFsQ⟩ : ∃ F, F = FsQ0 := ⟨_, rfl⟩
  have hH : SoundK Try.prog [kn_num GFsQ] := by subst hGFsQ; exact orK_ok ok_num noK_ok
  refine FnD_cbv (T := fun _ => tabY [] []) (H := fun _ => [kn_num GFsQ]) (tabY_ok _ _) hH follows_mixed Try.func32 rfl Try.ntmps32 (by simp) fun A X W hA hX hW => ?_
  cbv
  repeat' first
    | (refine And.intro ?_ ?_)
  all_goals subst hA hX hW hGFsQ
  all_goals clear hH
  all_goals have b0 : isBn 4000000 xs := hp0
  all_goals have b1 := b0.num x_epoch
  all_goals obtain ⟨k0, k1⟩ := hp1
  all_goals try simp only [A0, nc, FsQ0]
  all_goals first
    | (show Region.lexB _ _ = true; kernel_rfl)
    | exact b0.le (by omega)
    | exact b1.le (by omega)
    | exact k0
    | exact k1
    | (refine ret_v ?_ rfl; rfl)
def kn_ballotX (F : FsL4) : FuncId × (List DV → RV) := (32, fun args => match args with
  | [.d (.slc 1 xs), .agg [.d (.sc (.int .i64 x_epoch)), .d (.sc (.int .i64 x_replica))]] => some ([F.isBn 4000000 xs, F.rBal ⟨x_epoch, x_replica⟩], .d (.slc 1 (F.ballotX xs ⟨x_epoch, x_replica⟩)))
  | [.d (.sc (.slice none 0 0)), .agg [.d (.sc (.int .i64 x_epoch)), .d (.sc (.int .i64 x_replica))]] => some ([F.isBn 4000000 [], F.rBal ⟨x_epoch, x_replica⟩], .d (.slc 1 (F.ballotX [] ⟨x_epoch, x_replica⟩)))
  | _ => none)
theorem ok_ballotX (args : List DV) (cs : List Prop) (r : DV) (h : (kn_ballotX FsL40).2 args = some (cs, r)) (hc : allP cs True) : FnV Try.prog 32 args r ∧ closedL 0 args = true := by
  unfold kn_ballotX at h
  simp only at h
  split at h
  · cases h; exact ⟨v_ballotX _ ⟨_, _⟩ hc.1 hc.2.1, rfl⟩
  · cases h; exact ⟨FnP.nils (v_ballotX [] ⟨_, _⟩ hc.1 hc.2.1) ⟨.inr ⟨rfl, _, rfl⟩, ⟨.inl rfl, trivial⟩⟩, rfl⟩
  · cases h
set_option maxRecDepth 100000 in
theorem v_putCellX (xs : List (List PD)) (c : Cell) (hp0 : FsL40.isBn 2000000 xs) (hp1 : FsL40.okCell c) : FnV Try.prog 19 [.d (.slc 1 xs), Cell.D c] (.d (.slc 1 (putCellX xs c))) := by
  obtain ⟨c_status, c_pe, c_pr, c_ve, c_vr, c_ckind, c_cclient, c_cseq, c_ckey, c_cfin, c_cold, c_cval, c_aseq, c_ad0, c_ad1, c_ad2, c_ad3, c_ad4, c_ad5, c_ad6, c_same⟩ := c
  obtain ⟨GFsL1, hGFsL1⟩ : ∃ F, F = FsL10 := ⟨_, rfl⟩
  obtain ⟨GFsQ, hGFsQ⟩ : ∃ F, F = FsQ0 := ⟨_, rfl⟩
  obtain ⟨F, hF⟩ : ∃ F, F = FsL40 := ⟨_, rfl⟩
  obtain ⟨GFs6, hGFs6⟩ : ∃ F, F = Fs60 := ⟨_, rfl⟩
  obtain ⟨GFsDq, hGFsDq⟩ : ∃ F, F = FsDq0 := ⟨_, rfl⟩
  obtain ⟨GFsW9, hGFsW9⟩ : ∃ F, F = FsW90 := ⟨_, rfl⟩
  have hH : SoundK Try.prog [kn_rightCell GFsL1, kn_num GFsQ, kn_ballotX F, kn_put GFs6, kn_dput GFsDq, kn_pflag GFsW9] := by subst hGFsL1 hGFsQ hF hGFs6 hGFsDq hGFsW9; exact orK_ok ok_rightCell (orK_ok ok_num (orK_ok ok_ballotX (orK_ok ok_put (orK_ok ok_dput (orK_ok ok_pflag noK_ok)))))
  refine FnD_cbv (T := fun _ => tabY [] []) (H := fun _ => [kn_rightCell GFsL1, kn_num GFsQ, kn_ballotX F, kn_put GFs6, kn_dput GFsDq, kn_pflag GFsW9]) (tabY_ok _ _) hH follows_mixed Try.func19 rfl Try.ntmps19 (by simp) fun A X W hA hX hW => ?_
  cbv
  have hxs0 : isBn 2000000 xs := hp0
  obtain ⟨bs, hxs, hb⟩ := hxs0
  have hxs0 : isBn 2000000 xs := hp0
  have hl : xs.length = bs.length := by rw [hxs]; exact bytesP_length bs
  refine part (fun h => ?_) (fun h => ?_)
  · cbv
    refine appendNilL hX tab_ok (e := 5) (sz := 1) (by8 := 1) (z := [.d (.sc (.int .u8 0))]) (xs := xs) rfl rfl rfl rfl (by decide) rfl rfl ⟨by omega, by omega⟩ (fun e => ?_) (fun cs n hcs hn e => ?_)
    · cbv
      subst hA hX hW hGFsL1 hGFsQ hF hGFs6 hGFsDq hGFsW9
      simp only [A0, FsL10, Bool.not_eq_true'] at h
      refine ret_nil (sz := 1) ?_
      simp [putCellX, h, e]
    · cbv
      subst hA hX hW hGFsL1 hGFsQ hF hGFs6 hGFsDq hGFsW9
      simp only [A0, FsL10, Bool.not_eq_true'] at h
      refine ret_bytes (bs := bs) rfl (by omega) (by rw [hcs, hxs]) ?_
      simp [putCellX, h, hxs]
  · cbv
    repeat' first
      | (refine part (fun h => ?_) (fun h => ?_) <;> try cbv)
      | (refine And.intro ?_ ?_)
    all_goals subst hA hX hW hGFsL1 hGFsQ hF hGFs6 hGFsDq hGFsW9
    all_goals clear hH
    all_goals try simp only [A0, nc, FsL10, FsQ0, FsL40, Fs60, FsDq0, FsW90, Bool.not_eq_false', decide_eq_true_eq, decide_eq_false_iff_not] at *
    all_goals have hr := rightCell_parts h
    all_goals obtain ⟨k0, k1, k2, k3, k4⟩ := hp1
    all_goals have b1 := hxs0.num c_status
    all_goals have b2 := b1.ballot ⟨c_pe, c_pr⟩
    all_goals have b3 := b2.ballot ⟨c_ve, c_vr⟩
    all_goals have b4 := b3.put hr.1
    all_goals have b5 := b4.dput ⟨c_aseq, c_ad0, c_ad1, c_ad2, c_ad3, c_ad4, c_ad5, c_ad6⟩
    all_goals first
      | (show Region.lexB _ _ = true; kernel_rfl)
      | exact hxs0.le (by omega)
      | exact k0
      | exact k1
      | exact k2
      | exact k3
      | exact k4
      | exact b1.mono (by omega)
      | exact b2.mono (by omega)
      | exact b3.mono (by omega)
      | exact b4.mono (by omega)
      | exact b5.le (by omega)
      | (rename_i q
         refine ret_v ?_ rfl
         exact congrArg (fun x => DV.d (.slc 1 x)) (putCell_short h q).symm)
      | (rename_i q
         refine ret_v ?_ rfl
         exact congrArg (fun x => DV.d (.slc 1 x)) (putCell_long h q).symm)
def kn_putCellX (F : FsL4) : FuncId × (List DV → RV) := (19, fun args => match args with
  | [.d (.slc 1 xs), .agg [.d (.sc (.int .i64 c_status)), .d (.sc (.int .i64 c_pe)), .d (.sc (.int .i64 c_pr)), .d (.sc (.int .i64 c_ve)), .d (.sc (.int .i64 c_vr)), .d (.sc (.int .i64 c_ckind)), .d (.sc (.int .i64 c_cclient)), .d (.sc (.int .i64 c_cseq)), .d (.sc (.string c_ckey)), .d (.sc (.string c_cfin)), .d (.sc (.string c_cold)), .d (.sc (.string c_cval)), .d (.sc (.int .i64 c_aseq)), .d (.sc (.int .i64 c_ad0)), .d (.sc (.int .i64 c_ad1)), .d (.sc (.int .i64 c_ad2)), .d (.sc (.int .i64 c_ad3)), .d (.sc (.int .i64 c_ad4)), .d (.sc (.int .i64 c_ad5)), .d (.sc (.int .i64 c_ad6)), .d (.sc (.bool c_same))]] => some ([F.isBn 2000000 xs, F.okCell ⟨c_status, c_pe, c_pr, c_ve, c_vr, c_ckind, c_cclient, c_cseq, c_ckey, c_cfin, c_cold, c_cval, c_aseq, c_ad0, c_ad1, c_ad2, c_ad3, c_ad4, c_ad5, c_ad6, c_same⟩], .d (.slc 1 (F.putCellX xs ⟨c_status, c_pe, c_pr, c_ve, c_vr, c_ckind, c_cclient, c_cseq, c_ckey, c_cfin, c_cold, c_cval, c_aseq, c_ad0, c_ad1, c_ad2, c_ad3, c_ad4, c_ad5, c_ad6, c_same⟩)))
  | [.d (.sc (.slice none 0 0)), .agg [.d (.sc (.int .i64 c_status)), .d (.sc (.int .i64 c_pe)), .d (.sc (.int .i64 c_pr)), .d (.sc (.int .i64 c_ve)), .d (.sc (.int .i64 c_vr)), .d (.sc (.int .i64 c_ckind)), .d (.sc (.int .i64 c_cclient)), .d (.sc (.int .i64 c_cseq)), .d (.sc (.string c_ckey)), .d (.sc (.string c_cfin)), .d (.sc (.string c_cold)), .d (.sc (.string c_cval)), .d (.sc (.int .i64 c_aseq)), .d (.sc (.int .i64 c_ad0)), .d (.sc (.int .i64 c_ad1)), .d (.sc (.int .i64 c_ad2)), .d (.sc (.int .i64 c_ad3)), .d (.sc (.int .i64 c_ad4)), .d (.sc (.int .i64 c_ad5)), .d (.sc (.int .i64 c_ad6)), .d (.sc (.bool c_same))]] => some ([F.isBn 2000000 [], F.okCell ⟨c_status, c_pe, c_pr, c_ve, c_vr, c_ckind, c_cclient, c_cseq, c_ckey, c_cfin, c_cold, c_cval, c_aseq, c_ad0, c_ad1, c_ad2, c_ad3, c_ad4, c_ad5, c_ad6, c_same⟩], .d (.slc 1 (F.putCellX [] ⟨c_status, c_pe, c_pr, c_ve, c_vr, c_ckind, c_cclient, c_cseq, c_ckey, c_cfin, c_cold, c_cval, c_aseq, c_ad0, c_ad1, c_ad2, c_ad3, c_ad4, c_ad5, c_ad6, c_same⟩)))
  | _ => none)
theorem ok_putCellX (args : List DV) (cs : List Prop) (r : DV) (h : (kn_putCellX FsL40).2 args = some (cs, r)) (hc : allP cs True) : FnV Try.prog 19 args r ∧ closedL 0 args = true := by
  unfold kn_putCellX at h
  simp only at h
  split at h
  · cases h; exact ⟨v_putCellX _ ⟨_, _, _, _, _, _, _, _, _, _, _, _, _, _, _, _, _, _, _, _, _⟩ hc.1 hc.2.1, rfl⟩
  · cases h; exact ⟨FnP.nils (v_putCellX [] ⟨_, _, _, _, _, _, _, _, _, _, _, _, _, _, _, _, _, _, _, _, _⟩ hc.1 hc.2.1) ⟨.inr ⟨rfl, _, rfl⟩, ⟨.inl rfl, trivial⟩⟩, rfl⟩
  · cases h
end Go.Proofs.Ytbhapclaochcnaa
