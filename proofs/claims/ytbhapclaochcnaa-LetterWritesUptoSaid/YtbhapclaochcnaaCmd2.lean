/- Commands as bytes; chapter 5's runs: what the functions give. No condition. -/
import Derived.Test.YtbhapclaochcnaaCmd
import Derived.Test.YtbhapclaochcnaaPack
namespace Go.Proofs.Ytbhapclaochcnaa
open Go.RowKit
set_option linter.all false


def isBk (k : Nat) (xs : List (List PD)) : Prop := ∃ bs, xs = bytesP bs ∧ bs.length ≤ k
theorem isBk.le {k : Nat} {xs : List (List PD)} (h : isBk k xs) (hk : k ≤ 8000000) : isB xs := by
  obtain ⟨bs, h1, h2⟩ := h
  exact ⟨bs, h1, by omega⟩
theorem isBk.num {k : Nat} {xs : List (List PD)} (h : isBk k xs) (n : Int) : isBk (k + 10) (numX xs n) := by
  obtain ⟨bs, rfl, h2⟩ := h
  have := numB_length n
  exact ⟨bs ++ numB n, by simp only [numX, bytesP_append], by rw [List.length_append]; omega⟩
theorem textB_length (s : ByteArray) : (textB s).length ≤ 10 + s.size := by
  have := numB_length (s.size : Int)
  have h2 : s.data.toList.length = s.size := by rw [Array.length_toList]; rfl
  rw [textB, List.length_append, h2]
  omega
theorem isBk.text {k m : Nat} {xs : List (List PD)} (h : isBk k xs) (s : ByteArray) (hs : s.size ≤ m) : isBk (k + (10 + m)) (textX xs s) := by
  obtain ⟨bs, rfl, h2⟩ := h
  have := textB_length s
  exact ⟨bs ++ textB s, by simp only [textX, bytesP_append], by rw [List.length_append]; omega⟩
/-- The bytes of a command. -/
def putB (c : Cmd) : List UInt8 := numB c.kind ++ (if c.kind = 0 then [] else numB c.client ++ (numB c.seq ++ (textB c.key ++ (if c.kind = 2 then textB c.val else if c.kind = 4 then textB c.old ++ textB c.val else if c.kind = 5 then textB c.fin else []))))
noncomputable def putX (xs : List (List PD)) (c : Cmd) : List (List PD) := if rightC c then xs ++ bytesP (putB c) else xs
def okC (c : Cmd) : Prop := r64 c.kind ∧ r64 c.client ∧ r64 c.seq ∧ c.key.size ≤ 1048576 ∧ c.fin.size ≤ 1048576 ∧ c.old.size ≤ 1048576 ∧ c.val.size ≤ 1048576
def ofC (kind client : Int) (key fin : ByteArray) : Cmd := ⟨kind, client, 2, key, fin, none8, none8⟩

structure Fs6 where
  put : List (List PD) → Cmd → List (List PD)
  of : Int → Int → ByteArray → ByteArray → Cmd
  isBk : Nat → List (List PD) → Prop
  okC : Cmd → Prop
  runs : Bool
noncomputable def Fs60 : Fs6 where
  put := putX
  of := ofC
  isBk := isBk
  okC := okC
  runs := true
set_option maxRecDepth 100000 in
theorem v_put (xs : List (List PD)) (c : Cmd) (hp0 : Fs60.isBk 4000000 xs) (hp1 : Fs60.okC c) : FnV Try.prog 33 [.d (.slc 1 xs), Cmd.D c] (.d (.slc 1 (putX xs c))) := by
  obtain ⟨c_kind, c_client, c_seq, c_key, c_fin, c_old, c_val⟩ := c
  obtain ⟨GFs5, hGFs5⟩ : ∃ F, F = Fs50 := ⟨_, rfl⟩
  obtain ⟨GFsQ, hGFsQ⟩ : ∃ F, F = FsQ0 := ⟨_, rfl⟩
  have hH : SoundK Try.prog [kn_right GFs5, kn_num GFsQ, kn_text GFsQ] := by subst hGFs5 hGFsQ; exact orK_ok ok_right (orK_ok ok_num (orK_ok ok_text noK_ok))
  refine FnD_cbv (T := fun _ => tabY [] []) (H := fun _ => [kn_right GFs5, kn_num GFsQ, kn_text GFsQ]) (tabY_ok _ _) hH follows_mixed Try.func33 rfl Try.ntmps33 (by simp) fun A X W hA hX hW => ?_
  clear hH
  cbv
  obtain ⟨bs, hxs, hb⟩ : isBk 4000000 xs := hp0
  obtain ⟨k1, k2, k3, k4, k5, k6, k7⟩ := hp1
  simp only at k1 k2 k3 k4 k5 k6 k7
  have hl : xs.length = bs.length := by rw [hxs]; exact bytesP_length bs
  refine part (fun h => ?_) (fun h => ?_)
  · cbv
    refine appendNilL hX tab_ok (e := 5) (sz := 1) (by8 := 1) (z := [.d (.sc (.int .u8 0))]) (xs := xs) rfl rfl rfl rfl (by decide) rfl rfl ⟨by omega, by omega⟩ (fun e => ?_) (fun cs n hcs hn e => ?_)
    · cbv
      subst hA hX hW hGFs5
      simp only [A0, Fs50, Bool.not_eq_true'] at h
      refine ret_nil (sz := 1) ?_
      simp [putX, h, e]
    · cbv
      subst hA hX hW hGFs5
      simp only [A0, Fs50, Bool.not_eq_true'] at h
      refine ret_bytes (bs := bs) rfl (by omega) (by rw [hcs, hxs]) ?_
      simp [putX, h, hxs]
  · cbv
    have h0 : isBk 4000000 xs := ⟨bs, hxs, hb⟩
    repeat' first
      | (refine part (fun h => ?_) (fun h => ?_) <;> try cbv)
      | (refine And.intro ?_ ?_)
    all_goals subst hA hX hW hGFs5 hGFsQ
    all_goals try (show Region.lexB _ _ = true; kernel_rfl)
    all_goals try (show turnsB _ = true; kernel_rfl)
    all_goals simp only [A0, FsQ0, Fs50, Bool.not_eq_false', decide_eq_true_eq, decide_eq_false_iff_not] at *
    all_goals first
      | exact k1
      | exact k2
      | exact k3
      | (unfold szT; omega)
      | exact h0.le (by omega)
      | exact (h0.num _).le (by omega)
      | exact ((h0.num _).num _).le (by omega)
      | exact (((h0.num _).num _).num _).le (by omega)
      | exact ((((h0.num _).num _).num _).text _ k4).le (by omega)
      | exact (((((h0.num _).num _).num _).text _ k4).text _ k6).le (by omega)
      | (refine ret_v ?_ rfl
         rename_i q1
         first
           | (subst q1; simp [putX, putB, numX, textX, ← bytesP_append, h]; done)
           | (simp_all [putX, putB, numX, textX, ← bytesP_append]; done)
           | (simp [putX, putB, numX, textX, ← bytesP_append, *]; done))
def kn_put (F : Fs6) : FuncId × (List DV → RV) := (33, fun args => match args with
  | [.d (.slc 1 xs), .agg [.d (.sc (.int .i64 c_kind)), .d (.sc (.int .i64 c_client)), .d (.sc (.int .i64 c_seq)), .d (.sc (.string c_key)), .d (.sc (.string c_fin)), .d (.sc (.string c_old)), .d (.sc (.string c_val))]] => some ([F.isBk 4000000 xs, F.okC ⟨c_kind, c_client, c_seq, c_key, c_fin, c_old, c_val⟩], .d (.slc 1 (F.put xs ⟨c_kind, c_client, c_seq, c_key, c_fin, c_old, c_val⟩)))
  | [.d (.sc (.slice none 0 0)), .agg [.d (.sc (.int .i64 c_kind)), .d (.sc (.int .i64 c_client)), .d (.sc (.int .i64 c_seq)), .d (.sc (.string c_key)), .d (.sc (.string c_fin)), .d (.sc (.string c_old)), .d (.sc (.string c_val))]] => some ([F.isBk 4000000 [], F.okC ⟨c_kind, c_client, c_seq, c_key, c_fin, c_old, c_val⟩], .d (.slc 1 (F.put [] ⟨c_kind, c_client, c_seq, c_key, c_fin, c_old, c_val⟩)))
  | _ => none)
theorem ok_put (args : List DV) (cs : List Prop) (r : DV) (h : (kn_put Fs60).2 args = some (cs, r)) (hc : allP cs True) : FnV Try.prog 33 args r ∧ closedL 0 args = true := by
  unfold kn_put at h
  simp only at h
  split at h
  · cases h; exact ⟨v_put _ ⟨_, _, _, _, _, _, _⟩ hc.1 hc.2.1, rfl⟩
  · cases h; exact ⟨FnP.nils (v_put [] ⟨_, _, _, _, _, _, _⟩ hc.1 hc.2.1) ⟨.inr ⟨rfl, _, rfl⟩, ⟨.inl rfl, trivial⟩⟩, rfl⟩
  · cases h
theorem sameX_of {xs ys : List (List PD)} (h : xs = ys) : sameX xs ys = true := by subst h; simp [sameX]
theorem v_sameT (xs ys : List (List PD)) (h : xs = ys) (hb : isB ys) : FnV Try.prog 10 [.d (.slc 1 xs), .d (.slc 1 ys)] (boolD true) := by
  subst h
  have := v_same xs xs hb hb
  rwa [sameX_of rfl] at this
theorem isB_of (bs : List UInt8) (h : bs.length ≤ 8000000) : isB (bytesP bs) := ⟨bs, rfl, h⟩

end Go.Proofs.Ytbhapclaochcnaa
