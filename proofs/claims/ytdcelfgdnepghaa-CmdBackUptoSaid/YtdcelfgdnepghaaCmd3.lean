/- Chapter 5's laws over plain data: each gives true. No condition but sizes. -/
import Derived.Test.YtdcelfgdnepghaaCmd2
import Derived.Test.YtdcelfgdnepghaaOrd
namespace Go.Proofs.Ytdcelfgdnepghaa
open Go.RowKit
set_option linter.all false


theorem emptyR_eq (s : Span) : emptyR s = emptyS s := by
  simp only [emptyR, emptyS, under, Bool.not_or, ltb_total]
theorem meetsR_eq (a b : Span) : meetsR a b = meets a b := by
  simp only [meetsR, meets, emptyR_eq, under]
  cases emptyS a <;> cases emptyS b <;> simp [Bool.and_comm]
theorem rightR_eq (c : Cmd) : rightCR c = rightC c := by
  rw [Bool.eq_iff_iff]
  simp only [rightCR, rightC, within, Bool.or_eq_true, Bool.and_eq_true, decide_eq_true_eq, Bool.not_eq_true', decide_eq_false_iff_not]
  grind
theorem clashR_eq (a b : Cmd) : clashR a b = clashC a b := by
  simp only [clashR, clashC, meetsR_eq]
theorem meets_comm (a b : Span) : meets a b = meets b a := by
  simp only [meets]
  cases emptyS a <;> cases emptyS b <;> simp [Bool.and_comm]
theorem clash_comm (a b : Cmd) : clashC a b = clashC b a := by
  simp only [clashC, meets_comm (keysC a).1]
  rw [show decide (a.client = b.client) = decide (b.client = a.client) by simp only [eq_comm], Bool.or_comm (writesC a), Bool.and_comm (keysC a).2]
theorem clash_zero (a : Cmd) : clashC a ⟨0, 0, 0, none8, none8, none8, none8⟩ = false := by simp [clashC, keysC]
theorem clash_self (a : Cmd) (h : writesC a = true) : clashC a a = true := by
  simp only [writesC, Bool.or_eq_true, decide_eq_true_eq] at h
  simp only [clashC, keysC]
  rcases h with (h | h) | h <;> simp [h]
theorem clash_client (a b : Cmd) (h : a.client = b.client) : clashC a b = ((keysC a).2 && (keysC b).2) := by
  simp [clashC, h]
theorem under_snoc (x y : ByteArray) : under x (y ++ { data := #[0] }) = !ltb y x := by
  have h : ¬ (y ++ { data := #[0] } : ByteArray) = { data := #[] } := by
    intro e
    have h2 := congrArg ByteArray.size e
    rw [ByteArray.size_append] at h2
    exact absurd h2 (by show ¬ (y.size + 1 = 0); omega)
  simp [under, ltb_snoc, h]
theorem meets_key (key lo hi : ByteArray) : meets (spanOf key) ⟨lo, hi⟩ = (!ltb key lo && (decide (hi = { data := #[] }) || ltb key hi)) := by
  simp only [meets, emptyS, spanOf, under_snoc, ltb_irrefl, Bool.not_false, Bool.not_not, Bool.true_and]
  simp only [under]
  by_cases h1 : hi = none8
  · subst h1; simp
  · simp only [h1, decide_false, Bool.false_or]
    cases hk : ltb key hi with
    | false => simp
    | true =>
      cases hl : ltb key lo with
      | true => simp
      | false =>
        have : ltb lo hi = true := by
          have ht := ltb_total key lo
          rw [hl] at ht
          simp only [Bool.not_false, Bool.true_eq, Bool.or_eq_true, decide_eq_true_eq] at ht
          rcases ht with ht | ht
          · exact ltb_trans ht hk
          · subst ht; exact hk
        simp [this]
theorem clash_span (w : Cmd) (key lo hi : ByteArray) (hw : writesC w = true) (hk : w.key = key) (hc : w.client = 1) (r : Cmd) (hr : r = ⟨5, 2, 0, lo, hi, none8, none8⟩) : clashC w r = (!ltb key lo && (decide (hi = { data := #[] }) || ltb key hi)) := by
  subst hr; subst hk
  have hkeys : keysC w = (spanOf w.key, true) := by
    simp only [writesC, Bool.or_eq_true, decide_eq_true_eq] at hw
    simp only [keysC]
    rcases hw with (h | h) | h <;> simp [h]
  have hkr : keysC ⟨5, 2, 0, lo, hi, none8, none8⟩ = (⟨lo, hi⟩, true) := by simp [keysC]
  simp only [clashC, hkeys, hkr, hw, hc, Bool.true_and, Bool.true_or]
  rw [meets_key]
  simp
theorem clash_reads (key lo hi : ByteArray) : clashC ⟨1, 1, 0, key, none8, none8, none8⟩ ⟨5, 2, 0, lo, hi, none8, none8⟩ = false := by
  simp [clashC, keysC, writesC]

structure Fs7 where
  tells : Cmd → Cmd → Bool
def Fs70 : Fs7 where
  tells := fun _ _ => true
set_option maxRecDepth 100000 in
theorem v_tells (a : Cmd) (b : Cmd) (hp0 : okC a) (hp1 : okC b) : FnV Try.prog 4 [Cmd.D a, Cmd.D b] (boolD (((fun (_ _ : Cmd) => true) a b))) := by
  obtain ⟨a_kind, a_client, a_seq, a_key, a_fin, a_old, a_val⟩ := a
  obtain ⟨b_kind, b_client, b_seq, b_key, b_fin, b_old, b_val⟩ := b
  have ka : a_key.size ≤ 1048576 := hp0.2.2.2.1
  have kb : b_key.size ≤ 1048576 := hp1.2.2.2.1
  clear hp0 hp1
  obtain ⟨GFs5, hGFs5⟩ : ∃ F, F = Fs50 := ⟨_, rfl⟩
  obtain ⟨GFs6, hGFs6⟩ : ∃ F, F = Fs60 := ⟨_, rfl⟩
  have hH : SoundK Try.prog [kn_keys GFs5, kn_keysR GFs5, kn_right GFs5, kn_rightR GFs5, kn_writes GFs5, kn_writesR GFs5, kn_clash GFs5, kn_clashR GFs5, kn_runs GFs6] := by subst hGFs5 hGFs6; exact orK_ok ok_keys (orK_ok ok_keysR (orK_ok ok_right (orK_ok ok_rightR (orK_ok ok_writes (orK_ok ok_writesR (orK_ok ok_clash (orK_ok ok_clashR (orK_ok ok_runs noK_ok))))))))
  refine FnD_cbv (T := fun _ => tabY [] []) (H := fun _ => [kn_keys GFs5, kn_keysR GFs5, kn_right GFs5, kn_rightR GFs5, kn_writes GFs5, kn_writesR GFs5, kn_clash GFs5, kn_clashR GFs5, kn_runs GFs6]) (tabY_ok _ _) hH follows_mixed Try.func4 rfl Try.ntmps4 (by simp) fun A X W hA hX hW => ?_
  clear hH
  cbv
  repeat' first
    | (refine And.intro ?_ ?_)
  all_goals subst hA hX hW hGFs5 hGFs6
  all_goals try (show Region.lexB _ _ = true; kernel_rfl)
  all_goals try (show turnsB _ = true; kernel_rfl)
  all_goals first
    | (show ByteArray.size _ ≤ 4194304; omega)
    | (refine ret_v ?_ rfl; simp [A0, Fs50, Fs60, rightR_eq, clashR_eq, boolD]; done)
    | (simp [A0, Fs50, Fs60, rightR_eq, clashR_eq]; done)
    | (intro _; show ByteArray.size _ ≤ 4194304; omega)
theorem zero_clash (a : Cmd) : clashC ⟨0, 0, 0, none8, none8, none8, none8⟩ a = false := by simp [clashC, keysC]
theorem keys_client (a : Cmd) (n : Int) : keysC { a with client := n } = keysC a := by simp [keysC]
theorem mirror (a b : Cmd) : (bif bif bif !decide (clashC a b = clashC b a) then true else clashC a ⟨0, 0, 0, none8, none8, none8, none8⟩ then true else clashC ⟨0, 0, 0, none8, none8, none8, none8⟩ a then true else bif writesC a then !clashC a a else false) = false := by
  rw [clash_comm b a, clash_zero, zero_clash]
  cases hw : writesC a with
  | false => simp
  | true => simp [clash_self a hw]
theorem mirror2 (a b : Cmd) (h : a.client = b.client) : decide (clashC a b = bif (keysC a).2 then (keysC b).2 else false) = true := by
  rw [clash_client a b h]
  cases (keysC a).2 <;> simp

set_option maxRecDepth 100000 in
theorem v_mirrors (a : Cmd) (b : Cmd) (n : Int) (hp0 : okC a) (hp1 : okC b) : FnV Try.prog 5 [Cmd.D a, Cmd.D b, intD n] (boolD (((fun (_ _ : Cmd) (_ : Int) => true) a b n))) := by
  obtain ⟨a_kind, a_client, a_seq, a_key, a_fin, a_old, a_val⟩ := a
  obtain ⟨b_kind, b_client, b_seq, b_key, b_fin, b_old, b_val⟩ := b
  have ka : a_key.size ≤ 1048576 := hp0.2.2.2.1
  have kb : b_key.size ≤ 1048576 := hp1.2.2.2.1
  clear hp0 hp1
  obtain ⟨GFs5, hGFs5⟩ : ∃ F, F = Fs50 := ⟨_, rfl⟩
  obtain ⟨GFs6, hGFs6⟩ : ∃ F, F = Fs60 := ⟨_, rfl⟩
  have hH : SoundK Try.prog [kn_keys GFs5, kn_writes GFs5, kn_clash GFs5, kn_runs GFs6] := by subst hGFs5 hGFs6; exact orK_ok ok_keys (orK_ok ok_writes (orK_ok ok_clash (orK_ok ok_runs noK_ok)))
  refine FnD_cbv (T := fun _ => tabY [] []) (H := fun _ => [kn_keys GFs5, kn_writes GFs5, kn_clash GFs5, kn_runs GFs6]) (tabY_ok _ _) hH follows_mixed Try.func5 rfl Try.ntmps5 (by simp) fun A X W hA hX hW => ?_
  clear hH
  cbv
  repeat' first
    | (refine part (fun h => ?_) (fun h => ?_) <;> try cbv)
    | (refine And.intro ?_ ?_)
  all_goals subst hA hX hW hGFs5 hGFs6
  all_goals try (show Region.lexB _ _ = true; kernel_rfl)
  all_goals try (show turnsB _ = true; kernel_rfl)
  all_goals first
    | (show ByteArray.size _ ≤ 4194304; omega)
    | (intro _; show ByteArray.size _ ≤ 4194304; omega)
    | (show ByteArray.size none8 ≤ 4194304; decide)
    | (intro _; show ByteArray.size none8 ≤ 4194304; decide)
    | (intro hq; exact hq)
    | (simp [A0]; done)
    | (intro hq; simpa [A0] using hq)
    | exact absurd (h.symm.trans (mirror ⟨a_kind, a_client, a_seq, a_key, a_fin, a_old, a_val⟩ ⟨b_kind, b_client, b_seq, b_key, b_fin, b_old, b_val⟩)) (by decide)
    | skip
  refine ret_v ?_ rfl
  have e := mirror2 ⟨a_kind, n, a_seq, a_key, a_fin, a_old, a_val⟩ ⟨b_kind, n, b_seq, b_key, b_fin, b_old, b_val⟩ rfl
  exact congrArg (fun q => boolD (bif q then true else false)) e
theorem span_leaf (k : Int) (key lo hi : ByteArray) (hk : (decide (k = 2) || decide (k = 3) || decide (k = 4)) = true) :
    (bif bif bif decide (clashC ⟨k, 1, 0, key, none8, none8, none8⟩ ⟨5, 2, 0, lo, hi, none8, none8⟩ = bif !ltb key lo then bif decide (hi = none8) then true else ltb key hi else false) then decide (clashC ⟨5, 2, 0, lo, hi, none8, none8⟩ ⟨k, 1, 0, key, none8, none8, none8⟩ = bif !ltb key lo then bif decide (hi = none8) then true else ltb key hi else false) else false then !clashC ⟨1, 1, 0, key, none8, none8, none8⟩ ⟨5, 2, 0, lo, hi, none8, none8⟩ else false then true else false) = true := by
  have e1 := clash_span ⟨k, 1, 0, key, none8, none8, none8⟩ key lo hi (by simpa [writesC] using hk) rfl rfl _ rfl
  rw [clash_comm ⟨5, 2, 0, lo, hi, none8, none8⟩, e1, clash_reads]
  have e0 : ({ data := #[] } : ByteArray) = none8 := rfl
  rw [e0]
  cases ltb key lo <;> cases decide (hi = none8) <;> simp

set_option maxRecDepth 100000 in
theorem v_spans (key : ByteArray) (lo : ByteArray) (hi : ByteArray) (kind : Int) (hp0 : key.size ≤ 1048576) (hp1 : lo.size ≤ 1048576) (hp2 : r64 kind) : FnV Try.prog 6 [strD key, strD lo, strD hi, intD kind] (boolD (((fun (_ _ _ : ByteArray) (_ : Int) => true) key lo hi kind))) := by
  have h3 : within3 kind 0 2 = 0 ∨ within3 kind 0 2 = 1 ∨ within3 kind 0 2 = 2 := by unfold within3; omega
  obtain ⟨GFsQ, hGFsQ⟩ : ∃ F, F = FsQ0 := ⟨_, rfl⟩
  obtain ⟨GFs5, hGFs5⟩ : ∃ F, F = Fs50 := ⟨_, rfl⟩
  obtain ⟨GFs6, hGFs6⟩ : ∃ F, F = Fs60 := ⟨_, rfl⟩
  have hH : SoundK Try.prog [kn_within3 GFsQ, kn_clash GFs5, kn_runs GFs6] := by subst hGFsQ hGFs5 hGFs6; exact orK_ok ok_within3 (orK_ok ok_clash (orK_ok ok_runs noK_ok))
  refine FnD_cbv (T := fun _ => tabY [16] []) (H := fun _ => [kn_within3 GFsQ, kn_clash GFs5, kn_runs GFs6]) (tabY_ok _ _) hH follows_mixed Try.func6 rfl Try.ntmps6 (by simp) fun A X W hA hX hW => ?_
  clear hH
  cbv
  repeat' first
    | (refine And.intro ?_ ?_)
  all_goals subst hA hX hW hGFs5 hGFs6 hGFsQ
  all_goals first
    | exact hp2
    | rfl
    | (show span3 0 2; unfold span3; decide)
    | (show 0 ≤ within3 kind 0 2 ∧ within3 kind 0 2 < 3; omega)
    | (show ByteArray.size _ ≤ 4194304; omega)
    | (intro _; show ByteArray.size _ ≤ 4194304; omega)
    | (intro hq; exact hq)
    | (rcases h3 with h | h | h <;> (simp only [A0, FsQ0, h]; simp; done))
    | (simp [A0]; done)
    | (intro hq; simpa [A0] using hq)
    | skip
  refine ret_v ?_ rfl
  have e : (A0.gi [DV.d (PD.sc (Value.int IntKind.i64 2)), DV.d (PD.sc (Value.int IntKind.i64 3)), DV.d (PD.sc (Value.int IntKind.i64 4))] (A0.off 0 (FsQ0.within3 kind 0 2) 1) = 2) ∨ (A0.gi [DV.d (PD.sc (Value.int IntKind.i64 2)), DV.d (PD.sc (Value.int IntKind.i64 3)), DV.d (PD.sc (Value.int IntKind.i64 4))] (A0.off 0 (FsQ0.within3 kind 0 2) 1) = 3) ∨ (A0.gi [DV.d (PD.sc (Value.int IntKind.i64 2)), DV.d (PD.sc (Value.int IntKind.i64 3)), DV.d (PD.sc (Value.int IntKind.i64 4))] (A0.off 0 (FsQ0.within3 kind 0 2) 1) = 4) := by
    rcases h3 with h | h | h <;> (simp only [A0, FsQ0, h]; simp; done)
  exact congrArg boolD (span_leaf _ key lo hi (by simp only [Bool.or_eq_true, decide_eq_true_eq]; exact or_assoc.2 e))
end Go.Proofs.Ytdcelfgdnepghaa
