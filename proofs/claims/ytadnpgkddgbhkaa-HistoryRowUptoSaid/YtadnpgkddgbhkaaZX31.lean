/- Histories of calls one behind the other: the plain law. No condition. -/
import Derived.Test.YtadnpgkddgbhkaaZX28
import Derived.Test.YtadnpgkddgbhkaaZX22
import Derived.Test.YtadnpgkddgbhkaaZX17
import Derived.Test.YtadnpgkddgbhkaaZX18
namespace Go.Proofs.Ytadnpgkddgbhkaa
open Go.RowKit Go.Maps
set_option linter.all false
set_option maxHeartbeats 4000000
def isSeq (o : List Ev) : Prop := ∀ (j : Nat) (e : Ev), o[j]? = some e → e.a = 2 * j ∧ e.b = 2 * j + 1
def okF : List Ev → List DV → Prop
 | [], _ => True
 | e :: l, s => (applyS s e.c).2 = e.r ∧ okF l (applyS s e.c).1
noncomputable def runS : List Ev → List DV → List DV
 | [], s => s
 | e :: l, s => runS l (applyS s e.c).1
theorem runS_app (e : Ev) : ∀ (l : List Ev) (s : List DV), runS (l ++ [e]) s = (applyS (runS l s) e.c).1
 | [], s => rfl
 | x :: l, s => by rw [List.cons_append, runS, runS_app e l]; rfl
theorem okF_app (e : Ev) : ∀ (l : List Ev) (s : List DV), okF (l ++ [e]) s ↔ okF l s ∧ (applyS (runS l s) e.c).2 = e.r
 | [], s => by simp [okF, runS]
 | x :: l, s => by rw [List.cons_append, okF, okF_app e l, okF, runS, and_assoc]
theorem tb_low {j k : Nat} (hk : k < j) : (2 ^ j - 1).testBit k = true := by rw [Nat.testBit_two_pow_sub_one]; exact decide_eq_true hk
theorem tb_high {j k : Nat} (hk : j ≤ k) : (2 ^ j - 1).testBit k = false := by rw [Nat.testBit_two_pow_sub_one]; exact decide_eq_false (by omega)
theorem or_next (j : Nat) : (2 ^ j - 1) ||| 2 ^ j = 2 ^ (j + 1) - 1 := by
 apply Nat.eq_of_testBit_eq
 intro i
 rw [Nat.testBit_or, Nat.testBit_two_pow_sub_one, Nat.testBit_two_pow_sub_one, Nat.testBit_two_pow]
 by_cases h : i < j
 · rw [decide_eq_true h, decide_eq_true (show i < j + 1 by omega)]; rfl
 · by_cases h2 : i = j
   · subst h2
     rw [decide_eq_false h, decide_eq_true rfl, decide_eq_true (show i < i + 1 by omega)]; rfl
   · rw [decide_eq_false h, decide_eq_false (show ¬ j = i by omega), decide_eq_false (show ¬ i < j + 1 by omega)]; rfl
theorem pow_lt {j : Nat} (h : j ≤ 12) : 2 ^ j - 1 < 4096 := by
 have : 2 ^ j ≤ 2 ^ 12 := Nat.pow_le_pow_right (by decide) h
 have := Nat.two_pow_pos j
 omega
theorem leftF_true {d : Int} : ∀ (l : List Ev) (k j : Nat) (e : Ev), l[j]? = some e → 0 ≤ e.b → bitX d ((k + j : Nat) : Int) = 0 → leftF d l k = true
 | [], _, _, _, h, _, _ => by simp at h
 | x :: l, k, j, e, h, hb, hx => by
     rw [leftF, Bool.or_eq_true]
     cases j with
     | zero =>
       simp at h
       subst h
       exact .inl (by rw [Bool.and_eq_true, decide_eq_true_eq, decide_eq_true_eq]; exact ⟨hb, by simpa using hx⟩)
     | succ j =>
       refine .inr ?_
       have := leftF_true l (k + 1) j e (by simpa using h) hb (by rw [show k + 1 + j = k + (j + 1) by omega]; exact hx)
       rwa [show ((k + 1 : Nat) : Int) = (k : Int) + 1 by omega] at this
theorem mayF_false {e : Ev} {d : Int} : ∀ (l : List Ev) (k j : Nat) (b : Ev), l[j]? = some b → bitX d ((k + j : Nat) : Int) = 0 → 0 ≤ b.b → b.b < e.a → mayF e d l k = false
 | [], _, _, _, h, _, _, _ => by simp at h
 | x :: l, k, j, b, h, hx, h1, h2 => by
     rw [mayF]
     split
     · rfl
     · cases j with
       | zero =>
         rename_i hn
         simp at h
         subst h
         refine absurd ?_ hn
         rw [Bool.and_eq_true, decide_eq_true_eq]
         refine ⟨by simpa using hx, ?_⟩
         unfold aheadE
         rw [decide_eq_true h1, cond_true, decide_eq_true h2]
       | succ j =>
         have := mayF_false (e := e) (d := d) l (k + 1) j b (by simpa using h) (by rw [show k + 1 + j = k + (j + 1) by omega]; exact hx) h1 h2
         rwa [show ((k + 1 : Nat) : Int) = (k : Int) + 1 by omega] at this
theorem seq_lin {o : List Ev} (hs : isSeq o) (hL : o.length ≤ 12) : ∀ (m j : Nat) (s : List DV), j + m = o.length → (Lin o ((2 ^ j - 1 : Nat) : Int) s ↔ okF (o.drop j) s)
 | 0, j, s, hj => by
    rw [List.drop_eq_nil_of_le (by omega)]
    refine ⟨fun _ => trivial, fun _ => .done (leftF_false o 0 fun q e hq hb => ?_)⟩
    have := (List.getElem?_eq_some_iff.1 hq).1
    rw [Nat.zero_add, bit_nat (pow_lt (by omega)) (by omega) (by omega), Int.toNat_natCast, tb_low (by omega)]
    decide
 | m + 1, j, s, hj => by
     have hjl : j < o.length := by omega
     obtain ⟨e, he⟩ : ∃ e, o[j]? = some e := ⟨_, List.getElem?_eq_getElem hjl⟩
     have hed : o.getD j default = e := by rw [List.getD_eq_getElem?_getD, he]; rfl
     have hee : o[j] = e := by rw [List.getElem?_eq_getElem hjl] at he; exact Option.some.inj he
     have hdr : o.drop j = e :: o.drop (j + 1) := by rw [List.drop_eq_getElem_cons hjl, hee]
     have heb := hs j e he
     have hpl := pow_lt (j := j) (by omega)
     have hb0 : bitX ((2 ^ j - 1 : Nat) : Int) (j : Int) = 0 := by rw [bit_nat hpl (by omega) (by omega), Int.toNat_natCast, tb_high (Nat.le_refl _)]; rfl
     have ih := seq_lin hs hL m (j + 1) (applyS s e.c).1 (by omega)
     have hor : orX ((2 ^ j - 1 : Nat) : Int) (j : Int) = ((2 ^ (j + 1) - 1 : Nat) : Int) := by
      rw [or_nat hpl (by omega) (by omega), Int.toNat_natCast, or_next]
     rw [hdr, okF]
     constructor
     · intro h
       cases h with
       | done hl =>
         have := leftF_true (d := ((2 ^ j - 1 : Nat) : Int)) o 0 j e he (by omega) (by rw [Nat.zero_add]; exact hb0)
         have hl : leftF ((2 ^ j - 1 : Nat) : Int) o ((0 : Nat) : Int) = false := hl
         rw [hl] at this
         cases this
       | @step _ _ k k0 k1 hm hf hl =>
         have hk : k = (j : Int) := by
          rcases Nat.lt_trichotomy k.toNat j with h1 | h1 | h1
          · unfold mayL at hm
            rw [bit_nat hpl k0 (by omega), tb_low h1] at hm
            simp at hm
          · omega
          · exfalso
            have hkl : k.toNat < o.length := by omega
            obtain ⟨x, hx⟩ : ∃ x, o[k.toNat]? = some x := ⟨_, List.getElem?_eq_getElem hkl⟩
            have hxd : o.getD k.toNat default = x := by rw [List.getD_eq_getElem?_getD, hx]; rfl
            have hxb := hs _ _ hx
            unfold mayL at hm
            rw [hxd] at hm
            have := mayF_false (e := x) (d := ((2 ^ j - 1 : Nat) : Int)) o 0 j e he (by rw [Nat.zero_add]; exact hb0) (by omega) (by omega)
            have this : mayF x ((2 ^ j - 1 : Nat) : Int) o 0 = false := this
            rw [this] at hm
            split at hm <;> cases hm
         subst hk
         rw [Int.toNat_natCast, hed] at hf hl
         rw [hor] at hl
         refine ⟨?_, ih.1 hl⟩
         unfold fitR at hf
         rw [decide_eq_false (by omega), Bool.false_or, repliesX_iff] at hf
         exact hf
     · rintro ⟨h1, h2⟩
       refine .step (k := (j : Int)) (by omega) (by omega) ?_ ?_ ?_
       · unfold mayL
         rw [hb0, if_neg (by decide), Int.toNat_natCast, hed]
         refine mayF_true o 0 fun q b hq h5 => ?_
         have hql := (List.getElem?_eq_some_iff.1 hq).1
         have hqb := hs _ _ hq
         rw [Nat.zero_add, bit_nat hpl (by omega) (by omega), Int.toNat_natCast] at h5
         have h6 : ¬ q < j := fun h => by rw [tb_low h] at h5; simp at h5
         omega
       · rw [Int.toNat_natCast, hed]
         unfold fitR
         rw [repliesX_true h1, Bool.or_true]
       · rw [hor, Int.toNat_natCast, hed]
         exact ih.2 h2
theorem wrap_ne (v : Int) : IntKind.wrap .i64 (v + 1) ≠ v := by
 intro h
 simp only [IntKind.wrap, IntKind.bits, IntKind.signed] at h
 simp at h
 omega
structure RSt where
 s : List DV
 n : Int
 at_ : Int
 seq : List Int
 out : List Ev
def rK (c : Cmd) : Nat := (c.client % 8).toNat
theorem rK_lt (c : Cmd) : rK c < 8 := by unfold rK; omega
def rCmd (st : RSt) (c : Cmd) : Cmd := ⟨c.kind, (rK c : Int) + 1, st.seq.getD (rK c) 0 + 1, c.key, c.fin, c.old, c.val⟩
noncomputable def rRep (lie : Int) (st : RSt) (c : Cmd) : Reply := bif decide (st.n = lie) then ⟨(applyS st.s (rCmd st c)).2.why, (applyS st.s (rCmd st c)).2.found, (applyS st.s (rCmd st c)).2.value, IntKind.wrap .i64 ((applyS st.s (rCmd st c)).2.version + 1), (applyS st.s (rCmd st c)).2.pairs⟩ else (applyS st.s (rCmd st c)).2
noncomputable def rNew (lie : Int) (st : RSt) (c : Cmd) : RSt := ⟨(applyS st.s (rCmd st c)).1, st.n + 1, bif decide (st.n = lie) then st.n else st.at_, st.seq.set (rK c) (st.seq.getD (rK c) 0 + 1), st.out ++ [evC (rCmd st c), evR (rCmd st c) (rRep lie st c)]⟩
noncomputable def rstep (lie : Int) (st : RSt) (c : Cmd) : RSt := bif rightC (rCmd st c) && !decide (c.kind = 0) then rNew lie st c else st
noncomputable def rZero : RSt := ⟨zSt, 0, -1, List.replicate 8 0, []⟩
structure RI (lie i : Int) (st : RSt) (o : List Ev) : Prop where
 ls : st.seq.length = 8
 n0 : 0 ≤ st.n
 n10 : st.n ≤ 10
 sb : ∀ k, 0 ≤ st.seq.getD k 0 ∧ st.seq.getD k 0 ≤ st.n
 ok : ∃ j, 0 ≤ j ∧ j ≤ i ∧ stOk j st.s
 ev : ∀ e ∈ st.out, (e.a = 1 ∨ e.a = 2) ∧ (1 ≤ e.b ∧ e.b ≤ 8) ∧ (1 ≤ e.c.client ∧ e.c.client ≤ 8) ∧ isP e.r.pairs
 len : (st.out.length : Int) = 2 * st.n
 ol : (o.length : Int) = st.n
 ops : opsM st.out = some o
 sq : isSeq o
 run : st.s = runS o zSt
 lie : okF o zSt ↔ st.at_ < 0
 ab : -1 ≤ st.at_ ∧ st.at_ ≤ st.n
theorem rZero_ok (lie : Int) : RI lie 0 rZero [] := ⟨rfl, Int.le_refl 0, by show (0 : Int) ≤ 10; omega, fun k => mZ2 (repl_getD 8 k 0), ⟨0, Int.le_refl 0, Int.le_refl 0, zSt_ok⟩, fun e he => (by cases he), rfl, rfl, rfl, fun j e h => (by simp at h), rfl, ⟨fun _ => by show (-1 : Int) < 0; omega, fun _ => trivial⟩, by show (-1 : Int) ≤ -1 ∧ (-1 : Int) ≤ 0; omega⟩
theorem RI.more {lie i : Int} {st : RSt} {o : List Ev} (h : RI lie i st o) : RI lie (i + 1) st o := by
 obtain ⟨j, j0, j1, j2⟩ := h.ok
 exact { h with ok := ⟨j, j0, by omega, j2⟩ }
theorem RI.new {lie i : Int} {st : RSt} {o : List Ev} (h : RI lie i st o) (hi : i ≤ 1048576) (hn : st.n < 10) {c : Cmd} (hr : rightC (rCmd st c) = true) (hk0 : c.kind ≠ 0) : ∃ o2, RI lie (i + 1) (rNew lie st c) o2 := by
 obtain ⟨j, j0, j1, j2⟩ := h.ok
 have hk := rK_lt c
 have h0 := h.n0
 obtain ⟨cc, hcc⟩ : ∃ z, z = rCmd st c := ⟨_, rfl⟩
 obtain ⟨rr, hrr⟩ : ∃ z, z = rRep lie st c := ⟨_, rfl⟩
 have hcl : cc.client = (rK c : Int) + 1 := by rw [hcc]; rfl
 have hs : ∀ q, (rNew lie st c).seq.getD q 0 = if q = rK c then st.seq.getD (rK c) 0 + 1 else st.seq.getD q 0 := fun q => getD_set' (by rw [h.ls]; exact hk)
 have hnb : ∀ e ∈ o, opnB cc.client e = false := fun e he => by
  obtain ⟨q, hq⟩ := List.getElem?_of_mem he
  have := h.sq q e hq
  rw [← Bool.not_eq_true, opnB_iff]
  omega
 have hx := openX_no hnb
 obtain ⟨y, hy⟩ : ∃ y, y = evNew (2 * st.n) (evC cc) := ⟨_, rfl⟩
 obtain ⟨z, hz⟩ : ∃ z : Ev, z = ⟨2 * st.n, 2 * st.n + 1, cc, rr⟩ := ⟨_, rfl⟩
 have hst1 : evStep st.out.length o (evC cc) = some (o ++ [y]) := by
  rw [h.len]
  have e1 : evCall (openX (evC cc).b o) (evC cc) = true := by
   show evCall (openX cc.client o) _ = true
   rw [hx]
   have e2 : (evC cc).c = cc := rfl
   have e3 : cc.kind = c.kind := by rw [hcc]; rfl
   rw [← hcc] at hr
   simp only [evCall, e2, e3, hr, Bool.and_eq_true, decide_eq_true_eq, Bool.not_eq_true', decide_eq_false_iff_not]
   exact ⟨by omega, rfl, trivial, hk0, rfl⟩
  unfold evStep
  rw [e1, cond_true, hy]
 have hox : openX cc.client (o ++ [y]) = o.length := by
  rw [openX_app, show opnB cc.client y = true from opnB_iff.2 ⟨by rw [hy]; show (-1 : Int) < 0; omega, by rw [hy]; rfl⟩]
  rfl
 have hst2 : evStep ((st.out ++ [evC cc]).length : Nat) (o ++ [y]) (evR cc rr) = some (o ++ [z]) := by
  have hl : (((st.out ++ [evC cc]).length : Nat) : Int) = 2 * st.n + 1 := by rw [List.length_append, List.length_singleton]; have := h.len; omega
  rw [hl]
  unfold evStep
  show (bif evCall (openX cc.client (o ++ [y])) _ then _ else bif evRet (openX cc.client (o ++ [y])) _ _ then _ else _) = _
  rw [show (evR cc rr).b = cc.client from rfl, hox]
  have e1 : evCall (o.length : Int) (evR cc rr) = false := by unfold evCall; rw [decide_eq_false (by omega)]; rfl
  have e2 : (o ++ [y]).getD ((o.length : Nat) : Int).toNat default = y := by rw [Int.toNat_natCast, List.getD_eq_getElem?_getD]; simp
  have e3 : evRet (o.length : Int) (evR cc rr) y = true := by
   unfold evRet
   rw [decide_eq_true (by omega)]
   have h1 : (evR cc rr).a = 2 := rfl
   have h2 : y.c = (evR cc rr).c := by rw [hy]; rfl
   simp [h1, h2]
  rw [e1, cond_false, e2, e3, cond_true, Int.toNat_natCast, List.set_append_right _ _ (Nat.le_refl _), Nat.sub_self]
  congr 2
  rw [hz, hy]
  rfl
 have hout : (rNew lie st c).out = (st.out ++ [evC cc]) ++ [evR cc rr] := by
  show st.out ++ [evC (rCmd st c), evR (rCmd st c) (rRep lie st c)] = _
  rw [← hcc, ← hrr, List.append_assoc]
  rfl
 refine ⟨o ++ [z], ?_, ?_, ?_, fun q => ?_, ⟨j + 1, by omega, by omega, j2.app j0 (by omega) _⟩, fun e he => ?_, ?_, ?_, ?_, fun q e hq => ?_, ?_, ?_, ?_⟩
 · exact (List.length_set ..).trans h.ls
 · show 0 ≤ st.n + 1; omega
 · show st.n + 1 ≤ 10; omega
 · rw [hs]
   have := h.sb q
   have := h.sb (rK c)
   show _ ∧ _ ≤ st.n + 1
   split <;> omega
 · rw [hout] at he
   rcases List.mem_append.1 he with he | he
   · rcases List.mem_append.1 he with he | he
     · exact h.ev e he
     · rw [List.mem_singleton] at he
       subst he
       refine ⟨.inl rfl, ?_, ?_, isP.nil⟩
       · show 1 ≤ cc.client ∧ cc.client ≤ 8; omega
       · show 1 ≤ cc.client ∧ cc.client ≤ 8; omega
   · rw [List.mem_singleton] at he
     subst he
     refine ⟨.inr rfl, ?_, ?_, ?_⟩
     · show 1 ≤ cc.client ∧ cc.client ≤ 8; omega
     · show 1 ≤ cc.client ∧ cc.client ≤ 8; omega
     · have hp := j2.rep j0 (by omega : j ≤ 4611686018427387904) (rCmd st c)
       show isP rr.pairs
       rw [hrr]
       unfold rRep
       cases decide (st.n = lie) <;> exact hp
 · rw [hout, List.length_append, List.length_append]
   have := h.len
   show ((_ + 1 + 1 : Nat) : Int) = 2 * (st.n + 1)
   omega
 · rw [List.length_append]
   have := h.ol
   show ((_ + 1 : Nat) : Int) = st.n + 1
   omega
 · rw [hout]
   exact opsM_app (opsM_app h.ops hst1) hst2
 · rcases get_app_cases hq with hq | ⟨h1, rfl⟩
   · exact h.sq q e hq
   · have := h.ol
     rw [hz, h1]
     exact ⟨by show 2 * st.n = _; omega, by show 2 * st.n + 1 = _; omega⟩
 · rw [runS_app, ← h.run, hz]
   show (applyS st.s (rCmd st c)).1 = (applyS st.s cc).1
   rw [hcc]
 · rw [okF_app, ← h.run, h.lie, hz]
   show _ ∧ (applyS st.s cc).2 = rr ↔ (bif decide (st.n = lie) then st.n else st.at_) < 0
   rw [hcc, hrr]
   unfold rRep
   by_cases hne : st.n = lie
   · rw [decide_eq_true hne, cond_true, cond_true]
     refine ⟨fun hh => ?_, fun hh => by omega⟩
     have := congrArg Reply.version hh.2
     exact absurd this.symm (wrap_ne _)
   · rw [decide_eq_false hne, cond_false, cond_false]
     simp
 · show -1 ≤ (bif decide (st.n = lie) then st.n else st.at_) ∧ (bif decide (st.n = lie) then st.n else st.at_) ≤ st.n + 1
   have := h.ab
   cases decide (st.n = lie)
   · rw [cond_false]; omega
   · rw [cond_true]; omega
theorem RI.step {lie i : Int} {st : RSt} {o : List Ev} (h : RI lie i st o) (hi : i ≤ 1048576) (hn : st.n < 10) (c : Cmd) : ∃ o2, RI lie (i + 1) (rstep lie st c) o2 := by
 unfold rstep
 cases h2 : rightC (rCmd st c) && !decide (c.kind = 0) with
 | true =>
   rw [Bool.and_eq_true, Bool.not_eq_true', decide_eq_false_iff_not] at h2
   exact h.new hi hn h2.1 h2.2
 | false => exact ⟨o, h.more⟩
theorem RI.isEv {lie i : Int} {st : RSt} {o : List Ev} (h : RI lie i st o) : isEv (evsX st.out) := ⟨st.out, rfl, by have := h.len; have := h.n10; omega, fun e he => by
 have := h.ev e he
 exact ⟨by unfold r64; omega, by unfold r64; omega, by unfold r64; omega, this.2.2.2⟩⟩
theorem RI.lin {lie i : Int} {st : RSt} {o : List Ev} (h : RI lie i st o) : linM st.out = (decide (st.at_ < 0), true) := by
 have hL : o.length ≤ 12 := by have := h.ol; have := h.n10; omega
 have key := seq_lin h.sq hL o.length 0 zSt (by omega)
 rw [List.drop_zero, h.lie] at key
 have key : Lin o 0 zSt ↔ st.at_ < 0 := key
 unfold linM
 rw [h.ops]
 have h2 : ¬ 12 < o.length := by omega
 simp only [h2, if_false]
 congr 1
 refine cdec _ _ ?_
 rw [decide_eq_true_eq]
 exact key.symm
end Go.Proofs.Ytadnpgkddgbhkaa
namespace Go.Proofs.Ytadnpgkddgbhkaa
open Go.RowKit Go.Maps
set_option linter.all false
set_option maxHeartbeats 8000000
def isC2 (xs : List (List PD)) : Prop := ∃ l : List Cmd, xs = cmdsX l ∧ l.length ≤ 1048575 ∧ ∀ c ∈ l, r64 c.client
theorem cmdsX_len (l : List Cmd) : (cmdsX l).length = l.length := by simp [cmdsX]
theorem crow2 {xs : List (List PD)} {l : List Cmd} (hxs : xs = cmdsX l) {i : Int} (h0 : 0 ≤ i) (h1 : i < l.length) : xs.getD i.toNat [] = (l[i.toNat]'(by omega)).row := by
 subst hxs
 have : i.toNat < l.length := by omega
 simp [cmdsX, List.getD_eq_getElem?_getD, this]
theorem told_freeze2 {k : Nat} {s s' : SL} {st st' : Store} (b sz : Nat) (xs : List (List PD)) (bx : Box) (hb : st[b]? = some bx) (hl : bx.live = true) (hcells : bx.cells = rowsD xs) (hsz : ∀ x ∈ xs, x.length = sz)
  (hst : st' = fzSt b sz xs st) (hs : toldP (fzD b bx.ver sz xs) s s') : Told k s st s' st' := by
 subst hst
 intro E N a hc he hsl
 obtain ⟨E', e1, e2, e3, e4, e5, _⟩ := freeze_env b sz xs bx hb hl hcells hsz E hc he
 refine ⟨E', e1, e2, e3, ⟨hsl.size, fun i => ?_, hsl.defers⟩, fun F hF _ hx => Ext.trans hF hc.len hx e5⟩
 rcases toldP_get hs i with h | h
 · rw [h]
   exact e4 _ _ (hsl.rep i)
 · rw [h]
   trivial
structure RX where
 i : Int
 n : Int
 at_ : Int
 s : List DV
 cq : List DV
 dc : List DV
 no : Nat
 vo : Nat
def RXI (lie : Int) (l : List Cmd) (x : RX) : Prop := (0 ≤ x.i ∧ x.i ≤ l.length) ∧ ∃ (st : RSt) (o : List Ev), x.n = st.n ∧ x.at_ = st.at_ ∧ x.s = st.s ∧ x.cq = numsD st.seq ∧ x.dc = evsC st.out ∧ x.no = st.out.length ∧ RI lie x.i st o
set_option maxRecDepth 100000 in
theorem v_hrow (xs : List (List PD)) (lie : Int) (hms : isC2 xs) : FnV Try.prog 8 [.d (.slc 7 xs), .d (.sc (.int .i64 lie))] (.d (.sc (.bool true))) := by
 obtain ⟨GFsPq, hFsPq⟩ : ∃ F, F = FsPq0 := ⟨_, rfl⟩
 obtain ⟨GFs5, hFs5⟩ : ∃ F, F = Fs50 := ⟨_, rfl⟩
 obtain ⟨GFsSD, hFsSD⟩ : ∃ F, F = FsSD0 := ⟨_, rfl⟩
 obtain ⟨GFsHz, hFsHz⟩ : ∃ F, F = FsHz0 := ⟨_, rfl⟩
 obtain ⟨GFsHl, hFsHl⟩ : ∃ F, F = FsHl0 := ⟨_, rfl⟩
 obtain ⟨GFsHr, hFsHr⟩ : ∃ F, F = FsHr0 := ⟨_, rfl⟩
 have hH : SoundK Try.prog [kn_within3 GFsPq, kn_cright GFs5, kn_applyR GFsSD, kn_lcallH GFsHz, kn_lbackH GFsHz, kn_linear GFsHl, kn_hruns GFsHr] := by subst hFsPq hFs5 hFsSD hFsHz hFsHl hFsHr; exact orK_ok ok_within3 (orK_ok ok_cright (orK_ok ok_applyR (orK_ok ok_lcallH (orK_ok ok_lbackH (orK_ok ok_linear (orK_ok ok_hruns noK_ok))))))
 have hB : SoundB Try.prog [] := by subst hFsPq hFs5 hFsSD hFsHz hFsHl hFsHr; exact noB_ok
 refine FnD_cbv (T := fun _ => tabY [29, 38, 53, 56, 1006, 1012, 1061, 1063] [19, 21]) (H := fun _ => [kn_within3 GFsPq, kn_cright GFs5, kn_applyR GFsSD, kn_lcallH GFsHz, kn_lbackH GFsHz, kn_linear GFsHl, kn_hruns GFsHr]) (tabY_ok _ _) hH follows_mixed Try.func8 rfl Try.ntmps8 (by simp) fun A X W hA hX hW => ?_
 cbv
 have q000 : A.cond false false false = false := by subst hA; rfl
 have q001 : A.cond false false true = true := by subst hA; rfl
 have q010 : A.cond false true false = false := by subst hA; rfl
 have q011 : A.cond false true true = true := by subst hA; rfl
 have q100 : A.cond true false false = false := by subst hA; rfl
 have q101 : A.cond true false true = false := by subst hA; rfl
 have q110 : A.cond true true false = true := by subst hA; rfl
 have q111 : A.cond true true true = true := by subst hA; rfl
 have f3 : A.not true = false := by subst hA; rfl
 have f4 : A.not false = true := by subst hA; rfl
 cbv at f3 f4 q000 q001 q010 q011 q100 q101 q110 q111
 obtain ⟨l, hxs, hl, hlr⟩ := hms
 have hxl : xs.length = l.length := by rw [hxs, cmdsX_len]
 obtain ⟨r, hr⟩ : ∃ r : Int, r = l.length := ⟨_, rfl⟩
 repeat first
  | (simp only [q000, q001, q010, q011, q100, q101, q110, q111, f3, f4]; cbv)
  | refine And.intro (by subst hA hX hFsPq hFs5 hFsSD hFsHz hFsHl hFsHr; clear hH hB; first | exact trivial | exact rfl | (simp [A0]; done) | (intro q; exact q) | (intro q; simpa [A0] using q) | (intro _; trivial) | (show Region.lexB _ _ = true; kernel_rfl) | (show turnsB _ = true; kernel_rfl) | assumption | (intro _; assumption) | (intro _; rfl)) ?_
  | (refine pickL hX (t := true) (by rfl) rfl ?_; cbv)
  | (refine pickL hX (t := false) (by rfl) rfl ?_; cbv)
 refine loopL (T := fun _ => tabY [29, 38, 53, 56, 1006, 1012, 1061, 1063] [19, 21]) (H := fun _ => [kn_within3 GFsPq, kn_cright GFs5, kn_applyR GFsSD, kn_lcallH GFsHz, kn_lbackH GFsHz, kn_linear GFsHl, kn_hruns GFsHr]) (tabY_ok _ _) hH follows_mixed hA hX (RXI lie l) (fun x => [(0, .d (.slc 7 xs)), (1, .d (.sc (.int .i64 lie))), (5, outV x.no 2 x.vo), (6, .ref 0 0 0), (7, .ref 1 0 0), (8, .d (.sc (.int .i64 (x.n)))), (9, .d (.sc (.int .i64 (x.at_)))), (10, .d (.sc (.int .i64 (x.i))))]) (fun x => [⟨32, x.s, false, 0, true⟩, ⟨77, x.cq, false, 0, true⟩] ++ outB2 x.no x.dc x.vo) (fun x => r.toNat - x.i.toNat) ⟨0, 0, -1, zSt, numsD (List.replicate 8 0), [], 0, 0⟩ ?_ ?_ ?_
 · exact ⟨⟨Int.le_refl 0, by show (0 : Int) ≤ l.length; omega⟩, rZero, [], rfl, rfl, rfl, rfl, rfl, rfl, rZero_ok lie⟩
 · subst hA
   refine Told.trans (told_eqM (s' := [(0, .d (.slc 7 xs)), (1, .d (.sc (.int .i64 lie))), (5, outV 0 2 0), (6, .ref 0 0 0), (7, .ref 1 0 0), (8, .d (.sc (.int .i64 (0)))), (9, .d (.sc (.int .i64 (-1)))), (10, .d (.sc (.int .i64 (0))))]) (st' := [⟨32, Zn49, false, 0, true⟩, ⟨77, numsD (List.replicate 8 0), false, 0, true⟩]) rfl (by simp [toldP, getS, outV])) (told_upst (UpSt.cons (upL_upCs Zn49) (UpSt.cons (UpL.refl' _) rfl)) ⟨.inl (UpD.refl _), .inl (UpD.refl _), .inl (UpD.refl _), .inl (UpD.refl _), .inl (UpD.refl _), .inl (UpD.refl _), .inl (UpD.refl _), .inl (UpD.refl _), trivial⟩)
 rintro R ⟨i, n, at_, s, cq, dc, no, vo⟩ hR ⟨⟨i0, i1⟩, st, o, hn, hat, hs, hcq, hdc, hno, hri⟩
 replace i0 : 0 ≤ i := i0
 replace i1 : i ≤ l.length := i1
 replace hn : n = st.n := hn
 replace hat : at_ = st.at_ := hat
 replace hs : s = st.s := hs
 replace hcq : cq = numsD st.seq := hcq
 replace hdc : dc = evsC st.out := hdc
 replace hno : no = st.out.length := hno
 replace hri : RI lie i st o := hri
 by_cases hlt : i < r
 · by_cases hn10 : n < 10
   · have t2 : A.cmp .lss i (A.len xs) = true := by subst hA; exact decide_eq_true (by show i < (xs.length : Int); omega)
     have t3 : A.cmp .lss n 10 = true := by subst hA; exact decide_eq_true hn10
     cbv at t2 t3
     replace hr : r = (l.length : Int) := hr
     have hin : i.toNat < l.length := by omega
     obtain ⟨y, hy⟩ : ∃ z, z = l[i.toNat] := ⟨_, rfl⟩
     have hrow : xs.getD i.toNat [] = y.row := by rw [hy]; exact crow2 hxs i0 (by omega)
     have hdr : l.drop i.toNat = y :: l.drop (i + 1).toNat := by rw [List.drop_eq_getElem_cons hin, hy, show (i + 1).toNat = i.toNat + 1 by omega]
     have hyr : r64 y.client := by rw [hy]; exact hlr _ (List.getElem_mem _)
     have hk8 := rK_lt y
     have hsi : isSt s := by rw [hs]; obtain ⟨j9, _, _, h9⟩ := hri.ok; exact h9.is
     obtain ⟨kI, hkI⟩ : ∃ z : Int, z = (rK y : Int) := ⟨_, rfl⟩
     have hkb : 0 ≤ kI ∧ kI < 8 := by omega
     obtain ⟨ck, hck⟩ : ∃ z, z = y.kind := ⟨_, rfl⟩
     have m0 : A.gi (A.lift (A.row xs i)) 0 = ck := by rw [hck]; subst hA; simp only [A0, hrow]; rfl
     obtain ⟨ccl, hccl⟩ : ∃ z, z = y.client := ⟨_, rfl⟩
     have m1 : A.gi (A.lift (A.row xs i)) (A.pl 0 1) = ccl := by rw [hccl]; subst hA; simp only [A0, hrow]; rfl
     obtain ⟨csq, hcsq⟩ : ∃ z, z = y.seq := ⟨_, rfl⟩
     have m2 : A.gi (A.lift (A.row xs i)) (A.pl 0 2) = csq := by rw [hcsq]; subst hA; simp only [A0, hrow]; rfl
     obtain ⟨x1, hx1⟩ : ∃ z, z = y.key := ⟨_, rfl⟩
     have m3 : A.gs (A.lift (A.row xs i)) (A.pl 0 3) = x1 := by rw [hx1]; subst hA; simp only [A0, hrow]; rfl
     obtain ⟨x2, hx2⟩ : ∃ z, z = y.fin := ⟨_, rfl⟩
     have m4 : A.gs (A.lift (A.row xs i)) (A.pl 0 4) = x2 := by rw [hx2]; subst hA; simp only [A0, hrow]; rfl
     obtain ⟨x3, hx3⟩ : ∃ z, z = y.old := ⟨_, rfl⟩
     have m5 : A.gs (A.lift (A.row xs i)) (A.pl 0 5) = x3 := by rw [hx3]; subst hA; simp only [A0, hrow]; rfl
     obtain ⟨x4, hx4⟩ : ∃ z, z = y.val := ⟨_, rfl⟩
     have m6 : A.gs (A.lift (A.row xs i)) (A.pl 0 6) = x4 := by rw [hx4]; subst hA; simp only [A0, hrow]; rfl
     have hhc : A.has (A.lift (A.row xs i)) 0 7 [.d (.sc (.int .i64 (ck))), .d (.sc (.int .i64 (ccl))), .d (.sc (.int .i64 (csq))), .d (.sc (.string (x1))), .d (.sc (.string (x2))), .d (.sc (.string (x3))), .d (.sc (.string (x4)))] := by
      subst hA
      simp only [hck, hccl, hcsq, hx1, hx2, hx3, hx4, A0, hrow]
      exact ⟨rfl, Nat.le_refl _, rfl⟩
     have hinb : A.inb i (A.len xs) := by subst hA; exact ⟨i0, by show i < (xs.length : Int); omega⟩
     obtain ⟨kc, hkc⟩ : ∃ z : Int, z = kI + 1 := ⟨_, rfl⟩
     have ek : GFsPq.within3 ccl 1 8 = kc := by
      rw [hkc, hkI, hccl]
      subst hFsPq
      show 1 + y.client % (8 - 1 + 1) = ((y.client % 8).toNat : Int) + 1
      omega
     have k1 : GFsPq.r64 ccl := by rw [hccl]; subst hFsPq; exact hyr
     have k2 : GFsPq.span3 1 8 := by subst hFsPq; show (1 : Int) ≤ 8 ∧ _ ∧ _; omega
     have w0 : A.bin .sub .i64 kc 1 = kI := by rw [hkc]; subst hA; show IntKind.wrap .i64 (kI + 1 - 1) = kI; rw [show kI + 1 - 1 = kI by omega]; exact wrap_i64 (by unfold r64; omega)
     have hinb8 : A.inb kI (A.int 8) := by subst hA; exact ⟨by omega, by show kI < ((8 : Nat) : Int); omega⟩
     obtain ⟨p1, hp1⟩ : ∃ z : Nat, z = A.off 0 kI 1 := ⟨_, rfl⟩
     have hp1v : p1 = rK y := by rw [hp1, hkI]; subst hA; show 0 + ((rK y : Nat) : Int).toNat * 1 = _; omega
     obtain ⟨qK, hqK⟩ : ∃ z, z = st.seq.getD (rK y) 0 := ⟨_, rfl⟩
     have hqb := hri.sb (rK y)
     rw [← hqK] at hqb
     have hn10b := hri.n10
     have hqq : st.seq[p1]? = some qK := by
      have h8 : rK y < st.seq.length := by rw [hri.ls]; exact hk8
      rw [hqK, hp1v, List.getD_eq_getElem?_getD, List.getElem?_eq_getElem h8]
      rfl
     have e3 : A.gi cq p1 = qK := by subst hA; rw [hcq]; exact nums_gi hqq
     have hh3 : A.has cq p1 1 [.d (.sc (.int .i64 qK))] := by subst hA; rw [hcq]; exact nums_has hqq
     obtain ⟨q9, w2⟩ : ∃ t, A.bin .add .i64 qK 1 = t := ⟨_, rfl⟩
     have hq9 : q9 = qK + 1 := by rw [← w2]; subst hA; exact wrap_i64 (by unfold r64; omega)
     have hrc : rCmd st y = ⟨ck, kc, q9, x1, x2, x3, x4⟩ := by rw [hq9, hkc, hkI, hqK, hck, hx1, hx2, hx3, hx4]; rfl
     obtain ⟨rr, t6⟩ : ∃ t, GFs5.cright ⟨ck, kc, q9, x1, x2, x3, x4⟩ = t := ⟨_, rfl⟩
     have hrr : rr = rightC (rCmd st y) := by
      rw [← t6, hrc]
      subst hFs5
      rfl
     obtain ⟨z0, t7⟩ : ∃ t, A.cmp .eql ck 0 = t := ⟨_, rfl⟩
     have hz0 : z0 = decide (y.kind = 0) := by rw [← t7, hck]; subst hA; rfl
     obtain ⟨bad, t8⟩ : ∃ t, A.cond (A.not rr) true z0 = t := ⟨_, rfl⟩
     have hbad : (rightC (rCmd st y) && !decide (y.kind = 0)) = !bad := by rw [← t8, ← hrr, ← hz0]; subst hA; cases rr <;> cases z0 <;> rfl
     have hst9 := hri.step (by omega) (by rw [← hn]; exact hn10) y
     obtain ⟨o9, hst9⟩ := hst9
     obtain ⟨cq9, hcq9⟩ : ∃ z, z = numsD (st.seq.set (rK y) (st.seq.getD (rK y) 0 + 1)) := ⟨_, rfl⟩
     have x11 : A.spl cq p1 [.d (.sc (.int .i64 q9))] = cq9 := by subst hA; rw [hcq9, hcq, hq9, hqK, hp1v]; exact nums_spl (by rw [hri.ls]; exact hk8) _
     have y11 : A.fits cq p1 1 := by subst hA; show p1 + 1 ≤ cq.length; rw [hcq, hp1v]; simp only [numsD, List.length_map, hri.ls]; omega
     have hsl : s.length = 49 := hsi.len
     have etk : A.tk s 0 1 49 = s := by
      subst hA
      show (s.drop 0).take (1 * 49) = s
      rw [List.drop_zero, List.take_of_length_le (by omega)]
     have hfv : A.fitv s 0 1 49 := by subst hA; show 0 + 1 * 49 ≤ s.length; omega
     obtain ⟨ap9, hap⟩ : ∃ z, z = applyS s ⟨ck, kc, q9, x1, x2, x3, x4⟩ := ⟨_, rfl⟩
     have eap : GFsSD.applyR s ⟨ck, kc, q9, x1, x2, x3, x4⟩ = ap9 := by rw [hap]; subst hFsSD; rfl
     have hap2 : ap9 = applyS st.s (rCmd st y) := by rw [hap, hs, hrc]
     have e6 : GFsSD.isSt s := by subst hFsSD; exact hsi
     obtain ⟨j9, j90, j91, j92⟩ := hri.ok
     rw [← hs] at j92
     have hi62 : j9 ≤ 4611686018427387904 := by omega
     have hs9 := j92.app j90 hi62 ⟨ck, kc, q9, x1, x2, x3, x4⟩
     have hpr9 := j92.rep j90 hi62 ⟨ck, kc, q9, x1, x2, x3, x4⟩
     rw [← hap] at hs9 hpr9
     obtain ⟨s9, w9, fd9, vl9, vr9, pr9⟩ := ap9
     replace hs9 : isSt s9 := hs9.is
     replace hpr9 : isP pr9 := hpr9
     have h9l : s9.length = 49 := hs9.len
     have es9 : A.spl s 0 s9 = s9 := by
      subst hA
      show splice s 0 s9 = s9
      simp [splice, hsl, h9l]
     have ez : A.spl Zn49 0 s9 = s9 := by
      subst hA
      show splice Zn49 0 s9 = s9
      simp [splice, Zn49, Z48, h9l]
     have hful : A.full s9 49 1 := by subst hA; show s9.length = 49 * 1; omega
     have hfs : A.fits s 0 49 := by subst hA; show 0 + 49 ≤ s.length; omega
     have etk9 : A.tk s9 0 1 49 = s9 := by
      subst hA
      show (s9.drop 0).take (1 * 49) = s9
      rw [List.drop_zero, List.take_of_length_le (by omega)]
     have hfv9 : A.fitv s9 0 1 49 := by subst hA; show 0 + 1 * 49 ≤ s9.length; omega
     obtain ⟨tl, t9⟩ : ∃ t, A.cmp .eql n lie = t := ⟨_, rfl⟩
     have htl : tl = decide (st.n = lie) := by rw [← t9, hn]; subst hA; rfl
     obtain ⟨u9, w5⟩ : ∃ t, A.bin .add .i64 vr9 1 = t := ⟨_, rfl⟩
     have hu9 : u9 = IntKind.wrap .i64 (vr9 + 1) := by rw [← w5]; subst hA; rfl
     obtain ⟨n9, w3⟩ : ∃ t, A.bin .add .i64 n 1 = t := ⟨_, rfl⟩
     have hn9 : n9 = st.n + 1 := by rw [← w3, hn]; subst hA; have := hri.n0; exact wrap_i64 (by unfold r64; omega)
     have hpr1 : GFsHz.isP pr9 := by subst hFsHz; exact hpr9
     cbv at m0 m1 m2 m3 m4 m5 m6 hhc hinb ek k1 k2 w0 hinb8 hp1 e3 hh3 w2 t6 t7 t8 x11 y11 etk hfv eap e6 es9 ez hful hfs etk9 hfv9 t9 w5 w3 hpr1
     rcases no with _ | m
     · cbv
       repeat first
        | (simp only [t2, t3, ek, w0, ← hp1, e3, w2, t6, t7, t8, x11, etk, eap, es9, ez, etk9, t9, w5, w3, m0, m1, m2, m3, m4, m5, m6, q000, q001, q010, q011, q100, q101, q110, q111, f3, f4]; cbv)
        | refine And.intro (by subst hA hX hFsPq hFs5 hFsSD hFsHz hFsHl hFsHr; clear hH hB; first | exact trivial | exact rfl | (simp [A0]; done) | (intro q; exact q) | (intro q; simpa [A0] using q) | (intro _; trivial) | (show Region.lexB _ _ = true; kernel_rfl) | (show turnsB _ = true; kernel_rfl) | assumption | (intro _; assumption) | (intro _; rfl)) ?_
        | (refine pickL hX (t := true) (by rfl) rfl ?_; cbv)
        | (refine pickL hX (t := false) (by rfl) rfl ?_; cbv)
       cases bad
       case true =>
        cbv
        repeat first
         | (simp only [t2, t3, ek, w0, ← hp1, e3, w2, t6, t7, t8, x11, etk, eap, es9, ez, etk9, t9, w5, w3, m0, m1, m2, m3, m4, m5, m6, q000, q001, q010, q011, q100, q101, q110, q111, f3, f4]; cbv)
         | refine And.intro (by subst hA hX hFsPq hFs5 hFsSD hFsHz hFsHl hFsHr; clear hH hB; first | exact trivial | exact rfl | (simp [A0]; done) | (intro q; exact q) | (intro q; simpa [A0] using q) | (intro _; trivial) | (show Region.lexB _ _ = true; kernel_rfl) | (show turnsB _ = true; kernel_rfl) | assumption | (intro _; assumption) | (intro _; rfl)) ?_
         | (refine pickL hX (t := true) (by rfl) rfl ?_; cbv)
         | (refine pickL hX (t := false) (by rfl) rfl ?_; cbv)
        have hms : rstep lie st y = st := by
         unfold rstep
         rw [hbad]
         rfl
        rw [hms] at hst9
        subst hA hR
        have wk : IntKind.wrap .i64 (i + 1) = i + 1 := wrap_i64 (by unfold r64; omega)
        replace hlt : i < r := hlt
        replace hr : r = (l.length : Int) := hr
        refine ⟨⟨i + 1, n, at_, s, cq, dc, 0, vo⟩, ⟨⟨by show 0 ≤ i + 1; omega, by show i + 1 ≤ (l.length : Int); omega⟩, st, o9, hn, hat, hs, hcq, hdc, hno, hst9⟩, by show r.toNat - (i + 1).toNat < r.toNat - i.toNat; omega, told_keep [0, 1] rfl ?_ ?_⟩
        · simp [keepSt, pullBox, pullL, pullD, outB2, pullL_closed _ _ hsi.closed, hcq, hdc, nums_pull, evsC_pull]
        · simp [toldP, getS, A0, wk, pullD, outV, List.idxOf?, List.findIdx?_cons]
       case false =>
        cbv
        repeat first
         | (simp only [t2, t3, ek, w0, ← hp1, e3, w2, t6, t7, t8, x11, etk, eap, es9, ez, etk9, t9, w5, w3, m0, m1, m2, m3, m4, m5, m6, q000, q001, q010, q011, q100, q101, q110, q111, f3, f4]; cbv)
         | refine And.intro (by subst hA hX hFsPq hFs5 hFsSD hFsHz hFsHl hFsHr; clear hH hB; first | exact trivial | exact rfl | (simp [A0]; done) | (intro q; exact q) | (intro q; simpa [A0] using q) | (intro _; trivial) | (show Region.lexB _ _ = true; kernel_rfl) | (show turnsB _ = true; kernel_rfl) | assumption | (intro _; assumption) | (intro _; rfl)) ?_
         | (refine pickL hX (t := true) (by rfl) rfl ?_; cbv)
         | (refine pickL hX (t := false) (by rfl) rfl ?_; cbv)
        cases tl
        case true =>
         cbv
         repeat first
          | (simp only [t2, t3, ek, w0, ← hp1, e3, w2, t6, t7, t8, x11, etk, eap, es9, ez, etk9, t9, w5, w3, m0, m1, m2, m3, m4, m5, m6, q000, q001, q010, q011, q100, q101, q110, q111, f3, f4]; cbv)
          | refine And.intro (by subst hA hX hFsPq hFs5 hFsSD hFsHz hFsHl hFsHr; clear hH hB; first | exact trivial | exact rfl | (simp [A0]; done) | (intro q; exact q) | (intro q; simpa [A0] using q) | (intro _; trivial) | (show Region.lexB _ _ = true; kernel_rfl) | (show turnsB _ = true; kernel_rfl) | assumption | (intro _; assumption) | (intro _; rfl)) ?_
          | (refine pickL hX (t := true) (by rfl) rfl ?_; cbv)
          | (refine pickL hX (t := false) (by rfl) rfl ?_; cbv)
         have hrep : rRep lie st y = ⟨w9, fd9, vl9, u9, pr9⟩ := by
          unfold rRep
          rw [← htl, ← hap2, hu9]
          rfl
         obtain ⟨h9, t10⟩ : ∃ t, GFsHz.lcallH ⟨ck, kc, q9, x1, x2, x3, x4⟩ = t := ⟨_, rfl⟩
         have hh9 : h9 = (evC (rCmd st y)).op := by
          rw [← t10, hrc]
          subst hFsHz
          rfl
         obtain ⟨g9, t11⟩ : ∃ t, GFsHz.lbackH ⟨ck, kc, q9, x1, x2, x3, x4⟩ ⟨w9, fd9, vl9, u9, pr9⟩ = t := ⟨_, rfl⟩
         have hg9 : g9 = (evR (rCmd st y) (rRep lie st y)).op := by
          rw [← t11, hrep, hrc]
          subst hFsHz
          rfl
         rcases h9 with ⟨a1, a2, a3, a4, a5, a6, a7, a8, a9, a10, a11, a12, a13, a14⟩
         rcases g9 with ⟨b1, b2, b3, b4, b5, b6, b7, b8, b9, b10, b11, b12, b13, b14⟩
         have hrwA : [.d (.sc (.int .i64 a1)), .d (.sc (.int .i64 a2)), .d (.sc (.int .i64 a3)), .d (.sc (.int .i64 a4)), .d (.sc (.int .i64 a5)), .d (.sc (.string a6)), .d (.sc (.string a7)), .d (.sc (.string a8)), .d (.sc (.string a9)), .d (.sc (.int .i64 a10)), .d (.sc (.bool a11)), .d (.sc (.string a12)), .d (.sc (.int .i64 a13)), .d (.slc 3 a14)] = (evC (rCmd st y)).cells := by
          have := congrArg HOp.D hh9
          rw [Ev.op_D] at this
          exact DV.agg.inj this
         have hrwB : [.d (.sc (.int .i64 b1)), .d (.sc (.int .i64 b2)), .d (.sc (.int .i64 b3)), .d (.sc (.int .i64 b4)), .d (.sc (.int .i64 b5)), .d (.sc (.string b6)), .d (.sc (.string b7)), .d (.sc (.string b8)), .d (.sc (.string b9)), .d (.sc (.int .i64 b10)), .d (.sc (.bool b11)), .d (.sc (.string b12)), .d (.sc (.int .i64 b13)), .d (.slc 3 b14)] = (evR (rCmd st y) (rRep lie st y)).cells := by
          have := congrArg HOp.D hg9
          rw [Ev.op_D] at this
          exact DV.agg.inj this
         obtain ⟨dc9, hdc9⟩ : ∃ z, z = evsC (st.out ++ [evC (rCmd st y), evR (rCmd st y) (rRep lie st y)]) := ⟨_, rfl⟩
         have hrw2 : evsC [evC (rCmd st y), evR (rCmd st y) (rRep lie st y)] = [.d (.sc (.int .i64 a1)), .d (.sc (.int .i64 a2)), .d (.sc (.int .i64 a3)), .d (.sc (.int .i64 a4)), .d (.sc (.int .i64 a5)), .d (.sc (.string a6)), .d (.sc (.string a7)), .d (.sc (.string a8)), .d (.sc (.string a9)), .d (.sc (.int .i64 a10)), .d (.sc (.bool a11)), .d (.sc (.string a12)), .d (.sc (.int .i64 a13)), .d (.slc 3 a14), .d (.sc (.int .i64 b1)), .d (.sc (.int .i64 b2)), .d (.sc (.int .i64 b3)), .d (.sc (.int .i64 b4)), .d (.sc (.int .i64 b5)), .d (.sc (.string b6)), .d (.sc (.string b7)), .d (.sc (.string b8)), .d (.sc (.string b9)), .d (.sc (.int .i64 b10)), .d (.sc (.bool b11)), .d (.sc (.string b12)), .d (.sc (.int .i64 b13)), .d (.slc 3 b14)] := by
          show (evC (rCmd st y)).cells ++ ((evR (rCmd st y) (rRep lie st y)).cells ++ []) = _
          rw [← hrwA, ← hrwB]
          rfl
         have hap9 : evsC (st.out ++ [evC (rCmd st y), evR (rCmd st y) (rRep lie st y)]) = evsC st.out ++ evsC [evC (rCmd st y), evR (rCmd st y) (rRep lie st y)] := by simp [evsC]
         have hout0 : st.out = [] := List.length_eq_zero_iff.1 hno.symm
         have h0c : dc9 = [.d (.sc (.int .i64 a1)), .d (.sc (.int .i64 a2)), .d (.sc (.int .i64 a3)), .d (.sc (.int .i64 a4)), .d (.sc (.int .i64 a5)), .d (.sc (.string a6)), .d (.sc (.string a7)), .d (.sc (.string a8)), .d (.sc (.string a9)), .d (.sc (.int .i64 a10)), .d (.sc (.bool a11)), .d (.sc (.string a12)), .d (.sc (.int .i64 a13)), .d (.slc 3 a14), .d (.sc (.int .i64 b1)), .d (.sc (.int .i64 b2)), .d (.sc (.int .i64 b3)), .d (.sc (.int .i64 b4)), .d (.sc (.int .i64 b5)), .d (.sc (.string b6)), .d (.sc (.string b7)), .d (.sc (.string b8)), .d (.sc (.string b9)), .d (.sc (.int .i64 b10)), .d (.sc (.bool b11)), .d (.sc (.string b12)), .d (.sc (.int .i64 b13)), .d (.slc 3 b14)] := by rw [hdc9, hap9, hrw2, hout0]; rfl
         cbv at t10 t11
         cbv
         repeat first
          | (simp only [t10, t11, t2, t3, ek, w0, ← hp1, e3, w2, t6, t7, t8, x11, etk, eap, es9, ez, etk9, t9, w5, w3, m0, m1, m2, m3, m4, m5, m6, q000, q001, q010, q011, q100, q101, q110, q111, f3, f4]; cbv)
          | refine And.intro (by subst hA hX hFsPq hFs5 hFsSD hFsHz hFsHl hFsHr; clear hH hB; first | exact trivial | exact rfl | (simp [A0]; done) | (intro q; exact q) | (intro q; simpa [A0] using q) | (intro _; trivial) | (show Region.lexB _ _ = true; kernel_rfl) | (show turnsB _ = true; kernel_rfl) | assumption | (intro _; assumption) | (intro _; rfl)) ?_
          | (refine pickL hX (t := true) (by rfl) rfl ?_; cbv)
          | (refine pickL hX (t := false) (by rfl) rfl ?_; cbv)
         refine regionL [] [] (T := fun _ => tabY [29, 38, 53, 56, 1006, 1012, 1061, 1063] []) (H := fun _ => [kn_within3 GFsPq, kn_cright GFs5, kn_applyR GFsSD, kn_lcallH GFsHz, kn_lbackH GFsHz, kn_linear GFsHl, kn_hruns GFsHr]) (B := fun _ => []) (R := fun _ => []) (A := A) (tabY_ok _ _) hH noB_ok noR_ok follows_mixed hA hX (by kernel_rfl) (by kernel_rfl) (by kernel_rfl) ?_
         cbv
         repeat first
          | (simp only [t10, t11, t2, t3, ek, w0, ← hp1, e3, w2, t6, t7, t8, x11, etk, eap, es9, ez, etk9, t9, w5, w3, m0, m1, m2, m3, m4, m5, m6, q000, q001, q010, q011, q100, q101, q110, q111, f3, f4]; cbv)
          | refine And.intro (by subst hA hX hFsPq hFs5 hFsSD hFsHz hFsHl hFsHr; clear hH hB; first | exact trivial | exact rfl | (simp [A0]; done) | (intro q; exact q) | (intro q; simpa [A0] using q) | (intro _; trivial) | (show Region.lexB _ _ = true; kernel_rfl) | (show turnsB _ = true; kernel_rfl) | assumption | (intro _; assumption) | (intro _; rfl)) ?_
          | (refine pickL hX (t := true) (by rfl) rfl ?_; cbv)
          | (refine pickL hX (t := false) (by rfl) rfl ?_; cbv)
         have hms : rstep lie st y = rNew lie st y := by
          unfold rstep
          rw [hbad]
          rfl
         rw [hms] at hst9
         subst hA hR
         have wk : IntKind.wrap .i64 (i + 1) = i + 1 := wrap_i64 (by unfold r64; omega)
         replace hlt : i < r := hlt
         replace hr : r = (l.length : Int) := hr
         refine ⟨⟨i + 1, n9, n, s9, cq9, dc9, 2, 0⟩, ⟨⟨by show 0 ≤ i + 1; omega, by show i + 1 ≤ (l.length : Int); omega⟩, _, o9, hn9, by show n = (bif decide (st.n = lie) then st.n else st.at_); rw [← htl]; exact hn, by show s9 = (applyS st.s (rCmd st y)).1; rw [← hap2], hcq9, hdc9, by show _ = (st.out ++ [_, _]).length; rw [List.length_append, ← hno]; rfl, hst9⟩, by show r.toNat - (i + 1).toNat < r.toNat - i.toNat; omega, told_keep [0, 1, 6] rfl ?_ ?_⟩
         · simp [keepSt, pullBox, pullL, pullD, outB2, A0, hcq9, h0c,  pullL_closed _ _ hs9.closed, pullL_closed _ _ hsi.closed, hcq, hdc, nums_pull, evsC_pull]
         · simp [toldP, getS, A0, wk, pullD, outV, List.idxOf?, List.findIdx?_cons]
        case false =>
         cbv
         repeat first
          | (simp only [t2, t3, ek, w0, ← hp1, e3, w2, t6, t7, t8, x11, etk, eap, es9, ez, etk9, t9, w5, w3, m0, m1, m2, m3, m4, m5, m6, q000, q001, q010, q011, q100, q101, q110, q111, f3, f4]; cbv)
          | refine And.intro (by subst hA hX hFsPq hFs5 hFsSD hFsHz hFsHl hFsHr; clear hH hB; first | exact trivial | exact rfl | (simp [A0]; done) | (intro q; exact q) | (intro q; simpa [A0] using q) | (intro _; trivial) | (show Region.lexB _ _ = true; kernel_rfl) | (show turnsB _ = true; kernel_rfl) | assumption | (intro _; assumption) | (intro _; rfl)) ?_
          | (refine pickL hX (t := true) (by rfl) rfl ?_; cbv)
          | (refine pickL hX (t := false) (by rfl) rfl ?_; cbv)
         have hrep : rRep lie st y = ⟨w9, fd9, vl9, vr9, pr9⟩ := by
          unfold rRep
          rw [← htl, ← hap2]
          rfl
         obtain ⟨h9, t10⟩ : ∃ t, GFsHz.lcallH ⟨ck, kc, q9, x1, x2, x3, x4⟩ = t := ⟨_, rfl⟩
         have hh9 : h9 = (evC (rCmd st y)).op := by
          rw [← t10, hrc]
          subst hFsHz
          rfl
         obtain ⟨g9, t11⟩ : ∃ t, GFsHz.lbackH ⟨ck, kc, q9, x1, x2, x3, x4⟩ ⟨w9, fd9, vl9, vr9, pr9⟩ = t := ⟨_, rfl⟩
         have hg9 : g9 = (evR (rCmd st y) (rRep lie st y)).op := by
          rw [← t11, hrep, hrc]
          subst hFsHz
          rfl
         rcases h9 with ⟨a1, a2, a3, a4, a5, a6, a7, a8, a9, a10, a11, a12, a13, a14⟩
         rcases g9 with ⟨b1, b2, b3, b4, b5, b6, b7, b8, b9, b10, b11, b12, b13, b14⟩
         have hrwA : [.d (.sc (.int .i64 a1)), .d (.sc (.int .i64 a2)), .d (.sc (.int .i64 a3)), .d (.sc (.int .i64 a4)), .d (.sc (.int .i64 a5)), .d (.sc (.string a6)), .d (.sc (.string a7)), .d (.sc (.string a8)), .d (.sc (.string a9)), .d (.sc (.int .i64 a10)), .d (.sc (.bool a11)), .d (.sc (.string a12)), .d (.sc (.int .i64 a13)), .d (.slc 3 a14)] = (evC (rCmd st y)).cells := by
          have := congrArg HOp.D hh9
          rw [Ev.op_D] at this
          exact DV.agg.inj this
         have hrwB : [.d (.sc (.int .i64 b1)), .d (.sc (.int .i64 b2)), .d (.sc (.int .i64 b3)), .d (.sc (.int .i64 b4)), .d (.sc (.int .i64 b5)), .d (.sc (.string b6)), .d (.sc (.string b7)), .d (.sc (.string b8)), .d (.sc (.string b9)), .d (.sc (.int .i64 b10)), .d (.sc (.bool b11)), .d (.sc (.string b12)), .d (.sc (.int .i64 b13)), .d (.slc 3 b14)] = (evR (rCmd st y) (rRep lie st y)).cells := by
          have := congrArg HOp.D hg9
          rw [Ev.op_D] at this
          exact DV.agg.inj this
         obtain ⟨dc9, hdc9⟩ : ∃ z, z = evsC (st.out ++ [evC (rCmd st y), evR (rCmd st y) (rRep lie st y)]) := ⟨_, rfl⟩
         have hrw2 : evsC [evC (rCmd st y), evR (rCmd st y) (rRep lie st y)] = [.d (.sc (.int .i64 a1)), .d (.sc (.int .i64 a2)), .d (.sc (.int .i64 a3)), .d (.sc (.int .i64 a4)), .d (.sc (.int .i64 a5)), .d (.sc (.string a6)), .d (.sc (.string a7)), .d (.sc (.string a8)), .d (.sc (.string a9)), .d (.sc (.int .i64 a10)), .d (.sc (.bool a11)), .d (.sc (.string a12)), .d (.sc (.int .i64 a13)), .d (.slc 3 a14), .d (.sc (.int .i64 b1)), .d (.sc (.int .i64 b2)), .d (.sc (.int .i64 b3)), .d (.sc (.int .i64 b4)), .d (.sc (.int .i64 b5)), .d (.sc (.string b6)), .d (.sc (.string b7)), .d (.sc (.string b8)), .d (.sc (.string b9)), .d (.sc (.int .i64 b10)), .d (.sc (.bool b11)), .d (.sc (.string b12)), .d (.sc (.int .i64 b13)), .d (.slc 3 b14)] := by
          show (evC (rCmd st y)).cells ++ ((evR (rCmd st y) (rRep lie st y)).cells ++ []) = _
          rw [← hrwA, ← hrwB]
          rfl
         have hap9 : evsC (st.out ++ [evC (rCmd st y), evR (rCmd st y) (rRep lie st y)]) = evsC st.out ++ evsC [evC (rCmd st y), evR (rCmd st y) (rRep lie st y)] := by simp [evsC]
         have hout0 : st.out = [] := List.length_eq_zero_iff.1 hno.symm
         have h0c : dc9 = [.d (.sc (.int .i64 a1)), .d (.sc (.int .i64 a2)), .d (.sc (.int .i64 a3)), .d (.sc (.int .i64 a4)), .d (.sc (.int .i64 a5)), .d (.sc (.string a6)), .d (.sc (.string a7)), .d (.sc (.string a8)), .d (.sc (.string a9)), .d (.sc (.int .i64 a10)), .d (.sc (.bool a11)), .d (.sc (.string a12)), .d (.sc (.int .i64 a13)), .d (.slc 3 a14), .d (.sc (.int .i64 b1)), .d (.sc (.int .i64 b2)), .d (.sc (.int .i64 b3)), .d (.sc (.int .i64 b4)), .d (.sc (.int .i64 b5)), .d (.sc (.string b6)), .d (.sc (.string b7)), .d (.sc (.string b8)), .d (.sc (.string b9)), .d (.sc (.int .i64 b10)), .d (.sc (.bool b11)), .d (.sc (.string b12)), .d (.sc (.int .i64 b13)), .d (.slc 3 b14)] := by rw [hdc9, hap9, hrw2, hout0]; rfl
         cbv at t10 t11
         cbv
         repeat first
          | (simp only [t10, t11, t2, t3, ek, w0, ← hp1, e3, w2, t6, t7, t8, x11, etk, eap, es9, ez, etk9, t9, w5, w3, m0, m1, m2, m3, m4, m5, m6, q000, q001, q010, q011, q100, q101, q110, q111, f3, f4]; cbv)
          | refine And.intro (by subst hA hX hFsPq hFs5 hFsSD hFsHz hFsHl hFsHr; clear hH hB; first | exact trivial | exact rfl | (simp [A0]; done) | (intro q; exact q) | (intro q; simpa [A0] using q) | (intro _; trivial) | (show Region.lexB _ _ = true; kernel_rfl) | (show turnsB _ = true; kernel_rfl) | assumption | (intro _; assumption) | (intro _; rfl)) ?_
          | (refine pickL hX (t := true) (by rfl) rfl ?_; cbv)
          | (refine pickL hX (t := false) (by rfl) rfl ?_; cbv)
         refine regionL [] [] (T := fun _ => tabY [29, 38, 53, 56, 1006, 1012, 1061, 1063] []) (H := fun _ => [kn_within3 GFsPq, kn_cright GFs5, kn_applyR GFsSD, kn_lcallH GFsHz, kn_lbackH GFsHz, kn_linear GFsHl, kn_hruns GFsHr]) (B := fun _ => []) (R := fun _ => []) (A := A) (tabY_ok _ _) hH noB_ok noR_ok follows_mixed hA hX (by kernel_rfl) (by kernel_rfl) (by kernel_rfl) ?_
         cbv
         repeat first
          | (simp only [t10, t11, t2, t3, ek, w0, ← hp1, e3, w2, t6, t7, t8, x11, etk, eap, es9, ez, etk9, t9, w5, w3, m0, m1, m2, m3, m4, m5, m6, q000, q001, q010, q011, q100, q101, q110, q111, f3, f4]; cbv)
          | refine And.intro (by subst hA hX hFsPq hFs5 hFsSD hFsHz hFsHl hFsHr; clear hH hB; first | exact trivial | exact rfl | (simp [A0]; done) | (intro q; exact q) | (intro q; simpa [A0] using q) | (intro _; trivial) | (show Region.lexB _ _ = true; kernel_rfl) | (show turnsB _ = true; kernel_rfl) | assumption | (intro _; assumption) | (intro _; rfl)) ?_
          | (refine pickL hX (t := true) (by rfl) rfl ?_; cbv)
          | (refine pickL hX (t := false) (by rfl) rfl ?_; cbv)
         have hms : rstep lie st y = rNew lie st y := by
          unfold rstep
          rw [hbad]
          rfl
         rw [hms] at hst9
         subst hA hR
         have wk : IntKind.wrap .i64 (i + 1) = i + 1 := wrap_i64 (by unfold r64; omega)
         replace hlt : i < r := hlt
         replace hr : r = (l.length : Int) := hr
         refine ⟨⟨i + 1, n9, at_, s9, cq9, dc9, 2, 0⟩, ⟨⟨by show 0 ≤ i + 1; omega, by show i + 1 ≤ (l.length : Int); omega⟩, _, o9, hn9, by show at_ = (bif decide (st.n = lie) then st.n else st.at_); rw [← htl]; exact hat, by show s9 = (applyS st.s (rCmd st y)).1; rw [← hap2], hcq9, hdc9, by show _ = (st.out ++ [_, _]).length; rw [List.length_append, ← hno]; rfl, hst9⟩, by show r.toNat - (i + 1).toNat < r.toNat - i.toNat; omega, told_keep [0, 1, 6] rfl ?_ ?_⟩
         · simp [keepSt, pullBox, pullL, pullD, outB2, A0, hcq9, h0c,  pullL_closed _ _ hs9.closed, pullL_closed _ _ hsi.closed, hcq, hdc, nums_pull, evsC_pull]
         · simp [toldP, getS, A0, wk, pullD, outV, List.idxOf?, List.findIdx?_cons]
     · cbv
       repeat first
        | (simp only [t2, t3, ek, w0, ← hp1, e3, w2, t6, t7, t8, x11, etk, eap, es9, ez, etk9, t9, w5, w3, m0, m1, m2, m3, m4, m5, m6, q000, q001, q010, q011, q100, q101, q110, q111, f3, f4]; cbv)
        | refine And.intro (by subst hA hX hFsPq hFs5 hFsSD hFsHz hFsHl hFsHr; clear hH hB; first | exact trivial | exact rfl | (simp [A0]; done) | (intro q; exact q) | (intro q; simpa [A0] using q) | (intro _; trivial) | (show Region.lexB _ _ = true; kernel_rfl) | (show turnsB _ = true; kernel_rfl) | assumption | (intro _; assumption) | (intro _; rfl)) ?_
        | (refine pickL hX (t := true) (by rfl) rfl ?_; cbv)
        | (refine pickL hX (t := false) (by rfl) rfl ?_; cbv)
       cases bad
       case true =>
        cbv
        repeat first
         | (simp only [t2, t3, ek, w0, ← hp1, e3, w2, t6, t7, t8, x11, etk, eap, es9, ez, etk9, t9, w5, w3, m0, m1, m2, m3, m4, m5, m6, q000, q001, q010, q011, q100, q101, q110, q111, f3, f4]; cbv)
         | refine And.intro (by subst hA hX hFsPq hFs5 hFsSD hFsHz hFsHl hFsHr; clear hH hB; first | exact trivial | exact rfl | (simp [A0]; done) | (intro q; exact q) | (intro q; simpa [A0] using q) | (intro _; trivial) | (show Region.lexB _ _ = true; kernel_rfl) | (show turnsB _ = true; kernel_rfl) | assumption | (intro _; assumption) | (intro _; rfl)) ?_
         | (refine pickL hX (t := true) (by rfl) rfl ?_; cbv)
         | (refine pickL hX (t := false) (by rfl) rfl ?_; cbv)
        have hms : rstep lie st y = st := by
         unfold rstep
         rw [hbad]
         rfl
        rw [hms] at hst9
        subst hA hR
        have wk : IntKind.wrap .i64 (i + 1) = i + 1 := wrap_i64 (by unfold r64; omega)
        replace hlt : i < r := hlt
        replace hr : r = (l.length : Int) := hr
        refine ⟨⟨i + 1, n, at_, s, cq, dc, m + 1, vo⟩, ⟨⟨by show 0 ≤ i + 1; omega, by show i + 1 ≤ (l.length : Int); omega⟩, st, o9, hn, hat, hs, hcq, hdc, hno, hst9⟩, by show r.toNat - (i + 1).toNat < r.toNat - i.toNat; omega, told_keep [0, 1, 2] rfl ?_ ?_⟩
        · simp [keepSt, pullBox, pullL, pullD, outB2, pullL_closed _ _ hsi.closed, hcq, hdc, nums_pull, evsC_pull]
        · simp [toldP, getS, A0, wk, pullD, outV, List.idxOf?, List.findIdx?_cons]
       case false =>
        cbv
        repeat first
         | (simp only [t2, t3, ek, w0, ← hp1, e3, w2, t6, t7, t8, x11, etk, eap, es9, ez, etk9, t9, w5, w3, m0, m1, m2, m3, m4, m5, m6, q000, q001, q010, q011, q100, q101, q110, q111, f3, f4]; cbv)
         | refine And.intro (by subst hA hX hFsPq hFs5 hFsSD hFsHz hFsHl hFsHr; clear hH hB; first | exact trivial | exact rfl | (simp [A0]; done) | (intro q; exact q) | (intro q; simpa [A0] using q) | (intro _; trivial) | (show Region.lexB _ _ = true; kernel_rfl) | (show turnsB _ = true; kernel_rfl) | assumption | (intro _; assumption) | (intro _; rfl)) ?_
         | (refine pickL hX (t := true) (by rfl) rfl ?_; cbv)
         | (refine pickL hX (t := false) (by rfl) rfl ?_; cbv)
        cases tl
        case true =>
         cbv
         repeat first
          | (simp only [t2, t3, ek, w0, ← hp1, e3, w2, t6, t7, t8, x11, etk, eap, es9, ez, etk9, t9, w5, w3, m0, m1, m2, m3, m4, m5, m6, q000, q001, q010, q011, q100, q101, q110, q111, f3, f4]; cbv)
          | refine And.intro (by subst hA hX hFsPq hFs5 hFsSD hFsHz hFsHl hFsHr; clear hH hB; first | exact trivial | exact rfl | (simp [A0]; done) | (intro q; exact q) | (intro q; simpa [A0] using q) | (intro _; trivial) | (show Region.lexB _ _ = true; kernel_rfl) | (show turnsB _ = true; kernel_rfl) | assumption | (intro _; assumption) | (intro _; rfl)) ?_
          | (refine pickL hX (t := true) (by rfl) rfl ?_; cbv)
          | (refine pickL hX (t := false) (by rfl) rfl ?_; cbv)
         have hrep : rRep lie st y = ⟨w9, fd9, vl9, u9, pr9⟩ := by
          unfold rRep
          rw [← htl, ← hap2, hu9]
          rfl
         obtain ⟨h9, t10⟩ : ∃ t, GFsHz.lcallH ⟨ck, kc, q9, x1, x2, x3, x4⟩ = t := ⟨_, rfl⟩
         have hh9 : h9 = (evC (rCmd st y)).op := by
          rw [← t10, hrc]
          subst hFsHz
          rfl
         obtain ⟨g9, t11⟩ : ∃ t, GFsHz.lbackH ⟨ck, kc, q9, x1, x2, x3, x4⟩ ⟨w9, fd9, vl9, u9, pr9⟩ = t := ⟨_, rfl⟩
         have hg9 : g9 = (evR (rCmd st y) (rRep lie st y)).op := by
          rw [← t11, hrep, hrc]
          subst hFsHz
          rfl
         rcases h9 with ⟨a1, a2, a3, a4, a5, a6, a7, a8, a9, a10, a11, a12, a13, a14⟩
         rcases g9 with ⟨b1, b2, b3, b4, b5, b6, b7, b8, b9, b10, b11, b12, b13, b14⟩
         have hrwA : [.d (.sc (.int .i64 a1)), .d (.sc (.int .i64 a2)), .d (.sc (.int .i64 a3)), .d (.sc (.int .i64 a4)), .d (.sc (.int .i64 a5)), .d (.sc (.string a6)), .d (.sc (.string a7)), .d (.sc (.string a8)), .d (.sc (.string a9)), .d (.sc (.int .i64 a10)), .d (.sc (.bool a11)), .d (.sc (.string a12)), .d (.sc (.int .i64 a13)), .d (.slc 3 a14)] = (evC (rCmd st y)).cells := by
          have := congrArg HOp.D hh9
          rw [Ev.op_D] at this
          exact DV.agg.inj this
         have hrwB : [.d (.sc (.int .i64 b1)), .d (.sc (.int .i64 b2)), .d (.sc (.int .i64 b3)), .d (.sc (.int .i64 b4)), .d (.sc (.int .i64 b5)), .d (.sc (.string b6)), .d (.sc (.string b7)), .d (.sc (.string b8)), .d (.sc (.string b9)), .d (.sc (.int .i64 b10)), .d (.sc (.bool b11)), .d (.sc (.string b12)), .d (.sc (.int .i64 b13)), .d (.slc 3 b14)] = (evR (rCmd st y) (rRep lie st y)).cells := by
          have := congrArg HOp.D hg9
          rw [Ev.op_D] at this
          exact DV.agg.inj this
         obtain ⟨dc9, hdc9⟩ : ∃ z, z = evsC (st.out ++ [evC (rCmd st y), evR (rCmd st y) (rRep lie st y)]) := ⟨_, rfl⟩
         have hrw2 : evsC [evC (rCmd st y), evR (rCmd st y) (rRep lie st y)] = [.d (.sc (.int .i64 a1)), .d (.sc (.int .i64 a2)), .d (.sc (.int .i64 a3)), .d (.sc (.int .i64 a4)), .d (.sc (.int .i64 a5)), .d (.sc (.string a6)), .d (.sc (.string a7)), .d (.sc (.string a8)), .d (.sc (.string a9)), .d (.sc (.int .i64 a10)), .d (.sc (.bool a11)), .d (.sc (.string a12)), .d (.sc (.int .i64 a13)), .d (.slc 3 a14), .d (.sc (.int .i64 b1)), .d (.sc (.int .i64 b2)), .d (.sc (.int .i64 b3)), .d (.sc (.int .i64 b4)), .d (.sc (.int .i64 b5)), .d (.sc (.string b6)), .d (.sc (.string b7)), .d (.sc (.string b8)), .d (.sc (.string b9)), .d (.sc (.int .i64 b10)), .d (.sc (.bool b11)), .d (.sc (.string b12)), .d (.sc (.int .i64 b13)), .d (.slc 3 b14)] := by
          show (evC (rCmd st y)).cells ++ ((evR (rCmd st y) (rRep lie st y)).cells ++ []) = _
          rw [← hrwA, ← hrwB]
          rfl
         have hap9 : evsC (st.out ++ [evC (rCmd st y), evR (rCmd st y) (rRep lie st y)]) = evsC st.out ++ evsC [evC (rCmd st y), evR (rCmd st y) (rRep lie st y)] := by simp [evsC]
         have hfull : A.full dc (m + 1) 14 := by subst hA; show dc.length = (m + 1) * 14; rw [hdc, evsC_len, ← hno]
         have hisl : A.isl (m + 1) 2 168 := by subst hA; have := hri.len; exact ⟨by omega, by omega⟩
         have x14 : A.app dc (A.tk [.d (.sc (.int .i64 a1)), .d (.sc (.int .i64 a2)), .d (.sc (.int .i64 a3)), .d (.sc (.int .i64 a4)), .d (.sc (.int .i64 a5)), .d (.sc (.string a6)), .d (.sc (.string a7)), .d (.sc (.string a8)), .d (.sc (.string a9)), .d (.sc (.int .i64 a10)), .d (.sc (.bool a11)), .d (.sc (.string a12)), .d (.sc (.int .i64 a13)), .d (.slc 3 a14), .d (.sc (.int .i64 b1)), .d (.sc (.int .i64 b2)), .d (.sc (.int .i64 b3)), .d (.sc (.int .i64 b4)), .d (.sc (.int .i64 b5)), .d (.sc (.string b6)), .d (.sc (.string b7)), .d (.sc (.string b8)), .d (.sc (.string b9)), .d (.sc (.int .i64 b10)), .d (.sc (.bool b11)), .d (.sc (.string b12)), .d (.sc (.int .i64 b13)), .d (.slc 3 b14)] 0 2 14) = dc9 := by subst hA; rw [hdc9, hap9, hrw2, hdc]; rfl
         cbv at t10 t11 hfull hisl x14
         cbv
         repeat first
          | (simp only [t10, t11, x14, t2, t3, ek, w0, ← hp1, e3, w2, t6, t7, t8, x11, etk, eap, es9, ez, etk9, t9, w5, w3, m0, m1, m2, m3, m4, m5, m6, q000, q001, q010, q011, q100, q101, q110, q111, f3, f4]; cbv)
          | refine And.intro (by subst hA hX hFsPq hFs5 hFsSD hFsHz hFsHl hFsHr; clear hH hB; first | exact trivial | exact rfl | (simp [A0]; done) | (intro q; exact q) | (intro q; simpa [A0] using q) | (intro _; trivial) | (show Region.lexB _ _ = true; kernel_rfl) | (show turnsB _ = true; kernel_rfl) | assumption | (intro _; assumption) | (intro _; rfl)) ?_
          | (refine pickL hX (t := true) (by rfl) rfl ?_; cbv)
          | (refine pickL hX (t := false) (by rfl) rfl ?_; cbv)
         refine regionL [] [] (T := fun _ => tabY [29, 38, 53, 56, 1006, 1012, 1061, 1063] []) (H := fun _ => [kn_within3 GFsPq, kn_cright GFs5, kn_applyR GFsSD, kn_lcallH GFsHz, kn_lbackH GFsHz, kn_linear GFsHl, kn_hruns GFsHr]) (B := fun _ => []) (R := fun _ => []) (A := A) (tabY_ok _ _) hH noB_ok noR_ok follows_mixed hA hX (by kernel_rfl) (by kernel_rfl) (by kernel_rfl) ?_
         cbv
         repeat first
          | (simp only [t10, t11, x14, t2, t3, ek, w0, ← hp1, e3, w2, t6, t7, t8, x11, etk, eap, es9, ez, etk9, t9, w5, w3, m0, m1, m2, m3, m4, m5, m6, q000, q001, q010, q011, q100, q101, q110, q111, f3, f4]; cbv)
          | refine And.intro (by subst hA hX hFsPq hFs5 hFsSD hFsHz hFsHl hFsHr; clear hH hB; first | exact trivial | exact rfl | (simp [A0]; done) | (intro q; exact q) | (intro q; simpa [A0] using q) | (intro _; trivial) | (show Region.lexB _ _ = true; kernel_rfl) | (show turnsB _ = true; kernel_rfl) | assumption | (intro _; assumption) | (intro _; rfl)) ?_
          | (refine pickL hX (t := true) (by rfl) rfl ?_; cbv)
          | (refine pickL hX (t := false) (by rfl) rfl ?_; cbv)
         have hms : rstep lie st y = rNew lie st y := by
          unfold rstep
          rw [hbad]
          rfl
         rw [hms] at hst9
         subst hA hR
         have wk : IntKind.wrap .i64 (i + 1) = i + 1 := wrap_i64 (by unfold r64; omega)
         replace hlt : i < r := hlt
         replace hr : r = (l.length : Int) := hr
         refine ⟨⟨i + 1, n9, n, s9, cq9, dc9, m + 3, vo + 1⟩, ⟨⟨by show 0 ≤ i + 1; omega, by show i + 1 ≤ (l.length : Int); omega⟩, _, o9, hn9, by show n = (bif decide (st.n = lie) then st.n else st.at_); rw [← htl]; exact hn, by show s9 = (applyS st.s (rCmd st y)).1; rw [← hap2], hcq9, hdc9, by show _ = (st.out ++ [_, _]).length; rw [List.length_append, ← hno]; rfl, hst9⟩, by show r.toNat - (i + 1).toNat < r.toNat - i.toNat; omega, told_keep [0, 1, 2] rfl ?_ ?_⟩
         · simp [keepSt, pullBox, pullL, pullD, outB2, A0, hcq9, hdc9,  pullL_closed _ _ hs9.closed, pullL_closed _ _ hsi.closed, hcq, hdc, nums_pull, evsC_pull]
         · simp [toldP, getS, A0, wk, pullD, outV, List.idxOf?, List.findIdx?_cons]
        case false =>
         cbv
         repeat first
          | (simp only [t2, t3, ek, w0, ← hp1, e3, w2, t6, t7, t8, x11, etk, eap, es9, ez, etk9, t9, w5, w3, m0, m1, m2, m3, m4, m5, m6, q000, q001, q010, q011, q100, q101, q110, q111, f3, f4]; cbv)
          | refine And.intro (by subst hA hX hFsPq hFs5 hFsSD hFsHz hFsHl hFsHr; clear hH hB; first | exact trivial | exact rfl | (simp [A0]; done) | (intro q; exact q) | (intro q; simpa [A0] using q) | (intro _; trivial) | (show Region.lexB _ _ = true; kernel_rfl) | (show turnsB _ = true; kernel_rfl) | assumption | (intro _; assumption) | (intro _; rfl)) ?_
          | (refine pickL hX (t := true) (by rfl) rfl ?_; cbv)
          | (refine pickL hX (t := false) (by rfl) rfl ?_; cbv)
         have hrep : rRep lie st y = ⟨w9, fd9, vl9, vr9, pr9⟩ := by
          unfold rRep
          rw [← htl, ← hap2]
          rfl
         obtain ⟨h9, t10⟩ : ∃ t, GFsHz.lcallH ⟨ck, kc, q9, x1, x2, x3, x4⟩ = t := ⟨_, rfl⟩
         have hh9 : h9 = (evC (rCmd st y)).op := by
          rw [← t10, hrc]
          subst hFsHz
          rfl
         obtain ⟨g9, t11⟩ : ∃ t, GFsHz.lbackH ⟨ck, kc, q9, x1, x2, x3, x4⟩ ⟨w9, fd9, vl9, vr9, pr9⟩ = t := ⟨_, rfl⟩
         have hg9 : g9 = (evR (rCmd st y) (rRep lie st y)).op := by
          rw [← t11, hrep, hrc]
          subst hFsHz
          rfl
         rcases h9 with ⟨a1, a2, a3, a4, a5, a6, a7, a8, a9, a10, a11, a12, a13, a14⟩
         rcases g9 with ⟨b1, b2, b3, b4, b5, b6, b7, b8, b9, b10, b11, b12, b13, b14⟩
         have hrwA : [.d (.sc (.int .i64 a1)), .d (.sc (.int .i64 a2)), .d (.sc (.int .i64 a3)), .d (.sc (.int .i64 a4)), .d (.sc (.int .i64 a5)), .d (.sc (.string a6)), .d (.sc (.string a7)), .d (.sc (.string a8)), .d (.sc (.string a9)), .d (.sc (.int .i64 a10)), .d (.sc (.bool a11)), .d (.sc (.string a12)), .d (.sc (.int .i64 a13)), .d (.slc 3 a14)] = (evC (rCmd st y)).cells := by
          have := congrArg HOp.D hh9
          rw [Ev.op_D] at this
          exact DV.agg.inj this
         have hrwB : [.d (.sc (.int .i64 b1)), .d (.sc (.int .i64 b2)), .d (.sc (.int .i64 b3)), .d (.sc (.int .i64 b4)), .d (.sc (.int .i64 b5)), .d (.sc (.string b6)), .d (.sc (.string b7)), .d (.sc (.string b8)), .d (.sc (.string b9)), .d (.sc (.int .i64 b10)), .d (.sc (.bool b11)), .d (.sc (.string b12)), .d (.sc (.int .i64 b13)), .d (.slc 3 b14)] = (evR (rCmd st y) (rRep lie st y)).cells := by
          have := congrArg HOp.D hg9
          rw [Ev.op_D] at this
          exact DV.agg.inj this
         obtain ⟨dc9, hdc9⟩ : ∃ z, z = evsC (st.out ++ [evC (rCmd st y), evR (rCmd st y) (rRep lie st y)]) := ⟨_, rfl⟩
         have hrw2 : evsC [evC (rCmd st y), evR (rCmd st y) (rRep lie st y)] = [.d (.sc (.int .i64 a1)), .d (.sc (.int .i64 a2)), .d (.sc (.int .i64 a3)), .d (.sc (.int .i64 a4)), .d (.sc (.int .i64 a5)), .d (.sc (.string a6)), .d (.sc (.string a7)), .d (.sc (.string a8)), .d (.sc (.string a9)), .d (.sc (.int .i64 a10)), .d (.sc (.bool a11)), .d (.sc (.string a12)), .d (.sc (.int .i64 a13)), .d (.slc 3 a14), .d (.sc (.int .i64 b1)), .d (.sc (.int .i64 b2)), .d (.sc (.int .i64 b3)), .d (.sc (.int .i64 b4)), .d (.sc (.int .i64 b5)), .d (.sc (.string b6)), .d (.sc (.string b7)), .d (.sc (.string b8)), .d (.sc (.string b9)), .d (.sc (.int .i64 b10)), .d (.sc (.bool b11)), .d (.sc (.string b12)), .d (.sc (.int .i64 b13)), .d (.slc 3 b14)] := by
          show (evC (rCmd st y)).cells ++ ((evR (rCmd st y) (rRep lie st y)).cells ++ []) = _
          rw [← hrwA, ← hrwB]
          rfl
         have hap9 : evsC (st.out ++ [evC (rCmd st y), evR (rCmd st y) (rRep lie st y)]) = evsC st.out ++ evsC [evC (rCmd st y), evR (rCmd st y) (rRep lie st y)] := by simp [evsC]
         have hfull : A.full dc (m + 1) 14 := by subst hA; show dc.length = (m + 1) * 14; rw [hdc, evsC_len, ← hno]
         have hisl : A.isl (m + 1) 2 168 := by subst hA; have := hri.len; exact ⟨by omega, by omega⟩
         have x14 : A.app dc (A.tk [.d (.sc (.int .i64 a1)), .d (.sc (.int .i64 a2)), .d (.sc (.int .i64 a3)), .d (.sc (.int .i64 a4)), .d (.sc (.int .i64 a5)), .d (.sc (.string a6)), .d (.sc (.string a7)), .d (.sc (.string a8)), .d (.sc (.string a9)), .d (.sc (.int .i64 a10)), .d (.sc (.bool a11)), .d (.sc (.string a12)), .d (.sc (.int .i64 a13)), .d (.slc 3 a14), .d (.sc (.int .i64 b1)), .d (.sc (.int .i64 b2)), .d (.sc (.int .i64 b3)), .d (.sc (.int .i64 b4)), .d (.sc (.int .i64 b5)), .d (.sc (.string b6)), .d (.sc (.string b7)), .d (.sc (.string b8)), .d (.sc (.string b9)), .d (.sc (.int .i64 b10)), .d (.sc (.bool b11)), .d (.sc (.string b12)), .d (.sc (.int .i64 b13)), .d (.slc 3 b14)] 0 2 14) = dc9 := by subst hA; rw [hdc9, hap9, hrw2, hdc]; rfl
         cbv at t10 t11 hfull hisl x14
         cbv
         repeat first
          | (simp only [t10, t11, x14, t2, t3, ek, w0, ← hp1, e3, w2, t6, t7, t8, x11, etk, eap, es9, ez, etk9, t9, w5, w3, m0, m1, m2, m3, m4, m5, m6, q000, q001, q010, q011, q100, q101, q110, q111, f3, f4]; cbv)
          | refine And.intro (by subst hA hX hFsPq hFs5 hFsSD hFsHz hFsHl hFsHr; clear hH hB; first | exact trivial | exact rfl | (simp [A0]; done) | (intro q; exact q) | (intro q; simpa [A0] using q) | (intro _; trivial) | (show Region.lexB _ _ = true; kernel_rfl) | (show turnsB _ = true; kernel_rfl) | assumption | (intro _; assumption) | (intro _; rfl)) ?_
          | (refine pickL hX (t := true) (by rfl) rfl ?_; cbv)
          | (refine pickL hX (t := false) (by rfl) rfl ?_; cbv)
         refine regionL [] [] (T := fun _ => tabY [29, 38, 53, 56, 1006, 1012, 1061, 1063] []) (H := fun _ => [kn_within3 GFsPq, kn_cright GFs5, kn_applyR GFsSD, kn_lcallH GFsHz, kn_lbackH GFsHz, kn_linear GFsHl, kn_hruns GFsHr]) (B := fun _ => []) (R := fun _ => []) (A := A) (tabY_ok _ _) hH noB_ok noR_ok follows_mixed hA hX (by kernel_rfl) (by kernel_rfl) (by kernel_rfl) ?_
         cbv
         repeat first
          | (simp only [t10, t11, x14, t2, t3, ek, w0, ← hp1, e3, w2, t6, t7, t8, x11, etk, eap, es9, ez, etk9, t9, w5, w3, m0, m1, m2, m3, m4, m5, m6, q000, q001, q010, q011, q100, q101, q110, q111, f3, f4]; cbv)
          | refine And.intro (by subst hA hX hFsPq hFs5 hFsSD hFsHz hFsHl hFsHr; clear hH hB; first | exact trivial | exact rfl | (simp [A0]; done) | (intro q; exact q) | (intro q; simpa [A0] using q) | (intro _; trivial) | (show Region.lexB _ _ = true; kernel_rfl) | (show turnsB _ = true; kernel_rfl) | assumption | (intro _; assumption) | (intro _; rfl)) ?_
          | (refine pickL hX (t := true) (by rfl) rfl ?_; cbv)
          | (refine pickL hX (t := false) (by rfl) rfl ?_; cbv)
         have hms : rstep lie st y = rNew lie st y := by
          unfold rstep
          rw [hbad]
          rfl
         rw [hms] at hst9
         subst hA hR
         have wk : IntKind.wrap .i64 (i + 1) = i + 1 := wrap_i64 (by unfold r64; omega)
         replace hlt : i < r := hlt
         replace hr : r = (l.length : Int) := hr
         refine ⟨⟨i + 1, n9, at_, s9, cq9, dc9, m + 3, vo + 1⟩, ⟨⟨by show 0 ≤ i + 1; omega, by show i + 1 ≤ (l.length : Int); omega⟩, _, o9, hn9, by show at_ = (bif decide (st.n = lie) then st.n else st.at_); rw [← htl]; exact hat, by show s9 = (applyS st.s (rCmd st y)).1; rw [← hap2], hcq9, hdc9, by show _ = (st.out ++ [_, _]).length; rw [List.length_append, ← hno]; rfl, hst9⟩, by show r.toNat - (i + 1).toNat < r.toNat - i.toNat; omega, told_keep [0, 1, 2] rfl ?_ ?_⟩
         · simp [keepSt, pullBox, pullL, pullD, outB2, A0, hcq9, hdc9,  pullL_closed _ _ hs9.closed, pullL_closed _ _ hsi.closed, hcq, hdc, nums_pull, evsC_pull]
         · simp [toldP, getS, A0, wk, pullD, outV, List.idxOf?, List.findIdx?_cons]
   · have t2 : A.cmp .lss i (A.len xs) = true := by subst hA; exact decide_eq_true (by show i < (xs.length : Int); omega)
     have t3 : A.cmp .lss n 10 = false := by subst hA; exact decide_eq_false hn10
     cbv at t2 t3
     obtain ⟨la, hla⟩ : ∃ z, z = decide (st.at_ < 0) := ⟨_, rfl⟩
     have tn0 : A.cmp .lss at_ 0 = la := by rw [hla, hat]; subst hA; rfl
     have be : A.beq la la = true := by subst hA; cases la <;> rfl
     have eh : GFsHr.hruns = true := by subst hFsHr; rfl
     cbv at tn0 be eh
     rcases no with _ | m
     · have hout0 : st.out = [] := List.length_eq_zero_iff.1 hno.symm
       have el : GFsHl.linear [] = (la, true) := by subst hFsHl; show linM (evsOf []) = _; have h9 := hri.lin; rw [hout0] at h9; show linM [] = _; rw [h9, hla]
       cbv at el
       have v1 : GFsHl.isEv [] := by subst hFsHl; have h9 := hri.isEv; rw [hout0] at h9; exact h9
       cbv at v1
       cbv
       repeat first
        | (simp only [t2, t3, q000, q001, q010, q011, q100, q101, q110, q111, f3, f4]; cbv)
        | refine And.intro (by subst hA hX hFsPq hFs5 hFsSD hFsHz hFsHl hFsHr; clear hH hB; first | exact trivial | exact rfl | (simp [A0]; done) | (intro q; exact q) | (intro q; simpa [A0] using q) | (intro _; trivial) | (show Region.lexB _ _ = true; kernel_rfl) | (show turnsB _ = true; kernel_rfl) | assumption | (intro _; assumption) | (intro _; rfl)) ?_
        | (refine pickL hX (t := true) (by rfl) rfl ?_; cbv)
        | (refine pickL hX (t := false) (by rfl) rfl ?_; cbv)
       with_reducible refine goL (T := fun _ => tabY [29, 38, 53, 56, 1006, 1012, 1061, 1063] []) (H := fun _ => [kn_within3 GFsPq, kn_cright GFs5, kn_applyR GFsSD, kn_lcallH GFsHz, kn_lbackH GFsHz, kn_linear GFsHl, kn_hruns GFsHr]) (tabY_ok _ _) hH follows_mixed hA hX ?_
       cbv
       repeat first
        | (simp only [el, tn0, be, eh, q000, q001, q010, q011, q100, q101, q110, q111, f3, f4]; cbv)
        | refine And.intro (by subst hA hX hFsPq hFs5 hFsSD hFsHz hFsHl hFsHr; clear hH hB; first | exact trivial | exact rfl | (simp [A0]; done) | (intro q; exact q) | (intro q; simpa [A0] using q) | (intro _; trivial) | (show Region.lexB _ _ = true; kernel_rfl) | (show turnsB _ = true; kernel_rfl) | assumption | (intro _; assumption) | (intro _; rfl)) ?_
        | (refine pickL hX (t := true) (by rfl) rfl ?_; cbv)
        | (refine pickL hX (t := false) (by rfl) rfl ?_; cbv)
       subst hA hX hW
       exact ret_v rfl rfl
     · obtain ⟨zs, hzs⟩ : ∃ z, z = evsX st.out := ⟨_, rfl⟩
       have el : GFsHl.linear zs = (la, true) := by subst hFsHl; show linM (evsOf zs) = _; rw [hzs, evsOf_X]; rw [hri.lin, hla]
       cbv at el
       have v1 : GFsHl.isEv zs := by subst hFsHl; rw [hzs]; exact hri.isEv
       cbv at v1
       cbv
       repeat first
        | (simp only [t2, t3, q000, q001, q010, q011, q100, q101, q110, q111, f3, f4]; cbv)
        | refine And.intro (by subst hA hX hFsPq hFs5 hFsSD hFsHz hFsHl hFsHr; clear hH hB; first | exact trivial | exact rfl | (simp [A0]; done) | (intro q; exact q) | (intro q; simpa [A0] using q) | (intro _; trivial) | (show Region.lexB _ _ = true; kernel_rfl) | (show turnsB _ = true; kernel_rfl) | assumption | (intro _; assumption) | (intro _; rfl)) ?_
        | (refine pickL hX (t := true) (by rfl) rfl ?_; cbv)
        | (refine pickL hX (t := false) (by rfl) rfl ?_; cbv)
       obtain ⟨STF, hSTF⟩ : ∃ z, z = fzSt 2 14 zs [⟨32, s, false, 0, true⟩, ⟨77, cq, false, 0, true⟩, ⟨50, dc, true, vo, true⟩] := ⟨_, rfl⟩
       refine pauseL hX (s' := [(5, .d (.slc 14 zs)), (9, .d (.sc (.int .i64 at_)))]) (st' := STF) (told_freeze2 2 14 zs ⟨50, dc, true, vo, true⟩ rfl rfl (by rw [hdc, hzs]; exact evsC_rows _) (by rw [hzs]; exact evsX_sz _) hSTF (by simp [toldP, getS, fzD, hzs, evsX_len, hno])) ?_
       clear hSTF
       with_reducible refine goL (T := fun _ => tabY [29, 38, 53, 56, 1006, 1012, 1061, 1063] []) (H := fun _ => [kn_within3 GFsPq, kn_cright GFs5, kn_applyR GFsSD, kn_lcallH GFsHz, kn_lbackH GFsHz, kn_linear GFsHl, kn_hruns GFsHr]) (tabY_ok _ _) hH follows_mixed hA hX ?_
       cbv
       repeat first
        | (simp only [el, tn0, be, eh, q000, q001, q010, q011, q100, q101, q110, q111, f3, f4]; cbv)
        | refine And.intro (by subst hA hX hFsPq hFs5 hFsSD hFsHz hFsHl hFsHr; clear hH hB; first | exact trivial | exact rfl | (simp [A0]; done) | (intro q; exact q) | (intro q; simpa [A0] using q) | (intro _; trivial) | (show Region.lexB _ _ = true; kernel_rfl) | (show turnsB _ = true; kernel_rfl) | assumption | (intro _; assumption) | (intro _; rfl)) ?_
        | (refine pickL hX (t := true) (by rfl) rfl ?_; cbv)
        | (refine pickL hX (t := false) (by rfl) rfl ?_; cbv)
       subst hA hX hW
       exact ret_v rfl rfl
 · have t2 : A.cmp .lss i (A.len xs) = false := by subst hA; exact decide_eq_false (by show ¬ i < (xs.length : Int); omega)
   have t3 : A.cond false (A.cmp .lss n 10) false = false := by subst hA; rfl
   cbv at t2 t3
   obtain ⟨la, hla⟩ : ∃ z, z = decide (st.at_ < 0) := ⟨_, rfl⟩
   have tn0 : A.cmp .lss at_ 0 = la := by rw [hla, hat]; subst hA; rfl
   have be : A.beq la la = true := by subst hA; cases la <;> rfl
   have eh : GFsHr.hruns = true := by subst hFsHr; rfl
   cbv at tn0 be eh
   rcases no with _ | m
   · have hout0 : st.out = [] := List.length_eq_zero_iff.1 hno.symm
     have el : GFsHl.linear [] = (la, true) := by subst hFsHl; show linM (evsOf []) = _; have h9 := hri.lin; rw [hout0] at h9; show linM [] = _; rw [h9, hla]
     cbv at el
     have v1 : GFsHl.isEv [] := by subst hFsHl; have h9 := hri.isEv; rw [hout0] at h9; exact h9
     cbv at v1
     cbv
     repeat first
      | (simp only [t2, t3, q000, q001, q010, q011, q100, q101, q110, q111, f3, f4]; cbv)
      | refine And.intro (by subst hA hX hFsPq hFs5 hFsSD hFsHz hFsHl hFsHr; clear hH hB; first | exact trivial | exact rfl | (simp [A0]; done) | (intro q; exact q) | (intro q; simpa [A0] using q) | (intro _; trivial) | (show Region.lexB _ _ = true; kernel_rfl) | (show turnsB _ = true; kernel_rfl) | assumption | (intro _; assumption) | (intro _; rfl)) ?_
      | (refine pickL hX (t := true) (by rfl) rfl ?_; cbv)
      | (refine pickL hX (t := false) (by rfl) rfl ?_; cbv)
     with_reducible refine goL (T := fun _ => tabY [29, 38, 53, 56, 1006, 1012, 1061, 1063] []) (H := fun _ => [kn_within3 GFsPq, kn_cright GFs5, kn_applyR GFsSD, kn_lcallH GFsHz, kn_lbackH GFsHz, kn_linear GFsHl, kn_hruns GFsHr]) (tabY_ok _ _) hH follows_mixed hA hX ?_
     cbv
     repeat first
      | (simp only [el, tn0, be, eh, q000, q001, q010, q011, q100, q101, q110, q111, f3, f4]; cbv)
      | refine And.intro (by subst hA hX hFsPq hFs5 hFsSD hFsHz hFsHl hFsHr; clear hH hB; first | exact trivial | exact rfl | (simp [A0]; done) | (intro q; exact q) | (intro q; simpa [A0] using q) | (intro _; trivial) | (show Region.lexB _ _ = true; kernel_rfl) | (show turnsB _ = true; kernel_rfl) | assumption | (intro _; assumption) | (intro _; rfl)) ?_
      | (refine pickL hX (t := true) (by rfl) rfl ?_; cbv)
      | (refine pickL hX (t := false) (by rfl) rfl ?_; cbv)
     subst hA hX hW
     exact ret_v rfl rfl
   · obtain ⟨zs, hzs⟩ : ∃ z, z = evsX st.out := ⟨_, rfl⟩
     have el : GFsHl.linear zs = (la, true) := by subst hFsHl; show linM (evsOf zs) = _; rw [hzs, evsOf_X]; rw [hri.lin, hla]
     cbv at el
     have v1 : GFsHl.isEv zs := by subst hFsHl; rw [hzs]; exact hri.isEv
     cbv at v1
     cbv
     repeat first
      | (simp only [t2, t3, q000, q001, q010, q011, q100, q101, q110, q111, f3, f4]; cbv)
      | refine And.intro (by subst hA hX hFsPq hFs5 hFsSD hFsHz hFsHl hFsHr; clear hH hB; first | exact trivial | exact rfl | (simp [A0]; done) | (intro q; exact q) | (intro q; simpa [A0] using q) | (intro _; trivial) | (show Region.lexB _ _ = true; kernel_rfl) | (show turnsB _ = true; kernel_rfl) | assumption | (intro _; assumption) | (intro _; rfl)) ?_
      | (refine pickL hX (t := true) (by rfl) rfl ?_; cbv)
      | (refine pickL hX (t := false) (by rfl) rfl ?_; cbv)
     obtain ⟨STF, hSTF⟩ : ∃ z, z = fzSt 2 14 zs [⟨32, s, false, 0, true⟩, ⟨77, cq, false, 0, true⟩, ⟨50, dc, true, vo, true⟩] := ⟨_, rfl⟩
     refine pauseL hX (s' := [(5, .d (.slc 14 zs)), (9, .d (.sc (.int .i64 at_)))]) (st' := STF) (told_freeze2 2 14 zs ⟨50, dc, true, vo, true⟩ rfl rfl (by rw [hdc, hzs]; exact evsC_rows _) (by rw [hzs]; exact evsX_sz _) hSTF (by simp [toldP, getS, fzD, hzs, evsX_len, hno])) ?_
     clear hSTF
     with_reducible refine goL (T := fun _ => tabY [29, 38, 53, 56, 1006, 1012, 1061, 1063] []) (H := fun _ => [kn_within3 GFsPq, kn_cright GFs5, kn_applyR GFsSD, kn_lcallH GFsHz, kn_lbackH GFsHz, kn_linear GFsHl, kn_hruns GFsHr]) (tabY_ok _ _) hH follows_mixed hA hX ?_
     cbv
     repeat first
      | (simp only [el, tn0, be, eh, q000, q001, q010, q011, q100, q101, q110, q111, f3, f4]; cbv)
      | refine And.intro (by subst hA hX hFsPq hFs5 hFsSD hFsHz hFsHl hFsHr; clear hH hB; first | exact trivial | exact rfl | (simp [A0]; done) | (intro q; exact q) | (intro q; simpa [A0] using q) | (intro _; trivial) | (show Region.lexB _ _ = true; kernel_rfl) | (show turnsB _ = true; kernel_rfl) | assumption | (intro _; assumption) | (intro _; rfl)) ?_
      | (refine pickL hX (t := true) (by rfl) rfl ?_; cbv)
      | (refine pickL hX (t := false) (by rfl) rfl ?_; cbv)
     subst hA hX hW
     exact ret_v rfl rfl
end Go.Proofs.Ytadnpgkddgbhkaa
