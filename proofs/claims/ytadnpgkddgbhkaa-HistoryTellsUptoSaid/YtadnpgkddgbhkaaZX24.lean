/- Histories: the calls of a history, plain. No condition. -/
import Derived.Test.YtadnpgkddgbhkaaZX23
namespace Go.Proofs.Ytadnpgkddgbhkaa
open Go.RowKit Go.Maps
set_option linter.all false
set_option maxHeartbeats 4000000
def opnB (c : Int) (e : Ev) : Bool := decide (e.b < 0) && decide (e.c.client = c)
def openF (c : Int) : List Ev → Int → Int → Int
 | [], _, r => r
 | e :: l, k, r => openF c l (k + 1) (bif opnB c e then k else r)
def openX (c : Int) (l : List Ev) : Int := openF c l 0 (-1)
def evNew (i : Int) (e : Ev) : Ev := ⟨i, -1, e.c, zeroRep⟩
def evBack (i : Int) (e o : Ev) : Ev := ⟨o.a, i, o.c, e.r⟩
def evCall (k : Int) (e : Ev) : Bool := decide (k < 0) && (decide (e.a = 1) && (rightC e.c && (!decide (e.c.kind = 0) && decide (e.c.client = e.b))))
def evRet (k : Int) (e o : Ev) : Bool := decide (0 ≤ k) && (decide (e.a = 2) && decide (o.c = e.c))
def evStep (i : Int) (out : List Ev) (e : Ev) : Option (List Ev) :=
 bif evCall (openX e.b out) e then some (out ++ [evNew i e])
 else bif evRet (openX e.b out) e (out.getD (openX e.b out).toNat default) then some (out.set (openX e.b out).toNat (evBack i e (out.getD (openX e.b out).toNat default)))
 else none
def opsF : List Ev → Int → List Ev → Option (List Ev)
 | [], _, out => some out
 | e :: l, i, out => (evStep i out e).bind fun o => opsF l (i + 1) o
def opsM (l : List Ev) : Option (List Ev) := opsF l 0 []
theorem openF_app (c : Int) (e : Ev) : ∀ (l : List Ev) (k r : Int), openF c (l ++ [e]) k r = bif opnB c e then k + l.length else openF c l k r
 | [], k, r => by simp [openF]
 | x :: l, k, r => by
     rw [List.cons_append, openF, openF_app c e l (k + 1) _, openF]
     cases opnB c e
     ·rfl
     ·simp; omega
def uniqO (l : List Ev) : Prop := ∀ (i j : Nat) (x y : Ev), l[i]? = some x → l[j]? = some y → x.b < 0 → y.b < 0 → x.c.client = y.c.client → i = j
theorem openF_spec (c : Int) : ∀ (l : List Ev) (k r : Int), (openF c l k r = r ∧ ∀ e ∈ l, opnB c e = false) ∨ ∃ (i : Nat) (e : Ev), l[i]? = some e ∧ opnB c e = true ∧ openF c l k r = k + i
 | [], k, r => .inl ⟨rfl, fun e he => by cases he⟩
 | x :: l, k, r => by
     rw [openF]
     rcases openF_spec c l (k + 1) (bif opnB c x then k else r) with ⟨h1, h2⟩ | ⟨i, e, h1, h2, h3⟩
     ·cases hx : opnB c x with
      | false =>
        rw [hx] at h1
        refine .inl ⟨h1, fun e he => ?_⟩
        rcases List.mem_cons.1 he with rfl | he
        ·exact hx
        ·exact h2 e he
      | true =>
        rw [hx] at h1
        exact .inr ⟨0, x, rfl, hx, by rw [h1]; simp⟩
     ·exact .inr ⟨i + 1, e, h1, h2, by rw [h3]; omega⟩
theorem opnB_iff {c : Int} {e : Ev} : opnB c e = true ↔ e.b < 0 ∧ e.c.client = c := by simp [opnB]
theorem openX_spec (c : Int) (l : List Ev) : (openX c l = -1 ∧ ∀ e ∈ l, opnB c e = false) ∨ ∃ (i : Nat) (e : Ev), l[i]? = some e ∧ opnB c e = true ∧ openX c l = i := by
 rcases openF_spec c l 0 (-1) with h | ⟨i, e, h1, h2, h3⟩
 ·exact .inl h
 ·exact .inr ⟨i, e, h1, h2, by unfold openX; omega⟩
theorem openX_get {c : Int} {l : List Ev} (h : 0 ≤ openX c l) : ∃ e, l[(openX c l).toNat]? = some e ∧ opnB c e = true := by
 rcases openX_spec c l with ⟨h1, _⟩ | ⟨i, e, h1, h2, h3⟩
 ·omega
 ·exact ⟨e, by rw [h3]; exact h1, h2⟩
theorem openX_lt {c : Int} {l : List Ev} (h : 0 ≤ openX c l) : openX c l < l.length := by
 obtain ⟨e, h1, _⟩ := openX_get h
 have := (List.getElem?_eq_some_iff.1 h1).1
 omega
theorem openX_ge (c : Int) (l : List Ev) : -1 ≤ openX c l := by
 rcases openX_spec c l with ⟨h1, _⟩ | ⟨i, e, h1, h2, h3⟩ <;> omega
theorem openX_at {c : Int} {l : List Ev} (hu : uniqO l) {i : Nat} {e : Ev} (h : l[i]? = some e) (ho : opnB c e = true) : openX c l = i := by
 rcases openX_spec c l with ⟨_, h2⟩ | ⟨j, y, h1, h2, h3⟩
 ·rw [h2 e (List.mem_of_getElem? h)] at ho; cases ho
 ·rw [opnB_iff] at ho h2
  rw [h3, hu i j e y h h1 ho.1 h2.1 (by rw [ho.2, h2.2])]
theorem openX_no {c : Int} {l : List Ev} (h : ∀ e ∈ l, opnB c e = false) : openX c l = -1 := by
 rcases openX_spec c l with ⟨h1, _⟩ | ⟨i, e, h1, h2, h3⟩
 ·exact h1
 ·rw [h e (List.mem_of_getElem? h1)] at h2; cases h2
theorem openX_app (c : Int) (l : List Ev) (e : Ev) : openX c (l ++ [e]) = bif opnB c e then (l.length : Int) else openX c l := by
 unfold openX
 rw [openF_app]
 cases opnB c e <;> simp
theorem openX_set {c q : Int} {l : List Ev} (hu : uniqO l) {k : Nat} {o y : Ev} (ho : l[k]? = some o) (hq : opnB q o = true) (hy : 0 ≤ y.b) : openX c (l.set k y) = if c = q then -1 else openX c l := by
 have hk := (List.getElem?_eq_some_iff.1 ho).1
 have hyo : ∀ c, opnB c y = false := fun c => by simp [opnB]; omega
 rw [opnB_iff] at hq
 by_cases hc : c = q
 ·rw [if_pos hc]
  subst hc
  refine openX_no fun e he => ?_
  obtain ⟨j, hj, hje⟩ := List.getElem_of_mem he
  cases hb : opnB c e with
  | false => rfl
  | true =>
    have hje : (l.set k y)[j]? = some e := by rw [← hje]; exact List.getElem?_eq_getElem hj
    rw [List.getElem?_set] at hje
    split at hje
    ·rename_i hkj
     subst hkj
     simp [hk] at hje
     rw [← hje, hyo] at hb; cases hb
    ·rename_i hkj
     rw [opnB_iff] at hb
     exact absurd (hu k j o e ho hje hq.1 hb.1 (by rw [hq.2, hb.2])) hkj
 ·rw [if_neg hc]
  rcases openX_spec c l with ⟨h1, h2⟩ | ⟨i, e, h1, h2, h3⟩
  ·rw [h1]
   refine openX_no fun e he => ?_
   rcases List.mem_or_eq_of_mem_set he with he | rfl
   ·exact h2 e he
   ·exact hyo c
  ·rw [h3]
   have h2' := opnB_iff.1 h2
   have hki : k ≠ i := by
    rintro rfl
    rw [ho, Option.some.injEq] at h1
    subst h1
    exact hc (h2'.2.symm.trans hq.2)
   have hu2 : uniqO (l.set k y) := by
    intro i j x z hx hz bx bz hcl
    rw [List.getElem?_set] at hx hz
    split at hx
    ·rename_i e1; subst e1
     simp [hk] at hx; subst hx; omega
    ·split at hz
     ·rename_i e1; subst e1
      simp [hk] at hz; subst hz; omega
     ·exact hu i j x z hx hz bx bz hcl
   exact openX_at hu2 (i := i) (e := e) (by rw [List.getElem?_set_ne hki]; exact h1) h2
theorem uniqO.set {l : List Ev} (hu : uniqO l) {k : Nat} {y : Ev} (hy : 0 ≤ y.b) : uniqO (l.set k y) := by
 intro i j x z hx hz bx bz hcl
 by_cases hk : k < l.length
 ·rw [List.getElem?_set] at hx hz
  split at hx
  ·rename_i e1; subst e1
   simp [hk] at hx; subst hx; omega
  ·split at hz
   ·rename_i e1; subst e1
    simp [hk] at hz; subst hz; omega
   ·exact hu i j x z hx hz bx bz hcl
 ·rw [List.set_eq_of_length_le (by omega)] at hx hz
  exact hu i j x z hx hz bx bz hcl
theorem uniqO.app {l : List Ev} (hu : uniqO l) {e : Ev} (he : openX e.c.client l = -1) : uniqO (l ++ [e]) := by
 have hno : ∀ x ∈ l, opnB e.c.client x = false := by
  rcases openX_spec e.c.client l with ⟨_, h2⟩ | ⟨i, _, _, _, h3⟩
  ·exact h2
  ·omega
 have hlt : ∀ (i : Nat) (x : Ev), (l ++ [e])[i]? = some x → l[i]? = some x ∨ (i = l.length ∧ x = e) := by
  intro i x h
  rw [List.getElem?_append] at h
  split at h
  ·exact .inl h
  ·rename_i hi
   have : i - l.length = 0 := by
    rcases Nat.eq_zero_or_pos (i - l.length) with h0 | h0
    ·exact h0
    ·rw [List.getElem?_eq_none (by simp; omega)] at h; cases h
   rw [this] at h
   simp at h
   exact .inr ⟨by omega, h.symm⟩
 intro i j x y hx hy bx bz hc
 rcases hlt i x hx with h1 | ⟨h1, rfl⟩ <;> rcases hlt j y hy with h2 | ⟨h2, rfl⟩
 ·exact hu i j x y h1 h2 bx bz hc
 ·have := hno x (List.mem_of_getElem? h1)
  rw [← Bool.not_eq_true, opnB_iff] at this
  exact absurd ⟨bx, hc⟩ this
 ·have := hno y (List.mem_of_getElem? h2)
  rw [← Bool.not_eq_true, opnB_iff] at this
  exact absurd ⟨bz, hc.symm⟩ this
 ·omega
structure OpsOk (i : Int) (out : List Ev) : Prop where
 u : uniqO out
 len : (out.length : Int) ≤ i
 ev : ∀ e ∈ out, 0 ≤ e.a ∧ e.a < i ∧ -1 ≤ e.b ∧ e.b < i ∧ rightC e.c = true ∧ e.c.kind ≠ 0 ∧ isP e.r.pairs
theorem OpsOk.nil : OpsOk 0 [] := ⟨fun i j x y h => by simp at h, Int.le_refl _, fun e he => by cases he⟩
theorem evStep_cases {i : Int} {out : List Ev} {e : Ev} {o : List Ev} (h : evStep i out e = some o) : (openX e.b out = -1 ∧ e.a = 1 ∧ rightC e.c = true ∧ e.c.kind ≠ 0 ∧ e.c.client = e.b ∧ o = out ++ [evNew i e]) ∨ (0 ≤ openX e.b out ∧ e.a = 2 ∧ ∃ y, out[(openX e.b out).toNat]? = some y ∧ opnB e.b y = true ∧ y.c = e.c ∧ o = out.set (openX e.b out).toNat (evBack i e y)) := by
 unfold evStep at h
 have hg := openX_ge e.b out
 cases h1 : evCall (openX e.b out) e with
 | true =>
   rw [h1, cond_true, Option.some.injEq] at h
   simp only [evCall, Bool.and_eq_true, decide_eq_true_eq, Bool.not_eq_true', decide_eq_false_iff_not] at h1
   exact .inl ⟨by omega, h1.2.1, h1.2.2.1, h1.2.2.2.1, h1.2.2.2.2, h.symm⟩
 | false =>
   rw [h1, cond_false] at h
   cases h2 : evRet (openX e.b out) e (out.getD (openX e.b out).toNat default) with
   | false => rw [h2, cond_false] at h; cases h
   | true =>
     rw [h2, cond_true, Option.some.injEq] at h
     simp only [evRet, Bool.and_eq_true, decide_eq_true_eq] at h2
     obtain ⟨y, hy, hyo⟩ := openX_get h2.1
     have e1 : out.getD (openX e.b out).toNat default = y := by rw [List.getD_eq_getElem?_getD, hy]; rfl
     rw [e1] at h h2
     exact .inr ⟨h2.1, h2.2.1, y, hy, hyo, h2.2.2, h.symm⟩
theorem OpsOk.step {i : Int} {out o : List Ev} {e : Ev} (hi : 0 ≤ i) (h : OpsOk i out) (he : isP e.r.pairs) (hs : evStep i out e = some o) : OpsOk (i + 1) o := by
 rcases evStep_cases hs with ⟨h1, h2, h3, h4, h5, rfl⟩ | ⟨h1, h2, y, h3, h4, h5, rfl⟩
 ·refine ⟨h.u.app (by show openX e.c.client out = -1; rw [h5]; exact h1), by rw [List.length_append]; have := h.len; simp; omega, fun x hx => ?_⟩
  rcases List.mem_append.1 hx with hx | hx
  ·have := h.ev x hx
   exact ⟨this.1, by omega, this.2.2.1, by omega, this.2.2.2.2⟩
  ·rw [List.mem_singleton] at hx
   subst hx
   exact ⟨hi, by show i < i + 1; omega, by show -1 ≤ (-1 : Int); omega, by show (-1 : Int) < i + 1; omega, h3, h4, isP.nil⟩
 ·refine ⟨h.u.set (by show 0 ≤ i; exact hi), by rw [List.length_set]; have := h.len; omega, fun x hx => ?_⟩
  rcases List.mem_or_eq_of_mem_set hx with hx | rfl
  ·have := h.ev x hx
   exact ⟨this.1, by omega, this.2.2.1, by omega, this.2.2.2.2⟩
  ·have := h.ev y (List.mem_of_getElem? h3)
   exact ⟨this.1, by show y.a < i + 1; omega, by show -1 ≤ i; omega, by show i < i + 1; omega, this.2.2.2.2.1, this.2.2.2.2.2.1, he⟩
theorem opsF_ok : ∀ (l : List Ev) (i : Int) (out o : List Ev), 0 ≤ i → OpsOk i out → (∀ e ∈ l, isP e.r.pairs) → opsF l i out = some o → OpsOk (i + l.length) o
 | [], i, out, o, h0, h, hl, hs => by
     simp only [opsF, Option.some.injEq] at hs
     subst hs
     simpa using h
 | e :: l, i, out, o, h0, h, hl, hs => by
     rw [opsF] at hs
     cases h1 : evStep i out e with
     | none => rw [h1] at hs; cases hs
     | some o1 =>
       rw [h1] at hs
       have := opsF_ok l (i + 1) o1 o (by omega) (h.step h0 (hl e (by simp)) h1) (fun x hx => hl x (by simp [hx])) hs
       simp only [List.length_cons]
       rw [show i + ((l.length + 1 : Nat) : Int) = i + 1 + (l.length : Int) by omega]
       exact this
def opnM (out : List Ev) (G : MapF) : Prop := ∀ c : Int, (match G (.int .i64 c) with | some (.int _ n) => n | _ => 0) = openX c out + 1
theorem opnM.nil : opnM [] (fun _ => none) := fun c => rfl
theorem opnM.put {out o : List Ev} {G : MapF} (h : opnM out G) {q m : Int} (hm : openX q o + 1 = m) (hc : ∀ c, c ≠ q → openX c o = openX c out) : opnM o (putV G (.int .i64 q) (.int .i64 m)) := by
 intro c
 by_cases hcq : c = q
 ·subst hcq
  have e : putV G (.int .i64 c) (.int .i64 m) (.int .i64 c) = some (.int .i64 m) := by simp [putV]
  rw [e, hm]
 ·have e : putV G (.int .i64 q) (.int .i64 m) (.int .i64 c) = G (.int .i64 c) := by
   unfold putV
   rw [if_neg]
   intro h
   simp only [Value.int.injEq] at h
   exact hcq h.2
  rw [e, h c, hc c hcq]
theorem opnM.call {i : Int} {out : List Ev} {G : MapF} (h : opnM out G) {e : Ev} (he : e.c.client = e.b) : opnM (out ++ [evNew i e]) (putV G (.int .i64 e.b) (.int .i64 (out.length + 1))) := by
 refine h.put ?_ fun c hc => ?_
 ·rw [openX_app]
  have : opnB e.b (evNew i e) = true := opnB_iff.2 ⟨by show (-1 : Int) < 0; omega, he⟩
  rw [this]; rfl
 ·rw [openX_app]
  have : opnB c (evNew i e) = false := by
   rw [← Bool.not_eq_true, opnB_iff]
   rintro ⟨_, h2⟩
   exact hc (h2.symm.trans he)
  rw [this]; rfl
theorem opnM.back {i : Int} {out : List Ev} {G : MapF} (h : opnM out G) (hu : uniqO out) (hi : 0 ≤ i) {e y : Ev} {k : Nat} (hk : out[k]? = some y) (hy : opnB e.b y = true) : opnM (out.set k (evBack i e y)) (putV G (.int .i64 e.b) (.int .i64 0)) := by
 have key := fun c => openX_set (c := c) (y := evBack i e y) hu hk hy hi
 refine h.put ?_ fun c hc => ?_
 ·rw [key, if_pos rfl]; rfl
 ·rw [key, if_neg hc]
end Go.Proofs.Ytadnpgkddgbhkaa
