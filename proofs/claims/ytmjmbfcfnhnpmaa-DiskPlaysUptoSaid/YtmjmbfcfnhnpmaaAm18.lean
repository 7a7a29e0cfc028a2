/- The program logic, eighteenth part: a body evaluated at one go, and what the evaluation unfolds. No condition: lemmas of any program. -/
import Derived.Test.YtmjmbfcfnhnpmaaAm17
namespace Go.Proofs.Ytmjmbfcfnhnpmaa
open Go.RowKit
set_option linter.all false
def turnE (A X : DV → Store → Prop) : Prop := ∃ d st, A d st ∧ X d st
theorem turnE_eq (v : DV) (w : Store) (X : DV → Store → Prop) : turnE (fun d st => d = v ∧ st = w) X ↔ X v w := ⟨fun ⟨_, _, ⟨e, g⟩, h⟩ => e ▸ g ▸ h, fun h => ⟨v, w, ⟨rfl, rfl⟩, h⟩⟩
theorem turnE_and (c : Prop) (A X : DV → Store → Prop) : turnE (fun d st => c ∧ A d st) X ↔ c ∧ turnE A X := ⟨fun ⟨d, st, ⟨h1, h2⟩, h3⟩ => ⟨h1, d, st, h2, h3⟩, fun ⟨h1, d, st, h2, h3⟩ => ⟨d, st, ⟨h1, h2⟩, h3⟩⟩
/-- What was yielded is yielded with these boxes, too. -/
def staysE (P : Program) (H : Known) (st : Store) : List (Op × Slots × DV) → Prop
  | [] => True
  | (o, s, d) :: l => (∀ K : DV → Store → Prop, K d st → opE P H o s st K) ∧ staysE P H st l
def stoodE (P : Program) (H : Known) (o : Op) (s : Slots) (d : DV) : List Store → Prop
  | [] => True
  | st :: l => (∀ K : DV → Store → Prop, K d st → opE P H o s st K) ∧ stoodE P H o s d l
abbrev After := DV → Store → List Store → List (Op × Slots × DV) → Prop
def mixRun (P : Program) (H : Known) (o : Op) (s : Slots) (st : Store) (olds : List Store) (done : List (Op × Slots × DV)) (X : After) : Prop :=
  if turns o = true then turnE (fun d st1 => ∀ K : DV → Store → Prop, K d st1 → opE P H o s st K) fun d st1 => staysE P H st1 done ∧ X d st1 (st :: olds) done
  else yieldE (fun d => ∀ K : DV → Store → Prop, K d st → opE P H o s st K) fun d => stoodE P H o s d olds ∧ X d st olds ((o, s, d) :: done)
def mixSkip (P : Program) (H : Known) (o : Op) (st : Store) (olds : List Store) (done : List (Op × Slots × DV)) (X : After) : Prop :=
  if turns o = true then staysE P H st done ∧ X (.d (.sc (.tuple #[]))) st (st :: olds) done else X (.d (.sc (.tuple #[]))) st olds done
/-- A region in any order. -/
def mixG (P : Program) (H : Known) (N : Nat) (ops : Array Oper) (Q : Slots → Store → Prop) : List Oper → Slots → Store → List Store → List (Op × Slots × DV) → Prop
  | [], s, st, _, _ => Q s st
  | o :: rest, s, st, olds, done => dstOk N o.dst ∧ match o.guard with
    | none => mixRun P H o.op s st olds done fun d st1 olds1 done1 => mixG P H N ops Q rest (putS o.dst d s) st1 olds1 done1
    | some (j, w) => match slotOf ops j with
      | none => mixSkip P H o.op st olds done fun d st1 olds1 done1 => mixG P H N ops Q rest (putS o.dst d s) st1 olds1 done1
      | some k => match s k with
        | .d (.sc (.bool t)) => if t = w then mixRun P H o.op (upd s k (.d (.sc (.bool w)))) st olds done fun d st1 olds1 done1 => mixG P H N ops Q rest (putS o.dst d (upd s k (.d (.sc (.bool w))))) st1 olds1 done1
            else mixSkip P H o.op st olds done fun d st1 olds1 done1 => mixG P H N ops Q rest (putS o.dst d (upd s k (.d (.sc (.bool (!w)))))) st1 olds1 done1
        | .d (.sc (.tuple _)) => mixSkip P H o.op st olds done fun d st1 olds1 done1 => mixG P H N ops Q rest (putS o.dst d s) st1 olds1 done1
        | _ => False
def rowSt (olds : List Store) (st : Store) (later : List Store) (q : Nat) : Store := (olds.reverse ++ st :: later).getD q []
theorem rowSt_at (olds : List Store) (st : Store) (later : List Store) : rowSt olds st later olds.length = st := by simp [rowSt]
theorem rowSt_next (olds : List Store) (st st1 : Store) (later : List Store) : rowSt olds st (st1 :: later) = rowSt (st :: olds) st1 later := by
  funext q
  simp [rowSt]
theorem rowSt_mem (olds : List Store) (st : Store) (later : List Store) (q : Nat) (hq : q ≤ olds.length + later.length) : rowSt olds st later q ∈ olds ∨ rowSt olds st later q = st ∨ rowSt olds st later q ∈ later := by
  have hlt : q < (olds.reverse ++ st :: later).length := by simp; omega
  have : rowSt olds st later q ∈ olds.reverse ++ st :: later := by
    unfold rowSt
    rw [List.getD_eq_getElem?_getD, List.getElem?_eq_getElem hlt]
    exact List.getElem_mem hlt
  simpa using this
theorem staysE_mem {P : Program} {H : Known} (hH : Sound P H) {st : Store} : ∀ {l : List (Op × Slots × DV)}, staysE P H st l → ∀ p ∈ l, ∀ K : DV → Store → Prop, K p.2.2 st → opD P p.1 p.2.1 st K
  | [], _, p, hp, _, _ => by cases hp
  | q :: l, h, p, hp, K, hK => by
      rcases List.mem_cons.1 hp with rfl | hp
      · exact opE_ok hH (h.1 K hK)
      · exact staysE_mem hH h.2 p hp K hK
theorem stoodE_mem {P : Program} {H : Known} (hH : Sound P H) {o : Op} {s : Slots} {d : DV} : ∀ {l : List Store}, stoodE P H o s d l → ∀ st ∈ l, ∀ K : DV → Store → Prop, K d st → opD P o s st K
  | [], _, p, hp, _, _ => by cases hp
  | q :: l, h, p, hp, K, hK => by
      rcases List.mem_cons.1 hp with rfl | hp
      · exact opE_ok hH (h.1 K hK)
      · exact stoodE_mem hH h.2 p hp K hK
section mix
variable {P : Program} {H : Known} (hH : Sound P H) {N : Nat} {ops : Array Oper} {Q : Slots → Store → Prop}
/-- What the evaluation shows. -/
def MixOk (P : Program) (N : Nat) (ops : Array Oper) (Q : Slots → Store → Prop) (l : List Oper) (s : Slots) (st : Store) (olds : List Store) (done : List (Op × Slots × DV)) : Prop :=
  ∃ later : List Store, lexS P N ops (rowSt olds st later) (olds.length + later.length) (fun s' => Q s' (rowSt olds st later (olds.length + later.length))) l s olds.length ∧ ∀ p ∈ done, ∀ st' ∈ later, ∀ K : DV → Store → Prop, K p.2.2 st' → opD P p.1 p.2.1 st' K
include hH
theorem mixRun_ok {o : Oper} {rest : List Oper} {s : Slots} {st : Store} {olds : List Store} {done : List (Op × Slots × DV)} (hd : dstOk N o.dst) (hw : wantedD ops o.guard s = some true) {X : After}
    (h : mixRun P H o.op s st olds done X) (ih : ∀ d st1 olds1 done1, X d st1 olds1 done1 → MixOk P N ops Q rest (putS o.dst d s) st1 olds1 done1) : MixOk P N ops Q (o :: rest) s st olds done := by
  unfold mixRun at h
  split at h
  · rename_i ht
    obtain ⟨d, st1, h1, h2, h3⟩ := h
    obtain ⟨later, g1, g2⟩ := ih _ _ _ _ h3
    have hl : olds.length + (st1 :: later).length = (st :: olds).length + later.length := by simp; omega
    refine ⟨st1 :: later, ⟨d, olds.length + 1, ?_, hd, ?_⟩, ?_⟩
    · unfold StepS
      rw [if_pos ht]
      refine ⟨?_, rfl, by simp⟩
      rw [rowSt_at, rowSt_next, show olds.length + 1 = (st :: olds).length from rfl, rowSt_at]
      exact .inl ⟨hw, fun K hK => opE_ok hH (h1 K hK)⟩
    · rw [rowSt_next, hl]
      exact g1
    · intro p hp st' hst'
      rcases List.mem_cons.1 hst' with rfl | hst'
      · exact staysE_mem hH h2 p hp
      · exact g2 p hp st' hst'
  · rename_i ht
    obtain ⟨d, h1, h2, h3⟩ := h
    obtain ⟨later, g1, g2⟩ := ih _ _ _ _ h3
    refine ⟨later, ⟨d, olds.length, ?_, hd, g1⟩, fun p hp => g2 p (List.mem_cons_of_mem _ hp)⟩
    unfold StepS
    rw [if_neg ht]
    refine ⟨fun q hq => .inl ⟨hw, ?_⟩, rfl⟩
    rcases rowSt_mem olds st later q hq with e | e | e
    · exact stoodE_mem hH h2 _ e
    · rw [e]; exact fun K hK => opE_ok hH (h1 K hK)
    · exact g2 (o.op, s, d) (List.mem_cons_self ..) _ e
theorem mixSkip_ok {o : Oper} {rest : List Oper} {s : Slots} {st : Store} {olds : List Store} {done : List (Op × Slots × DV)} (hd : dstOk N o.dst) (hw : wantedD ops o.guard s = some false) {X : After}
    (h : mixSkip P H o.op st olds done X) (ih : ∀ d st1 olds1 done1, X d st1 olds1 done1 → MixOk P N ops Q rest (putS o.dst d s) st1 olds1 done1) : MixOk P N ops Q (o :: rest) s st olds done := by
  unfold mixSkip at h
  split at h
  · rename_i ht
    obtain ⟨h2, h3⟩ := h
    obtain ⟨later, g1, g2⟩ := ih _ _ _ _ h3
    have hl : olds.length + (st :: later).length = (st :: olds).length + later.length := by simp; omega
    refine ⟨st :: later, ⟨.d (.sc (.tuple #[])), olds.length + 1, ?_, hd, ?_⟩, ?_⟩
    · unfold StepS
      rw [if_pos ht]
      refine ⟨.inr ⟨hw, rfl, ?_⟩, rfl, by simp⟩
      rw [rowSt_at, rowSt_next, show olds.length + 1 = (st :: olds).length from rfl, rowSt_at]
    · rw [rowSt_next, hl]
      exact g1
    · intro p hp st' hst'
      rcases List.mem_cons.1 hst' with rfl | hst'
      · exact staysE_mem hH h2 p hp
      · exact g2 p hp st' hst'
  · rename_i ht
    obtain ⟨later, g1, g2⟩ := ih _ _ _ _ h
    refine ⟨later, ⟨.d (.sc (.tuple #[])), olds.length, ?_, hd, g1⟩, g2⟩
    unfold StepS
    rw [if_neg ht]
    exact ⟨fun q hq => .inr ⟨hw, rfl, rfl⟩, rfl⟩
theorem mixG_ok : ∀ (l : List Oper) (s : Slots) (st : Store) (olds : List Store) (done : List (Op × Slots × DV)), mixG P H N ops Q l s st olds done → MixOk P N ops Q l s st olds done
  | [], s, st, olds, done, h => ⟨[], ⟨rfl, by rw [show olds.length + ([] : List Store).length = olds.length from rfl, rowSt_at]; exact h⟩, fun _ _ _ h => by cases h⟩
  | o :: rest, s, st, olds, done, h => by
      obtain ⟨hd, h⟩ := h
      split at h
      · rename_i hg
        exact mixRun_ok hH hd (by rw [hg]; rfl) h fun _ _ _ _ => mixG_ok rest _ _ _ _
      · rename_i j w hg
        split at h
        · rename_i hk
          exact mixSkip_ok hH hd (by rw [hg]; simp only [wantedD, hk]) h fun _ _ _ _ => mixG_ok rest _ _ _ _
        · rename_i k hk
          split at h
          · rename_i t ht
            by_cases hw : t = w
            · subst hw
              rw [if_pos rfl, upd_self ht] at h
              exact mixRun_ok hH hd (by rw [hg]; simp only [wantedD, hk, ht, BEq.rfl]) h fun _ _ _ _ => mixG_ok rest _ _ _ _
            · have hw' : t = !w := by cases t <;> cases w <;> first | rfl | exact absurd rfl hw
              rw [if_neg hw, ← hw', upd_self ht] at h
              exact mixSkip_ok hH hd (by rw [hg]; simp only [wantedD, hk, ht]; simpa using hw) h fun _ _ _ _ => mixG_ok rest _ _ _ _
          · rename_i vs ht
            exact mixSkip_ok hH hd (by rw [hg]; simp only [wantedD, hk, ht]) h fun _ _ _ _ => mixG_ok rest _ _ _ _
          · exact h.elim
end mix
theorem wpD_mix {P : Program} {H : Known} (hH : Sound P H) {N : Nat} {Q : Exit → Slots → Store → Prop} {s : Slots} {st : Store} {id : Nat} {l : List Oper} (hm : P.follows .mixedOrders = true) (hB : Region.lexB .any l.toArray = true) (hT : turnsB l.toArray = true)
    (h : mixG P H N l.toArray (fun s' st' => Q .normal s' st') l s st [] []) : wpD P N (.region id l.toArray true) Q s st := by
  obtain ⟨later, h1, _⟩ := mixG_ok hH l s st [] [] h
  have := wpD_S (id := id) (Q := Q) (rowSt [] st later) (0 + later.length) hm hB hT h1
  exact this
/-- A body, evaluated; its loops are left. -/
def wpE (P : Program) (H : Known) (N : Nat) : Code → (Exit → Slots → Store → Prop) → Slots → Store → Prop
  | .skip, Q, s, st => Q .normal s st
  | .exit id, Q, s, st => Q (.exit id) s st
  | .ret, Q, s, st => Q .ret s st
  | .seq x y, Q, s, st => wpE P H N x (thenD (wpE P H N y Q) Q) s st
  | .block id c, Q, s, st => wpE P H N c (blockD id Q) s st
  | .cond c x y, Q, s, st => match ev s c with
    | .d (.sc (.bool t)) => if t = true then wpE P H N x Q s st else wpE P H N y Q s st
    | _ => False
  | .region _ ops false, Q, s, st => if useSpec H ops = true then specG P H N ops ops.toList s s (fun _ => true) st fun s' st' => Q .normal s' st' else opsG P H N ops ops.toList s st fun s' st' => Q .normal s' st'
  | .region _ ops true, Q, s, st => P.follows .mixedOrders = true ∧ Region.lexB .any ops = true ∧ turnsB ops = true ∧ mixG P H N ops (fun s' st' => Q .normal s' st') ops.toList s st [] []
  | c, Q, s, st => wpD P N c Q s st
attribute [go_sem] upd_eq updW_eq specG putW specOk opnd wtOk readsOk useSpec Op.operands Call.operands
@[go_sem] theorem initS_nil (i : Nat) : initS [] i = .d (.sc undef) := by simp [initS]
@[go_sem] theorem initS_zero (d : DV) (ds : List DV) : initS (d :: ds) 0 = d := by simp [initS]
@[go_sem] theorem initS_succ (d : DV) (ds : List DV) (i : Nat) : initS (d :: ds) (i + 1) = initS ds i := by simp [initS]
/- In the evaluation nothing is done under a continuation before it is reached. -/
section
variable {P : Program} {H : Known} {N : Nat} {st st' : Store} {K : DV → Prop} {KS : DV → Store → Prop} {KT : Slots → Store → Prop} {Q : Exit → Slots → Store → Prop} {s s' : Slots} {a a' b b' c c' : DV}
@[congr] theorem FnD_cong {f : FuncId} {l l' : List DV} (h : l = l') (g : st = st') : FnD P f l st KS = FnD P f l' st' KS := by rw [h, g]
@[congr] theorem knownD_cong {f : FuncId} {l l' : List DV} (h : l = l') (g : st = st') : knownD P H f l st KS = knownD P H f l' st' KS := by rw [h, g]
@[congr] theorem wpD_cong {x : Code} (h : s = s') (g : st = st') : wpD P N x Q s st = wpD P N x Q s' st' := by rw [h, g]
@[congr] theorem wpE_cong {x : Code} (h : s = s') (g : st = st') : wpE P H N x Q s st = wpE P H N x Q s' st' := by rw [h, g]
@[congr] theorem opsG_cong {ops : Array Oper} {l : List Oper} (h : s = s') (g : st = st') : opsG P H N ops l s st KT = opsG P H N ops l s' st' KT := by rw [h, g]
@[congr] theorem stepG_cong {ops : Array Oper} {o : Oper} (h : s = s') (g : st = st') : stepG P H N ops o s st KT = stepG P H N ops o s' st' KT := by rw [h, g]
@[congr] theorem runG_cong {o : Oper} (h : s = s') (g : st = st') : runG P H N o s st KT = runG P H N o s' st' KT := by rw [h, g]
@[congr] theorem skipG_cong {o : Oper} (h : s = s') (g : st = st') : skipG N o s st KT = skipG N o s' st' KT := by rw [h, g]
@[congr] theorem mixG_cong {ops : Array Oper} {l : List Oper} {olds olds' : List Store} {done done' : List (Op × Slots × DV)} (h : s = s') (g : st = st') (i : olds = olds') (j : done = done') : mixG P H N ops KT l s st olds done = mixG P H N ops KT l s' st' olds' done' := by rw [h, g, i, j]
@[congr] theorem mixRun_cong {o : Op} {X : After} {olds olds' : List Store} {done done' : List (Op × Slots × DV)} (h : s = s') (g : st = st') (i : olds = olds') (j : done = done') : mixRun P H o s st olds done X = mixRun P H o s' st' olds' done' X := by rw [h, g, i, j]
@[congr] theorem mixSkip_cong {o : Op} {X : After} {olds olds' : List Store} {done done' : List (Op × Slots × DV)} (g : st = st') (i : olds = olds') (j : done = done') : mixSkip P H o st olds done X = mixSkip P H o st' olds' done' X := by rw [g, i, j]
@[congr] theorem turnE_cong {A A' X : DV → Store → Prop} (h : A = A') : turnE A X = turnE A' X := by rw [h]
@[congr] theorem lexB_cong {md : Region.Mode} {ops : Array Oper} : Region.lexB md ops = Region.lexB md ops := rfl
@[congr] theorem turnsB_cong {ops : Array Oper} : turnsB ops = turnsB ops := rfl
@[congr] theorem specG_cong {ops : Array Oper} {l : List Oper} {sp sp' : Slots} {wt wt' : Nat → Bool} (h : s = s') (i : sp = sp') (j : wt = wt') (g : st = st') : specG P H N ops l s sp wt st KT = specG P H N ops l s' sp' wt' st' KT := by rw [h, g, i, j]
@[congr] theorem yieldE_cong {A A' X : DV → Prop} (h : A = A') : yieldE A X = yieldE A' X := by rw [h]
@[congr] theorem opE_cong {o : Op} (h : s = s') (g : st = st') : opE P H o s st KS = opE P H o s' st' KS := by rw [h, g]
@[congr] theorem opD_cong {o : Op} (h : s = s') (g : st = st') : opD P o s st KS = opD P o s' st' KS := by rw [h, g]
@[congr] theorem callE_cong {o : Call} (h : s = s') (g : st = st') : callE P H o s st KS = callE P H o s' st' KS := by rw [h, g]
@[congr] theorem callD_cong {o : Call} (h : s = s') (g : st = st') : callD P o s st KS = callD P o s' st' KS := by rw [h, g]
@[congr] theorem thenD_cong {X : Slots → Store → Prop} {e e' : Exit} (i : e = e') (h : s = s') (g : st = st') : thenD X Q e s st = thenD X Q e' s' st' := by rw [i, h, g]
@[congr] theorem blockD_cong {id : Nat} {e e' : Exit} (i : e = e') (h : s = s') (g : st = st') : blockD id Q e s st = blockD id Q e' s' st' := by rw [i, h, g]
@[congr] theorem retQ_cong {rs rs' : List ResultVar} {k k' : Nat} {R : DV → Store → Prop} {e e' : Exit} (j : rs = rs') (i : e = e') (m : k = k') (h : s = s') (g : st = st') : retQ P rs k R e s st = retQ P rs' k' R e' s' st' := by rw [j, i, m, h, g]
@[congr] theorem resD_cong {rs : List ResultVar} {X : List DV → Prop} (h : s = s') (g : st = st') : resD P s st rs X = resD P s' st' rs X := by rw [h, g]
@[congr] theorem RetW_cong {k : Nat} {R : DV → Store → Prop} (h : a = a') (g : st = st') : RetW k R a st = RetW k R a' st' := by rw [h, g]
@[congr] theorem loadD_cong {t : TypeId} (g : st = st') (h : a = a') : loadD P st t a K = loadD P st' t a' K := by rw [h, g]
@[congr] theorem fieldAddrD_cong {t : TypeId} {f : Nat} (g : st = st') (h : a = a') : fieldAddrD P st t a f K = fieldAddrD P st' t a' f K := by rw [h, g]
@[congr] theorem indexAddrD_cong {t : TypeId} (g : st = st') (h : a = a') (i : b = b') : indexAddrD P st t a b K = indexAddrD P st' t a' b' K := by rw [h, g, i]
@[congr] theorem partD_cong {t : TypeId} {cs cs' : List DV} {off off' : Nat} (h : cs = cs') (g : off = off') : partD P t cs off K = partD P t cs' off' K := by rw [h, g]
@[congr] theorem indexD_cong {t : TypeId} (h : a = a') (i : b = b') : indexD P t a b K = indexD P t a' b' K := by rw [h, i]
@[congr] theorem intBin_cong {op : BinOp} {k k' : IntKind} {x x' y y' : Int} (h : x = x') (i : y = y') : intBin op k k' x y K = intBin op k k' x' y' K := by rw [h, i]
@[congr] theorem strBin_cong {op : BinOp} {x x' y y' : ByteArray} (h : x = x') (i : y = y') : strBin op x y K = strBin op x' y' K := by rw [h, i]
@[congr] theorem eqK_cong {op : BinOp} {x x' : Bool} (h : x = x') : eqK op x K = eqK op x' K := by rw [h]
@[congr] theorem binD_cong {op : BinOp} {t : TypeId} (g : st = st') (h : a = a') (i : b = b') : binD P st op t a b K = binD P st' op t a' b' K := by rw [g, h, i]
@[congr] theorem unD_cong {op : UnOp} (h : a = a') : unD op a K = unD op a' K := by rw [h]
@[congr] theorem convD_cong {t u : TypeId} (h : a = a') : convD P t u a K = convD P t u a' K := by rw [h]
@[congr] theorem sliceD_cong {t : TypeId} {lo lo' hi hi' : Option DV} (g : st = st') (h : a = a') (i : lo = lo') (j : hi = hi') : sliceD P st t a lo hi K = sliceD P st' t a' lo' hi' K := by rw [g, h, i, j]
@[congr] theorem lenD_cong {t : TypeId} (g : st = st') (h : a = a') : lenD P st t a K = lenD P st' t a' K := by rw [g, h]
@[congr] theorem boxD_cong {t : TypeId} (g : st = st') (h : a = a') : boxD st t a KS = boxD st' t a' KS := by rw [g, h]
@[congr] theorem allocD_cong {t : TypeId} (g : st = st') : allocD P st t KS = allocD P st' t KS := by rw [g]
@[congr] theorem storeD_cong {t : TypeId} {X : Store → Prop} (g : st = st') (h : a = a') (i : b = b') : storeD P st t a b X = storeD P st' t a' b' X := by rw [g, h, i]
@[congr] theorem buildD_cong {t : TypeId} {l l' : List (Nat × DV)} (h : l = l') : buildD P t l K = buildD P t l' K := by rw [h]
@[congr] theorem buildSliceD_cong {t : TypeId} {n : Nat} {l l' : List (Nat × DV)} (g : st = st') (h : l = l') : buildSliceD P st t n l KS = buildSliceD P st' t n l' KS := by rw [g, h]
@[congr] theorem makeD_cong {t : TypeId} (g : st = st') (h : a = a') (i : b = b') : makeD P st t a b KS = makeD P st' t a' b' KS := by rw [g, h, i]
@[congr] theorem appendD_cong {t u : TypeId} (g : st = st') (h : a = a') (i : b = b') : appendD P st t u a b KS = appendD P st' t u a' b' KS := by rw [g, h, i]
@[congr] theorem mmD_cong {m : Bool} (h : a = a') (i : b = b') : mmD m a b K = mmD m a' b' K := by rw [h, i]
@[congr] theorem pickD_cong (h : a = a') (i : b = b') (j : c = c') : pickD a b c K = pickD a' b' c' K := by rw [h, i, j]
@[congr] theorem extractD_cong {i : Nat} (h : a = a') : extractD a i K = extractD a' i K := by rw [h]
@[congr] theorem fieldVD_cong {t : TypeId} {f : Nat} (h : a = a') : fieldVD P t a f K = fieldVD P t a' f K := by rw [h]
end
attribute [go_sem] yieldE_eq yieldE_and turnE_eq turnE_and pureK pureKc staysE stoodE mixRun mixSkip turns knownD callE opE closedD closedL Value.oneCell'
attribute [go_sem] opsG stepG runG skipG mixG slotOf dstOk putS opD callD ev thenD blockD resD oneD retQ wpE
attribute [go_sem] loadD fieldAddrD indexAddrD partD indexD intOfD scEqD eqD intBin strBin eqK notNil notNilP binD unD convD boundD sliceD lenD boxD allocD splice storeD fillD buildD buildSliceD makeD srcD appendD mmD pickD isRefD extractD fieldVD cellsD boolD intD nilS
theorem ret_v {r d : DV} {st : Store} (h : d = r) (hp : pureD d = true) : RetW 0 (fun x st => st = [] ∧ pureD x = true ∧ x = r) d st := by
  subst h; exact RetW.drop hp rfl
theorem noH_ok {P : Program} : Sound P [] := fun _ _ _ h => by cases h
def strD (s : ByteArray) : DV := .d (.sc (.string s))
attribute [go_sem] findH knowsH strD
end Go.Proofs.Ytmjmbfcfnhnpmaa
