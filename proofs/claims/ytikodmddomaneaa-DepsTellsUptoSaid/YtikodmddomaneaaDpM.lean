/- Lists with room behind them: plain laws, for elements of any size. No condition. -/
import Derived.Test.YtikodmddomaneaaAm35
import Derived.Test.YtikodmddomaneaaDp4
import Derived.Test.YtikodmddomaneaaDp8
namespace Go.Proofs.Ytikodmddomaneaa
open Go.RowKit
set_option linter.all false
def roomG (xs : List (List PD)) (m : List PD) : List (List PD) := xs ++ List.replicate 80 m
/-- The cells, when so many places of the room are marked. -/
def roomCg (xs : List (List PD)) (m z : List PD) (k : Nat) : List DV := rowsD xs ++ (rowsD (List.replicate k m) ++ rowsD (List.replicate (80 - k) z))
theorem told_stG {k : Nat} {s s' : SL} {st st' : Store} (h : st = st') (hs : toldP id s s') : Told k s st s' st' := by subst h; exact told_less hs
theorem rowsD_repl (n : Nat) (m : List PD) : (rowsD (List.replicate n m)).length = n * m.length := by
  induction n with
  | zero => simp [rowsD]
  | succ n ih =>
    have e : rowsD (List.replicate (n + 1) m) = m.map .d ++ rowsD (List.replicate n m) := by simp [rowsD, List.replicate_succ]
    rw [e, List.length_append, ih, List.length_map, Nat.add_mul]
    omega
theorem rowsD_flat (n : Nat) (m : List PD) : (List.replicate n (m.map DV.d)).flatten = rowsD (List.replicate n m) := by
  induction n with
  | zero => rfl
  | succ n ih => rw [List.replicate_succ, List.flatten_cons, ih]; simp [rowsD, List.replicate_succ]
theorem roomG_0 {xs : List (List PD)} {m z : List PD} (h : (rowsD xs).length = xs.length * z.length) : splice (List.replicate (xs.length + 80) (z.map DV.d)).flatten 0 (rowsD xs) = roomCg xs m z 0 := by
  rw [rowsD_flat, splice, roomCg, List.take_zero, List.nil_append, h]
  have e : rowsD (List.replicate (xs.length + 80) z) = rowsD (List.replicate xs.length z) ++ rowsD (List.replicate 80 z) := by rw [← rowsD_append, List.replicate_append_replicate]
  rw [e, List.drop_append_of_le_length (by rw [rowsD_repl]; omega), List.drop_eq_nil_of_le (by rw [rowsD_repl]; omega)]
  simp [rowsD]
theorem roomG_S {xs : List (List PD)} {m z : List PD} {k sz : Nat} (h : (rowsD xs).length = xs.length * sz) (hm : m.length = sz) (hz : z.length = sz) (hk : k < 80) : splice (roomCg xs m z k) ((xs.length + k) * sz) (m.map DV.d) = roomCg xs m z (k + 1) := by
  have e1 : rowsD (List.replicate (80 - k) z) = z.map .d ++ rowsD (List.replicate (80 - (k + 1)) z) := by
    rw [show 80 - k = (80 - (k + 1)) + 1 by omega, List.replicate_succ]
    simp [rowsD]
  have e2 : rowsD (List.replicate (k + 1) m) = rowsD (List.replicate k m) ++ m.map .d := by
    rw [List.replicate_succ', rowsD_append]
    simp [rowsD]
  have e3 : (rowsD xs ++ rowsD (List.replicate k m)).length = (xs.length + k) * sz := by rw [List.length_append, h, rowsD_repl, hm, ← Nat.add_mul]
  rw [roomCg, roomCg, e1, e2, ← List.append_assoc, splice, ← e3, List.take_left, List.drop_append, List.drop_eq_nil_of_le (by omega)]
  rw [show (rowsD xs ++ rowsD (List.replicate k m)).length + (m.map DV.d).length - (rowsD xs ++ rowsD (List.replicate k m)).length = (z.map DV.d).length by simp [hm, hz], List.drop_left]
  simp
theorem roomG_len {xs : List (List PD)} {m z : List PD} {k sz : Nat} (h : (rowsD xs).length = xs.length * sz) (hm : m.length = sz) (hz : z.length = sz) (hk : k ≤ 80) : (roomCg xs m z k).length = (xs.length + 80) * sz := by
  simp only [roomCg, List.length_append, rowsD_repl, h, hm, hz]
  rw [← Nat.add_mul, ← Nat.add_mul]
  congr 1
  omega
theorem roomG_E {xs : List (List PD)} {m z : List PD} : roomCg xs m z 80 = rowsD (roomG xs m) := by
  simp [roomCg, roomG, rowsD_append, rowsD]
def roomPg (full xs : List (List PD)) (m : List PD) : Prop := full = roomG xs m
theorem roomG_row {xs : List (List PD)} {m : List PD} {i : Int} (h0 : (xs.length : Int) ≤ i) (h1 : i < xs.length + 80) : (roomG xs m).getD i.toNat [] = m := by
  rw [roomG, List.getD_eq_getElem?_getD, List.getElem?_append_right (by omega), List.getElem?_replicate, if_pos (by omega)]
  rfl
theorem roomG_length (xs : List (List PD)) (m : List PD) : (roomG xs m).length = xs.length + 80 := by simp [roomG]
theorem roomG_take (xs : List (List PD)) (m : List PD) : (roomG xs m).take xs.length = xs := by simp [roomG]
theorem roomG_sz {xs : List (List PD)} {m : List PD} {sz : Nat} (h : ∀ x ∈ xs, x.length = sz) (hm : m.length = sz) : ∀ x ∈ roomG xs m, x.length = sz := by
  intro x hx
  simp only [roomG, List.mem_append, List.mem_replicate] at hx
  rcases hx with hx | ⟨_, rfl⟩
  · exact h x hx
  · exact hm
end Go.Proofs.Ytikodmddomaneaa
namespace Go.Proofs.Ytikodmddomaneaa
open Go.RowKit
set_option linter.all false
theorem most_ge (L : List Attr) : ∀ (l : List Attr) (p : Attr × Int), p.2 ≤ (l.foldl (mostS L) p).2 ∧ ∀ a ∈ l, (L.count a : Int) ≤ (l.foldl (mostS L) p).2
  | [], p => ⟨Int.le_refl _, fun _ h => by cases h⟩
  | x :: l, p => by
    obtain ⟨h1, h2⟩ := most_ge L l (mostS L p x)
    have hx : p.2 ≤ (mostS L p x).2 ∧ (L.count x : Int) ≤ (mostS L p x).2 := by
      unfold mostS
      split
      · constructor
        · simp only; omega
        · exact Int.le_refl _
      · constructor
        · exact Int.le_refl _
        · omega
    refine ⟨Int.le_trans hx.1 h1, fun a ha => ?_⟩
    rcases List.mem_cons.1 ha with rfl | ha
    · exact Int.le_trans hx.2 h1
    · exact h2 a ha
theorem most_in (L : List Attr) : ∀ (l : List Attr) (p : Attr × Int), (l.foldl (mostS L) p).2 = p.2 ∨ ∃ a ∈ l, (l.foldl (mostS L) p).2 = (L.count a : Int)
  | [], p => .inl rfl
  | x :: l, p => by
    rcases most_in L l (mostS L p x) with h | ⟨a, ha, h⟩
    · by_cases e : p.2 < (L.count x : Int)
      · refine .inr ⟨x, List.mem_cons_self, ?_⟩
        rw [List.foldl_cons, h]
        simp [mostS, e]
      · left
        rw [List.foldl_cons, h]
        simp [mostS, e]
    · exact .inr ⟨a, List.mem_cons_of_mem _ ha, h⟩
theorem mostL_ge {l : List Attr} {a : Attr} (h : a ∈ l) : (l.count a : Int) ≤ (mostL l).2 := (most_ge l l (zeroA, 0)).2 a h
theorem mostL_in (l : List Attr) : (mostL l).2 = 0 ∨ ∃ a ∈ l, (mostL l).2 = (l.count a : Int) := most_in l l (zeroA, 0)
theorem mostL_nn (l : List Attr) : 0 ≤ (mostL l).2 := (most_ge l l (zeroA, 0)).1
theorem mostL_pos {l : List Attr} : 0 < (mostL l).2 ↔ 0 < l.length := by
  constructor
  · intro h
    cases l with
    | nil => exact absurd h (by decide)
    | cons x l => simp
  · intro h
    cases l with
    | nil => simp at h
    | cons x l =>
      have h1 := mostL_ge (l := x :: l) (a := x) List.mem_cons_self
      rw [List.count_cons_self] at h1
      omega
theorem mostL_le {l l' : List Attr} (h : l.Perm l') : (mostL l).2 ≤ (mostL l').2 := by
  rcases mostL_in l with e | ⟨a, ha, e⟩
  · rw [e]; exact mostL_nn l'
  · rw [e, h.count_eq a]
    exact mostL_ge (h.mem_iff.1 ha)
theorem mostL_perm {l l' : List Attr} (h : l.Perm l') : (mostL l).2 = (mostL l').2 := Int.le_antisymm (mostL_le h) (mostL_le h.symm)
/-- Turned round. -/
theorem mostL_turn (l : List Attr) (k : Nat) : (mostL (l.drop k ++ l.take k)).2 = (mostL l).2 := mostL_perm ((List.perm_append_comm).trans (List.Perm.of_eq (List.take_append_drop k l)))
theorem mostX_turn {xs : List (List PD)} (h : isAt xs) (k : Nat) : (mostX (xs.drop k ++ xs.take k)).2 = (mostX xs).2 := by
  obtain ⟨l, hx, hl, hr⟩ := h
  have e : xs.drop k ++ xs.take k = attrsX (l.drop k ++ l.take k) := by rw [hx]; unfold attrsX; simp [List.map_drop, List.map_take]
  unfold mostX
  rw [e, attrsOf_X, mostL_turn, hx, attrsOf_X]
theorem isAt_turn {xs : List (List PD)} (h : isAt xs) (k : Nat) : isAt (xs.drop k ++ xs.take k) := by
  obtain ⟨l, hx, hl, hr⟩ := h
  refine ⟨l.drop k ++ l.take k, by rw [hx]; unfold attrsX; simp [List.map_drop, List.map_take], by simp; omega, fun a ha => hr a ?_⟩
  rcases List.mem_append.1 ha with ha | ha
  · exact List.mem_of_mem_drop ha
  · exact List.mem_of_mem_take ha
theorem isAt_take {xs : List (List PD)} (h : isAt xs) (k : Nat) : isAt (xs.take k) := by
  obtain ⟨l, hx, hl, hr⟩ := h
  refine ⟨l.take k, by rw [hx]; unfold attrsX; simp [List.map_take], by simp; omega, fun a ha => hr a (List.mem_of_mem_take ha)⟩
theorem count_take_succ {l : List Attr} {j : Nat} (h : j < l.length) (a : Attr) : ((l.take (j + 1)).count a : Int) = (l.take j).count a + (if l[j] = a then 1 else 0) := by
  rw [List.take_succ_eq_append_getElem h, List.count_append]
  by_cases e : l[j] = a <;> simp [e, List.count_cons]

end Go.Proofs.Ytikodmddomaneaa
namespace Go.Proofs.Ytikodmddomaneaa
open Go.RowKit
set_option linter.all false
set_option maxHeartbeats 4000000

structure FsM where
  roomyA : List (List PD) → Attr → List (List PD)
  intactA : List (List PD) → List (List PD) → Attr → Bool
  roomP : List (List PD) → List (List PD) → Attr → Prop
  isAt : List (List PD) → Prop
def FsM0 : FsM where
  roomyA := fun xs m => roomG xs m.row
  intactA := fun _ _ _ => true
  roomP := fun full xs m => roomPg full xs m.row
  isAt := isAt
set_option maxRecDepth 100000 in
theorem v_roomyA (xs : List (List PD)) (m : Attr) (hp0 : FsM0.isAt xs) : FnV Try.prog 19 [.d (.slc 8 xs), Attr.D m] (.d (.slc 8 ((fun xs m => roomG xs (Attr.row m)) xs m))) := by
  obtain ⟨m_seq, m_d0, m_d1, m_d2, m_d3, m_d4, m_d5, m_d6⟩ := m
  refine FnD_cbv (T := fun _ => tabY [25] []) (H := fun _ => []) (tabY_ok _ _) noK_ok follows_mixed Try.func19 rfl Try.ntmps19 (by simp) fun A X W hA hX hW => ?_
  cbv
  have hl : xs.length ≤ 4194304 := hp0.len
  have hsz : ∀ x ∈ xs, x.length = 8 := hp0.sz
  have hrl : (rowsD xs).length = xs.length * 8 := rowsD_len hsz
  obtain ⟨N, hN⟩ : ∃ N, N = xs.length + 80 := ⟨_, rfl⟩
  have e1 : IntKind.wrap .i64 ((xs.length : Int) + 80) = xs.length + 80 := wrap_i64 (by unfold r64; omega)
  refine And.intro ?_ (And.intro ?_ (And.intro ?_ (And.intro ?_ ?_)))
  · subst hA; simp only [A0]; rw [e1]; omega
  · subst hA; simp only [A0]
  · subst hA; simp only [A0]; rw [e1]; omega
  · subst hA; simp only [A0]; rw [e1]; simp [hrl]; omega
  refine loopL (T := fun _ => tabY [25] []) (H := fun _ => []) (tabY_ok _ _) noK_ok follows_mixed hA hX (fun x : List DV × Int => ∃ k : Nat, x.1 = roomCg xs [.sc (.int .i64 m_seq), .sc (.int .i64 m_d0), .sc (.int .i64 m_d1), .sc (.int .i64 m_d2), .sc (.int .i64 m_d3), .sc (.int .i64 m_d4), .sc (.int .i64 m_d5), .sc (.int .i64 m_d6)] [.sc (.int .i64 0), .sc (.int .i64 0), .sc (.int .i64 0), .sc (.int .i64 0), .sc (.int .i64 0), .sc (.int .i64 0), .sc (.int .i64 0), .sc (.int .i64 0)] k ∧ x.2 = xs.length + k ∧ k ≤ 80)
    (fun x => [(0, .d (.slc 8 xs)), (3, .ref 0 0 0), (5, .view 8 1 0 0 N), (6, .d (.sc (.int .i64 x.2)))]) (fun x => [⟨25, [.d (.sc (.int .i64 m_seq)), .d (.sc (.int .i64 m_d0)), .d (.sc (.int .i64 m_d1)), .d (.sc (.int .i64 m_d2)), .d (.sc (.int .i64 m_d3)), .d (.sc (.int .i64 m_d4)), .d (.sc (.int .i64 m_d5)), .d (.sc (.int .i64 m_d6))], false, 0, true⟩, ⟨25, x.1, false, 0, true⟩])
    (fun x => 80 + xs.length - x.2.toNat) (roomCg xs [.sc (.int .i64 m_seq), .sc (.int .i64 m_d0), .sc (.int .i64 m_d1), .sc (.int .i64 m_d2), .sc (.int .i64 m_d3), .sc (.int .i64 m_d4), .sc (.int .i64 m_d5), .sc (.int .i64 m_d6)] [.sc (.int .i64 0), .sc (.int .i64 0), .sc (.int .i64 0), .sc (.int .i64 0), .sc (.int .i64 0), .sc (.int .i64 0), .sc (.int .i64 0), .sc (.int .i64 0)] 0, (xs.length : Int)) ?_ ?_ ?_
  · exact ⟨0, rfl, by simp, by omega⟩
  · subst hA
    refine told_stG ?_ ?_
    · simp only [A0]
      rw [e1, show ((xs.length : Int) + 80).toNat = xs.length + 80 by omega, ← roomG_0 (m := [.sc (.int .i64 m_seq), .sc (.int .i64 m_d0), .sc (.int .i64 m_d1), .sc (.int .i64 m_d2), .sc (.int .i64 m_d3), .sc (.int .i64 m_d4), .sc (.int .i64 m_d5), .sc (.int .i64 m_d6)]) (z := [.sc (.int .i64 0), .sc (.int .i64 0), .sc (.int .i64 0), .sc (.int .i64 0), .sc (.int .i64 0), .sc (.int .i64 0), .sc (.int .i64 0), .sc (.int .i64 0)]) hrl]
      simp only [Int.lt_irrefl, decide_false]
      rfl
    · simp only [A0]
      rw [e1]
      simp [toldP, getS, hN]
      omega
  rintro R ⟨cells, i⟩ hR hinv
  cbv
  repeat' first
    | (refine part (fun h => ?_) (fun h => ?_) <;> try cbv)
    | (refine And.intro ?_ ?_)
  all_goals subst hR hA hX hW
  all_goals replace hinv : ∃ k : Nat, cells = roomCg xs [.sc (.int .i64 m_seq), .sc (.int .i64 m_d0), .sc (.int .i64 m_d1), .sc (.int .i64 m_d2), .sc (.int .i64 m_d3), .sc (.int .i64 m_d4), .sc (.int .i64 m_d5), .sc (.int .i64 m_d6)] [.sc (.int .i64 0), .sc (.int .i64 0), .sc (.int .i64 0), .sc (.int .i64 0), .sc (.int .i64 0), .sc (.int .i64 0), .sc (.int .i64 0), .sc (.int .i64 0)] k ∧ i = xs.length + k ∧ k ≤ 80 := hinv
  all_goals obtain ⟨k, hc, hi, hk⟩ := hinv
  all_goals simp only [A0, nc, decide_eq_true_eq, decide_eq_false_iff_not] at *
  all_goals have hcl := roomG_len (m := [.sc (.int .i64 m_seq), .sc (.int .i64 m_d0), .sc (.int .i64 m_d1), .sc (.int .i64 m_d2), .sc (.int .i64 m_d3), .sc (.int .i64 m_d4), .sc (.int .i64 m_d5), .sc (.int .i64 m_d6)]) (z := [.sc (.int .i64 0), .sc (.int .i64 0), .sc (.int .i64 0), .sc (.int .i64 0), .sc (.int .i64 0), .sc (.int .i64 0), .sc (.int .i64 0), .sc (.int .i64 0)]) hrl rfl rfl hk
  all_goals first
    | omega
    | (rw [hc, hcl]; omega)
    | (have hk8 : k < 80 := by omega
       have ei : IntKind.wrap .i64 (i + 1) = i + 1 := wrap_i64 (by unfold r64; omega)
       have ej : i.toNat = xs.length + k := by omega
       refine ⟨(roomCg xs [.sc (.int .i64 m_seq), .sc (.int .i64 m_d0), .sc (.int .i64 m_d1), .sc (.int .i64 m_d2), .sc (.int .i64 m_d3), .sc (.int .i64 m_d4), .sc (.int .i64 m_d5), .sc (.int .i64 m_d6)] [.sc (.int .i64 0), .sc (.int .i64 0), .sc (.int .i64 0), .sc (.int .i64 0), .sc (.int .i64 0), .sc (.int .i64 0), .sc (.int .i64 0), .sc (.int .i64 0)] (k + 1), i + 1), ⟨k + 1, rfl, (by show i + 1 = (xs.length : Int) + ((k + 1 : Nat) : Int); omega), by omega⟩, (by show 80 + xs.length - (i + 1).toNat < 80 + xs.length - i.toNat; omega), told_stG (s := _) ?_ ?_⟩
       · have hS := roomG_S (xs := xs) (m := [.sc (.int .i64 m_seq), .sc (.int .i64 m_d0), .sc (.int .i64 m_d1), .sc (.int .i64 m_d2), .sc (.int .i64 m_d3), .sc (.int .i64 m_d4), .sc (.int .i64 m_d5), .sc (.int .i64 m_d6)]) (z := [.sc (.int .i64 0), .sc (.int .i64 0), .sc (.int .i64 0), .sc (.int .i64 0), .sc (.int .i64 0), .sc (.int .i64 0), .sc (.int .i64 0), .sc (.int .i64 0)]) hrl rfl rfl hk8
         simp only [Nat.zero_add]
         rw [hc, ej, ← hS]
         rfl
       · simp [toldP, getS, ei])
    | (have hk8 : k = 80 := by omega
       subst hk8
       refine ret_slice rfl rfl rfl ?_ (by rw [hc]; exact roomG_E) (roomG_sz hsz rfl) rfl
       rw [roomG_length]; exact hN)
def kn_roomyA (F : FsM) : FuncId × (List DV → RV) := (19, fun args => match args with
  | [.d (.slc 8 xs), .agg [.d (.sc (.int .i64 m_seq)), .d (.sc (.int .i64 m_d0)), .d (.sc (.int .i64 m_d1)), .d (.sc (.int .i64 m_d2)), .d (.sc (.int .i64 m_d3)), .d (.sc (.int .i64 m_d4)), .d (.sc (.int .i64 m_d5)), .d (.sc (.int .i64 m_d6))]] => some ([F.isAt xs], .d (.slc 8 (F.roomyA xs ⟨m_seq, m_d0, m_d1, m_d2, m_d3, m_d4, m_d5, m_d6⟩)))
  | [.d (.sc (.slice none 0 0)), .agg [.d (.sc (.int .i64 m_seq)), .d (.sc (.int .i64 m_d0)), .d (.sc (.int .i64 m_d1)), .d (.sc (.int .i64 m_d2)), .d (.sc (.int .i64 m_d3)), .d (.sc (.int .i64 m_d4)), .d (.sc (.int .i64 m_d5)), .d (.sc (.int .i64 m_d6))]] => some ([F.isAt []], .d (.slc 8 (F.roomyA [] ⟨m_seq, m_d0, m_d1, m_d2, m_d3, m_d4, m_d5, m_d6⟩)))
  | _ => none)
theorem ok_roomyA (args : List DV) (cs : List Prop) (r : DV) (h : (kn_roomyA FsM0).2 args = some (cs, r)) (hc : allP cs True) : FnV Try.prog 19 args r ∧ closedL 0 args = true := by
  unfold kn_roomyA at h
  simp only at h
  split at h
  · cases h; exact ⟨v_roomyA _ ⟨_, _, _, _, _, _, _, _⟩ hc.1, rfl⟩
  · cases h; exact ⟨FnP.nils (v_roomyA [] ⟨_, _, _, _, _, _, _, _⟩ hc.1) ⟨.inr ⟨rfl, _, rfl⟩, ⟨.inl rfl, trivial⟩⟩, rfl⟩
  · cases h
set_option maxRecDepth 100000 in
theorem v_intactA (full : List (List PD)) (xs : List (List PD)) (m : Attr) (hp0 : FsM0.isAt xs) (hp1 : FsM0.roomP full xs m) : FnV Try.prog 25 [.d (.slc 8 full), .d (.slc 8 xs), Attr.D m] (boolD (((fun (_ _ : List (List PD)) (_ : Attr) => true) full xs m))) := by
  obtain ⟨m_seq, m_d0, m_d1, m_d2, m_d3, m_d4, m_d5, m_d6⟩ := m
  obtain ⟨GFsQ, hGFsQ⟩ : ∃ F, F = FsQ0 := ⟨_, rfl⟩
  have hH : SoundK Try.prog [kn_sameA GFsQ] := by subst hGFsQ; exact orK_ok ok_sameA noK_ok
  refine FnD_cbv (T := fun _ => tabY [33] []) (H := fun _ => [kn_sameA GFsQ]) (tabY_ok _ _) hH follows_mixed Try.func25 rfl Try.ntmps25 (by simp) fun A X W hA hX hW => ?_
  cbv
  have hl : xs.length ≤ 4194304 := hp0.len
  have hsz : ∀ x ∈ xs, x.length = 8 := hp0.sz
  replace hp1 : full = roomG xs [.sc (.int .i64 m_seq), .sc (.int .i64 m_d0), .sc (.int .i64 m_d1), .sc (.int .i64 m_d2), .sc (.int .i64 m_d3), .sc (.int .i64 m_d4), .sc (.int .i64 m_d5), .sc (.int .i64 m_d6)] := hp1
  have hfl : full.length = xs.length + 80 := by rw [hp1, roomG_length]
  have e1 : IntKind.wrap .i64 ((xs.length : Int) + 80) = xs.length + 80 := wrap_i64 (by unfold r64; omega)
  have ht : full.take xs.length = xs := by rw [hp1]; exact roomG_take xs _
  have hs : sameA xs xs = true := by simp [sameA]
  repeat' first
    | (refine And.intro ?_ ?_)
  rotate_right 1
  refine part (fun h => ?_) (fun h => ?_)
  · exfalso
    subst hA hGFsQ
    simp only [A0, FsQ0] at h
    simp [hfl, e1, hs, ht] at h
  cbv
  refine loopL (T := fun _ => tabY [33] []) (H := fun _ => [kn_sameA GFsQ]) (tabY_ok _ _) hH follows_mixed hA hX (fun i : Int => (xs.length : Int) ≤ i ∧ i ≤ xs.length + 80)
    (fun i => [(0, .d (.slc 8 full)), (1, .d (.slc 8 xs)), (5, .ref 0 0 0), (7, .d (.sc (.int .i64 i)))]) (fun _ => [⟨25, [.d (.sc (.int .i64 m_seq)), .d (.sc (.int .i64 m_d0)), .d (.sc (.int .i64 m_d1)), .d (.sc (.int .i64 m_d2)), .d (.sc (.int .i64 m_d3)), .d (.sc (.int .i64 m_d4)), .d (.sc (.int .i64 m_d5)), .d (.sc (.int .i64 m_d6))], false, 0, true⟩])
    (fun i => 80 + xs.length - i.toNat) (xs.length : Int) ?_ ?_ ?_
  · exact ⟨by omega, by omega⟩
  · subst hA
    exact told_less (by simp [toldP, getS, A0])
  rintro R i hR ⟨i0, i1⟩
  cbv
  repeat' first
    | (refine part (fun h => ?_) (fun h => ?_) <;> try cbv)
    | (refine And.intro ?_ ?_)
  all_goals try subst hR
  all_goals subst hA hX hW hGFsQ
  all_goals clear hH
  all_goals simp only [A0, nc, FsQ0, decide_eq_true_eq, decide_eq_false_iff_not, Bool.not_eq_true', Bool.not_eq_false'] at *
  all_goals try replace i0 : (xs.length : Int) ≤ i := i0
  all_goals try replace i1 : i ≤ (xs.length : Int) + 80 := i1
  all_goals first
    | (show Region.lexB _ _ = true; kernel_rfl)
    | assumption
    | omega
    | exact ⟨by omega, by omega⟩
    | (rw [hp1, roomG_row i0 (by omega)]; simp; done)
    | (exfalso; rw [hp1, roomG_row i0 (by omega)] at h; simp at h; done)
    | exact ret_v rfl rfl
    | (have ei : IntKind.wrap .i64 (i + 1) = i + 1 := wrap_i64 (by unfold r64; omega)
       refine ⟨i + 1, (by show (xs.length : Int) ≤ i + 1 ∧ i + 1 ≤ (xs.length : Int) + 80; omega), (by show 80 + xs.length - (i + 1).toNat < 80 + xs.length - i.toNat; omega), told_less ?_⟩
       simp [toldP, getS, ei])
    | (intros; first | assumption | trivial | (simp_all; done) | (simp only [Int.toNat_natCast, Int.toNat_zero, Nat.sub_zero, List.drop_zero, ht]; assumption) | (refine ⟨?_, ?_, ?_⟩ <;> omega))
def kn_intactA (F : FsM) : FuncId × (List DV → RV) := (25, fun args => match args with
  | [.d (.slc 8 full), .d (.slc 8 xs), .agg [.d (.sc (.int .i64 m_seq)), .d (.sc (.int .i64 m_d0)), .d (.sc (.int .i64 m_d1)), .d (.sc (.int .i64 m_d2)), .d (.sc (.int .i64 m_d3)), .d (.sc (.int .i64 m_d4)), .d (.sc (.int .i64 m_d5)), .d (.sc (.int .i64 m_d6))]] => some ([F.isAt xs, F.roomP full xs ⟨m_seq, m_d0, m_d1, m_d2, m_d3, m_d4, m_d5, m_d6⟩], boolD ((F.intactA full xs ⟨m_seq, m_d0, m_d1, m_d2, m_d3, m_d4, m_d5, m_d6⟩)))
  | [.d (.sc (.slice none 0 0)), .d (.slc 8 xs), .agg [.d (.sc (.int .i64 m_seq)), .d (.sc (.int .i64 m_d0)), .d (.sc (.int .i64 m_d1)), .d (.sc (.int .i64 m_d2)), .d (.sc (.int .i64 m_d3)), .d (.sc (.int .i64 m_d4)), .d (.sc (.int .i64 m_d5)), .d (.sc (.int .i64 m_d6))]] => some ([F.isAt xs, F.roomP [] xs ⟨m_seq, m_d0, m_d1, m_d2, m_d3, m_d4, m_d5, m_d6⟩], boolD ((F.intactA [] xs ⟨m_seq, m_d0, m_d1, m_d2, m_d3, m_d4, m_d5, m_d6⟩)))
  | [.d (.slc 8 full), .d (.sc (.slice none 0 0)), .agg [.d (.sc (.int .i64 m_seq)), .d (.sc (.int .i64 m_d0)), .d (.sc (.int .i64 m_d1)), .d (.sc (.int .i64 m_d2)), .d (.sc (.int .i64 m_d3)), .d (.sc (.int .i64 m_d4)), .d (.sc (.int .i64 m_d5)), .d (.sc (.int .i64 m_d6))]] => some ([F.isAt [], F.roomP full [] ⟨m_seq, m_d0, m_d1, m_d2, m_d3, m_d4, m_d5, m_d6⟩], boolD ((F.intactA full [] ⟨m_seq, m_d0, m_d1, m_d2, m_d3, m_d4, m_d5, m_d6⟩)))
  | [.d (.sc (.slice none 0 0)), .d (.sc (.slice none 0 0)), .agg [.d (.sc (.int .i64 m_seq)), .d (.sc (.int .i64 m_d0)), .d (.sc (.int .i64 m_d1)), .d (.sc (.int .i64 m_d2)), .d (.sc (.int .i64 m_d3)), .d (.sc (.int .i64 m_d4)), .d (.sc (.int .i64 m_d5)), .d (.sc (.int .i64 m_d6))]] => some ([F.isAt [], F.roomP [] [] ⟨m_seq, m_d0, m_d1, m_d2, m_d3, m_d4, m_d5, m_d6⟩], boolD ((F.intactA [] [] ⟨m_seq, m_d0, m_d1, m_d2, m_d3, m_d4, m_d5, m_d6⟩)))
  | _ => none)
theorem ok_intactA (args : List DV) (cs : List Prop) (r : DV) (h : (kn_intactA FsM0).2 args = some (cs, r)) (hc : allP cs True) : FnV Try.prog 25 args r ∧ closedL 0 args = true := by
  unfold kn_intactA at h
  simp only at h
  split at h
  · cases h; exact ⟨v_intactA _ _ ⟨_, _, _, _, _, _, _, _⟩ hc.1 hc.2.1, rfl⟩
  · cases h; exact ⟨FnP.nils (v_intactA [] _ ⟨_, _, _, _, _, _, _, _⟩ hc.1 hc.2.1) ⟨.inr ⟨rfl, _, rfl⟩, ⟨.inl rfl, ⟨.inl rfl, trivial⟩⟩⟩, rfl⟩
  · cases h; exact ⟨FnP.nils (v_intactA _ [] ⟨_, _, _, _, _, _, _, _⟩ hc.1 hc.2.1) ⟨.inl rfl, ⟨.inr ⟨rfl, _, rfl⟩, ⟨.inl rfl, trivial⟩⟩⟩, rfl⟩
  · cases h; exact ⟨FnP.nils (v_intactA [] [] ⟨_, _, _, _, _, _, _, _⟩ hc.1 hc.2.1) ⟨.inr ⟨rfl, _, rfl⟩, ⟨.inr ⟨rfl, _, rfl⟩, ⟨.inl rfl, trivial⟩⟩⟩, rfl⟩
  · cases h
end Go.Proofs.Ytikodmddomaneaa
namespace Go.Proofs.Ytikodmddomaneaa
open Go.RowKit
set_option linter.all false
set_option maxHeartbeats 4000000
def atC (a : Attr) : List DV := [.d (.sc (.int .i64 a.seq)), .d (.sc (.int .i64 a.d0)), .d (.sc (.int .i64 a.d1)), .d (.sc (.int .i64 a.d2)), .d (.sc (.int .i64 a.d3)), .d (.sc (.int .i64 a.d4)), .d (.sc (.int .i64 a.d5)), .d (.sc (.int .i64 a.d6))]
theorem eq_attr (a b : Attr) : (decide (b.seq = a.seq) && (decide (b.d0 = a.d0) && (decide (b.d1 = a.d1) && (decide (b.d2 = a.d2) && (decide (b.d3 = a.d3) && (decide (b.d4 = a.d4) && (decide (b.d5 = a.d5) && (decide (b.d6 = a.d6) && true)))))))) = decide (b = a) := by
  rw [Bool.eq_iff_iff]
  cases a; cases b
  simp
theorem most_step {l : List Attr} {i : Nat} (h : i < l.length) {p : Attr} {c : Int} (hp : (p, c) = (l.take i).foldl (mostS l) (zeroA, 0)) : (l.take (i + 1)).foldl (mostS l) (zeroA, 0) = if c < (l.count l[i] : Int) then (l[i], (l.count l[i] : Int)) else (p, c) := by
  rw [List.take_succ_eq_append_getElem h, List.foldl_append, ← hp]
  rfl

structure FsO2 where
  mostR : List (List PD) → Attr × Int
  isAt : List (List PD) → Prop
def FsO20 : FsO2 where
  mostR := mostX
  isAt := isAt
set_option maxRecDepth 100000 in
theorem v_mostR (xs : List (List PD)) (hp0 : FsO20.isAt xs) : FnV Try.prog 23 [.d (.slc 8 xs)] (.tup [Attr.D (((mostX xs)).1), intD (((mostX xs)).2)]) := by
  obtain ⟨l, hxs, hl, hr⟩ := hp0
  have hlen : xs.length = l.length := by rw [hxs]; exact attrsX_length l
  have hof : mostX xs = mostL l := by unfold mostX; rw [hxs, attrsOf_X]
  rw [hof]
  obtain ⟨n, hn⟩ : ∃ n : Int, n = l.length := ⟨_, rfl⟩
  obtain ⟨M, hM⟩ : ∃ M, M = mostL l := ⟨_, rfl⟩
  rw [← hM]
  refine FnD_cbv (T := fun _ => tabY [24, 25, 28, 29, 38, 39] []) (H := fun _ => []) (tabY_ok _ _) noK_ok follows_mixed Try.func23 rfl Try.ntmps23 (by simp) fun A X W hA hX hW => ?_
  cbv
  replace hn : n = (l.length : Int) := hn
  refine loopL (T := fun _ => tabY [24, 25, 28, 29, 38, 39] []) (H := fun _ => []) (tabY_ok _ _) noK_ok follows_mixed hA hX (fun x : Int × Attr × Int => (0 ≤ x.1 ∧ x.1 ≤ n) ∧ x.2 = (l.take x.1.toNat).foldl (mostS l) (zeroA, 0)) (fun x => [(0, .d (.slc 8 xs)), (2, .ref 0 0 0), (4, .ref 1 0 0), (5, .d (.sc (.int .i64 x.2.2))), (6, .d (.sc (.int .i64 x.1)))]) (fun x => [⟨25, [.d (.sc (.int .i64 0)), .d (.sc (.int .i64 0)), .d (.sc (.int .i64 0)), .d (.sc (.int .i64 0)), .d (.sc (.int .i64 0)), .d (.sc (.int .i64 0)), .d (.sc (.int .i64 0)), .d (.sc (.int .i64 0))], false, 0, true⟩, ⟨25, [.d (.sc (.int .i64 x.2.1.seq)), .d (.sc (.int .i64 x.2.1.d0)), .d (.sc (.int .i64 x.2.1.d1)), .d (.sc (.int .i64 x.2.1.d2)), .d (.sc (.int .i64 x.2.1.d3)), .d (.sc (.int .i64 x.2.1.d4)), .d (.sc (.int .i64 x.2.1.d5)), .d (.sc (.int .i64 x.2.1.d6))], false, 0, true⟩]) (fun x => n.toNat - x.1.toNat) (0, zeroA, 0) ⟨⟨Int.le_refl 0, by show 0 ≤ n; omega⟩, rfl⟩ (by subst hA; exact told_less (by simp [toldP, getS, zeroA])) ?_
  rintro R ⟨i, p, c0⟩ hR ⟨⟨i0, i1⟩, hp⟩
  replace i0 : 0 ≤ i := i0
  replace i1 : i ≤ n := i1
  replace hp : (p, c0) = (l.take i.toNat).foldl (mostS l) (zeroA, 0) := hp
  cbv
  refine part (fun h => ?_) (fun h => ?_)
  · cbv
    replace hn : n = (l.length : Int) := hn
    replace hlen : xs.length = l.length := hlen
    replace hl : l.length ≤ 4194304 := hl
    have hlt : i < (l.length : Int) := by subst hA; simp only [A0, nc, decide_eq_true_eq] at h; replace h : i < (xs.length : Int) := h; omega
    have hlN : i.toNat < l.length := by omega
    have hrow := arow hxs i0 hlt
    have hst := most_step hlN hp
    obtain ⟨a, ha⟩ : ∃ a, l[i.toNat] = a := ⟨_, rfl⟩
    rw [ha] at hrow hst
    refine loopL (T := fun _ => tabY [24, 25, 28, 29, 38, 39] []) (H := fun _ => []) (tabY_ok _ _) noK_ok follows_mixed hA hX (fun x : Int × Int => (0 ≤ x.1 ∧ x.1 ≤ n) ∧ x.2 = ((l.take x.1.toNat).count a : Int)) (fun x => [(0, .d (.slc 8 xs)), (2, .ref 0 0 0), (4, .ref 1 0 0), (5, .d (.sc (.int .i64 c0))), (6, .d (.sc (.int .i64 i))), (7, .d (.sc (.int .i64 x.2))), (8, .d (.sc (.int .i64 x.1)))]) (fun x => [⟨25, [.d (.sc (.int .i64 0)), .d (.sc (.int .i64 0)), .d (.sc (.int .i64 0)), .d (.sc (.int .i64 0)), .d (.sc (.int .i64 0)), .d (.sc (.int .i64 0)), .d (.sc (.int .i64 0)), .d (.sc (.int .i64 0))], false, 0, true⟩, ⟨25, [.d (.sc (.int .i64 p.seq)), .d (.sc (.int .i64 p.d0)), .d (.sc (.int .i64 p.d1)), .d (.sc (.int .i64 p.d2)), .d (.sc (.int .i64 p.d3)), .d (.sc (.int .i64 p.d4)), .d (.sc (.int .i64 p.d5)), .d (.sc (.int .i64 p.d6))], false, 0, true⟩]) (fun x => n.toNat - x.1.toNat) (0, 0) ⟨⟨Int.le_refl 0, by show 0 ≤ n; omega⟩, by simp⟩ (told_less (by simp [toldP, getS])) ?_
    rintro R2 ⟨j, c⟩ hR2 ⟨⟨j0, j1⟩, hc⟩
    replace j0 : 0 ≤ j := j0
    replace j1 : j ≤ n := j1
    replace hc : c = ((l.take j.toNat).count a : Int) := hc
    cbv
    repeat' first
      | (refine part (fun h => ?_) (fun h => ?_) <;> try cbv)
      | (refine And.intro ?_ ?_)
    all_goals replace hn : n = (l.length : Int) := hn
    all_goals replace hlen : xs.length = l.length := hlen
    all_goals replace hl : l.length ≤ 4194304 := hl
    all_goals replace hc : c = ((l.take j.toNat).count a : Int) := hc
    all_goals subst hA hX hW hR hR2
    all_goals simp only [A0, nc, hrow, decide_eq_true_eq, decide_eq_false_iff_not, Bool.not_eq_true', Bool.not_eq_false'] at *
    all_goals have ei : IntKind.wrap .i64 (i + 1) = i + 1 := wrap_i64 (by unfold r64; omega)
    all_goals have ej : IntKind.wrap .i64 (j + 1) = j + 1 := wrap_i64 (by unfold r64; omega)
    all_goals have hcl : (l.take j.toNat).count a ≤ l.length := Nat.le_trans List.count_le_length (by simp; omega)
    all_goals have ec : IntKind.wrap .i64 (c + 1) = c + 1 := wrap_i64 (by unfold r64; omega)
    all_goals try
      have hjt : j < (l.length : Int) := by omega
      have hjN : j.toNat < l.length := by omega
      have hrj := arow hxs j0 hjt
      have hcs := count_take_succ hjN a
      rw [show j.toNat + 1 = (j + 1).toNat by omega] at hcs
      generalize l[j.toNat] = b at hrj hcs
      simp only [hrj] at *
    all_goals first
      | (show Region.lexB _ _ = true; kernel_rfl)
      | (show turnsB _ = true; kernel_rfl)
      | (intros; first | assumption | trivial | omega | (simp_all; done))
      | (refine ⟨by omega, by omega⟩)
      | (simp [Attr.row]; done)
      | skip
    all_goals try simp only [Attr.row, List.map_cons, List.map_nil, List.getElem?_cons_zero, List.getElem?_cons_succ, Nat.zero_add, Nat.reduceAdd, List.drop_zero] at *
    all_goals first
      | (have e : b = a := by
           rw [eq_attr] at h
           exact of_decide_eq_true h
         rw [if_pos e] at hcs
         refine ⟨(j + 1, c + 1), ⟨⟨by show 0 ≤ j + 1; omega, by show j + 1 ≤ n; omega⟩, ?_⟩, ?_, told_less ?_⟩
         · show c + 1 = ((l.take (j + 1).toNat).count a : Int); rw [hcs, hc]
         · show n.toNat - (j + 1).toNat < n.toNat - j.toNat; omega
         · simp [toldP, getS, ej, ec])
      | (have e : ¬ b = a := by
           rw [eq_attr] at h
           exact of_decide_eq_false h
         rw [if_neg e] at hcs
         refine ⟨(j + 1, c), ⟨⟨by show 0 ≤ j + 1; omega, by show j + 1 ≤ n; omega⟩, ?_⟩, ?_, told_less ?_⟩
         · show c = ((l.take (j + 1).toNat).count a : Int); rw [hcs, hc]; omega
         · show n.toNat - (j + 1).toNat < n.toNat - j.toNat; omega
         · simp [toldP, getS, ej])
      | (have hjn : ¬ j < (xs.length : Int) := by assumption
         have ht : l.take j.toNat = l := List.take_of_length_le (by omega)
         rw [ht] at hc
         rw [← hc] at hst
         rw [show i.toNat + 1 = (i + 1).toNat by omega] at hst
         first
           | (rw [if_pos h] at hst
              refine ⟨(i + 1, a, c), ⟨⟨by show 0 ≤ i + 1; omega, by show i + 1 ≤ n; omega⟩, hst.symm⟩, ?_, told_less ?_⟩
              · show n.toNat - (i + 1).toNat < n.toNat - i.toNat; omega
              · simp [toldP, getS, ei])
           | (rw [if_neg h] at hst
              refine ⟨(i + 1, p, c0), ⟨⟨by show 0 ≤ i + 1; omega, by show i + 1 ≤ n; omega⟩, hst.symm⟩, ?_, told_less ?_⟩
              · show n.toNat - (i + 1).toNat < n.toNat - i.toNat; omega
              · simp [toldP, getS, ei]))
  · cbv
    replace hn : n = (l.length : Int) := hn
    replace hlen : xs.length = l.length := hlen
    subst hA hX hW
    simp only [A0, nc, decide_eq_false_iff_not] at h
    replace h : ¬ i < (xs.length : Int) := h
    have ht : l.take i.toNat = l := List.take_of_length_le (by omega)
    rw [ht] at hp
    refine ret_v ?_ rfl
    rw [hM]
    unfold mostL
    rw [← hp]
    rfl
def kn_mostR (F : FsO2) : FuncId × (List DV → RV) := (23, fun args => match args with
  | [.d (.slc 8 xs)] => some ([F.isAt xs], .tup [Attr.D (((F.mostR xs)).1), intD (((F.mostR xs)).2)])
  | [.d (.sc (.slice none 0 0))] => some ([F.isAt []], .tup [Attr.D (((F.mostR [])).1), intD (((F.mostR [])).2)])
  | _ => none)
theorem ok_mostR (args : List DV) (cs : List Prop) (r : DV) (h : (kn_mostR FsO20).2 args = some (cs, r)) (hc : allP cs True) : FnV Try.prog 23 args r ∧ closedL 0 args = true := by
  unfold kn_mostR at h
  simp only at h
  split at h
  · cases h; exact ⟨v_mostR _ hc.1, rfl⟩
  · cases h; exact ⟨FnP.nils (v_mostR [] hc.1) ⟨.inr ⟨rfl, _, rfl⟩, trivial⟩, rfl⟩
  · cases h
end Go.Proofs.Ytikodmddomaneaa
namespace Go.Proofs.Ytikodmddomaneaa
open Go.RowKit
set_option linter.all false
set_option maxHeartbeats 4000000

structure FsI2 where
  listR : Deps → Deps → List (List PD)
  rDeps : Deps → Prop
def FsI20 : FsI2 where
  listR := fun d f => instsX (listD d f)
  rDeps := rDeps
set_option maxRecDepth 100000 in
theorem v_listR (d : Deps) (f : Deps) (hp0 : FsI20.rDeps d) (hp1 : FsI20.rDeps f) : FnV Try.prog 24 [Deps.D d, Deps.D f] (.d (.slc 2 ((fun d f => instsX (listD d f)) d f))) := by
  obtain ⟨d_d0, d_d1, d_d2, d_d3, d_d4, d_d5, d_d6⟩ := d
  obtain ⟨f_d0, f_d1, f_d2, f_d3, f_d4, f_d5, f_d6⟩ := f
  have hd : rDeps ⟨d_d0, d_d1, d_d2, d_d3, d_d4, d_d5, d_d6⟩ := hp0
  have hf : rDeps ⟨f_d0, f_d1, f_d2, f_d3, f_d4, f_d5, f_d6⟩ := hp1
  obtain ⟨D, hD⟩ : ∃ D : Deps, D = ⟨d_d0, d_d1, d_d2, d_d3, d_d4, d_d5, d_d6⟩ := ⟨_, rfl⟩
  obtain ⟨G, hG⟩ : ∃ G : Deps, G = ⟨f_d0, f_d1, f_d2, f_d3, f_d4, f_d5, f_d6⟩ := ⟨_, rfl⟩
  rw [← hD] at hd
  rw [← hG] at hf
  obtain ⟨dc, hdc⟩ : ∃ dc, dc = dC D := ⟨_, rfl⟩
  obtain ⟨fc, hfc⟩ : ∃ fc, fc = dC G := ⟨_, rfl⟩
  refine FnD_cbv (T := fun _ => tabY [13, 18] []) (H := fun _ => []) (tabY_ok _ _) noK_ok follows_mixed Try.func24 rfl Try.ntmps24 (by simp) fun A X W hA hX hW => ?_
  cbv
  refine loopL (T := fun _ => tabY [13, 18] []) (H := fun _ => []) (tabY_ok _ _) noK_ok follows_mixed hA hX (fun x : Int × List Inst × Option (List DV × Nat × Nat) => (0 ≤ x.1 ∧ x.1 ≤ 7) ∧ x.2.1 = listN D G x.1.toNat ∧ liI x.2.1 x.2.2)
    (fun x => [(2, .ref 0 0 0), (3, .ref 1 0 0), (5, liS x.2.2), (6, .d (.sc (.int .i64 x.1)))]) (fun x => [⟨23, dc, false, 0, true⟩, ⟨23, fc, false, 0, true⟩] ++ liT x.2.2)
    (fun x => 7 - x.1.toNat) (0, [], none) ?_ ?_ ?_
  · exact ⟨⟨by decide, by decide⟩, rfl, rfl⟩
  · subst hA hdc hfc hD hG; exact told_less (by simp [toldP, getS, A0, liS, dC])
  rintro R ⟨r, acc, o⟩ hR ⟨hr, hacc, ho⟩
  replace hr : 0 ≤ r ∧ r ≤ 7 := hr
  replace hacc : acc = listN D G r.toNat := hacc
  replace ho : o = none ∧ acc = [] ∨ ∃ cs v m, o = some (cs, v, m) ∧ cs = rowsD (instsX acc) ∧ m = acc.length := by
    rcases o with _ | ⟨cs, v, m⟩
    · exact .inl ⟨rfl, ho⟩
    · exact .inr ⟨cs, v, m, rfl, ho⟩
  rcases ho with ⟨rfl, ho⟩ | ⟨cs, v, m, rfl, hcs, hm⟩ <;>
  cbv
  all_goals
    repeat' first
      | (refine part (fun h => ?_) (fun h => ?_) <;> try cbv)
      | (refine And.intro ?_ ?_)
  all_goals try (subst hA; simp only [A0]; done)
  all_goals try
    (have hX2 := hX
     subst hA hX hW hR
     simp only [A0, nc, decide_eq_true_eq, decide_eq_false_iff_not] at *
     first
       | rfl
       | (have hr7 : r < 7 := by omega
          have e1 := dC_at D hr.1 hr7
          have e2 := dC_at G hr.1 hr7
          rw [← hdc] at e1
          rw [← hfc] at e2
          first
            | exact ⟨hr.1, by omega⟩
            | (simp only [Nat.zero_add, Nat.mul_one, e1]; exact ⟨rfl, load1 e1⟩)
            | (simp only [Nat.zero_add, Nat.mul_one, e2]; exact ⟨rfl, load1 e2⟩))
       | (have hr7 : r = 7 := by omega
          subst hr7
          have hL : acc = listD D G := hacc
          show RetW 0 _ _ _
          rw [← hD, ← hG]
          first
            | (subst ho; rw [← hL]; exact ret_nil rfl)
            | (refine ret_slice (bx := ⟨34, cs, true, v, true⟩) (xs := instsX acc) rfl rfl rfl ?_ hcs ?_ ?_
               · rw [hm, instsX_length]
               · intro x hx
                 simp only [instsX, List.mem_map] at hx
                 obtain ⟨_, _, rfl⟩ := hx
                 rfl
               · rw [← hL])))

  · have hr7 : r < 7 := by
      subst hA
      simpa only [A0, nc, decide_eq_true_eq] using h
    have e1 := dC_at D hr.1 hr7
    have e2 := dC_at G hr.1 hr7
    rw [← hdc] at e1
    rw [← hfc] at e2
    have hto := hd.at r
    have hfr := hf.at r
    obtain ⟨to, hto2⟩ : ∃ to, to = D.at r := ⟨_, rfl⟩
    obtain ⟨k0, hk0⟩ : ∃ k0, k0 = max (G.at r) 0 := ⟨_, rfl⟩
    have hkr : 0 ≤ k0 ∧ k0 ≤ 9223372036854775807 := by unfold r64 at hfr; omega
    rw [← hto2] at hto
    have e1l := load1 e1
    rw [← hto2] at e1l
    unfold r64 at hto
    have hL : listN D G (r + 1).toNat = listR r k0 (to - k0).toNat acc := by
      rw [show (r + 1).toNat = r.toNat + 1 by omega, listN, ← hacc, show ((r.toNat : Nat) : Int) = r by omega, hto2, hk0]
    have hlen : acc.length ≤ 1000 := by rw [hacc]; exact listN_len D G _
    obtain ⟨L, hLe⟩ : ∃ L, L = listN D G (r + 1).toNat := ⟨_, rfl⟩
    rw [← hLe] at hL
    refine loopL (T := fun _ => tabY [13, 18] []) (H := fun _ => []) (tabY_ok _ _) noK_ok follows_mixed hA hX (fun x : Int × List Inst × Option (List DV × Nat × Nat) => (0 ≤ x.1 ∧ x.1 ≤ 9223372036854775807) ∧ L = listR r x.1 (to - x.1).toNat x.2.1 ∧ x.2.1.length ≤ 1000 ∧ liI x.2.1 x.2.2)
      (fun x => [(2, .ref 0 0 0), (3, .ref 1 0 0), (5, liS x.2.2), (6, .d (.sc (.int .i64 r))), (7, .d (.sc (.int .i64 x.1)))]) (fun x => [⟨23, dc, false, 0, true⟩, ⟨23, fc, false, 0, true⟩] ++ liT x.2.2)
      (fun x => (to - x.1).toNat) (k0, acc, none) ?_ ?_ ?_
    · exact ⟨hkr, hL, hlen, ho⟩
    · subst hA
      refine told_less ?_
      simp only [A0, nc, Nat.zero_add, Nat.mul_one, e1, e2]
      exact ⟨.inl rfl, .inl rfl, .inl rfl, .inl rfl, .inl (congrArg (fun n => DV.d (.sc (.int .i64 n))) hk0), trivial⟩
    rintro R2 ⟨k, acc2, o2⟩ hR2 ⟨hk, hL2, hl2, ho2⟩
    replace hk : 0 ≤ k ∧ k ≤ 9223372036854775807 := hk
    replace hL2 : L = listR r k (to - k).toNat acc2 := hL2
    replace hl2 : acc2.length ≤ 1000 := hl2
    replace ho2 : o2 = none ∧ acc2 = [] ∨ ∃ cs v m, o2 = some (cs, v, m) ∧ cs = rowsD (instsX acc2) ∧ m = acc2.length := by
      rcases o2 with _ | ⟨cs, v, m⟩
      · exact .inl ⟨rfl, ho2⟩
      · exact .inr ⟨cs, v, m, rfl, ho2⟩
    rcases ho2 with ⟨rfl, ho2⟩ | ⟨cs2, v2, m2, rfl, hcs2, hm2⟩ <;>
    cbv
    all_goals
      repeat' first
        | (refine part (fun h => ?_) (fun h => ?_) <;> try cbv)
        | (refine And.intro ?_ ?_)
    all_goals replace hk : 0 ≤ k ∧ k ≤ 9223372036854775807 := hk
    all_goals replace hr : 0 ≤ r ∧ r ≤ 7 := hr
    all_goals have er : IntKind.wrap .i64 (r + 1) = r + 1 := wrap_i64 (by unfold r64; omega)
    all_goals have g1 : (0 : Int) ≤ r + 1 := by omega
    all_goals have g2 : r + 1 ≤ 7 := by omega
    all_goals have g3 : 7 - (r + 1).toNat < 7 - r.toNat := by omega
    all_goals subst hA hR2 hR
    all_goals simp only [A0, nc] at *
    all_goals try simp only [Nat.zero_add, Nat.mul_one, e1, ← hto2] at *
    all_goals first
      | (intros; first | assumption | trivial | omega | (simp_all; done))
      | (refine ⟨by omega, by omega⟩)
      | exact ⟨rfl, e1l⟩
      | (have hz : ∀ x ∈ instsX acc2, x.length = 2 := by
           intro x hx
           simp only [instsX, List.mem_map] at hx
           obtain ⟨_, _, rfl⟩ := hx
           rfl
         rw [hcs2, rowsD_len hz, hm2, instsX_length]
         done)
      | (have hc := ‹(bif decide (k < to) then decide _ else false) = true›
         simp only [cond_eq_ite, Bool.ite_eq_true_distrib, decide_eq_true_eq, Bool.if_false_right, Bool.and_eq_true] at hc
         obtain ⟨hc1, hc2⟩ := hc
         have ek : IntKind.wrap .i64 (k + 1) = k + 1 := wrap_i64 (by unfold r64; omega)
         have gk1 : (0 : Int) ≤ k + 1 := by omega
         have gk2 : k + 1 ≤ 9223372036854775807 := by omega
         have gk3 : (to - (k + 1)).toNat < (to - k).toNat := by omega
         first
           | (subst ho2
              have hs := listR_step (r := r) (out := []) hc1 (by simp)
              refine ⟨(k + 1, [⟨r, k + 1⟩], some (rowsD (instsX [⟨r, k + 1⟩]), 0, 1)), ⟨⟨gk1, gk2⟩, hL2.trans hs, by simp, rfl, rfl⟩, gk3, told_keep [0, 1, 3] rfl ?_ ?_⟩
              · simp [keepSt, pullBox, pullL_eq, pullD, liT, hdc, hfc, dC, rowsD, instsX, Inst.row, ek]
              · simp only [ek]
                exact ⟨.inl rfl, .inl rfl, .inl rfl, .inl rfl, .inl rfl, trivial⟩))
      | (have hc := ‹(bif decide (k < to) then decide _ else false) = false›
         have hne : ¬ (k < to ∧ acc2.length < 1000) := by
           rintro ⟨q1, q2⟩
           first
             | (subst ho2; simp [q1] at hc; done)
             | (have : decide ((m2 : Int) < 1000) = true := by simp; omega
                simp [q1, this] at hc)
         have hs := listR_end (r := r) hne
         have hLL : acc2 = L := by rw [hL2]; exact hs.symm
         first
           | (refine ⟨(r + 1, acc2, none), ⟨⟨g1, g2⟩, by rw [hLL, hLe], ho2⟩, g3, told_keep [0, 1] rfl ?_ ?_⟩
              · simp [keepSt, pullBox, pullL_eq, pullD, liT, hdc, hfc, dC]
              · simp only [er]
                exact ⟨.inl rfl, .inl rfl, .inl rfl, .inl rfl, trivial⟩)
           | (refine ⟨(r + 1, acc2, some (cs2, v2, m2)), ⟨⟨g1, g2⟩, by rw [hLL, hLe], hcs2, hm2⟩, g3, told_keep [0, 1, 2] rfl ?_ ?_⟩
              · simp [keepSt, pullBox, pullL_eq, pullD, liT, hdc, hfc, dC, hcs2, pull_rows]
              · simp only [er]
                exact ⟨.inl rfl, .inl rfl, .inl rfl, .inl rfl, trivial⟩))
      | skip
    · have hc := ‹(bif decide (k < to) then decide _ else false) = true›
      simp only [cond_eq_ite, Bool.ite_eq_true_distrib, decide_eq_true_eq, Bool.if_false_right, Bool.and_eq_true] at hc
      obtain ⟨hc1, hc2⟩ := hc
      have ek : IntKind.wrap .i64 (k + 1) = k + 1 := wrap_i64 (by unfold r64; omega)
      have gk1 : (0 : Int) ≤ k + 1 := by omega
      have gk2 : k + 1 ≤ 9223372036854775807 := by omega
      have gk3 : (to - (k + 1)).toNat < (to - k).toNat := by omega
      have hl3 : acc2.length < 1000 := by omega
      have hs := listR_step (r := r) (out := acc2) hc1 hl3
      refine ⟨(k + 1, acc2 ++ [⟨r, k + 1⟩], some (cs2 ++ rowsD (instsX [⟨r, k + 1⟩]), v2 + 1, m2 + 1)), ⟨⟨gk1, gk2⟩, hL2.trans hs, by show (acc2 ++ [_]).length ≤ 1000; rw [List.length_append, List.length_singleton]; omega, ⟨by rw [hcs2, ← rowsD_append]; simp [instsX], by rw [hm2]; simp⟩⟩, gk3, told_keep [0, 1, 2] rfl ?_ ?_⟩
      · have hr2 : rowsD (instsX [⟨r, k + 1⟩]) = [.d (.sc (.int .i64 r)), .d (.sc (.int .i64 (k + 1)))] := rfl
        simp [keepSt, pullBox, pullL_eq, pullD, liT, hdc, hfc, dC, hcs2, pull_rows, hr2, ek]
      · simp only [ek]
        exact ⟨.inl rfl, .inl rfl, .inl rfl, .inl rfl, .inl rfl, trivial⟩
  · have hr7 : r < 7 := by
      subst hA
      simpa only [A0, nc, decide_eq_true_eq] using h
    have e1 := dC_at D hr.1 hr7
    have e2 := dC_at G hr.1 hr7
    rw [← hdc] at e1
    rw [← hfc] at e2
    have hto := hd.at r
    have hfr := hf.at r
    obtain ⟨to, hto2⟩ : ∃ to, to = D.at r := ⟨_, rfl⟩
    obtain ⟨k0, hk0⟩ : ∃ k0, k0 = max (G.at r) 0 := ⟨_, rfl⟩
    have hkr : 0 ≤ k0 ∧ k0 ≤ 9223372036854775807 := by unfold r64 at hfr; omega
    rw [← hto2] at hto
    have e1l := load1 e1
    rw [← hto2] at e1l
    unfold r64 at hto
    have hL : listN D G (r + 1).toNat = listR r k0 (to - k0).toNat acc := by
      rw [show (r + 1).toNat = r.toNat + 1 by omega, listN, ← hacc, show ((r.toNat : Nat) : Int) = r by omega, hto2, hk0]
    have hlen : acc.length ≤ 1000 := by rw [hacc]; exact listN_len D G _
    obtain ⟨L, hLe⟩ : ∃ L, L = listN D G (r + 1).toNat := ⟨_, rfl⟩
    rw [← hLe] at hL
    refine loopL (T := fun _ => tabY [13, 18] []) (H := fun _ => []) (tabY_ok _ _) noK_ok follows_mixed hA hX (fun x : Int × List Inst × Option (List DV × Nat × Nat) => (0 ≤ x.1 ∧ x.1 ≤ 9223372036854775807) ∧ L = listR r x.1 (to - x.1).toNat x.2.1 ∧ x.2.1.length ≤ 1000 ∧ liI x.2.1 x.2.2 ∧ x.2.2.isSome = true)
      (fun x => [(2, .ref 0 0 0), (3, .ref 1 0 0), (5, liS x.2.2), (6, .d (.sc (.int .i64 r))), (7, .d (.sc (.int .i64 x.1)))]) (fun x => [⟨23, dc, false, 0, true⟩, ⟨23, fc, false, 0, true⟩] ++ liT x.2.2)
      (fun x => (to - x.1).toNat) (k0, acc, some (cs, v, m)) ?_ ?_ ?_
    · exact ⟨hkr, hL, hlen, ⟨hcs, hm⟩, rfl⟩
    · subst hA
      refine told_less ?_
      simp only [A0, nc, Nat.zero_add, Nat.mul_one, e1, e2]
      exact ⟨.inl rfl, .inl rfl, .inl rfl, .inl rfl, .inl (congrArg (fun n => DV.d (.sc (.int .i64 n))) hk0), trivial⟩
    rintro R2 ⟨k, acc2, o2⟩ hR2 ⟨hk, hL2, hl2, ho2, hsome⟩
    replace hk : 0 ≤ k ∧ k ≤ 9223372036854775807 := hk
    replace hL2 : L = listR r k (to - k).toNat acc2 := hL2
    replace hl2 : acc2.length ≤ 1000 := hl2
    replace ho2 : o2 = none ∧ acc2 = [] ∨ ∃ cs v m, o2 = some (cs, v, m) ∧ cs = rowsD (instsX acc2) ∧ m = acc2.length := by
      rcases o2 with _ | ⟨cs, v, m⟩
      · exact .inl ⟨rfl, ho2⟩
      · exact .inr ⟨cs, v, m, rfl, ho2⟩
    rcases ho2 with ⟨rfl, ho2⟩ | ⟨cs2, v2, m2, rfl, hcs2, hm2⟩
    · cases hsome
    cbv
    all_goals
      repeat' first
        | (refine part (fun h => ?_) (fun h => ?_) <;> try cbv)
        | (refine And.intro ?_ ?_)
    all_goals replace hk : 0 ≤ k ∧ k ≤ 9223372036854775807 := hk
    all_goals replace hr : 0 ≤ r ∧ r ≤ 7 := hr
    all_goals have er : IntKind.wrap .i64 (r + 1) = r + 1 := wrap_i64 (by unfold r64; omega)
    all_goals have g1 : (0 : Int) ≤ r + 1 := by omega
    all_goals have g2 : r + 1 ≤ 7 := by omega
    all_goals have g3 : 7 - (r + 1).toNat < 7 - r.toNat := by omega
    all_goals subst hA hR2 hR
    all_goals simp only [A0, nc] at *
    all_goals try simp only [Nat.zero_add, Nat.mul_one, e1, ← hto2] at *
    all_goals first
      | (intros; first | assumption | trivial | omega | (simp_all; done))
      | (refine ⟨by omega, by omega⟩)
      | exact ⟨rfl, e1l⟩
      | (have hz : ∀ x ∈ instsX acc2, x.length = 2 := by
           intro x hx
           simp only [instsX, List.mem_map] at hx
           obtain ⟨_, _, rfl⟩ := hx
           rfl
         rw [hcs2, rowsD_len hz, hm2, instsX_length]
         done)
      | (have hc := ‹(bif decide (k < to) then decide _ else false) = true›
         simp only [cond_eq_ite, Bool.ite_eq_true_distrib, decide_eq_true_eq, Bool.if_false_right, Bool.and_eq_true] at hc
         obtain ⟨hc1, hc2⟩ := hc
         have ek : IntKind.wrap .i64 (k + 1) = k + 1 := wrap_i64 (by unfold r64; omega)
         have gk1 : (0 : Int) ≤ k + 1 := by omega
         have gk2 : k + 1 ≤ 9223372036854775807 := by omega
         have gk3 : (to - (k + 1)).toNat < (to - k).toNat := by omega
         first
           | (subst ho2
              have hs := listR_step (r := r) (out := []) hc1 (by simp)
              refine ⟨(k + 1, [⟨r, k + 1⟩], some (rowsD (instsX [⟨r, k + 1⟩]), 0, 1)), ⟨⟨gk1, gk2⟩, hL2.trans hs, by simp, rfl, rfl⟩, gk3, told_keep [0, 1, 3] rfl ?_ ?_⟩
              · simp [keepSt, pullBox, pullL_eq, pullD, liT, hdc, hfc, dC, rowsD, instsX, Inst.row, ek]
              · simp only [ek]
                exact ⟨.inl rfl, .inl rfl, .inl rfl, .inl rfl, .inl rfl, trivial⟩))
      | (have hc := ‹(bif decide (k < to) then decide _ else false) = false›
         have hne : ¬ (k < to ∧ acc2.length < 1000) := by
           rintro ⟨q1, q2⟩
           first
             | (subst ho2; simp [q1] at hc; done)
             | (have : decide ((m2 : Int) < 1000) = true := by simp; omega
                simp [q1, this] at hc)
         have hs := listR_end (r := r) hne
         have hLL : acc2 = L := by rw [hL2]; exact hs.symm
         first
           | (refine ⟨(r + 1, acc2, none), ⟨⟨g1, g2⟩, by rw [hLL, hLe], ho2⟩, g3, told_keep [0, 1] rfl ?_ ?_⟩
              · simp [keepSt, pullBox, pullL_eq, pullD, liT, hdc, hfc, dC]
              · simp only [er]
                exact ⟨.inl rfl, .inl rfl, .inl rfl, .inl rfl, trivial⟩)
           | (refine ⟨(r + 1, acc2, some (cs2, v2, m2)), ⟨⟨g1, g2⟩, by rw [hLL, hLe], hcs2, hm2⟩, g3, told_keep [0, 1, 2] rfl ?_ ?_⟩
              · simp [keepSt, pullBox, pullL_eq, pullD, liT, hdc, hfc, dC, hcs2, pull_rows]
              · simp only [er]
                exact ⟨.inl rfl, .inl rfl, .inl rfl, .inl rfl, trivial⟩))
      | skip
    · have hc := ‹(bif decide (k < to) then decide _ else false) = true›
      simp only [cond_eq_ite, Bool.ite_eq_true_distrib, decide_eq_true_eq, Bool.if_false_right, Bool.and_eq_true] at hc
      obtain ⟨hc1, hc2⟩ := hc
      have ek : IntKind.wrap .i64 (k + 1) = k + 1 := wrap_i64 (by unfold r64; omega)
      have gk1 : (0 : Int) ≤ k + 1 := by omega
      have gk2 : k + 1 ≤ 9223372036854775807 := by omega
      have gk3 : (to - (k + 1)).toNat < (to - k).toNat := by omega
      have hl3 : acc2.length < 1000 := by omega
      have hs := listR_step (r := r) (out := acc2) hc1 hl3
      refine ⟨(k + 1, acc2 ++ [⟨r, k + 1⟩], some (cs2 ++ rowsD (instsX [⟨r, k + 1⟩]), v2 + 1, m2 + 1)), ⟨⟨gk1, gk2⟩, hL2.trans hs, by show (acc2 ++ [_]).length ≤ 1000; rw [List.length_append, List.length_singleton]; omega, ⟨by rw [hcs2, ← rowsD_append]; simp [instsX], by rw [hm2]; simp⟩, rfl⟩, gk3, told_keep [0, 1, 2] rfl ?_ ?_⟩
      · have hr2 : rowsD (instsX [⟨r, k + 1⟩]) = [.d (.sc (.int .i64 r)), .d (.sc (.int .i64 (k + 1)))] := rfl
        simp [keepSt, pullBox, pullL_eq, pullD, liT, hdc, hfc, dC, hcs2, pull_rows, hr2, ek]
      · simp only [ek]
        exact ⟨.inl rfl, .inl rfl, .inl rfl, .inl rfl, .inl rfl, trivial⟩
def kn_listR (F : FsI2) : FuncId × (List DV → RV) := (24, fun args => match args with
  | [.agg [.d (.sc (.int .i64 d_d0)), .d (.sc (.int .i64 d_d1)), .d (.sc (.int .i64 d_d2)), .d (.sc (.int .i64 d_d3)), .d (.sc (.int .i64 d_d4)), .d (.sc (.int .i64 d_d5)), .d (.sc (.int .i64 d_d6))], .agg [.d (.sc (.int .i64 f_d0)), .d (.sc (.int .i64 f_d1)), .d (.sc (.int .i64 f_d2)), .d (.sc (.int .i64 f_d3)), .d (.sc (.int .i64 f_d4)), .d (.sc (.int .i64 f_d5)), .d (.sc (.int .i64 f_d6))]] => some ([F.rDeps ⟨d_d0, d_d1, d_d2, d_d3, d_d4, d_d5, d_d6⟩, F.rDeps ⟨f_d0, f_d1, f_d2, f_d3, f_d4, f_d5, f_d6⟩], .d (.slc 2 (F.listR ⟨d_d0, d_d1, d_d2, d_d3, d_d4, d_d5, d_d6⟩ ⟨f_d0, f_d1, f_d2, f_d3, f_d4, f_d5, f_d6⟩)))
  | _ => none)
theorem ok_listR (args : List DV) (cs : List Prop) (r : DV) (h : (kn_listR FsI20).2 args = some (cs, r)) (hc : allP cs True) : FnV Try.prog 24 args r ∧ closedL 0 args = true := by
  unfold kn_listR at h
  simp only at h
  split at h
  · cases h; exact ⟨v_listR ⟨_, _, _, _, _, _, _⟩ ⟨_, _, _, _, _, _, _⟩ hc.1 hc.2.1, rfl⟩
  · cases h
end Go.Proofs.Ytikodmddomaneaa
