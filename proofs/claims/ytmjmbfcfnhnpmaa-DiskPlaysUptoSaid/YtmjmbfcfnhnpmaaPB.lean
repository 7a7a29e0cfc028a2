/- What chapter 8's laws' arguments are, read off their shapes. No condition. -/
import Derived.Test.YtmjmbfcfnhnpmaaAm29
import Derived.Test.YtmjmbfcfnhnpmaaPA
import Derived.Test.YtmjmbfcfnhnpmaaAm44
namespace Go.Proofs.Ytmjmbfcfnhnpmaa
open Go.RowKit
set_option linter.all false
set_option maxHeartbeats 4000000
theorem wf_i64 {n : Int} (h : (Lit.int .i64 n).wf = true) : r64 n := by
  simp only [Lit.wf, Bool.and_eq_true, decide_eq_true_eq] at h
  exact h
theorem wf_u8 {n : Int} (h : (Lit.int .u8 n).wf = true) : 0 ≤ n ∧ n ≤ 255 := by
  simp only [Lit.wf, Bool.and_eq_true, decide_eq_true_eq] at h
  exact h
theorem fit_bytes : ∀ (xs : List (List PD)), (∀ x ∈ xs, FitL [.int .u8] x) → ∃ bs, xs = bytesP bs
  | [], _ => ⟨[], rfl⟩
  | x :: xs, h => by
      obtain ⟨bs, rfl⟩ := fit_bytes xs (fun y hy => h y (by simp [hy]))
      have h0 := h x (by simp)
      simp only [FitL, FitP] at h0
      obtain ⟨_, _, rfl, ⟨n, rfl, hn⟩, rfl⟩ := h0
      have := wf_u8 hn
      refine ⟨UInt8.ofNat n.toNat :: bs, ?_⟩
      have e : ((UInt8.ofNat n.toNat).toNat : Int) = n := by simp; omega
      simp only [bytesP, List.map_cons, e]
theorem wt_rows : ∀ xs : List (List PD), (∀ x ∈ xs, x ≠ []) → xs.length ≤ wtR xs
  | [], _ => by simp
  | x :: xs, h => by
      have h1 := wt_rows xs (fun y hy => h y (by simp [hy]))
      have h2 := h x (by simp)
      cases x with
      | nil => exact absurd rfl h2
      | cons p ps =>
        have : 1 ≤ wtP p := by
          cases p with
          | sc v =>
            unfold wtP
            split <;> omega
          | slc sz ys => unfold wtP; omega
        simp only [wtR, wtL, List.length_cons]
        omega
theorem fit_int {ps : List PD} (h : FitL [.int .i64] ps) : ∃ n, ps = [.sc (.int .i64 n)] ∧ r64 n := by
  simp only [FitL, FitP] at h
  obtain ⟨_, _, rfl, ⟨n, rfl, hn⟩, rfl⟩ := h
  exact ⟨n, rfl, wf_i64 hn⟩
theorem wt_bytes (bs : List UInt8) : bs.length ≤ wtR (bytesP bs) := by
  have := wt_rows (bytesP bs) (fun x hx e => by
    simp only [bytesP, List.mem_map] at hx
    obtain ⟨_, _, rfl⟩ := hx
    cases e)
  rw [bytesP_length] at this
  exact this
end Go.Proofs.Ytmjmbfcfnhnpmaa
namespace Go.Proofs.Ytmjmbfcfnhnpmaa
open Go.RowKit
set_option linter.all false
set_option maxHeartbeats 4000000
structure AskM where
  k : Int
  n : Int
  nm : ByteArray
  to : ByteArray
  d : List (List PD)
  ps : List (List PD)
def AskM.row (a : AskM) : List PD := [.sc (.int .i64 a.k), .sc (.int .i64 a.n), .sc (.string a.nm), .sc (.string a.to), .slc 1 a.d, .slc 1 a.ps]
def asksX (l : List AskM) : List (List PD) := l.map AskM.row
def okAsk (a : AskM) : Prop := r64 a.k ∧ r64 a.n ∧ a.nm.size ≤ 1048576 ∧ a.to.size ≤ 1048576 ∧ isB a.d ∧ isI a.ps
def isAsks (xs : List (List PD)) : Prop := ∃ l, xs = asksX l ∧ (∀ a ∈ l, okAsk a) ∧ l.length ≤ 1048576
theorem fit_ints : ∀ (xs : List (List PD)), (∀ x ∈ xs, FitL [.int .i64] x) → ∃ ps, xs = intsX ps ∧ (∀ p ∈ ps, r64 p)
  | [], _ => ⟨[], rfl, by simp⟩
  | x :: xs, h => by
      obtain ⟨ps, rfl, h1⟩ := fit_ints xs (fun y hy => h y (by simp [hy]))
      obtain ⟨n, rfl, hn⟩ := fit_int (h x (by simp))
      refine ⟨n :: ps, rfl, ?_⟩
      intro p hp
      rcases List.mem_cons.1 hp with rfl | hp
      · exact hn
      · exact h1 p hp
theorem wt_ints (ps : List Int) : ps.length ≤ wtR (intsX ps) := by
  have := wt_rows (intsX ps) (fun x hx e => by
    simp only [intsX, List.mem_map] at hx
    obtain ⟨_, _, rfl⟩ := hx
    cases e)
  simpa [intsX] using this
theorem fit_asks : ∀ (xs : List (List PD)), (∀ x ∈ xs, FitL [.int .i64, .int .i64, .str, .str, .slc [.int .u8], .slc [.int .i64]] x) → wtR xs ≤ 1048576 → ∃ l, xs = asksX l ∧ (∀ a ∈ l, okAsk a) ∧ l.length ≤ wtR xs
  | [], _, _ => ⟨[], rfl, by simp, by simp⟩
  | x :: xs, h, hw => by
      simp only [wtR] at hw
      obtain ⟨l, rfl, h1, h2⟩ := fit_asks xs (fun y hy => h y (by simp [hy])) (by omega)
      have h0 := h x (by simp)
      simp only [FitL, FitP] at h0
      obtain ⟨_, _, rfl, ⟨a, rfl, ha⟩, _, _, rfl, ⟨b, rfl, hb⟩, _, _, rfl, ⟨c, rfl, hc⟩, _, _, rfl, ⟨d, rfl, hd⟩, _, _, rfl, ⟨e, rfl, he⟩, _, _, rfl, ⟨f, rfl, hf⟩, rfl⟩ := h0
      obtain ⟨bs, rfl⟩ := fit_bytes e he
      obtain ⟨js, rfl, hj⟩ := fit_ints f hf
      have w1 := wt_bytes bs
      have w2 := wt_ints js
      simp only [wtL, wtP] at hw
      refine ⟨⟨a, b, c, d, bytesP bs, intsX js⟩ :: l, rfl, ?_, ?_⟩
      · intro y hy
        rcases List.mem_cons.1 hy with rfl | hy
        · exact ⟨wf_i64 ha, wf_i64 hb, by simp only; omega, by simp only; omega, isB_bytes bs (by omega), ⟨js, rfl, by omega, hj⟩⟩
        · exact h1 y hy
      · simp only [wtR, wtL, wtP, List.length_cons]
        omega
theorem fit_askR {ps : List PD} (h : FitL [.slc [.int .i64, .int .i64, .str, .str, .slc [.int .u8], .slc [.int .i64]]] ps) (hw : wtL ps ≤ 1048576) : ∃ xs, ps = [.slc 6 xs] ∧ isAsks xs := by
  simp only [FitL, FitP] at h
  obtain ⟨_, _, rfl, ⟨xs, rfl, hx⟩, rfl⟩ := h
  simp only [wtL, wtP] at hw
  obtain ⟨l, e, h1, h2⟩ := fit_asks xs hx (by omega)
  exact ⟨xs, rfl, l, e, h1, by omega⟩
end Go.Proofs.Ytmjmbfcfnhnpmaa
namespace Go.Proofs.Ytmjmbfcfnhnpmaa
open Go.RowKit
set_option linter.all false
set_option maxHeartbeats 4000000
structure FsNm where
  rightN : ByteArray → Bool
  sz : ByteArray → Prop
end Go.Proofs.Ytmjmbfcfnhnpmaa
namespace Go.Proofs.Ytmjmbfcfnhnpmaa
open Go.RowKit
set_option linter.all false
theorem ltb_flip {a b : ByteArray} (h : ltb a b = false) (hn : a ≠ b) : ltb b a = true := by
  have := ltb_total a b
  rw [h] at this
  have h2 : (decide (b = a)) = false := by simp; exact fun e => hn e.symm
  rw [h2] at this
  simpa using this.symm
theorem ltb_asym {a b : ByteArray} (h : ltb a b = true) : ltb b a = false := by
  cases e : ltb b a with
  | false => rfl
  | true => have := ltb_trans h e; rw [ltb_irrefl] at this; cases this
end Go.Proofs.Ytmjmbfcfnhnpmaa
namespace Go.Proofs.Ytmjmbfcfnhnpmaa
open Go.RowKit
set_option linter.all false
set_option maxHeartbeats 4000000
end Go.Proofs.Ytmjmbfcfnhnpmaa
namespace Go.Proofs.Ytmjmbfcfnhnpmaa
open Go.RowKit
set_option linter.all false
set_option maxHeartbeats 4000000
/-- The rows of cells that hold one datum each. -/
def unB : List DV → List (List PD)
  | .d p :: r => [p] :: unB r
  | _ => []
def isV (xs : List (List PD)) (cs : List DV) (m : Nat) : Prop := isB xs ∧ isB (unB cs) ∧ cs = rowsD (unB cs) ∧ m = (unB cs).length
def catV (xs : List (List PD)) (cs : List DV) : List (List PD) := xs ++ unB cs
structure FsV where
  catV : List (List PD) → List DV → List (List PD)
  isV : List (List PD) → List DV → Nat → Prop
  ne : Nat → Nat → Prop
end Go.Proofs.Ytmjmbfcfnhnpmaa
namespace Go.Proofs.Ytmjmbfcfnhnpmaa
open Go.RowKit
set_option linter.all false
set_option maxHeartbeats 4000000
end Go.Proofs.Ytmjmbfcfnhnpmaa
namespace Go.Proofs.Ytmjmbfcfnhnpmaa
open Go.RowKit
set_option linter.all false
set_option maxHeartbeats 4000000
theorem bump_dR {D : Dk} {u n w : Nat} {L : List FileM} (res : DV) (hres : ∀ b v w, bumpD b v w res = res) (h : u ≤ w) (hn : n = L.length) {R : DV → Store → Prop} {k : Nat} (hR : R res [dB D.q (.view 3 1 w 0 L.length) D.o D.a D.l, fB (cellsF L) w]) : RetW k R res [dB D.q (.view 3 1 u 0 n) D.o D.a D.l, fB (cellsF L) u] := by
  subst hn
  refine ret_bump2 1 w (fB (cellsF L) u) rfl rfl h ?_
  have e1 : bumpD 1 (fB (cellsF L) u).ver w res = res := hres _ _ _
  have hc : ∀ b v w, bumpL b v w (cellsF L) = cellsF L := fun b v w => by
    rw [bumpL_eq, cellsF, rowsD, List.map_map]
    rfl
  have e2 : bumpSt 1 w [dB D.q (.view 3 1 u 0 L.length) D.o D.a D.l, fB (cellsF L) u] = [dB D.q (.view 3 1 w 0 L.length) D.o D.a D.l, fB (cellsF L) w] := by
    simp [bumpSt, hc, bumpL, bumpD]
  rw [e1, e2]
  exact RetW.refl hR
theorem FnD.fix1 {P : Program} {f : FuncId} {args : List DV} {q : Int} {v n : Nat} {cs : List DV} {o a : Bool} {l : Int} {D : Dk} {res : DV} (hres : ∀ b v w, bumpD b v w res = res) (h : FnD P f args (dkS q (some (v, n, cs)) o a l) fun r st' => dkR (some (v, n, cs)) D res r st') : FnD P f args (dkS q (some (v, n, cs)) o a l) fun r st' => r = res ∧ st' = dkS D.q (some (v + 9, D.L.length, cellsF D.L)) D.o D.a D.l := by
  refine FnD.ret (h.mono ?_)
  rintro r st' ⟨fr', h1, h2, h3, rfl, rfl⟩
  rcases h1 with ⟨h1, _⟩ | ⟨_, h1⟩
  · cases h1
  · rcases fr' with _ | ⟨u, n', cs'⟩
    · exact absurd rfl h1
    · obtain ⟨rfl, hn⟩ := h3
      exact bump_dR _ hres h2 hn ⟨rfl, rfl⟩
def dkN (D : Dk) : Store := if D.L = [] then dkS D.q none D.o D.a D.l else dkS D.q (some (9, D.L.length, cellsF D.L)) D.o D.a D.l
theorem FnD.fix0 {P : Program} {f : FuncId} {args : List DV} {q : Int} {o a : Bool} {l : Int} {D : Dk} {res : DV} (hres : ∀ b v w, bumpD b v w res = res) (h : FnD P f args (dkS q none o a l) fun r st' => dkR none D res r st') : FnD P f args (dkS q none o a l) fun r st' => r = res ∧ st' = dkN D := by
  refine FnD.ret (h.mono ?_)
  rintro r st' ⟨fr', h1, h2, h3, rfl, rfl⟩
  rcases fr' with _ | ⟨u, n', cs'⟩
  · have h3' : D.L = [] := h3
    refine RetW.refl ⟨rfl, ?_⟩
    rw [dkN, if_pos h3']
  · obtain ⟨rfl, hn⟩ := h3
    rcases h1 with ⟨_, h1⟩ | ⟨h1, _⟩
    · rcases h1 with h1 | h1
      · cases h1
      · refine bump_dR _ hres h2 hn ⟨rfl, ?_⟩
        rw [dkN, if_neg h1]
        rfl
    · exact absurd rfl h1
/-- A change of a disk with a row, at any two places. -/
theorem FnD.fixA1 {P : Program} {f : FuncId} {args : List DV} {st : Store} {K : DV → Store → Prop} {q : Int} {v n : Nat} {cs : List DV} {o a : Bool} {l : Int} {D : Dk} {res : DV} (b c : Nat) (hres : ∀ b v w, bumpD b v w res = res) (hrc : closedD 0 res = true)
    (h : FnD P f (.ref 0 0 0 :: args) (dkS q (some (v, n, cs)) o a l) fun r st' => dkR (some (v, n, cs)) D res r st') (hb : st[b]? = some (dB q (.view 3 c v 0 n) o a l)) (hc : st[c]? = some (fB cs v)) (hbc : b ≠ c) (hcs : ∃ L, cs = cellsF L) (ha : closedL 0 args = true)
    (hk : K res ((st.set b (dB D.q (.view 3 c (v + 9) 0 D.L.length) D.o D.a D.l)).set c (fB (cellsF D.L) (v + 9)))) : FnD P f (.ref b 0 0 :: args) st K := by
  refine FnD.dk (β := Unit) (G := fun _ => True) (res := fun _ => res) (q' := fun _ => D.q) (l' := fun _ => D.l) (o' := fun _ => D.o) (a' := fun _ => D.a) (v' := fun _ => v + 9) (n' := fun _ => D.L.length) (cs' := fun _ => cellsF D.L) b c (FnD.mono (FnD.fix1 hres h) fun r st' h => ⟨(), trivial, h.1, h.2⟩) hb hc hbc ha (fun _ _ => hrc) ?_ ?_ fun _ _ => hk
  · obtain ⟨L, rfl⟩ := hcs
    rw [cellsF, rowsD]
    exact closedL_data 0 _
  · intro _ _
    rw [cellsF, rowsD]
    exact closedL_data 0 _
/-- A change of a disk without a row, at any place. -/
theorem FnD.fixA0 {P : Program} {f : FuncId} {args : List DV} {st : Store} {K : DV → Store → Prop} {q : Int} {o a : Bool} {l : Int} {D : Dk} {res : DV} (b : Nat) (hres : ∀ b v w, bumpD b v w res = res) (hrc : closedD 0 res = true)
    (h : FnD P f (.ref 0 0 0 :: args) (dkS q none o a l) fun r st' => dkR none D res r st') (hb : st[b]? = some (dB q (.d (.sc (.slice none 0 0))) o a l)) (ha : closedL 0 args = true)
    (hk : K res (if D.L = [] then st.set b (dB D.q (.d (.sc (.slice none 0 0))) D.o D.a D.l) else st.set b (dB D.q (.view 3 st.length 9 0 D.L.length) D.o D.a D.l) ++ [fB (cellsF D.L) 9])) : FnD P f (.ref b 0 0 :: args) st K := by
  by_cases h0 : D.L = []
  · rw [if_pos h0] at hk
    refine FnD.dk0 (β := Unit) (G := fun _ => True) (fr' := fun _ => none) (res := fun _ => res) (q' := fun _ => D.q) (l' := fun _ => D.l) (o' := fun _ => D.o) (a' := fun _ => D.a) b (FnD.mono (FnD.fix0 hres h) fun r st' h => ⟨(), trivial, h.1, ?_⟩) hb ha (fun _ _ => hrc) (fun _ _ _ _ _ h => by cases h) fun _ _ => ⟨fun _ => hk, fun _ _ _ h => by cases h⟩
    rw [h.2, dkN, if_pos h0]
  · rw [if_neg h0] at hk
    refine FnD.dk0 (β := Unit) (G := fun _ => True) (fr' := fun _ => some (9, D.L.length, cellsF D.L)) (res := fun _ => res) (q' := fun _ => D.q) (l' := fun _ => D.l) (o' := fun _ => D.o) (a' := fun _ => D.a) b (FnD.mono (FnD.fix0 hres h) fun r st' h => ⟨(), trivial, h.1, ?_⟩) hb ha (fun _ _ => hrc) ?_ fun _ _ => ⟨fun h => (by cases h), fun v n cs h => (by cases h; exact hk)⟩
    · rw [h.2, dkN, if_neg h0]
    · intro _ v n cs _ h
      cases h
      rw [cellsF, rowsD]
      exact closedL_data 0 _
def strR1 (K : List ByteArray) : List (List PD) := K.map fun k => [.sc (.string k)]
set_option maxRecDepth 100000 in
theorem v_sameS (K : List ByteArray) (xs : List (List PD)) (hx : xs = strR1 K) (hK : K.length ≤ 1000000) : FnV Try.prog 25 [.d (.slc 1 xs), .d (.slc 1 xs)] (boolD true) := by
  have hl : xs.length = K.length := by rw [hx]; simp [strR1]
  obtain ⟨n, hn⟩ : ∃ n : Int, n = K.length := ⟨_, rfl⟩
  have hH : SoundK Try.prog [] := by exact noK_ok
  have hB : SoundB Try.prog [] := by exact noB_ok
  refine FnD_cbv (T := fun _ => tabY [19, 23] []) (H := fun _ => []) (tabY_ok _ _) hH follows_mixed Try.func25 rfl Try.ntmps25 (by simp) fun A X W hA hX hW => ?_
  cbv
  have c0 : A.cmp .neq (A.len xs) (A.len xs) = false := by subst hA; show (!decide (_ = _)) = false; rw [decide_eq_true rfl]; rfl
  cbv at c0
  simp only [c0]
  cbv
  refine loopL (T := fun _ => tabY [19, 23] []) (H := fun _ => []) (tabY_ok _ _) noK_ok follows_mixed hA hX (fun i : Int => 0 ≤ i ∧ i ≤ n) (fun i => [(0, .d (.slc 1 xs)), (1, .d (.slc 1 xs)), (5, .d (.sc (.int .i64 i)))]) (fun _ => []) (fun i => n.toNat - i.toNat) 0 ?_ ?_ ?_
  · replace hn : n = (K.length : Int) := hn
    exact ⟨Int.le_refl 0, by omega⟩
  · exact told_less (by simp [toldP, getS])
  rintro R i hR ⟨i0, i1⟩
  replace i0 : 0 ≤ i := i0
  replace i1 : i ≤ n := i1
  cbv
  repeat' first
    | (refine part (fun h => ?_) (fun h => ?_) <;> try cbv)
    | (refine And.intro ?_ ?_)
  all_goals subst hR hA hX hW
  all_goals clear hH hB
  all_goals simp only [A0, nc, decide_eq_true_eq, decide_eq_false_iff_not] at *
  all_goals replace hn : n = (K.length : Int) := hn
  all_goals try
    have hlt : i.toNat < K.length := by omega
    have hr : xs.getD i.toNat [] = [.sc (.string (K[i.toNat]'hlt))] := by rw [hx, List.getD_eq_getElem?_getD]; simp [strR1, hlt]
    simp only [hr, List.map_cons, List.map_nil, List.getElem?_cons_zero] at *
  all_goals first
    | rfl
    | (show Region.lexB _ _ = true; kernel_rfl)
    | (show turnsB _ = true; kernel_rfl)
    | exact ⟨by omega, by omega⟩
    | omega
    | (exfalso; simp at h; done)
    | (refine ⟨i + 1, ⟨by omega, by omega⟩, by omega, told_less ?_⟩
       have ei : IntKind.wrap .i64 (i + 1) = i + 1 := wrap_i64 (by unfold r64; omega)
       simp [toldP, getS, ei])
    | exact ⟨rfl, Nat.le_refl _, rfl⟩
    | exact ret_v rfl rfl
    | fail
def namesF (L : List FileM) : List (List PD) := strR1 (L.map FileM.name)
def nmS (m n : Int) (mm v : Nat) : Int → Option (Nat × Nat × List DV) → SL
  | i, none => [(0, .ref 0 0 0), (3, .d (.sc (.slice none 0 0))), (9, .view 3 1 v 0 mm), (10, .d (.sc (.int .i64 n))), (11, .d (.sc (.int .i64 i)))]
  | i, some (u, k, _) => [(0, .ref 0 0 0), (3, .view 1 2 u 0 k), (9, .view 3 1 v 0 mm), (10, .d (.sc (.int .i64 n))), (11, .d (.sc (.int .i64 i)))]
def nmT (st : Store) : Option (Nat × Nat × List DV) → Store
  | none => st
  | some (u, _, c) => st ++ [⟨9, c, true, u, true⟩]
def nmI (K : List (List PD)) : Option (Nat × Nat × List DV) → Prop
  | none => K = []
  | some (_, k, c) => c = rowsD K ∧ k = K.length
theorem namesF_succ {L : List FileM} {i : Int} {f : FileM} (h0 : 0 ≤ i) (h : L[i.toNat]? = some f) : namesF (L.take (i + 1).toNat) = namesF (L.take i.toNat) ++ [[.sc (.string f.name)]] := by
  have e : (i + 1).toNat = i.toNat + 1 := by omega
  rw [e, List.take_succ, h]
  simp [namesF, strR1]
theorem strR1_sz (K : List ByteArray) : ∀ x ∈ strR1 K, x.length = 1 := by
  intro x hx
  simp only [strR1, List.mem_map] at hx
  obtain ⟨_, _, rfl⟩ := hx
  rfl
set_option maxRecDepth 100000 in
theorem w_names0 (q : Int) (o a : Bool) (lf : Int) : FnD Try.prog 24 [.ref 0 0 0] (dkS q none o a lf) (fun r st' => r = .d (.slc 1 (namesF [])) ∧ st' = dkS q none o a lf) := by
  have hH : SoundK Try.prog [] := by exact noK_ok
  have hB : SoundB Try.prog [] := by exact noB_ok
  refine FnD_cbv (T := fun _ => tabY [5003] []) (H := fun _ => []) (tabY_ok _ _) hH follows_mixed Try.func24 rfl Try.ntmps24 (by simp) fun A X W hA hX hW => ?_
  cbv
  have l0 : A.cmp .lss 0 0 = false := by subst hA; rfl
  cbv at l0
  repeat' (refine And.intro ?_ ?_)
  all_goals try (subst hA; exact rfl)
  refine unrollL (T := fun _ => tabY [5003] []) (H := fun _ => []) (tabY_ok _ _) noK_ok follows_mixed hA hX 1 fun R hR => ?_
  cbv
  refine hR _ _ _ ?_
  cbv
  simp only [l0]
  cbv
  subst hA hX hW
  exact ⟨.d (.slc 1 []), _, TellsV.nil _ _ 1, rfl, rfl⟩
set_option maxRecDepth 100000 in
theorem w_names1 (q : Int) (v m : Nat) (cs : List DV) (o a : Bool) (lf : Int) (L : List FileM) (hcs : cs = cellsF L) (hm : m = L.length) (hL : L.length ≤ 900) : FnD Try.prog 24 [.ref 0 0 0] (dkS q (some (v, m, cs)) o a lf) (fun r st' => r = .d (.slc 1 (namesF L)) ∧ st' = dkS q (some (v, m, cs)) o a lf) := by
  obtain ⟨n, hn⟩ : ∃ n : Int, n = L.length := ⟨_, rfl⟩
  have hn0 : 0 ≤ n := by omega
  have hn1 : n ≤ 900 := by omega
  have hmn : n = (m : Int) := by rw [hm]; exact hn
  have hcell : ∀ {i : Int}, 0 ≤ i → i < n → ∃ f, L[i.toNat]? = some f ∧ L.drop i.toNat = f :: L.drop (i + 1).toNat ∧ cs[i.toNat * 3]? = some (.d (.sc (.string f.name))) ∧ cs[i.toNat * 3 + 1]? = some (.d (.slc 1 f.data)) ∧ cs[i.toNat * 3 + 2]? = some (.d (.sc (.int .i64 f.kept))) ∧
      (cs.drop (i.toNat * 3)).take 3 = [.d (.sc (.string f.name)), .d (.slc 1 f.data), .d (.sc (.int .i64 f.kept))] ∧ i.toNat * 3 + 3 ≤ cs.length := by
    intro i h0 h1
    have h2 : i.toNat < L.length := by omega
    refine ⟨L[i.toNat], List.getElem?_eq_getElem h2, ?_, file_cell hcs i.toNat h2⟩
    rw [List.drop_eq_getElem_cons h2, show (i + 1).toNat = i.toNat + 1 by omega]
  have hpull : ∀ κ, pullL κ cs = cs := fun κ => by rw [hcs, pullL_eq]; exact pull_rows κ _
  have hH : SoundK Try.prog [] := by exact noK_ok
  have hB : SoundB Try.prog [] := by exact noB_ok
  refine FnD_cbv (T := fun _ => tabY [13] []) (H := fun _ => []) (tabY_ok _ _) hH follows_mixed Try.func24 rfl Try.ntmps24 (by simp) fun A X W hA hX hW => ?_
  cbv
  refine And.intro (by subst hA; rfl) ?_
  refine loopL (T := fun _ => tabY [13] []) (H := fun _ => []) (tabY_ok _ _) noK_ok follows_mixed hA hX (fun x : Int × Option (Nat × Nat × List DV) => (0 ≤ x.1 ∧ x.1 ≤ n) ∧ nmI (namesF (L.take x.1.toNat)) x.2) (fun x => nmS 0 n m v x.1 x.2) (fun x => nmT (dkS q (some (v, m, cs)) o a lf) x.2) (fun x => n.toNat - x.1.toNat) (0, none) ?_ ?_ ?_
  · exact ⟨⟨Int.le_refl 0, hn0⟩, rfl⟩
  · subst hA
    refine told_less ?_
    simp only [A0, nc] at *
    simp [toldP, getS, nmS, dkS, Fr.d, Fr.st, hmn]
  rintro R ⟨i, oo⟩ hR ⟨hi, h2⟩
  replace hi : 0 ≤ i ∧ i ≤ n := hi
  replace h2 : nmI (namesF (L.take i.toNat)) oo := h2
  rcases oo with _ | ⟨u, k, c⟩
  · replace h2 : namesF (L.take i.toNat) = [] := h2
    cbv
    refine part (fun h => ?_) (fun h => ?_) <;> cbv
    · have hlt : i < n := by subst hA; exact of_decide_eq_true h
      obtain ⟨f, k0, k1, k2, k3, k4, k5, k6⟩ := hcell hi.1 hlt
      have hsc := namesF_succ hi.1 k0
      rw [h2, List.nil_append] at hsc
      repeat' (refine And.intro ?_ ?_)
      all_goals subst hA hX hR
      all_goals clear hH hB
      all_goals replace hmn : n = (m : Int) := hmn
      all_goals have hpm : ∀ κ, cs.map (pullD κ) = cs := fun κ => (pullL_eq κ cs).symm.trans (hpull κ)
      all_goals have ei : IntKind.wrap .i64 (i + 1) = i + 1 := wrap_i64 (by unfold r64; omega)
      all_goals try simp only [A0, nc, Nat.zero_add, k2, k3, k4]
      all_goals first
        | rfl
        | exact ⟨hi.1, by omega⟩
        | exact ⟨rfl, k6, k5⟩
        | exact Nat.le_refl _
        | (simp; done)
        | (refine ⟨(i + 1, some (0, 1, [.d (.sc (.string f.name))])), ⟨⟨by simp only; omega, by simp only; omega⟩, ?_⟩, by simp only; omega, told_keep [0, 1, 4] rfl ?_ ?_⟩
           · show nmI (namesF (L.take (i + 1).toNat)) _
             rw [hsc]
             exact ⟨rfl, rfl⟩
           · simp [keepSt, pullBox, pullL, pullD, hpull, nmT, dkS, Fr.d, Fr.st]
             try rfl
           · simp [toldP, getS, nmS, pullD, ei]
             try (repeat' (first | rfl | apply And.intro)))
        | fail
    · have hge : ¬ i < n := by subst hA; exact of_decide_eq_false h
      replace hn : n = (L.length : Int) := hn
      have e : L.take i.toNat = L := List.take_of_length_le (by omega)
      rw [e] at h2
      subst hA hX hW
      rw [h2]
      exact ⟨.d (.slc 1 []), _, TellsV.nil _ _ 1, rfl, rfl⟩
  · obtain ⟨hc, hk⟩ : c = rowsD (namesF (L.take i.toNat)) ∧ k = (namesF (L.take i.toNat)).length := h2
    have hkl : c.length = k * 1 := by rw [hc, hk, namesF]; exact rowsD_len (strR1_sz _)
    have hkb : k ≤ 900 := by rw [hk, namesF, strR1, List.length_map, List.length_map, List.length_take]; omega
    cbv
    refine part (fun h => ?_) (fun h => ?_) <;> cbv
    · have hlt : i < n := by subst hA; exact of_decide_eq_true h
      obtain ⟨f, k0, k1, k2, k3, k4, k5, k6⟩ := hcell hi.1 hlt
      have hsc := namesF_succ hi.1 k0
      repeat' (refine And.intro ?_ ?_)
      all_goals subst hA hX hR
      all_goals clear hH hB
      all_goals replace hmn : n = (m : Int) := hmn
      all_goals have hpm : ∀ κ, cs.map (pullD κ) = cs := fun κ => (pullL_eq κ cs).symm.trans (hpull κ)
      all_goals have ei : IntKind.wrap .i64 (i + 1) = i + 1 := wrap_i64 (by unfold r64; omega)
      all_goals try simp only [A0, nc, Nat.zero_add, k2, k3, k4]
      all_goals first
        | rfl
        | exact ⟨hi.1, by omega⟩
        | exact ⟨rfl, k6, k5⟩
        | exact Nat.le_refl _
        | exact hkl
        | omega
        | (simp; done)
        | (exact ⟨by omega, by omega⟩)
        | (refine ⟨(i + 1, some (u + 1, k + 1, c ++ [.d (.sc (.string f.name))])), ⟨⟨by simp only; omega, by simp only; omega⟩, ?_⟩, by simp only; omega, told_keep [0, 1, 2] rfl ?_ ?_⟩
           · show nmI (namesF (L.take (i + 1).toNat)) _
             rw [hsc]
             exact ⟨by rw [hc, rowsD_append]; rfl, by rw [hk, List.length_append]; rfl⟩
           · have hpc : ∀ κ, c.map (pullD κ) = c := fun κ => by rw [hc]; exact pull_rows κ _
             simp [keepSt, pullBox, pullL_eq, pullD, hpm, hpc, nmT, dkS, Fr.d, Fr.st]
             try rfl
           · simp [toldP, getS, nmS, pullD, ei]
             try (repeat' (first | rfl | apply And.intro)))
        | fail
    · have hge : ¬ i < n := by subst hA; exact of_decide_eq_false h
      replace hn : n = (L.length : Int) := hn
      have e : L.take i.toNat = L := List.take_of_length_le (by omega)
      rw [e] at hc hk
      subst hA hX hW
      refine ret_freeze 2 1 (namesF L) _ rfl rfl (Nat.le_refl 2) hc (strR1_sz _) (ret_keep [0, 1] rfl ⟨?_, ?_⟩)
      · simp [fzD, pullD, hk]
      · have hfz : ∀ v, fzL 2 v 1 (namesF L) cs = cs := fun v => by rw [fzL_eq, hcs, cellsF, rowsD, List.map_map]; rfl
        simp [keepSt, fzSt, fzBox, fzL, fzD, pullBox, pullL, pullD, hfz, hpull, dkS, Fr.d, Fr.st]
        rfl
end Go.Proofs.Ytmjmbfcfnhnpmaa
namespace Go.Proofs.Ytmjmbfcfnhnpmaa
open Go.RowKit
set_option linter.all false
set_option maxHeartbeats 4000000
theorem cells_cl (L : List FileM) : closedL 0 (cellsF L) = true := by rw [cellsF, rowsD]; exact closedL_data 0 _
end Go.Proofs.Ytmjmbfcfnhnpmaa
