/- The program's disk and the document's are alike: names, bytes, room, power. No condition. -/
import Derived.Test.YtmjmbfcfnhnpmaaPD
namespace Go.Proofs.Ytmjmbfcfnhnpmaa
open Go.RowKit
set_option linter.all false
set_option maxHeartbeats 4000000
section
variable {f : FuncId} {args : List DV} {q : Int} {o a : Bool} {l : Int} {v n : Nat} {cs : List DV} {res : DV} {L : List FileM} {K : DV → Store → Prop} {X Y : Box} {Z : Store} {lr : Int}
theorem roD1 (h : FnD Try.prog f (.ref 0 0 0 :: args) (dkS q (some (v, n, cs)) o a l) fun r st' => r = res ∧ st' = dkS q (some (v, n, cs)) o a l) (hrc : closedD 0 res = true) (ha : closedL 0 args = true) (hcs : cs = cellsF L) (hK : K res (dB q (.view 3 2 v 0 n) o a l :: X :: fB cs v :: Y :: Z)) : FnD Try.prog f (.ref 0 0 0 :: args) (dB q (.view 3 2 v 0 n) o a l :: X :: fB cs v :: Y :: Z) K := by
  have hcl : closedL 0 cs = true := by rw [hcs]; exact cells_cl L
  exact FnD.dk (β := Unit) (G := fun _ => True) 0 2 (FnD.mono h fun r st' h => ⟨(), trivial, h.1, h.2⟩) rfl rfl (by decide) ha (fun _ _ => hrc) hcl (fun _ _ => hcl) fun _ _ => hK
theorem roR1 (h : FnD Try.prog f (.ref 0 0 0 :: args) (rS q (some (v, n, cs)) o a lr) fun r st' => r = res ∧ st' = rS q (some (v, n, cs)) o a lr) (hrc : closedD 0 res = true) (ha : closedL 0 args = true) (hcs : cs = cellsF L) (hK : K res (X :: rB q (.view 3 3 v 0 n) o false lr :: Y :: gB cs v :: Z)) : FnD Try.prog f (.ref 1 0 0 :: args) (X :: rB q (.view 3 3 v 0 n) o false lr :: Y :: gB cs v :: Z) K := by
  have hcl : closedL 0 cs = true := by rw [hcs]; exact cells_cl L
  exact FnD.rk (β := Unit) (G := fun _ => True) (a := a) (a' := fun _ => a) 1 3 (FnD.mono h fun r st' h => ⟨(), trivial, h.1, h.2⟩) rfl rfl (by decide) ha (fun _ _ => hrc) hcl (fun _ _ => hcl) fun _ _ => hK
theorem roD0 (h : FnD Try.prog f (.ref 0 0 0 :: args) (dkS q none o a l) fun r st' => r = res ∧ st' = dkS q none o a l) (hrc : closedD 0 res = true) (ha : closedL 0 args = true) (hK : K res (dB q nilV o a l :: X :: Z)) : FnD Try.prog f (.ref 0 0 0 :: args) (dB q nilV o a l :: X :: Z) K :=
  FnD.dk0 (β := Unit) (G := fun _ => True) (fr' := fun _ => none) 0 (FnD.mono h fun r st' h => ⟨(), trivial, h.1, h.2⟩) rfl ha (fun _ _ => hrc) (fun _ _ _ _ _ h => by cases h) fun _ _ => ⟨fun _ => hK, fun _ _ _ h => by cases h⟩
theorem roR0 (h : FnD Try.prog f (.ref 0 0 0 :: args) (rS q none o a lr) fun r st' => r = res ∧ st' = rS q none o a lr) (hrc : closedD 0 res = true) (ha : closedL 0 args = true) (hK : K res (X :: rB q nilV o false lr :: Z)) : FnD Try.prog f (.ref 1 0 0 :: args) (X :: rB q nilV o false lr :: Z) K :=
  FnD.rk0 (β := Unit) (G := fun _ => True) (fr' := fun _ => none) (a := a) (a' := fun _ => a) 1 (FnD.mono h fun r st' h => ⟨(), trivial, h.1, h.2⟩) rfl ha (fun _ _ => hrc) (fun _ _ _ _ _ h => by cases h) fun _ _ => ⟨fun _ => hK, fun _ _ _ h => by cases h⟩
end
/-- A known function of settled arguments, at one place. -/
def oneK (f : FuncId) (A1 : List DV) (r1 : DV) : FuncId × (List DV → RV) := (f, fun args => some ([args = A1], r1))
theorem oneK_ok {P : Program} {f : FuncId} {A1 : List DV} {r1 : DV} (h1 : FnV P f A1 r1) (hcl : closedL 0 A1 = true) (args : List DV) (cs : List Prop) (r : DV) (h : (oneK f A1 r1).2 args = some (cs, r)) (hc : allP cs True) : FnV P f args r ∧ closedL 0 args = true := by
  unfold oneK at h
  cases h
  have e1 : args = A1 := hc.1
  rw [e1]
  exact ⟨h1, hcl⟩
/-- A known function that reads, at one place. -/
def oneR (f : FuncId) (A1 : List DV) (S1 : Store) (r1 : DV) : FuncId × (List DV → Store → RV) := (f, fun args st => some ([args = A1, st = S1], r1))
theorem oneR_ok {P : Program} {f : FuncId} {A1 : List DV} {S1 : Store} {r1 : DV} (h1 : ∀ K : DV → Store → Prop, K r1 S1 → FnD P f A1 S1 K) (args : List DV) (st : Store) (cs : List Prop) (r : DV) (h : (oneR f A1 S1 r1).2 args st = some (cs, r)) (hc : allP cs True) (K : DV → Store → Prop) (hk : K r st) : FnD P f args st K := by
  unfold oneR at h
  cases h
  obtain ⟨e1, e2, _⟩ := hc
  subst e2
  rw [e1]
  exact h1 K hk
theorem find_in {nm : ByteArray} : ∀ {L : List FileM}, srtF L → nm ∈ L.map FileM.name → (findF nm L 0).2 = true := by
  intro L hs hm
  cases hf : (findF nm L 0).2 with
  | true => rfl
  | false =>
    exfalso
    have h1 := at_find (nm := nm) (i := 0) hs
    rw [hf, if_neg (by decide)] at h1
    obtain ⟨f, hf1, hf2⟩ := List.mem_map.1 hm
    have h3 : ∀ {L : List FileM} {i : Int}, 0 ≤ i → (∃ f ∈ L, f.name = nm) → 0 ≤ atL nm L i := by
      intro L
      induction L with
      | nil => rintro i _ ⟨f, hf, _⟩; cases hf
      | cons g L ih =>
        rintro i hi ⟨f, hf, he⟩
        rw [atL]
        split
        · exact hi
        · rename_i hne
          rcases List.mem_cons.1 hf with rfl | hf
          · exact absurd he hne
          · exact ih (by omega) ⟨f, hf, he⟩
    have := h3 (L := L) (i := 0) (by decide) ⟨f, hf1, hf2⟩
    omega
set_option maxRecDepth 100000 in
theorem w_alike0 (q lr : Int) (o a : Bool) (l : Int) (L : List FileM) (hfr : Fr.is L none) (hlr : lr = rlf a l) (hD : okD 900 ⟨q, L, o, a, l⟩) (hs : srtF L) (hnmf : nmF L) : FnD Try.prog 28 [.ref 0 0 0, .ref 1 0 0] [dB q nilV o a l, rB q nilV o false lr] (fun r st' => r = .d (.sc (.bool true)) ∧ st' = [dB q nilV o a l, rB q nilV o false lr]) := by
  have hL0 : L = [] := hfr
  have hL9 : L.length ≤ 900 := hD.len
  have hL10 : L.length ≤ 1000 := by omega
  have htot : totF L ≤ 1048576 := by have h1 := hD.tot; have h2 := hD.q.2; simp only at h1 h2; omega
  have htn := totF_nonneg L
  have hq := hD.q
  simp only at hq
  have htq : totF L ≤ q := hD.tot
  obtain ⟨ns, hns⟩ : ∃ z, z = namesF L := ⟨_, rfl⟩
  obtain ⟨t, ht⟩ : ∃ z, z = totF L := ⟨_, rfl⟩
  obtain ⟨m, hm⟩ : ∃ z, z = roomX (cellsF L) q := ⟨_, rfl⟩
  have hm2 : m = q - t := by rw [hm, ht]; show q - totX (cellsF L) = _; unfold totX; rw [rowF_cells]
  have hnsl : ns.length = L.length := by rw [hns]; simp [namesF, strR1]
  have hns0 : ns = [] := by rw [hns, hL0]; rfl
  have ht0 : t = 0 := by rw [ht, hL0]; rfl
  have hR2 : SoundR Try.prog [oneR 24 [.ref 0 0 0] [dB q nilV o a l, rB q nilV o false lr] (.d (.slc 1 ns)), oneR 45 [.ref 1 0 0] [dB q nilV o a l, rB q nilV o false lr] (.d (.slc 1 ns)), oneR 19 [.ref 0 0 0] [dB q nilV o a l, rB q nilV o false lr] (.d (.sc (.int .i64 t))), oneR 46 [.ref 1 0 0] [dB q nilV o a l, rB q nilV o false lr] (.d (.sc (.int .i64 t))), oneR 20 [.ref 0 0 0] [dB q nilV o a l, rB q nilV o false lr] (.d (.sc (.int .i64 m))), oneR 17 [.ref 0 0 0] [dB q nilV o a l, rB q nilV o false lr] (.d (.sc (.bool o))), oneR 25 [.d (.slc 1 ns), .d (.slc 1 ns)] [dB q nilV o a l, rB q nilV o false lr] (.d (.sc (.bool true)))] := by
    refine orR_ok (oneR_ok (fun K hK => ?_)) (orR_ok (oneR_ok (fun K hK => ?_)) (orR_ok (oneR_ok (fun K hK => ?_)) (orR_ok (oneR_ok (fun K hK => ?_)) (orR_ok (oneR_ok (fun K hK => ?_)) (orR_ok (oneR_ok (fun K hK => ?_)) (orR_ok (oneR_ok (fun K hK => ?_)) (noR_ok)))))))
    · exact roD0 (by rw [hns0]; exact w_names0 q o a l) rfl rfl hK
    · exact roR0 (by rw [hns0]; exact w_rnames0 q o a lr) rfl rfl hK
    · exact roD0 (by rw [ht]; exact w_total q none o a l L hfr (hD.okL (by decide))) rfl rfl hK
    · exact roR0 (by rw [ht0]; exact w_rtot0 q o a lr) rfl rfl hK
    · exact roD0 (by rw [hm]; exact w_room q none o a l L (cellsF L) hfr hD rfl) rfl rfl hK
    · exact roD0 (w_off q none o a l) rfl rfl hK
    · exact FnV.use (v_sameS (L.map FileM.name) ns hns (by rw [List.length_map]; omega)) rfl hK
  have hK2 : SoundK Try.prog [oneK 25 [.d (.slc 1 ns), .d (.slc 1 ns)] (.d (.sc (.bool true)))] := orK_ok (oneK_ok (v_sameS (L.map FileM.name) ns hns (by rw [List.length_map]; omega)) rfl) noK_ok
  obtain ⟨GFsQ, hFsQ⟩ : ∃ F, F = FsQ0 := ⟨_, rfl⟩
  have hH : SoundK Try.prog [kn_same GFsQ] := by subst hFsQ; exact orK_ok ok_same noK_ok
  have hB : SoundB Try.prog [] := by subst hFsQ; exact noB_ok
  refine FnD_cbv (T := fun _ => tabY [] [2, 7, 8, 9, 11]) (H := fun _ => [kn_same GFsQ]) (tabY_ok _ _) hH follows_mixed Try.func28 rfl Try.ntmps28 (by simp) fun A X W hA hX hW => ?_
  cbv
  clear hB
  have hH2 : SoundK Try.prog (oneK 25 [.d (.slc 1 ns), .d (.slc 1 ns)] (.d (.sc (.bool true))) :: [kn_same GFsQ]) := orK_ok (oneK_ok (v_sameS (L.map FileM.name) ns hns (by rw [List.length_map]; omega)) rfl) hH
  have f1 : A.not true = false := by subst hA; rfl
  have f2 : A.not false = true := by subst hA; rfl
  have f3 : A.cmp .neq t t = false := by subst hA; show (!decide (t = t)) = false; rw [decide_eq_true rfl]; rfl
  have f4 : A.cmp .neq m (A.bin .sub .i64 q t) = false := by
    subst hA
    show (!decide (m = IntKind.wrap .i64 (q - t))) = false
    rw [wrap_i64 (by unfold r64; omega), decide_eq_true hm2]
    rfl
  have f5 : A.beq o o = true := by subst hA; exact decide_eq_true rfl
  have f6 : A.cond false true false = false := by subst hA; rfl
  cbv at f1 f2 f3 f4 f5 f6
  have hrn := w_rnames0 q o a lr
  rw [show namesF [] = ns from hns0.symm] at hrn
  refine callL hX (roR0 hrn rfl rfl ?_)
  cbv
  repeat first
    | (simp only [f1, f2, f3, f4, f5, f6]; cbv)
    | refine And.intro (by
       subst hA hX hW hFsQ
       clear hH hR2 hH2 hK2
       first
         | exact trivial
         | exact rfl
         | (intro q; exact q)
         | (intro q; simpa [A0] using q)
         | (intro _; trivial)
         | (show Region.lexB _ _ = true; kernel_rfl)
         | (show turnsB _ = true; kernel_rfl)
         | assumption) ?_
  refine pauseL hX (s' := [(0, .ref 0 0 0), (1, .ref 1 0 0), (5, .d (.slc 1 ns))]) (st' := [dB q nilV o a l, rB q nilV o false lr]) (told_less (by simp [toldP, getS])) ?_
  ((with_reducible refine regionL [] [] (T := fun _ => tabY [] []) (H := fun _ => [oneK 25 [.d (.slc 1 ns), .d (.slc 1 ns)] (.d (.sc (.bool true))), kn_same GFsQ]) (B := fun _ => []) (R := fun _ => [oneR 24 [.ref 0 0 0] [dB q nilV o a l, rB q nilV o false lr] (.d (.slc 1 ns)), oneR 45 [.ref 1 0 0] [dB q nilV o a l, rB q nilV o false lr] (.d (.slc 1 ns)), oneR 19 [.ref 0 0 0] [dB q nilV o a l, rB q nilV o false lr] (.d (.sc (.int .i64 t))), oneR 46 [.ref 1 0 0] [dB q nilV o a l, rB q nilV o false lr] (.d (.sc (.int .i64 t))), oneR 20 [.ref 0 0 0] [dB q nilV o a l, rB q nilV o false lr] (.d (.sc (.int .i64 m))), oneR 17 [.ref 0 0 0] [dB q nilV o a l, rB q nilV o false lr] (.d (.sc (.bool o))), oneR 25 [.d (.slc 1 ns), .d (.slc 1 ns)] [dB q nilV o a l, rB q nilV o false lr] (.d (.sc (.bool true)))]) (A := A) (tabY_ok _ _) hH2 noB_ok hR2 follows_mixed hA hX (by kernel_rfl) (by kernel_rfl) (by kernel_rfl) ?_) <;> cbv)
  repeat first
    | (simp only [f1, f2, f3, f4, f5, f6]; cbv)
    | refine And.intro (by
       subst hA hX hW hFsQ
       clear hH hR2 hH2 hK2
       first
         | exact trivial
         | exact rfl
         | (intro q; exact q)
         | (intro q; simpa [A0] using q)
         | (intro _; trivial)
         | (show Region.lexB _ _ = true; kernel_rfl)
         | (show turnsB _ = true; kernel_rfl)
         | assumption) ?_
  have l0 : A.cmp .lss 0 (A.len ns) = false := by rw [hns0]; subst hA; rfl
  cbv at l0
  refine unrollL (T := fun _ => tabY [] [2, 7, 8, 9, 11]) (H := fun _ => [oneK 25 [.d (.slc 1 ns), .d (.slc 1 ns)] (.d (.sc (.bool true))), kn_same GFsQ]) (tabY_ok _ _) hH2 follows_mixed hA hX 1 fun R3 hR3 => ?_
  refine hR3 _ _ _ ?_
  cbv
  simp only [l0]
  cbv
  refine pauseL hX (s' := [(0, .ref 0 0 0), (1, .ref 1 0 0), (5, .d (.slc 1 ns))]) (st' := [dB q nilV o a l, rB q nilV o false lr]) (told_less (by simp [toldP, getS])) ?_
  with_reducible refine goL (T := fun _ => tabY [] []) (H := fun _ => [oneK 25 [.d (.slc 1 ns), .d (.slc 1 ns)] (.d (.sc (.bool true))), kn_same GFsQ]) (tabY_ok _ _) hH2 follows_mixed hA hX ?_
  cbv
  repeat first
    | (simp only [f1, f2, f3, f4, f5, f6]; cbv)
    | refine And.intro (by
       subst hA hX hW hFsQ
       clear hH hR2 hH2 hK2
       first
         | exact trivial
         | exact rfl
         | (intro q; exact q)
         | (intro q; simpa [A0] using q)
         | (intro _; trivial)
         | (show Region.lexB _ _ = true; kernel_rfl)
         | (show turnsB _ = true; kernel_rfl)
         | assumption) ?_
  have hno : (findF ⟨#[110, 111, 32, 115, 117, 99, 104, 32, 102, 105, 108, 101]⟩ L 0).2 = false := nmF.no (D := ⟨q, L, o, a, l⟩) (nm := ⟨#[110, 111, 32, 115, 117, 99, 104, 32, 102, 105, 108, 101]⟩) hnmf (by decide +kernel)
  have hrd := w_read q none o a l L ⟨#[110, 111, 32, 115, 117, 99, 104, 32, 102, 105, 108, 101]⟩ hfr hD
  rw [hno] at hrd
  obtain ⟨z9, hz9⟩ : ∃ z, z = (Dk.mk q L o a l).reads ⟨#[110, 111, 32, 115, 117, 99, 104, 32, 102, 105, 108, 101]⟩ := ⟨_, rfl⟩
  rw [← hz9] at hrd
  refine callL hX (roD0 hrd rfl rfl ?_)
  cbv
  repeat first
    | (simp only [f1, f2, f3, f4, f5, f6]; cbv)
    | refine And.intro (by
       subst hA hX hW hFsQ
       clear hH hR2 hH2 hK2
       first
         | exact trivial
         | exact rfl
         | (intro q; exact q)
         | (intro q; simpa [A0] using q)
         | (intro _; trivial)
         | (show Region.lexB _ _ = true; kernel_rfl)
         | (show turnsB _ = true; kernel_rfl)
         | assumption) ?_
  subst hA hX hW
  exact RetW.refl ⟨rfl, rfl⟩
set_option maxRecDepth 100000 in
theorem w_alike1 (q lr : Int) (o a : Bool) (l : Int) (L : List FileM) (v u n : Nat) (cs : List DV) (hfr : Fr.is L (some (v, n, cs))) (hlr : lr = rlf a l) (hD : okD 900 ⟨q, L, o, a, l⟩) (hs : srtF L) (hnmf : nmF L) : FnD Try.prog 28 [.ref 0 0 0, .ref 1 0 0] [dB q (.view 3 2 v 0 n) o a l, rB q (.view 3 3 u 0 n) o false lr, fB cs v, gB cs u] (fun r st' => r = .d (.sc (.bool true)) ∧ st' = [dB q (.view 3 2 v 0 n) o a l, rB q (.view 3 3 u 0 n) o false lr, fB cs v, gB cs u]) := by
  obtain ⟨hcs, hnl⟩ := id hfr
  have hL9 : L.length ≤ 900 := hD.len
  have hL10 : L.length ≤ 1000 := by omega
  have htot : totF L ≤ 1048576 := by have h1 := hD.tot; have h2 := hD.q.2; simp only at h1 h2; omega
  have htn := totF_nonneg L
  have hq := hD.q
  simp only at hq
  have htq : totF L ≤ q := hD.tot
  obtain ⟨ns, hns⟩ : ∃ z, z = namesF L := ⟨_, rfl⟩
  obtain ⟨t, ht⟩ : ∃ z, z = totF L := ⟨_, rfl⟩
  obtain ⟨m, hm⟩ : ∃ z, z = roomX (cellsF L) q := ⟨_, rfl⟩
  have hm2 : m = q - t := by rw [hm, ht]; show q - totX (cellsF L) = _; unfold totX; rw [rowF_cells]
  have hnsl : ns.length = L.length := by rw [hns]; simp [namesF, strR1]
  have hR2 : SoundR Try.prog [oneR 24 [.ref 0 0 0] [dB q (.view 3 2 v 0 n) o a l, rB q (.view 3 3 u 0 n) o false lr, fB cs v, gB cs u] (.d (.slc 1 ns)), oneR 45 [.ref 1 0 0] [dB q (.view 3 2 v 0 n) o a l, rB q (.view 3 3 u 0 n) o false lr, fB cs v, gB cs u] (.d (.slc 1 ns)), oneR 19 [.ref 0 0 0] [dB q (.view 3 2 v 0 n) o a l, rB q (.view 3 3 u 0 n) o false lr, fB cs v, gB cs u] (.d (.sc (.int .i64 t))), oneR 46 [.ref 1 0 0] [dB q (.view 3 2 v 0 n) o a l, rB q (.view 3 3 u 0 n) o false lr, fB cs v, gB cs u] (.d (.sc (.int .i64 t))), oneR 20 [.ref 0 0 0] [dB q (.view 3 2 v 0 n) o a l, rB q (.view 3 3 u 0 n) o false lr, fB cs v, gB cs u] (.d (.sc (.int .i64 m))), oneR 17 [.ref 0 0 0] [dB q (.view 3 2 v 0 n) o a l, rB q (.view 3 3 u 0 n) o false lr, fB cs v, gB cs u] (.d (.sc (.bool o))), oneR 25 [.d (.slc 1 ns), .d (.slc 1 ns)] [dB q (.view 3 2 v 0 n) o a l, rB q (.view 3 3 u 0 n) o false lr, fB cs v, gB cs u] (.d (.sc (.bool true)))] := by
    refine orR_ok (oneR_ok (fun K hK => ?_)) (orR_ok (oneR_ok (fun K hK => ?_)) (orR_ok (oneR_ok (fun K hK => ?_)) (orR_ok (oneR_ok (fun K hK => ?_)) (orR_ok (oneR_ok (fun K hK => ?_)) (orR_ok (oneR_ok (fun K hK => ?_)) (orR_ok (oneR_ok (fun K hK => ?_)) (noR_ok)))))))
    · exact roD1 (L := L) (by rw [hns]; exact w_names1 q v n cs o a l L hcs hnl hL9) rfl rfl hcs hK
    · exact roR1 (L := L) (by rw [hns]; exact w_rnames1 q u n cs o a lr L hcs hnl hL9) rfl rfl hcs hK
    · exact roD1 (L := L) (by rw [ht]; exact w_total q (some (v, n, cs)) o a l L hfr (hD.okL (by decide))) rfl rfl hcs hK
    · exact roR1 (L := L) (by rw [ht]; exact w_rtot1 q u n cs o a lr L hcs hnl hL10 htot) rfl rfl hcs hK
    · exact roD1 (L := L) (by rw [hm]; exact w_room q (some (v, n, cs)) o a l L (cellsF L) hfr hD rfl) rfl rfl hcs hK
    · exact roD1 (L := L) (w_off q (some (v, n, cs)) o a l) rfl rfl hcs hK
    · exact FnV.use (v_sameS (L.map FileM.name) ns hns (by rw [List.length_map]; omega)) rfl hK
  have hK2 : SoundK Try.prog [oneK 25 [.d (.slc 1 ns), .d (.slc 1 ns)] (.d (.sc (.bool true)))] := orK_ok (oneK_ok (v_sameS (L.map FileM.name) ns hns (by rw [List.length_map]; omega)) rfl) noK_ok
  obtain ⟨GFsQ, hFsQ⟩ : ∃ F, F = FsQ0 := ⟨_, rfl⟩
  have hH : SoundK Try.prog [kn_same GFsQ] := by subst hFsQ; exact orK_ok ok_same noK_ok
  have hB : SoundB Try.prog [] := by subst hFsQ; exact noB_ok
  refine FnD_cbv (T := fun _ => tabY [] [2, 7, 8, 9, 11]) (H := fun _ => [kn_same GFsQ]) (tabY_ok _ _) hH follows_mixed Try.func28 rfl Try.ntmps28 (by simp) fun A X W hA hX hW => ?_
  cbv
  clear hB
  have hH2 : SoundK Try.prog (oneK 25 [.d (.slc 1 ns), .d (.slc 1 ns)] (.d (.sc (.bool true))) :: [kn_same GFsQ]) := orK_ok (oneK_ok (v_sameS (L.map FileM.name) ns hns (by rw [List.length_map]; omega)) rfl) hH
  have f1 : A.not true = false := by subst hA; rfl
  have f2 : A.not false = true := by subst hA; rfl
  have f3 : A.cmp .neq t t = false := by subst hA; show (!decide (t = t)) = false; rw [decide_eq_true rfl]; rfl
  have f4 : A.cmp .neq m (A.bin .sub .i64 q t) = false := by
    subst hA
    show (!decide (m = IntKind.wrap .i64 (q - t))) = false
    rw [wrap_i64 (by unfold r64; omega), decide_eq_true hm2]
    rfl
  have f5 : A.beq o o = true := by subst hA; exact decide_eq_true rfl
  have f6 : A.cond false true false = false := by subst hA; rfl
  cbv at f1 f2 f3 f4 f5 f6
  have hrn := w_rnames1 q u n cs o a lr L hcs hnl hL9
  rw [← hns] at hrn
  refine callL hX (roR1 (L := L) hrn rfl rfl hcs ?_)
  cbv
  repeat first
    | (simp only [f1, f2, f3, f4, f5, f6]; cbv)
    | refine And.intro (by
       subst hA hX hW hFsQ
       clear hH hR2 hH2 hK2
       first
         | exact trivial
         | exact rfl
         | (intro q; exact q)
         | (intro q; simpa [A0] using q)
         | (intro _; trivial)
         | (show Region.lexB _ _ = true; kernel_rfl)
         | (show turnsB _ = true; kernel_rfl)
         | assumption) ?_
  refine pauseL hX (s' := [(0, .ref 0 0 0), (1, .ref 1 0 0), (5, .d (.slc 1 ns))]) (st' := [dB q (.view 3 2 v 0 n) o a l, rB q (.view 3 3 u 0 n) o false lr, fB cs v, gB cs u]) (told_less (by simp [toldP, getS])) ?_
  ((with_reducible refine regionL [] [] (T := fun _ => tabY [] []) (H := fun _ => [oneK 25 [.d (.slc 1 ns), .d (.slc 1 ns)] (.d (.sc (.bool true))), kn_same GFsQ]) (B := fun _ => []) (R := fun _ => [oneR 24 [.ref 0 0 0] [dB q (.view 3 2 v 0 n) o a l, rB q (.view 3 3 u 0 n) o false lr, fB cs v, gB cs u] (.d (.slc 1 ns)), oneR 45 [.ref 1 0 0] [dB q (.view 3 2 v 0 n) o a l, rB q (.view 3 3 u 0 n) o false lr, fB cs v, gB cs u] (.d (.slc 1 ns)), oneR 19 [.ref 0 0 0] [dB q (.view 3 2 v 0 n) o a l, rB q (.view 3 3 u 0 n) o false lr, fB cs v, gB cs u] (.d (.sc (.int .i64 t))), oneR 46 [.ref 1 0 0] [dB q (.view 3 2 v 0 n) o a l, rB q (.view 3 3 u 0 n) o false lr, fB cs v, gB cs u] (.d (.sc (.int .i64 t))), oneR 20 [.ref 0 0 0] [dB q (.view 3 2 v 0 n) o a l, rB q (.view 3 3 u 0 n) o false lr, fB cs v, gB cs u] (.d (.sc (.int .i64 m))), oneR 17 [.ref 0 0 0] [dB q (.view 3 2 v 0 n) o a l, rB q (.view 3 3 u 0 n) o false lr, fB cs v, gB cs u] (.d (.sc (.bool o))), oneR 25 [.d (.slc 1 ns), .d (.slc 1 ns)] [dB q (.view 3 2 v 0 n) o a l, rB q (.view 3 3 u 0 n) o false lr, fB cs v, gB cs u] (.d (.sc (.bool true)))]) (A := A) (tabY_ok _ _) hH2 noB_ok hR2 follows_mixed hA hX (by kernel_rfl) (by kernel_rfl) (by kernel_rfl) ?_) <;> cbv)
  repeat first
    | (simp only [f1, f2, f3, f4, f5, f6]; cbv)
    | refine And.intro (by
       subst hA hX hW hFsQ
       clear hH hR2 hH2 hK2
       first
         | exact trivial
         | exact rfl
         | (intro q; exact q)
         | (intro q; simpa [A0] using q)
         | (intro _; trivial)
         | (show Region.lexB _ _ = true; kernel_rfl)
         | (show turnsB _ = true; kernel_rfl)
         | assumption) ?_
  refine loopL (T := fun _ => tabY [] [2, 7, 8, 9, 11]) (H := fun _ => [oneK 25 [.d (.slc 1 ns), .d (.slc 1 ns)] (.d (.sc (.bool true))), kn_same GFsQ]) (tabY_ok _ _) hH2 follows_mixed hA hX (fun j : Int => 0 ≤ j ∧ j ≤ (ns.length : Int)) (fun j => [(0, .ref 0 0 0), (1, .ref 1 0 0), (5, .d (.slc 1 ns)), (6, .d (.sc (.int .i64 j)))]) (fun _ => [dB q (.view 3 2 v 0 n) o a l, rB q (.view 3 3 u 0 n) o false lr, fB cs v, gB cs u]) (fun j => ((ns.length : Int) - j).toNat) 0 ?_ ?_ ?_
  · exact ⟨Int.le_refl 0, Int.natCast_nonneg _⟩
  · exact told_less (by simp [toldP, getS])
  rintro R5 j5 hR5 ⟨j50, j51⟩
  replace j50 : 0 ≤ j5 := j50
  replace j51 : j5 ≤ (ns.length : Int) := j51
  by_cases hj5 : j5 < (ns.length : Int)
  · have t1 : A.cmp .lss j5 (A.len ns) = true := by subst hA; exact decide_eq_true hj5
    have hlt6 : j5.toNat < L.length := by omega
    obtain ⟨nx, hnx, hnm⟩ : ∃ nx, ns.getD j5.toNat [] = [.sc (.string nx)] ∧ nx ∈ L.map FileM.name := ⟨(L[j5.toNat]).name, by
      rw [hns, namesF, strR1, List.getD_eq_getElem?_getD]
      simp [hlt6], List.mem_map_of_mem (List.getElem_mem hlt6)⟩
    have e9 : A.gs (A.lift (A.row ns j5)) 0 = nx := by subst hA; simp only [A0, hnx]; rfl
    have hbk : A.inb j5 (A.len ns) := by subst hA; exact ⟨j50, hj5⟩
    have hhas : A.has (A.lift (A.row ns j5)) 0 1 [.d (.sc (.string nx))] := by subst hA; simp only [A0, hnx]; exact ⟨rfl, Nat.le_refl _, rfl⟩
    have hfi := find_in hs hnm
    obtain ⟨z, hz⟩ : ∃ z, z = (Dk.mk q L o a l).reads nx := ⟨_, rfl⟩
    have hzB : isB z := by
      rw [hz, show (Dk.mk q L o a l).reads nx = readF L nx from if_pos hfi]
      unfold readF
      cases hf : L[(findF nx L 0).1.toNat]? with
      | none => exact ⟨[], rfl, by decide⟩
      | some f => exact (hD.fs f (List.mem_of_getElem? hf)).1
    have hrd := w_read q (some (v, n, cs)) o a l L nx hfr hD
    rw [hfi, ← hz] at hrd
    have hrr := w_rread q (some (u, n, cs)) o a l lr L nx hfr hD hs hlr
    rw [hfi, ← hz] at hrr
    have q1 : GFsQ.same z z = true := by subst hFsQ; exact (sameB_eq _ _).2 rfl
    cbv at t1 e9 hbk q1
    cbv
    repeat first
      | (simp only [t1]; cbv)
    with_reducible refine goL (T := fun _ => tabY [58, 67] []) (H := fun _ => [oneK 25 [.d (.slc 1 ns), .d (.slc 1 ns)] (.d (.sc (.bool true))), kn_same GFsQ]) (tabY_ok _ _) hH2 follows_mixed hA hX ?_
    cbv
    repeat first
      | (simp only [f1, f2, f3, f4, f5, f6, e9, q1]; cbv)
      | refine And.intro (by
         subst hA hX hW hFsQ
         clear hH hR2 hH2 hK2
         first
           | exact trivial
           | exact rfl
           | (intro q; exact q)
           | (intro q; simpa [A0] using q)
           | (intro _; trivial)
           | (show Region.lexB _ _ = true; kernel_rfl)
           | (show turnsB _ = true; kernel_rfl)
           | assumption) ?_
    refine callL hX (roD1 (L := L) hrd rfl rfl hcs ?_)
    cbv
    repeat first
      | (simp only [f1, f2, f3, f4, f5, f6, e9, q1]; cbv)
      | refine And.intro (by
         subst hA hX hW hFsQ
         clear hH hR2 hH2 hK2
         first
           | exact trivial
           | exact rfl
           | (intro q; exact q)
           | (intro q; simpa [A0] using q)
           | (intro _; trivial)
           | (show Region.lexB _ _ = true; kernel_rfl)
           | (show turnsB _ = true; kernel_rfl)
           | assumption) ?_
    with_reducible refine goL (T := fun _ => tabY [58, 67] []) (H := fun _ => [oneK 25 [.d (.slc 1 ns), .d (.slc 1 ns)] (.d (.sc (.bool true))), kn_same GFsQ]) (tabY_ok _ _) hH2 follows_mixed hA hX ?_
    cbv
    repeat first
      | (simp only [f1, f2, f3, f4, f5, f6, e9, q1]; cbv)
      | refine And.intro (by
         subst hA hX hW hFsQ
         clear hH hR2 hH2 hK2
         first
           | exact trivial
           | exact rfl
           | (intro q; exact q)
           | (intro q; simpa [A0] using q)
           | (intro _; trivial)
           | (show Region.lexB _ _ = true; kernel_rfl)
           | (show turnsB _ = true; kernel_rfl)
           | assumption) ?_
    refine callL hX (roR1 (L := L) hrr rfl rfl hcs ?_)
    cbv
    repeat first
      | (simp only [f1, f2, f3, f4, f5, f6, e9, q1]; cbv)
      | refine And.intro (by
         subst hA hX hW hFsQ
         clear hH hR2 hH2 hK2
         first
           | exact trivial
           | exact rfl
           | (intro q; exact q)
           | (intro q; simpa [A0] using q)
           | (intro _; trivial)
           | (show Region.lexB _ _ = true; kernel_rfl)
           | (show turnsB _ = true; kernel_rfl)
           | assumption) ?_
    with_reducible refine goL (T := fun _ => tabY [58, 67] []) (H := fun _ => [oneK 25 [.d (.slc 1 ns), .d (.slc 1 ns)] (.d (.sc (.bool true))), kn_same GFsQ]) (tabY_ok _ _) hH2 follows_mixed hA hX ?_
    cbv
    repeat first
      | (simp only [f1, f2, f3, f4, f5, f6, e9, q1]; cbv)
      | refine And.intro (by
         subst hA hX hW hFsQ
         clear hH hR2 hH2 hK2
         first
           | exact trivial
           | exact rfl
           | (intro q; exact q)
           | (intro q; simpa [A0] using q)
           | (intro _; trivial)
           | (show Region.lexB _ _ = true; kernel_rfl)
           | (show turnsB _ = true; kernel_rfl)
           | assumption) ?_
    subst hA
    rw [hR5]
    have wj : IntKind.wrap .i64 (j5 + 1) = j5 + 1 := wrap_i64 (by unfold r64; omega)
    refine ⟨j5 + 1, ⟨by show 0 ≤ j5 + 1; omega, by show j5 + 1 ≤ (ns.length : Int); omega⟩, by show ((ns.length : Int) - (j5 + 1)).toNat < ((ns.length : Int) - j5).toNat; omega, told_less ?_⟩
    simp [toldP, getS, A0, wj]
  · have t1 : A.cmp .lss j5 (A.len ns) = false := by subst hA; exact decide_eq_false hj5
    cbv at t1
    cbv
    simp only [t1]
    cbv
    refine pauseL hX (s' := [(0, .ref 0 0 0), (1, .ref 1 0 0), (5, .d (.slc 1 ns))]) (st' := [dB q (.view 3 2 v 0 n) o a l, rB q (.view 3 3 u 0 n) o false lr, fB cs v, gB cs u]) (told_less (by simp [toldP, getS])) ?_
    with_reducible refine goL (T := fun _ => tabY [] []) (H := fun _ => [oneK 25 [.d (.slc 1 ns), .d (.slc 1 ns)] (.d (.sc (.bool true))), kn_same GFsQ]) (tabY_ok _ _) hH2 follows_mixed hA hX ?_
    cbv
    repeat first
      | (simp only [f1, f2, f3, f4, f5, f6]; cbv)
      | refine And.intro (by
         subst hA hX hW hFsQ
         clear hH hR2 hH2 hK2
         first
           | exact trivial
           | exact rfl
           | (intro q; exact q)
           | (intro q; simpa [A0] using q)
           | (intro _; trivial)
           | (show Region.lexB _ _ = true; kernel_rfl)
           | (show turnsB _ = true; kernel_rfl)
           | assumption) ?_
    have hno : (findF ⟨#[110, 111, 32, 115, 117, 99, 104, 32, 102, 105, 108, 101]⟩ L 0).2 = false := nmF.no (D := ⟨q, L, o, a, l⟩) (nm := ⟨#[110, 111, 32, 115, 117, 99, 104, 32, 102, 105, 108, 101]⟩) hnmf (by decide +kernel)
    have hrd := w_read q (some (v, n, cs)) o a l L ⟨#[110, 111, 32, 115, 117, 99, 104, 32, 102, 105, 108, 101]⟩ hfr hD
    rw [hno] at hrd
    obtain ⟨z9, hz9⟩ : ∃ z, z = (Dk.mk q L o a l).reads ⟨#[110, 111, 32, 115, 117, 99, 104, 32, 102, 105, 108, 101]⟩ := ⟨_, rfl⟩
    rw [← hz9] at hrd
    refine callL hX (roD1 (L := L) hrd rfl rfl hcs ?_)
    cbv
    repeat first
      | (simp only [f1, f2, f3, f4, f5, f6]; cbv)
      | refine And.intro (by
         subst hA hX hW hFsQ
         clear hH hR2 hH2 hK2
         first
           | exact trivial
           | exact rfl
           | (intro q; exact q)
           | (intro q; simpa [A0] using q)
           | (intro _; trivial)
           | (show Region.lexB _ _ = true; kernel_rfl)
           | (show turnsB _ = true; kernel_rfl)
           | assumption) ?_
    subst hA hX hW
    exact RetW.refl ⟨rfl, rfl⟩
end Go.Proofs.Ytmjmbfcfnhnpmaa
