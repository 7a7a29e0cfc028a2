/- Things written, one behind the other, come back; cut off they end too early. No condition. -/
import Derived.Test.YtligainhbdidgaaRd12
import Derived.Test.YtligainhbdidgaaRd10
namespace Go.Proofs.Ytligainhbdidgaa
open Go.RowKit
set_option linter.all false
def cutS (s : ByteArray) : ByteArray := if (100 : Int) < (s.size : Int) then s.extract 0 100 else s
def itB (r : List PD) : List UInt8 := match r with
  | [.sc (.int _ k), .sc (.int _ n), .sc (.string s), .sc (.bool f)] => if within3 k 1 3 = 1 then numB n else if within3 k 1 3 = 2 then textB (cutS s) else if within3 k 1 3 = 3 then [if f then 1 else 0] else []
  | _ => []
def wB : List (List PD) → List UInt8
  | [] => []
  | r :: rs => itB r ++ wB rs
def Row4 (r : List PD) : Prop := ∃ (k n : Int) (s : ByteArray) (f : Bool), r = [.sc (.int .i64 k), .sc (.int .i64 n), .sc (.string s), .sc (.bool f)] ∧ r64 k ∧ r64 n ∧ s.size ≤ 1048576
theorem within3_cases (k : Int) : within3 k 1 3 = 1 ∨ within3 k 1 3 = 2 ∨ within3 k 1 3 = 3 := by unfold within3; omega
theorem cutS_size (s : ByteArray) : (cutS s).size ≤ 100 := by
  unfold cutS
  split
  · rw [ByteArray.size_extract]; omega
  · omega
theorem itB_len (r : List PD) : (itB r).length ≤ 110 := by
  unfold itB
  split
  · rename_i k n s f
    have := cutS_size s
    have hn := numB_length n
    have hm := numB_length ((cutS s).size : Int)
    split
    · omega
    split
    · simp only [textB, List.length_append, size_list]; omega
    split
    · simp
    · simp
  · simp
theorem wB_len : ∀ rs : List (List PD), (wB rs).length ≤ 110 * rs.length
  | [] => by simp [wB]
  | r :: rs => by
    have := wB_len rs
    have := itB_len r
    simp only [wB, List.length_append, List.length_cons]; omega
theorem backR_ok (pre rest : List UInt8) {r : List PD} (h : Row4 r) : backR (bytesP (pre ++ (itB r ++ rest))) r pre.length 0 = (true, (pre.length : Int) + ((itB r).length : Int), (0 : Int)) := by
  obtain ⟨k, n, s, f, rfl, hk, hn, hs⟩ := h
  simp only [backR, back1, itB, numR, textR, flagR, bytesOf_bytesP]
  rcases within3_cases k with e | e | e
  · simp only [e, if_true]
    rw [num_back pre rest n hn]
    simp
  · simp only [e, show ¬ ((2 : Int) = 1) by decide, if_true, if_false]
    rw [text_back pre rest (cutS s) (cutS_size s)]
    simp [cutS]
  · simp only [e, show ¬ ((3 : Int) = 1) by decide, show ¬ ((3 : Int) = 2) by decide, if_true, if_false]
    rw [flag_back pre rest f]
    simp
theorem backR_cut (pre : List UInt8) {r : List PD} (h : Row4 r) (k : Nat) (hk : k < (itB r).length) : (backR (bytesP (pre ++ (itB r).take k)) r pre.length 0).2.2 = 3 := by
  obtain ⟨q, n, s, f, rfl, hq, hn, hs⟩ := h
  simp only [backR, back1, itB, numR, textR, flagR, bytesOf_bytesP] at hk ⊢
  rcases within3_cases q with e | e | e
  · simp only [e, if_true] at hk ⊢
    rw [num_cut pre n hn k hk]
  · simp only [e, show ¬ ((2 : Int) = 1) by decide, if_true, if_false] at hk ⊢
    rw [text_cut pre (cutS s) (cutS_size s) k hk]
  · simp only [e, show ¬ ((3 : Int) = 1) by decide, show ¬ ((3 : Int) = 2) by decide, if_true, if_false, List.length_singleton] at hk ⊢
    obtain rfl : k = 0 := by omega
    rw [List.take_zero, List.append_nil, flag_cut pre]
theorem backR_stay (xs : List (List PD)) (r : List PD) (a : Int) : (backR xs r a 3).2.2 = 3 := by
  unfold backR
  split
  · unfold back1 numR textR flagR numL textL flagL cntL numL
    split
    · simp
    split
    · simp
    split
    · simp
    · rfl
  · rfl
theorem backF_stay (xs : List (List PD)) : ∀ (rs : List (List PD)) (x : Bool × Int × Int), x.2.2 = 3 → (backF xs rs x).2.2 = 3
  | [], _, h => h
  | r :: rs, x, h => by
    unfold backF
    split
    · refine backF_stay xs rs _ ?_
      rw [h]
      exact backR_stay xs r _
    · exact h
theorem backF_ok : ∀ (rs : List (List PD)) (pre rest : List UInt8), (∀ r ∈ rs, Row4 r) → backF (bytesP (pre ++ (wB rs ++ rest))) rs (true, (pre.length : Int), (0 : Int)) = (true, (pre.length : Int) + ((wB rs).length : Int), (0 : Int))
  | [], pre, rest, _ => by simp [backF, wB]
  | r :: rs, pre, rest, h => by
    unfold backF
    rw [if_pos rfl]
    simp only [wB, List.append_assoc]
    rw [backR_ok pre (wB rs ++ rest) (h r (by simp))]
    have ih := backF_ok rs (pre ++ itB r) rest fun x hx => h x (by simp [hx])
    simp only [List.append_assoc, List.length_append, Int.natCast_add] at ih ⊢
    rw [ih]
    simp only [Int.add_assoc]
theorem backF_cut : ∀ (rs : List (List PD)) (pre : List UInt8) (k : Nat), (∀ r ∈ rs, Row4 r) → k < (wB rs).length → (backF (bytesP (pre ++ (wB rs).take k)) rs (true, (pre.length : Int), (0 : Int))).2.2 = 3
  | [], pre, k, _, hk => by simp [wB] at hk
  | r :: rs, pre, k, h, hk => by
    unfold backF
    rw [if_pos rfl]
    rcases Nat.lt_or_ge k (itB r).length with h1 | h1
    · have e : (wB (r :: rs)).take k = (itB r).take k := by rw [wB, List.take_append_of_le_length (by omega)]
      rw [e]
      exact backF_stay _ rs _ (backR_cut pre (h r (by simp)) k h1)
    · have e : (wB (r :: rs)).take k = itB r ++ (wB rs).take (k - (itB r).length) := by rw [wB, List.take_append, List.take_of_length_le h1]
      rw [e, backR_ok pre _ (h r (by simp))]
      simp only [wB, List.length_append] at hk
      have ih := backF_cut rs (pre ++ itB r) (k - (itB r).length) (fun x hx => h x (by simp [hx])) (by omega)
      simp only [List.append_assoc, List.length_append, Int.natCast_add] at ih ⊢
      exact ih
/-- What the law asks of the first reading. -/
theorem back_whole (rs : List (List PD)) (ms : List UInt8) (h : ∀ r ∈ rs, Row4 r) : backF (bytesP (wB rs ++ ms)) rs (true, (0 : Int), (0 : Int)) = (true, ((wB rs).length : Int), (0 : Int)) := by
  have := backF_ok rs [] ms h
  simpa using this
/-- .. and of the second one. -/
theorem back_cut (rs : List (List PD)) (k : Nat) (h : ∀ r ∈ rs, Row4 r) (hk : k ≤ (wB rs).length) : (endR (bytesP ((wB rs).take k)) (backF (bytesP ((wB rs).take k)) rs (true, (0 : Int), (0 : Int))).2.1 (backF (bytesP ((wB rs).take k)) rs (true, (0 : Int), (0 : Int))).2.2 = 0) ↔ k = (wB rs).length := by
  rcases Nat.lt_or_ge k (wB rs).length with h1 | h1
  · have := backF_cut rs [] k h h1
    simp only [List.nil_append, List.length_nil, Int.natCast_zero] at this
    unfold endR
    rw [this]
    simp
    omega
  · have e : k = (wB rs).length := by omega
    have := backF_ok rs [] [] h
    simp only [List.nil_append, List.append_nil, List.length_nil, Int.natCast_zero, Int.zero_add] at this
    rw [e, List.take_length, this]
    unfold endR
    rw [if_neg (by simp [bytesP_length])]
    simp
/-- One thing more is written. -/
theorem wB_step {ls : List (List PD)} {i : Int} (h0 : 0 ≤ i) (h1 : i < ls.length) : wB (ls.take (i + 1).toNat) = wB (ls.take i.toNat) ++ itB (ls.getD i.toNat []) := by
  have app : ∀ a b : List (List PD), wB (a ++ b) = wB a ++ wB b := by
    intro a b
    induction a with
    | nil => rfl
    | cons x a ih => simp [wB, ih]
  rw [show (i + 1).toNat = i.toNat + 1 by omega, List.take_succ, app]
  congr 1
  rw [List.getD_eq_getElem?_getD, List.getElem?_eq_getElem (by omega)]
  simp [wB]
theorem putX_itB {k n : Int} {s : ByteArray} {f : Bool} (bs : List UInt8) : putX (bytesP bs) (within3 k 1 3) n (cutS s) f = bytesP (bs ++ itB [.sc (.int .i64 k), .sc (.int .i64 n), .sc (.string s), .sc (.bool f)]) := by
  unfold putX
  simp only [itB]
  rcases within3_cases k with e | e | e <;> simp [e, numX, textX, flagX, bytesP_append]

end Go.Proofs.Ytligainhbdidgaa
