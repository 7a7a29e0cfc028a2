/- The facts on the types and the functions of this translation that the program logic evaluates with; each by the kernel. No condition. -/
import Derived.Test.YtbceikkjogbgeaaAm27
import Derived.Test.YtbceikkjogbgeaaProg
import Derived.KernelRfl
namespace Go.Proofs.Ytbceikkjogbgeaa
@[go_sem] theorem follows_mixed : Try.prog.follows .mixedOrders = true := by kernel_rfl
def rowKds : Tr (List Kd) := .node (.node (.node (.node (.node (.node (.leaf) 1 ([.oth]) (.leaf)) 2 ([.int .i64]) (.node (.leaf) 3 ([.int .i64]) (.leaf))) 4 ([.bool]) (.node (.node (.leaf) 5 ([.int .u8]) (.leaf)) 9 ([.str]) (.leaf))) 12 ([.int .u64]) (.node (.node (.node (.leaf) 21 ([.int .i32]) (.leaf)) 22 ([.slc 3]) (.leaf)) 23 ([.int .i64]) (.node (.node (.leaf) 25 ([.oth]) (.leaf)) 27 ([.oth]) (.leaf)))) 28 ([.str, .str, .int .i64]) (.node (.node (.node (.node (.leaf) 29 ([.str, .str, .int .i64]) (.leaf)) 31 ([.oth]) (.leaf)) 32 ([.slc 1]) (.node (.node (.leaf) 33 ([.oth]) (.leaf)) 34 ([.str, .str]) (.leaf))) 35 ([.str, .str]) (.node (.node (.node (.leaf) 36 ([.oth]) (.leaf)) 37 ([.oth]) (.leaf)) 38 ([.oth]) (.node (.node (.leaf) 39 ([.oth]) (.leaf)) 40 ([.slc 5]) (.leaf))))) 41 ([.int .i64, .str, .str, .str, .str]) (.node (.node (.node (.node (.node (.leaf) 42 ([.int .i64, .str, .str, .str, .str]) (.leaf)) 43 ([.oth]) (.node (.leaf) 44 ([.oth]) (.leaf))) 45 ([.oth]) (.node (.node (.leaf) 46 ([.oth]) (.leaf)) 47 ([.oth]) (.leaf))) 49 ([.oth]) (.node (.node (.node (.leaf) 50 ([.oth]) (.leaf)) 51 ([.oth]) (.leaf)) 52 ([.slc 1]) (.node (.node (.leaf) 53 ([.slc 1]) (.leaf)) 54 ([.oth]) (.leaf)))) 56 ([.oth]) (.node (.node (.node (.node (.leaf) 57 ([.oth]) (.leaf)) 58 ([.oth]) (.leaf)) 59 ([.oth]) (.node (.node (.leaf) 60 ([.oth]) (.leaf)) 61 ([.oth]) (.leaf))) 62 ([.oth]) (.node (.node (.node (.leaf) 68 ([.oth]) (.leaf)) 69 ([.int .u32]) (.leaf)) 72 ([.oth]) (.node (.node (.leaf) 73 ([.oth]) (.leaf)) 78 ([.oth]) (.leaf)))))
def rowBy : Tr (Nat) := .node (.node (.node (.node (.node (.node (.leaf) 1 (8) (.leaf)) 2 (8) (.node (.leaf) 3 (8) (.leaf))) 4 (1) (.node (.node (.leaf) 5 (1) (.leaf)) 9 (16) (.leaf))) 12 (8) (.node (.node (.node (.leaf) 21 (4) (.leaf)) 22 (24) (.leaf)) 23 (8) (.node (.node (.leaf) 25 (8) (.leaf)) 27 (8) (.leaf)))) 28 (40) (.node (.node (.node (.node (.leaf) 29 (40) (.leaf)) 31 (8) (.leaf)) 32 (24) (.node (.node (.leaf) 33 (8) (.leaf)) 34 (32) (.leaf))) 35 (32) (.node (.node (.node (.leaf) 36 (8) (.leaf)) 37 (8) (.leaf)) 38 (8) (.node (.node (.leaf) 39 (8) (.leaf)) 40 (24) (.leaf))))) 41 (72) (.node (.node (.node (.node (.node (.leaf) 42 (72) (.leaf)) 43 (8) (.node (.leaf) 44 (8) (.leaf))) 45 (8) (.node (.node (.leaf) 46 (8) (.leaf)) 47 (8) (.leaf))) 49 (8) (.node (.node (.node (.leaf) 50 (8) (.leaf)) 51 (8) (.leaf)) 52 (24) (.node (.node (.leaf) 53 (24) (.leaf)) 54 (8) (.leaf)))) 56 (8) (.node (.node (.node (.node (.leaf) 57 (8) (.leaf)) 58 (8) (.leaf)) 59 (8) (.node (.node (.leaf) 60 (8) (.leaf)) 61 (8) (.leaf))) 62 (8) (.node (.node (.node (.leaf) 68 (8) (.leaf)) 69 (4) (.leaf)) 72 (8) (.node (.node (.leaf) 73 (8) (.leaf)) 78 (8) (.leaf)))))
theorem rowBy_ok : rowBy.rows.map (fun p => (tabOf Try.prog).by8 p.1) = rowBy.rows.map fun p => some p.2 := by kernel_rfl
def rowTy : Tr (Nat × Bool) := .node (.node (.node (.node (.node (.node (.leaf) 1 ((1, false)) (.leaf)) 2 ((1, false)) (.node (.leaf) 3 ((1, false)) (.leaf))) 4 ((1, false)) (.node (.node (.leaf) 5 ((1, false)) (.leaf)) 9 ((1, false)) (.leaf))) 12 ((1, false)) (.node (.node (.node (.leaf) 21 ((1, false)) (.leaf)) 22 ((1, false)) (.leaf)) 23 ((1, false)) (.node (.node (.leaf) 25 ((1, false)) (.leaf)) 27 ((1, false)) (.leaf)))) 28 ((3, true)) (.node (.node (.node (.node (.leaf) 29 ((3, true)) (.leaf)) 31 ((1, false)) (.leaf)) 32 ((1, false)) (.node (.node (.leaf) 33 ((1, false)) (.leaf)) 34 ((2, true)) (.leaf))) 35 ((2, true)) (.node (.node (.node (.leaf) 36 ((1, false)) (.leaf)) 37 ((1, false)) (.leaf)) 38 ((1, false)) (.node (.node (.leaf) 39 ((1, false)) (.leaf)) 40 ((1, false)) (.leaf))))) 41 ((5, true)) (.node (.node (.node (.node (.node (.leaf) 42 ((5, true)) (.leaf)) 43 ((1, false)) (.node (.leaf) 44 ((1, false)) (.leaf))) 45 ((1, false)) (.node (.node (.leaf) 46 ((1, false)) (.leaf)) 47 ((1, false)) (.leaf))) 49 ((1, false)) (.node (.node (.node (.leaf) 50 ((1, false)) (.leaf)) 51 ((1, false)) (.leaf)) 52 ((1, false)) (.node (.node (.leaf) 53 ((1, false)) (.leaf)) 54 ((1, false)) (.leaf)))) 56 ((1, false)) (.node (.node (.node (.node (.leaf) 57 ((1, false)) (.leaf)) 58 ((1, false)) (.leaf)) 59 ((1, false)) (.node (.node (.leaf) 60 ((1, false)) (.leaf)) 61 ((1, false)) (.leaf))) 62 ((1, false)) (.node (.node (.node (.leaf) 68 ((1, false)) (.leaf)) 69 ((1, false)) (.leaf)) 72 ((1, false)) (.node (.node (.leaf) 73 ((1, false)) (.leaf)) 78 ((1, false)) (.leaf)))))
theorem rowTy_ok : rowTy.rows.map (fun p => (tabOf Try.prog).ty p.1) = rowTy.rows.map fun p => some p.2 := by kernel_rfl
def rowZero : Tr (List DV) := .node (.node (.node (.node (.node (.node (.leaf) 1 ([.d (.sc (.nilFunc))]) (.leaf)) 2 ([.d (.sc (.int .i64 0))]) (.node (.leaf) 3 ([.d (.sc (.int .i64 0))]) (.leaf))) 4 ([.d (.sc (.bool false))]) (.node (.node (.leaf) 5 ([.d (.sc (.int .u8 0))]) (.leaf)) 9 ([.d (.sc (.string { data := #[] }))]) (.leaf))) 12 ([.d (.sc (.int .u64 0))]) (.node (.node (.node (.leaf) 21 ([.d (.sc (.int .i32 0))]) (.leaf)) 22 ([.d (.sc (.slice none 0 0))]) (.leaf)) 23 ([.d (.sc (.int .i64 0))]) (.node (.node (.leaf) 25 ([.d (.sc (.nilFunc))]) (.leaf)) 27 ([.d (.sc (.nilFunc))]) (.leaf)))) 28 ([.d (.sc (.string { data := #[] })), .d (.sc (.string { data := #[] })), .d (.sc (.int .i64 0))]) (.node (.node (.node (.node (.leaf) 29 ([.d (.sc (.string { data := #[] })), .d (.sc (.string { data := #[] })), .d (.sc (.int .i64 0))]) (.leaf)) 31 ([.d (.sc (.nilFunc))]) (.leaf)) 32 ([.d (.sc (.slice none 0 0))]) (.node (.node (.leaf) 33 ([.d (.sc (.nilFunc))]) (.leaf)) 34 ([.d (.sc (.string { data := #[] })), .d (.sc (.string { data := #[] }))]) (.leaf))) 35 ([.d (.sc (.string { data := #[] })), .d (.sc (.string { data := #[] }))]) (.node (.node (.node (.leaf) 36 ([.d (.sc (.nilFunc))]) (.leaf)) 37 ([.d (.sc (.nilFunc))]) (.leaf)) 38 ([.d (.sc (.nilFunc))]) (.node (.node (.leaf) 39 ([.d (.sc (.nilFunc))]) (.leaf)) 40 ([.d (.sc (.slice none 0 0))]) (.leaf))))) 41 ([.d (.sc (.int .i64 0)), .d (.sc (.string { data := #[] })), .d (.sc (.string { data := #[] })), .d (.sc (.string { data := #[] })), .d (.sc (.string { data := #[] }))]) (.node (.node (.node (.node (.node (.leaf) 42 ([.d (.sc (.int .i64 0)), .d (.sc (.string { data := #[] })), .d (.sc (.string { data := #[] })), .d (.sc (.string { data := #[] })), .d (.sc (.string { data := #[] }))]) (.leaf)) 43 ([.d (.sc (.nilFunc))]) (.node (.leaf) 44 ([.d (.sc (.nilFunc))]) (.leaf))) 45 ([.d (.sc (.nilFunc))]) (.node (.node (.leaf) 46 ([.d (.sc (.nilFunc))]) (.leaf)) 47 ([.d (.sc (.nilFunc))]) (.leaf))) 49 ([.d (.sc (.nilFunc))]) (.node (.node (.node (.leaf) 50 ([.d (.sc (.nilFunc))]) (.leaf)) 51 ([.d (.sc (.nilFunc))]) (.leaf)) 52 ([.d (.sc (.slice none 0 0))]) (.node (.node (.leaf) 53 ([.d (.sc (.slice none 0 0))]) (.leaf)) 54 ([.d (.sc (.nilFunc))]) (.leaf)))) 56 ([.d (.sc (.nilFunc))]) (.node (.node (.node (.node (.leaf) 57 ([.d (.sc (.nilFunc))]) (.leaf)) 58 ([.d (.sc (.nilFunc))]) (.leaf)) 59 ([.d (.sc (.nilFunc))]) (.node (.node (.leaf) 60 ([.d (.sc (.nilFunc))]) (.leaf)) 61 ([.d (.sc (.nilFunc))]) (.leaf))) 62 ([.d (.sc (.nilFunc))]) (.node (.node (.node (.leaf) 68 ([.d (.sc (.nilFunc))]) (.leaf)) 69 ([.d (.sc (.int .u32 0))]) (.leaf)) 72 ([.d (.sc (.nilFunc))]) (.node (.node (.leaf) 73 ([.d (.sc (.pointer none))]) (.leaf)) 78 ([.d (.sc (.pointer none))]) (.leaf)))))
theorem rowZero_ok : rowZero.rows.map (fun p => (tabOf Try.prog).zero p.1) = rowZero.rows.map fun p => some p.2 := by kernel_rfl
def rowFld : Tr (Nat) := .node (.node (.node (.node (.node (.leaf) 28000 (0) (.leaf)) 28001 (1) (.leaf)) 28002 (2) (.node (.leaf) 29000 (0) (.leaf))) 29001 (1) (.node (.node (.node (.leaf) 29002 (2) (.leaf)) 34000 (0) (.leaf)) 34001 (1) (.node (.leaf) 35000 (0) (.leaf)))) 35001 (1) (.node (.node (.node (.node (.leaf) 41000 (0) (.leaf)) 41001 (1) (.leaf)) 41002 (2) (.node (.leaf) 41003 (3) (.leaf))) 42000 (0) (.node (.node (.leaf) 42001 (1) (.leaf)) 42002 (2) (.node (.leaf) 42003 (3) (.leaf))))
theorem rowFld_ok : rowFld.rows.map (fun p => (tabOf Try.prog).fld (p.1 / 1000) (p.1 % 1000)) = rowFld.rows.map fun p => some p.2 := by kernel_rfl
def rowFldV : Tr (Nat × Nat) := .node (.node (.node (.node (.node (.leaf) 28000 ((9, 0)) (.leaf)) 28001 ((9, 1)) (.leaf)) 28002 ((3, 2)) (.node (.leaf) 29000 ((9, 0)) (.leaf))) 29001 ((9, 1)) (.node (.node (.node (.leaf) 29002 ((3, 2)) (.leaf)) 34000 ((9, 0)) (.leaf)) 34001 ((9, 1)) (.node (.leaf) 35000 ((9, 0)) (.leaf)))) 35001 ((9, 1)) (.node (.node (.node (.node (.leaf) 41000 ((3, 0)) (.leaf)) 41001 ((9, 1)) (.leaf)) 41002 ((9, 2)) (.node (.leaf) 41003 ((35, 3)) (.leaf))) 42000 ((3, 0)) (.node (.node (.leaf) 42001 ((9, 1)) (.leaf)) 42002 ((9, 2)) (.node (.leaf) 42003 ((35, 3)) (.leaf))))
theorem rowFldV_ok : rowFldV.rows.map (fun p => (tabOf Try.prog).fldV (p.1 / 1000) (p.1 % 1000)) = rowFldV.rows.map fun p => some p.2 := by kernel_rfl
def rowArr : Tr (Nat × Nat × Nat) := .leaf
theorem rowArr_ok : rowArr.rows.map (fun p => (tabOf Try.prog).arr p.1) = rowArr.rows.map fun p => some p.2 := by kernel_rfl
def rowSl : Tr (Nat × Nat) := .node (.node (.node (.leaf) 22 ((29, 3)) (.leaf)) 32 ((5, 1)) (.leaf)) 40 ((42, 5)) (.node (.node (.leaf) 52 ((9, 1)) (.leaf)) 53 ((3, 1)) (.leaf))
theorem rowSl_ok : rowSl.rows.map (fun p => (tabOf Try.prog).sl p.1) = rowSl.rows.map fun p => some p.2 := by kernel_rfl
def rowKinds : Tr (List Nat) := .node (.node (.node (.leaf) 28 ([2, 2, 0]) (.leaf)) 29 ([2, 2, 0]) (.node (.leaf) 34 ([2, 2]) (.leaf))) 35 ([2, 2]) (.node (.node (.leaf) 41 ([0, 2, 2, 2, 2]) (.leaf)) 42 ([0, 2, 2, 2, 2]) (.leaf))
theorem rowKinds_ok : rowKinds.rows.map (fun p => (tabOf Try.prog).kinds p.1) = rowKinds.rows.map fun p => some p.2 := by kernel_rfl
def rowPlace : Tr (Nat × Nat) := .node (.node (.node (.node (.node (.leaf) 28000 ((0, 1)) (.leaf)) 28001 ((1, 1)) (.leaf)) 28002 ((2, 1)) (.node (.leaf) 29000 ((0, 1)) (.leaf))) 29001 ((1, 1)) (.node (.node (.node (.leaf) 29002 ((2, 1)) (.leaf)) 34000 ((0, 1)) (.leaf)) 34001 ((1, 1)) (.node (.leaf) 35000 ((0, 1)) (.leaf)))) 35001 ((1, 1)) (.node (.node (.node (.node (.leaf) 41000 ((0, 1)) (.leaf)) 41001 ((1, 1)) (.leaf)) 41002 ((2, 1)) (.node (.leaf) 41003 ((3, 2)) (.leaf))) 42000 ((0, 1)) (.node (.node (.leaf) 42001 ((1, 1)) (.leaf)) 42002 ((2, 1)) (.node (.leaf) 42003 ((3, 2)) (.leaf))))
theorem rowPlace_ok : rowPlace.rows.map (fun p => (tabOf Try.prog).place (p.1 / 1000) (p.1 % 1000)) = rowPlace.rows.map fun p => some p.2 := by kernel_rfl
def rowIk : Tr (IntKind) := .node (.node (.node (.leaf) 2 (.i64) (.leaf)) 3 (.i64) (.node (.leaf) 5 (.u8) (.leaf))) 12 (.u64) (.node (.node (.leaf) 21 (.i32) (.leaf)) 23 (.i64) (.node (.leaf) 69 (.u32) (.leaf)))
theorem rowIk_ok : rowIk.rows.map (fun p => (tabOf Try.prog).ik p.1) = rowIk.rows.map fun p => some p.2 := by kernel_rfl
def rowStr : Tr (Bool) := .node (.leaf) 9 (true) (.leaf)
theorem rowStr_ok : rowStr.rows.map (fun p => some ((tabOf Try.prog).str p.1)) = rowStr.rows.map fun p => some p.2 := by kernel_rfl
def rowBool : Tr (Bool) := .node (.leaf) 4 (true) (.leaf)
theorem rowBool_ok : rowBool.rows.map (fun p => some ((tabOf Try.prog).bool p.1)) = rowBool.rows.map fun p => some p.2 := by kernel_rfl
def rowBok : Tr (Bool) := .node (.node (.node (.leaf) 28 (true) (.leaf)) 29 (true) (.node (.leaf) 34 (true) (.leaf))) 35 (true) (.node (.node (.leaf) 41 (true) (.leaf)) 42 (true) (.leaf))
theorem rowBok_ok : rowBok.rows.map (fun p => some ((tabOf Try.prog).bok p.1)) = rowBok.rows.map fun p => some p.2 := by kernel_rfl
def rowPtr : Tr (Bool) := .node (.leaf) 73 (true) (.leaf)
theorem rowPtr_ok : rowPtr.rows.map (fun p => some ((tabOf Try.prog).ptr p.1)) = rowPtr.rows.map fun p => some p.2 := by kernel_rfl
def rowBody : Tr (Bool) := .node (.node (.node (.node (.node (.leaf) 3 (true) (.leaf)) 4 (true) (.node (.leaf) 5 (true) (.leaf))) 6 (true) (.node (.node (.leaf) 7 (true) (.leaf)) 8 (true) (.node (.leaf) 9 (true) (.leaf)))) 10 (true) (.node (.node (.node (.leaf) 11 (true) (.leaf)) 12 (true) (.node (.leaf) 13 (true) (.leaf))) 14 (true) (.node (.node (.leaf) 15 (true) (.leaf)) 16 (true) (.node (.leaf) 17 (true) (.leaf))))) 18 (true) (.node (.node (.node (.node (.leaf) 19 (true) (.leaf)) 20 (true) (.node (.leaf) 21 (true) (.leaf))) 22 (true) (.node (.node (.leaf) 23 (true) (.leaf)) 24 (true) (.node (.leaf) 25 (true) (.leaf)))) 26 (true) (.node (.node (.node (.leaf) 27 (true) (.leaf)) 28 (true) (.node (.leaf) 29 (true) (.leaf))) 30 (true) (.node (.node (.leaf) 32 (true) (.leaf)) 33 (true) (.node (.leaf) 34 (true) (.leaf)))))
theorem rowBody_ok : rowBody.rows.map (fun p => some ((tabOf Try.prog).body p.1)) = rowBody.rows.map fun p => some p.2 := by kernel_rfl
def tab : Tab where
  ty := atRow rowTy
  zero := atRow rowZero
  fld := atRow2 rowFld
  fldV := atRow2 rowFldV
  arr := atRow rowArr
  sl := atRow rowSl
  by8 := atRow rowBy
  kds := atRow rowKds
  sym _ := false
  pause _ := false
  str := atRowB rowStr
  kinds := atRow rowKinds
  place := atRow2 rowPlace
  bok := atRowB rowBok
  bool := atRowB rowBool
  ik := atRow rowIk
  ptr := atRowB rowPtr
  body := atRowB rowBody
theorem tab_ok : TabOk Try.prog tab where
  ty t x h := (tabOf_ok Try.prog).ty t x (atRow_of rowTy_ok t x h)
  zero t x h := (tabOf_ok Try.prog).zero t x (atRow_of rowZero_ok t x h)
  fld t f x h := (tabOf_ok Try.prog).fld t f x (atRow2_of rowFld_ok t f x h)
  fldV t f x h := (tabOf_ok Try.prog).fldV t f x (atRow2_of rowFldV_ok t f x h)
  arr t x h := (tabOf_ok Try.prog).arr t x (atRow_of rowArr_ok t x h)
  sl t x h := (tabOf_ok Try.prog).sl t x (atRow_of rowSl_ok t x h)
  by8 t x h := (tabOf_ok Try.prog).by8 t x (atRow_of rowBy_ok t x h)
  str t h := (tabOf_ok Try.prog).str t (atRowB_of rowStr_ok t h)
  kinds t x h := (tabOf_ok Try.prog).kinds t x (atRow_of rowKinds_ok t x h)
  place t i x h := (tabOf_ok Try.prog).place t i x (atRow2_of rowPlace_ok t i x h)
  bok t h := (tabOf_ok Try.prog).bok t (atRowB_of rowBok_ok t h)
  bool t h := (tabOf_ok Try.prog).bool t (atRowB_of rowBool_ok t h)
  ik t k h := (tabOf_ok Try.prog).ik t k (atRow_of rowIk_ok t k h)
  ptr t h := (tabOf_ok Try.prog).ptr t (atRowB_of rowPtr_ok t h)
  body t h := (tabOf_ok Try.prog).body t (atRowB_of rowBody_ok t h)
/-- The table of one function: which of its slots hold addresses that aren't reckoned out, at which regions the evaluation waits. -/
def tabY (ys ps : List Nat) : Tab := { tab with sym := memN ys, pause := memN ps }
theorem tabY_ok (ys ps : List Nat) : TabOk Try.prog (tabY ys ps) where
  ty := tab_ok.ty
  zero := tab_ok.zero
  fld := tab_ok.fld
  fldV := tab_ok.fldV
  arr := tab_ok.arr
  sl := tab_ok.sl
  by8 := tab_ok.by8
  str := tab_ok.str
  kinds := tab_ok.kinds
  place := tab_ok.place
  bok := tab_ok.bok
  bool := tab_ok.bool
  ik := tab_ok.ik
  ptr := tab_ok.ptr
  body := tab_ok.body
end Go.Proofs.Ytbceikkjogbgeaa
