/- The facts on the types and the functions of this translation that the program logic evaluates with; each by the kernel. No condition. -/
import Derived.Test.YtikodmddomaneaaAm27
import Derived.Test.YtikodmddomaneaaProg
import Derived.KernelRfl
namespace Go.Proofs.Ytikodmddomaneaa
@[go_sem] theorem follows_mixed : Try.prog.follows .mixedOrders = true := by kernel_rfl
def rowKds : Tr (List Kd) := .node (.node (.node (.node (.node (.node (.leaf) 1 ([.oth]) (.leaf)) 2 ([.int .i64]) (.node (.leaf) 3 ([.int .i64]) (.leaf))) 4 ([.bool]) (.node (.node (.leaf) 5 ([.int .u8]) (.leaf)) 9 ([.str]) (.node (.leaf) 12 ([.int .u64]) (.leaf)))) 21 ([.int .i32]) (.node (.node (.node (.leaf) 22 ([.int .i64, .int .i64, .int .i64, .int .i64, .int .i64, .int .i64, .int .i64]) (.leaf)) 23 ([.int .i64, .int .i64, .int .i64, .int .i64, .int .i64, .int .i64, .int .i64]) (.node (.leaf) 24 ([.int .i64, .int .i64, .int .i64, .int .i64, .int .i64, .int .i64, .int .i64, .int .i64]) (.leaf))) 25 ([.int .i64, .int .i64, .int .i64, .int .i64, .int .i64, .int .i64, .int .i64, .int .i64]) (.node (.node (.leaf) 26 ([.oth]) (.leaf)) 28 ([.oth]) (.node (.leaf) 29 ([.slc 2]) (.leaf))))) 30 ([.oth]) (.node (.node (.node (.node (.leaf) 31 ([.oth]) (.leaf)) 32 ([.oth]) (.node (.leaf) 33 ([.int .i64, .int .i64]) (.leaf))) 34 ([.int .i64, .int .i64]) (.node (.node (.leaf) 35 ([.oth]) (.leaf)) 36 ([.oth]) (.node (.leaf) 37 ([.oth]) (.leaf)))) 38 ([.oth]) (.node (.node (.node (.leaf) 39 ([.slc 8]) (.leaf)) 40 ([.oth]) (.node (.leaf) 41 ([.oth]) (.leaf))) 42 ([.oth]) (.node (.node (.leaf) 43 ([.oth]) (.leaf)) 44 ([.oth]) (.node (.leaf) 45 ([.oth]) (.leaf)))))) 46 ([.oth]) (.node (.node (.node (.node (.node (.leaf) 47 ([.oth]) (.leaf)) 48 ([.oth]) (.node (.leaf) 49 ([.oth]) (.leaf))) 50 ([.slc 1]) (.node (.node (.leaf) 51 ([.oth]) (.leaf)) 52 ([.oth]) (.node (.leaf) 53 ([.oth]) (.leaf)))) 54 ([.oth]) (.node (.node (.node (.leaf) 55 ([.int .i64]) (.leaf)) 56 ([.oth]) (.node (.leaf) 57 ([.oth]) (.leaf))) 58 ([.slc 1]) (.node (.node (.leaf) 59 ([.oth]) (.leaf)) 60 ([.oth]) (.node (.leaf) 61 ([.oth]) (.leaf))))) 62 ([.oth]) (.node (.node (.node (.node (.leaf) 63 ([.oth]) (.leaf)) 64 ([.slc 1, .int .i64, .int .i64]) (.node (.leaf) 65 ([.slc 1, .int .i64, .int .i64]) (.leaf))) 66 ([.oth]) (.node (.node (.leaf) 67 ([.int .u64]) (.leaf)) 68 ([.oth]) (.node (.leaf) 69 ([.int .u64]) (.leaf)))) 70 ([.oth]) (.node (.node (.node (.leaf) 71 ([.oth]) (.leaf)) 72 ([.oth]) (.node (.leaf) 78 ([.int .u32]) (.leaf))) 81 ([.oth]) (.node (.node (.leaf) 82 ([.oth]) (.leaf)) 87 ([.oth]) (.leaf)))))
def rowBy : Tr (Nat) := .node (.node (.node (.node (.node (.node (.leaf) 1 (8) (.leaf)) 2 (8) (.node (.leaf) 3 (8) (.leaf))) 4 (1) (.node (.node (.leaf) 5 (1) (.leaf)) 9 (16) (.node (.leaf) 12 (8) (.leaf)))) 21 (4) (.node (.node (.node (.leaf) 22 (56) (.leaf)) 23 (56) (.node (.leaf) 24 (64) (.leaf))) 25 (64) (.node (.node (.leaf) 26 (8) (.leaf)) 28 (8) (.node (.leaf) 29 (24) (.leaf))))) 30 (8) (.node (.node (.node (.node (.leaf) 31 (8) (.leaf)) 32 (8) (.node (.leaf) 33 (16) (.leaf))) 34 (16) (.node (.node (.leaf) 35 (8) (.leaf)) 36 (8) (.node (.leaf) 37 (8) (.leaf)))) 38 (8) (.node (.node (.node (.leaf) 39 (24) (.leaf)) 40 (8) (.node (.leaf) 41 (8) (.leaf))) 42 (8) (.node (.node (.leaf) 43 (8) (.leaf)) 44 (8) (.node (.leaf) 45 (8) (.leaf)))))) 46 (8) (.node (.node (.node (.node (.node (.leaf) 47 (8) (.leaf)) 48 (8) (.node (.leaf) 49 (8) (.leaf))) 50 (24) (.node (.node (.leaf) 51 (8) (.leaf)) 52 (8) (.node (.leaf) 53 (8) (.leaf)))) 54 (8) (.node (.node (.node (.leaf) 55 (8) (.leaf)) 56 (8) (.node (.leaf) 57 (8) (.leaf))) 58 (24) (.node (.node (.leaf) 59 (8) (.leaf)) 60 (8) (.node (.leaf) 61 (8) (.leaf))))) 62 (8) (.node (.node (.node (.node (.leaf) 63 (8) (.leaf)) 64 (40) (.node (.leaf) 65 (40) (.leaf))) 66 (8) (.node (.node (.leaf) 67 (8) (.leaf)) 68 (8) (.node (.leaf) 69 (8) (.leaf)))) 70 (8) (.node (.node (.node (.leaf) 71 (8) (.leaf)) 72 (8) (.node (.leaf) 78 (4) (.leaf))) 81 (8) (.node (.node (.leaf) 82 (8) (.leaf)) 87 (8) (.leaf)))))
theorem rowBy_ok : rowBy.rows.map (fun p => (tabOf Try.prog).by8 p.1) = rowBy.rows.map fun p => some p.2 := by kernel_rfl
def rowTy : Tr (Nat × Bool) := .node (.node (.node (.node (.node (.node (.leaf) 1 ((1, false)) (.leaf)) 2 ((1, false)) (.node (.leaf) 3 ((1, false)) (.leaf))) 4 ((1, false)) (.node (.node (.leaf) 5 ((1, false)) (.leaf)) 9 ((1, false)) (.node (.leaf) 12 ((1, false)) (.leaf)))) 21 ((1, false)) (.node (.node (.node (.leaf) 22 ((7, true)) (.leaf)) 23 ((7, true)) (.node (.leaf) 24 ((8, true)) (.leaf))) 25 ((8, true)) (.node (.node (.leaf) 26 ((1, false)) (.leaf)) 28 ((1, false)) (.node (.leaf) 29 ((1, false)) (.leaf))))) 30 ((1, false)) (.node (.node (.node (.node (.leaf) 31 ((1, false)) (.leaf)) 32 ((1, false)) (.node (.leaf) 33 ((2, true)) (.leaf))) 34 ((2, true)) (.node (.node (.leaf) 35 ((1, false)) (.leaf)) 36 ((1, false)) (.node (.leaf) 37 ((1, false)) (.leaf)))) 38 ((1, false)) (.node (.node (.node (.leaf) 39 ((1, false)) (.leaf)) 40 ((1, false)) (.node (.leaf) 41 ((1, false)) (.leaf))) 42 ((1, false)) (.node (.node (.leaf) 43 ((1, false)) (.leaf)) 44 ((1, false)) (.node (.leaf) 45 ((1, false)) (.leaf)))))) 46 ((1, false)) (.node (.node (.node (.node (.node (.leaf) 47 ((1, false)) (.leaf)) 48 ((1, false)) (.node (.leaf) 49 ((1, false)) (.leaf))) 50 ((1, false)) (.node (.node (.leaf) 51 ((1, false)) (.leaf)) 52 ((1, false)) (.node (.leaf) 53 ((1, false)) (.leaf)))) 54 ((1, false)) (.node (.node (.node (.leaf) 55 ((1, false)) (.leaf)) 56 ((1, false)) (.node (.leaf) 57 ((1, false)) (.leaf))) 58 ((1, false)) (.node (.node (.leaf) 59 ((1, false)) (.leaf)) 60 ((1, false)) (.node (.leaf) 61 ((1, false)) (.leaf))))) 62 ((1, false)) (.node (.node (.node (.node (.leaf) 63 ((1, false)) (.leaf)) 64 ((3, true)) (.node (.leaf) 65 ((3, true)) (.leaf))) 66 ((1, false)) (.node (.node (.leaf) 67 ((1, false)) (.leaf)) 68 ((1, false)) (.node (.leaf) 69 ((1, false)) (.leaf)))) 70 ((1, false)) (.node (.node (.node (.leaf) 71 ((1, false)) (.leaf)) 72 ((1, false)) (.node (.leaf) 78 ((1, false)) (.leaf))) 81 ((1, false)) (.node (.node (.leaf) 82 ((1, false)) (.leaf)) 87 ((1, false)) (.leaf)))))
theorem rowTy_ok : rowTy.rows.map (fun p => (tabOf Try.prog).ty p.1) = rowTy.rows.map fun p => some p.2 := by kernel_rfl
def rowZero : Tr (List DV) := .node (.node (.node (.node (.node (.node (.leaf) 1 ([.d (.sc (.nilFunc))]) (.leaf)) 2 ([.d (.sc (.int .i64 0))]) (.node (.leaf) 3 ([.d (.sc (.int .i64 0))]) (.leaf))) 4 ([.d (.sc (.bool false))]) (.node (.node (.leaf) 5 ([.d (.sc (.int .u8 0))]) (.leaf)) 9 ([.d (.sc (.string { data := #[] }))]) (.node (.leaf) 12 ([.d (.sc (.int .u64 0))]) (.leaf)))) 21 ([.d (.sc (.int .i32 0))]) (.node (.node (.node (.leaf) 22 ([.d (.sc (.int .i64 0)), .d (.sc (.int .i64 0)), .d (.sc (.int .i64 0)), .d (.sc (.int .i64 0)), .d (.sc (.int .i64 0)), .d (.sc (.int .i64 0)), .d (.sc (.int .i64 0))]) (.leaf)) 23 ([.d (.sc (.int .i64 0)), .d (.sc (.int .i64 0)), .d (.sc (.int .i64 0)), .d (.sc (.int .i64 0)), .d (.sc (.int .i64 0)), .d (.sc (.int .i64 0)), .d (.sc (.int .i64 0))]) (.node (.leaf) 24 ([.d (.sc (.int .i64 0)), .d (.sc (.int .i64 0)), .d (.sc (.int .i64 0)), .d (.sc (.int .i64 0)), .d (.sc (.int .i64 0)), .d (.sc (.int .i64 0)), .d (.sc (.int .i64 0)), .d (.sc (.int .i64 0))]) (.leaf))) 25 ([.d (.sc (.int .i64 0)), .d (.sc (.int .i64 0)), .d (.sc (.int .i64 0)), .d (.sc (.int .i64 0)), .d (.sc (.int .i64 0)), .d (.sc (.int .i64 0)), .d (.sc (.int .i64 0)), .d (.sc (.int .i64 0))]) (.node (.node (.leaf) 26 ([.d (.sc (.nilFunc))]) (.leaf)) 28 ([.d (.sc (.nilFunc))]) (.node (.leaf) 29 ([.d (.sc (.slice none 0 0))]) (.leaf))))) 30 ([.d (.sc (.nilFunc))]) (.node (.node (.node (.node (.leaf) 31 ([.d (.sc (.nilFunc))]) (.leaf)) 32 ([.d (.sc (.nilFunc))]) (.node (.leaf) 33 ([.d (.sc (.int .i64 0)), .d (.sc (.int .i64 0))]) (.leaf))) 34 ([.d (.sc (.int .i64 0)), .d (.sc (.int .i64 0))]) (.node (.node (.leaf) 35 ([.d (.sc (.nilFunc))]) (.leaf)) 36 ([.d (.sc (.nilFunc))]) (.node (.leaf) 37 ([.d (.sc (.nilFunc))]) (.leaf)))) 38 ([.d (.sc (.nilFunc))]) (.node (.node (.node (.leaf) 39 ([.d (.sc (.slice none 0 0))]) (.leaf)) 40 ([.d (.sc (.nilFunc))]) (.node (.leaf) 41 ([.d (.sc (.nilFunc))]) (.leaf))) 42 ([.d (.sc (.nilFunc))]) (.node (.node (.leaf) 43 ([.d (.sc (.nilFunc))]) (.leaf)) 44 ([.d (.sc (.nilFunc))]) (.node (.leaf) 45 ([.d (.sc (.nilFunc))]) (.leaf)))))) 46 ([.d (.sc (.nilFunc))]) (.node (.node (.node (.node (.node (.leaf) 47 ([.d (.sc (.nilFunc))]) (.leaf)) 48 ([.d (.sc (.nilFunc))]) (.node (.leaf) 49 ([.d (.sc (.nilFunc))]) (.leaf))) 50 ([.d (.sc (.slice none 0 0))]) (.node (.node (.leaf) 51 ([.d (.sc (.nilFunc))]) (.leaf)) 52 ([.d (.sc (.pointer none))]) (.node (.leaf) 53 ([.d (.sc (.nilFunc))]) (.leaf)))) 54 ([.d (.sc (.nilFunc))]) (.node (.node (.node (.leaf) 55 ([.d (.sc (.int .i64 0))]) (.leaf)) 56 ([.d (.sc (.nilFunc))]) (.node (.leaf) 57 ([.d (.sc (.nilFunc))]) (.leaf))) 58 ([.d (.sc (.slice none 0 0))]) (.node (.node (.leaf) 59 ([.d (.sc (.map none))]) (.leaf)) 60 ([.d (.sc (.nilFunc))]) (.node (.leaf) 61 ([.d (.sc (.nilFunc))]) (.leaf))))) 62 ([.d (.sc (.nilFunc))]) (.node (.node (.node (.node (.leaf) 63 ([.d (.sc (.nilFunc))]) (.leaf)) 64 ([.d (.sc (.slice none 0 0)), .d (.sc (.int .i64 0)), .d (.sc (.int .i64 0))]) (.node (.leaf) 65 ([.d (.sc (.slice none 0 0)), .d (.sc (.int .i64 0)), .d (.sc (.int .i64 0))]) (.leaf))) 66 ([.d (.sc (.nilFunc))]) (.node (.node (.leaf) 67 ([.d (.sc (.int .u64 0))]) (.leaf)) 68 ([.d (.sc (.nilFunc))]) (.node (.leaf) 69 ([.d (.sc (.int .u64 0))]) (.leaf)))) 70 ([.d (.sc (.nilFunc))]) (.node (.node (.node (.leaf) 71 ([.d (.sc (.nilFunc))]) (.leaf)) 72 ([.d (.sc (.nilFunc))]) (.node (.leaf) 78 ([.d (.sc (.int .u32 0))]) (.leaf))) 81 ([.d (.sc (.nilFunc))]) (.node (.node (.leaf) 82 ([.d (.sc (.pointer none))]) (.leaf)) 87 ([.d (.sc (.pointer none))]) (.leaf)))))
theorem rowZero_ok : rowZero.rows.map (fun p => (tabOf Try.prog).zero p.1) = rowZero.rows.map fun p => some p.2 := by kernel_rfl
def rowFld : Tr (Nat) := .node (.node (.node (.node (.leaf) 24000 (0) (.leaf)) 24001 (1) (.node (.leaf) 25000 (0) (.leaf))) 25001 (1) (.node (.node (.leaf) 33000 (0) (.leaf)) 33001 (1) (.node (.leaf) 34000 (0) (.leaf)))) 34001 (1) (.node (.node (.node (.leaf) 64000 (0) (.leaf)) 64001 (1) (.node (.leaf) 64002 (2) (.leaf))) 65000 (0) (.node (.node (.leaf) 65001 (1) (.leaf)) 65002 (2) (.leaf)))
theorem rowFld_ok : rowFld.rows.map (fun p => (tabOf Try.prog).fld (p.1 / 1000) (p.1 % 1000)) = rowFld.rows.map fun p => some p.2 := by kernel_rfl
def rowFldV : Tr (Nat × Nat) := .node (.node (.node (.node (.leaf) 24000 ((3, 0)) (.leaf)) 24001 ((23, 1)) (.node (.leaf) 25000 ((3, 0)) (.leaf))) 25001 ((23, 1)) (.node (.node (.leaf) 33000 ((3, 0)) (.leaf)) 33001 ((3, 1)) (.node (.leaf) 34000 ((3, 0)) (.leaf)))) 34001 ((3, 1)) (.node (.node (.node (.leaf) 64000 ((50, 0)) (.leaf)) 64001 ((3, 1)) (.node (.leaf) 64002 ((55, 2)) (.leaf))) 65000 ((50, 0)) (.node (.node (.leaf) 65001 ((3, 1)) (.leaf)) 65002 ((55, 2)) (.leaf)))
theorem rowFldV_ok : rowFldV.rows.map (fun p => (tabOf Try.prog).fldV (p.1 / 1000) (p.1 % 1000)) = rowFldV.rows.map fun p => some p.2 := by kernel_rfl
def rowArr : Tr (Nat × Nat × Nat) := .node (.node (.leaf) 22 ((7, 3, 1)) (.leaf)) 23 ((7, 3, 1)) (.leaf)
theorem rowArr_ok : rowArr.rows.map (fun p => (tabOf Try.prog).arr p.1) = rowArr.rows.map fun p => some p.2 := by kernel_rfl
def rowSl : Tr (Nat × Nat) := .node (.node (.node (.leaf) 29 ((34, 2)) (.leaf)) 39 ((25, 8)) (.leaf)) 50 ((5, 1)) (.node (.leaf) 58 ((3, 1)) (.leaf))
theorem rowSl_ok : rowSl.rows.map (fun p => (tabOf Try.prog).sl p.1) = rowSl.rows.map fun p => some p.2 := by kernel_rfl
def rowKinds : Tr (List Nat) := .node (.node (.node (.leaf) 22 ([0, 0, 0, 0, 0, 0, 0]) (.leaf)) 23 ([0, 0, 0, 0, 0, 0, 0]) (.node (.leaf) 24 ([0, 0, 0, 0, 0, 0, 0, 0]) (.leaf))) 25 ([0, 0, 0, 0, 0, 0, 0, 0]) (.node (.node (.leaf) 33 ([0, 0]) (.leaf)) 34 ([0, 0]) (.leaf))
theorem rowKinds_ok : rowKinds.rows.map (fun p => (tabOf Try.prog).kinds p.1) = rowKinds.rows.map fun p => some p.2 := by kernel_rfl
def rowPlace : Tr (Nat × Nat) := .node (.node (.node (.node (.node (.leaf) 22000 ((0, 1)) (.leaf)) 22001 ((1, 1)) (.node (.leaf) 22002 ((2, 1)) (.leaf))) 22003 ((3, 1)) (.node (.node (.leaf) 22004 ((4, 1)) (.leaf)) 22005 ((5, 1)) (.node (.leaf) 22006 ((6, 1)) (.leaf)))) 23000 ((0, 1)) (.node (.node (.node (.leaf) 23001 ((1, 1)) (.leaf)) 23002 ((2, 1)) (.node (.leaf) 23003 ((3, 1)) (.leaf))) 23004 ((4, 1)) (.node (.node (.leaf) 23005 ((5, 1)) (.leaf)) 23006 ((6, 1)) (.leaf)))) 24000 ((0, 1)) (.node (.node (.node (.node (.leaf) 24001 ((1, 7)) (.leaf)) 25000 ((0, 1)) (.node (.leaf) 25001 ((1, 7)) (.leaf))) 33000 ((0, 1)) (.node (.node (.leaf) 33001 ((1, 1)) (.leaf)) 34000 ((0, 1)) (.leaf))) 34001 ((1, 1)) (.node (.node (.node (.leaf) 64000 ((0, 1)) (.leaf)) 64001 ((1, 1)) (.node (.leaf) 64002 ((2, 1)) (.leaf))) 65000 ((0, 1)) (.node (.node (.leaf) 65001 ((1, 1)) (.leaf)) 65002 ((2, 1)) (.leaf))))
theorem rowPlace_ok : rowPlace.rows.map (fun p => (tabOf Try.prog).place (p.1 / 1000) (p.1 % 1000)) = rowPlace.rows.map fun p => some p.2 := by kernel_rfl
def rowIk : Tr (IntKind) := .node (.node (.node (.node (.leaf) 2 (.i64) (.leaf)) 3 (.i64) (.leaf)) 5 (.u8) (.node (.leaf) 12 (.u64) (.leaf))) 21 (.i32) (.node (.node (.node (.leaf) 55 (.i64) (.leaf)) 67 (.u64) (.leaf)) 69 (.u64) (.node (.leaf) 78 (.u32) (.leaf)))
theorem rowIk_ok : rowIk.rows.map (fun p => (tabOf Try.prog).ik p.1) = rowIk.rows.map fun p => some p.2 := by kernel_rfl
def rowStr : Tr (Bool) := .node (.leaf) 9 (true) (.leaf)
theorem rowStr_ok : rowStr.rows.map (fun p => some ((tabOf Try.prog).str p.1)) = rowStr.rows.map fun p => some p.2 := by kernel_rfl
def rowBool : Tr (Bool) := .node (.leaf) 4 (true) (.leaf)
theorem rowBool_ok : rowBool.rows.map (fun p => some ((tabOf Try.prog).bool p.1)) = rowBool.rows.map fun p => some p.2 := by kernel_rfl
def rowBok : Tr (Bool) := .node (.node (.node (.node (.leaf) 22 (true) (.leaf)) 23 (true) (.leaf)) 24 (true) (.node (.leaf) 25 (true) (.leaf))) 33 (true) (.node (.node (.leaf) 34 (true) (.leaf)) 64 (true) (.node (.leaf) 65 (true) (.leaf)))
theorem rowBok_ok : rowBok.rows.map (fun p => some ((tabOf Try.prog).bok p.1)) = rowBok.rows.map fun p => some p.2 := by kernel_rfl
def rowPtr : Tr (Bool) := .node (.node (.leaf) 52 (true) (.leaf)) 82 (true) (.leaf)
theorem rowPtr_ok : rowPtr.rows.map (fun p => some ((tabOf Try.prog).ptr p.1)) = rowPtr.rows.map fun p => some p.2 := by kernel_rfl
def rowBody : Tr (Bool) := .node (.node (.node (.node (.node (.node (.leaf) 3 (true) (.leaf)) 4 (true) (.leaf)) 5 (true) (.node (.leaf) 6 (true) (.leaf))) 7 (true) (.node (.node (.node (.leaf) 8 (true) (.leaf)) 9 (true) (.leaf)) 10 (true) (.node (.leaf) 11 (true) (.leaf)))) 12 (true) (.node (.node (.node (.node (.leaf) 13 (true) (.leaf)) 14 (true) (.leaf)) 15 (true) (.node (.leaf) 16 (true) (.leaf))) 17 (true) (.node (.node (.node (.leaf) 18 (true) (.leaf)) 19 (true) (.leaf)) 20 (true) (.node (.leaf) 21 (true) (.leaf))))) 22 (true) (.node (.node (.node (.node (.node (.leaf) 23 (true) (.leaf)) 24 (true) (.leaf)) 25 (true) (.node (.leaf) 26 (true) (.leaf))) 27 (true) (.node (.node (.node (.leaf) 28 (true) (.leaf)) 29 (true) (.leaf)) 30 (true) (.node (.leaf) 31 (true) (.leaf)))) 32 (true) (.node (.node (.node (.node (.leaf) 33 (true) (.leaf)) 34 (true) (.leaf)) 35 (true) (.node (.leaf) 36 (true) (.leaf))) 37 (true) (.node (.node (.node (.leaf) 38 (true) (.leaf)) 39 (true) (.leaf)) 40 (true) (.node (.leaf) 41 (true) (.leaf)))))
theorem rowBody_ok : rowBody.rows.map (fun p => some ((tabOf Try.prog).body p.1)) = rowBody.rows.map fun p => some p.2 := by kernel_rfl
def tab : Tab where
  ty := atRow rowTy
  zero := atRow rowZero
  fld := atRow2 rowFld
  fldV := atRow2 rowFldV
  arr := atRow rowArr
  sl := atRow rowSl
  by8 := atRow rowBy
  kds := atRow rowKds
  sym _ := false
  pause _ := false
  str := atRowB rowStr
  kinds := atRow rowKinds
  place := atRow2 rowPlace
  bok := atRowB rowBok
  bool := atRowB rowBool
  ik := atRow rowIk
  ptr := atRowB rowPtr
  body := atRowB rowBody
theorem tab_ok : TabOk Try.prog tab where
  ty t x h := (tabOf_ok Try.prog).ty t x (atRow_of rowTy_ok t x h)
  zero t x h := (tabOf_ok Try.prog).zero t x (atRow_of rowZero_ok t x h)
  fld t f x h := (tabOf_ok Try.prog).fld t f x (atRow2_of rowFld_ok t f x h)
  fldV t f x h := (tabOf_ok Try.prog).fldV t f x (atRow2_of rowFldV_ok t f x h)
  arr t x h := (tabOf_ok Try.prog).arr t x (atRow_of rowArr_ok t x h)
  sl t x h := (tabOf_ok Try.prog).sl t x (atRow_of rowSl_ok t x h)
  by8 t x h := (tabOf_ok Try.prog).by8 t x (atRow_of rowBy_ok t x h)
  str t h := (tabOf_ok Try.prog).str t (atRowB_of rowStr_ok t h)
  kinds t x h := (tabOf_ok Try.prog).kinds t x (atRow_of rowKinds_ok t x h)
  place t i x h := (tabOf_ok Try.prog).place t i x (atRow2_of rowPlace_ok t i x h)
  bok t h := (tabOf_ok Try.prog).bok t (atRowB_of rowBok_ok t h)
  bool t h := (tabOf_ok Try.prog).bool t (atRowB_of rowBool_ok t h)
  ik t k h := (tabOf_ok Try.prog).ik t k (atRow_of rowIk_ok t k h)
  ptr t h := (tabOf_ok Try.prog).ptr t (atRowB_of rowPtr_ok t h)
  body t h := (tabOf_ok Try.prog).body t (atRowB_of rowBody_ok t h)
/-- The table of one function: which of its slots hold addresses that aren't reckoned out, at which regions the evaluation waits. -/
def tabY (ys ps : List Nat) : Tab := { tab with sym := memN ys, pause := memN ps }
theorem tabY_ok (ys ps : List Nat) : TabOk Try.prog (tabY ys ps) where
  ty := tab_ok.ty
  zero := tab_ok.zero
  fld := tab_ok.fld
  fldV := tab_ok.fldV
  arr := tab_ok.arr
  sl := tab_ok.sl
  by8 := tab_ok.by8
  str := tab_ok.str
  kinds := tab_ok.kinds
  place := tab_ok.place
  bok := tab_ok.bok
  bool := tab_ok.bool
  ik := tab_ok.ik
  ptr := tab_ok.ptr
  body := tab_ok.body
end Go.Proofs.Ytikodmddomaneaa
