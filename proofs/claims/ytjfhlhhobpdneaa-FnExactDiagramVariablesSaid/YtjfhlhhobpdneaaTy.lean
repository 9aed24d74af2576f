/- Printed by dec.py: plain functions and the proofs that the code computes them. No statement of the seat is proved here. -/
import Derived.Test.YtjfhlhhobpdneaaProg
import Derived.Test.YtjfhlhhobpdneaaDu
namespace Go.Proofs.Ytjfhlhhobpdneaa
open Go.RowKit
set_option linter.unusedVariables false
abbrev T_impl_Test := Int × Int × Bool
abbrev E_impl_Test : Enc T_impl_Test := ePr (eInt .i64) (ePr (eInt .i64) eBool)
theorem fl_impl_Test_0 : Fld E_impl_Test 0 (eInt .i64) (fun x : T_impl_Test => x.1) := Fld.fst
theorem fs_impl_Test_0 : FldS E_impl_Test 0 (eInt .i64) (fun (x : T_impl_Test) y => (y, x.2.1, x.2.2)) := FldS.fst
theorem ff_84_0 : FldF Try.prog 84 0 3 0 := ⟨_, _, Try.underlying84, rfl, rfl, rfl⟩
theorem ff_85_0 : FldF Try.prog 85 0 3 0 := ⟨_, _, Try.underlying85, rfl, rfl, rfl⟩
theorem ff_133_0 : FldF Try.prog 133 0 3 0 := ⟨_, _, Try.underlying133, rfl, rfl, rfl⟩
theorem fl_impl_Test_1 : Fld E_impl_Test 1 (eInt .i64) (fun x : T_impl_Test => x.2.1) := (Fld.snd Fld.fst)
theorem fs_impl_Test_1 : FldS E_impl_Test 1 (eInt .i64) (fun (x : T_impl_Test) y => (x.1, y, x.2.2)) := (FldS.snd FldS.fst)
theorem ff_84_1 : FldF Try.prog 84 1 3 1 := ⟨_, _, Try.underlying84, rfl, rfl, rfl⟩
theorem ff_85_1 : FldF Try.prog 85 1 3 1 := ⟨_, _, Try.underlying85, rfl, rfl, rfl⟩
theorem ff_133_1 : FldF Try.prog 133 1 3 1 := ⟨_, _, Try.underlying133, rfl, rfl, rfl⟩
theorem fl_impl_Test_2 : Fld E_impl_Test 2 eBool (fun x : T_impl_Test => x.2.2) := (Fld.snd (Fld.snd (Fld.id _)))
theorem fs_impl_Test_2 : FldS E_impl_Test 2 eBool (fun (x : T_impl_Test) y => (x.1, x.2.1, y)) := (FldS.snd (FldS.snd (FldS.id _)))
theorem ff_84_2 : FldF Try.prog 84 2 4 2 := ⟨_, _, Try.underlying84, rfl, rfl, rfl⟩
theorem ff_85_2 : FldF Try.prog 85 2 4 2 := ⟨_, _, Try.underlying85, rfl, rfl, rfl⟩
theorem ff_133_2 : FldF Try.prog 133 2 4 2 := ⟨_, _, Try.underlying133, rfl, rfl, rfl⟩
theorem val_impl_Test {A : Av} {w : World} {v : Value} {x : T_impl_Test} (h : Rep E_impl_Test A w v x) : v = .agg #[.int .i64 x.1, .int .i64 x.2.1, .bool x.2.2] := by
  obtain ⟨cs, rfl, h⟩ := h
  obtain ⟨_, _, rfl, rfl, ⟨_, _, rfl, rfl, rfl⟩⟩ := h
  rfl
set_option maxHeartbeats 1000000 in
theorem eql_84 (x y : T_impl_Test) (w : World) : (binOp .eql 84 (.agg #[.int .i64 x.1, .int .i64 x.2.1, .bool x.2.2]) (.agg #[.int .i64 y.1, .int .i64 y.2.1, .bool y.2.2])).run Try.prog w = .ok (.bool ((x == y))) w := by
  obtain ⟨p0, p1, p2⟩ := x
  obtain ⟨q0, q1, q2⟩ := y
  rw [show (((p0, p1, p2) : T_impl_Test) == (q0, q1, q2)) = ((p0 == q0) && ((p1 == q1) && (p2 == q2))) from rfl]
  cases h0 : (p0 == q0) <;> cases h1 : (p1 == q1) <;> cases h2 : (p2 == q2) <;> simp [go_sem, h0, h1, h2]
set_option maxHeartbeats 1000000 in
theorem neq_84 (x y : T_impl_Test) (w : World) : (binOp .neq 84 (.agg #[.int .i64 x.1, .int .i64 x.2.1, .bool x.2.2]) (.agg #[.int .i64 y.1, .int .i64 y.2.1, .bool y.2.2])).run Try.prog w = .ok (.bool (!(x == y))) w := by
  obtain ⟨p0, p1, p2⟩ := x
  obtain ⟨q0, q1, q2⟩ := y
  rw [show (((p0, p1, p2) : T_impl_Test) == (q0, q1, q2)) = ((p0 == q0) && ((p1 == q1) && (p2 == q2))) from rfl]
  cases h0 : (p0 == q0) <;> cases h1 : (p1 == q1) <;> cases h2 : (p2 == q2) <;> simp [go_sem, h0, h1, h2]
set_option maxHeartbeats 1000000 in
theorem eql_85 (x y : T_impl_Test) (w : World) : (binOp .eql 85 (.agg #[.int .i64 x.1, .int .i64 x.2.1, .bool x.2.2]) (.agg #[.int .i64 y.1, .int .i64 y.2.1, .bool y.2.2])).run Try.prog w = .ok (.bool ((x == y))) w := by
  obtain ⟨p0, p1, p2⟩ := x
  obtain ⟨q0, q1, q2⟩ := y
  rw [show (((p0, p1, p2) : T_impl_Test) == (q0, q1, q2)) = ((p0 == q0) && ((p1 == q1) && (p2 == q2))) from rfl]
  cases h0 : (p0 == q0) <;> cases h1 : (p1 == q1) <;> cases h2 : (p2 == q2) <;> simp [go_sem, h0, h1, h2]
set_option maxHeartbeats 1000000 in
theorem neq_85 (x y : T_impl_Test) (w : World) : (binOp .neq 85 (.agg #[.int .i64 x.1, .int .i64 x.2.1, .bool x.2.2]) (.agg #[.int .i64 y.1, .int .i64 y.2.1, .bool y.2.2])).run Try.prog w = .ok (.bool (!(x == y))) w := by
  obtain ⟨p0, p1, p2⟩ := x
  obtain ⟨q0, q1, q2⟩ := y
  rw [show (((p0, p1, p2) : T_impl_Test) == (q0, q1, q2)) = ((p0 == q0) && ((p1 == q1) && (p2 == q2))) from rfl]
  cases h0 : (p0 == q0) <;> cases h1 : (p1 == q1) <;> cases h2 : (p2 == q2) <;> simp [go_sem, h0, h1, h2]
set_option maxHeartbeats 1000000 in
theorem eql_133 (x y : T_impl_Test) (w : World) : (binOp .eql 133 (.agg #[.int .i64 x.1, .int .i64 x.2.1, .bool x.2.2]) (.agg #[.int .i64 y.1, .int .i64 y.2.1, .bool y.2.2])).run Try.prog w = .ok (.bool ((x == y))) w := by
  obtain ⟨p0, p1, p2⟩ := x
  obtain ⟨q0, q1, q2⟩ := y
  rw [show (((p0, p1, p2) : T_impl_Test) == (q0, q1, q2)) = ((p0 == q0) && ((p1 == q1) && (p2 == q2))) from rfl]
  cases h0 : (p0 == q0) <;> cases h1 : (p1 == q1) <;> cases h2 : (p2 == q2) <;> simp [go_sem, h0, h1, h2]
set_option maxHeartbeats 1000000 in
theorem neq_133 (x y : T_impl_Test) (w : World) : (binOp .neq 133 (.agg #[.int .i64 x.1, .int .i64 x.2.1, .bool x.2.2]) (.agg #[.int .i64 y.1, .int .i64 y.2.1, .bool y.2.2])).run Try.prog w = .ok (.bool (!(x == y))) w := by
  obtain ⟨p0, p1, p2⟩ := x
  obtain ⟨q0, q1, q2⟩ := y
  rw [show (((p0, p1, p2) : T_impl_Test) == (q0, q1, q2)) = ((p0 == q0) && ((p1 == q1) && (p2 == q2))) from rfl]
  cases h0 : (p0 == q0) <;> cases h1 : (p1 == q1) <;> cases h2 : (p2 == q2) <;> simp [go_sem, h0, h1, h2]
abbrev T_laws_Rule := (List T_impl_Test)
abbrev E_laws_Rule : Enc T_laws_Rule := eBx (eSl E_impl_Test)
theorem fl_laws_Rule_0 : Fld E_laws_Rule 0 (eSl E_impl_Test) (fun x : T_laws_Rule => x) := Fld.bx
theorem fs_laws_Rule_0 : FldS E_laws_Rule 0 (eSl E_impl_Test) (fun (x : T_laws_Rule) y => y) := FldS.bx
theorem ff_23_0 : FldF Try.prog 23 0 22 0 := ⟨_, _, Try.underlying23, rfl, rfl, rfl⟩
theorem ff_24_0 : FldF Try.prog 24 0 22 0 := ⟨_, _, Try.underlying24, rfl, rfl, rfl⟩
abbrev T_impl_Rule := (List T_impl_Test)
abbrev E_impl_Rule : Enc T_impl_Rule := eBx (eSl E_impl_Test)
theorem fl_impl_Rule_0 : Fld E_impl_Rule 0 (eSl E_impl_Test) (fun x : T_impl_Rule => x) := Fld.bx
theorem fs_impl_Rule_0 : FldS E_impl_Rule 0 (eSl E_impl_Test) (fun (x : T_impl_Rule) y => y) := FldS.bx
theorem ff_29_0 : FldF Try.prog 29 0 28 0 := ⟨_, _, Try.underlying29, rfl, rfl, rfl⟩
theorem ff_30_0 : FldF Try.prog 30 0 28 0 := ⟨_, _, Try.underlying30, rfl, rfl, rfl⟩
abbrev T_impl_DiagramNode := Int × Int × Int × Int
abbrev E_impl_DiagramNode : Enc T_impl_DiagramNode := ePr (eInt .i64) (ePr (eInt .i64) (ePr (eInt .i64) (eInt .i64)))
theorem fl_impl_DiagramNode_0 : Fld E_impl_DiagramNode 0 (eInt .i64) (fun x : T_impl_DiagramNode => x.1) := Fld.fst
theorem fs_impl_DiagramNode_0 : FldS E_impl_DiagramNode 0 (eInt .i64) (fun (x : T_impl_DiagramNode) y => (y, x.2.1, x.2.2.1, x.2.2.2)) := FldS.fst
theorem ff_91_0 : FldF Try.prog 91 0 3 0 := ⟨_, _, Try.underlying91, rfl, rfl, rfl⟩
theorem ff_92_0 : FldF Try.prog 92 0 3 0 := ⟨_, _, Try.underlying92, rfl, rfl, rfl⟩
theorem ff_137_0 : FldF Try.prog 137 0 3 0 := ⟨_, _, Try.underlying137, rfl, rfl, rfl⟩
theorem fl_impl_DiagramNode_1 : Fld E_impl_DiagramNode 1 (eInt .i64) (fun x : T_impl_DiagramNode => x.2.1) := (Fld.snd Fld.fst)
theorem fs_impl_DiagramNode_1 : FldS E_impl_DiagramNode 1 (eInt .i64) (fun (x : T_impl_DiagramNode) y => (x.1, y, x.2.2.1, x.2.2.2)) := (FldS.snd FldS.fst)
theorem ff_91_1 : FldF Try.prog 91 1 3 1 := ⟨_, _, Try.underlying91, rfl, rfl, rfl⟩
theorem ff_92_1 : FldF Try.prog 92 1 3 1 := ⟨_, _, Try.underlying92, rfl, rfl, rfl⟩
theorem ff_137_1 : FldF Try.prog 137 1 3 1 := ⟨_, _, Try.underlying137, rfl, rfl, rfl⟩
theorem fl_impl_DiagramNode_2 : Fld E_impl_DiagramNode 2 (eInt .i64) (fun x : T_impl_DiagramNode => x.2.2.1) := (Fld.snd (Fld.snd Fld.fst))
theorem fs_impl_DiagramNode_2 : FldS E_impl_DiagramNode 2 (eInt .i64) (fun (x : T_impl_DiagramNode) y => (x.1, x.2.1, y, x.2.2.2)) := (FldS.snd (FldS.snd FldS.fst))
theorem ff_91_2 : FldF Try.prog 91 2 3 2 := ⟨_, _, Try.underlying91, rfl, rfl, rfl⟩
theorem ff_92_2 : FldF Try.prog 92 2 3 2 := ⟨_, _, Try.underlying92, rfl, rfl, rfl⟩
theorem ff_137_2 : FldF Try.prog 137 2 3 2 := ⟨_, _, Try.underlying137, rfl, rfl, rfl⟩
theorem fl_impl_DiagramNode_3 : Fld E_impl_DiagramNode 3 (eInt .i64) (fun x : T_impl_DiagramNode => x.2.2.2) := (Fld.snd (Fld.snd (Fld.snd (Fld.id _))))
theorem fs_impl_DiagramNode_3 : FldS E_impl_DiagramNode 3 (eInt .i64) (fun (x : T_impl_DiagramNode) y => (x.1, x.2.1, x.2.2.1, y)) := (FldS.snd (FldS.snd (FldS.snd (FldS.id _))))
theorem ff_91_3 : FldF Try.prog 91 3 3 3 := ⟨_, _, Try.underlying91, rfl, rfl, rfl⟩
theorem ff_92_3 : FldF Try.prog 92 3 3 3 := ⟨_, _, Try.underlying92, rfl, rfl, rfl⟩
theorem ff_137_3 : FldF Try.prog 137 3 3 3 := ⟨_, _, Try.underlying137, rfl, rfl, rfl⟩
theorem val_impl_DiagramNode {A : Av} {w : World} {v : Value} {x : T_impl_DiagramNode} (h : Rep E_impl_DiagramNode A w v x) : v = .agg #[.int .i64 x.1, .int .i64 x.2.1, .int .i64 x.2.2.1, .int .i64 x.2.2.2] := by
  obtain ⟨cs, rfl, h⟩ := h
  obtain ⟨_, _, rfl, rfl, ⟨_, _, rfl, rfl, ⟨_, _, rfl, rfl, rfl⟩⟩⟩ := h
  rfl
set_option maxHeartbeats 1000000 in
theorem eql_91 (x y : T_impl_DiagramNode) (w : World) : (binOp .eql 91 (.agg #[.int .i64 x.1, .int .i64 x.2.1, .int .i64 x.2.2.1, .int .i64 x.2.2.2]) (.agg #[.int .i64 y.1, .int .i64 y.2.1, .int .i64 y.2.2.1, .int .i64 y.2.2.2])).run Try.prog w = .ok (.bool ((x == y))) w := by
  obtain ⟨p0, p1, p2, p3⟩ := x
  obtain ⟨q0, q1, q2, q3⟩ := y
  rw [show (((p0, p1, p2, p3) : T_impl_DiagramNode) == (q0, q1, q2, q3)) = ((p0 == q0) && ((p1 == q1) && ((p2 == q2) && (p3 == q3)))) from rfl]
  cases h0 : (p0 == q0) <;> cases h1 : (p1 == q1) <;> cases h2 : (p2 == q2) <;> cases h3 : (p3 == q3) <;> simp [go_sem, h0, h1, h2, h3]
set_option maxHeartbeats 1000000 in
theorem neq_91 (x y : T_impl_DiagramNode) (w : World) : (binOp .neq 91 (.agg #[.int .i64 x.1, .int .i64 x.2.1, .int .i64 x.2.2.1, .int .i64 x.2.2.2]) (.agg #[.int .i64 y.1, .int .i64 y.2.1, .int .i64 y.2.2.1, .int .i64 y.2.2.2])).run Try.prog w = .ok (.bool (!(x == y))) w := by
  obtain ⟨p0, p1, p2, p3⟩ := x
  obtain ⟨q0, q1, q2, q3⟩ := y
  rw [show (((p0, p1, p2, p3) : T_impl_DiagramNode) == (q0, q1, q2, q3)) = ((p0 == q0) && ((p1 == q1) && ((p2 == q2) && (p3 == q3)))) from rfl]
  cases h0 : (p0 == q0) <;> cases h1 : (p1 == q1) <;> cases h2 : (p2 == q2) <;> cases h3 : (p3 == q3) <;> simp [go_sem, h0, h1, h2, h3]
set_option maxHeartbeats 1000000 in
theorem eql_92 (x y : T_impl_DiagramNode) (w : World) : (binOp .eql 92 (.agg #[.int .i64 x.1, .int .i64 x.2.1, .int .i64 x.2.2.1, .int .i64 x.2.2.2]) (.agg #[.int .i64 y.1, .int .i64 y.2.1, .int .i64 y.2.2.1, .int .i64 y.2.2.2])).run Try.prog w = .ok (.bool ((x == y))) w := by
  obtain ⟨p0, p1, p2, p3⟩ := x
  obtain ⟨q0, q1, q2, q3⟩ := y
  rw [show (((p0, p1, p2, p3) : T_impl_DiagramNode) == (q0, q1, q2, q3)) = ((p0 == q0) && ((p1 == q1) && ((p2 == q2) && (p3 == q3)))) from rfl]
  cases h0 : (p0 == q0) <;> cases h1 : (p1 == q1) <;> cases h2 : (p2 == q2) <;> cases h3 : (p3 == q3) <;> simp [go_sem, h0, h1, h2, h3]
set_option maxHeartbeats 1000000 in
theorem neq_92 (x y : T_impl_DiagramNode) (w : World) : (binOp .neq 92 (.agg #[.int .i64 x.1, .int .i64 x.2.1, .int .i64 x.2.2.1, .int .i64 x.2.2.2]) (.agg #[.int .i64 y.1, .int .i64 y.2.1, .int .i64 y.2.2.1, .int .i64 y.2.2.2])).run Try.prog w = .ok (.bool (!(x == y))) w := by
  obtain ⟨p0, p1, p2, p3⟩ := x
  obtain ⟨q0, q1, q2, q3⟩ := y
  rw [show (((p0, p1, p2, p3) : T_impl_DiagramNode) == (q0, q1, q2, q3)) = ((p0 == q0) && ((p1 == q1) && ((p2 == q2) && (p3 == q3)))) from rfl]
  cases h0 : (p0 == q0) <;> cases h1 : (p1 == q1) <;> cases h2 : (p2 == q2) <;> cases h3 : (p3 == q3) <;> simp [go_sem, h0, h1, h2, h3]
set_option maxHeartbeats 1000000 in
theorem eql_137 (x y : T_impl_DiagramNode) (w : World) : (binOp .eql 137 (.agg #[.int .i64 x.1, .int .i64 x.2.1, .int .i64 x.2.2.1, .int .i64 x.2.2.2]) (.agg #[.int .i64 y.1, .int .i64 y.2.1, .int .i64 y.2.2.1, .int .i64 y.2.2.2])).run Try.prog w = .ok (.bool ((x == y))) w := by
  obtain ⟨p0, p1, p2, p3⟩ := x
  obtain ⟨q0, q1, q2, q3⟩ := y
  rw [show (((p0, p1, p2, p3) : T_impl_DiagramNode) == (q0, q1, q2, q3)) = ((p0 == q0) && ((p1 == q1) && ((p2 == q2) && (p3 == q3)))) from rfl]
  cases h0 : (p0 == q0) <;> cases h1 : (p1 == q1) <;> cases h2 : (p2 == q2) <;> cases h3 : (p3 == q3) <;> simp [go_sem, h0, h1, h2, h3]
set_option maxHeartbeats 1000000 in
theorem neq_137 (x y : T_impl_DiagramNode) (w : World) : (binOp .neq 137 (.agg #[.int .i64 x.1, .int .i64 x.2.1, .int .i64 x.2.2.1, .int .i64 x.2.2.2]) (.agg #[.int .i64 y.1, .int .i64 y.2.1, .int .i64 y.2.2.1, .int .i64 y.2.2.2])).run Try.prog w = .ok (.bool (!(x == y))) w := by
  obtain ⟨p0, p1, p2, p3⟩ := x
  obtain ⟨q0, q1, q2, q3⟩ := y
  rw [show (((p0, p1, p2, p3) : T_impl_DiagramNode) == (q0, q1, q2, q3)) = ((p0 == q0) && ((p1 == q1) && ((p2 == q2) && (p3 == q3)))) from rfl]
  cases h0 : (p0 == q0) <;> cases h1 : (p1 == q1) <;> cases h2 : (p2 == q2) <;> cases h3 : (p3 == q3) <;> simp [go_sem, h0, h1, h2, h3]
abbrev T_laws_Diagram := Int × (List T_impl_DiagramNode)
abbrev E_laws_Diagram : Enc T_laws_Diagram := ePr (eInt .i64) (eSl E_impl_DiagramNode)
theorem fl_laws_Diagram_0 : Fld E_laws_Diagram 0 (eInt .i64) (fun x : T_laws_Diagram => x.1) := Fld.fst
theorem fs_laws_Diagram_0 : FldS E_laws_Diagram 0 (eInt .i64) (fun (x : T_laws_Diagram) y => (y, x.2)) := FldS.fst
theorem ff_37_0 : FldF Try.prog 37 0 3 0 := ⟨_, _, Try.underlying37, rfl, rfl, rfl⟩
theorem ff_38_0 : FldF Try.prog 38 0 3 0 := ⟨_, _, Try.underlying38, rfl, rfl, rfl⟩
theorem fl_laws_Diagram_1 : Fld E_laws_Diagram 1 (eSl E_impl_DiagramNode) (fun x : T_laws_Diagram => x.2) := (Fld.snd (Fld.id _))
theorem fs_laws_Diagram_1 : FldS E_laws_Diagram 1 (eSl E_impl_DiagramNode) (fun (x : T_laws_Diagram) y => (x.1, y)) := (FldS.snd (FldS.id _))
theorem ff_37_1 : FldF Try.prog 37 1 36 1 := ⟨_, _, Try.underlying37, rfl, rfl, rfl⟩
theorem ff_38_1 : FldF Try.prog 38 1 36 1 := ⟨_, _, Try.underlying38, rfl, rfl, rfl⟩
abbrev T_impl_Diagram := Int × (List T_impl_DiagramNode)
abbrev E_impl_Diagram : Enc T_impl_Diagram := ePr (eInt .i64) (eSl E_impl_DiagramNode)
theorem fl_impl_Diagram_0 : Fld E_impl_Diagram 0 (eInt .i64) (fun x : T_impl_Diagram => x.1) := Fld.fst
theorem fs_impl_Diagram_0 : FldS E_impl_Diagram 0 (eInt .i64) (fun (x : T_impl_Diagram) y => (y, x.2)) := FldS.fst
theorem ff_42_0 : FldF Try.prog 42 0 3 0 := ⟨_, _, Try.underlying42, rfl, rfl, rfl⟩
theorem ff_43_0 : FldF Try.prog 43 0 3 0 := ⟨_, _, Try.underlying43, rfl, rfl, rfl⟩
theorem fl_impl_Diagram_1 : Fld E_impl_Diagram 1 (eSl E_impl_DiagramNode) (fun x : T_impl_Diagram => x.2) := (Fld.snd (Fld.id _))
theorem fs_impl_Diagram_1 : FldS E_impl_Diagram 1 (eSl E_impl_DiagramNode) (fun (x : T_impl_Diagram) y => (x.1, y)) := (FldS.snd (FldS.id _))
theorem ff_42_1 : FldF Try.prog 42 1 41 1 := ⟨_, _, Try.underlying42, rfl, rfl, rfl⟩
theorem ff_43_1 : FldF Try.prog 43 1 41 1 := ⟨_, _, Try.underlying43, rfl, rfl, rfl⟩
abbrev T_impl_Scoring := (List Int) × Int
abbrev E_impl_Scoring : Enc T_impl_Scoring := ePr (eSl (eInt .i64)) (eInt .i64)
theorem fl_impl_Scoring_0 : Fld E_impl_Scoring 0 (eSl (eInt .i64)) (fun x : T_impl_Scoring => x.1) := Fld.fst
theorem fs_impl_Scoring_0 : FldS E_impl_Scoring 0 (eSl (eInt .i64)) (fun (x : T_impl_Scoring) y => (y, x.2)) := FldS.fst
theorem ff_47_0 : FldF Try.prog 47 0 25 0 := ⟨_, _, Try.underlying47, rfl, rfl, rfl⟩
theorem ff_48_0 : FldF Try.prog 48 0 25 0 := ⟨_, _, Try.underlying48, rfl, rfl, rfl⟩
theorem ff_51_0 : FldF Try.prog 51 0 25 0 := ⟨_, _, Try.underlying51, rfl, rfl, rfl⟩
theorem fl_impl_Scoring_1 : Fld E_impl_Scoring 1 (eInt .i64) (fun x : T_impl_Scoring => x.2) := (Fld.snd (Fld.id _))
theorem fs_impl_Scoring_1 : FldS E_impl_Scoring 1 (eInt .i64) (fun (x : T_impl_Scoring) y => (x.1, y)) := (FldS.snd (FldS.id _))
theorem ff_47_1 : FldF Try.prog 47 1 3 1 := ⟨_, _, Try.underlying47, rfl, rfl, rfl⟩
theorem ff_48_1 : FldF Try.prog 48 1 3 1 := ⟨_, _, Try.underlying48, rfl, rfl, rfl⟩
theorem ff_51_1 : FldF Try.prog 51 1 3 1 := ⟨_, _, Try.underlying51, rfl, rfl, rfl⟩
abbrev T_laws_RuleSet := (List T_laws_Rule)
abbrev E_laws_RuleSet : Enc T_laws_RuleSet := eBx (eSl E_laws_Rule)
theorem fl_laws_RuleSet_0 : Fld E_laws_RuleSet 0 (eSl E_laws_Rule) (fun x : T_laws_RuleSet => x) := Fld.bx
theorem fs_laws_RuleSet_0 : FldS E_laws_RuleSet 0 (eSl E_laws_Rule) (fun (x : T_laws_RuleSet) y => y) := FldS.bx
theorem ff_56_0 : FldF Try.prog 56 0 55 0 := ⟨_, _, Try.underlying56, rfl, rfl, rfl⟩
theorem ff_57_0 : FldF Try.prog 57 0 55 0 := ⟨_, _, Try.underlying57, rfl, rfl, rfl⟩
abbrev T_impl_RuleSet := (List T_impl_Rule)
abbrev E_impl_RuleSet : Enc T_impl_RuleSet := eBx (eSl E_impl_Rule)
theorem fl_impl_RuleSet_0 : Fld E_impl_RuleSet 0 (eSl E_impl_Rule) (fun x : T_impl_RuleSet => x) := Fld.bx
theorem fs_impl_RuleSet_0 : FldS E_impl_RuleSet 0 (eSl E_impl_Rule) (fun (x : T_impl_RuleSet) y => y) := FldS.bx
theorem ff_61_0 : FldF Try.prog 61 0 60 0 := ⟨_, _, Try.underlying61, rfl, rfl, rfl⟩
theorem ff_62_0 : FldF Try.prog 62 0 60 0 := ⟨_, _, Try.underlying62, rfl, rfl, rfl⟩
abbrev T_impl_drawer := T_impl_RuleSet × (List T_impl_Test) × (List Bool) × (List T_impl_DiagramNode)
abbrev E_impl_drawer : Enc T_impl_drawer := ePr E_impl_RuleSet (ePr (eSl E_impl_Test) (ePr (eSl eBool) (eSl E_impl_DiagramNode)))
theorem fl_impl_drawer_0 : Fld E_impl_drawer 0 E_impl_RuleSet (fun x : T_impl_drawer => x.1) := Fld.fst
theorem fs_impl_drawer_0 : FldS E_impl_drawer 0 E_impl_RuleSet (fun (x : T_impl_drawer) y => (y, x.2.1, x.2.2.1, x.2.2.2)) := FldS.fst
theorem ff_128_0 : FldF Try.prog 128 0 62 0 := ⟨_, _, Try.underlying128, rfl, rfl, rfl⟩
theorem ff_129_0 : FldF Try.prog 129 0 62 0 := ⟨_, _, Try.underlying129, rfl, rfl, rfl⟩
theorem fl_impl_drawer_1 : Fld E_impl_drawer 1 (eSl E_impl_Test) (fun x : T_impl_drawer => x.2.1) := (Fld.snd Fld.fst)
theorem fs_impl_drawer_1 : FldS E_impl_drawer 1 (eSl E_impl_Test) (fun (x : T_impl_drawer) y => (x.1, y, x.2.2.1, x.2.2.2)) := (FldS.snd FldS.fst)
theorem ff_128_1 : FldF Try.prog 128 1 28 1 := ⟨_, _, Try.underlying128, rfl, rfl, rfl⟩
theorem ff_129_1 : FldF Try.prog 129 1 28 1 := ⟨_, _, Try.underlying129, rfl, rfl, rfl⟩
theorem fl_impl_drawer_2 : Fld E_impl_drawer 2 (eSl eBool) (fun x : T_impl_drawer => x.2.2.1) := (Fld.snd (Fld.snd Fld.fst))
theorem fs_impl_drawer_2 : FldS E_impl_drawer 2 (eSl eBool) (fun (x : T_impl_drawer) y => (x.1, x.2.1, y, x.2.2.2)) := (FldS.snd (FldS.snd FldS.fst))
theorem ff_128_2 : FldF Try.prog 128 2 127 2 := ⟨_, _, Try.underlying128, rfl, rfl, rfl⟩
theorem ff_129_2 : FldF Try.prog 129 2 127 2 := ⟨_, _, Try.underlying129, rfl, rfl, rfl⟩
theorem fl_impl_drawer_3 : Fld E_impl_drawer 3 (eSl E_impl_DiagramNode) (fun x : T_impl_drawer => x.2.2.2) := (Fld.snd (Fld.snd (Fld.snd (Fld.id _))))
theorem fs_impl_drawer_3 : FldS E_impl_drawer 3 (eSl E_impl_DiagramNode) (fun (x : T_impl_drawer) y => (x.1, x.2.1, x.2.2.1, y)) := (FldS.snd (FldS.snd (FldS.snd (FldS.id _))))
theorem ff_128_3 : FldF Try.prog 128 3 41 3 := ⟨_, _, Try.underlying128, rfl, rfl, rfl⟩
theorem ff_129_3 : FldF Try.prog 129 3 41 3 := ⟨_, _, Try.underlying129, rfl, rfl, rfl⟩
theorem el_133 : ElF Try.prog 133 3 := el_of Try.zeroValue133 Try.sizeOf133 (by kernel_rfl : (Try.prog.info? 133).map (·.bytes) = some 24) rfl (by decide) (by decide)
theorem el_3 : ElF Try.prog 3 1 := el_of Try.zeroValue3 Try.sizeOf3 (by kernel_rfl : (Try.prog.info? 3).map (·.bytes) = some 8) rfl (by decide) (by decide)
theorem el_85 : ElF Try.prog 85 3 := el_of Try.zeroValue85 Try.sizeOf85 (by kernel_rfl : (Try.prog.info? 85).map (·.bytes) = some 24) rfl (by decide) (by decide)
theorem el_137 : ElF Try.prog 137 4 := el_of Try.zeroValue137 Try.sizeOf137 (by kernel_rfl : (Try.prog.info? 137).map (·.bytes) = some 32) rfl (by decide) (by decide)
theorem el_92 : ElF Try.prog 92 4 := el_of Try.zeroValue92 Try.sizeOf92 (by kernel_rfl : (Try.prog.info? 92).map (·.bytes) = some 32) rfl (by decide) (by decide)
theorem el_24 : ElF Try.prog 24 1 := el_of Try.zeroValue24 Try.sizeOf24 (by kernel_rfl : (Try.prog.info? 24).map (·.bytes) = some 24) rfl (by decide) (by decide)
theorem el_30 : ElF Try.prog 30 1 := el_of Try.zeroValue30 Try.sizeOf30 (by kernel_rfl : (Try.prog.info? 30).map (·.bytes) = some 24) rfl (by decide) (by decide)
theorem el_25 : ElF Try.prog 25 1 := el_of Try.zeroValue25 Try.sizeOf25 (by kernel_rfl : (Try.prog.info? 25).map (·.bytes) = some 24) rfl (by decide) (by decide)
theorem el_4 : ElF Try.prog 4 1 := el_of Try.zeroValue4 Try.sizeOf4 (by kernel_rfl : (Try.prog.info? 4).map (·.bytes) = some 1) rfl (by decide) (by decide)
end Go.Proofs.Ytjfhlhhobpdneaa
