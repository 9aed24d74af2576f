/- Printed by dec.py: plain functions and the proofs that the code computes them. No statement of the seat is proved here. -/
import Derived.Test.YtjdnomcpepbdaaaDoorProg
import Derived.Test.YtjdnomcpepbdaaaDoorDu
namespace Go.Proofs.YtjdnomcpepbdaaaDoor
open Go.RowKit
set_option linter.unusedVariables false
abbrev T_impl_DiagramNode := Int × Int × Int × Int
abbrev E_impl_DiagramNode : Enc T_impl_DiagramNode := ePr (eInt .i64) (ePr (eInt .i64) (ePr (eInt .i64) (eInt .i64)))
theorem fl_impl_DiagramNode_0 : Fld E_impl_DiagramNode 0 (eInt .i64) (fun x : T_impl_DiagramNode => x.1) := Fld.fst
theorem fs_impl_DiagramNode_0 : FldS E_impl_DiagramNode 0 (eInt .i64) (fun (x : T_impl_DiagramNode) y => (y, x.2.1, x.2.2.1, x.2.2.2)) := FldS.fst
theorem ff_62_0 : FldF Tryd.prog 62 0 3 0 := ⟨_, _, Tryd.underlying62, rfl, rfl, rfl⟩
theorem ff_63_0 : FldF Tryd.prog 63 0 3 0 := ⟨_, _, Tryd.underlying63, rfl, rfl, rfl⟩
theorem ff_101_0 : FldF Tryd.prog 101 0 3 0 := ⟨_, _, Tryd.underlying101, rfl, rfl, rfl⟩
theorem fl_impl_DiagramNode_1 : Fld E_impl_DiagramNode 1 (eInt .i64) (fun x : T_impl_DiagramNode => x.2.1) := (Fld.snd Fld.fst)
theorem fs_impl_DiagramNode_1 : FldS E_impl_DiagramNode 1 (eInt .i64) (fun (x : T_impl_DiagramNode) y => (x.1, y, x.2.2.1, x.2.2.2)) := (FldS.snd FldS.fst)
theorem ff_62_1 : FldF Tryd.prog 62 1 3 1 := ⟨_, _, Tryd.underlying62, rfl, rfl, rfl⟩
theorem ff_63_1 : FldF Tryd.prog 63 1 3 1 := ⟨_, _, Tryd.underlying63, rfl, rfl, rfl⟩
theorem ff_101_1 : FldF Tryd.prog 101 1 3 1 := ⟨_, _, Tryd.underlying101, rfl, rfl, rfl⟩
theorem fl_impl_DiagramNode_2 : Fld E_impl_DiagramNode 2 (eInt .i64) (fun x : T_impl_DiagramNode => x.2.2.1) := (Fld.snd (Fld.snd Fld.fst))
theorem fs_impl_DiagramNode_2 : FldS E_impl_DiagramNode 2 (eInt .i64) (fun (x : T_impl_DiagramNode) y => (x.1, x.2.1, y, x.2.2.2)) := (FldS.snd (FldS.snd FldS.fst))
theorem ff_62_2 : FldF Tryd.prog 62 2 3 2 := ⟨_, _, Tryd.underlying62, rfl, rfl, rfl⟩
theorem ff_63_2 : FldF Tryd.prog 63 2 3 2 := ⟨_, _, Tryd.underlying63, rfl, rfl, rfl⟩
theorem ff_101_2 : FldF Tryd.prog 101 2 3 2 := ⟨_, _, Tryd.underlying101, rfl, rfl, rfl⟩
theorem fl_impl_DiagramNode_3 : Fld E_impl_DiagramNode 3 (eInt .i64) (fun x : T_impl_DiagramNode => x.2.2.2) := (Fld.snd (Fld.snd (Fld.snd (Fld.id _))))
theorem fs_impl_DiagramNode_3 : FldS E_impl_DiagramNode 3 (eInt .i64) (fun (x : T_impl_DiagramNode) y => (x.1, x.2.1, x.2.2.1, y)) := (FldS.snd (FldS.snd (FldS.snd (FldS.id _))))
theorem ff_62_3 : FldF Tryd.prog 62 3 3 3 := ⟨_, _, Tryd.underlying62, rfl, rfl, rfl⟩
theorem ff_63_3 : FldF Tryd.prog 63 3 3 3 := ⟨_, _, Tryd.underlying63, rfl, rfl, rfl⟩
theorem ff_101_3 : FldF Tryd.prog 101 3 3 3 := ⟨_, _, Tryd.underlying101, rfl, rfl, rfl⟩
theorem val_impl_DiagramNode {A : Av} {w : World} {v : Value} {x : T_impl_DiagramNode} (h : Rep E_impl_DiagramNode A w v x) : v = .agg #[.int .i64 x.1, .int .i64 x.2.1, .int .i64 x.2.2.1, .int .i64 x.2.2.2] := by
  obtain ⟨cs, rfl, h⟩ := h
  obtain ⟨_, _, rfl, rfl, ⟨_, _, rfl, rfl, ⟨_, _, rfl, rfl, rfl⟩⟩⟩ := h
  rfl
set_option maxHeartbeats 1000000 in
theorem eql_62 (x y : T_impl_DiagramNode) (w : World) : (binOp .eql 62 (.agg #[.int .i64 x.1, .int .i64 x.2.1, .int .i64 x.2.2.1, .int .i64 x.2.2.2]) (.agg #[.int .i64 y.1, .int .i64 y.2.1, .int .i64 y.2.2.1, .int .i64 y.2.2.2])).run Tryd.prog w = .ok (.bool ((x == y))) w := by
  obtain ⟨p0, p1, p2, p3⟩ := x
  obtain ⟨q0, q1, q2, q3⟩ := y
  rw [show (((p0, p1, p2, p3) : T_impl_DiagramNode) == (q0, q1, q2, q3)) = ((p0 == q0) && ((p1 == q1) && ((p2 == q2) && (p3 == q3)))) from rfl]
  cases h0 : (p0 == q0) <;> cases h1 : (p1 == q1) <;> cases h2 : (p2 == q2) <;> cases h3 : (p3 == q3) <;> simp [go_sem, h0, h1, h2, h3]
set_option maxHeartbeats 1000000 in
theorem neq_62 (x y : T_impl_DiagramNode) (w : World) : (binOp .neq 62 (.agg #[.int .i64 x.1, .int .i64 x.2.1, .int .i64 x.2.2.1, .int .i64 x.2.2.2]) (.agg #[.int .i64 y.1, .int .i64 y.2.1, .int .i64 y.2.2.1, .int .i64 y.2.2.2])).run Tryd.prog w = .ok (.bool (!(x == y))) w := by
  obtain ⟨p0, p1, p2, p3⟩ := x
  obtain ⟨q0, q1, q2, q3⟩ := y
  rw [show (((p0, p1, p2, p3) : T_impl_DiagramNode) == (q0, q1, q2, q3)) = ((p0 == q0) && ((p1 == q1) && ((p2 == q2) && (p3 == q3)))) from rfl]
  cases h0 : (p0 == q0) <;> cases h1 : (p1 == q1) <;> cases h2 : (p2 == q2) <;> cases h3 : (p3 == q3) <;> simp [go_sem, h0, h1, h2, h3]
set_option maxHeartbeats 1000000 in
theorem eql_63 (x y : T_impl_DiagramNode) (w : World) : (binOp .eql 63 (.agg #[.int .i64 x.1, .int .i64 x.2.1, .int .i64 x.2.2.1, .int .i64 x.2.2.2]) (.agg #[.int .i64 y.1, .int .i64 y.2.1, .int .i64 y.2.2.1, .int .i64 y.2.2.2])).run Tryd.prog w = .ok (.bool ((x == y))) w := by
  obtain ⟨p0, p1, p2, p3⟩ := x
  obtain ⟨q0, q1, q2, q3⟩ := y
  rw [show (((p0, p1, p2, p3) : T_impl_DiagramNode) == (q0, q1, q2, q3)) = ((p0 == q0) && ((p1 == q1) && ((p2 == q2) && (p3 == q3)))) from rfl]
  cases h0 : (p0 == q0) <;> cases h1 : (p1 == q1) <;> cases h2 : (p2 == q2) <;> cases h3 : (p3 == q3) <;> simp [go_sem, h0, h1, h2, h3]
set_option maxHeartbeats 1000000 in
theorem neq_63 (x y : T_impl_DiagramNode) (w : World) : (binOp .neq 63 (.agg #[.int .i64 x.1, .int .i64 x.2.1, .int .i64 x.2.2.1, .int .i64 x.2.2.2]) (.agg #[.int .i64 y.1, .int .i64 y.2.1, .int .i64 y.2.2.1, .int .i64 y.2.2.2])).run Tryd.prog w = .ok (.bool (!(x == y))) w := by
  obtain ⟨p0, p1, p2, p3⟩ := x
  obtain ⟨q0, q1, q2, q3⟩ := y
  rw [show (((p0, p1, p2, p3) : T_impl_DiagramNode) == (q0, q1, q2, q3)) = ((p0 == q0) && ((p1 == q1) && ((p2 == q2) && (p3 == q3)))) from rfl]
  cases h0 : (p0 == q0) <;> cases h1 : (p1 == q1) <;> cases h2 : (p2 == q2) <;> cases h3 : (p3 == q3) <;> simp [go_sem, h0, h1, h2, h3]
set_option maxHeartbeats 1000000 in
theorem eql_101 (x y : T_impl_DiagramNode) (w : World) : (binOp .eql 101 (.agg #[.int .i64 x.1, .int .i64 x.2.1, .int .i64 x.2.2.1, .int .i64 x.2.2.2]) (.agg #[.int .i64 y.1, .int .i64 y.2.1, .int .i64 y.2.2.1, .int .i64 y.2.2.2])).run Tryd.prog w = .ok (.bool ((x == y))) w := by
  obtain ⟨p0, p1, p2, p3⟩ := x
  obtain ⟨q0, q1, q2, q3⟩ := y
  rw [show (((p0, p1, p2, p3) : T_impl_DiagramNode) == (q0, q1, q2, q3)) = ((p0 == q0) && ((p1 == q1) && ((p2 == q2) && (p3 == q3)))) from rfl]
  cases h0 : (p0 == q0) <;> cases h1 : (p1 == q1) <;> cases h2 : (p2 == q2) <;> cases h3 : (p3 == q3) <;> simp [go_sem, h0, h1, h2, h3]
set_option maxHeartbeats 1000000 in
theorem neq_101 (x y : T_impl_DiagramNode) (w : World) : (binOp .neq 101 (.agg #[.int .i64 x.1, .int .i64 x.2.1, .int .i64 x.2.2.1, .int .i64 x.2.2.2]) (.agg #[.int .i64 y.1, .int .i64 y.2.1, .int .i64 y.2.2.1, .int .i64 y.2.2.2])).run Tryd.prog w = .ok (.bool (!(x == y))) w := by
  obtain ⟨p0, p1, p2, p3⟩ := x
  obtain ⟨q0, q1, q2, q3⟩ := y
  rw [show (((p0, p1, p2, p3) : T_impl_DiagramNode) == (q0, q1, q2, q3)) = ((p0 == q0) && ((p1 == q1) && ((p2 == q2) && (p3 == q3)))) from rfl]
  cases h0 : (p0 == q0) <;> cases h1 : (p1 == q1) <;> cases h2 : (p2 == q2) <;> cases h3 : (p3 == q3) <;> simp [go_sem, h0, h1, h2, h3]
abbrev T_laws_Diagram := Int × (List T_impl_DiagramNode)
abbrev E_laws_Diagram : Enc T_laws_Diagram := ePr (eInt .i64) (eSl E_impl_DiagramNode)
theorem fl_laws_Diagram_0 : Fld E_laws_Diagram 0 (eInt .i64) (fun x : T_laws_Diagram => x.1) := Fld.fst
theorem fs_laws_Diagram_0 : FldS E_laws_Diagram 0 (eInt .i64) (fun (x : T_laws_Diagram) y => (y, x.2)) := FldS.fst
theorem ff_28_0 : FldF Tryd.prog 28 0 3 0 := ⟨_, _, Tryd.underlying28, rfl, rfl, rfl⟩
theorem ff_29_0 : FldF Tryd.prog 29 0 3 0 := ⟨_, _, Tryd.underlying29, rfl, rfl, rfl⟩
theorem fl_laws_Diagram_1 : Fld E_laws_Diagram 1 (eSl E_impl_DiagramNode) (fun x : T_laws_Diagram => x.2) := (Fld.snd (Fld.id _))
theorem fs_laws_Diagram_1 : FldS E_laws_Diagram 1 (eSl E_impl_DiagramNode) (fun (x : T_laws_Diagram) y => (x.1, y)) := (FldS.snd (FldS.id _))
theorem ff_28_1 : FldF Tryd.prog 28 1 27 1 := ⟨_, _, Tryd.underlying28, rfl, rfl, rfl⟩
theorem ff_29_1 : FldF Tryd.prog 29 1 27 1 := ⟨_, _, Tryd.underlying29, rfl, rfl, rfl⟩
abbrev T_impl_Diagram := Int × (List T_impl_DiagramNode)
abbrev E_impl_Diagram : Enc T_impl_Diagram := ePr (eInt .i64) (eSl E_impl_DiagramNode)
theorem fl_impl_Diagram_0 : Fld E_impl_Diagram 0 (eInt .i64) (fun x : T_impl_Diagram => x.1) := Fld.fst
theorem fs_impl_Diagram_0 : FldS E_impl_Diagram 0 (eInt .i64) (fun (x : T_impl_Diagram) y => (y, x.2)) := FldS.fst
theorem ff_33_0 : FldF Tryd.prog 33 0 3 0 := ⟨_, _, Tryd.underlying33, rfl, rfl, rfl⟩
theorem ff_34_0 : FldF Tryd.prog 34 0 3 0 := ⟨_, _, Tryd.underlying34, rfl, rfl, rfl⟩
theorem fl_impl_Diagram_1 : Fld E_impl_Diagram 1 (eSl E_impl_DiagramNode) (fun x : T_impl_Diagram => x.2) := (Fld.snd (Fld.id _))
theorem fs_impl_Diagram_1 : FldS E_impl_Diagram 1 (eSl E_impl_DiagramNode) (fun (x : T_impl_Diagram) y => (x.1, y)) := (FldS.snd (FldS.id _))
theorem ff_33_1 : FldF Tryd.prog 33 1 32 1 := ⟨_, _, Tryd.underlying33, rfl, rfl, rfl⟩
theorem ff_34_1 : FldF Tryd.prog 34 1 32 1 := ⟨_, _, Tryd.underlying34, rfl, rfl, rfl⟩
abbrev T_impl_Test := Int × Int × Bool
abbrev E_impl_Test : Enc T_impl_Test := ePr (eInt .i64) (ePr (eInt .i64) eBool)
theorem fl_impl_Test_0 : Fld E_impl_Test 0 (eInt .i64) (fun x : T_impl_Test => x.1) := Fld.fst
theorem fs_impl_Test_0 : FldS E_impl_Test 0 (eInt .i64) (fun (x : T_impl_Test) y => (y, x.2.1, x.2.2)) := FldS.fst
theorem ff_66_0 : FldF Tryd.prog 66 0 3 0 := ⟨_, _, Tryd.underlying66, rfl, rfl, rfl⟩
theorem ff_67_0 : FldF Tryd.prog 67 0 3 0 := ⟨_, _, Tryd.underlying67, rfl, rfl, rfl⟩
theorem ff_127_0 : FldF Tryd.prog 127 0 3 0 := ⟨_, _, Tryd.underlying127, rfl, rfl, rfl⟩
theorem fl_impl_Test_1 : Fld E_impl_Test 1 (eInt .i64) (fun x : T_impl_Test => x.2.1) := (Fld.snd Fld.fst)
theorem fs_impl_Test_1 : FldS E_impl_Test 1 (eInt .i64) (fun (x : T_impl_Test) y => (x.1, y, x.2.2)) := (FldS.snd FldS.fst)
theorem ff_66_1 : FldF Tryd.prog 66 1 3 1 := ⟨_, _, Tryd.underlying66, rfl, rfl, rfl⟩
theorem ff_67_1 : FldF Tryd.prog 67 1 3 1 := ⟨_, _, Tryd.underlying67, rfl, rfl, rfl⟩
theorem ff_127_1 : FldF Tryd.prog 127 1 3 1 := ⟨_, _, Tryd.underlying127, rfl, rfl, rfl⟩
theorem fl_impl_Test_2 : Fld E_impl_Test 2 eBool (fun x : T_impl_Test => x.2.2) := (Fld.snd (Fld.snd (Fld.id _)))
theorem fs_impl_Test_2 : FldS E_impl_Test 2 eBool (fun (x : T_impl_Test) y => (x.1, x.2.1, y)) := (FldS.snd (FldS.snd (FldS.id _)))
theorem ff_66_2 : FldF Tryd.prog 66 2 4 2 := ⟨_, _, Tryd.underlying66, rfl, rfl, rfl⟩
theorem ff_67_2 : FldF Tryd.prog 67 2 4 2 := ⟨_, _, Tryd.underlying67, rfl, rfl, rfl⟩
theorem ff_127_2 : FldF Tryd.prog 127 2 4 2 := ⟨_, _, Tryd.underlying127, rfl, rfl, rfl⟩
theorem val_impl_Test {A : Av} {w : World} {v : Value} {x : T_impl_Test} (h : Rep E_impl_Test A w v x) : v = .agg #[.int .i64 x.1, .int .i64 x.2.1, .bool x.2.2] := by
  obtain ⟨cs, rfl, h⟩ := h
  obtain ⟨_, _, rfl, rfl, ⟨_, _, rfl, rfl, rfl⟩⟩ := h
  rfl
set_option maxHeartbeats 1000000 in
theorem eql_66 (x y : T_impl_Test) (w : World) : (binOp .eql 66 (.agg #[.int .i64 x.1, .int .i64 x.2.1, .bool x.2.2]) (.agg #[.int .i64 y.1, .int .i64 y.2.1, .bool y.2.2])).run Tryd.prog w = .ok (.bool ((x == y))) w := by
  obtain ⟨p0, p1, p2⟩ := x
  obtain ⟨q0, q1, q2⟩ := y
  rw [show (((p0, p1, p2) : T_impl_Test) == (q0, q1, q2)) = ((p0 == q0) && ((p1 == q1) && (p2 == q2))) from rfl]
  cases h0 : (p0 == q0) <;> cases h1 : (p1 == q1) <;> cases h2 : (p2 == q2) <;> simp [go_sem, h0, h1, h2]
set_option maxHeartbeats 1000000 in
theorem neq_66 (x y : T_impl_Test) (w : World) : (binOp .neq 66 (.agg #[.int .i64 x.1, .int .i64 x.2.1, .bool x.2.2]) (.agg #[.int .i64 y.1, .int .i64 y.2.1, .bool y.2.2])).run Tryd.prog w = .ok (.bool (!(x == y))) w := by
  obtain ⟨p0, p1, p2⟩ := x
  obtain ⟨q0, q1, q2⟩ := y
  rw [show (((p0, p1, p2) : T_impl_Test) == (q0, q1, q2)) = ((p0 == q0) && ((p1 == q1) && (p2 == q2))) from rfl]
  cases h0 : (p0 == q0) <;> cases h1 : (p1 == q1) <;> cases h2 : (p2 == q2) <;> simp [go_sem, h0, h1, h2]
set_option maxHeartbeats 1000000 in
theorem eql_67 (x y : T_impl_Test) (w : World) : (binOp .eql 67 (.agg #[.int .i64 x.1, .int .i64 x.2.1, .bool x.2.2]) (.agg #[.int .i64 y.1, .int .i64 y.2.1, .bool y.2.2])).run Tryd.prog w = .ok (.bool ((x == y))) w := by
  obtain ⟨p0, p1, p2⟩ := x
  obtain ⟨q0, q1, q2⟩ := y
  rw [show (((p0, p1, p2) : T_impl_Test) == (q0, q1, q2)) = ((p0 == q0) && ((p1 == q1) && (p2 == q2))) from rfl]
  cases h0 : (p0 == q0) <;> cases h1 : (p1 == q1) <;> cases h2 : (p2 == q2) <;> simp [go_sem, h0, h1, h2]
set_option maxHeartbeats 1000000 in
theorem neq_67 (x y : T_impl_Test) (w : World) : (binOp .neq 67 (.agg #[.int .i64 x.1, .int .i64 x.2.1, .bool x.2.2]) (.agg #[.int .i64 y.1, .int .i64 y.2.1, .bool y.2.2])).run Tryd.prog w = .ok (.bool (!(x == y))) w := by
  obtain ⟨p0, p1, p2⟩ := x
  obtain ⟨q0, q1, q2⟩ := y
  rw [show (((p0, p1, p2) : T_impl_Test) == (q0, q1, q2)) = ((p0 == q0) && ((p1 == q1) && (p2 == q2))) from rfl]
  cases h0 : (p0 == q0) <;> cases h1 : (p1 == q1) <;> cases h2 : (p2 == q2) <;> simp [go_sem, h0, h1, h2]
set_option maxHeartbeats 1000000 in
theorem eql_127 (x y : T_impl_Test) (w : World) : (binOp .eql 127 (.agg #[.int .i64 x.1, .int .i64 x.2.1, .bool x.2.2]) (.agg #[.int .i64 y.1, .int .i64 y.2.1, .bool y.2.2])).run Tryd.prog w = .ok (.bool ((x == y))) w := by
  obtain ⟨p0, p1, p2⟩ := x
  obtain ⟨q0, q1, q2⟩ := y
  rw [show (((p0, p1, p2) : T_impl_Test) == (q0, q1, q2)) = ((p0 == q0) && ((p1 == q1) && (p2 == q2))) from rfl]
  cases h0 : (p0 == q0) <;> cases h1 : (p1 == q1) <;> cases h2 : (p2 == q2) <;> simp [go_sem, h0, h1, h2]
set_option maxHeartbeats 1000000 in
theorem neq_127 (x y : T_impl_Test) (w : World) : (binOp .neq 127 (.agg #[.int .i64 x.1, .int .i64 x.2.1, .bool x.2.2]) (.agg #[.int .i64 y.1, .int .i64 y.2.1, .bool y.2.2])).run Tryd.prog w = .ok (.bool (!(x == y))) w := by
  obtain ⟨p0, p1, p2⟩ := x
  obtain ⟨q0, q1, q2⟩ := y
  rw [show (((p0, p1, p2) : T_impl_Test) == (q0, q1, q2)) = ((p0 == q0) && ((p1 == q1) && (p2 == q2))) from rfl]
  cases h0 : (p0 == q0) <;> cases h1 : (p1 == q1) <;> cases h2 : (p2 == q2) <;> simp [go_sem, h0, h1, h2]
abbrev T_laws_Rule := (List T_impl_Test)
abbrev E_laws_Rule : Enc T_laws_Rule := eBx (eSl E_impl_Test)
theorem fl_laws_Rule_0 : Fld E_laws_Rule 0 (eSl E_impl_Test) (fun x : T_laws_Rule => x) := Fld.bx
theorem fs_laws_Rule_0 : FldS E_laws_Rule 0 (eSl E_impl_Test) (fun (x : T_laws_Rule) y => y) := FldS.bx
theorem ff_106_0 : FldF Tryd.prog 106 0 105 0 := ⟨_, _, Tryd.underlying106, rfl, rfl, rfl⟩
theorem ff_107_0 : FldF Tryd.prog 107 0 105 0 := ⟨_, _, Tryd.underlying107, rfl, rfl, rfl⟩
abbrev T_laws_RuleSet := (List T_laws_Rule)
abbrev E_laws_RuleSet : Enc T_laws_RuleSet := eBx (eSl E_laws_Rule)
theorem fl_laws_RuleSet_0 : Fld E_laws_RuleSet 0 (eSl E_laws_Rule) (fun x : T_laws_RuleSet => x) := Fld.bx
theorem fs_laws_RuleSet_0 : FldS E_laws_RuleSet 0 (eSl E_laws_Rule) (fun (x : T_laws_RuleSet) y => y) := FldS.bx
theorem ff_39_0 : FldF Tryd.prog 39 0 38 0 := ⟨_, _, Tryd.underlying39, rfl, rfl, rfl⟩
theorem ff_40_0 : FldF Tryd.prog 40 0 38 0 := ⟨_, _, Tryd.underlying40, rfl, rfl, rfl⟩
abbrev T_impl_Rule := (List T_impl_Test)
abbrev E_impl_Rule : Enc T_impl_Rule := eBx (eSl E_impl_Test)
theorem fl_impl_Rule_0 : Fld E_impl_Rule 0 (eSl E_impl_Test) (fun x : T_impl_Rule => x) := Fld.bx
theorem fs_impl_Rule_0 : FldS E_impl_Rule 0 (eSl E_impl_Test) (fun (x : T_impl_Rule) y => y) := FldS.bx
theorem ff_72_0 : FldF Tryd.prog 72 0 71 0 := ⟨_, _, Tryd.underlying72, rfl, rfl, rfl⟩
theorem ff_73_0 : FldF Tryd.prog 73 0 71 0 := ⟨_, _, Tryd.underlying73, rfl, rfl, rfl⟩
abbrev T_impl_RuleSet := (List T_impl_Rule)
abbrev E_impl_RuleSet : Enc T_impl_RuleSet := eBx (eSl E_impl_Rule)
theorem fl_impl_RuleSet_0 : Fld E_impl_RuleSet 0 (eSl E_impl_Rule) (fun x : T_impl_RuleSet => x) := Fld.bx
theorem fs_impl_RuleSet_0 : FldS E_impl_RuleSet 0 (eSl E_impl_Rule) (fun (x : T_impl_RuleSet) y => y) := FldS.bx
theorem ff_44_0 : FldF Tryd.prog 44 0 43 0 := ⟨_, _, Tryd.underlying44, rfl, rfl, rfl⟩
theorem ff_45_0 : FldF Tryd.prog 45 0 43 0 := ⟨_, _, Tryd.underlying45, rfl, rfl, rfl⟩
theorem el_3 : ElF Tryd.prog 3 1 := el_of Tryd.zeroValue3 Tryd.sizeOf3 (by kernel_rfl : (Tryd.prog.info? 3).map (·.bytes) = some 8) rfl (by decide) (by decide)
theorem el_101 : ElF Tryd.prog 101 4 := el_of Tryd.zeroValue101 Tryd.sizeOf101 (by kernel_rfl : (Tryd.prog.info? 101).map (·.bytes) = some 32) rfl (by decide) (by decide)
theorem el_63 : ElF Tryd.prog 63 4 := el_of Tryd.zeroValue63 Tryd.sizeOf63 (by kernel_rfl : (Tryd.prog.info? 63).map (·.bytes) = some 32) rfl (by decide) (by decide)
theorem el_107 : ElF Tryd.prog 107 1 := el_of Tryd.zeroValue107 Tryd.sizeOf107 (by kernel_rfl : (Tryd.prog.info? 107).map (·.bytes) = some 24) rfl (by decide) (by decide)
theorem el_73 : ElF Tryd.prog 73 1 := el_of Tryd.zeroValue73 Tryd.sizeOf73 (by kernel_rfl : (Tryd.prog.info? 73).map (·.bytes) = some 24) rfl (by decide) (by decide)
theorem el_9 : ElF Tryd.prog 9 1 := el_of Tryd.zeroValue9 Tryd.sizeOf9 (by kernel_rfl : (Tryd.prog.info? 9).map (·.bytes) = some 16) rfl (by decide) (by decide)
theorem el_67 : ElF Tryd.prog 67 3 := el_of Tryd.zeroValue67 Tryd.sizeOf67 (by kernel_rfl : (Tryd.prog.info? 67).map (·.bytes) = some 24) rfl (by decide) (by decide)
theorem el_5 : ElF Tryd.prog 5 1 := el_of Tryd.zeroValue5 Tryd.sizeOf5 (by kernel_rfl : (Tryd.prog.info? 5).map (·.bytes) = some 1) rfl (by decide) (by decide)
theorem el_127 : ElF Tryd.prog 127 3 := el_of Tryd.zeroValue127 Tryd.sizeOf127 (by kernel_rfl : (Tryd.prog.info? 127).map (·.bytes) = some 24) rfl (by decide) (by decide)
end Go.Proofs.YtjdnomcpepbdaaaDoor
