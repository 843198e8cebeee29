/- Own text, merged out of small ones: WsJ WsK WsL WsM WsN: the framework, the preconditions and the contracts on which the claim rests (no conditions of its own). -/
import Derived.Test.YtagbnjkichocbaaGreatDoorLb
import Derived.Test.YtagbnjkichocbaaGreatDoorProg
import Derived.KernelRfl
section
/- WRITTEN BY A PROGRAM (wip/gen): what each function's code asks for, by the framework's precondition, in short form; each is checked by the kernel to be that precondition. -/
set_option maxRecDepth 100000
set_option linter.unusedVariables false
namespace Go.Wx
open Go Proofs.Tryz

/-- (*hearth/hearthlaw8.pair).seen -/
def S32 (p0 : Addr) (n1 : Int) (n2 : Int) (w : World) (R : Value → World → Prop) : Prop :=
 ∃ p,
 w.cell? (p0.add 0) = some (.pointer p) ∧
 Calls prog 70 (Array.mk [.pointer p, .int .i64 n1]) w fun y y_1 =>
 ∃ n n_1 n_2 n_3 n_4 b,
 y = .returned (.tuple (Array.mk [.agg (Array.mk [.int .i64 n, .int .i64 n_1, .int .i64 n_2, .int .i64 n_3, .int .i64 n_4]), .bool b])) ∧
 atW (y_1.alloc (Obj.cells (Array.mk [.int .i64 0, .int .i64 0, .int .i64 0, .int .i64 0, .int .i64 0]) 106)) fun w' =>
 stx w' (Addr.mk y_1.heap.size 0 none) [.int .i64 n, .int .i64 n_1, .int .i64 n_2, .int .i64 n_3, .int .i64 n_4] 0 fun w' =>
 ∃ p,
 w'.cell? (p0.add 1) = some (.pointer p) ∧
 Calls prog 71 (Array.mk [.pointer p, .int .i64 n1]) w' fun y y_2 =>
 ∃ n n_5 n_6 n_7 n_8 b_1,
 y =
 .returned
 (.tuple (Array.mk [.agg (Array.mk [.int .i64 n, .int .i64 n_5, .int .i64 n_6, .int .i64 n_7, .int .i64 n_8]), .bool b_1])) ∧
 atW (y_2.alloc (Obj.cells (Array.mk [.int .i64 0, .int .i64 0, .int .i64 0, .int .i64 0, .int .i64 0]) 106)) fun w' =>
 stx w' (Addr.mk y_2.heap.size 0 none) [.int .i64 n, .int .i64 n_5, .int .i64 n_6, .int .i64 n_7, .int .i64 n_8] 0 fun w' =>
 ∃ p,
 w'.cell? (p0.add 0) = some (.pointer p) ∧
 Calls prog 72 (Array.mk [.pointer p, .int .i64 n1, .int .i64 n2]) w' fun y y_3 =>
 ∃ n n_9 n_10,
 y = .returned (.tuple (Array.mk [.int .i64 n, .agg (Array.mk [.int .i64 n_9, .int .i64 n_10])])) ∧
 atW (y_3.alloc (Obj.cells (Array.mk [.int .i64 0, .int .i64 0]) 39)) fun w' =>
 stx w' (Addr.mk y_3.heap.size 0 none) [.int .i64 n_9, .int .i64 n_10] 0 fun w' =>
 ∃ p,
 w'.cell? (p0.add 1) = some (.pointer p) ∧
 Calls prog 73 (Array.mk [.pointer p, .int .i64 n1, .int .i64 n2]) w' fun y y_4 =>
 ∃ n_11 n_12 n_13,
 y = .returned (.tuple (Array.mk [.int .i64 n_11, .agg (Array.mk [.int .i64 n_12, .int .i64 n_13])])) ∧
 atW (y_4.alloc (Obj.cells (Array.mk [.int .i64 0, .int .i64 0]) 56)) fun w' =>
 stx w' (Addr.mk y_4.heap.size 0 none) [.int .i64 n_12, .int .i64 n_13] 0 fun w' =>
 ∃ n_14,
 w'.drew.cell? ((Addr.mk y_1.heap.size 0 none).add 0) = some (.int .i64 n_14) ∧
 ∃ n_15,
 w'.drew.cell? ((Addr.mk y_1.heap.size 0 none).add 1) = some (.int .i64 n_15) ∧
 ∃ n_16,
 w'.drew.cell? ((Addr.mk y_1.heap.size 0 none).add 2) = some (.int .i64 n_16) ∧
 ∃ n_17,
 w'.drew.cell? ((Addr.mk y_1.heap.size 0 none).add 3) = some (.int .i64 n_17) ∧
 ∃ n_18,
 w'.drew.cell? ((Addr.mk y_1.heap.size 0 none).add 4) = some (.int .i64 n_18) ∧
 ∃ n_19,
 w'.drew.cell? ((Addr.mk y_2.heap.size 0 none).add 0) = some (.int .i64 n_19) ∧
 ∃ n_20,
 w'.drew.cell? ((Addr.mk y_2.heap.size 0 none).add 1) = some (.int .i64 n_20) ∧
 ∃ n_21,
 w'.drew.cell? ((Addr.mk y_2.heap.size 0 none).add 2) = some (.int .i64 n_21) ∧
 ∃ n_22,
 w'.drew.cell? ((Addr.mk y_2.heap.size 0 none).add 3) = some (.int .i64 n_22) ∧
 ∃ n_23,
 w'.drew.cell? ((Addr.mk y_2.heap.size 0 none).add 4) = some (.int .i64 n_23) ∧
 ifB (n_14 == n_19 && (n_15 == n_20 && (n_16 == n_21 && (n_17 == n_22 && (n_18 == n_23 && true)))))
 (ifB (b == b_1)
 (∃ p,
 w'.drew.cell? (p0.add 0) = some (.pointer p) ∧
 ∃ p_1,
 w'.drew.cell? (p0.add 1) = some (.pointer p_1) ∧
 Calls prog 74 (Array.mk [.pointer p, .int .i64 n1]) w'.drew fun y y_5 =>
 ∃ n_24 n_25,
 y = .returned (.agg (Array.mk [.int .i64 n_24, .int .i64 n_25])) ∧
 (∀ (b : Nat) (o : Obj), w'.drew.heap[b]? = some o → y_5.heap[b]? = some o) ∧
 Calls prog 75 (Array.mk [.pointer p_1, .int .i64 n1]) y_5 fun y y_6 =>
 ∃ n_26 n_27,
 y = .returned (.agg (Array.mk [.int .i64 n_26, .int .i64 n_27])) ∧
 Calls prog 23
 (Array.mk
 [.agg (Array.mk [.int .i64 n_24, .int .i64 n_25]),
 .agg (Array.mk [.int .i64 n_26, .int .i64 n_27])])
 y_6 fun y y_7 =>
 ∃ b,
 y = .returned (.bool b) ∧
 ifB b
 (ifB (n == n_11)
 (∃ n,
 y_7.cell? ((Addr.mk y_3.heap.size 0 none).add 0) = some (.int .i64 n) ∧
 ∃ n_28,
 y_7.cell? ((Addr.mk y_3.heap.size 0 none).add 1) = some (.int .i64 n_28) ∧
 ∃ n_29,
 y_7.cell? ((Addr.mk y_4.heap.size 0 none).add 0) = some (.int .i64 n_29) ∧
 ∃ n_30,
 y_7.cell? ((Addr.mk y_4.heap.size 0 none).add 1) = some (.int .i64 n_30) ∧
 Calls prog 23
 (Array.mk
 [.agg (Array.mk [.int .i64 n, .int .i64 n_28]),
 .agg (Array.mk [.int .i64 n_29, .int .i64 n_30])])
 y_7 fun y y_8 => ∃ b, y = .returned (.bool b) ∧ R (.bool b) y_8)
 (R (.bool false) y_7))
 (R (.bool false) y_7))
 ((∀ (b : Nat) (o : Obj), w'.drew.heap[b]? = some o → w'.drew.heap[b]? = some o) ∧ R (.bool false) w'.drew))
 ((∀ (b : Nat) (o : Obj), w'.drew.heap[b]? = some o → w'.drew.heap[b]? = some o) ∧ R (.bool false) w'.drew)

theorem S32_eq (p0 : Addr) (n1 : Int) (n2 : Int) (w : World) (R : Value → World → Prop) : funX Go.Proofs.Tryz.prog 32 ⟨[(126, (.op 0 (.op 1 (.op 2 (.op 3 (.op 4 (.op 5 (.op 6 (.op 7 (.op 8 (.op 9 (.op 10 (.op 11 (.op 12 (.op 13 (.op 15 (.op 16 (.op 17 (.op 19 (.op 18 (.op 14 (.op 20 (.op 21 (.op 22 (.op 23 (.op 24 (.op 25 (.op 26 (.op 27 (.op 28 (.op 29 (.op 30 (.op 31 (.op 32 (.op 33 (.done)))))))))))))))))))))))))))))))))), [14]))], [], []⟩ [(.pointer (some p0)), (.int .i64 n1), (.int .i64 n2)] w R = S32 p0 n1 n2 w R := by kernel_rfl

/-- (*hearth/hearthref8.Space).Peek -/
def S31 (p0 : Addr) (n1 : Int) (w : World) (R : Value → World → Prop) : Prop :=
 JoinX (Int × Bool × Unit)
 (fun K =>
 ifB (decide (n1 < 0)) (R (.tuple (Array.mk [.int .i64 0, .bool false])) w)
 (∃ a l c, w.cell? (p0.add 0) = some (.slice a l c) ∧ ifB (decide (n1 ≥ (↑l : Int))) (R (.tuple (Array.mk [.int .i64 0, .bool false])) w) (K (0, false, ()) w)))
 fun s w' =>
 ∃ a l c,
 w'.cell? (p0.add 0) = some (.slice a l c) ∧
 nilx a fun a => (0 ≤ n1 ∧ n1 < (↑l : Int)) ∧ ∃ n, w'.cell? (a.add (n1.toNat * 1)) = some (.int .i64 n) ∧ R (.tuple (Array.mk [.int .i64 n, .bool true])) w'

theorem S31_eq (p0 : Addr) (n1 : Int) (w : World) (R : Value → World → Prop) : funX Go.Proofs.Tryz.prog 31 ⟨[], [], [(3, [(4, .int .i64), (5, .bool)])]⟩ [(.pointer (some p0)), (.int .i64 n1)] w R = S31 p0 n1 w R := by kernel_rfl

/-- (*hearth/hearthlaw8.pair).keeps -/
def S30 (p0 : Addr) (s1 : Option Addr) (l1 c1 : Nat) (w : World) (R : Value → World → Prop) : Prop :=
 Calls prog 33 (Array.mk [.slice s1 l1 c1]) w fun y y_1 =>
 ∃ a l c,
 y = .returned (.slice a l c) ∧
 ∃ p,
 y_1.drew.cell? (p0.add 0) = some (.pointer p) ∧
 (0 ≤ (↑l1 : Int) ∧ (↑l1 : Int) ≤ (↑c : Int)) ∧
 Calls prog 68 (Array.mk [.pointer p, .slice (if c = 0 then a else Option.map (fun x => x.add 0) a) ((↑l1 : Int).toNat - 0) (c - 0)]) y_1.drew fun y y_2 =>
 ∃ n n_1,
 y = .returned (.tuple (Array.mk [.int .i64 n, .int .i64 n_1])) ∧
 ∃ p,
 y_2.cell? (p0.add 1) = some (.pointer p) ∧
 Calls prog 69 (Array.mk [.pointer p, .slice s1 l1 c1]) y_2 fun y y_3 =>
 ∃ n_2 n_3,
 y = .returned (.tuple (Array.mk [.int .i64 n_2, .int .i64 n_3])) ∧
 Calls prog 35 (Array.mk [.slice a l c, .slice s1 l1 c1]) y_3 fun y y_4 =>
 ∃ b, y = .returned (.bool b) ∧ ifB b (ifB (n == n_2) (R (.bool (n_1 == n_3)) y_4) (R (.bool false) y_4)) (R (.bool false) y_4)

theorem S30_eq (p0 : Addr) (s1 : Option Addr) (l1 c1 : Nat) (w : World) (R : Value → World → Prop) : funX Go.Proofs.Tryz.prog 30 ⟨[(14, (.op 0 (.op 1 (.op 2 (.op 3 (.op 4 (.op 5 (.op 6 (.op 7 (.op 8 (.op 9 (.op 10 (.op 11 (.op 12 (.op 13 (.done)))))))))))))), []))], [], []⟩ [(.pointer (some p0)), (.slice s1 l1 c1)] w R = S30 p0 s1 l1 c1 w R := by kernel_rfl

/-- hearth/hearthlaw8.within -/
def S29 (n0 : Int) (n1 : Int) (w : World) (R : Value → World → Prop) : Prop :=
 ifB (decide (n0 < 0)) (ifB (n1 == 0) False (R (.int .i64 ((IntKind.i64.wrap (0 - IntKind.i64.wrap (n0 + 1))).tmod n1)) w)) (ifB (n1 == 0) False (R (.int .i64 (n0.tmod n1)) w))

theorem S29_eq (n0 : Int) (n1 : Int) (w : World) (R : Value → World → Prop) : funX Go.Proofs.Tryz.prog 29 ⟨[], [], []⟩ [(.int .i64 n0), (.int .i64 n1)] w R = S29 n0 n1 w R := by kernel_rfl

/-- (*hearth/hearthref8.Space).Poke -/
def S28 (p0 : Addr) (n1 : Int) (n2 : Int) (w : World) (R : Value → World → Prop) : Prop :=
 JoinX (Bool × Unit) (fun K => ifB (decide (n1 < 0)) (R (.bool false) w) (∃ a l c, w.cell? (p0.add 0) = some (.slice a l c) ∧ ifB (decide (n1 ≥ (↑l : Int))) (R (.bool false) w) (K (false, ()) w))) fun s w' =>
 ∃ a l c, w'.cell? (p0.add 0) = some (.slice a l c) ∧ nilx a fun a => (0 ≤ n1 ∧ n1 < (↑l : Int)) ∧ stx w' (a.add (n1.toNat * 1)) [.int .i64 n2] 0 fun w' => R (.bool true) w'

theorem S28_eq (p0 : Addr) (n1 : Int) (n2 : Int) (w : World) (R : Value → World → Prop) : funX Go.Proofs.Tryz.prog 28 ⟨[], [], [(3, [(6, .bool)])]⟩ [(.pointer (some p0)), (.int .i64 n1), (.int .i64 n2)] w R = S28 p0 n1 n2 w R := by kernel_rfl

/-- (*hearth/space.Space).Poke -/
def S27 (p0 : Addr) (n1 : Int) (n2 : Int) (w : World) (R : Value → World → Prop) : Prop :=
 JoinX (Bool × Unit) (fun K => ifB (decide (n1 < 0)) (R (.bool false) w) (∃ a l c, w.cell? (p0.add 0) = some (.slice a l c) ∧ ifB (decide (n1 ≥ (↑l : Int))) (R (.bool false) w) (K (false, ()) w))) fun s w' =>
 ∃ a l c, w'.cell? (p0.add 0) = some (.slice a l c) ∧ nilx a fun a => (0 ≤ n1 ∧ n1 < (↑l : Int)) ∧ stx w' (a.add (n1.toNat * 1)) [.int .i64 n2] 0 fun w' => R (.bool true) w'

theorem S27_eq (p0 : Addr) (n1 : Int) (n2 : Int) (w : World) (R : Value → World → Prop) : funX Go.Proofs.Tryz.prog 27 ⟨[], [], [(3, [(6, .bool)])]⟩ [(.pointer (some p0)), (.int .i64 n1), (.int .i64 n2)] w R = S27 p0 n1 n2 w R := by kernel_rfl

/-- (*hearth/hearthlaw8.pair).nth -/
def S26 (p0 : Addr) (n1 : Int) (w : World) (R : Value → World → Prop) : Prop :=
 ∃ p,
 w.cell? (p0.add 1) = some (.pointer p) ∧
 Calls prog 41 (Array.mk [.pointer p]) w fun y y_1 =>
 ∃ a l c,
 y = .returned (.slice a l c) ∧
 ifB ((↑l : Int) == 0) (R (.int .i64 (-1)) y_1)
 (Calls prog 29 (Array.mk [.int .i64 n1, .int .i64 (↑l : Int)]) y_1 fun y y_2 =>
 ∃ n, y = .returned (.int .i64 n) ∧ nilx a fun a => (0 ≤ n ∧ n < (↑l : Int)) ∧ ∃ n_1, y_2.cell? ((a.add (n.toNat * 5)).add 0) = some (.int .i64 n_1) ∧ R (.int .i64 n_1) y_2)

theorem S26_eq (p0 : Addr) (n1 : Int) (w : World) (R : Value → World → Prop) : funX Go.Proofs.Tryz.prog 26 ⟨[], [], []⟩ [(.pointer (some p0)), (.int .i64 n1)] w R = S26 p0 n1 w R := by kernel_rfl

/-- (*hearth/hearthref8.Space).Write -/
def S25 (p0 : Addr) (n1 : Int) (n2 : Int) (n3 : Int) (w : World) (R : Value → World → Prop) : Prop :=
 atW (w.alloc (Obj.cells (Array.mk [.int .i64 0, .int .i64 0]) 56)) fun w' =>
 Calls prog 67 (Array.mk [.pointer (some p0), .int .i64 n1, .int .i64 n2]) w' fun y y_1 =>
 ∃ n n_1,
 y = .returned (.agg (Array.mk [.int .i64 n, .int .i64 n_1])) ∧
 atW (y_1.alloc (Obj.cells (Array.mk [.int .i64 0, .int .i64 0]) 56)) fun w' =>
 stx w' (Addr.mk y_1.heap.size 0 none) [.int .i64 n, .int .i64 n_1] 0 fun w' =>
 ∃ n,
 w'.cell? ((Addr.mk y_1.heap.size 0 none).add 0) = some (.int .i64 n) ∧
 ifB (n == 0)
 (∃ a l c,
 w'.cell? (p0.add 0) = some (.slice a l c) ∧
 nilx a fun a =>
 (0 ≤ IntKind.i64.wrap (n1 + n2) ∧ IntKind.i64.wrap (n1 + n2) < (↑l : Int)) ∧
 stx w' (a.add ((IntKind.i64.wrap (n1 + n2)).toNat * 1)) [.int .i64 n3] 0 fun w' =>
 ∃ n,
 w'.cell? ((Addr.mk y_1.heap.size 0 none).add 0) = some (.int .i64 n) ∧
 ∃ n_2,
 w'.cell? ((Addr.mk y_1.heap.size 0 none).add 1) = some (.int .i64 n_2) ∧
 stx w' (Addr.mk w.heap.size 0 none) [.int .i64 n, .int .i64 n_2] 0 fun w' =>
 ∃ n,
 w'.cell? ((Addr.mk w.heap.size 0 none).add 0) = some (.int .i64 n) ∧
 ∃ n_3, w'.cell? ((Addr.mk w.heap.size 0 none).add 1) = some (.int .i64 n_3) ∧ R (.agg (Array.mk [.int .i64 n, .int .i64 n_3])) w')
 (∃ n,
 w'.cell? ((Addr.mk y_1.heap.size 0 none).add 0) = some (.int .i64 n) ∧
 ∃ n_2,
 w'.cell? ((Addr.mk y_1.heap.size 0 none).add 1) = some (.int .i64 n_2) ∧
 stx w' (Addr.mk w.heap.size 0 none) [.int .i64 n, .int .i64 n_2] 0 fun w' =>
 ∃ n,
 w'.cell? ((Addr.mk w.heap.size 0 none).add 0) = some (.int .i64 n) ∧
 ∃ n_3, w'.cell? ((Addr.mk w.heap.size 0 none).add 1) = some (.int .i64 n_3) ∧ R (.agg (Array.mk [.int .i64 n, .int .i64 n_3])) w')

theorem S25_eq (p0 : Addr) (n1 : Int) (n2 : Int) (n3 : Int) (w : World) (R : Value → World → Prop) : funX Go.Proofs.Tryz.prog 25 ⟨[], [], []⟩ [(.pointer (some p0)), (.int .i64 n1), (.int .i64 n2), (.int .i64 n3)] w R = S25 p0 n1 n2 n3 w R := by kernel_rfl

/-- (*hearth/space.Space).Write -/
def S24 (p0 : Addr) (n1 : Int) (n2 : Int) (n3 : Int) (w : World) (R : Value → World → Prop) : Prop :=
 atW (w.alloc (Obj.cells (Array.mk [.int .i64 0, .int .i64 0]) 39)) fun w' =>
 Calls prog 66 (Array.mk [.pointer (some p0), .int .i64 n1, .int .i64 n2]) w' fun y y_1 =>
 ∃ n n_1,
 y = .returned (.agg (Array.mk [.int .i64 n, .int .i64 n_1])) ∧
 atW (y_1.alloc (Obj.cells (Array.mk [.int .i64 0, .int .i64 0]) 39)) fun w' =>
 stx w' (Addr.mk y_1.heap.size 0 none) [.int .i64 n, .int .i64 n_1] 0 fun w' =>
 ∃ n,
 w'.cell? ((Addr.mk y_1.heap.size 0 none).add 0) = some (.int .i64 n) ∧
 ifB (n == 0)
 (∃ a l c,
 w'.cell? (p0.add 0) = some (.slice a l c) ∧
 nilx a fun a =>
 (0 ≤ IntKind.i64.wrap (n1 + n2) ∧ IntKind.i64.wrap (n1 + n2) < (↑l : Int)) ∧
 stx w' (a.add ((IntKind.i64.wrap (n1 + n2)).toNat * 1)) [.int .i64 n3] 0 fun w' =>
 ∃ n,
 w'.cell? ((Addr.mk y_1.heap.size 0 none).add 0) = some (.int .i64 n) ∧
 ∃ n_2,
 w'.cell? ((Addr.mk y_1.heap.size 0 none).add 1) = some (.int .i64 n_2) ∧
 stx w' (Addr.mk w.heap.size 0 none) [.int .i64 n, .int .i64 n_2] 0 fun w' =>
 ∃ n,
 w'.cell? ((Addr.mk w.heap.size 0 none).add 0) = some (.int .i64 n) ∧
 ∃ n_3, w'.cell? ((Addr.mk w.heap.size 0 none).add 1) = some (.int .i64 n_3) ∧ R (.agg (Array.mk [.int .i64 n, .int .i64 n_3])) w')
 (∃ n,
 w'.cell? ((Addr.mk y_1.heap.size 0 none).add 0) = some (.int .i64 n) ∧
 ∃ n_2,
 w'.cell? ((Addr.mk y_1.heap.size 0 none).add 1) = some (.int .i64 n_2) ∧
 stx w' (Addr.mk w.heap.size 0 none) [.int .i64 n, .int .i64 n_2] 0 fun w' =>
 ∃ n,
 w'.cell? ((Addr.mk w.heap.size 0 none).add 0) = some (.int .i64 n) ∧
 ∃ n_3, w'.cell? ((Addr.mk w.heap.size 0 none).add 1) = some (.int .i64 n_3) ∧ R (.agg (Array.mk [.int .i64 n, .int .i64 n_3])) w')

theorem S24_eq (p0 : Addr) (n1 : Int) (n2 : Int) (n3 : Int) (w : World) (R : Value → World → Prop) : funX Go.Proofs.Tryz.prog 24 ⟨[], [], []⟩ [(.pointer (some p0)), (.int .i64 n1), (.int .i64 n2), (.int .i64 n3)] w R = S24 p0 n1 n2 n3 w R := by kernel_rfl

/-- hearth/hearthlaw8.alike -/
def S23 (n0_0 : Int) (n0_1 : Int) (n1_0 : Int) (n1_1 : Int) (w : World) (R : Value → World → Prop) : Prop :=
 atW (w.alloc (Obj.cells (Array.mk [.int .i64 n0_0, .int .i64 n0_1]) 39)) fun w' =>
 atW (w'.alloc (Obj.cells (Array.mk [.int .i64 n1_0, .int .i64 n1_1]) 56)) fun w'_1 =>
 ∃ n,
 w'_1.cell? ((Addr.mk w.heap.size 0 none).add 0) = some (.int .i64 n) ∧
 ∃ n_1,
 w'_1.cell? ((Addr.mk w'.heap.size 0 none).add 0) = some (.int .i64 n_1) ∧
 ifB (n == n_1) (∃ n, w'_1.cell? ((Addr.mk w.heap.size 0 none).add 1) = some (.int .i64 n) ∧ ∃ n_2, w'_1.cell? ((Addr.mk w'.heap.size 0 none).add 1) = some (.int .i64 n_2) ∧ R (.bool (n == n_2)) w'_1)
 (R (.bool false) w'_1)

theorem S23_eq (n0_0 : Int) (n0_1 : Int) (n1_0 : Int) (n1_1 : Int) (w : World) (R : Value → World → Prop) : funX Go.Proofs.Tryz.prog 23 ⟨[], [], []⟩ [(.agg #[(.int .i64 n0_0), (.int .i64 n0_1)]), (.agg #[(.int .i64 n1_0), (.int .i64 n1_1)])] w R = S23 n0_0 n0_1 n1_0 n1_1 w R := by kernel_rfl

/-- (*hearth/hearthref8.Space).Alloc -/
def S22 (p0 : Addr) (n1 : Int) (n2 : Int) (n3 : Int) (w : World) (R : Value → World → Prop) : Prop :=
 atW (w.alloc (Obj.cells (Array.mk [.int .i64 0, .int .i64 0]) 56)) fun w' =>
 Calls prog 60 (Array.mk [.int .i64 n1, .int .i64 n2]) w' fun y y_1 =>
 ∃ b,
 y = .returned (.bool b) ∧
 ifB (!b)
 (stx y_1 (Addr.mk w.heap.size 0 none) [.int .i64 24, .int .i64 0] 0 fun w' =>
 ∃ n,
 w'.cell? ((Addr.mk w.heap.size 0 none).add 0) = some (.int .i64 n) ∧
 ∃ n_1, w'.cell? ((Addr.mk w.heap.size 0 none).add 1) = some (.int .i64 n_1) ∧ R (.tuple (Array.mk [.int .i64 0, .agg (Array.mk [.int .i64 n, .int .i64 n_1])])) w')
 (Calls prog 61 (Array.mk [.pointer (some p0), .int .i64 n2]) y_1 fun y y_2 =>
 ∃ n b,
 y = .returned (.tuple (Array.mk [.int .i64 n, .bool b])) ∧
 ifB (decide (n < 0))
 (stx y_2 (Addr.mk w.heap.size 0 none) [.int .i64 20, .int .i64 0] 0 fun w' =>
 ∃ n,
 w'.cell? ((Addr.mk w.heap.size 0 none).add 0) = some (.int .i64 n) ∧
 ∃ n_1,
 w'.cell? ((Addr.mk w.heap.size 0 none).add 1) = some (.int .i64 n_1) ∧ R (.tuple (Array.mk [.int .i64 0, .agg (Array.mk [.int .i64 n, .int .i64 n_1])])) w')
 (Calls prog 62 (Array.mk [.int .i64 n2]) y_2 fun y y_3 =>
 ∃ n_1,
 y = .returned (.int .i64 n_1) ∧
 JoinX (Int × Unit)
 (fun K =>
 ifB (decide (n_1 < 8))
 (ifB (!b)
 (∃ a l c,
 y_3.drew.cell? (p0.add 0) = some (.slice a l c) ∧
 nilx a fun a =>
 (0 ≤ n ∧ n < (↑l : Int)) ∧
 ∃ n_2,
 y_3.drew.cell? (a.add (n.toNat * 1)) = some (.int .i64 n_2) ∧
 Calls prog 64 (Array.mk [.pointer (some p0), .int .i64 n_1, .int .i64 (IntKind.i64.wrap (n + 1))]) y_3.drew fun y y_4 =>
 ∃ n_3,
 y = .returned (.int .i64 n_3) ∧
 (∀ (b : Nat) (o : Obj), y_3.drew.heap[b]? = some o → y_4.heap[b]? = some o) ∧
 Calls prog 63 (Array.mk [.int .i64 n_3]) y_4 fun y y_5 =>
 ∃ n_4,
 y = .returned (.int .i64 n_4) ∧
 (∀ (b : Nat) (o : Obj), y_4.heap[b]? = some o → y_5.heap[b]? = some o) ∧
 ifB (n_2 != n_4)
 (stx y_5 (Addr.mk w.heap.size 0 none) [.int .i64 21, .int .i64 n] 0 fun w' =>
 ∃ n,
 w'.cell? ((Addr.mk w.heap.size 0 none).add 0) = some (.int .i64 n) ∧
 ∃ n_5,
 w'.cell? ((Addr.mk w.heap.size 0 none).add 1) = some (.int .i64 n_5) ∧
 R (.tuple (Array.mk [.int .i64 0, .agg (Array.mk [.int .i64 n, .int .i64 n_5])])) w')
 (K (0, ()) y_5))
 ((∀ (b : Nat) (o : Obj), y_3.drew.heap[b]? = some o → y_3.drew.heap[b]? = some o) ∧ (∀ (b : Nat) (o : Obj), y_3.drew.heap[b]? = some o → y_3.drew.heap[b]? = some o) ∧ K (0, ()) y_3.drew))
 ((∀ (b : Nat) (o : Obj), y_3.drew.heap[b]? = some o → y_3.drew.heap[b]? = some o) ∧ (∀ (b : Nat) (o : Obj), y_3.drew.heap[b]? = some o → y_3.drew.heap[b]? = some o) ∧ K (0, ()) y_3.drew))
 fun s w' =>
 Calls prog 65 (Array.mk [.pointer (some p0), .int .i64 n, .bool b, .int .i64 n1, .int .i64 n2, .int .i64 n3]) w' fun y y_4 =>
 y = .returned (.tuple (Array.mk [])) ∧
 stx y_4 (Addr.mk w.heap.size 0 none) [.int .i64 0, .int .i64 0] 0 fun w' =>
 ∃ n_2,
 w'.cell? ((Addr.mk w.heap.size 0 none).add 0) = some (.int .i64 n_2) ∧
 ∃ n_3,
 w'.cell? ((Addr.mk w.heap.size 0 none).add 1) = some (.int .i64 n_3) ∧
 R (.tuple (Array.mk [.int .i64 n, .agg (Array.mk [.int .i64 n_2, .int .i64 n_3])])) w'))

theorem S22_eq (p0 : Addr) (n1 : Int) (n2 : Int) (n3 : Int) (w : World) (R : Value → World → Prop) : funX Go.Proofs.Tryz.prog 22 ⟨[(252, (.op 0 (.op 1 (.op 2 (.op 3 (.op 4 (.op 5 (.op 6 (.op 7 (.op 8 (.op 9 (.op 11 (.op 14 (.op 15 (.op 16 (.op 17 (.op 10 (.op 12 (.op 13 (.op 18 (.op 19 (.op 20 (.op 21 (.done)))))))))))))))))))))), [19, 18]))], [], [(63, [(8, .int .i64)])]⟩ [(.pointer (some p0)), (.int .i64 n1), (.int .i64 n2), (.int .i64 n3)] w R = S22 p0 n1 n2 n3 w R := by kernel_rfl

/-- hearth/hearthref8.New -/
def S21 (n0 : Int) (w : World) (R : Value → World → Prop) : Prop :=
 Calls prog 59 (Array.mk [.int .i64 n0]) w fun y y_1 =>
 ∃ p n,
 y = .returned (.tuple (Array.mk [.pointer p, .int .i64 n])) ∧
 ifB (n != 0) (R (.tuple (Array.mk [.pointer none, .int .i64 n])) y_1)
 (((0 ≤ IntKind.i64.wrap (n0 * 64) ∧ IntKind.i64.wrap (n0 * 64) ≤ IntKind.i64.wrap (n0 * 64) ∧ IntKind.i64.wrap (n0 * 64) ≤ 1099511627776) ∧
 (0 ≤ IntKind.i64.wrap (n0 * 64) ∧ IntKind.i64.wrap (n0 * 64) ≤ IntKind.i64.wrap (n0 * 64) ∧ IntKind.i64.wrap (n0 * 64) ≤ 1099511627776) ∧
 atW
 (((y_1.drew.alloc (Obj.cells (Array.mk (zcells [.int .i64 0] (IntKind.i64.wrap (n0 * 64)).toNat)) 3)).alloc
 (Obj.cells (Array.mk (zcells [.int .i64 0, .int .i64 0, .int .i64 0, .int .i64 0, .int .i64 0] (IntKind.i64.wrap (n0 * 64)).toNat)) 106)).alloc
 (Obj.cells
 (Array.mk
 [.slice (some (Addr.mk y_1.drew.heap.size 0 none)) (IntKind.i64.wrap (n0 * 64)).toNat (IntKind.i64.wrap (n0 * 64)).toNat, .pointer p,
 .slice (some (Addr.mk (y_1.drew.alloc (Obj.cells (Array.mk (zcells [.int .i64 0] (IntKind.i64.wrap (n0 * 64)).toNat)) 3)).heap.size 0 none)) (IntKind.i64.wrap (n0 * 64)).toNat
 (IntKind.i64.wrap (n0 * 64)).toNat,
 .int .i64 0])
 74))
 fun w' =>
 R
 (.tuple
 (Array.mk
 [.pointer
 (some
 (Addr.mk
 ((y_1.drew.alloc (Obj.cells (Array.mk (zcells [.int .i64 0] (IntKind.i64.wrap (n0 * 64)).toNat)) 3)).alloc
 (Obj.cells (Array.mk (zcells [.int .i64 0, .int .i64 0, .int .i64 0, .int .i64 0, .int .i64 0] (IntKind.i64.wrap (n0 * 64)).toNat))
 106)).heap.size
 0 none)),
 .int .i64 0]))
 w') ∧
 (0 ≤ IntKind.i64.wrap (n0 * 64) ∧ IntKind.i64.wrap (n0 * 64) ≤ IntKind.i64.wrap (n0 * 64) ∧ IntKind.i64.wrap (n0 * 64) ≤ 1099511627776) ∧
 (0 ≤ IntKind.i64.wrap (n0 * 64) ∧ IntKind.i64.wrap (n0 * 64) ≤ IntKind.i64.wrap (n0 * 64) ∧ IntKind.i64.wrap (n0 * 64) ≤ 1099511627776) ∧
 atW
 (((y_1.drew.alloc (Obj.cells (Array.mk (zcells [.int .i64 0, .int .i64 0, .int .i64 0, .int .i64 0, .int .i64 0] (IntKind.i64.wrap (n0 * 64)).toNat)) 106)).alloc
 (Obj.cells (Array.mk (zcells [.int .i64 0] (IntKind.i64.wrap (n0 * 64)).toNat)) 3)).alloc
 (Obj.cells
 (Array.mk
 [.slice
 (some
 (Addr.mk
 (y_1.drew.alloc
 (Obj.cells (Array.mk (zcells [.int .i64 0, .int .i64 0, .int .i64 0, .int .i64 0, .int .i64 0] (IntKind.i64.wrap (n0 * 64)).toNat))
 106)).heap.size
 0 none))
 (IntKind.i64.wrap (n0 * 64)).toNat (IntKind.i64.wrap (n0 * 64)).toNat,
 .pointer p, .slice (some (Addr.mk y_1.drew.heap.size 0 none)) (IntKind.i64.wrap (n0 * 64)).toNat (IntKind.i64.wrap (n0 * 64)).toNat, .int .i64 0])
 74))
 fun w' =>
 R
 (.tuple
 (Array.mk
 [.pointer
 (some
 (Addr.mk
 ((y_1.drew.alloc
 (Obj.cells (Array.mk (zcells [.int .i64 0, .int .i64 0, .int .i64 0, .int .i64 0, .int .i64 0] (IntKind.i64.wrap (n0 * 64)).toNat))
 106)).alloc
 (Obj.cells (Array.mk (zcells [.int .i64 0] (IntKind.i64.wrap (n0 * 64)).toNat)) 3)).heap.size
 0 none)),
 .int .i64 0]))
 w')

theorem S21_eq (n0 : Int) (w : World) (R : Value → World → Prop) : funX Go.Proofs.Tryz.prog 21 ⟨[(62, (.op 0 (.op 2 (.op 3 (.alt 1 (.op 4 (.op 5 (.op 6 (.op 7 (.op 8 (.done)))))) 4 (.op 1 (.op 5 (.op 6 (.op 7 (.op 8 (.done))))))))), []))], [], []⟩ [(.int .i64 n0)] w R = S21 n0 w R := by kernel_rfl

/-- (*hearth/space.Space).Words -/
def S20 (p0 : Addr) (w : World) (R : Value → World → Prop) : Prop :=
 ∃ a l c, w.cell? (p0.add 0) = some (.slice a l c) ∧ R (.int .i64 (↑l : Int)) w

theorem S20_eq (p0 : Addr) (w : World) (R : Value → World → Prop) : funX Go.Proofs.Tryz.prog 20 ⟨[], [], []⟩ [(.pointer (some p0))] w R = S20 p0 w R := by kernel_rfl

/-- (*hearth/space.Space).Peek -/
def S19 (p0 : Addr) (n1 : Int) (w : World) (R : Value → World → Prop) : Prop :=
 JoinX (Int × Bool × Unit)
 (fun K =>
 ifB (decide (n1 < 0)) (R (.tuple (Array.mk [.int .i64 0, .bool false])) w)
 (∃ a l c, w.cell? (p0.add 0) = some (.slice a l c) ∧ ifB (decide (n1 ≥ (↑l : Int))) (R (.tuple (Array.mk [.int .i64 0, .bool false])) w) (K (0, false, ()) w)))
 fun s w' =>
 ∃ a l c,
 w'.cell? (p0.add 0) = some (.slice a l c) ∧
 nilx a fun a => (0 ≤ n1 ∧ n1 < (↑l : Int)) ∧ ∃ n, w'.cell? (a.add (n1.toNat * 1)) = some (.int .i64 n) ∧ R (.tuple (Array.mk [.int .i64 n, .bool true])) w'

theorem S19_eq (p0 : Addr) (n1 : Int) (w : World) (R : Value → World → Prop) : funX Go.Proofs.Tryz.prog 19 ⟨[], [], [(3, [(4, .int .i64), (5, .bool)])]⟩ [(.pointer (some p0)), (.int .i64 n1)] w R = S19 p0 n1 w R := by kernel_rfl

/-- (*hearth/space.Space).Alloc -/
def S18 (p0 : Addr) (n1 : Int) (n2 : Int) (n3 : Int) (w : World) (R : Value → World → Prop) : Prop :=
 atW (w.alloc (Obj.cells (Array.mk [.int .i64 0, .int .i64 0]) 39)) fun w' =>
 Calls prog 53 (Array.mk [.int .i64 n1, .int .i64 n2]) w' fun y y_1 =>
 ∃ b,
 y = .returned (.bool b) ∧
 ifB (!b)
 (stx y_1 (Addr.mk w.heap.size 0 none) [.int .i64 24, .int .i64 0] 0 fun w' =>
 ∃ n,
 w'.cell? ((Addr.mk w.heap.size 0 none).add 0) = some (.int .i64 n) ∧
 ∃ n_1, w'.cell? ((Addr.mk w.heap.size 0 none).add 1) = some (.int .i64 n_1) ∧ R (.tuple (Array.mk [.int .i64 0, .agg (Array.mk [.int .i64 n, .int .i64 n_1])])) w')
 (Calls prog 54 (Array.mk [.pointer (some p0), .int .i64 n2]) y_1 fun y y_2 =>
 ∃ n n_1 n_2,
 y = .returned (.tuple (Array.mk [.int .i64 n, .agg (Array.mk [.int .i64 n_1, .int .i64 n_2])])) ∧
 atW (y_2.alloc (Obj.cells (Array.mk [.int .i64 0, .int .i64 0]) 39)) fun w' =>
 stx w' (Addr.mk y_2.heap.size 0 none) [.int .i64 n_1, .int .i64 n_2] 0 fun w' =>
 ∃ n_3,
 w'.cell? ((Addr.mk y_2.heap.size 0 none).add 0) = some (.int .i64 n_3) ∧
 ifB (n_3 != 0)
 (∃ n,
 w'.drew.cell? ((Addr.mk y_2.heap.size 0 none).add 0) = some (.int .i64 n) ∧
 ∃ n_4,
 w'.drew.cell? ((Addr.mk y_2.heap.size 0 none).add 1) = some (.int .i64 n_4) ∧
 stx w'.drew (Addr.mk w.heap.size 0 none) [.int .i64 n, .int .i64 n_4] 0 fun w' =>
 ∃ n,
 w'.cell? ((Addr.mk w.heap.size 0 none).add 0) = some (.int .i64 n) ∧
 ∃ n_5,
 w'.cell? ((Addr.mk w.heap.size 0 none).add 1) = some (.int .i64 n_5) ∧
 R (.tuple (Array.mk [.int .i64 0, .agg (Array.mk [.int .i64 n, .int .i64 n_5])])) w')
 (∃ a l c,
 w'.drew.cell? (p0.add 0) = some (.slice a l c) ∧
 Calls prog 55 (Array.mk [.int .i64 n2]) w'.drew fun y y_3 =>
 ∃ n_4,
 y = .returned (.int .i64 n_4) ∧
 (∀ (b : Nat) (o : Obj), w'.drew.heap[b]? = some o → y_3.heap[b]? = some o) ∧
 (0 ≤ IntKind.i64.wrap (n + n_4) ∧ IntKind.i64.wrap (n + n_4) ≤ (↑c : Int)) ∧
 (0 ≤ n ∧ n ≤ (↑(IntKind.i64.wrap (n + n_4)).toNat : Int)) ∧
 (match if c = n.toNat then a else Option.map (fun x => x.add (n.toNat * 1)) a with
 | some a => canWr y_3 a (((IntKind.i64.wrap (n + n_4)).toNat - n.toNat) * 1)
 | none => (IntKind.i64.wrap (n + n_4)).toNat - n.toNat = 0) ∧
 atW
 (match if c = n.toNat then a else Option.map (fun x => x.add (n.toNat * 1)) a with
 | some a => wrx y_3 a (zcells [.int .i64 0] ((IntKind.i64.wrap (n + n_4)).toNat - n.toNat)) 0
 | none => y_3)
 fun w' =>
 ∃ a l c,
 w'.drew.cell? (p0.add 0) = some (.slice a l c) ∧
 Calls prog 56 (Array.mk [.int .i64 n, .int .i64 n1, .int .i64 n2]) w'.drew fun y y_4 =>
 ∃ n_5,
 y = .returned (.int .i64 n_5) ∧
 (∀ (b : Nat) (o : Obj), w'.drew.heap[b]? = some o → y_4.heap[b]? = some o) ∧
 nilx a fun a =>
 (0 ≤ n ∧ n < (↑l : Int)) ∧
 stx y_4 (a.add (n.toNat * 1)) [.int .i64 n_5] 0 fun w' =>
 atW (w'.alloc (Obj.cells (Array.mk [.int .i64 0, .int .i64 0, .int .i64 0, .int .i64 0]) 97)) fun w'_1 =>
 stx w'_1 (Addr.mk w'.heap.size 0 none) [.int .i64 n1, .int .i64 n2, .int .i64 0, .int .i64 n3] 0 fun w'_2 =>
 JoinX Unit
 (fun K =>
 Calls prog 57 (Array.mk [.int .i64 n1]) w'_2 fun y y_5 =>
 ∃ b,
 y = .returned (.bool b) ∧
 ifB b
 (∃ n_6,
 y_5.cell? (p0.add 13) = some (.int .i64 n_6) ∧
 stx y_5 (p0.add 13) [.int .i64 (IntKind.i64.wrap (n_6 + 1))] 0 fun w'_3 =>
 ∃ n_7,
 w'_3.cell? (p0.add 13) = some (.int .i64 n_7) ∧
 stx w'_3 ((Addr.mk w'.heap.size 0 none).add 2) [.int .i64 n_7] 0 fun w'_4 =>
 ∃ r,
 w'_4.drew.cell? (p0.add 12) = some (.map r) ∧
 ∃ n_8,
 w'_4.drew.cell? ((Addr.mk w'.heap.size 0 none).add 2) = some (.int .i64 n_8) ∧
 optx r fun r =>
 ∃ es c res,
 Mapped w'_4.drew r IntKind.i64 n_8 es c res ∧
 atW (World.putB w'_4.drew r (mput es c res (.int .i64 n_8) (.int .i64 n))) fun w' => K () w')
 (K () y_5))
 fun s w'_3 =>
 ∃ r,
 w'_3.drew.cell? (p0.add 11) = some (.map r) ∧
 ∃ n_6,
 w'_3.drew.cell? ((Addr.mk w'.heap.size 0 none).add 0) = some (.int .i64 n_6) ∧
 ∃ n_7,
 w'_3.drew.cell? ((Addr.mk w'.heap.size 0 none).add 1) = some (.int .i64 n_7) ∧
 ∃ n_8,
 w'_3.drew.cell? ((Addr.mk w'.heap.size 0 none).add 2) = some (.int .i64 n_8) ∧
 ∃ n_9,
 w'_3.drew.cell? ((Addr.mk w'.heap.size 0 none).add 3) = some (.int .i64 n_9) ∧
 optx r fun r =>
 ∃ es c res,
 Mapped w'_3.drew r IntKind.i64 n es c res ∧
 atW
 (World.putB w'_3.drew r
 (mput es c res (.int .i64 n)
 (.agg (Array.mk [.int .i64 n_6, .int .i64 n_7, .int .i64 n_8, .int .i64 n_9]))))
 fun w' =>
 ∃ p,
 w'.cell? (p0.add 2) = some (.pointer p) ∧
 Calls prog 58 (Array.mk [.pointer p, .int .i64 n]) w' fun y y_5 =>
 ∃ n_10,
 y = .returned (.int .i64 n_10) ∧
 ∃ n_11,
 y_5.drew.cell? (p0.add 14) = some (.int .i64 n_11) ∧
 Calls prog 55 (Array.mk [.int .i64 n2]) y_5.drew fun y y_6 =>
 ∃ n_12,
 y = .returned (.int .i64 n_12) ∧
 (∀ (b : Nat) (o : Obj), y_5.drew.heap[b]? = some o → y_6.heap[b]? = some o) ∧
 stx y_6 (p0.add 14) [.int .i64 (IntKind.i64.wrap (n_11 + n_12))] 0 fun w' =>
 stx w' (Addr.mk w.heap.size 0 none) [.int .i64 0, .int .i64 0] 0 fun w' =>
 ∃ n_13,
 w'.cell? ((Addr.mk w.heap.size 0 none).add 0) = some (.int .i64 n_13) ∧
 ∃ n_14,
 w'.cell? ((Addr.mk w.heap.size 0 none).add 1) = some (.int .i64 n_14) ∧
 R
 (.tuple
 (Array.mk
 [.int .i64 n,
 .agg (Array.mk [.int .i64 n_13, .int .i64 n_14])]))
 w'))

theorem S18_eq (p0 : Addr) (n1 : Int) (n2 : Int) (n3 : Int) (w : World) (R : Value → World → Prop) : funX Go.Proofs.Tryz.prog 18 ⟨[(244, (.op 0 (.op 1 (.op 2 (.done))), [])), (62, (.op 0 (.op 1 (.op 2 (.op 4 (.op 5 (.op 6 (.op 3 (.op 7 (.op 8 (.op 9 (.op 10 (.done))))))))))), [7])), (126, (.op 0 (.op 1 (.op 2 (.op 4 (.op 5 (.op 6 (.op 7 (.op 3 (.op 8 (.op 9 (.op 10 (.done))))))))))), [8])), (8171, (.op 0 (.op 1 (.op 2 (.op 3 (.op 4 (.op 5 (.op 6 (.op 7 (.done)))))))), [])), (1022, (.op 0 (.op 1 (.op 2 (.op 3 (.op 4 (.op 5 (.op 6 (.done))))))), [])), (4094, (.op 0 (.op 1 (.op 2 (.op 4 (.op 3 (.op 5 (.op 6 (.op 7 (.op 8 (.op 9 (.done)))))))))), [5]))], [], [(255, [])]⟩ [(.pointer (some p0)), (.int .i64 n1), (.int .i64 n2), (.int .i64 n3)] w R = S18 p0 n1 n2 n3 w R := by kernel_rfl

/-- hearth/space.New -/
def S17 (n0 : Int) (w : World) (R : Value → World → Prop) : Prop :=
 Calls prog 51 (Array.mk [.int .i64 n0]) w fun y y_1 =>
 ∃ p n,
 y = .returned (.tuple (Array.mk [.pointer p, .int .i64 n])) ∧
 ifB (n != 0) (R (.tuple (Array.mk [.pointer none, .int .i64 n])) y_1)
 ((0 ≤ IntKind.i64.wrap (n0 * 64) ∧ IntKind.i64.wrap (n0 * 64) ≤ IntKind.i64.wrap (n0 * 64) ∧ IntKind.i64.wrap (n0 * 64) ≤ 1099511627776) ∧
 atW ((y_1.alloc (Obj.cells (Array.mk (zcells [.int .i64 0] (IntKind.i64.wrap (n0 * 64)).toNat)) 3)).alloc (Obj.map (Array.mk []) 0)) fun w' =>
 atW (w'.alloc (Obj.map (Array.mk []) 0)) fun w'_1 =>
 atW
 (w'_1.alloc
 (Obj.cells
 (Array.mk
 [.slice (some (Addr.mk y_1.heap.size 0 none)) (IntKind.i64.wrap (n0 * 64)).toNat (IntKind.i64.wrap (n0 * 64)).toNat, .pointer p, .pointer none, .pointer none, .pointer none, .pointer none,
 .pointer none, .pointer none, .pointer none, .pointer none, .pointer none,
 .map (some (y_1.alloc (Obj.cells (Array.mk (zcells [.int .i64 0] (IntKind.i64.wrap (n0 * 64)).toNat)) 3)).heap.size), .map (some w'.heap.size), .int .i64 0, .int .i64 0])
 91))
 fun w' =>
 ∃ a l c,
 w'.cell? ((Addr.mk w'_1.heap.size 0 none).add 0) = some (.slice a l c) ∧
 Calls prog 52 (Array.mk [.int .i64 (↑l : Int)]) w' fun y y_2 =>
 ∃ p n,
 y = .returned (.tuple (Array.mk [.pointer p, .int .i64 n])) ∧
 stx y_2 ((Addr.mk w'_1.heap.size 0 none).add 2) [.pointer p] 0 fun w' =>
 LoopX (Int × Unit)
 (fun s w K =>
 ifB (decide (s.fst < 8))
 (∃ a l c,
 w.drew.cell? ((Addr.mk w'_1.heap.size 0 none).add 0) = some (.slice a l c) ∧
 Calls prog 52 (Array.mk [.int .i64 (↑l : Int)]) w.drew fun y y_3 =>
 ∃ p n,
 y = .returned (.tuple (Array.mk [.pointer p, .int .i64 n])) ∧
 (0 ≤ s.fst ∧ s.fst < 8) ∧ stx y_3 (((Addr.mk w'_1.heap.size 0 none).add 3).add (Int.toNat s.fst * 1)) [.pointer p] 0 fun w' => K (IntKind.i64.wrap (s.fst + 1), ()) w')
 (R (.tuple (Array.mk [.pointer (some (Addr.mk w'_1.heap.size 0 none)), .int .i64 0])) w))
 (0, ()) w')

theorem S17_eq (n0 : Int) (w : World) (R : Value → World → Prop) : funX Go.Proofs.Tryz.prog 17 ⟨[(32409, (.op 0 (.op 1 (.op 2 (.op 3 (.op 4 (.op 5 (.op 6 (.op 11 (.op 12 (.op 7 (.op 8 (.op 9 (.op 10 (.op 13 (.op 14 (.done))))))))))))))), []))], [(506, [(36, .int .i64)])], []⟩ [(.int .i64 n0)] w R = S17 n0 w R := by kernel_rfl

/-- (*hearth/hearthlaw8.pair).whole -/
def S16 (p0 : Addr) (w : World) (R : Value → World → Prop) : Prop :=
 Calls prog 15 (Array.mk [.pointer (some p0), .agg (Array.mk [.int .i64 0, .int .i64 18, .int .i64 0, .int .i64 0, .int .i64 0, .slice none 0 0])]) w
 fun y y_1 =>
 ∃ b,
 y = .returned (.bool b) ∧
 ifB b
 (Calls prog 15
 (Array.mk [.pointer (some p0), .agg (Array.mk [.int .i64 0, .int .i64 20, .int .i64 0, .int .i64 0, .int .i64 0, .slice none 0 0])]) y_1 fun y y_2 =>
 ∃ b,
 y = .returned (.bool b) ∧
 ifB b
 (Calls prog 50 (Array.mk [.pointer (some (p0.add 2))]) y_2 fun y y_3 =>
 ∃ b,
 y = .returned (.bool b) ∧
 ifB b
 (Calls prog 15
 (Array.mk [.pointer (some p0), .agg (Array.mk [.int .i64 0, .int .i64 20, .int .i64 0, .int .i64 0, .int .i64 0, .slice none 0 0])]) y_3
 fun y y_4 => ∃ b, y = .returned (.bool b) ∧ R (.bool b) y_4)
 (R (.bool false) y_3))
 (R (.bool false) y_2))
 (R (.bool false) y_1)

theorem S16_eq (p0 : Addr) (w : World) (R : Value → World → Prop) : funX Go.Proofs.Tryz.prog 16 ⟨[], [], []⟩ [(.pointer (some p0))] w R = S16 p0 w R := by kernel_rfl

end Go.Wx
end
section
/- WRITTEN BY A PROGRAM (wip/gen): what each function's code asks for, by the framework's precondition, in short form; each is checked by the kernel to be that precondition. -/
set_option maxRecDepth 100000
set_option linter.unusedVariables false
namespace Go.Wx
open Go Proofs.Tryz

/-- (*hearth/hearthlaw8.pair).looked -/
def S15 (p0 : Addr) (n1_0 : Int) (n1_1 : Int) (n1_2 : Int) (n1_3 : Int) (n1_4 : Int) (s1_5 : Option Addr) (l1_5 c1_5 : Nat) (w : World) (R : Value → World → Prop) : Prop :=
 atW (w.alloc (Obj.cells (Array.mk [.int .i64 n1_0, .int .i64 n1_1, .int .i64 n1_2, .int .i64 n1_3, .int .i64 n1_4, .slice s1_5 l1_5 c1_5]) 32)) fun w' =>
 ∃ n,
 w'.cell? ((Addr.mk w.heap.size 0 none).add 1) = some (.int .i64 n) ∧
 ifB (n == 10)
 (∃ p,
 w'.drew.cell? (p0.add 0) = some (.pointer p) ∧
 ∃ n,
 w'.drew.cell? ((Addr.mk w.heap.size 0 none).add 2) = some (.int .i64 n) ∧
 Calls prog 19 (Array.mk [.pointer p, .int .i64 n]) w'.drew fun y y_1 =>
 ∃ n b,
 y = .returned (.tuple (Array.mk [.int .i64 n, .bool b])) ∧
 ∃ p,
 y_1.drew.cell? (p0.add 1) = some (.pointer p) ∧
 ∃ n_1,
 y_1.drew.cell? ((Addr.mk w.heap.size 0 none).add 2) = some (.int .i64 n_1) ∧
 Calls prog 31 (Array.mk [.pointer p, .int .i64 n_1]) y_1.drew fun y y_2 =>
 ∃ n_2 b_1, y = .returned (.tuple (Array.mk [.int .i64 n_2, .bool b_1])) ∧ ifB (n == n_2) (R (.bool (b == b_1)) y_2) (R (.bool false) y_2))
 (ifB (n == 11)
 (∃ n,
 w'.cell? ((Addr.mk w.heap.size 0 none).add 2) = some (.int .i64 n) ∧
 Calls prog 32 (Array.mk [.pointer (some p0), .int .i64 n, .int .i64 1]) w' fun y y_1 => ∃ b, y = .returned (.bool b) ∧ R (.bool b) y_1)
 (ifB (n == 12)
 (∃ n,
 w'.drew.cell? ((Addr.mk w.heap.size 0 none).add 2) = some (.int .i64 n) ∧
 ∃ n_1,
 w'.drew.cell? ((Addr.mk w.heap.size 0 none).add 3) = some (.int .i64 n_1) ∧
 Calls prog 26 (Array.mk [.pointer (some p0), .int .i64 n]) w'.drew fun y y_1 =>
 ∃ n,
 y = .returned (.int .i64 n) ∧
 (∀ (b : Nat) (o : Obj), w'.drew.heap[b]? = some o → y_1.heap[b]? = some o) ∧
 Calls prog 32 (Array.mk [.pointer (some p0), .int .i64 n, .int .i64 n_1]) y_1 fun y y_2 => ∃ b, y = .returned (.bool b) ∧ R (.bool b) y_2)
 (ifB (n == 13)
 (∃ n,
 w'.cell? ((Addr.mk w.heap.size 0 none).add 2) = some (.int .i64 n) ∧
 ∃ n_1,
 w'.cell? ((Addr.mk w.heap.size 0 none).add 3) = some (.int .i64 n_1) ∧
 Calls prog 32 (Array.mk [.pointer (some p0), .int .i64 n, .int .i64 n_1]) w' fun y y_1 => ∃ b, y = .returned (.bool b) ∧ R (.bool b) y_1)
 (ifB (n == 14)
 (∃ a l c,
 w'.cell? ((Addr.mk w.heap.size 0 none).add 5) = some (.slice a l c) ∧
 Calls prog 33 (Array.mk [.slice a l c]) w' fun y y_1 =>
 ∃ a l c,
 y = .returned (.slice a l c) ∧
 ∃ p,
 y_1.drew.cell? (p0.add 0) = some (.pointer p) ∧
 ∃ a_1 l_1 c_1,
 y_1.drew.cell? ((Addr.mk w.heap.size 0 none).add 5) = some (.slice a_1 l_1 c_1) ∧
 (0 ≤ (↑l_1 : Int) ∧ (↑l_1 : Int) ≤ (↑c : Int)) ∧
 Calls prog 34 (Array.mk [.pointer p, .slice (if c = 0 then a else Option.map (fun x => x.add 0) a) ((↑l_1 : Int).toNat - 0) (c - 0)]) y_1.drew fun y y_2 =>
 ∃ b,
 y = .returned (.bool b) ∧
 ∃ a_2 l_2 c_2,
 y_2.drew.cell? ((Addr.mk w.heap.size 0 none).add 5) = some (.slice a_2 l_2 c_2) ∧
 Calls prog 35 (Array.mk [.slice a l c, .slice a_2 l_2 c_2]) y_2.drew fun y y_3 =>
 ∃ b_1,
 y = .returned (.bool b_1) ∧
 ifB b_1
 (∃ p,
 y_3.cell? (p0.add 1) = some (.pointer p) ∧
 ∃ a l c,
 y_3.cell? ((Addr.mk w.heap.size 0 none).add 5) = some (.slice a l c) ∧
 Calls prog 36 (Array.mk [.pointer p, .slice a l c]) y_3 fun y y_4 => ∃ b_2, y = .returned (.bool b_2) ∧ R (.bool (b == b_2)) y_4)
 (R (.bool false) y_3))
 (ifB (n == 15)
 (∃ p,
 w'.drew.cell? (p0.add 0) = some (.pointer p) ∧
 ∃ n,
 w'.drew.cell? ((Addr.mk w.heap.size 0 none).add 2) = some (.int .i64 n) ∧
 Calls prog 37 (Array.mk [.pointer p, .int .i64 n]) w'.drew fun y y_1 =>
 ∃ n b,
 y = .returned (.tuple (Array.mk [.int .i64 n, .bool b])) ∧
 ∃ p,
 y_1.drew.cell? (p0.add 1) = some (.pointer p) ∧
 ∃ n_1,
 y_1.drew.cell? ((Addr.mk w.heap.size 0 none).add 2) = some (.int .i64 n_1) ∧
 Calls prog 38 (Array.mk [.pointer p, .int .i64 n_1]) y_1.drew fun y y_2 =>
 ∃ n_2 b_1, y = .returned (.tuple (Array.mk [.int .i64 n_2, .bool b_1])) ∧ ifB (n == n_2) (R (.bool (b == b_1)) y_2) (R (.bool false) y_2))
 (ifB (n == 16)
 (∃ p,
 w'.drew.cell? (p0.add 0) = some (.pointer p) ∧
 ∃ p_1,
 w'.drew.cell? (p0.add 1) = some (.pointer p_1) ∧
 Calls prog 40 (Array.mk [.pointer p]) w'.drew fun y y_1 =>
 ∃ a l c,
 y = .returned (.slice a l c) ∧
 (∀ (b : Nat) (o : Obj), w'.drew.heap[b]? = some o → y_1.heap[b]? = some o) ∧
 Calls prog 41 (Array.mk [.pointer p_1]) y_1 fun y y_2 =>
 ∃ a_1 l_1 c_1,
 y = .returned (.slice a_1 l_1 c_1) ∧
 Calls prog 39 (Array.mk [.pointer (some (p0.add 2)), .slice a l c, .slice a_1 l_1 c_1, .bool true]) y_2 fun y y_3 =>
 ∃ b,
 y = .returned (.bool b) ∧
 ifB b
 (∃ p,
 y_3.cell? (p0.add 0) = some (.pointer p) ∧
 ∃ p_2,
 y_3.cell? (p0.add 1) = some (.pointer p_2) ∧
 Calls prog 40 (Array.mk [.pointer p]) y_3 fun y y_4 =>
 ∃ a l c,
 y = .returned (.slice a l c) ∧
 (∀ (b : Nat) (o : Obj), y_3.heap[b]? = some o → y_4.heap[b]? = some o) ∧
 Calls prog 41 (Array.mk [.pointer p_2]) y_4 fun y y_5 =>
 ∃ a_2 l_2 c_2,
 y = .returned (.slice a_2 l_2 c_2) ∧
 Calls prog 39 (Array.mk [.pointer (some (p0.add 2)), .slice a l c, .slice a_2 l_2 c_2, .bool false]) y_5 fun y y_6 =>
 ∃ b, y = .returned (.bool b) ∧ R (.bool b) y_6)
 ((∀ (b : Nat) (o : Obj), y_3.heap[b]? = some o → y_3.heap[b]? = some o) ∧ R (.bool false) y_3))
 (ifB (n == 17)
 (∃ n,
 w'.cell? ((Addr.mk w.heap.size 0 none).add 0) = some (.int .i64 n) ∧
 ∃ n_1,
 w'.cell? ((Addr.mk w.heap.size 0 none).add 1) = some (.int .i64 n_1) ∧
 ∃ n_2,
 w'.cell? ((Addr.mk w.heap.size 0 none).add 2) = some (.int .i64 n_2) ∧
 ∃ n_3,
 w'.cell? ((Addr.mk w.heap.size 0 none).add 3) = some (.int .i64 n_3) ∧
 ∃ n_4,
 w'.cell? ((Addr.mk w.heap.size 0 none).add 4) = some (.int .i64 n_4) ∧
 ∃ a l c,
 w'.cell? ((Addr.mk w.heap.size 0 none).add 5) = some (.slice a l c) ∧
 Calls prog 42
 (Array.mk
 [.pointer (some p0),
 .agg (Array.mk [.int .i64 n, .int .i64 n_1, .int .i64 n_2, .int .i64 n_3, .int .i64 n_4, .slice a l c])])
 w' fun y y_1 => ∃ b, y = .returned (.bool b) ∧ R (.bool b) y_1)
 (ifB (n == 18)
 (∃ p,
 w'.drew.cell? (p0.add 0) = some (.pointer p) ∧
 ∃ p_1,
 w'.drew.cell? (p0.add 1) = some (.pointer p_1) ∧
 Calls prog 43 (Array.mk [.pointer p]) w'.drew fun y y_1 =>
 ∃ n,
 y = .returned (.int .i64 n) ∧
 (∀ (b : Nat) (o : Obj), w'.drew.heap[b]? = some o → y_1.heap[b]? = some o) ∧
 Calls prog 44 (Array.mk [.pointer p_1]) y_1 fun y y_2 => ∃ n_1, y = .returned (.int .i64 n_1) ∧ R (.bool (n == n_1)) y_2)
 (ifB (n == 19)
 (∃ p,
 w'.drew.cell? (p0.add 0) = some (.pointer p) ∧
 ∃ p_1,
 w'.drew.cell? (p0.add 1) = some (.pointer p_1) ∧
 nilx p_1 fun a =>
 ∃ a_1 l c,
 w'.drew.cell? (a.add 0) = some (.slice a_1 l c) ∧
 Calls prog 20 (Array.mk [.pointer p]) w'.drew fun y y_1 =>
 ∃ n,
 y = .returned (.int .i64 n) ∧
 (∀ (b : Nat) (o : Obj), w'.drew.heap[b]? = some o → y_1.heap[b]? = some o) ∧
 ifB (n == (↑l : Int))
 (∃ p,
 y_1.cell? (p0.add 0) = some (.pointer p) ∧
 ∃ p_2,
 y_1.cell? (p0.add 1) = some (.pointer p_2) ∧
 ∃ p_3,
 y_1.cell? (p0.add 1) = some (.pointer p_3) ∧
 nilx p_3 fun a =>
 ∃ a_2 l c,
 y_1.cell? (a.add 0) = some (.slice a_2 l c) ∧
 Calls prog 45 (Array.mk [.pointer p]) y_1 fun y y_2 =>
 ∃ n,
 y = .returned (Value.float FloatKind.f64 n) ∧
 (∀ (b : Nat) (o : Obj), y_1.heap[b]? = some o → y_2.heap[b]? = some o) ∧
 Calls prog 46 (Array.mk [.pointer p_2]) y_2 fun y y_3 =>
 ∃ n_1,
 y = .returned (.int .i64 n_1) ∧
 (∀ (b : Nat) (o : Obj), y_2.heap[b]? = some o → y_3.heap[b]? = some o) ∧
 optx (FloatKind.f64.format.div (FloatKind.f64.nearest n_1) (FloatKind.f64.nearest (↑l : Int))) fun r =>
 R (.bool (FloatKind.f64.format.order n r == some Ordering.eq)) y_3)
 ((∀ (b : Nat) (o : Obj), y_1.heap[b]? = some o → y_1.heap[b]? = some o) ∧ (∀ (b : Nat) (o : Obj), y_1.heap[b]? = some o → y_1.heap[b]? = some o) ∧ R (.bool false) y_1))
 (ifB (n == 20)
 (∃ p,
 w'.drew.cell? (p0.add 0) = some (.pointer p) ∧
 ∃ p_1,
 w'.drew.cell? (p0.add 1) = some (.pointer p_1) ∧
 Calls prog 48 (Array.mk [.pointer p]) w'.drew fun y y_1 =>
 ∃ a l c a_1 l_1 c_1 a_2 l_2 c_2 n n_1 n_2 n_3 n_4 n_5 n_6 n_7 n_8,
 y =
 .returned
 (.agg
 (Array.mk
 [.slice a l c, .slice a_1 l_1 c_1, .slice a_2 l_2 c_2, .int .i64 n, .int .i64 n_1, .int .i64 n_2, .int .i64 n_3,
 .int .i64 n_4, .int .i64 n_5, .int .i64 n_6, .int .i64 n_7, .int .i64 n_8])) ∧
 (∀ (b : Nat) (o : Obj), w'.drew.heap[b]? = some o → y_1.heap[b]? = some o) ∧
 Calls prog 49 (Array.mk [.pointer p_1]) y_1 fun y y_2 =>
 ∃ a_3 l_3 c_3 a_4 l_4 c_4 a_5 l_5 c_5 n_9 n_10 n_11 n_12 n_13 n_14 n_15 n_16 n_17,
 y =
 .returned
 (.agg
 (Array.mk
 [.slice a_3 l_3 c_3, .slice a_4 l_4 c_4, .slice a_5 l_5 c_5, .int .i64 n_9, .int .i64 n_10, .int .i64 n_11,
 .int .i64 n_12, .int .i64 n_13, .int .i64 n_14, .int .i64 n_15, .int .i64 n_16, .int .i64 n_17])) ∧
 Calls prog 47
 (Array.mk
 [.pointer (some (p0.add 2)),
 .agg
 (Array.mk
 [.slice a l c, .slice a_1 l_1 c_1, .slice a_2 l_2 c_2, .int .i64 n, .int .i64 n_1, .int .i64 n_2, .int .i64 n_3,
 .int .i64 n_4, .int .i64 n_5, .int .i64 n_6, .int .i64 n_7, .int .i64 n_8]),
 .agg
 (Array.mk
 [.slice a_3 l_3 c_3, .slice a_4 l_4 c_4, .slice a_5 l_5 c_5, .int .i64 n_9, .int .i64 n_10, .int .i64 n_11,
 .int .i64 n_12, .int .i64 n_13, .int .i64 n_14, .int .i64 n_15, .int .i64 n_16, .int .i64 n_17]),
 .bool true])
 y_2 fun y y_3 =>
 ∃ b,
 y = .returned (.bool b) ∧
 ifB b
 (∃ p,
 y_3.cell? (p0.add 0) = some (.pointer p) ∧
 ∃ p_2,
 y_3.cell? (p0.add 1) = some (.pointer p_2) ∧
 Calls prog 48 (Array.mk [.pointer p]) y_3 fun y y_4 =>
 ∃ a l c a_6 l_6 c_6 a_7 l_7 c_7 n n_18 n_19 n_20 n_21 n_22 n_23 n_24 n_25,
 y =
 .returned
 (.agg
 (Array.mk
 [.slice a l c, .slice a_6 l_6 c_6, .slice a_7 l_7 c_7, .int .i64 n, .int .i64 n_18, .int .i64 n_19,
 .int .i64 n_20, .int .i64 n_21, .int .i64 n_22, .int .i64 n_23, .int .i64 n_24,
 .int .i64 n_25])) ∧
 (∀ (b : Nat) (o : Obj), y_3.heap[b]? = some o → y_4.heap[b]? = some o) ∧
 Calls prog 49 (Array.mk [.pointer p_2]) y_4 fun y y_5 =>
 ∃ a_8 l_8 c_8 a_9 l_9 c_9 a_10 l_10 c_10 n_26 n_27 n_28 n_29 n_30 n_31 n_32 n_33 n_34,
 y =
 .returned
 (.agg
 (Array.mk
 [.slice a_8 l_8 c_8, .slice a_9 l_9 c_9, .slice a_10 l_10 c_10, .int .i64 n_26, .int .i64 n_27,
 .int .i64 n_28, .int .i64 n_29, .int .i64 n_30, .int .i64 n_31, .int .i64 n_32,
 .int .i64 n_33, .int .i64 n_34])) ∧
 Calls prog 47
 (Array.mk
 [.pointer (some (p0.add 2)),
 .agg
 (Array.mk
 [.slice a l c, .slice a_6 l_6 c_6, .slice a_7 l_7 c_7, .int .i64 n, .int .i64 n_18, .int .i64 n_19,
 .int .i64 n_20, .int .i64 n_21, .int .i64 n_22, .int .i64 n_23, .int .i64 n_24,
 .int .i64 n_25]),
 .agg
 (Array.mk
 [.slice a_8 l_8 c_8, .slice a_9 l_9 c_9, .slice a_10 l_10 c_10, .int .i64 n_26, .int .i64 n_27,
 .int .i64 n_28, .int .i64 n_29, .int .i64 n_30, .int .i64 n_31, .int .i64 n_32,
 .int .i64 n_33, .int .i64 n_34]),
 .bool false])
 y_5 fun y y_6 => ∃ b, y = .returned (.bool b) ∧ R (.bool b) y_6)
 ((∀ (b : Nat) (o : Obj), y_3.heap[b]? = some o → y_3.heap[b]? = some o) ∧ R (.bool false) y_3))
 (R (.bool true) w')))))))))))

theorem S15_eq (p0 : Addr) (n1_0 : Int) (n1_1 : Int) (n1_2 : Int) (n1_3 : Int) (n1_4 : Int) (s1_5 : Option Addr) (l1_5 c1_5 : Nat) (w : World) (R : Value → World → Prop) : funX Go.Proofs.Tryz.prog 15 ⟨[(212, (.op 0 (.op 1 (.op 2 (.op 3 (.op 4 (.op 5 (.op 6 (.op 7 (.op 8 (.op 9 (.op 10 (.op 11 (.done)))))))))))), [])), (426, (.op 0 (.op 1 (.op 2 (.op 3 (.op 4 (.op 5 (.op 6 (.op 7 (.op 8 (.op 9 (.op 10 (.op 11 (.done)))))))))))), [])), (3452, (.op 0 (.op 1 (.op 2 (.op 3 (.op 5 (.op 6 (.op 4 (.op 7 (.op 8 (.done))))))))), [4])), (110586, (.op 0 (.op 1 (.op 2 (.op 3 (.op 4 (.op 5 (.op 6 (.op 7 (.op 8 (.op 9 (.op 10 (.done))))))))))), [])), (221174, (.op 0 (.op 1 (.op 2 (.op 3 (.op 4 (.op 5 (.op 6 (.op 7 (.op 8 (.op 9 (.op 10 (.op 11 (.op 12 (.op 13 (.op 14 (.op 15 (.done)))))))))))))))), [])), (221180, (.op 0 (.op 1 (.op 2 (.op 3 (.op 4 (.op 5 (.op 6 (.op 7 (.op 8 (.op 9 (.op 10 (.op 11 (.done)))))))))))), [])), (442362, (.op 0 (.op 1 (.op 2 (.op 3 (.op 4 (.op 5 (.op 6 (.op 7 (.op 8 (.op 9 (.op 10 (.op 11 (.done)))))))))))), [])), (884732, (.op 0 (.op 1 (.op 2 (.op 3 (.op 4 (.op 5 (.op 6 (.op 8 (.op 9 (.op 10 (.op 11 (.op 7 (.op 12 (.op 13 (.op 14 (.op 15 (.op 16 (.op 17 (.op 18 (.op 19 (.op 20 (.op 21 (.op 23 (.op 24 (.op 25 (.op 26 (.op 22 (.op 27 (.op 28 (.op 29 (.op 30 (.done))))))))))))))))))))))))))))))), [7, 22])), (14155772, (.op 0 (.op 1 (.op 2 (.op 3 (.op 5 (.op 6 (.op 7 (.op 8 (.op 4 (.op 9 (.op 10 (.op 11 (.done)))))))))))), [4])), (56623100, (.op 0 (.op 1 (.op 2 (.op 3 (.op 5 (.op 6 (.op 7 (.op 8 (.op 9 (.op 10 (.op 11 (.op 12 (.op 4 (.op 13 (.op 14 (.op 15 (.op 16 (.op 17 (.op 18 (.op 20 (.op 21 (.op 22 (.op 26 (.op 27 (.op 28 (.op 23 (.op 29 (.op 30 (.op 31 (.op 32 (.op 33 (.op 34 (.op 19 (.op 24 (.op 25 (.op 35 (.op 36 (.op 37 (.op 38 (.done))))))))))))))))))))))))))))))))))))))), [4, 19, 24])), (226492412, (.op 0 (.op 1 (.op 2 (.op 3 (.op 4 (.op 5 (.op 6 (.op 8 (.op 9 (.op 10 (.op 11 (.op 7 (.op 12 (.op 13 (.op 14 (.op 15 (.op 16 (.op 17 (.op 18 (.op 19 (.op 20 (.op 21 (.op 23 (.op 24 (.op 25 (.op 26 (.op 22 (.op 27 (.op 28 (.op 29 (.op 30 (.done))))))))))))))))))))))))))))))), [7, 22]))], [], []⟩ [(.pointer (some p0)), (.agg #[(.int .i64 n1_0), (.int .i64 n1_1), (.int .i64 n1_2), (.int .i64 n1_3), (.int .i64 n1_4), (.slice s1_5 l1_5 c1_5)])] w R = S15 p0 n1_0 n1_1 n1_2 n1_3 n1_4 s1_5 l1_5 c1_5 w R := by kernel_rfl

/-- (*hearth/hearthlaw8.pair).turned -/
def S14 (p0 : Addr) (n1_0 : Int) (n1_1 : Int) (n1_2 : Int) (n1_3 : Int) (n1_4 : Int) (s1_5 : Option Addr) (l1_5 c1_5 : Nat) (w : World) (R : Value → World → Prop) : Prop :=
 atW (w.alloc (Obj.cells (Array.mk [.int .i64 n1_0, .int .i64 n1_1, .int .i64 n1_2, .int .i64 n1_3, .int .i64 n1_4, .slice s1_5 l1_5 c1_5]) 32)) fun w' =>
 ∃ n,
 w'.cell? ((Addr.mk w.heap.size 0 none).add 1) = some (.int .i64 n) ∧
 ifB (n == 1)
 (JoinX (Value × Int × Unit)
 (fun K =>
 ∃ G : Nat → Prop,
 (G (p0.add 0).block → False) ∧
 ∃ p,
 w'.drew.cell? (p0.add 0) = some (.pointer p) ∧
 (G ((Addr.mk w.heap.size 0 none).add 2).block → False) ∧
 ∃ n,
 w'.drew.cell? ((Addr.mk w.heap.size 0 none).add 2) = some (.int .i64 n) ∧
 (G ((Addr.mk w.heap.size 0 none).add 3).block → False) ∧
 ∃ n_1,
 w'.drew.cell? ((Addr.mk w.heap.size 0 none).add 3) = some (.int .i64 n_1) ∧
 (G ((Addr.mk w.heap.size 0 none).add 4).block → False) ∧
 ∃ n_2,
 w'.drew.cell? ((Addr.mk w.heap.size 0 none).add 4) = some (.int .i64 n_2) ∧
 (Calls prog 18 (Array.mk [.pointer p, .int .i64 n, .int .i64 n_1, .int .i64 n_2]) w'.drew fun y y_1 =>
 ∃ n n_3 n_4,
 y = .returned (.tuple (Array.mk [.int .i64 n, .agg (Array.mk [.int .i64 n_3, .int .i64 n_4])])) ∧
 atW (y_1.alloc (Obj.cells (Array.mk [.int .i64 0, .int .i64 0]) 39)) fun w' =>
 (∀ (b : Nat) (o : Obj), ¬G b → y_1.heap[b]? = some o → w'.heap[b]? = some o) ∧
 stx w' (Addr.mk y_1.heap.size 0 none) [.int .i64 n_3, .int .i64 n_4] 0 fun w' => K (.pointer (some (Addr.mk y_1.heap.size 0 none)), n, ()) w') ∧
 atW (w'.drew.alloc (Obj.cells (Array.mk [.int .i64 0, .int .i64 0]) 39)) fun w'_1 =>
 (∀ (b : Nat) (o : Obj), ¬G b → w'.drew.heap[b]? = some o → w'_1.heap[b]? = some o) ∧
 Calls prog 18 (Array.mk [.pointer p, .int .i64 n, .int .i64 n_1, .int .i64 n_2]) w'_1 fun y y_1 =>
 ∃ n n_3 n_4,
 y = .returned (.tuple (Array.mk [.int .i64 n, .agg (Array.mk [.int .i64 n_3, .int .i64 n_4])])) ∧
 stx y_1 (Addr.mk w'.drew.heap.size 0 none) [.int .i64 n_3, .int .i64 n_4] 0 fun w'_2 => K (.pointer (some (Addr.mk w'.drew.heap.size 0 none)), n, ()) w'_2)
 fun s w' =>
 JoinX (Value × Int × Unit)
 (fun K =>
 ∃ G : Nat → Prop,
 (G (p0.add 1).block → False) ∧
 ∃ p,
 w'.drew.cell? (p0.add 1) = some (.pointer p) ∧
 (G ((Addr.mk w.heap.size 0 none).add 2).block → False) ∧
 ∃ n,
 w'.drew.cell? ((Addr.mk w.heap.size 0 none).add 2) = some (.int .i64 n) ∧
 (G ((Addr.mk w.heap.size 0 none).add 3).block → False) ∧
 ∃ n_1,
 w'.drew.cell? ((Addr.mk w.heap.size 0 none).add 3) = some (.int .i64 n_1) ∧
 (G ((Addr.mk w.heap.size 0 none).add 4).block → False) ∧
 ∃ n_2,
 w'.drew.cell? ((Addr.mk w.heap.size 0 none).add 4) = some (.int .i64 n_2) ∧
 (Calls prog 22 (Array.mk [.pointer p, .int .i64 n, .int .i64 n_1, .int .i64 n_2]) w'.drew fun y y_1 =>
 ∃ n n_3 n_4,
 y = .returned (.tuple (Array.mk [.int .i64 n, .agg (Array.mk [.int .i64 n_3, .int .i64 n_4])])) ∧
 atW (y_1.alloc (Obj.cells (Array.mk [.int .i64 0, .int .i64 0]) 56)) fun w' =>
 (∀ (b : Nat) (o : Obj), ¬G b → y_1.heap[b]? = some o → w'.heap[b]? = some o) ∧
 stx w' (Addr.mk y_1.heap.size 0 none) [.int .i64 n_3, .int .i64 n_4] 0 fun w' => K (.pointer (some (Addr.mk y_1.heap.size 0 none)), n, ()) w') ∧
 atW (w'.drew.alloc (Obj.cells (Array.mk [.int .i64 0, .int .i64 0]) 56)) fun w'_1 =>
 (∀ (b : Nat) (o : Obj), ¬G b → w'.drew.heap[b]? = some o → w'_1.heap[b]? = some o) ∧
 Calls prog 22 (Array.mk [.pointer p, .int .i64 n, .int .i64 n_1, .int .i64 n_2]) w'_1 fun y y_1 =>
 ∃ n n_3 n_4,
 y = .returned (.tuple (Array.mk [.int .i64 n, .agg (Array.mk [.int .i64 n_3, .int .i64 n_4])])) ∧
 stx y_1 (Addr.mk w'.drew.heap.size 0 none) [.int .i64 n_3, .int .i64 n_4] 0 fun w'_2 => K (.pointer (some (Addr.mk w'.drew.heap.size 0 none)), n, ()) w'_2)
 fun s_1 w' =>
 ifB (s.snd.fst == s_1.snd.fst)
 (asA (SK.any.v s.fst) fun a =>
 ∃ n,
 w'.cell? (a.add 0) = some (.int .i64 n) ∧
 ∃ n_1,
 w'.cell? (a.add 1) = some (.int .i64 n_1) ∧
 asA (SK.any.v s_1.fst) fun a =>
 ∃ n_2,
 w'.cell? (a.add 0) = some (.int .i64 n_2) ∧
 ∃ n_3,
 w'.cell? (a.add 1) = some (.int .i64 n_3) ∧
 Calls prog 23 (Array.mk [.agg (Array.mk [.int .i64 n, .int .i64 n_1]), .agg (Array.mk [.int .i64 n_2, .int .i64 n_3])]) w' fun y y_1 =>
 ∃ b, y = .returned (.bool b) ∧ R (.bool b) y_1)
 (R (.bool false) w'))
 (ifB (n == 2)
 (∃ G : Nat → Prop,
 (G (p0.add 0).block → False) ∧
 ∃ p,
 w'.drew.cell? (p0.add 0) = some (.pointer p) ∧
 (G ((Addr.mk w.heap.size 0 none).add 2).block → False) ∧
 ∃ n,
 w'.drew.cell? ((Addr.mk w.heap.size 0 none).add 2) = some (.int .i64 n) ∧
 (G ((Addr.mk w.heap.size 0 none).add 3).block → False) ∧
 ∃ n_1,
 w'.drew.cell? ((Addr.mk w.heap.size 0 none).add 3) = some (.int .i64 n_1) ∧
 (G ((Addr.mk w.heap.size 0 none).add 4).block → False) ∧
 ∃ n_2,
 w'.drew.cell? ((Addr.mk w.heap.size 0 none).add 4) = some (.int .i64 n_2) ∧
 (G (p0.add 1).block → False) ∧
 ∃ p_1,
 w'.drew.cell? (p0.add 1) = some (.pointer p_1) ∧
 (G ((Addr.mk w.heap.size 0 none).add 2).block → False) ∧
 ∃ n_3,
 w'.drew.cell? ((Addr.mk w.heap.size 0 none).add 2) = some (.int .i64 n_3) ∧
 (G ((Addr.mk w.heap.size 0 none).add 3).block → False) ∧
 ∃ n_4,
 w'.drew.cell? ((Addr.mk w.heap.size 0 none).add 3) = some (.int .i64 n_4) ∧
 (G ((Addr.mk w.heap.size 0 none).add 4).block → False) ∧
 ∃ n_5,
 w'.drew.cell? ((Addr.mk w.heap.size 0 none).add 4) = some (.int .i64 n_5) ∧
 Calls prog 24 (Array.mk [.pointer p, .int .i64 n, .int .i64 n_1, .int .i64 n_2]) w'.drew fun y y_1 =>
 ∃ n n_6,
 y = .returned (.agg (Array.mk [.int .i64 n, .int .i64 n_6])) ∧
 (∀ (b : Nat) (o : Obj), ¬G b → w'.drew.heap[b]? = some o → y_1.heap[b]? = some o) ∧
 Calls prog 25 (Array.mk [.pointer p_1, .int .i64 n_3, .int .i64 n_4, .int .i64 n_5]) y_1 fun y y_2 =>
 ∃ n_7 n_8,
 y = .returned (.agg (Array.mk [.int .i64 n_7, .int .i64 n_8])) ∧
 Calls prog 23
 (Array.mk [.agg (Array.mk [.int .i64 n, .int .i64 n_6]), .agg (Array.mk [.int .i64 n_7, .int .i64 n_8])])
 y_2 fun y y_3 => ∃ b, y = .returned (.bool b) ∧ R (.bool b) y_3)
 (ifB (n == 3)
 (∃ n,
 w'.cell? ((Addr.mk w.heap.size 0 none).add 2) = some (.int .i64 n) ∧
 Calls prog 26 (Array.mk [.pointer (some p0), .int .i64 n]) w' fun y y_1 =>
 ∃ n,
 y = .returned (.int .i64 n) ∧
 ∃ G : Nat → Prop,
 (G (p0.add 0).block → False) ∧
 ∃ p,
 y_1.drew.cell? (p0.add 0) = some (.pointer p) ∧
 (G ((Addr.mk w.heap.size 0 none).add 3).block → False) ∧
 ∃ n_1,
 y_1.drew.cell? ((Addr.mk w.heap.size 0 none).add 3) = some (.int .i64 n_1) ∧
 (G ((Addr.mk w.heap.size 0 none).add 4).block → False) ∧
 ∃ n_2,
 y_1.drew.cell? ((Addr.mk w.heap.size 0 none).add 4) = some (.int .i64 n_2) ∧
 (G (p0.add 1).block → False) ∧
 ∃ p_1,
 y_1.drew.cell? (p0.add 1) = some (.pointer p_1) ∧
 (G ((Addr.mk w.heap.size 0 none).add 3).block → False) ∧
 ∃ n_3,
 y_1.drew.cell? ((Addr.mk w.heap.size 0 none).add 3) = some (.int .i64 n_3) ∧
 (G ((Addr.mk w.heap.size 0 none).add 4).block → False) ∧
 ∃ n_4,
 y_1.drew.cell? ((Addr.mk w.heap.size 0 none).add 4) = some (.int .i64 n_4) ∧
 Calls prog 24 (Array.mk [.pointer p, .int .i64 n, .int .i64 n_1, .int .i64 n_2]) y_1.drew fun y y_2 =>
 ∃ n_5 n_6,
 y = .returned (.agg (Array.mk [.int .i64 n_5, .int .i64 n_6])) ∧
 (∀ (b : Nat) (o : Obj), ¬G b → y_1.drew.heap[b]? = some o → y_2.heap[b]? = some o) ∧
 Calls prog 25 (Array.mk [.pointer p_1, .int .i64 n, .int .i64 n_3, .int .i64 n_4]) y_2 fun y y_3 =>
 ∃ n n_7,
 y = .returned (.agg (Array.mk [.int .i64 n, .int .i64 n_7])) ∧
 Calls prog 23
 (Array.mk [.agg (Array.mk [.int .i64 n_5, .int .i64 n_6]), .agg (Array.mk [.int .i64 n, .int .i64 n_7])])
 y_3 fun y y_4 => ∃ b, y = .returned (.bool b) ∧ R (.bool b) y_4)
 (ifB (n == 4)
 (∃ G : Nat → Prop,
 (G (p0.add 0).block → False) ∧
 ∃ p,
 w'.drew.cell? (p0.add 0) = some (.pointer p) ∧
 (G ((Addr.mk w.heap.size 0 none).add 2).block → False) ∧
 ∃ n,
 w'.drew.cell? ((Addr.mk w.heap.size 0 none).add 2) = some (.int .i64 n) ∧
 (G ((Addr.mk w.heap.size 0 none).add 3).block → False) ∧
 ∃ n_1,
 w'.drew.cell? ((Addr.mk w.heap.size 0 none).add 3) = some (.int .i64 n_1) ∧
 (G (p0.add 1).block → False) ∧
 ∃ p_1,
 w'.drew.cell? (p0.add 1) = some (.pointer p_1) ∧
 (G ((Addr.mk w.heap.size 0 none).add 2).block → False) ∧
 ∃ n_2,
 w'.drew.cell? ((Addr.mk w.heap.size 0 none).add 2) = some (.int .i64 n_2) ∧
 (G ((Addr.mk w.heap.size 0 none).add 3).block → False) ∧
 ∃ n_3,
 w'.drew.cell? ((Addr.mk w.heap.size 0 none).add 3) = some (.int .i64 n_3) ∧
 Calls prog 27 (Array.mk [.pointer p, .int .i64 n, .int .i64 n_1]) w'.drew fun y y_1 =>
 ∃ b,
 y = .returned (.bool b) ∧
 (∀ (b : Nat) (o : Obj), ¬G b → w'.drew.heap[b]? = some o → y_1.heap[b]? = some o) ∧
 Calls prog 28 (Array.mk [.pointer p_1, .int .i64 n_2, .int .i64 n_3]) y_1 fun y y_2 =>
 ∃ b_1, y = .returned (.bool b_1) ∧ R (.bool (b == b_1)) y_2)
 (ifB (n == 5)
 (∃ G : Nat → Prop,
 (G ((Addr.mk w.heap.size 0 none).add 2).block → False) ∧
 ∃ n,
 w'.drew.cell? ((Addr.mk w.heap.size 0 none).add 2) = some (.int .i64 n) ∧
 (G ((Addr.mk w.heap.size 0 none).add 3).block → False) ∧
 ∃ n_1,
 w'.drew.cell? ((Addr.mk w.heap.size 0 none).add 3) = some (.int .i64 n_1) ∧
 Calls prog 26 (Array.mk [.pointer (some p0), .int .i64 n]) w'.drew fun y y_1 =>
 ∃ n,
 y = .returned (.int .i64 n) ∧
 (∀ (b : Nat) (o : Obj), ¬G b → w'.drew.heap[b]? = some o → y_1.heap[b]? = some o) ∧
 Calls prog 29 (Array.mk [.int .i64 n_1, .int .i64 40]) y_1 fun y y_2 =>
 ∃ n_2,
 y = .returned (.int .i64 n_2) ∧
 ∃ G : Nat → Prop,
 (G (p0.add 0).block → False) ∧
 ∃ p,
 y_2.drew.cell? (p0.add 0) = some (.pointer p) ∧
 (G ((Addr.mk w.heap.size 0 none).add 4).block → False) ∧
 ∃ n_3,
 y_2.drew.cell? ((Addr.mk w.heap.size 0 none).add 4) = some (.int .i64 n_3) ∧
 (G (p0.add 1).block → False) ∧
 ∃ p_1,
 y_2.drew.cell? (p0.add 1) = some (.pointer p_1) ∧
 (G ((Addr.mk w.heap.size 0 none).add 4).block → False) ∧
 ∃ n_4,
 y_2.drew.cell? ((Addr.mk w.heap.size 0 none).add 4) = some (.int .i64 n_4) ∧
 Calls prog 27 (Array.mk [.pointer p, .int .i64 (IntKind.i64.wrap (n + n_2)), .int .i64 n_3]) y_2.drew fun y y_3 =>
 ∃ b,
 y = .returned (.bool b) ∧
 (∀ (b : Nat) (o : Obj), ¬G b → y_2.drew.heap[b]? = some o → y_3.heap[b]? = some o) ∧
 Calls prog 28 (Array.mk [.pointer p_1, .int .i64 (IntKind.i64.wrap (n + n_2)), .int .i64 n_4]) y_3 fun y y_4 =>
 ∃ b_1, y = .returned (.bool b_1) ∧ R (.bool (b == b_1)) y_4)
 (ifB (n == 6)
 (∃ a l c,
 w'.cell? ((Addr.mk w.heap.size 0 none).add 5) = some (.slice a l c) ∧
 Calls prog 30 (Array.mk [.pointer (some p0), .slice a l c]) w' fun y y_1 => ∃ b, y = .returned (.bool b) ∧ R (.bool b) y_1)
 (LoopX ((Option Addr × Nat × Nat) × Int × Unit)
 (fun s w_1 K =>
 ∃ a l c,
 w_1.cell? ((Addr.mk w.heap.size 0 none).add 5) = some (.slice a l c) ∧
 ifB (decide (s.snd.fst < (↑l : Int)))
 (∃ a l c,
 w_1.cell? ((Addr.mk w.heap.size 0 none).add 5) = some (.slice a l c) ∧
 nilx a fun a =>
 (0 ≤ s.snd.fst ∧ s.snd.fst < (↑l : Int)) ∧
 ∃ n,
 w_1.cell? (a.add (Int.toNat s.snd.fst * 1)) = some (.int .i64 n) ∧
 Calls prog 26 (Array.mk [.pointer (some p0), .int .i64 n]) w_1 fun y y_1 =>
 ∃ n,
 y = .returned (.int .i64 n) ∧
 ifB (decide (n ≥ 0))
 (∃ a l c,
 y_1.cell? ((Addr.mk w.heap.size 0 none).add 5) = some (.slice a l c) ∧
 nilx a fun a =>
 (0 ≤ s.snd.fst ∧ s.snd.fst < (↑l : Int)) ∧
 ∃ n,
 y_1.cell? (a.add (Int.toNat s.snd.fst * 1)) = some (.int .i64 n) ∧
 Calls prog 26 (Array.mk [.pointer (some p0), .int .i64 n]) y_1 fun y y_2 =>
 ∃ n,
 y = .returned (.int .i64 n) ∧
 atW (y_2.alloc (Obj.cells (Array.mk [.int .i64 n]) 3)) fun w' =>
 ∃ old new,
 rdx w' s.fst.fst (s.fst.snd.fst * 1) old ∧
 rdx w' (some (Addr.mk y_2.heap.size 0 none)) 1 new ∧
 (∀ (v : Value), List.Mem v new → isLeaf v = true) ∧
 (s.fst.snd.fst + 1) * 8 ≤ 1099511627776 ∧
 canApp w' s.fst.fst s.fst.snd.fst s.fst.snd.snd 1 1 ∧
 ∀ (b : Option Addr) (c : Nat) (w'_1 : World),
 AppTo w' s.fst.fst s.fst.snd.fst s.fst.snd.snd 1 1 old new [.int .i64 0] 3 b c w'_1 →
 K ((b, s.fst.snd.fst + 1, c), IntKind.i64.wrap (s.snd.fst + 1), ()) w'_1)
 (K ((s.fst.fst, s.fst.snd.fst, s.fst.snd.snd), IntKind.i64.wrap (s.snd.fst + 1), ()) y_1))
 (Calls prog 30 (Array.mk [.pointer (some p0), .slice s.fst.fst s.fst.snd.fst s.fst.snd.snd]) w_1 fun y y_1 => ∃ b, y = .returned (.bool b) ∧ R (.bool b) y_1))
 ((none, 0, 0), 0, ()) w'))))))

theorem S14_eq (p0 : Addr) (n1_0 : Int) (n1_1 : Int) (n1_2 : Int) (n1_3 : Int) (n1_4 : Int) (s1_5 : Option Addr) (l1_5 c1_5 : Nat) (w : World) (R : Value → World → Prop) : funX Go.Proofs.Tryz.prog 14 ⟨[(212, (.op 0 (.op 1 (.op 2 (.op 4 (.op 6 (.op 8 (.op 3 (.op 5 (.op 7 (.op 9 (.alt 10 (.op 11 (.op 12 (.op 13 (.op 14 (.op 15 (.op 16 (.done))))))) 14 (.op 10 (.op 11 (.op 12 (.op 13 (.op 15 (.op 16 (.done))))))))))))))))), [14, 1000])), (426, (.op 0 (.op 1 (.op 2 (.op 4 (.op 6 (.op 8 (.op 3 (.op 5 (.op 7 (.op 9 (.alt 10 (.op 11 (.op 12 (.op 13 (.op 14 (.op 15 (.op 16 (.done))))))) 14 (.op 10 (.op 11 (.op 12 (.op 13 (.op 15 (.op 16 (.done))))))))))))))))), [14, 1000])), (860, (.op 0 (.op 1 (.op 2 (.op 3 (.op 4 (.op 5 (.op 6 (.op 7 (.op 8 (.op 9 (.op 11 (.op 12 (.op 13 (.op 15 (.op 17 (.op 19 (.op 14 (.op 16 (.op 18 (.op 20 (.op 10 (.op 21 (.op 22 (.op 23 (.done)))))))))))))))))))))))), [10, 1000])), (6906, (.op 0 (.op 1 (.op 2 (.op 3 (.op 4 (.op 5 (.op 6 (.op 7 (.op 8 (.op 10 (.op 11 (.op 12 (.op 14 (.op 15 (.op 17 (.op 13 (.op 16 (.op 18 (.op 9 (.op 19 (.op 20 (.op 21 (.done)))))))))))))))))))))), [9, 1000])), (13820, (.op 0 (.op 1 (.op 2 (.op 3 (.op 4 (.op 5 (.op 6 (.op 7 (.op 9 (.op 10 (.op 11 (.op 13 (.op 15 (.op 12 (.op 14 (.op 16 (.op 8 (.op 17 (.op 18 (.op 19 (.done)))))))))))))))))))), [8, 1000])), (55292, (.op 0 (.op 1 (.op 2 (.op 4 (.op 5 (.op 3 (.op 6 (.op 7 (.op 8 (.done))))))))), [3, 1000])), (110586, (.op 0 (.op 1 (.op 2 (.op 3 (.op 4 (.op 5 (.op 6 (.op 8 (.op 9 (.op 10 (.op 12 (.op 13 (.op 11 (.op 14 (.op 7 (.op 15 (.op 16 (.op 17 (.done)))))))))))))))))), [7, 1000]))], [(122, [(11, .slice), (12, .int .i64)])], [(106, [(6, .any), (5, .int .i64)]), (213, [(8, .any), (7, .int .i64)])]⟩ [(.pointer (some p0)), (.agg #[(.int .i64 n1_0), (.int .i64 n1_1), (.int .i64 n1_2), (.int .i64 n1_3), (.int .i64 n1_4), (.slice s1_5 l1_5 c1_5)])] w R = S14 p0 n1_0 n1_1 n1_2 n1_3 n1_4 s1_5 l1_5 c1_5 w R := by kernel_rfl

/-- hearth/hearthlaw8.made -/
def S13 (n0 : Int) (w : World) (R : Value → World → Prop) : Prop :=
 Calls prog 17 (Array.mk [.int .i64 n0]) w fun y y_1 =>
 ∃ p n,
 y = .returned (.tuple (Array.mk [.pointer p, .int .i64 n])) ∧
 JoinX (Option Addr × Bool × Unit)
 (fun K =>
 JoinX (Bool × Unit) (fun K => ifB (decide (n0 > 24)) (K (decide (n0 ≤ 4096), ()) y_1) (K (false, ()) y_1)) fun s w' =>
 ifB s.fst
 (ifB (n == 0)
 (ifB (!p.isNone)
 (Calls prog 20 (Array.mk [.pointer p]) w' fun y y_2 =>
 ∃ n, y = .returned (.int .i64 n) ∧ R (.tuple (Array.mk [.pointer none, .bool (n == IntKind.i64.wrap (64 * n0))])) y_2)
 (R (.tuple (Array.mk [.pointer none, .bool false])) w'))
 (R (.tuple (Array.mk [.pointer none, .bool false])) w'))
 (K (none, false, ()) w'))
 fun s w' =>
 Calls prog 21 (Array.mk [.int .i64 n0]) w' fun y y_2 =>
 ∃ p_1 n_1,
 y = .returned (.tuple (Array.mk [.pointer p_1, .int .i64 n_1])) ∧
 JoinX (Option Addr × Bool × Unit)
 (fun K =>
 ifB (n != n_1) (R (.tuple (Array.mk [.pointer none, .bool false])) y_2) (ifB (!p.isNone == p_1.isNone) (R (.tuple (Array.mk [.pointer none, .bool false])) y_2) (K (s.fst, s.snd.fst, ()) y_2)))
 fun s w' =>
 ifB p.isNone (R (.tuple (Array.mk [.pointer none, .bool true])) w')
 (atW
 (w'.alloc
 (Obj.cells
 (Array.mk
 [.pointer p, .pointer p_1, .slice none 0 0, .slice none 0 0, .slice none 0 0, .slice none 0 0, .slice none 0 0, .slice none 0 0, .slice none 0 0, .slice none 0 0,
 .slice none 0 0, .slice none 0 0, .slice none 0 0, .slice none 0 0])
 54))
 fun w'_1 => R (.tuple (Array.mk [.pointer (some (Addr.mk w'.heap.size 0 none)), .bool true])) w'_1)

theorem S13_eq (n0 : Int) (w : World) (R : Value → World → Prop) : funX Go.Proofs.Tryz.prog 13 ⟨[], [], [(7, [(2, .ptr), (3, .bool)]), (14, [(18, .bool)]), (31, [(2, .ptr), (3, .bool)])]⟩ [(.int .i64 n0)] w R = S13 n0 w R := by kernel_rfl

/-- hearth/hearthlaw8.small -/
def S12 (s0 : Option Addr) (l0 c0 : Nat) (w : World) (R : Value → World → Prop) : Prop :=
 LoopX (Bool × Int × Int × Unit)
 (fun s w K =>
 JoinX Unit
 (fun K =>
 ifB (decide (s.snd.snd.fst < (↑l0 : Int))) (ifB (decide (s.snd.snd.fst < 120)) (ifB (decide (s.snd.fst ≤ 8000)) (K () w) (R (.bool (decide (s.snd.fst ≤ 8000))) w)) (R (.bool (decide (s.snd.fst ≤ 8000))) w))
 (R (.bool (decide (s.snd.fst ≤ 8000))) w))
 fun s_1 w' =>
 nilx s0 fun a =>
 (0 ≤ s.snd.snd.fst ∧ s.snd.snd.fst < (↑l0 : Int)) ∧
 ∃ a_1 l c,
 w'.cell? ((a.add (Int.toNat s.snd.snd.fst * 6)).add 5) = some (.slice a_1 l c) ∧
 nilx s0 fun a =>
 (0 ≤ s.snd.snd.fst ∧ s.snd.snd.fst < (↑l0 : Int)) ∧
 ∃ a_2 l_1 c,
 w'.cell? ((a.add (Int.toNat s.snd.snd.fst * 6)).add 5) = some (.slice a_2 l_1 c) ∧
 ifB (decide ((↑l_1 : Int) > 400)) (R (.bool false) w') (K (s.fst, IntKind.i64.wrap (s.snd.fst + (↑l : Int)), IntKind.i64.wrap (s.snd.snd.fst + 1), ()) w'))
 (false, 0, 0, ()) w

theorem S12_eq (s0 : Option Addr) (l0 c0 : Nat) (w : World) (R : Value → World → Prop) : funX Go.Proofs.Tryz.prog 12 ⟨[], [(58, [(2, .bool), (3, .int .i64), (4, .int .i64)])], [(116, [])]⟩ [(.slice s0 l0 c0)] w R = S12 s0 l0 c0 w R := by kernel_rfl

/-- hearth/hearthlaw8.alive -/
def S11  (w : World) (R : Value → World → Prop) : Prop :=
 Calls prog 17 (Array.mk [.int .i64 1]) w fun y y_1 =>
 ∃ p n,
 y = .returned (.tuple (Array.mk [.pointer p, .int .i64 n])) ∧
 JoinX (Bool × Unit) (fun K => ifB p.isNone (R (.bool false) y_1) (ifB (n != 0) (R (.bool false) y_1) (K (false, ()) y_1))) fun s w' =>
 Calls prog 18 (Array.mk [.pointer p, .int .i64 1, .int .i64 3, .int .i64 0]) w' fun y y_2 =>
 ∃ n n_1 n_2,
 y = .returned (.tuple (Array.mk [.int .i64 n, .agg (Array.mk [.int .i64 n_1, .int .i64 n_2])])) ∧
 atW (y_2.alloc (Obj.cells (Array.mk [.int .i64 0, .int .i64 0]) 39)) fun w' =>
 stx w' (Addr.mk y_2.heap.size 0 none) [.int .i64 n_1, .int .i64 n_2] 0 fun w' =>
 Calls prog 18 (Array.mk [.pointer p, .int .i64 1, .int .i64 3, .int .i64 0]) w' fun y y_3 =>
 ∃ n_3 n_4 n_5,
 y = .returned (.tuple (Array.mk [.int .i64 n_3, .agg (Array.mk [.int .i64 n_4, .int .i64 n_5])])) ∧
 atW (y_3.alloc (Obj.cells (Array.mk [.int .i64 0, .int .i64 0]) 39)) fun w' =>
 stx w' (Addr.mk y_3.heap.size 0 none) [.int .i64 n_4, .int .i64 n_5] 0 fun w' =>
 Calls prog 19 (Array.mk [.pointer p, .int .i64 8]) w' fun y y_4 =>
 ∃ n_6 b,
 y = .returned (.tuple (Array.mk [.int .i64 n_6, .bool b])) ∧
 ifB (n == 0)
 (ifB (n_3 == 4)
 (∃ n,
 y_4.cell? ((Addr.mk y_2.heap.size 0 none).add 0) = some (.int .i64 n) ∧
 ∃ n_7,
 y_4.cell? ((Addr.mk y_2.heap.size 0 none).add 1) = some (.int .i64 n_7) ∧
 optx (eqV prog 9 39 (.agg (Array.mk [.int .i64 n, .int .i64 n_7])) (.agg (Array.mk [.int .i64 0, .int .i64 0]))) fun r =>
 ifB r
 (∃ n,
 y_4.cell? ((Addr.mk y_3.heap.size 0 none).add 0) = some (.int .i64 n) ∧
 ∃ n_8,
 y_4.cell? ((Addr.mk y_3.heap.size 0 none).add 1) = some (.int .i64 n_8) ∧
 optx (eqV prog 9 39 (.agg (Array.mk [.int .i64 n, .int .i64 n_8])) (.agg (Array.mk [.int .i64 0, .int .i64 0])))
 fun r => ifB r (ifB b (R (.bool (n_6 == 100)) y_4) (R (.bool false) y_4)) (R (.bool false) y_4))
 (R (.bool false) y_4))
 (R (.bool false) y_4))
 (R (.bool false) y_4)

theorem S11_eq  (w : World) (R : Value → World → Prop) : funX Go.Proofs.Tryz.prog 11 ⟨[], [], [(7, [(0, .bool)])]⟩ [] w R = S11  w R := by kernel_rfl

end Go.Wx
end
section
/- WRITTEN BY A PROGRAM (wip/gen): what each function's code asks for, by the framework's precondition, in short form; each is checked by the kernel to be that precondition. -/
set_option maxRecDepth 100000
set_option linter.unusedVariables false
namespace Go.Wx
open Go Proofs.Tryz

/-- hearth/hearthlaw8.plays -/
def S10 (n0 : Int) (n1 : Int) (s2 : Option Addr) (l2 c2 : Nat) (n3 : Int) (n4 : Int) (w : World) (R : Value → World → Prop) : Prop :=
 JoinX (Bool × Unit)
 (fun K =>
 Calls prog 11 (Array.mk []) w fun y y_1 =>
 ∃ b,
 y = .returned (.bool b) ∧
 ifB (!b) (Calls prog 11 (Array.mk []) y_1 fun y y_2 => ∃ b, y = .returned (.bool b) ∧ R (.bool b) y_2)
 (Calls prog 12 (Array.mk [.slice s2 l2 c2]) y_1 fun y y_2 =>
 ∃ b, y = .returned (.bool b) ∧ ifB (!b) (Calls prog 11 (Array.mk []) y_2 fun y y_3 => ∃ b, y = .returned (.bool b) ∧ R (.bool b) y_3) (K (false, ()) y_2)))
 fun s w' =>
 Calls prog 13 (Array.mk [.int .i64 n0]) w' fun y y_1 =>
 ∃ p b,
 y = .returned (.tuple (Array.mk [.pointer p, .bool b])) ∧
 Calls prog 13 (Array.mk [.int .i64 n1]) y_1 fun y y_2 =>
 ∃ p_1 b_1,
 y = .returned (.tuple (Array.mk [.pointer p_1, .bool b_1])) ∧
 JoinX (Bool × Unit)
 (fun K =>
 ifB (!b) (ifB b (R (.bool b_1) y_2) (R (.bool false) y_2))
 (ifB (!b_1) (ifB b (R (.bool b_1) y_2) (R (.bool false) y_2))
 (ifB p.isNone (ifB b (R (.bool b_1) y_2) (R (.bool false) y_2)) (ifB p_1.isNone (ifB b (R (.bool b_1) y_2) (R (.bool false) y_2)) (K (s.fst, ()) y_2)))))
 fun s w' =>
 LoopX (Bool × Int × Unit)
 (fun s w K =>
 JoinX Unit
 (fun K =>
 ifB (decide (s.snd.fst < (↑l2 : Int)))
 (ifB (decide (s.snd.fst < 120)) (K () w)
 (Calls prog 16 (Array.mk [.pointer p]) w fun y y_3 =>
 ∃ b,
 y = .returned (.bool b) ∧
 ifB b (Calls prog 16 (Array.mk [.pointer p_1]) y_3 fun y y_4 => ∃ b, y = .returned (.bool b) ∧ R (.bool b) y_4) (R (.bool false) y_3)))
 (Calls prog 16 (Array.mk [.pointer p]) w fun y y_3 =>
 ∃ b,
 y = .returned (.bool b) ∧ ifB b (Calls prog 16 (Array.mk [.pointer p_1]) y_3 fun y y_4 => ∃ b, y = .returned (.bool b) ∧ R (.bool b) y_4) (R (.bool false) y_3)))
 fun s_1 w' =>
 nilx s2 fun a =>
 (0 ≤ s.snd.fst ∧ s.snd.fst < (↑l2 : Int)) ∧
 ∃ n,
 w'.cell? ((a.add (Int.toNat s.snd.fst * 6)).add 0) = some (.int .i64 n) ∧
 ∃ n_1,
 w'.cell? ((a.add (Int.toNat s.snd.fst * 6)).add 1) = some (.int .i64 n_1) ∧
 ∃ n_2,
 w'.cell? ((a.add (Int.toNat s.snd.fst * 6)).add 2) = some (.int .i64 n_2) ∧
 ∃ n_3,
 w'.cell? ((a.add (Int.toNat s.snd.fst * 6)).add 3) = some (.int .i64 n_3) ∧
 ∃ n_4,
 w'.cell? ((a.add (Int.toNat s.snd.fst * 6)).add 4) = some (.int .i64 n_4) ∧
 ∃ a_1 l c,
 w'.cell? ((a.add (Int.toNat s.snd.fst * 6)).add 5) = some (.slice a_1 l c) ∧
 atW (w'.alloc (Obj.cells (Array.mk [.int .i64 0, .int .i64 0, .int .i64 0, .int .i64 0, .int .i64 0, .slice none 0 0]) 32))
 fun w'_1 =>
 stx w'_1 (Addr.mk w'.heap.size 0 none)
 [.int .i64 n, .int .i64 n_1, .int .i64 n_2, .int .i64 n_3, .int .i64 n_4, .slice a_1 l c] 0 fun w'_2 =>
 JoinX (Option Addr × Unit)
 (fun K =>
 ∃ n,
 w'_2.cell? ((Addr.mk w'.heap.size 0 none).add 0) = some (.int .i64 n) ∧
 ifB (IntKind.i64.wrap (↑(BitVec.ofInt 64 n &&& BitVec.ofInt 64 1).toNat : Int) == 1) (K (p_1, ()) w'_2) (K (p, ()) w'_2))
 fun s_2 w'_3 =>
 JoinX (Bool × Unit)
 (fun K =>
 ∃ n,
 w'_3.cell? ((Addr.mk w'.heap.size 0 none).add 1) = some (.int .i64 n) ∧
 ifB (decide (n ≥ 1)) (∃ n, w'_3.cell? ((Addr.mk w'.heap.size 0 none).add 1) = some (.int .i64 n) ∧ K (decide (n ≤ 7), ()) w'_3) (K (false, ()) w'_3))
 fun s_3 w'_4 =>
 ifB s_3.fst
 (∃ n,
 w'_4.cell? ((Addr.mk w'.heap.size 0 none).add 0) = some (.int .i64 n) ∧
 ∃ n_5,
 w'_4.cell? ((Addr.mk w'.heap.size 0 none).add 1) = some (.int .i64 n_5) ∧
 ∃ n_6,
 w'_4.cell? ((Addr.mk w'.heap.size 0 none).add 2) = some (.int .i64 n_6) ∧
 ∃ n_7,
 w'_4.cell? ((Addr.mk w'.heap.size 0 none).add 3) = some (.int .i64 n_7) ∧
 ∃ n_8,
 w'_4.cell? ((Addr.mk w'.heap.size 0 none).add 4) = some (.int .i64 n_8) ∧
 ∃ a l c,
 w'_4.cell? ((Addr.mk w'.heap.size 0 none).add 5) = some (.slice a l c) ∧
 Calls prog 14
 (Array.mk
 [.pointer s_2.fst,
 .agg
 (Array.mk
 [.int .i64 n, .int .i64 n_5, .int .i64 n_6, .int .i64 n_7, .int .i64 n_8,
 .slice a l c])])
 w'_4 fun y y_3 => ∃ b, y = .returned (.bool b) ∧ ifB (!b) (R (.bool false) y_3) (K (s.fst, IntKind.i64.wrap (s.snd.fst + 1), ()) y_3))
 (∃ n,
 w'_4.cell? ((Addr.mk w'.heap.size 0 none).add 1) = some (.int .i64 n) ∧
 ifB (decide (n ≥ n3))
 (∃ n,
 w'_4.cell? ((Addr.mk w'.heap.size 0 none).add 1) = some (.int .i64 n) ∧
 ifB (decide (n ≤ n4))
 (∃ n,
 w'_4.cell? ((Addr.mk w'.heap.size 0 none).add 0) = some (.int .i64 n) ∧
 ∃ n_5,
 w'_4.cell? ((Addr.mk w'.heap.size 0 none).add 1) = some (.int .i64 n_5) ∧
 ∃ n_6,
 w'_4.cell? ((Addr.mk w'.heap.size 0 none).add 2) = some (.int .i64 n_6) ∧
 ∃ n_7,
 w'_4.cell? ((Addr.mk w'.heap.size 0 none).add 3) = some (.int .i64 n_7) ∧
 ∃ n_8,
 w'_4.cell? ((Addr.mk w'.heap.size 0 none).add 4) = some (.int .i64 n_8) ∧
 ∃ a l c,
 w'_4.cell? ((Addr.mk w'.heap.size 0 none).add 5) = some (.slice a l c) ∧
 Calls prog 15
 (Array.mk
 [.pointer s_2.fst,
 .agg
 (Array.mk
 [.int .i64 n, .int .i64 n_5, .int .i64 n_6, .int .i64 n_7, .int .i64 n_8,
 .slice a l c])])
 w'_4 fun y y_3 =>
 ∃ b, y = .returned (.bool b) ∧ ifB (!b) (R (.bool false) y_3) (K (s.fst, IntKind.i64.wrap (s.snd.fst + 1), ()) y_3))
 (K (s.fst, IntKind.i64.wrap (s.snd.fst + 1), ()) w'_4))
 (K (s.fst, IntKind.i64.wrap (s.snd.fst + 1), ()) w'_4)))
 (s.fst, 0, ()) w'

theorem S10_eq (n0 : Int) (n1 : Int) (s2 : Option Addr) (l2 c2 : Nat) (n3 : Int) (n4 : Int) (w : World) (R : Value → World → Prop) : funX Go.Proofs.Tryz.prog 10 ⟨[], [(506, [(10, .bool), (15, .int .i64)])], [(3, [(10, .bool)]), (31, [(10, .bool)]), (1012, []), (32403, [(17, .ptr)]), (518460, [(75, .bool)])]⟩ [(.int .i64 n0), (.int .i64 n1), (.slice s2 l2 c2), (.int .i64 n3), (.int .i64 n4)] w R = S10 n0 n1 s2 l2 c2 n3 n4 w R := by kernel_rfl

end Go.Wx
end
section
/- WRITTEN BY A PROGRAM (wip/gen): the entries' preconditions. -/
set_option maxRecDepth 100000
set_option linter.unusedVariables false
namespace Go.Wx
open Go Proofs.Tryz

/-- hearth/hearthlaw8.SpaceTakes -/
def S3 (n0 : Int) (n1 : Int) (s2 : Option Addr) (l2 c2 : Nat) (w : World) (R : Value → World → Prop) : Prop :=
 Calls prog 10 (Array.mk [.int .i64 n0, .int .i64 n1, .slice s2 l2 c2, .int .i64 10, .int .i64 10]) w fun y y_1 =>
 ∃ b, y = .returned (.bool b) ∧ R (.bool b) y_1

theorem S3_eq (n0 : Int) (n1 : Int) (s2 : Option Addr) (l2 c2 : Nat) (w : World) (R : Value → World → Prop) : funX Go.Proofs.Tryz.prog 3 ⟨[], [], []⟩ [(.int .i64 n0), (.int .i64 n1), (.slice s2 l2 c2)] w R = S3 n0 n1 s2 l2 c2 w R := by kernel_rfl

/-- hearth/hearthlaw8.SpaceWords -/
def S4 (n0 : Int) (n1 : Int) (s2 : Option Addr) (l2 c2 : Nat) (w : World) (R : Value → World → Prop) : Prop :=
 Calls prog 10 (Array.mk [.int .i64 n0, .int .i64 n1, .slice s2 l2 c2, .int .i64 10, .int .i64 13]) w fun y y_1 =>
 ∃ b, y = .returned (.bool b) ∧ R (.bool b) y_1

theorem S4_eq (n0 : Int) (n1 : Int) (s2 : Option Addr) (l2 c2 : Nat) (w : World) (R : Value → World → Prop) : funX Go.Proofs.Tryz.prog 4 ⟨[], [], []⟩ [(.int .i64 n0), (.int .i64 n1), (.slice s2 l2 c2)] w R = S4 n0 n1 s2 l2 c2 w R := by kernel_rfl

/-- hearth/hearthlaw8.SpaceFits -/
def S5 (n0 : Int) (n1 : Int) (s2 : Option Addr) (l2 c2 : Nat) (w : World) (R : Value → World → Prop) : Prop :=
 Calls prog 10 (Array.mk [.int .i64 n0, .int .i64 n1, .slice s2 l2 c2, .int .i64 14, .int .i64 14]) w fun y y_1 =>
 ∃ b, y = .returned (.bool b) ∧ R (.bool b) y_1

theorem S5_eq (n0 : Int) (n1 : Int) (s2 : Option Addr) (l2 c2 : Nat) (w : World) (R : Value → World → Prop) : funX Go.Proofs.Tryz.prog 5 ⟨[], [], []⟩ [(.int .i64 n0), (.int .i64 n1), (.slice s2 l2 c2)] w R = S5 n0 n1 s2 l2 c2 w R := by kernel_rfl

/-- hearth/hearthlaw8.SpaceFinds -/
def S6 (n0 : Int) (n1 : Int) (s2 : Option Addr) (l2 c2 : Nat) (w : World) (R : Value → World → Prop) : Prop :=
 Calls prog 10 (Array.mk [.int .i64 n0, .int .i64 n1, .slice s2 l2 c2, .int .i64 15, .int .i64 17]) w fun y y_1 =>
 ∃ b, y = .returned (.bool b) ∧ R (.bool b) y_1

theorem S6_eq (n0 : Int) (n1 : Int) (s2 : Option Addr) (l2 c2 : Nat) (w : World) (R : Value → World → Prop) : funX Go.Proofs.Tryz.prog 6 ⟨[], [], []⟩ [(.int .i64 n0), (.int .i64 n1), (.slice s2 l2 c2)] w R = S6 n0 n1 s2 l2 c2 w R := by kernel_rfl

/-- hearth/hearthlaw8.SpaceWrongs -/
def S7 (n0 : Int) (n1 : Int) (s2 : Option Addr) (l2 c2 : Nat) (w : World) (R : Value → World → Prop) : Prop :=
 Calls prog 10 (Array.mk [.int .i64 n0, .int .i64 n1, .slice s2 l2 c2, .int .i64 18, .int .i64 18]) w fun y y_1 =>
 ∃ b, y = .returned (.bool b) ∧ R (.bool b) y_1

theorem S7_eq (n0 : Int) (n1 : Int) (s2 : Option Addr) (l2 c2 : Nat) (w : World) (R : Value → World → Prop) : funX Go.Proofs.Tryz.prog 7 ⟨[], [], []⟩ [(.int .i64 n0), (.int .i64 n1), (.slice s2 l2 c2)] w R = S7 n0 n1 s2 l2 c2 w R := by kernel_rfl

/-- hearth/hearthlaw8.SpaceDumps -/
def S8 (n0 : Int) (n1 : Int) (s2 : Option Addr) (l2 c2 : Nat) (w : World) (R : Value → World → Prop) : Prop :=
 Calls prog 10 (Array.mk [.int .i64 n0, .int .i64 n1, .slice s2 l2 c2, .int .i64 19, .int .i64 20]) w fun y y_1 =>
 ∃ b, y = .returned (.bool b) ∧ R (.bool b) y_1

theorem S8_eq (n0 : Int) (n1 : Int) (s2 : Option Addr) (l2 c2 : Nat) (w : World) (R : Value → World → Prop) : funX Go.Proofs.Tryz.prog 8 ⟨[], [], []⟩ [(.int .i64 n0), (.int .i64 n1), (.slice s2 l2 c2)] w R = S8 n0 n1 s2 l2 c2 w R := by kernel_rfl

/-- hearth/hearthlaw8.SpaceAll -/
def S9 (n0 : Int) (n1 : Int) (s2 : Option Addr) (l2 c2 : Nat) (w : World) (R : Value → World → Prop) : Prop :=
 Calls prog 10 (Array.mk [.int .i64 n0, .int .i64 n1, .slice s2 l2 c2, .int .i64 10, .int .i64 20]) w fun y y_1 =>
 ∃ b, y = .returned (.bool b) ∧ R (.bool b) y_1

theorem S9_eq (n0 : Int) (n1 : Int) (s2 : Option Addr) (l2 c2 : Nat) (w : World) (R : Value → World → Prop) : funX Go.Proofs.Tryz.prog 9 ⟨[], [], []⟩ [(.int .i64 n0), (.int .i64 n1), (.slice s2 l2 c2)] w R = S9 n0 n1 s2 l2 c2 w R := by kernel_rfl

end Go.Wx
end
section
/- WRITTEN BY A PROGRAM (wip/gen), one argument turned: All's function, handed a function. -/
set_option maxRecDepth 100000
set_option linter.unusedVariables false
namespace Go.Wx
open Go Proofs.Tryz

/-- (*hearth/space.Space).All$1 -/
def S133F (g0 : Nat) (caps0 : Array Value) (p1 : Addr) (w : World) (R : Value → World → Prop) : Prop :=
 atW (w.alloc (Obj.cells (Array.mk [Value.func (Fn.func g0) (Array.mk []) caps0]) 126)) fun w' =>
  ∃ p,
   w'.cell? p1 = some (Value.pointer p) ∧
    nilx p fun a =>
     ∃ p,
      w'.cell? (a.add 2) = some (Value.pointer p) ∧
       Calls Proofs.Tryz.prog 91 (Array.mk [Value.pointer p]) w' fun y y_1 =>
        ∃ v,
         y = Ending.returned v ∧
          RangeX (Int × Unit) Proofs.Tryz.prog v (sargs [(11, SK.int IntKind.i64)])
           (fun l rc s w_1 K =>
            w_1.heap[l]? = some (Obj.loop rc) ∧
             atW (w_1.putObj l (recOf rc LoopState.busy none)) fun w' =>
              ∃ p,
               w'.cell? p1 = some (Value.pointer p) ∧
                Calls Proofs.Tryz.prog 70 (Array.mk [Value.pointer p, Value.int IntKind.i64 s.fst]) w' fun y y_2 =>
                 ∃ n n_1 n_2 n_3 n_4 b,
                  y =
                   Ending.returned
                    (Value.tuple (Array.mk [Value.agg (Array.mk [Value.int IntKind.i64 n, Value.int IntKind.i64 n_1, Value.int IntKind.i64 n_2, Value.int IntKind.i64 n_3, Value.int IntKind.i64 n_4]), Value.bool b])) ∧
                   atW (y_2.alloc (Obj.cells (Array.mk [Value.int IntKind.i64 0, Value.int IntKind.i64 0, Value.int IntKind.i64 0, Value.int IntKind.i64 0, Value.int IntKind.i64 0]) 106)) fun w' =>
                    stx w' (Addr.mk y_2.heap.size 0 none) [Value.int IntKind.i64 n, Value.int IntKind.i64 n_1, Value.int IntKind.i64 n_2, Value.int IntKind.i64 n_3, Value.int IntKind.i64 n_4] 0 fun w' =>
                     ∃ v,
                      w'.cell? (Addr.mk w.heap.size 0 none) = some v ∧
                       ∃ n,
                        w'.cell? ((Addr.mk y_2.heap.size 0 none).add 0) = some (Value.int IntKind.i64 n) ∧
                         ∃ n_5,
                          w'.cell? ((Addr.mk y_2.heap.size 0 none).add 1) = some (Value.int IntKind.i64 n_5) ∧
                           ∃ n_6,
                            w'.cell? ((Addr.mk y_2.heap.size 0 none).add 2) = some (Value.int IntKind.i64 n_6) ∧
                             ∃ n_7,
                              w'.cell? ((Addr.mk y_2.heap.size 0 none).add 3) = some (Value.int IntKind.i64 n_7) ∧
                               ∃ n_8,
                                w'.cell? ((Addr.mk y_2.heap.size 0 none).add 4) = some (Value.int IntKind.i64 n_8) ∧
                                 match v with
                                 | Value.func (Fn.func g) first caps =>
                                  ifB (okCallee Proofs.Tryz.prog g)
                                   (Calls Proofs.Tryz.prog g
                                    (Array.mk
                                     (first.toList ++
                                      [Value.agg (Array.mk [Value.int IntKind.i64 n, Value.int IntKind.i64 n_5, Value.int IntKind.i64 n_6, Value.int IntKind.i64 n_7, Value.int IntKind.i64 n_8])] ++
                                      caps.toList))
                                    w' fun y y_3 =>
                                    match resKs Proofs.Tryz.prog g with
                                    | [k] =>
                                     match k, fun v =>
                                      y = Ending.returned v ∧
                                       match UnOp.not, v with
                                       | UnOp.not, Value.bool b => ifB (!b) (K Exit.ret y_3) (K Exit.normal y_3)
                                       | UnOp.neg, Value.int k n => False
                                       | UnOp.xor, Value.int k n => False
                                       | x, x_1 => False with
                                     | VK.leaf l, K =>
                                      match l, fun y => K y with
                                      | LK.int k, K => ∃ n, K (Value.int k n)
                                      | LK.bool, K => ∃ b, K (Value.bool b)
                                      | LK.ptr, K => ∃ p, K (Value.pointer p)
                                      | LK.slice, K => ∃ a l c, K (Value.slice a l c)
                                      | LK.map, K => ∃ r, K (Value.map r)
                                      | LK.float k, K => ∃ n, K (Value.float k n)
                                      | LK.str, K => ∃ s, K (Value.string s)
                                      | LK.any, K => ∃ v, K v
                                     | VK.agg ls, K => exLs ls fun vs => K (Value.agg (Array.mk vs))
                                    | ks => exVs ks fun vs => y = Ending.returned (Value.tuple (Array.mk vs)) ∧ False)
                                   False
                                 | f =>
                                  CallV Proofs.Tryz.prog f
                                   [Value.agg (Array.mk [Value.int IntKind.i64 n, Value.int IntKind.i64 n_5, Value.int IntKind.i64 n_6, Value.int IntKind.i64 n_7, Value.int IntKind.i64 n_8])] w' fun y y_3 =>
                                   ∃ b, y = Ending.returned (Value.bool b) ∧ ifB (!b) (K Exit.ret y_3) (K Exit.normal y_3))
           y_1 [(Code.ret, fun w' => w'.heap[y_1.heap.size]? = some (Obj.deferred (some [])) ∧ R (Value.tuple (Array.mk [])) (w'.putObj y_1.heap.size (Obj.deferred none)))] fun w' =>
           w'.heap[y_1.heap.size]? = some (Obj.deferred (some [])) ∧ R (Value.tuple (Array.mk [])) (w'.putObj y_1.heap.size (Obj.deferred none))

theorem S133F_eq (g0 : Nat) (caps0 : Array Value) (p1 : Addr) (w : World) (R : Value → World → Prop) : funX Go.Proofs.Tryz.prog 133 ⟨[], [(14, [(11, .int .i64)])], []⟩ [(.func (.func g0) #[] caps0), (.pointer (some p1))] w R = S133F g0 caps0 p1 w R := by kernel_rfl

end Go.Wx
end
