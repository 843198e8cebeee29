/- Own text, merged out of small ones: WsA WsB WsC WsD WsE WsF WsG WsH WsI: the framework, the preconditions and the contracts on which the claim rests (no conditions of its own). -/
import Derived.Test.YtagbnjkichocbaaGreatDoorLa
import Derived.Test.YtagbnjkichocbaaGreatDoorProg
import Derived.KernelRfl
section
/- WRITTEN BY A PROGRAM (wip/gen): what each function's code asks for, by the framework's precondition, in short form; each is checked by the kernel to be that precondition. -/
set_option maxRecDepth 100000
set_option linter.unusedVariables false
namespace Go.Wx
open Go Proofs.Tryz

/-- math/bits.OnesCount64 -/
def S146 (n0 : Int) (w : World) (R : Value → World → Prop) : Prop :=
 R
 (.int .i64
 (IntKind.i64.wrap
 (↑(BitVec.ofInt 64
 (IntKind.i64.wrap
 (IntKind.u64.wrap
 (IntKind.u64.wrap
 (IntKind.u64.wrap
 (IntKind.u64.wrap
 (↑(BitVec.ofInt 64
 (IntKind.u64.wrap
 ((IntKind.u64.wrap
 (IntKind.u64.wrap
 (↑(BitVec.ofInt 64
 ((IntKind.u64.wrap
 (IntKind.u64.wrap (↑(BitVec.ofInt 64 (n0.fdiv 2) &&& BitVec.ofInt 64 6148914691236517205).toNat : Int) +
 IntKind.u64.wrap (↑(BitVec.ofInt 64 n0 &&& BitVec.ofInt 64 6148914691236517205).toNat : Int))).fdiv
 4) &&&
 BitVec.ofInt 64 3689348814741910323).toNat :
 Int) +
 IntKind.u64.wrap
 (↑(BitVec.ofInt 64
 (IntKind.u64.wrap
 (IntKind.u64.wrap (↑(BitVec.ofInt 64 (n0.fdiv 2) &&& BitVec.ofInt 64 6148914691236517205).toNat : Int) +
 IntKind.u64.wrap (↑(BitVec.ofInt 64 n0 &&& BitVec.ofInt 64 6148914691236517205).toNat : Int))) &&&
 BitVec.ofInt 64 3689348814741910323).toNat :
 Int))).fdiv
 16 +
 IntKind.u64.wrap
 (IntKind.u64.wrap
 (↑(BitVec.ofInt 64
 ((IntKind.u64.wrap
 (IntKind.u64.wrap (↑(BitVec.ofInt 64 (n0.fdiv 2) &&& BitVec.ofInt 64 6148914691236517205).toNat : Int) +
 IntKind.u64.wrap (↑(BitVec.ofInt 64 n0 &&& BitVec.ofInt 64 6148914691236517205).toNat : Int))).fdiv
 4) &&&
 BitVec.ofInt 64 3689348814741910323).toNat :
 Int) +
 IntKind.u64.wrap
 (↑(BitVec.ofInt 64
 (IntKind.u64.wrap
 (IntKind.u64.wrap (↑(BitVec.ofInt 64 (n0.fdiv 2) &&& BitVec.ofInt 64 6148914691236517205).toNat : Int) +
 IntKind.u64.wrap (↑(BitVec.ofInt 64 n0 &&& BitVec.ofInt 64 6148914691236517205).toNat : Int))) &&&
 BitVec.ofInt 64 3689348814741910323).toNat :
 Int)))) &&&
 BitVec.ofInt 64 1085102592571150095).toNat :
 Int) +
 (IntKind.u64.wrap
 (↑(BitVec.ofInt 64
 (IntKind.u64.wrap
 ((IntKind.u64.wrap
 (IntKind.u64.wrap
 (↑(BitVec.ofInt 64
 ((IntKind.u64.wrap
 (IntKind.u64.wrap (↑(BitVec.ofInt 64 (n0.fdiv 2) &&& BitVec.ofInt 64 6148914691236517205).toNat : Int) +
 IntKind.u64.wrap (↑(BitVec.ofInt 64 n0 &&& BitVec.ofInt 64 6148914691236517205).toNat : Int))).fdiv
 4) &&&
 BitVec.ofInt 64 3689348814741910323).toNat :
 Int) +
 IntKind.u64.wrap
 (↑(BitVec.ofInt 64
 (IntKind.u64.wrap
 (IntKind.u64.wrap (↑(BitVec.ofInt 64 (n0.fdiv 2) &&& BitVec.ofInt 64 6148914691236517205).toNat : Int) +
 IntKind.u64.wrap (↑(BitVec.ofInt 64 n0 &&& BitVec.ofInt 64 6148914691236517205).toNat : Int))) &&&
 BitVec.ofInt 64 3689348814741910323).toNat :
 Int))).fdiv
 16 +
 IntKind.u64.wrap
 (IntKind.u64.wrap
 (↑(BitVec.ofInt 64
 ((IntKind.u64.wrap
 (IntKind.u64.wrap (↑(BitVec.ofInt 64 (n0.fdiv 2) &&& BitVec.ofInt 64 6148914691236517205).toNat : Int) +
 IntKind.u64.wrap (↑(BitVec.ofInt 64 n0 &&& BitVec.ofInt 64 6148914691236517205).toNat : Int))).fdiv
 4) &&&
 BitVec.ofInt 64 3689348814741910323).toNat :
 Int) +
 IntKind.u64.wrap
 (↑(BitVec.ofInt 64
 (IntKind.u64.wrap
 (IntKind.u64.wrap (↑(BitVec.ofInt 64 (n0.fdiv 2) &&& BitVec.ofInt 64 6148914691236517205).toNat : Int) +
 IntKind.u64.wrap (↑(BitVec.ofInt 64 n0 &&& BitVec.ofInt 64 6148914691236517205).toNat : Int))) &&&
 BitVec.ofInt 64 3689348814741910323).toNat :
 Int)))) &&&
 BitVec.ofInt 64 1085102592571150095).toNat :
 Int)).fdiv
 256) +
 (IntKind.u64.wrap
 (IntKind.u64.wrap
 (↑(BitVec.ofInt 64
 (IntKind.u64.wrap
 ((IntKind.u64.wrap
 (IntKind.u64.wrap
 (↑(BitVec.ofInt 64
 ((IntKind.u64.wrap
 (IntKind.u64.wrap (↑(BitVec.ofInt 64 (n0.fdiv 2) &&& BitVec.ofInt 64 6148914691236517205).toNat : Int) +
 IntKind.u64.wrap (↑(BitVec.ofInt 64 n0 &&& BitVec.ofInt 64 6148914691236517205).toNat : Int))).fdiv
 4) &&&
 BitVec.ofInt 64 3689348814741910323).toNat :
 Int) +
 IntKind.u64.wrap
 (↑(BitVec.ofInt 64
 (IntKind.u64.wrap
 (IntKind.u64.wrap (↑(BitVec.ofInt 64 (n0.fdiv 2) &&& BitVec.ofInt 64 6148914691236517205).toNat : Int) +
 IntKind.u64.wrap (↑(BitVec.ofInt 64 n0 &&& BitVec.ofInt 64 6148914691236517205).toNat : Int))) &&&
 BitVec.ofInt 64 3689348814741910323).toNat :
 Int))).fdiv
 16 +
 IntKind.u64.wrap
 (IntKind.u64.wrap
 (↑(BitVec.ofInt 64
 ((IntKind.u64.wrap
 (IntKind.u64.wrap (↑(BitVec.ofInt 64 (n0.fdiv 2) &&& BitVec.ofInt 64 6148914691236517205).toNat : Int) +
 IntKind.u64.wrap (↑(BitVec.ofInt 64 n0 &&& BitVec.ofInt 64 6148914691236517205).toNat : Int))).fdiv
 4) &&&
 BitVec.ofInt 64 3689348814741910323).toNat :
 Int) +
 IntKind.u64.wrap
 (↑(BitVec.ofInt 64
 (IntKind.u64.wrap
 (IntKind.u64.wrap (↑(BitVec.ofInt 64 (n0.fdiv 2) &&& BitVec.ofInt 64 6148914691236517205).toNat : Int) +
 IntKind.u64.wrap (↑(BitVec.ofInt 64 n0 &&& BitVec.ofInt 64 6148914691236517205).toNat : Int))) &&&
 BitVec.ofInt 64 3689348814741910323).toNat :
 Int)))) &&&
 BitVec.ofInt 64 1085102592571150095).toNat :
 Int) +
 (IntKind.u64.wrap
 (↑(BitVec.ofInt 64
 (IntKind.u64.wrap
 ((IntKind.u64.wrap
 (IntKind.u64.wrap
 (↑(BitVec.ofInt 64
 ((IntKind.u64.wrap
 (IntKind.u64.wrap (↑(BitVec.ofInt 64 (n0.fdiv 2) &&& BitVec.ofInt 64 6148914691236517205).toNat : Int) +
 IntKind.u64.wrap (↑(BitVec.ofInt 64 n0 &&& BitVec.ofInt 64 6148914691236517205).toNat : Int))).fdiv
 4) &&&
 BitVec.ofInt 64 3689348814741910323).toNat :
 Int) +
 IntKind.u64.wrap
 (↑(BitVec.ofInt 64
 (IntKind.u64.wrap
 (IntKind.u64.wrap (↑(BitVec.ofInt 64 (n0.fdiv 2) &&& BitVec.ofInt 64 6148914691236517205).toNat : Int) +
 IntKind.u64.wrap (↑(BitVec.ofInt 64 n0 &&& BitVec.ofInt 64 6148914691236517205).toNat : Int))) &&&
 BitVec.ofInt 64 3689348814741910323).toNat :
 Int))).fdiv
 16 +
 IntKind.u64.wrap
 (IntKind.u64.wrap
 (↑(BitVec.ofInt 64
 ((IntKind.u64.wrap
 (IntKind.u64.wrap (↑(BitVec.ofInt 64 (n0.fdiv 2) &&& BitVec.ofInt 64 6148914691236517205).toNat : Int) +
 IntKind.u64.wrap (↑(BitVec.ofInt 64 n0 &&& BitVec.ofInt 64 6148914691236517205).toNat : Int))).fdiv
 4) &&&
 BitVec.ofInt 64 3689348814741910323).toNat :
 Int) +
 IntKind.u64.wrap
 (↑(BitVec.ofInt 64
 (IntKind.u64.wrap
 (IntKind.u64.wrap (↑(BitVec.ofInt 64 (n0.fdiv 2) &&& BitVec.ofInt 64 6148914691236517205).toNat : Int) +
 IntKind.u64.wrap (↑(BitVec.ofInt 64 n0 &&& BitVec.ofInt 64 6148914691236517205).toNat : Int))) &&&
 BitVec.ofInt 64 3689348814741910323).toNat :
 Int)))) &&&
 BitVec.ofInt 64 1085102592571150095).toNat :
 Int)).fdiv
 256)).fdiv
 65536) +
 (IntKind.u64.wrap
 (IntKind.u64.wrap
 (IntKind.u64.wrap
 (↑(BitVec.ofInt 64
 (IntKind.u64.wrap
 ((IntKind.u64.wrap
 (IntKind.u64.wrap
 (↑(BitVec.ofInt 64
 ((IntKind.u64.wrap
 (IntKind.u64.wrap (↑(BitVec.ofInt 64 (n0.fdiv 2) &&& BitVec.ofInt 64 6148914691236517205).toNat : Int) +
 IntKind.u64.wrap (↑(BitVec.ofInt 64 n0 &&& BitVec.ofInt 64 6148914691236517205).toNat : Int))).fdiv
 4) &&&
 BitVec.ofInt 64 3689348814741910323).toNat :
 Int) +
 IntKind.u64.wrap
 (↑(BitVec.ofInt 64
 (IntKind.u64.wrap
 (IntKind.u64.wrap (↑(BitVec.ofInt 64 (n0.fdiv 2) &&& BitVec.ofInt 64 6148914691236517205).toNat : Int) +
 IntKind.u64.wrap (↑(BitVec.ofInt 64 n0 &&& BitVec.ofInt 64 6148914691236517205).toNat : Int))) &&&
 BitVec.ofInt 64 3689348814741910323).toNat :
 Int))).fdiv
 16 +
 IntKind.u64.wrap
 (IntKind.u64.wrap
 (↑(BitVec.ofInt 64
 ((IntKind.u64.wrap
 (IntKind.u64.wrap (↑(BitVec.ofInt 64 (n0.fdiv 2) &&& BitVec.ofInt 64 6148914691236517205).toNat : Int) +
 IntKind.u64.wrap (↑(BitVec.ofInt 64 n0 &&& BitVec.ofInt 64 6148914691236517205).toNat : Int))).fdiv
 4) &&&
 BitVec.ofInt 64 3689348814741910323).toNat :
 Int) +
 IntKind.u64.wrap
 (↑(BitVec.ofInt 64
 (IntKind.u64.wrap
 (IntKind.u64.wrap (↑(BitVec.ofInt 64 (n0.fdiv 2) &&& BitVec.ofInt 64 6148914691236517205).toNat : Int) +
 IntKind.u64.wrap (↑(BitVec.ofInt 64 n0 &&& BitVec.ofInt 64 6148914691236517205).toNat : Int))) &&&
 BitVec.ofInt 64 3689348814741910323).toNat :
 Int)))) &&&
 BitVec.ofInt 64 1085102592571150095).toNat :
 Int) +
 (IntKind.u64.wrap
 (↑(BitVec.ofInt 64
 (IntKind.u64.wrap
 ((IntKind.u64.wrap
 (IntKind.u64.wrap
 (↑(BitVec.ofInt 64
 ((IntKind.u64.wrap
 (IntKind.u64.wrap (↑(BitVec.ofInt 64 (n0.fdiv 2) &&& BitVec.ofInt 64 6148914691236517205).toNat : Int) +
 IntKind.u64.wrap (↑(BitVec.ofInt 64 n0 &&& BitVec.ofInt 64 6148914691236517205).toNat : Int))).fdiv
 4) &&&
 BitVec.ofInt 64 3689348814741910323).toNat :
 Int) +
 IntKind.u64.wrap
 (↑(BitVec.ofInt 64
 (IntKind.u64.wrap
 (IntKind.u64.wrap (↑(BitVec.ofInt 64 (n0.fdiv 2) &&& BitVec.ofInt 64 6148914691236517205).toNat : Int) +
 IntKind.u64.wrap (↑(BitVec.ofInt 64 n0 &&& BitVec.ofInt 64 6148914691236517205).toNat : Int))) &&&
 BitVec.ofInt 64 3689348814741910323).toNat :
 Int))).fdiv
 16 +
 IntKind.u64.wrap
 (IntKind.u64.wrap
 (↑(BitVec.ofInt 64
 ((IntKind.u64.wrap
 (IntKind.u64.wrap (↑(BitVec.ofInt 64 (n0.fdiv 2) &&& BitVec.ofInt 64 6148914691236517205).toNat : Int) +
 IntKind.u64.wrap (↑(BitVec.ofInt 64 n0 &&& BitVec.ofInt 64 6148914691236517205).toNat : Int))).fdiv
 4) &&&
 BitVec.ofInt 64 3689348814741910323).toNat :
 Int) +
 IntKind.u64.wrap
 (↑(BitVec.ofInt 64
 (IntKind.u64.wrap
 (IntKind.u64.wrap (↑(BitVec.ofInt 64 (n0.fdiv 2) &&& BitVec.ofInt 64 6148914691236517205).toNat : Int) +
 IntKind.u64.wrap (↑(BitVec.ofInt 64 n0 &&& BitVec.ofInt 64 6148914691236517205).toNat : Int))) &&&
 BitVec.ofInt 64 3689348814741910323).toNat :
 Int)))) &&&
 BitVec.ofInt 64 1085102592571150095).toNat :
 Int)).fdiv
 256) +
 (IntKind.u64.wrap
 (IntKind.u64.wrap
 (↑(BitVec.ofInt 64
 (IntKind.u64.wrap
 ((IntKind.u64.wrap
 (IntKind.u64.wrap
 (↑(BitVec.ofInt 64
 ((IntKind.u64.wrap
 (IntKind.u64.wrap (↑(BitVec.ofInt 64 (n0.fdiv 2) &&& BitVec.ofInt 64 6148914691236517205).toNat : Int) +
 IntKind.u64.wrap (↑(BitVec.ofInt 64 n0 &&& BitVec.ofInt 64 6148914691236517205).toNat : Int))).fdiv
 4) &&&
 BitVec.ofInt 64 3689348814741910323).toNat :
 Int) +
 IntKind.u64.wrap
 (↑(BitVec.ofInt 64
 (IntKind.u64.wrap
 (IntKind.u64.wrap (↑(BitVec.ofInt 64 (n0.fdiv 2) &&& BitVec.ofInt 64 6148914691236517205).toNat : Int) +
 IntKind.u64.wrap (↑(BitVec.ofInt 64 n0 &&& BitVec.ofInt 64 6148914691236517205).toNat : Int))) &&&
 BitVec.ofInt 64 3689348814741910323).toNat :
 Int))).fdiv
 16 +
 IntKind.u64.wrap
 (IntKind.u64.wrap
 (↑(BitVec.ofInt 64
 ((IntKind.u64.wrap
 (IntKind.u64.wrap (↑(BitVec.ofInt 64 (n0.fdiv 2) &&& BitVec.ofInt 64 6148914691236517205).toNat : Int) +
 IntKind.u64.wrap (↑(BitVec.ofInt 64 n0 &&& BitVec.ofInt 64 6148914691236517205).toNat : Int))).fdiv
 4) &&&
 BitVec.ofInt 64 3689348814741910323).toNat :
 Int) +
 IntKind.u64.wrap
 (↑(BitVec.ofInt 64
 (IntKind.u64.wrap
 (IntKind.u64.wrap (↑(BitVec.ofInt 64 (n0.fdiv 2) &&& BitVec.ofInt 64 6148914691236517205).toNat : Int) +
 IntKind.u64.wrap (↑(BitVec.ofInt 64 n0 &&& BitVec.ofInt 64 6148914691236517205).toNat : Int))) &&&
 BitVec.ofInt 64 3689348814741910323).toNat :
 Int)))) &&&
 BitVec.ofInt 64 1085102592571150095).toNat :
 Int) +
 (IntKind.u64.wrap
 (↑(BitVec.ofInt 64
 (IntKind.u64.wrap
 ((IntKind.u64.wrap
 (IntKind.u64.wrap
 (↑(BitVec.ofInt 64
 ((IntKind.u64.wrap
 (IntKind.u64.wrap (↑(BitVec.ofInt 64 (n0.fdiv 2) &&& BitVec.ofInt 64 6148914691236517205).toNat : Int) +
 IntKind.u64.wrap (↑(BitVec.ofInt 64 n0 &&& BitVec.ofInt 64 6148914691236517205).toNat : Int))).fdiv
 4) &&&
 BitVec.ofInt 64 3689348814741910323).toNat :
 Int) +
 IntKind.u64.wrap
 (↑(BitVec.ofInt 64
 (IntKind.u64.wrap
 (IntKind.u64.wrap (↑(BitVec.ofInt 64 (n0.fdiv 2) &&& BitVec.ofInt 64 6148914691236517205).toNat : Int) +
 IntKind.u64.wrap (↑(BitVec.ofInt 64 n0 &&& BitVec.ofInt 64 6148914691236517205).toNat : Int))) &&&
 BitVec.ofInt 64 3689348814741910323).toNat :
 Int))).fdiv
 16 +
 IntKind.u64.wrap
 (IntKind.u64.wrap
 (↑(BitVec.ofInt 64
 ((IntKind.u64.wrap
 (IntKind.u64.wrap (↑(BitVec.ofInt 64 (n0.fdiv 2) &&& BitVec.ofInt 64 6148914691236517205).toNat : Int) +
 IntKind.u64.wrap (↑(BitVec.ofInt 64 n0 &&& BitVec.ofInt 64 6148914691236517205).toNat : Int))).fdiv
 4) &&&
 BitVec.ofInt 64 3689348814741910323).toNat :
 Int) +
 IntKind.u64.wrap
 (↑(BitVec.ofInt 64
 (IntKind.u64.wrap
 (IntKind.u64.wrap (↑(BitVec.ofInt 64 (n0.fdiv 2) &&& BitVec.ofInt 64 6148914691236517205).toNat : Int) +
 IntKind.u64.wrap (↑(BitVec.ofInt 64 n0 &&& BitVec.ofInt 64 6148914691236517205).toNat : Int))) &&&
 BitVec.ofInt 64 3689348814741910323).toNat :
 Int)))) &&&
 BitVec.ofInt 64 1085102592571150095).toNat :
 Int)).fdiv
 256)).fdiv
 65536)).fdiv
 4294967296))) &&&
 BitVec.ofInt 64 127).toNat :
 Int)))
 w

theorem S146_eq (n0 : Int) (w : World) (R : Value → World → Prop) : funX Go.Proofs.Tryz.prog 146 ⟨[], [], []⟩ [(.int .u64 n0)] w R = S146 n0 w R := by kernel_rfl

/-- (*hearth/pages.Table).State -/
def S145 (p0 : Addr) (n1 : Int) (w : World) (R : Value → World → Prop) : Prop :=
 atW (w.alloc (Obj.cells (Array.mk [.int .i64 0, .int .i64 0, .int .i64 0]) 152)) fun w' =>
 JoinX (Bool × Unit)
 (fun K =>
 ifB (decide (n1 < 0))
 (stx w' (Addr.mk w.heap.size 0 none) [.int .i64 0, .int .i64 0, .int .i64 0] 0 fun w' =>
 ∃ n,
 w'.cell? ((Addr.mk w.heap.size 0 none).add 0) = some (.int .i64 n) ∧
 ∃ n_1,
 w'.cell? ((Addr.mk w.heap.size 0 none).add 1) = some (.int .i64 n_1) ∧
 ∃ n_2,
 w'.cell? ((Addr.mk w.heap.size 0 none).add 2) = some (.int .i64 n_2) ∧
 R (.tuple (Array.mk [.agg (Array.mk [.int .i64 n, .int .i64 n_1, .int .i64 n_2]), .bool false])) w')
 (∃ a l c,
 w'.cell? (p0.add 0) = some (.slice a l c) ∧
 ifB (decide (n1 ≥ (↑l : Int)))
 (stx w' (Addr.mk w.heap.size 0 none) [.int .i64 0, .int .i64 0, .int .i64 0] 0 fun w' =>
 ∃ n,
 w'.cell? ((Addr.mk w.heap.size 0 none).add 0) = some (.int .i64 n) ∧
 ∃ n_1,
 w'.cell? ((Addr.mk w.heap.size 0 none).add 1) = some (.int .i64 n_1) ∧
 ∃ n_2,
 w'.cell? ((Addr.mk w.heap.size 0 none).add 2) = some (.int .i64 n_2) ∧
 R (.tuple (Array.mk [.agg (Array.mk [.int .i64 n, .int .i64 n_1, .int .i64 n_2]), .bool false])) w')
 (K (false, ()) w')))
 fun s w' =>
 ∃ a l c,
 w'.cell? (p0.add 0) = some (.slice a l c) ∧
 nilx a fun a =>
 (0 ≤ n1 ∧ n1 < (↑l : Int)) ∧
 ∃ n,
 w'.cell? ((a.add (n1.toNat * 3)).add 0) = some (.int .i64 n) ∧
 ∃ n_1,
 w'.cell? ((a.add (n1.toNat * 3)).add 1) = some (.int .i64 n_1) ∧
 ∃ n_2,
 w'.cell? ((a.add (n1.toNat * 3)).add 2) = some (.int .i64 n_2) ∧
 stx w' (Addr.mk w.heap.size 0 none) [.int .i64 n, .int .i64 n_1, .int .i64 n_2] 0 fun w' =>
 ∃ n,
 w'.cell? ((Addr.mk w.heap.size 0 none).add 0) = some (.int .i64 n) ∧
 ∃ n_3,
 w'.cell? ((Addr.mk w.heap.size 0 none).add 1) = some (.int .i64 n_3) ∧
 ∃ n_4,
 w'.cell? ((Addr.mk w.heap.size 0 none).add 2) = some (.int .i64 n_4) ∧
 R (.tuple (Array.mk [.agg (Array.mk [.int .i64 n, .int .i64 n_3, .int .i64 n_4]), .bool true])) w'

theorem S145_eq (p0 : Addr) (n1 : Int) (w : World) (R : Value → World → Prop) : funX Go.Proofs.Tryz.prog 145 ⟨[], [], [(3, [(5, .bool)])]⟩ [(.pointer (some p0)), (.int .i64 n1)] w R = S145 p0 n1 w R := by kernel_rfl

/-- (*hearth/pages.Table).Give -/
def S144 (p0 : Addr) (n1 : Int) (w : World) (R : Value → World → Prop) : Prop :=
 JoinX (Int × Unit)
 (fun K =>
 ifB (decide (n1 < 0)) (R (.int .i64 1) w)
 (∃ a l c,
 w.cell? (p0.add 0) = some (.slice a l c) ∧
 ifB (decide (n1 ≥ (↑l : Int))) (R (.int .i64 1) w)
 (Calls prog 130 (Array.mk [.pointer (some p0), .int .i64 n1]) w fun y y_1 =>
 ∃ b,
 y = .returned (.bool b) ∧
 ifB b (R (.int .i64 1) y_1)
 (∃ a l c,
 y_1.cell? (p0.add 0) = some (.slice a l c) ∧
 nilx a fun a => (0 ≤ n1 ∧ n1 < (↑l : Int)) ∧ ∃ n, y_1.cell? ((a.add (n1.toNat * 3)).add 0) = some (.int .i64 n) ∧ ifB (n == 3) (R (.int .i64 1) y_1) (K (0, ()) y_1)))))
 fun s w' =>
 ∃ a l c,
 w'.cell? (p0.add 0) = some (.slice a l c) ∧
 nilx a fun a =>
 (0 ≤ n1 ∧ n1 < (↑l : Int)) ∧
 ∃ n,
 w'.cell? ((a.add (n1.toNat * 3)).add 2) = some (.int .i64 n) ∧
 ∃ a l c,
 w'.cell? (p0.add 0) = some (.slice a l c) ∧
 (0 ≤ IntKind.i64.wrap (n1 + if n > 1 then n else 1) ∧ IntKind.i64.wrap (n1 + if n > 1 then n else 1) ≤ (↑c : Int)) ∧
 (0 ≤ n1 ∧ n1 ≤ (↑(IntKind.i64.wrap (n1 + if n > 1 then n else 1)).toNat : Int)) ∧
 (match if c = n1.toNat then a else Option.map (fun x => x.add (n1.toNat * 3)) a with
 | some a => canWr w' a (((IntKind.i64.wrap (n1 + if n > 1 then n else 1)).toNat - n1.toNat) * 3)
 | none => (IntKind.i64.wrap (n1 + if n > 1 then n else 1)).toNat - n1.toNat = 0) ∧
 atW
 (match if c = n1.toNat then a else Option.map (fun x => x.add (n1.toNat * 3)) a with
 | some a => wrx w' a (zcells [.int .i64 0, .int .i64 0, .int .i64 0] ((IntKind.i64.wrap (n1 + if n > 1 then n else 1)).toNat - n1.toNat)) 0
 | none => w')
 fun w' =>
 ∃ n_1,
 w'.cell? (p0.add 2) = some (.int .i64 n_1) ∧
 stx w' (p0.add 2) [.int .i64 (IntKind.i64.wrap (n_1 + if n > 1 then n else 1))] 0 fun w' =>
 ∃ n, w'.cell? (p0.add 1) = some (.int .i64 n) ∧ stx w' (p0.add 1) [.int .i64 (if n1 < n then n1 else n)] 0 fun w' => R (.int .i64 0) w'

theorem S144_eq (p0 : Addr) (n1 : Int) (w : World) (R : Value → World → Prop) : funX Go.Proofs.Tryz.prog 144 ⟨[], [], [(3, [(4, .int .i64)])]⟩ [(.pointer (some p0)), (.int .i64 n1)] w R = S144 p0 n1 w R := by kernel_rfl

/-- hearth/hearthref5.sign -/
def S143 (n0 : Int) (w : World) (R : Value → World → Prop) : Prop :=
 LoopX (Int × Int × Int × Unit)
 (fun s w K =>
 ifB (decide (s.fst > 0))
 (JoinX (Int × Unit) (fun K => ifB (Int.tmod s.fst 2 == 1) (K ((IntKind.i64.wrap (s.snd.fst + s.snd.snd.fst)).tmod 17592186044416, ()) w) (K (s.snd.fst, ()) w)) fun s_1 w' =>
 K (IntKind.i64.wrap (Int.tdiv s.fst 2), s_1.fst, (IntKind.i64.wrap (s.snd.snd.fst + s.snd.snd.fst)).tmod 17592186044416, ()) w')
 (R (.int .i64 s.snd.fst) w))
 (n0, 0, 10872568911861, ()) w

theorem S143_eq (n0 : Int) (w : World) (R : Value → World → Prop) : funX Go.Proofs.Tryz.prog 143 ⟨[], [(60, [(0, .int .i64), (3, .int .i64), (4, .int .i64)])], [(482, [(3, .int .i64)])]⟩ [(.int .i64 n0)] w R = S143 n0 w R := by kernel_rfl

/-- hearth/hearthref5.good -/
def S142 (n0 : Int) (n1 : Int) (n2 : Int) (w : World) (R : Value → World → Prop) : Prop :=
 ifB (decide (n0 ≥ 0))
 (ifB (decide (n0 ≤ 262143)) (ifB (decide (n1 ≥ 1)) (ifB (decide (n1 ≤ 31)) (ifB (decide (n2 ≥ 1)) (R (.bool (decide (n2 ≤ 1024))) w) (R (.bool false) w)) (R (.bool false) w)) (R (.bool false) w))
 (R (.bool false) w))
 (R (.bool false) w)

theorem S142_eq (n0 : Int) (n1 : Int) (n2 : Int) (w : World) (R : Value → World → Prop) : funX Go.Proofs.Tryz.prog 142 ⟨[], [], []⟩ [(.int .i64 n0), (.int .i64 n1), (.int .i64 n2)] w R = S142 n0 n1 n2 w R := by kernel_rfl

/-- (*hearth/hearthref7.Table).row -/
def S141 (p0 : Addr) (n1 : Int) (w : World) (R : Value → World → Prop) : Prop :=
 LoopX (Int × Int × Int × Unit)
 (fun s w K =>
 ∃ a l c,
 w.cell? (p0.add 0) = some (.slice a l c) ∧
 ifB (decide (s.snd.snd.fst < (↑l : Int)))
 (∃ a l c,
 w.cell? (p0.add 0) = some (.slice a l c) ∧
 nilx a fun a =>
 (0 ≤ s.snd.snd.fst ∧ s.snd.snd.fst < (↑l : Int)) ∧
 ∃ n,
 w.cell? ((a.add (Int.toNat s.snd.snd.fst * 3)).add 0) = some (.int .i64 n) ∧
 ifB (n != 0) (K (s.fst, 0, IntKind.i64.wrap (s.snd.snd.fst + 1), ()) w)
 (ifB (IntKind.i64.wrap (s.snd.fst + 1) == n1) (R (.int .i64 (IntKind.i64.wrap (IntKind.i64.wrap (s.snd.snd.fst - n1) + 1))) w)
 (K (s.fst, IntKind.i64.wrap (s.snd.fst + 1), IntKind.i64.wrap (s.snd.snd.fst + 1), ()) w)))
 (R (.int .i64 (-1)) w))
 (0, 0, 0, ()) w

theorem S141_eq (p0 : Addr) (n1 : Int) (w : World) (R : Value → World → Prop) : funX Go.Proofs.Tryz.prog 141 ⟨[], [(58, [(4, .int .i64), (5, .int .i64), (6, .int .i64)])], []⟩ [(.pointer (some p0)), (.int .i64 n1)] w R = S141 p0 n1 w R := by kernel_rfl

/-- (*hearth/bitmap.Map).good -/
def S140 (p0 : Addr) (n1 : Int) (n2 : Int) (w : World) (R : Value → World → Prop) : Prop :=
 ifB (decide (n1 ≥ 0)) (∃ n, w.cell? (p0.add 0) = some (.int .i64 n) ∧ ifB (decide (n2 ≤ n)) (R (.bool (decide (n1 ≤ n2))) w) (R (.bool false) w)) (R (.bool false) w)

theorem S140_eq (p0 : Addr) (n1 : Int) (n2 : Int) (w : World) (R : Value → World → Prop) : funX Go.Proofs.Tryz.prog 140 ⟨[], [], []⟩ [(.pointer (some p0)), (.int .i64 n1), (.int .i64 n2)] w R = S140 p0 n1 n2 w R := by kernel_rfl

/-- (*hearth/bitmap.Map).ClearRange -/
def S139 (p0 : Addr) (n1 : Int) (n2 : Int) (w : World) (R : Value → World → Prop) : Prop :=
 Calls prog 140 (Array.mk [.pointer (some p0), .int .i64 n1, .int .i64 n2]) w fun y y_1 =>
 ∃ b,
 y = .returned (.bool b) ∧
 ifB (!b) (R (.int .i64 10) y_1)
 (LoopX (Int × Unit)
 (fun s w K =>
 ifB (decide (IntKind.i64.wrap (s.fst * 64) < n2))
 (∃ a l c,
 w.drew.cell? (p0.add 1) = some (.slice a l c) ∧
 nilx a fun a_1 =>
 (0 ≤ s.fst ∧ s.fst < (↑l : Int)) ∧
 ∃ n,
 w.drew.cell? (a_1.add (Int.toNat s.fst * 1)) = some (.int .u64 n) ∧
 Calls prog 136 (Array.mk [.int .i64 s.fst, .int .i64 n1, .int .i64 n2]) w.drew fun y y_2 =>
 ∃ n_1,
 y = .returned (.int .u64 n_1) ∧
 (∀ (b : Nat) (o : Obj), w.drew.heap[b]? = some o → y_2.heap[b]? = some o) ∧
 nilx a fun a =>
 (0 ≤ s.fst ∧ s.fst < (↑l : Int)) ∧
 stx y_2 (a.add (Int.toNat s.fst * 1)) [.int .u64 (IntKind.u64.wrap (↑(BitVec.ofInt 64 n &&& ~~~BitVec.ofInt 64 n_1).toNat : Int))] 0 fun w' => K (IntKind.i64.wrap (s.fst + 1), ()) w')
 (R (.int .i64 0) w))
 (IntKind.i64.wrap (n1.tdiv 64), ()) y_1)

theorem S139_eq (p0 : Addr) (n1 : Int) (n2 : Int) (w : World) (R : Value → World → Prop) : funX Go.Proofs.Tryz.prog 139 ⟨[(932, (.op 0 (.op 1 (.op 2 (.op 4 (.op 7 (.op 8 (.op 9 (.op 3 (.op 5 (.op 6 (.op 10 (.op 11 (.op 12 (.op 13 (.done)))))))))))))), [10]))], [(58, [(7, .int .i64)])], []⟩ [(.pointer (some p0)), (.int .i64 n1), (.int .i64 n2)] w R = S139 p0 n1 n2 w R := by kernel_rfl

/-- hearth/class.Start -/
def S138 (n0 : Int) (n1 : Int) (w : World) (R : Value → World → Prop) : Prop :=
 ifB (decide (n1 < 0)) (R (.int .i64 (-1)) w)
 (Calls prog 83 (Array.mk [.int .i64 n0]) w fun y y_1 =>
 ∃ n,
 y = .returned (.int .i64 n) ∧
 ifB (decide (n1 ≥ n)) (R (.int .i64 (-1)) y_1)
 (Calls prog 105 (Array.mk [.int .i64 n0]) y_1 fun y y_2 => ∃ n, y = .returned (.int .i64 n) ∧ R (.int .i64 (IntKind.i64.wrap (n1 * n))) y_2))

theorem S138_eq (n0 : Int) (n1 : Int) (w : World) (R : Value → World → Prop) : funX Go.Proofs.Tryz.prog 138 ⟨[], [], []⟩ [(.int .i64 n0), (.int .i64 n1)] w R = S138 n0 n1 w R := by kernel_rfl

/-- math/bits.TrailingZeros64 -/
def S137 (n0 : Int) (w : World) (R : Value → World → Prop) : Prop :=
 ifB (n0 == 0) (R (.int .i64 64) w)
 ((0 ≤ (IntKind.u64.wrap (IntKind.u64.wrap (↑(BitVec.ofInt 64 n0 &&& BitVec.ofInt 64 (IntKind.u64.wrap (0 - n0))).toNat : Int) * 285870213051353865)).fdiv 288230376151711744 ∧
 (IntKind.u64.wrap (IntKind.u64.wrap (↑(BitVec.ofInt 64 n0 &&& BitVec.ofInt 64 (IntKind.u64.wrap (0 - n0))).toNat : Int) * 285870213051353865)).fdiv 288230376151711744 < 64) ∧
 ∃ n,
 w.cell? ((Addr.mk 0 0 none).add (((IntKind.u64.wrap (IntKind.u64.wrap (↑(BitVec.ofInt 64 n0 &&& BitVec.ofInt 64 (IntKind.u64.wrap (0 - n0))).toNat : Int) * 285870213051353865)).fdiv 288230376151711744).toNat * 1)) =
 some (Value.int IntKind.u8 n) ∧
 R (.int .i64 (IntKind.i64.wrap n)) w)

theorem S137_eq (n0 : Int) (w : World) (R : Value → World → Prop) : funX Go.Proofs.Tryz.prog 137 ⟨[], [], []⟩ [(.int .u64 n0)] w R = S137 n0 w R := by kernel_rfl

/-- hearth/bitmap.part -/
def S136 (n0 : Int) (n1 : Int) (n2 : Int) (w : World) (R : Value → World → Prop) : Prop :=
 JoinX (Int × Unit)
 (fun K =>
 ifB (decide (n1 > IntKind.i64.wrap (n0 * 64)))
 (ifB (decide (IntKind.i64.wrap (n1 - IntKind.i64.wrap (n0 * 64)) < 0)) False (K (IntKind.u64.wrap (18446744073709551615 * 2 ^ min (IntKind.i64.wrap (n1 - IntKind.i64.wrap (n0 * 64))).toNat 64), ()) w))
 (K (18446744073709551615, ()) w))
 fun s w' =>
 ifB (decide (n2 < IntKind.i64.wrap (IntKind.i64.wrap (n0 * 64) + 64)))
 (ifB (decide (IntKind.i64.wrap (n2 - IntKind.i64.wrap (n0 * 64)) < 0)) False
 (R (.int .u64 (IntKind.u64.wrap (↑(BitVec.ofInt 64 s.fst &&& BitVec.ofInt 64 (IntKind.u64.wrap (IntKind.u64.wrap (1 * 2 ^ min (IntKind.i64.wrap (n2 - IntKind.i64.wrap (n0 * 64))).toNat 64) - 1))).toNat : Int))) w'))
 (R (.int .u64 s.fst) w')

theorem S136_eq (n0 : Int) (n1 : Int) (n2 : Int) (w : World) (R : Value → World → Prop) : funX Go.Proofs.Tryz.prog 136 ⟨[], [], [(7, [(7, .int .u64)])]⟩ [(.int .i64 n0), (.int .i64 n1), (.int .i64 n2)] w R = S136 n0 n1 n2 w R := by kernel_rfl

/-- hearth/value.Link -/
def S135 (n0 : Int) (w : World) (R : Value → World → Prop) : Prop :=
 ifB (decide (n0 < -1)) (R (.int .i64 0) w)
 (ifB (decide (n0 ≥ 262144)) (R (.int .i64 0) w) (R (.int .i64 (IntKind.i64.wrap (↑(BitVec.ofInt 64 (IntKind.i64.wrap (n0 * 8)) ||| BitVec.ofInt 64 4).toNat : Int))) w))

theorem S135_eq (n0 : Int) (w : World) (R : Value → World → Prop) : funX Go.Proofs.Tryz.prog 135 ⟨[], [], []⟩ [(.int .i64 n0)] w R = S135 n0 w R := by kernel_rfl

/-- (*hearth/bitmap.Map).All$1 -/
def S134 (y0 : Nat) (p1 : Addr) (w : World) (R : Value → World → Prop) : Prop :=
 ∃ p,
 w.cell? p1 = some (.pointer p) ∧
 Calls prog 99 (Array.mk [.pointer p, .int .i64 0]) w fun y y_1 =>
 ∃ n,
 y = .returned (.int .i64 n) ∧
 LoopX (Int × Unit)
 (fun s w K =>
 ifB (decide (s.fst ≥ 0))
 (CallV prog (Value.func (Fn.yield y0) (Array.mk []) (Array.mk [])) [.int .i64 s.fst] w fun y y_2 =>
 ∃ b,
 y = .returned (.bool b) ∧
 ifB (!b) (R (.tuple (Array.mk [])) y_2)
 (∃ p,
 y_2.cell? p1 = some (.pointer p) ∧
 Calls prog 99 (Array.mk [.pointer p, .int .i64 (IntKind.i64.wrap (s.fst + 1))]) y_2 fun y y_3 => ∃ n, y = .returned (.int .i64 n) ∧ K (n, ()) y_3))
 (R (.tuple (Array.mk [])) w))
 (n, ()) y_1

theorem S134_eq (y0 : Nat) (p1 : Addr) (w : World) (R : Value → World → Prop) : funX Go.Proofs.Tryz.prog 134 ⟨[], [(6, [(3, .int .i64)])], []⟩ [(.func (.yield y0) #[] #[]), (.pointer (some p1))] w R = S134 y0 p1 w R := by kernel_rfl

/-- (*hearth/space.Space).All$1 -/
def S133 (y0 : Nat) (p1 : Addr) (w : World) (R : Value → World → Prop) : Prop :=
 atW (w.alloc (Obj.cells (Array.mk [Value.func (Fn.yield y0) (Array.mk []) (Array.mk [])]) 126)) fun w' =>
  ∃ p,
   w'.cell? p1 = some (Value.pointer p) ∧
    nilx p fun a =>
     ∃ p,
      w'.cell? (a.add 2) = some (Value.pointer p) ∧
       Calls Proofs.Tryz.prog 91 (Array.mk [Value.pointer p]) w' fun y y_1 =>
        ∃ v,
         y = Ending.returned v ∧
          RangeX (Int × Unit) Proofs.Tryz.prog v (sargs [(11, SK.int IntKind.i64)])
           (fun l rc s w_1 K =>
            w_1.heap[l]? = some (Obj.loop rc) ∧
             atW (w_1.putObj l (recOf rc LoopState.busy none)) fun w' =>
              ∃ p,
               w'.cell? p1 = some (Value.pointer p) ∧
                Calls Proofs.Tryz.prog 70 (Array.mk [Value.pointer p, Value.int IntKind.i64 s.fst]) w' fun y y_2 =>
                 ∃ n n_1 n_2 n_3 n_4 b,
                  y =
                   Ending.returned
                    (Value.tuple (Array.mk [Value.agg (Array.mk [Value.int IntKind.i64 n, Value.int IntKind.i64 n_1, Value.int IntKind.i64 n_2, Value.int IntKind.i64 n_3, Value.int IntKind.i64 n_4]), Value.bool b])) ∧
                   atW (y_2.alloc (Obj.cells (Array.mk [Value.int IntKind.i64 0, Value.int IntKind.i64 0, Value.int IntKind.i64 0, Value.int IntKind.i64 0, Value.int IntKind.i64 0]) 106)) fun w' =>
                    stx w' (Addr.mk y_2.heap.size 0 none) [Value.int IntKind.i64 n, Value.int IntKind.i64 n_1, Value.int IntKind.i64 n_2, Value.int IntKind.i64 n_3, Value.int IntKind.i64 n_4] 0 fun w' =>
                     ∃ v,
                      w'.cell? (Addr.mk w.heap.size 0 none) = some v ∧
                       ∃ n,
                        w'.cell? ((Addr.mk y_2.heap.size 0 none).add 0) = some (Value.int IntKind.i64 n) ∧
                         ∃ n_5,
                          w'.cell? ((Addr.mk y_2.heap.size 0 none).add 1) = some (Value.int IntKind.i64 n_5) ∧
                           ∃ n_6,
                            w'.cell? ((Addr.mk y_2.heap.size 0 none).add 2) = some (Value.int IntKind.i64 n_6) ∧
                             ∃ n_7,
                              w'.cell? ((Addr.mk y_2.heap.size 0 none).add 3) = some (Value.int IntKind.i64 n_7) ∧
                               ∃ n_8,
                                w'.cell? ((Addr.mk y_2.heap.size 0 none).add 4) = some (Value.int IntKind.i64 n_8) ∧
                                 match v with
                                 | Value.func (Fn.func g) first caps =>
                                  ifB (okCallee Proofs.Tryz.prog g)
                                   (Calls Proofs.Tryz.prog g
                                    (Array.mk
                                     (first.toList ++
                                      [Value.agg (Array.mk [Value.int IntKind.i64 n, Value.int IntKind.i64 n_5, Value.int IntKind.i64 n_6, Value.int IntKind.i64 n_7, Value.int IntKind.i64 n_8])] ++
                                      caps.toList))
                                    w' fun y y_3 =>
                                    match resKs Proofs.Tryz.prog g with
                                    | [k] =>
                                     match k, fun v =>
                                      y = Ending.returned v ∧
                                       match UnOp.not, v with
                                       | UnOp.not, Value.bool b => ifB (!b) (K Exit.ret y_3) (K Exit.normal y_3)
                                       | UnOp.neg, Value.int k n => False
                                       | UnOp.xor, Value.int k n => False
                                       | x, x_1 => False with
                                     | VK.leaf l, K =>
                                      match l, fun y => K y with
                                      | LK.int k, K => ∃ n, K (Value.int k n)
                                      | LK.bool, K => ∃ b, K (Value.bool b)
                                      | LK.ptr, K => ∃ p, K (Value.pointer p)
                                      | LK.slice, K => ∃ a l c, K (Value.slice a l c)
                                      | LK.map, K => ∃ r, K (Value.map r)
                                      | LK.float k, K => ∃ n, K (Value.float k n)
                                      | LK.str, K => ∃ s, K (Value.string s)
                                      | LK.any, K => ∃ v, K v
                                     | VK.agg ls, K => exLs ls fun vs => K (Value.agg (Array.mk vs))
                                    | ks => exVs ks fun vs => y = Ending.returned (Value.tuple (Array.mk vs)) ∧ False)
                                   False
                                 | f =>
                                  CallV Proofs.Tryz.prog f
                                   [Value.agg (Array.mk [Value.int IntKind.i64 n, Value.int IntKind.i64 n_5, Value.int IntKind.i64 n_6, Value.int IntKind.i64 n_7, Value.int IntKind.i64 n_8])] w' fun y y_3 =>
                                   ∃ b, y = Ending.returned (Value.bool b) ∧ ifB (!b) (K Exit.ret y_3) (K Exit.normal y_3))
           y_1 [(Code.ret, fun w' => w'.heap[y_1.heap.size]? = some (Obj.deferred (some [])) ∧ R (Value.tuple (Array.mk [])) (w'.putObj y_1.heap.size (Obj.deferred none)))] fun w' =>
           w'.heap[y_1.heap.size]? = some (Obj.deferred (some [])) ∧ R (Value.tuple (Array.mk [])) (w'.putObj y_1.heap.size (Obj.deferred none))

theorem S133_eq (y0 : Nat) (p1 : Addr) (w : World) (R : Value → World → Prop) : funX Go.Proofs.Tryz.prog 133 ⟨[], [(14, [(11, .int .i64)])], []⟩ [(.func (.yield y0) #[] #[]), (.pointer (some p1))] w R = S133 y0 p1 w R := by kernel_rfl

/-- (*hearth/bitmap.Map).CountRange -/
def S132 (p0 : Addr) (n1 : Int) (n2 : Int) (w : World) (R : Value → World → Prop) : Prop :=
 ∃ n,
 w.cell? (p0.add 0) = some (.int .i64 n) ∧
 LoopX (Int × Int × Unit)
 (fun s w K =>
 JoinX Unit
 (fun K =>
 ifB (decide ((if 0 > n1 then 0 else n1) < if n < n2 then n else n2)) (ifB (decide (IntKind.i64.wrap (s.snd.fst * 64) < if n < n2 then n else n2)) (K () w) (R (.int .i64 s.fst) w)) (R (.int .i64 s.fst) w))
 fun s_1 w' =>
 ∃ a l c,
 w'.drew.cell? (p0.add 1) = some (.slice a l c) ∧
 nilx a fun a =>
 (0 ≤ s.snd.fst ∧ s.snd.fst < (↑l : Int)) ∧
 ∃ n_1,
 w'.drew.cell? (a.add (Int.toNat s.snd.fst * 1)) = some (.int .u64 n_1) ∧
 Calls prog 136 (Array.mk [.int .i64 s.snd.fst, .int .i64 (if 0 > n1 then 0 else n1), .int .i64 (if n < n2 then n else n2)]) w'.drew fun y y_1 =>
 ∃ n,
 y = .returned (.int .u64 n) ∧
 (∀ (b : Nat) (o : Obj), w'.drew.heap[b]? = some o → y_1.heap[b]? = some o) ∧
 Calls prog 146 (Array.mk [.int .u64 (IntKind.u64.wrap (↑(BitVec.ofInt 64 n_1 &&& BitVec.ofInt 64 n).toNat : Int))]) y_1 fun y y_2 =>
 ∃ n, y = .returned (.int .i64 n) ∧ K (IntKind.i64.wrap (s.fst + n), IntKind.i64.wrap (s.snd.fst + 1), ()) y_2)
 (0, IntKind.i64.wrap ((if 0 > n1 then 0 else n1).tdiv 64), ()) w

theorem S132_eq (p0 : Addr) (n1 : Int) (n2 : Int) (w : World) (R : Value → World → Prop) : funX Go.Proofs.Tryz.prog 132 ⟨[(4004, (.op 0 (.op 1 (.op 2 (.op 3 (.op 5 (.op 8 (.op 9 (.op 10 (.op 4 (.op 6 (.op 7 (.op 11 (.op 12 (.op 13 (.op 14 (.op 15 (.done)))))))))))))))), [11]))], [(250, [(7, .int .i64), (8, .int .i64)])], [(500, [])]⟩ [(.pointer (some p0)), (.int .i64 n1), (.int .i64 n2)] w R = S132 p0 n1 n2 w R := by kernel_rfl

/-- (*hearth/pages.Table).run -/
def S131 (p0 : Addr) (n1 : Int) (n2 : Int) (w : World) (R : Value → World → Prop) : Prop :=
 LoopX (Int × Unit)
 (fun s w K =>
 ifB (decide (s.fst < n2))
 (∃ a l c,
 w.cell? (p0.add 0) = some (.slice a l c) ∧
 nilx a fun a =>
 (0 ≤ IntKind.i64.wrap (n1 + s.fst) ∧ IntKind.i64.wrap (n1 + s.fst) < (↑l : Int)) ∧
 stx w (a.add ((IntKind.i64.wrap (n1 + s.fst)).toNat * 3)) [.int .i64 3, .int .i64 0, .int .i64 0] 0 fun w' => K (IntKind.i64.wrap (s.fst + 1), ()) w')
 (∃ a l c,
 w.cell? (p0.add 0) = some (.slice a l c) ∧
 nilx a fun a =>
 (0 ≤ n1 ∧ n1 < (↑l : Int)) ∧
 stx w (a.add (n1.toNat * 3)) [.int .i64 2, .int .i64 0, .int .i64 n2] 0 fun w' =>
 ∃ n, w'.cell? (p0.add 2) = some (.int .i64 n) ∧ stx w' (p0.add 2) [.int .i64 (IntKind.i64.wrap (n - n2))] 0 fun w' => R (.int .i64 n1) w'))
 (0, ()) w

theorem S131_eq (p0 : Addr) (n1 : Int) (n2 : Int) (w : World) (R : Value → World → Prop) : funX Go.Proofs.Tryz.prog 131 ⟨[], [(26, [(9, .int .i64)])], []⟩ [(.pointer (some p0)), (.int .i64 n1), (.int .i64 n2)] w R = S131 p0 n1 n2 w R := by kernel_rfl

end Go.Wx
end
section
/- WRITTEN BY A PROGRAM (wip/gen): what each function's code asks for, by the framework's precondition, in short form; each is checked by the kernel to be that precondition. -/
set_option maxRecDepth 100000
set_option linter.unusedVariables false
namespace Go.Wx
open Go Proofs.Tryz

/-- (*hearth/pages.Table).isFree -/
def S130 (p0 : Addr) (n1 : Int) (w : World) (R : Value → World → Prop) : Prop :=
 ∃ a l c,
 w.cell? (p0.add 0) = some (.slice a l c) ∧
 nilx a fun a =>
 (0 ≤ n1 ∧ n1 < (↑l : Int)) ∧
 ∃ n,
 w.cell? ((a.add (n1.toNat * 3)).add 0) = some (.int .i64 n) ∧
 ∃ n_1, w.cell? ((a.add (n1.toNat * 3)).add 1) = some (.int .i64 n_1) ∧ ∃ n_2, w.cell? ((a.add (n1.toNat * 3)).add 2) = some (.int .i64 n_2) ∧ R (.bool (n == 0 && (n_1 == 0 && (n_2 == 0 && true)))) w

theorem S130_eq (p0 : Addr) (n1 : Int) (w : World) (R : Value → World → Prop) : funX Go.Proofs.Tryz.prog 130 ⟨[], [], []⟩ [(.pointer (some p0)), (.int .i64 n1)] w R = S130 p0 n1 w R := by kernel_rfl

/-- (*hearth/pages.Table).rise -/
def S129 (p0 : Addr) (w : World) (R : Value → World → Prop) : Prop :=
 LoopX Unit
 (fun s w K =>
 JoinX Unit
 (fun K =>
 ∃ n,
 w.drew.cell? (p0.add 1) = some (.int .i64 n) ∧
 ∃ a l c,
 w.drew.cell? (p0.add 0) = some (.slice a l c) ∧
 ifB (decide (n < (↑l : Int)))
 (∃ n,
 w.drew.cell? (p0.add 1) = some (.int .i64 n) ∧
 Calls prog 130 (Array.mk [.pointer (some p0), .int .i64 n]) w.drew fun y y_1 => ∃ b, y = .returned (.bool b) ∧ ifB (!b) (K () y_1) (R (.tuple (Array.mk [])) y_1))
 (R (.tuple (Array.mk [])) w.drew))
 fun s w' => ∃ n, w'.cell? (p0.add 1) = some (.int .i64 n) ∧ stx w' (p0.add 1) [.int .i64 (IntKind.i64.wrap (n + 1))] 0 fun w' => K () w')
 () w

theorem S129_eq (p0 : Addr) (w : World) (R : Value → World → Prop) : funX Go.Proofs.Tryz.prog 129 ⟨[(16, (.op 0 (.op 1 (.op 2 (.op 3 (.op 4 (.op 5 (.op 6 (.op 7 (.op 8 (.op 9 (.op 10 (.op 11 (.op 12 (.op 13 (.op 14 (.op 15 (.op 16 (.op 17 (.op 18 (.done))))))))))))))))))), []))], [(2, [])], [(4, [])]⟩ [(.pointer (some p0))] w R = S129 p0 w R := by kernel_rfl

/-- hearth/class.words -/
def S128  (w : World) (R : Value → World → Prop) : Prop :=
 atW (w.alloc (Obj.cells (Array.mk [.int .i64 0, .int .i64 0, .int .i64 0, .int .i64 0, .int .i64 0, .int .i64 0, .int .i64 0, .int .i64 0]) 79))
 fun w' =>
 stx w' (Addr.mk w.heap.size 0 none)
 [.int .i64 2, .int .i64 4, .int .i64 6, .int .i64 8, .int .i64 12, .int .i64 16, .int .i64 20, .int .i64 32] 0 fun w' =>
 ∃ n,
 w'.cell? ((Addr.mk w.heap.size 0 none).add 0) = some (.int .i64 n) ∧
 ∃ n_1,
 w'.cell? ((Addr.mk w.heap.size 0 none).add 1) = some (.int .i64 n_1) ∧
 ∃ n_2,
 w'.cell? ((Addr.mk w.heap.size 0 none).add 2) = some (.int .i64 n_2) ∧
 ∃ n_3,
 w'.cell? ((Addr.mk w.heap.size 0 none).add 3) = some (.int .i64 n_3) ∧
 ∃ n_4,
 w'.cell? ((Addr.mk w.heap.size 0 none).add 4) = some (.int .i64 n_4) ∧
 ∃ n_5,
 w'.cell? ((Addr.mk w.heap.size 0 none).add 5) = some (.int .i64 n_5) ∧
 ∃ n_6,
 w'.cell? ((Addr.mk w.heap.size 0 none).add 6) = some (.int .i64 n_6) ∧
 ∃ n_7,
 w'.cell? ((Addr.mk w.heap.size 0 none).add 7) = some (.int .i64 n_7) ∧
 R
 (.agg
 (Array.mk
 [.int .i64 n, .int .i64 n_1, .int .i64 n_2, .int .i64 n_3, .int .i64 n_4, .int .i64 n_5, .int .i64 n_6,
 .int .i64 n_7]))
 w'

theorem S128_eq  (w : World) (R : Value → World → Prop) : funX Go.Proofs.Tryz.prog 128 ⟨[], [], []⟩ [] w R = S128  w R := by kernel_rfl

/-- (*hearth/hearthref8.Space).tidy -/
def S127 (p0 : Addr) (w : World) (R : Value → World → Prop) : Prop :=
 ∃ a l c,
 w.cell? (p0.add 0) = some (.slice a l c) ∧
 (0 ≤ (↑l : Int) ∧ (↑l : Int) ≤ (↑l : Int) ∧ (↑l : Int) ≤ 1099511627776) ∧
 LoopX (Int × Unit)
 (fun s w_1 K =>
 ∃ a l_1 c,
 w_1.cell? (p0.add 2) = some (.slice a l_1 c) ∧
 ifB (decide (s.fst < (↑l_1 : Int)))
 (LoopX (Int × Unit)
 (fun s_1 w_2 K_1 =>
 JoinX Unit
 (fun K_2 =>
 ∃ a l c,
 w_2.cell? (p0.add 2) = some (.slice a l c) ∧
 nilx a fun a =>
 (0 ≤ s.fst ∧ s.fst < (↑l : Int)) ∧
 ∃ n,
 w_2.cell? ((a.add (Int.toNat s.fst * 5)).add 1) = some (.int .i64 n) ∧
 ifB (n != 0)
 (∃ a l c,
 w_2.cell? (p0.add 2) = some (.slice a l c) ∧
 nilx a fun a =>
 (0 ≤ s.fst ∧ s.fst < (↑l : Int)) ∧
 ∃ n,
 w_2.cell? ((a.add (Int.toNat s.fst * 5)).add 2) = some (.int .i64 n) ∧
 Calls prog 93 (Array.mk [.int .i64 n]) w_2 fun y y_1 =>
 ∃ n, y = .returned (.int .i64 n) ∧ ifB (decide (s_1.fst < n)) (K_2 () y_1) (K (IntKind.i64.wrap (s.fst + 1), ()) y_1))
 (K (IntKind.i64.wrap (s.fst + 1), ()) w_2))
 fun s_2 w' =>
 (0 ≤ IntKind.i64.wrap (s.fst + s_1.fst) ∧ IntKind.i64.wrap (s.fst + s_1.fst) < (↑(↑l : Int).toNat : Int)) ∧
 stx w' ((Addr.mk w.heap.size 0 none).add ((IntKind.i64.wrap (s.fst + s_1.fst)).toNat * 1)) [.bool true] 0 fun w' => K_1 (IntKind.i64.wrap (s_1.fst + 1), ()) w')
 (0, ()) w_1)
 (LoopX (Int × Unit)
 (fun s w_2 K =>
 ∃ a l_2 c,
 w_2.cell? (p0.add 0) = some (.slice a l_2 c) ∧
 ifB (decide (s.fst < (↑l_2 : Int)))
 ((0 ≤ s.fst ∧ s.fst < (↑(↑l : Int).toNat : Int)) ∧
 ∃ b,
 w_2.cell? ((Addr.mk w.heap.size 0 none).add (Int.toNat s.fst * 1)) = some (.bool b) ∧
 ifB (!b)
 (∃ a l c,
 w_2.cell? (p0.add 0) = some (.slice a l c) ∧
 nilx a fun a => (0 ≤ s.fst ∧ s.fst < (↑l : Int)) ∧ stx w_2 (a.add (Int.toNat s.fst * 1)) [.int .i64 0] 0 fun w' => K (IntKind.i64.wrap (s.fst + 1), ()) w')
 (K (IntKind.i64.wrap (s.fst + 1), ()) w_2))
 (LoopX (Int × Unit)
 (fun s w K =>
 ifB (decide (s.fst < 8))
 (Calls prog 64 (Array.mk [.pointer (some p0), .int .i64 s.fst, .int .i64 0]) w fun y y_1 =>
 ∃ n,
 y = .returned (.int .i64 n) ∧
 LoopX (Int × Unit)
 (fun s_1 w K_1 =>
 ifB (decide (s_1.fst ≥ 0))
 (Calls prog 64 (Array.mk [.pointer (some p0), .int .i64 s.fst, .int .i64 (IntKind.i64.wrap (s_1.fst + 1))]) w fun y y_2 =>
 ∃ n,
 y = .returned (.int .i64 n) ∧
 ∃ a l c,
 y_2.drew.cell? (p0.add 0) = some (.slice a l c) ∧
 Calls prog 63 (Array.mk [.int .i64 n]) y_2.drew fun y y_3 =>
 ∃ n_1,
 y = .returned (.int .i64 n_1) ∧
 (∀ (b : Nat) (o : Obj), y_2.drew.heap[b]? = some o → y_3.heap[b]? = some o) ∧
 nilx a fun a => (0 ≤ s_1.fst ∧ s_1.fst < (↑l : Int)) ∧ stx y_3 (a.add (Int.toNat s_1.fst * 1)) [.int .i64 n_1] 0 fun w' => K_1 (n, ()) w')
 (K (IntKind.i64.wrap (s.fst + 1), ()) w))
 (n, ()) y_1)
 (R (.tuple (Array.mk [])) w))
 (0, ()) w_2))
 (0, ()) w_1))
 (0, ()) (w.alloc (Obj.cells (Array.mk (zcells [.bool false] (↑l : Int).toNat)) 4))

theorem S127_eq (p0 : Addr) (w : World) (R : Value → World → Prop) : funX Go.Proofs.Tryz.prog 127 ⟨[(127562, (.op 0 (.op 1 (.op 2 (.op 4 (.op 5 (.op 3 (.op 6 (.op 7 (.op 8 (.done))))))))), [6]))], [(26, [(3, .int .i64)]), (1682, [(4, .int .i64)]), (58, [(5, .int .i64)]), (62, [(6, .int .i64)]), (3986, [(7, .int .i64)])], [(3364, [])]⟩ [(.pointer (some p0))] w R = S127 p0 w R := by kernel_rfl

/-- (*hearth/hearthref7.Table).Give -/
def S126 (p0 : Addr) (n1 : Int) (w : World) (R : Value → World → Prop) : Prop :=
 JoinX (Int × Unit)
 (fun K =>
 ifB (decide (n1 < 0)) (R (.int .i64 1) w)
 (∃ a l c,
 w.cell? (p0.add 0) = some (.slice a l c) ∧
 ifB (decide (n1 ≥ (↑l : Int))) (R (.int .i64 1) w)
 (∃ a l c,
 w.cell? (p0.add 0) = some (.slice a l c) ∧
 nilx a fun a =>
 (0 ≤ n1 ∧ n1 < (↑l : Int)) ∧
 ∃ n,
 w.cell? ((a.add (n1.toNat * 3)).add 0) = some (.int .i64 n) ∧
 ifB (n == 0) (R (.int .i64 1) w)
 (∃ a l c,
 w.cell? (p0.add 0) = some (.slice a l c) ∧
 nilx a fun a => (0 ≤ n1 ∧ n1 < (↑l : Int)) ∧ ∃ n, w.cell? ((a.add (n1.toNat * 3)).add 0) = some (.int .i64 n) ∧ ifB (n == 3) (R (.int .i64 1) w) (K (0, ()) w)))))
 fun s w' =>
 JoinX (Int × Unit)
 (fun K =>
 ∃ a l c,
 w'.cell? (p0.add 0) = some (.slice a l c) ∧
 nilx a fun a =>
 (0 ≤ n1 ∧ n1 < (↑l : Int)) ∧
 ∃ n,
 w'.cell? ((a.add (n1.toNat * 3)).add 0) = some (.int .i64 n) ∧
 ifB (n == 2) (∃ a l c, w'.cell? (p0.add 0) = some (.slice a l c) ∧ nilx a fun a => (0 ≤ n1 ∧ n1 < (↑l : Int)) ∧ ∃ n, w'.cell? ((a.add (n1.toNat * 3)).add 2) = some (.int .i64 n) ∧ K (n, ()) w')
 (K (1, ()) w'))
 fun s w' =>
 LoopX (Int × Unit)
 (fun s_1 w K =>
 ifB (decide (s_1.fst < s.fst))
 (∃ a l c,
 w.cell? (p0.add 0) = some (.slice a l c) ∧
 nilx a fun a =>
 (0 ≤ IntKind.i64.wrap (n1 + s_1.fst) ∧ IntKind.i64.wrap (n1 + s_1.fst) < (↑l : Int)) ∧
 stx w (a.add ((IntKind.i64.wrap (n1 + s_1.fst)).toNat * 3)) [.int .i64 0, .int .i64 0, .int .i64 0] 0 fun w' => K (IntKind.i64.wrap (s_1.fst + 1), ()) w')
 (R (.int .i64 0) w))
 (0, ()) w'

theorem S126_eq (p0 : Addr) (n1 : Int) (w : World) (R : Value → World → Prop) : funX Go.Proofs.Tryz.prog 126 ⟨[], [(250, [(6, .int .i64)])], [(3, [(4, .int .i64)]), (15, [(5, .int .i64)])]⟩ [(.pointer (some p0)), (.int .i64 n1)] w R = S126 p0 n1 w R := by kernel_rfl

/-- (*hearth/space.Space).tidy -/
def S125 (p0 : Addr) (n1 : Int) (w : World) (R : Value → World → Prop) : Prop :=
 ∃ p,
  w.cell? (p0.add 1) = some (Value.pointer p) ∧
   Calls Proofs.Tryz.prog 145 (Array.mk [Value.pointer p, Value.int IntKind.i64 n1]) w fun y y_1 =>
    ∃ n n_1 n_2 b,
     y = Ending.returned (Value.tuple (Array.mk [Value.agg (Array.mk [Value.int IntKind.i64 n, Value.int IntKind.i64 n_1, Value.int IntKind.i64 n_2]), Value.bool b])) ∧
      atW (y_1.alloc (Obj.cells (Array.mk [Value.int IntKind.i64 0, Value.int IntKind.i64 0, Value.int IntKind.i64 0]) 152)) fun w' =>
       stx w' (Addr.mk y_1.heap.size 0 none) [Value.int IntKind.i64 n, Value.int IntKind.i64 n_1, Value.int IntKind.i64 n_2] 0 fun w' =>
        JoinX Unit
         (fun K =>
          JoinX (Bool × Unit)
           (fun K =>
            ∃ n,
             w'.cell? ((Addr.mk y_1.heap.size 0 none).add 0) = some (Value.int IntKind.i64 n) ∧
              ifB (n == 1)
               (∃ p,
                w'.cell? (p0.add 2) = some (Value.pointer p) ∧
                 Calls Proofs.Tryz.prog 132 (Array.mk [Value.pointer p, Value.int IntKind.i64 (IntKind.i64.wrap (n1 * 64)), Value.int IntKind.i64 (IntKind.i64.wrap (IntKind.i64.wrap (n1 * 64) + 64))]) w' fun y y_2 =>
                  ∃ n, y = Ending.returned (Value.int IntKind.i64 n) ∧ K (n == 0, ()) y_2)
               (K (false, ()) w'))
           fun s w' =>
           ifB s.fst
            (∃ p,
             w'.cell? (p0.add 1) = some (Value.pointer p) ∧
              Calls Proofs.Tryz.prog 144 (Array.mk [Value.pointer p, Value.int IntKind.i64 n1]) w' fun y y_2 =>
               ∃ n, y = Ending.returned (Value.int IntKind.i64 n) ∧ stx y_2 (Addr.mk y_1.heap.size 0 none) [Value.int IntKind.i64 0, Value.int IntKind.i64 0, Value.int IntKind.i64 0] 0 fun w' => K () w')
            (K () w'))
         fun s w' =>
         ∃ n,
          w'.cell? ((Addr.mk y_1.heap.size 0 none).add 0) = some (Value.int IntKind.i64 n) ∧
           ifB (n == 0)
            (∃ a l c,
             w'.cell? (p0.add 0) = some (Value.slice a l c) ∧
              (0 ≤ IntKind.i64.wrap (IntKind.i64.wrap (n1 * 64) + 64) ∧ IntKind.i64.wrap (IntKind.i64.wrap (n1 * 64) + 64) ≤ (↑c : Int)) ∧
               (0 ≤ IntKind.i64.wrap (n1 * 64) ∧ IntKind.i64.wrap (n1 * 64) ≤ (↑(IntKind.i64.wrap (IntKind.i64.wrap (n1 * 64) + 64)).toNat : Int)) ∧
                (match if c = (IntKind.i64.wrap (n1 * 64)).toNat then a else Option.map (fun x => x.add ((IntKind.i64.wrap (n1 * 64)).toNat * 1)) a with
                 | some a => canWr w' a (((IntKind.i64.wrap (IntKind.i64.wrap (n1 * 64) + 64)).toNat - (IntKind.i64.wrap (n1 * 64)).toNat) * 1)
                 | none => (IntKind.i64.wrap (IntKind.i64.wrap (n1 * 64) + 64)).toNat - (IntKind.i64.wrap (n1 * 64)).toNat = 0) ∧
                 atW
                  (match if c = (IntKind.i64.wrap (n1 * 64)).toNat then a else Option.map (fun x => x.add ((IntKind.i64.wrap (n1 * 64)).toNat * 1)) a with
                  | some a => wrx w' a (zcells [Value.int IntKind.i64 0] ((IntKind.i64.wrap (IntKind.i64.wrap (n1 * 64) + 64)).toNat - (IntKind.i64.wrap (n1 * 64)).toNat)) 0
                  | none => w')
                  fun w' => R (Value.tuple (Array.mk [])) w')
            (ifB (n == 1)
             (∃ n,
              w'.cell? ((Addr.mk y_1.heap.size 0 none).add 1) = some (Value.int IntKind.i64 n) ∧
               Calls Proofs.Tryz.prog 83 (Array.mk [Value.int IntKind.i64 n]) w' fun y y_2 =>
                ∃ n,
                 y = Ending.returned (Value.int IntKind.i64 n) ∧
                  ∃ n_3,
                   y_2.cell? ((Addr.mk y_1.heap.size 0 none).add 1) = some (Value.int IntKind.i64 n_3) ∧
                    Calls Proofs.Tryz.prog 105 (Array.mk [Value.int IntKind.i64 n_3]) y_2 fun y y_3 =>
                     ∃ n_4,
                      y = Ending.returned (Value.int IntKind.i64 n_4) ∧
                       LoopX (Int × Unit)
                        (fun s w K =>
                         ifB (decide (s.fst < n))
                          (∃ n,
                           w.cell? ((Addr.mk y_1.heap.size 0 none).add 1) = some (Value.int IntKind.i64 n) ∧
                            Calls Proofs.Tryz.prog 138 (Array.mk [Value.int IntKind.i64 n, Value.int IntKind.i64 s.fst]) w fun y y_4 =>
                             ∃ n,
                              y = Ending.returned (Value.int IntKind.i64 n) ∧
                               ∃ p,
                                y_4.cell? (p0.add 2) = some (Value.pointer p) ∧
                                 Calls Proofs.Tryz.prog 121 (Array.mk [Value.pointer p, Value.int IntKind.i64 (IntKind.i64.wrap (IntKind.i64.wrap (n1 * 64) + n))]) y_4 fun y y_5 =>
                                  ∃ b,
                                   y = Ending.returned (Value.bool b) ∧
                                    ifB (!b)
                                     (∃ n_5,
                                      y_5.drew.cell? ((Addr.mk y_1.heap.size 0 none).add 1) = some (Value.int IntKind.i64 n_5) ∧
                                       (0 ≤ n_5 ∧ n_5 < 8) ∧
                                        ∃ p,
                                         y_5.drew.cell? ((p0.add 3).add (n_5.toNat * 1)) = some (Value.pointer p) ∧
                                          Calls Proofs.Tryz.prog 58 (Array.mk [Value.pointer p, Value.int IntKind.i64 (IntKind.i64.wrap (IntKind.i64.wrap (n1 * 64) + n))]) y_5.drew fun y y_6 =>
                                           ∃ n_6,
                                            y = Ending.returned (Value.int IntKind.i64 n_6) ∧
                                             ∃ a l c,
                                              y_6.cell? (p0.add 0) = some (Value.slice a l c) ∧
                                               (0 ≤ IntKind.i64.wrap (IntKind.i64.wrap (IntKind.i64.wrap (n1 * 64) + n) + n_4) ∧
                                                IntKind.i64.wrap (IntKind.i64.wrap (IntKind.i64.wrap (n1 * 64) + n) + n_4) ≤ (↑c : Int)) ∧
                                                (0 ≤ IntKind.i64.wrap (IntKind.i64.wrap (n1 * 64) + n) ∧
                                                 IntKind.i64.wrap (IntKind.i64.wrap (n1 * 64) + n) ≤
                                                  (↑(IntKind.i64.wrap (IntKind.i64.wrap (IntKind.i64.wrap (n1 * 64) + n) + n_4)).toNat : Int)) ∧
                                                 (match
                                                  if c = (IntKind.i64.wrap (IntKind.i64.wrap (n1 * 64) + n)).toNat then a
                                                  else Option.map (fun x => x.add ((IntKind.i64.wrap (IntKind.i64.wrap (n1 * 64) + n)).toNat * 1)) a with
                                                  | some a =>
                                                   canWr y_6 a
                                                    (((IntKind.i64.wrap (IntKind.i64.wrap (IntKind.i64.wrap (n1 * 64) + n) + n_4)).toNat -
                                                     (IntKind.i64.wrap (IntKind.i64.wrap (n1 * 64) + n)).toNat) *
                                                     1)
                                                  | none =>
                                                   (IntKind.i64.wrap (IntKind.i64.wrap (IntKind.i64.wrap (n1 * 64) + n) + n_4)).toNat -
                                                    (IntKind.i64.wrap (IntKind.i64.wrap (n1 * 64) + n)).toNat =
                                                    0) ∧
                                                  atW
                                                   (match
                                                    if c = (IntKind.i64.wrap (IntKind.i64.wrap (n1 * 64) + n)).toNat then a
                                                    else Option.map (fun x => x.add ((IntKind.i64.wrap (IntKind.i64.wrap (n1 * 64) + n)).toNat * 1)) a with
                                                   | some a =>
                                                    wrx y_6 a
                                                     (zcells [Value.int IntKind.i64 0]
                                                      ((IntKind.i64.wrap (IntKind.i64.wrap (IntKind.i64.wrap (n1 * 64) + n) + n_4)).toNat -
                                                       (IntKind.i64.wrap (IntKind.i64.wrap (n1 * 64) + n)).toNat))
                                                     0
                                                   | none => y_6)
                                                   fun w' => K (IntKind.i64.wrap (s.fst + 1), ()) w')
                                     (K (IntKind.i64.wrap (s.fst + 1), ()) y_5))
                          (∃ a l c,
                           w.cell? (p0.add 0) = some (Value.slice a l c) ∧
                            (0 ≤ IntKind.i64.wrap (IntKind.i64.wrap (n1 * 64) + 64) ∧ IntKind.i64.wrap (IntKind.i64.wrap (n1 * 64) + 64) ≤ (↑c : Int)) ∧
                             (0 ≤ IntKind.i64.wrap (IntKind.i64.wrap (n1 * 64) + IntKind.i64.wrap (n * n_4)) ∧
                              IntKind.i64.wrap (IntKind.i64.wrap (n1 * 64) + IntKind.i64.wrap (n * n_4)) ≤ (↑(IntKind.i64.wrap (IntKind.i64.wrap (n1 * 64) + 64)).toNat : Int)) ∧
                              (match
                               if c = (IntKind.i64.wrap (IntKind.i64.wrap (n1 * 64) + IntKind.i64.wrap (n * n_4))).toNat then a
                               else Option.map (fun x => x.add ((IntKind.i64.wrap (IntKind.i64.wrap (n1 * 64) + IntKind.i64.wrap (n * n_4))).toNat * 1)) a with
                               | some a => canWr w a (((IntKind.i64.wrap (IntKind.i64.wrap (n1 * 64) + 64)).toNat - (IntKind.i64.wrap (IntKind.i64.wrap (n1 * 64) + IntKind.i64.wrap (n * n_4))).toNat) * 1)
                               | none => (IntKind.i64.wrap (IntKind.i64.wrap (n1 * 64) + 64)).toNat - (IntKind.i64.wrap (IntKind.i64.wrap (n1 * 64) + IntKind.i64.wrap (n * n_4))).toNat = 0) ∧
                               atW
                                (match
                                 if c = (IntKind.i64.wrap (IntKind.i64.wrap (n1 * 64) + IntKind.i64.wrap (n * n_4))).toNat then a
                                 else Option.map (fun x => x.add ((IntKind.i64.wrap (IntKind.i64.wrap (n1 * 64) + IntKind.i64.wrap (n * n_4))).toNat * 1)) a with
                                | some a =>
                                 wrx w a
                                  (zcells [Value.int IntKind.i64 0]
                                   ((IntKind.i64.wrap (IntKind.i64.wrap (n1 * 64) + 64)).toNat - (IntKind.i64.wrap (IntKind.i64.wrap (n1 * 64) + IntKind.i64.wrap (n * n_4))).toNat))
                                  0
                                | none => w)
                                fun w' => R (Value.tuple (Array.mk [])) w'))
                        (0, ()) y_3)
             (R (Value.tuple (Array.mk [])) w'))

theorem S125_eq (p0 : Addr) (n1 : Int) (w : World) (R : Value → World → Prop) : funX Go.Proofs.Tryz.prog 125 ⟨[(66546076, (.op 0 (.op 1 (.op 2 (.op 3 (.op 4 (.op 5 (.op 6 (.op 7 (.op 8 (.done))))))))), []))], [(64986, [(65, .int .i64)])], [(15, []), (30, [(37, .bool)])]⟩ [(.pointer (some p0)), (.int .i64 n1)] w R = S125 p0 n1 w R := by kernel_rfl

/-- (*hearth/pages.Table).Len -/
def S124 (p0 : Addr) (w : World) (R : Value → World → Prop) : Prop :=
 ∃ a l c, w.cell? (p0.add 0) = some (.slice a l c) ∧ R (.int .i64 (↑l : Int)) w

theorem S124_eq (p0 : Addr) (w : World) (R : Value → World → Prop) : funX Go.Proofs.Tryz.prog 124 ⟨[], [], []⟩ [(.pointer (some p0))] w R = S124 p0 w R := by kernel_rfl

/-- (*hearth/bitmap.Map).Reset -/
def S123 (p0 : Addr) (w : World) (R : Value → World → Prop) : Prop :=
 ∃ a l c,
 w.cell? (p0.add 1) = some (.slice a l c) ∧
 (match a with
 | some a => canWr w a (l * 1)
 | none => l = 0) ∧
 atW
 (match a with
 | some a => wrx w a (zcells [.int .u64 0] l) 0
 | none => w)
 fun w' => R (.tuple (Array.mk [])) w'

theorem S123_eq (p0 : Addr) (w : World) (R : Value → World → Prop) : funX Go.Proofs.Tryz.prog 123 ⟨[], [], []⟩ [(.pointer (some p0))] w R = S123 p0 w R := by kernel_rfl

/-- (*hearth/space.Space).drop -/
def S122 (p0 : Addr) (n1 : Int) (w : World) (R : Value → World → Prop) : Prop :=
 ∃ r,
 w.cell? (p0.add 11) = some (.map r) ∧
 optx r fun r =>
 ∃ es c res,
 Mapped w r IntKind.i64 n1 es c res ∧
 ∃ n n_1 n_2 n_3,
 .agg (Array.mk [.int .i64 n, .int .i64 n_1, .int .i64 n_2, .int .i64 n_3]) =
 mgot res (.agg (Array.mk [.int .i64 0, .int .i64 0, .int .i64 0, .int .i64 0])) ∧
 atW (w.alloc (Obj.cells (Array.mk [.int .i64 0, .int .i64 0, .int .i64 0, .int .i64 0]) 97)) fun w' =>
 stx w' (Addr.mk w.heap.size 0 none) [.int .i64 n, .int .i64 n_1, .int .i64 n_2, .int .i64 n_3] 0 fun w' =>
 ∃ r,
 w'.cell? (p0.add 11) = some (.map r) ∧
 optx r fun r =>
 ∃ es c res,
 Mapped w' r IntKind.i64 n1 es c res ∧
 atW (World.putB w' r (mdel es c res)) fun w' =>
 JoinX Unit
 (fun K =>
 ∃ n,
 w'.cell? ((Addr.mk w.heap.size 0 none).add 2) = some (.int .i64 n) ∧
 ifB (decide (n > 0))
 (∃ r,
 w'.drew.cell? (p0.add 12) = some (.map r) ∧
 ∃ n,
 w'.drew.cell? ((Addr.mk w.heap.size 0 none).add 2) = some (.int .i64 n) ∧
 optx r fun r => ∃ es c res, Mapped w'.drew r IntKind.i64 n es c res ∧ atW (World.putB w'.drew r (mdel es c res)) fun w' => K () w')
 (K () w'))
 fun s w' =>
 ∃ p,
 w'.cell? (p0.add 2) = some (.pointer p) ∧
 Calls prog 104 (Array.mk [.pointer p, .int .i64 n1]) w' fun y y_1 =>
 ∃ n,
 y = .returned (.int .i64 n) ∧
 ∃ n,
 y_1.drew.cell? ((Addr.mk w.heap.size 0 none).add 1) = some (.int .i64 n) ∧
 ∃ n_4,
 y_1.drew.cell? (p0.add 14) = some (.int .i64 n_4) ∧
 Calls prog 55 (Array.mk [.int .i64 n]) y_1.drew fun y y_2 =>
 ∃ n,
 y = .returned (.int .i64 n) ∧
 (∀ (b : Nat) (o : Obj), y_1.drew.heap[b]? = some o → y_2.heap[b]? = some o) ∧
 stx y_2 (p0.add 14) [.int .i64 (IntKind.i64.wrap (n_4 - n))] 0 fun w' =>
 ∃ n,
 w'.cell? ((Addr.mk w.heap.size 0 none).add 1) = some (.int .i64 n) ∧
 Calls prog 78 (Array.mk [.int .i64 n]) w' fun y y_3 =>
 ∃ n,
 y = .returned (.int .i64 n) ∧
 ifB (n == 8)
 (∃ p,
 y_3.cell? (p0.add 1) = some (.pointer p) ∧
 Calls prog 144 (Array.mk [.pointer p, .int .i64 (IntKind.i64.wrap (n1.tdiv 64))]) y_3 fun y y_4 =>
 ∃ n, y = .returned (.int .i64 n) ∧ R (.tuple (Array.mk [])) y_4)
 (R (.tuple (Array.mk [])) y_3)

theorem S122_eq (p0 : Addr) (n1 : Int) (w : World) (R : Value → World → Prop) : funX Go.Proofs.Tryz.prog 122 ⟨[(58, (.op 0 (.op 1 (.op 2 (.op 3 (.op 4 (.op 5 (.op 6 (.done))))))), [])), (62, (.op 0 (.op 1 (.op 2 (.op 4 (.op 5 (.op 3 (.op 6 (.op 7 (.op 8 (.op 9 (.op 10 (.done))))))))))), [6]))], [], [(7, [])]⟩ [(.pointer (some p0)), (.int .i64 n1)] w R = S122 p0 n1 w R := by kernel_rfl

/-- (*hearth/bitmap.Map).Get -/
def S121 (p0 : Addr) (n1 : Int) (w : World) (R : Value → World → Prop) : Prop :=
 ifB (decide (n1 ≥ 0))
 (∃ n,
 w.cell? (p0.add 0) = some (.int .i64 n) ∧
 ifB (decide (n1 < n))
 (∃ a l c,
 w.cell? (p0.add 1) = some (.slice a l c) ∧
 nilx a fun a =>
 (0 ≤ IntKind.i64.wrap (n1.tdiv 64) ∧ IntKind.i64.wrap (n1.tdiv 64) < (↑l : Int)) ∧
 ∃ n,
 w.cell? (a.add ((IntKind.i64.wrap (n1.tdiv 64)).toNat * 1)) = some (.int .u64 n) ∧
 ifB (decide (n1.tmod 64 < 0)) False (R (.bool (IntKind.u64.wrap (↑(BitVec.ofInt 64 (n.fdiv (2 ^ min (n1.tmod 64).toNat 64)) &&& BitVec.ofInt 64 1).toNat : Int) == 1)) w))
 (R (.bool false) w))
 (R (.bool false) w)

theorem S121_eq (p0 : Addr) (n1 : Int) (w : World) (R : Value → World → Prop) : funX Go.Proofs.Tryz.prog 121 ⟨[], [], []⟩ [(.pointer (some p0)), (.int .i64 n1)] w R = S121 p0 n1 w R := by kernel_rfl

/-- hearth/hearthref5.Make -/
def S120 (n0 : Int) (n1 : Int) (n2 : Int) (w : World) (R : Value → World → Prop) : Prop :=
 Calls prog 142 (Array.mk [.int .i64 n0, .int .i64 n1, .int .i64 n2]) w fun y y_1 =>
 ∃ b,
 y = .returned (.bool b) ∧
 ifB (!b) (R (.int .i64 0) y_1)
 (Calls prog 143 (Array.mk [.int .i64 (IntKind.i64.wrap (IntKind.i64.wrap (IntKind.i64.wrap (n0 * 65536) + IntKind.i64.wrap (n1 * 2048)) + n2))]) y_1 fun y y_2 =>
 ∃ n,
 y = .returned (.int .i64 n) ∧ R (.int .i64 (IntKind.i64.wrap (IntKind.i64.wrap (IntKind.i64.wrap (IntKind.i64.wrap (n1 + IntKind.i64.wrap (n2 * 32)) + IntKind.i64.wrap (n * 65536)) * 8) + 5))) y_2)

theorem S120_eq (n0 : Int) (n1 : Int) (n2 : Int) (w : World) (R : Value → World → Prop) : funX Go.Proofs.Tryz.prog 120 ⟨[], [], []⟩ [(.int .i64 n0), (.int .i64 n1), (.int .i64 n2)] w R = S120 n0 n1 n2 w R := by kernel_rfl

/-- (*hearth/hearthref8.Space).wipe -/
def S119 (p0 : Addr) (n1 : Int) (n2 : Int) (w : World) (R : Value → World → Prop) : Prop :=
 LoopX (Int × Unit)
 (fun s w K =>
 ifB (decide (s.fst < n2))
 (∃ a l c,
 w.cell? (p0.add 0) = some (.slice a l c) ∧
 nilx a fun a =>
 (0 ≤ IntKind.i64.wrap (n1 + s.fst) ∧ IntKind.i64.wrap (n1 + s.fst) < (↑l : Int)) ∧ stx w (a.add ((IntKind.i64.wrap (n1 + s.fst)).toNat * 1)) [.int .i64 0] 0 fun w' => K (IntKind.i64.wrap (s.fst + 1), ()) w')
 (R (.tuple (Array.mk [])) w))
 (0, ()) w

theorem S119_eq (p0 : Addr) (n1 : Int) (n2 : Int) (w : World) (R : Value → World → Prop) : funX Go.Proofs.Tryz.prog 119 ⟨[], [(6, [(6, .int .i64)])], []⟩ [(.pointer (some p0)), (.int .i64 n1), (.int .i64 n2)] w R = S119 p0 n1 n2 w R := by kernel_rfl

/-- hearth/hearthref6.Numbered -/
def S118 (n0 : Int) (w : World) (R : Value → World → Prop) : Prop :=
 ifB (decide (n0 ≥ 1)) (R (.bool (decide (n0 ≤ 11))) w) (R (.bool false) w)

theorem S118_eq (n0 : Int) (w : World) (R : Value → World → Prop) : funX Go.Proofs.Tryz.prog 118 ⟨[], [], []⟩ [(.int .i64 n0)] w R = S118 n0 w R := by kernel_rfl

/-- hearth/hearthref4.Start -/
def S117 (n0 : Int) (n1 : Int) (w : World) (R : Value → World → Prop) : Prop :=
 ifB (decide (n1 < 0)) (R (.int .i64 (-1)) w)
 (Calls prog 116 (Array.mk [.int .i64 n0]) w fun y y_1 =>
 ∃ n,
 y = .returned (.int .i64 n) ∧
 ifB (decide (n1 ≥ n)) (R (.int .i64 (-1)) y_1)
 (Calls prog 115 (Array.mk [.int .i64 n0]) y_1 fun y y_2 => ∃ n, y = .returned (.int .i64 n) ∧ R (.int .i64 (IntKind.i64.wrap (n1 * n))) y_2))

theorem S117_eq (n0 : Int) (n1 : Int) (w : World) (R : Value → World → Prop) : funX Go.Proofs.Tryz.prog 117 ⟨[], [], []⟩ [(.int .i64 n0), (.int .i64 n1)] w R = S117 n0 n1 w R := by kernel_rfl

/-- hearth/hearthref4.Blocks -/
def S116 (n0 : Int) (w : World) (R : Value → World → Prop) : Prop :=
 Calls prog 115 (Array.mk [.int .i64 n0]) w fun y y_1 =>
 ∃ n,
 y = .returned (.int .i64 n) ∧
 LoopX (Int × Unit)
 (fun s w K => ifB (decide (n > 0)) (ifB (decide (IntKind.i64.wrap (IntKind.i64.wrap (s.fst + 1) * n) ≤ 64)) (K (IntKind.i64.wrap (s.fst + 1), ()) w) (R (.int .i64 s.fst) w)) (R (.int .i64 s.fst) w)) (0, ())
 y_1

theorem S116_eq (n0 : Int) (w : World) (R : Value → World → Prop) : funX Go.Proofs.Tryz.prog 116 ⟨[], [(60, [(4, .int .i64)])], []⟩ [(.int .i64 n0)] w R = S116 n0 w R := by kernel_rfl

/-- hearth/hearthref4.Words -/
def S115 (n0 : Int) (w : World) (R : Value → World → Prop) : Prop :=
 JoinX (Int × Unit) (fun K => ifB (decide (n0 < 0)) (R (.int .i64 0) w) (ifB (decide (n0 ≥ 8)) (R (.int .i64 0) w) (K (0, ()) w))) fun s w' =>
 LoopX (Int × Int × Unit)
 (fun s w K =>
 ifB (decide (s.snd.fst < n0))
 (ifB (decide (s.snd.fst < 3)) (K (IntKind.i64.wrap (s.fst + 2), IntKind.i64.wrap (s.snd.fst + 1), ()) w)
 (ifB (decide (s.snd.fst < 6)) (K (IntKind.i64.wrap (s.fst + 4), IntKind.i64.wrap (s.snd.fst + 1), ()) w) (K (IntKind.i64.wrap (s.fst + 12), IntKind.i64.wrap (s.snd.fst + 1), ()) w)))
 (R (.int .i64 s.fst) w))
 (2, 0, ()) w'

theorem S115_eq (n0 : Int) (w : World) (R : Value → World → Prop) : funX Go.Proofs.Tryz.prog 115 ⟨[], [(122, [(3, .int .i64), (4, .int .i64)])], [(3, [(2, .int .i64)])]⟩ [(.int .i64 n0)] w R = S115 n0 w R := by kernel_rfl

/-- (*hearth/hearthref7.Table).TakeClass -/
def S114 (p0 : Addr) (n1 : Int) (w : World) (R : Value → World → Prop) : Prop :=
 JoinX (Int × Int × Unit)
 (fun K => ifB (decide (n1 < 0)) (R (.tuple (Array.mk [.int .i64 0, .int .i64 1])) w) (ifB (decide (n1 > 7)) (R (.tuple (Array.mk [.int .i64 0, .int .i64 1])) w) (K (0, 0, ()) w)))
 fun s w' =>
 LoopX (Int × Int × Int × Unit)
 (fun s w K =>
 ∃ a l c,
 w.cell? (p0.add 0) = some (.slice a l c) ∧
 ifB (decide (s.snd.snd.fst < (↑l : Int)))
 (∃ a l c,
 w.cell? (p0.add 0) = some (.slice a l c) ∧
 nilx a fun a =>
 (0 ≤ s.snd.snd.fst ∧ s.snd.snd.fst < (↑l : Int)) ∧
 ∃ n,
 w.cell? ((a.add (Int.toNat s.snd.snd.fst * 3)).add 0) = some (.int .i64 n) ∧
 ifB (n == 0)
 (∃ a l c,
 w.cell? (p0.add 0) = some (.slice a l c) ∧
 nilx a fun a =>
 (0 ≤ s.snd.snd.fst ∧ s.snd.snd.fst < (↑l : Int)) ∧
 stx w (a.add (Int.toNat s.snd.snd.fst * 3)) [.int .i64 1, .int .i64 n1, .int .i64 0] 0 fun w' =>
 R (.tuple (Array.mk [.int .i64 s.snd.snd.fst, .int .i64 0])) w')
 (K (s.fst, s.snd.fst, IntKind.i64.wrap (s.snd.snd.fst + 1), ()) w))
 (R (.tuple (Array.mk [.int .i64 0, .int .i64 20])) w))
 (s.fst, s.snd.fst, 0, ()) w'

theorem S114_eq (p0 : Addr) (n1 : Int) (w : World) (R : Value → World → Prop) : funX Go.Proofs.Tryz.prog 114 ⟨[], [(58, [(4, .int .i64), (5, .int .i64), (6, .int .i64)])], [(3, [(4, .int .i64), (5, .int .i64)])]⟩ [(.pointer (some p0)), (.int .i64 n1)] w R = S114 p0 n1 w R := by kernel_rfl

/-- hearth/hearthref4.Pages -/
def S113 (n0 : Int) (w : World) (R : Value → World → Prop) : Prop :=
 Calls prog 62 (Array.mk [.int .i64 n0]) w fun y y_1 =>
 ∃ n,
 y = .returned (.int .i64 n) ∧
 ifB (n != 8) (R (.int .i64 0) y_1) (LoopX (Int × Unit) (fun s w K => ifB (decide (IntKind.i64.wrap (s.fst * 64) < n0)) (K (IntKind.i64.wrap (s.fst + 1), ()) w) (R (.int .i64 s.fst) w)) (0, ()) y_1)

theorem S113_eq (n0 : Int) (w : World) (R : Value → World → Prop) : funX Go.Proofs.Tryz.prog 113 ⟨[], [(60, [(3, .int .i64)])], []⟩ [(.int .i64 n0)] w R = S113 n0 w R := by kernel_rfl

/-- (*hearth/hearthref7.Table).TakeRun -/
def S112 (p0 : Addr) (n1 : Int) (w : World) (R : Value → World → Prop) : Prop :=
 JoinX (Int × Int × Unit)
 (fun K => ifB (decide (n1 < 1)) (R (.tuple (Array.mk [.int .i64 0, .int .i64 1])) w) (ifB (decide (n1 > 16)) (R (.tuple (Array.mk [.int .i64 0, .int .i64 1])) w) (K (0, 0, ()) w)))
 fun s w' =>
 Calls prog 141 (Array.mk [.pointer (some p0), .int .i64 n1]) w' fun y y_1 =>
 ∃ n,
 y = .returned (.int .i64 n) ∧
 ifB (decide (n < 0)) (R (.tuple (Array.mk [.int .i64 0, .int .i64 20])) y_1)
 (∃ a l c,
 y_1.cell? (p0.add 0) = some (.slice a l c) ∧
 nilx a fun a =>
 (0 ≤ n ∧ n < (↑l : Int)) ∧
 stx y_1 (a.add (n.toNat * 3)) [.int .i64 2, .int .i64 0, .int .i64 n1] 0 fun w' =>
 LoopX (Int × Unit)
 (fun s w K =>
 ifB (decide (s.fst < n1))
 (∃ a l c,
 w.cell? (p0.add 0) = some (.slice a l c) ∧
 nilx a fun a =>
 (0 ≤ IntKind.i64.wrap (n + s.fst) ∧ IntKind.i64.wrap (n + s.fst) < (↑l : Int)) ∧
 stx w (a.add ((IntKind.i64.wrap (n + s.fst)).toNat * 3)) [.int .i64 3, .int .i64 0, .int .i64 0] 0 fun w' => K (IntKind.i64.wrap (s.fst + 1), ()) w')
 (R (.tuple (Array.mk [.int .i64 n, .int .i64 0])) w))
 (1, ()) w')

theorem S112_eq (p0 : Addr) (n1 : Int) (w : World) (R : Value → World → Prop) : funX Go.Proofs.Tryz.prog 112 ⟨[], [(506, [(7, .int .i64)])], [(3, [(4, .int .i64), (5, .int .i64)])]⟩ [(.pointer (some p0)), (.int .i64 n1)] w R = S112 p0 n1 w R := by kernel_rfl

/-- (*hearth/hearthref7.Table).Copy -/
def S111 (p0 : Addr) (w : World) (R : Value → World → Prop) : Prop :=
 ∃ a l c,
 w.cell? (p0.add 0) = some (.slice a l c) ∧
 ∃ old new,
 rdx w none 0 old ∧
 rdx w a (l * 3) new ∧
 (∀ (v : Value), List.Mem v new → isLeaf v = true) ∧
 (0 + l) * 24 ≤ 1099511627776 ∧
 canApp w none 0 0 l 3 ∧
 ∀ (b : Option Addr) (c : Nat) (w' : World),
 AppTo w none 0 0 l 3 old new [.int .i64 0, .int .i64 0, .int .i64 0] 152 b c w' →
 atW (w'.alloc (Obj.cells (Array.mk [.slice b (0 + l) c]) 135)) fun w'_1 => R (.pointer (some (Addr.mk w'.heap.size 0 none))) w'_1

theorem S111_eq (p0 : Addr) (w : World) (R : Value → World → Prop) : funX Go.Proofs.Tryz.prog 111 ⟨[], [], []⟩ [(.pointer (some p0))] w R = S111 p0 w R := by kernel_rfl

/-- hearth/hearthref6.Size -/
def S110 (n0 : Int) (n1 : Int) (w : World) (R : Value → World → Prop) : Prop :=
 JoinX (Int × Bool × Unit)
 (fun K => ifB (decide (n0 < 1)) (R (.tuple (Array.mk [.int .i64 0, .bool false])) w) (ifB (decide (n0 > 13)) (R (.tuple (Array.mk [.int .i64 0, .bool false])) w) (K (0, false, ()) w)))
 fun s w' =>
 Calls prog 109 (Array.mk [.int .i64 n0]) w' fun y y_1 =>
 ∃ a l c n n_1 n_2 n_3,
 y = .returned (.agg (Array.mk [.slice a l c, .int .i64 n, .int .i64 n_1, .int .i64 n_2, .int .i64 n_3])) ∧
 atW (y_1.alloc (Obj.cells (Array.mk [.slice none 0 0, .int .i64 0, .int .i64 0, .int .i64 0, .int .i64 0]) 147)) fun w' =>
 stx w' (Addr.mk y_1.heap.size 0 none) [.slice a l c, .int .i64 n, .int .i64 n_1, .int .i64 n_2, .int .i64 n_3] 0 fun w' =>
 JoinX (Int × Bool × Unit)
 (fun K =>
 ∃ n,
 w'.cell? ((Addr.mk y_1.heap.size 0 none).add 2) = some (.int .i64 n) ∧
 ifB (decide (n1 < n)) (R (.tuple (Array.mk [.int .i64 0, .bool false])) w')
 (∃ n,
 w'.cell? ((Addr.mk y_1.heap.size 0 none).add 3) = some (.int .i64 n) ∧
 ifB (decide (n1 > n)) (R (.tuple (Array.mk [.int .i64 0, .bool false])) w')
 (ifB (n0 == 12)
 (Calls prog 108 (Array.mk [.int .i64 n1]) w' fun y y_2 =>
 ∃ b, y = .returned (.bool b) ∧ ifB (!b) (R (.tuple (Array.mk [.int .i64 0, .bool false])) y_2) (K (s.fst, s.snd.fst, ()) y_2))
 (K (s.fst, s.snd.fst, ()) w'))))
 fun s w' =>
 ∃ a l c,
 w'.cell? ((Addr.mk y_1.heap.size 0 none).add 0) = some (.slice a l c) ∧
 ∃ n,
 w'.cell? ((Addr.mk y_1.heap.size 0 none).add 1) = some (.int .i64 n) ∧
 ifB (decide (n > 0))
 (LoopX (Int × Int × Unit)
 (fun s w K =>
 ifB (decide (s.snd.fst < n1)) (∃ n, w.cell? ((Addr.mk y_1.heap.size 0 none).add 4) = some (.int .i64 n) ∧ K (IntKind.i64.wrap (s.fst + 1), IntKind.i64.wrap (s.snd.fst + n), ()) w)
 (R (.tuple (Array.mk [.int .i64 s.fst, .bool true])) w))
 (IntKind.i64.wrap (1 + (↑l : Int)), 0, ()) w')
 (R (.tuple (Array.mk [.int .i64 (IntKind.i64.wrap (1 + (↑l : Int))), .bool true])) w')

theorem S110_eq (n0 : Int) (n1 : Int) (w : World) (R : Value → World → Prop) : funX Go.Proofs.Tryz.prog 110 ⟨[], [(2026, [(7, .int .i64), (8, .int .i64)])], [(3, [(4, .int .i64), (5, .bool)]), (15, [(4, .int .i64), (5, .bool)])]⟩ [(.int .i64 n0), (.int .i64 n1)] w R = S110 n0 n1 w R := by kernel_rfl

end Go.Wx
end
section
/- WRITTEN BY A PROGRAM (wip/gen): what each function's code asks for, by the framework's precondition, in short form; each is checked by the kernel to be that precondition. -/
set_option maxRecDepth 100000
set_option linter.unusedVariables false
namespace Go.Wx
open Go Proofs.Tryz

/-- hearth/hearthref6.rowOf -/
def S109 (n0 : Int) (w : World) (R : Value → World → Prop) : Prop :=
 atW (w.alloc (Obj.cells (Array.mk [.slice none 0 0, .int .i64 0, .int .i64 0, .int .i64 0, .int .i64 0]) 147)) fun w' =>
 ifB (n0 == 1)
 (atW (w'.alloc (Obj.cells (Array.mk [.int .i64 2, .int .i64 2]) 3)) fun w'_1 =>
 stx w'_1 (Addr.mk w.heap.size 0 none) [.slice (some (Addr.mk w'.heap.size 0 none)) 2 2, .int .i64 0, .int .i64 0, .int .i64 0, .int .i64 0] 0 fun w' =>
 ∃ a l c,
 w'.cell? ((Addr.mk w.heap.size 0 none).add 0) = some (.slice a l c) ∧
 ∃ n,
 w'.cell? ((Addr.mk w.heap.size 0 none).add 1) = some (.int .i64 n) ∧
 ∃ n_1,
 w'.cell? ((Addr.mk w.heap.size 0 none).add 2) = some (.int .i64 n_1) ∧
 ∃ n_2,
 w'.cell? ((Addr.mk w.heap.size 0 none).add 3) = some (.int .i64 n_2) ∧
 ∃ n_3,
 w'.cell? ((Addr.mk w.heap.size 0 none).add 4) = some (.int .i64 n_3) ∧
 R (.agg (Array.mk [.slice a l c, .int .i64 n, .int .i64 n_1, .int .i64 n_2, .int .i64 n_3])) w')
 (ifB (n0 == 2)
 (atW (w'.alloc (Obj.cells (Array.mk [.int .i64 2]) 3)) fun w'_1 =>
 stx w'_1 (Addr.mk w.heap.size 0 none) [.slice (some (Addr.mk w'.heap.size 0 none)) 1 1, .int .i64 0, .int .i64 0, .int .i64 0, .int .i64 0] 0 fun w' =>
 ∃ a l c,
 w'.cell? ((Addr.mk w.heap.size 0 none).add 0) = some (.slice a l c) ∧
 ∃ n,
 w'.cell? ((Addr.mk w.heap.size 0 none).add 1) = some (.int .i64 n) ∧
 ∃ n_1,
 w'.cell? ((Addr.mk w.heap.size 0 none).add 2) = some (.int .i64 n_1) ∧
 ∃ n_2,
 w'.cell? ((Addr.mk w.heap.size 0 none).add 3) = some (.int .i64 n_2) ∧
 ∃ n_3,
 w'.cell? ((Addr.mk w.heap.size 0 none).add 4) = some (.int .i64 n_3) ∧
 R (.agg (Array.mk [.slice a l c, .int .i64 n, .int .i64 n_1, .int .i64 n_2, .int .i64 n_3])) w')
 (ifB (n0 == 3)
 (stx w' (Addr.mk w.heap.size 0 none) [.slice none 0 0, .int .i64 2, .int .i64 0, .int .i64 1023, .int .i64 1] 0 fun w' =>
 ∃ a l c,
 w'.cell? ((Addr.mk w.heap.size 0 none).add 0) = some (.slice a l c) ∧
 ∃ n,
 w'.cell? ((Addr.mk w.heap.size 0 none).add 1) = some (.int .i64 n) ∧
 ∃ n_1,
 w'.cell? ((Addr.mk w.heap.size 0 none).add 2) = some (.int .i64 n_1) ∧
 ∃ n_2,
 w'.cell? ((Addr.mk w.heap.size 0 none).add 3) = some (.int .i64 n_2) ∧
 ∃ n_3,
 w'.cell? ((Addr.mk w.heap.size 0 none).add 4) = some (.int .i64 n_3) ∧
 R (.agg (Array.mk [.slice a l c, .int .i64 n, .int .i64 n_1, .int .i64 n_2, .int .i64 n_3])) w')
 (ifB (n0 == 4)
 (atW (w'.alloc (Obj.cells (Array.mk [.int .i64 1]) 3)) fun w'_1 =>
 stx w'_1 (Addr.mk w.heap.size 0 none) [.slice (some (Addr.mk w'.heap.size 0 none)) 1 1, .int .i64 1, .int .i64 0, .int .i64 4096, .int .i64 8] 0 fun w' =>
 ∃ a l c,
 w'.cell? ((Addr.mk w.heap.size 0 none).add 0) = some (.slice a l c) ∧
 ∃ n,
 w'.cell? ((Addr.mk w.heap.size 0 none).add 1) = some (.int .i64 n) ∧
 ∃ n_1,
 w'.cell? ((Addr.mk w.heap.size 0 none).add 2) = some (.int .i64 n_1) ∧
 ∃ n_2,
 w'.cell? ((Addr.mk w.heap.size 0 none).add 3) = some (.int .i64 n_2) ∧
 ∃ n_3,
 w'.cell? ((Addr.mk w.heap.size 0 none).add 4) = some (.int .i64 n_3) ∧
 R (.agg (Array.mk [.slice a l c, .int .i64 n, .int .i64 n_1, .int .i64 n_2, .int .i64 n_3])) w')
 (ifB (n0 == 5)
 (atW (w'.alloc (Obj.cells (Array.mk [.int .i64 1]) 3)) fun w'_1 =>
 stx w'_1 (Addr.mk w.heap.size 0 none) [.slice (some (Addr.mk w'.heap.size 0 none)) 1 1, .int .i64 0, .int .i64 0, .int .i64 0, .int .i64 0] 0 fun w' =>
 ∃ a l c,
 w'.cell? ((Addr.mk w.heap.size 0 none).add 0) = some (.slice a l c) ∧
 ∃ n,
 w'.cell? ((Addr.mk w.heap.size 0 none).add 1) = some (.int .i64 n) ∧
 ∃ n_1,
 w'.cell? ((Addr.mk w.heap.size 0 none).add 2) = some (.int .i64 n_1) ∧
 ∃ n_2,
 w'.cell? ((Addr.mk w.heap.size 0 none).add 3) = some (.int .i64 n_2) ∧
 ∃ n_3,
 w'.cell? ((Addr.mk w.heap.size 0 none).add 4) = some (.int .i64 n_3) ∧
 R (.agg (Array.mk [.slice a l c, .int .i64 n, .int .i64 n_1, .int .i64 n_2, .int .i64 n_3])) w')
 (ifB (n0 == 6)
 (stx w' (Addr.mk w.heap.size 0 none) [.slice none 0 0, .int .i64 2, .int .i64 0, .int .i64 64, .int .i64 1] 0 fun w' =>
 ∃ a l c,
 w'.cell? ((Addr.mk w.heap.size 0 none).add 0) = some (.slice a l c) ∧
 ∃ n,
 w'.cell? ((Addr.mk w.heap.size 0 none).add 1) = some (.int .i64 n) ∧
 ∃ n_1,
 w'.cell? ((Addr.mk w.heap.size 0 none).add 2) = some (.int .i64 n_1) ∧
 ∃ n_2,
 w'.cell? ((Addr.mk w.heap.size 0 none).add 3) = some (.int .i64 n_2) ∧
 ∃ n_3,
 w'.cell? ((Addr.mk w.heap.size 0 none).add 4) = some (.int .i64 n_3) ∧
 R (.agg (Array.mk [.slice a l c, .int .i64 n, .int .i64 n_1, .int .i64 n_2, .int .i64 n_3])) w')
 (ifB (n0 == 7)
 (atW (w'.alloc (Obj.cells (Array.mk [.int .i64 6]) 3)) fun w'_1 =>
 stx w'_1 (Addr.mk w.heap.size 0 none) [.slice (some (Addr.mk w'.heap.size 0 none)) 1 1, .int .i64 0, .int .i64 0, .int .i64 0, .int .i64 0] 0 fun w' =>
 ∃ a l c,
 w'.cell? ((Addr.mk w.heap.size 0 none).add 0) = some (.slice a l c) ∧
 ∃ n,
 w'.cell? ((Addr.mk w.heap.size 0 none).add 1) = some (.int .i64 n) ∧
 ∃ n_1,
 w'.cell? ((Addr.mk w.heap.size 0 none).add 2) = some (.int .i64 n_1) ∧
 ∃ n_2,
 w'.cell? ((Addr.mk w.heap.size 0 none).add 3) = some (.int .i64 n_2) ∧
 ∃ n_3,
 w'.cell? ((Addr.mk w.heap.size 0 none).add 4) = some (.int .i64 n_3) ∧
 R (.agg (Array.mk [.slice a l c, .int .i64 n, .int .i64 n_1, .int .i64 n_2, .int .i64 n_3])) w')
 (ifB (n0 == 8)
 (atW (w'.alloc (Obj.cells (Array.mk [.int .i64 3, .int .i64 2]) 3)) fun w'_1 =>
 stx w'_1 (Addr.mk w.heap.size 0 none) [.slice (some (Addr.mk w'.heap.size 0 none)) 2 2, .int .i64 0, .int .i64 0, .int .i64 0, .int .i64 0] 0 fun w' =>
 ∃ a l c,
 w'.cell? ((Addr.mk w.heap.size 0 none).add 0) = some (.slice a l c) ∧
 ∃ n,
 w'.cell? ((Addr.mk w.heap.size 0 none).add 1) = some (.int .i64 n) ∧
 ∃ n_1,
 w'.cell? ((Addr.mk w.heap.size 0 none).add 2) = some (.int .i64 n_1) ∧
 ∃ n_2,
 w'.cell? ((Addr.mk w.heap.size 0 none).add 3) = some (.int .i64 n_2) ∧
 ∃ n_3,
 w'.cell? ((Addr.mk w.heap.size 0 none).add 4) = some (.int .i64 n_3) ∧
 R (.agg (Array.mk [.slice a l c, .int .i64 n, .int .i64 n_1, .int .i64 n_2, .int .i64 n_3])) w')
 (ifB (n0 == 9)
 (atW (w'.alloc (Obj.cells (Array.mk [.int .i64 4, .int .i64 5]) 3)) fun w'_1 =>
 stx w'_1 (Addr.mk w.heap.size 0 none) [.slice (some (Addr.mk w'.heap.size 0 none)) 2 2, .int .i64 0, .int .i64 0, .int .i64 0, .int .i64 0] 0 fun w' =>
 ∃ a l c,
 w'.cell? ((Addr.mk w.heap.size 0 none).add 0) = some (.slice a l c) ∧
 ∃ n,
 w'.cell? ((Addr.mk w.heap.size 0 none).add 1) = some (.int .i64 n) ∧
 ∃ n_1,
 w'.cell? ((Addr.mk w.heap.size 0 none).add 2) = some (.int .i64 n_1) ∧
 ∃ n_2,
 w'.cell? ((Addr.mk w.heap.size 0 none).add 3) = some (.int .i64 n_2) ∧
 ∃ n_3,
 w'.cell? ((Addr.mk w.heap.size 0 none).add 4) = some (.int .i64 n_3) ∧
 R (.agg (Array.mk [.slice a l c, .int .i64 n, .int .i64 n_1, .int .i64 n_2, .int .i64 n_3])) w')
 (ifB (n0 == 10)
 (atW (w'.alloc (Obj.cells (Array.mk [.int .i64 1, .int .i64 8]) 3)) fun w'_1 =>
 stx w'_1 (Addr.mk w.heap.size 0 none) [.slice (some (Addr.mk w'.heap.size 0 none)) 2 2, .int .i64 0, .int .i64 0, .int .i64 0, .int .i64 0] 0 fun w' =>
 ∃ a l c,
 w'.cell? ((Addr.mk w.heap.size 0 none).add 0) = some (.slice a l c) ∧
 ∃ n,
 w'.cell? ((Addr.mk w.heap.size 0 none).add 1) = some (.int .i64 n) ∧
 ∃ n_1,
 w'.cell? ((Addr.mk w.heap.size 0 none).add 2) = some (.int .i64 n_1) ∧
 ∃ n_2,
 w'.cell? ((Addr.mk w.heap.size 0 none).add 3) = some (.int .i64 n_2) ∧
 ∃ n_3,
 w'.cell? ((Addr.mk w.heap.size 0 none).add 4) = some (.int .i64 n_3) ∧
 R (.agg (Array.mk [.slice a l c, .int .i64 n, .int .i64 n_1, .int .i64 n_2, .int .i64 n_3])) w')
 (ifB (n0 == 11)
 (atW (w'.alloc (Obj.cells (Array.mk [.int .i64 6, .int .i64 7, .int .i64 1, .int .i64 1]) 3)) fun w'_1 =>
 stx w'_1 (Addr.mk w.heap.size 0 none) [.slice (some (Addr.mk w'.heap.size 0 none)) 4 4, .int .i64 2, .int .i64 0, .int .i64 128, .int .i64 1] 0 fun w' =>
 ∃ a l c,
 w'.cell? ((Addr.mk w.heap.size 0 none).add 0) = some (.slice a l c) ∧
 ∃ n,
 w'.cell? ((Addr.mk w.heap.size 0 none).add 1) = some (.int .i64 n) ∧
 ∃ n_1,
 w'.cell? ((Addr.mk w.heap.size 0 none).add 2) = some (.int .i64 n_1) ∧
 ∃ n_2,
 w'.cell? ((Addr.mk w.heap.size 0 none).add 3) = some (.int .i64 n_2) ∧
 ∃ n_3,
 w'.cell? ((Addr.mk w.heap.size 0 none).add 4) = some (.int .i64 n_3) ∧
 R (.agg (Array.mk [.slice a l c, .int .i64 n, .int .i64 n_1, .int .i64 n_2, .int .i64 n_3])) w')
 (ifB (n0 == 12)
 (stx w' (Addr.mk w.heap.size 0 none) [.slice none 0 0, .int .i64 9, .int .i64 4, .int .i64 512, .int .i64 1] 0 fun w' =>
 ∃ a l c,
 w'.cell? ((Addr.mk w.heap.size 0 none).add 0) = some (.slice a l c) ∧
 ∃ n,
 w'.cell? ((Addr.mk w.heap.size 0 none).add 1) = some (.int .i64 n) ∧
 ∃ n_1,
 w'.cell? ((Addr.mk w.heap.size 0 none).add 2) = some (.int .i64 n_1) ∧
 ∃ n_2,
 w'.cell? ((Addr.mk w.heap.size 0 none).add 3) = some (.int .i64 n_2) ∧
 ∃ n_3,
 w'.cell? ((Addr.mk w.heap.size 0 none).add 4) = some (.int .i64 n_3) ∧
 R (.agg (Array.mk [.slice a l c, .int .i64 n, .int .i64 n_1, .int .i64 n_2, .int .i64 n_3])) w')
 (atW (w'.alloc (Obj.cells (Array.mk [.int .i64 4, .int .i64 5, .int .i64 9]) 3)) fun w'_1 =>
 stx w'_1 (Addr.mk w.heap.size 0 none) [.slice (some (Addr.mk w'.heap.size 0 none)) 3 3, .int .i64 0, .int .i64 0, .int .i64 0, .int .i64 0] 0 fun w' =>
 ∃ a l c,
 w'.cell? ((Addr.mk w.heap.size 0 none).add 0) = some (.slice a l c) ∧
 ∃ n,
 w'.cell? ((Addr.mk w.heap.size 0 none).add 1) = some (.int .i64 n) ∧
 ∃ n_1,
 w'.cell? ((Addr.mk w.heap.size 0 none).add 2) = some (.int .i64 n_1) ∧
 ∃ n_2,
 w'.cell? ((Addr.mk w.heap.size 0 none).add 3) = some (.int .i64 n_2) ∧
 ∃ n_3,
 w'.cell? ((Addr.mk w.heap.size 0 none).add 4) = some (.int .i64 n_3) ∧
 R (.agg (Array.mk [.slice a l c, .int .i64 n, .int .i64 n_1, .int .i64 n_2, .int .i64 n_3])) w'))))))))))))

theorem S109_eq (n0 : Int) (w : World) (R : Value → World → Prop) : funX Go.Proofs.Tryz.prog 109 ⟨[], [], []⟩ [(.int .i64 n0)] w R = S109 n0 w R := by kernel_rfl

/-- hearth/hearthref6.heads -/
def S108 (n0 : Int) (w : World) (R : Value → World → Prop) : Prop :=
 LoopX (Int × Unit) (fun s w K => ifB (decide (s.fst < n0)) (ifB (decide (s.fst < 512)) (K (IntKind.i64.wrap (s.fst + s.fst), ()) w) (R (.bool (s.fst == n0)) w)) (R (.bool (s.fst == n0)) w)) (4, ()) w

theorem S108_eq (n0 : Int) (w : World) (R : Value → World → Prop) : funX Go.Proofs.Tryz.prog 108 ⟨[], [(28, [(3, .int .i64)])], []⟩ [(.int .i64 n0)] w R = S108 n0 w R := by kernel_rfl

/-- (*hearth/bitmap.Map).SetRange -/
def S107 (p0 : Addr) (n1 : Int) (n2 : Int) (w : World) (R : Value → World → Prop) : Prop :=
 Calls prog 140 (Array.mk [.pointer (some p0), .int .i64 n1, .int .i64 n2]) w fun y y_1 =>
 ∃ b,
 y = .returned (.bool b) ∧
 ifB (!b) (R (.int .i64 10) y_1)
 (LoopX (Int × Unit)
 (fun s w K =>
 ifB (decide (IntKind.i64.wrap (s.fst * 64) < n2))
 (∃ a l c,
 w.drew.cell? (p0.add 1) = some (.slice a l c) ∧
 nilx a fun a_1 =>
 (0 ≤ s.fst ∧ s.fst < (↑l : Int)) ∧
 ∃ n,
 w.drew.cell? (a_1.add (Int.toNat s.fst * 1)) = some (.int .u64 n) ∧
 Calls prog 136 (Array.mk [.int .i64 s.fst, .int .i64 n1, .int .i64 n2]) w.drew fun y y_2 =>
 ∃ n_1,
 y = .returned (.int .u64 n_1) ∧
 (∀ (b : Nat) (o : Obj), w.drew.heap[b]? = some o → y_2.heap[b]? = some o) ∧
 nilx a fun a =>
 (0 ≤ s.fst ∧ s.fst < (↑l : Int)) ∧
 stx y_2 (a.add (Int.toNat s.fst * 1)) [.int .u64 (IntKind.u64.wrap (↑(BitVec.ofInt 64 n ||| BitVec.ofInt 64 n_1).toNat : Int))] 0 fun w' => K (IntKind.i64.wrap (s.fst + 1), ()) w')
 (R (.int .i64 0) w))
 (IntKind.i64.wrap (n1.tdiv 64), ()) y_1)

theorem S107_eq (p0 : Addr) (n1 : Int) (n2 : Int) (w : World) (R : Value → World → Prop) : funX Go.Proofs.Tryz.prog 107 ⟨[(932, (.op 0 (.op 1 (.op 2 (.op 4 (.op 7 (.op 8 (.op 9 (.op 3 (.op 5 (.op 6 (.op 10 (.op 11 (.op 12 (.op 13 (.done)))))))))))))), [10]))], [(58, [(7, .int .i64)])], []⟩ [(.pointer (some p0)), (.int .i64 n1), (.int .i64 n2)] w R = S107 p0 n1 n2 w R := by kernel_rfl

/-- hearth/layout.Visible -/
def S106 (n0 : Int) (w : World) (R : Value → World → Prop) : Prop :=
 ifB (decide (n0 ≥ 1)) (R (.bool (decide (n0 ≤ 10))) w) (R (.bool false) w)

theorem S106_eq (n0 : Int) (w : World) (R : Value → World → Prop) : funX Go.Proofs.Tryz.prog 106 ⟨[], [], []⟩ [(.int .i64 n0)] w R = S106 n0 w R := by kernel_rfl

/-- hearth/class.Words -/
def S105 (n0 : Int) (w : World) (R : Value → World → Prop) : Prop :=
 ifB (decide (n0 < 0)) (R (Value.int IntKind.i64 0) w)
 (ifB (decide (n0 ≥ 8)) (R (Value.int IntKind.i64 0) w)
 (Calls Proofs.Tryz.prog 128 (Array.mk []) w fun y y_1 =>
 ∃ n n_1 n_2 n_3 n_4 n_5 n_6 n_7,
 y =
 Ending.returned
 (Value.agg
 (Array.mk
 [Value.int IntKind.i64 n, Value.int IntKind.i64 n_1, Value.int IntKind.i64 n_2, Value.int IntKind.i64 n_3, Value.int IntKind.i64 n_4, Value.int IntKind.i64 n_5, Value.int IntKind.i64 n_6, Value.int IntKind.i64 n_7])) ∧
 ∃ n_8,
 (0 ≤ n0 ∧ n0 < 8) ∧
 [Value.int IntKind.i64 n, Value.int IntKind.i64 n_1, Value.int IntKind.i64 n_2, Value.int IntKind.i64 n_3, Value.int IntKind.i64 n_4, Value.int IntKind.i64 n_5, Value.int IntKind.i64 n_6,
 Value.int IntKind.i64 n_7][n0.toNat]? =
 some (Value.int IntKind.i64 n_8) ∧
 R (Value.int IntKind.i64 n_8) y_1))

theorem S105_eq (n0 : Int) (w : World) (R : Value → World → Prop) : funX Go.Proofs.Tryz.prog 105 ⟨[], [], []⟩ [(.int .i64 n0)] w R = S105 n0 w R := by kernel_rfl

/-- (*hearth/bitmap.Map).Clear -/
def S104 (p0 : Addr) (n1 : Int) (w : World) (R : Value → World → Prop) : Prop :=
 Calls prog 139 (Array.mk [.pointer (some p0), .int .i64 n1, .int .i64 (IntKind.i64.wrap (n1 + 1))]) w fun y y_1 => ∃ n, y = .returned (.int .i64 n) ∧ R (.int .i64 n) y_1

theorem S104_eq (p0 : Addr) (n1 : Int) (w : World) (R : Value → World → Prop) : funX Go.Proofs.Tryz.prog 104 ⟨[], [], []⟩ [(.pointer (some p0)), (.int .i64 n1)] w R = S104 p0 n1 w R := by kernel_rfl

/-- (*hearth/space.Space).cut -/
def S103 (p0 : Addr) (n1 : Int) (n2 : Int) (w : World) (R : Value → World → Prop) : Prop :=
 ∃ a l c,
 w.cell? (p0.add 0) = some (.slice a l c) ∧
 (0 ≤ IntKind.i64.wrap (IntKind.i64.wrap (n1 * 64) + 64) ∧ IntKind.i64.wrap (IntKind.i64.wrap (n1 * 64) + 64) ≤ (↑c : Int)) ∧
 (0 ≤ IntKind.i64.wrap (n1 * 64) ∧ IntKind.i64.wrap (n1 * 64) ≤ (↑(IntKind.i64.wrap (IntKind.i64.wrap (n1 * 64) + 64)).toNat : Int)) ∧
 (match if c = (IntKind.i64.wrap (n1 * 64)).toNat then a else Option.map (fun x => x.add ((IntKind.i64.wrap (n1 * 64)).toNat * 1)) a with
 | some a => canWr w a (((IntKind.i64.wrap (IntKind.i64.wrap (n1 * 64) + 64)).toNat - (IntKind.i64.wrap (n1 * 64)).toNat) * 1)
 | none => (IntKind.i64.wrap (IntKind.i64.wrap (n1 * 64) + 64)).toNat - (IntKind.i64.wrap (n1 * 64)).toNat = 0) ∧
 atW
 (match if c = (IntKind.i64.wrap (n1 * 64)).toNat then a else Option.map (fun x => x.add ((IntKind.i64.wrap (n1 * 64)).toNat * 1)) a with
 | some a => wrx w a (zcells [.int .i64 0] ((IntKind.i64.wrap (IntKind.i64.wrap (n1 * 64) + 64)).toNat - (IntKind.i64.wrap (n1 * 64)).toNat)) 0
 | none => w)
 fun w' =>
 Calls prog 83 (Array.mk [.int .i64 n2]) w' fun y y_1 =>
 ∃ n,
 y = .returned (.int .i64 n) ∧
 LoopX (Int × Unit)
 (fun s w K =>
 ifB (decide (s.fst < n))
 ((0 ≤ n2 ∧ n2 < 8) ∧
 ∃ p,
 w.drew.cell? ((p0.add 3).add (n2.toNat * 1)) = some (.pointer p) ∧
 Calls prog 138 (Array.mk [.int .i64 n2, .int .i64 s.fst]) w.drew fun y y_2 =>
 ∃ n,
 y = .returned (.int .i64 n) ∧
 (∀ (b : Nat) (o : Obj), w.drew.heap[b]? = some o → y_2.heap[b]? = some o) ∧
 Calls prog 58 (Array.mk [.pointer p, .int .i64 (IntKind.i64.wrap (IntKind.i64.wrap (n1 * 64) + n))]) y_2 fun y y_3 =>
 ∃ n, y = .returned (.int .i64 n) ∧ K (IntKind.i64.wrap (s.fst + 1), ()) y_3)
 (Calls prog 83 (Array.mk [.int .i64 n2]) w fun y y_2 =>
 ∃ n,
 y = .returned (.int .i64 n) ∧
 LoopX (Int × Unit)
 (fun s w K =>
 ifB (decide (s.fst < n))
 (Calls prog 138 (Array.mk [.int .i64 n2, .int .i64 s.fst]) w fun y y_3 =>
 ∃ n,
 y = .returned (.int .i64 n) ∧
 ∃ a l c,
 y_3.drew.cell? (p0.add 0) = some (.slice a l c) ∧
 Calls prog 92 (Array.mk [.pointer (some p0), .int .i64 n2, .int .i64 (IntKind.i64.wrap (IntKind.i64.wrap (n1 * 64) + n))]) y_3.drew fun y y_4 =>
 ∃ n_1,
 y = .returned (.int .i64 n_1) ∧
 (∀ (b : Nat) (o : Obj), y_3.drew.heap[b]? = some o → y_4.heap[b]? = some o) ∧
 nilx a fun a =>
 (0 ≤ IntKind.i64.wrap (IntKind.i64.wrap (n1 * 64) + n) ∧ IntKind.i64.wrap (IntKind.i64.wrap (n1 * 64) + n) < (↑l : Int)) ∧
 stx y_4 (a.add ((IntKind.i64.wrap (IntKind.i64.wrap (n1 * 64) + n)).toNat * 1)) [.int .i64 n_1] 0 fun w' => K (IntKind.i64.wrap (s.fst + 1), ()) w')
 (R (.tuple (Array.mk [])) w))
 (0, ()) y_2))
 (0, ()) y_1

theorem S103_eq (p0 : Addr) (n1 : Int) (n2 : Int) (w : World) (R : Value → World → Prop) : funX Go.Proofs.Tryz.prog 103 ⟨[(3737, (.op 0 (.op 1 (.op 2 (.op 3 (.op 4 (.op 6 (.op 7 (.op 8 (.op 5 (.op 9 (.op 10 (.op 11 (.done)))))))))))), [9])), (7987, (.op 0 (.op 1 (.op 2 (.op 4 (.op 5 (.op 6 (.op 7 (.op 3 (.op 8 (.op 9 (.op 10 (.done))))))))))), [8]))], [(58, [(22, .int .i64)]), (62, [(40, .int .i64)])], []⟩ [(.pointer (some p0)), (.int .i64 n1), (.int .i64 n2)] w R = S103 p0 n1 n2 w R := by kernel_rfl

/-- hearth/layout.heads -/
def S102 (n0 : Int) (w : World) (R : Value → World → Prop) : Prop :=
 ifB (decide (n0 ≥ 4)) (ifB (decide (n0 ≤ 512)) (R (.bool (IntKind.i64.wrap (↑(BitVec.ofInt 64 n0 &&& BitVec.ofInt 64 (IntKind.i64.wrap (n0 - 1))).toNat : Int) == 0)) w) (R (.bool false) w)) (R (.bool false) w)

theorem S102_eq (n0 : Int) (w : World) (R : Value → World → Prop) : funX Go.Proofs.Tryz.prog 102 ⟨[], [], []⟩ [(.int .i64 n0)] w R = S102 n0 w R := by kernel_rfl

/-- hearth/layout.shape -/
def S101 (n0 : Int) (w : World) (R : Value → World → Prop) : Prop :=
 JoinX (Bool × Unit) (fun K => ifB (n0 == 2) (K (true, ()) w) (ifB (n0 == 5) (K (true, ()) w) (K (n0 == 7, ()) w))) fun s w' =>
 ifB s.fst (R (.tuple (Array.mk [.int .i64 2, .int .i64 0])) w')
 (JoinX (Bool × Unit) (fun K => ifB (n0 == 1) (K (true, ()) w') (ifB (n0 == 8) (K (true, ()) w') (ifB (n0 == 9) (K (true, ()) w') (K (n0 == 10, ()) w')))) fun s w' =>
 ifB s.fst (R (.tuple (Array.mk [.int .i64 3, .int .i64 0])) w')
 (ifB (n0 == 13) (R (.tuple (Array.mk [.int .i64 4, .int .i64 0])) w')
 (ifB (n0 == 4) (R (.tuple (Array.mk [.int .i64 2, .int .i64 4096])) w')
 (ifB (n0 == 11) (R (.tuple (Array.mk [.int .i64 5, .int .i64 128])) w')
 (ifB (n0 == 3) (R (.tuple (Array.mk [.int .i64 1, .int .i64 1023])) w')
 (ifB (n0 == 6) (R (.tuple (Array.mk [.int .i64 1, .int .i64 64])) w')
 (ifB (n0 == 12) (R (.tuple (Array.mk [.int .i64 1, .int .i64 512])) w') (R (.tuple (Array.mk [.int .i64 0, .int .i64 0])) w'))))))))

theorem S101_eq (n0 : Int) (w : World) (R : Value → World → Prop) : funX Go.Proofs.Tryz.prog 101 ⟨[], [], [(26, [(5, .bool)]), (107, [(9, .bool)])]⟩ [(.int .i64 n0)] w R = S101 n0 w R := by kernel_rfl

/-- (*hearth/hearthlaw8.keep).hold -/
def S100 (p0 : Addr) (w : World) (R : Value → World → Prop) : Prop :=
 LoopX (Bool × Int × Unit)
 (fun s w K =>
 ∃ a l c,
 w.cell? (p0.add 6) = some (.slice a l c) ∧
 ifB (decide (s.snd.fst < (↑l : Int)))
 (LoopX (Bool × Int × Unit)
 (fun s_1 w K_1 =>
 ∃ a l c,
 w.cell? (p0.add 6) = some (.slice a l c) ∧
 nilx a fun a =>
 (0 ≤ s.snd.fst ∧ s.snd.fst < (↑l : Int)) ∧
 ∃ a_1 l c,
 w.cell? (a.add (Int.toNat s.snd.fst * 1)) = some (.slice a_1 l c) ∧
 ifB (decide (s_1.snd.fst < (↑l : Int)))
 (∃ a l c,
 w.drew.cell? (p0.add 6) = some (.slice a l c) ∧
 nilx a fun a =>
 (0 ≤ s.snd.fst ∧ s.snd.fst < (↑l : Int)) ∧
 ∃ a_2 l c,
 w.drew.cell? (a.add (Int.toNat s.snd.fst * 1)) = some (.slice a_2 l c) ∧
 nilx a_2 fun a =>
 (0 ≤ s_1.snd.fst ∧ s_1.snd.fst < (↑l : Int)) ∧
 ∃ n,
 w.drew.cell? (a.add (Int.toNat s_1.snd.fst * 1)) = some (.int .i64 n) ∧
 ∃ a l c,
 w.drew.cell? (p0.add 9) = some (.slice a l c) ∧
 nilx a fun a =>
 (0 ≤ s.snd.fst ∧ s.snd.fst < (↑l : Int)) ∧
 ∃ n_1,
 w.drew.cell? (a.add (Int.toNat s.snd.fst * 1)) = some (.int .i64 n_1) ∧
 ifB (n != n_1) (R (.bool false) w.drew) (K_1 (s_1.fst, IntKind.i64.wrap (s_1.snd.fst + 1), ()) w.drew))
 (K (s_1.fst, IntKind.i64.wrap (s.snd.fst + 1), ()) w))
 (s.fst, 0, ()) w)
 (LoopX (Bool × Int × Unit)
 (fun s w K =>
 ∃ a l c,
 w.cell? (p0.add 7) = some (.slice a l c) ∧
 ifB (decide (s.snd.fst < (↑l : Int)))
 (LoopX (Bool × Int × Unit)
 (fun s_1 w K_1 =>
 ∃ a l c,
 w.cell? (p0.add 7) = some (.slice a l c) ∧
 nilx a fun a =>
 (0 ≤ s.snd.fst ∧ s.snd.fst < (↑l : Int)) ∧
 ∃ a_1 l c,
 w.cell? (a.add (Int.toNat s.snd.fst * 1)) = some (.slice a_1 l c) ∧
 ifB (decide (s_1.snd.fst < (↑l : Int)))
 (∃ a l c,
 w.drew.cell? (p0.add 7) = some (.slice a l c) ∧
 nilx a fun a =>
 (0 ≤ s.snd.fst ∧ s.snd.fst < (↑l : Int)) ∧
 ∃ a_2 l c,
 w.drew.cell? (a.add (Int.toNat s.snd.fst * 1)) = some (.slice a_2 l c) ∧
 nilx a_2 fun a =>
 (0 ≤ s_1.snd.fst ∧ s_1.snd.fst < (↑l : Int)) ∧
 ∃ n,
 w.drew.cell? ((a.add (Int.toNat s_1.snd.fst * 3)).add 0) = some (.int .i64 n) ∧
 ∃ a l c,
 w.drew.cell? (p0.add 10) = some (.slice a l c) ∧
 nilx a fun a =>
 (0 ≤ s.snd.fst ∧ s.snd.fst < (↑l : Int)) ∧
 ∃ n_1,
 w.drew.cell? (a.add (Int.toNat s.snd.fst * 1)) = some (.int .i64 n_1) ∧
 ifB (n != n_1) (R (.bool false) w.drew) (K_1 (s_1.fst, IntKind.i64.wrap (s_1.snd.fst + 1), ()) w.drew))
 (K (s_1.fst, IntKind.i64.wrap (s.snd.fst + 1), ()) w))
 (s.fst, 0, ()) w)
 (LoopX (Bool × Int × Unit)
 (fun s w K =>
 ∃ a l c,
 w.cell? (p0.add 8) = some (.slice a l c) ∧
 ifB (decide (s.snd.fst < (↑l : Int)))
 (LoopX (Bool × Int × Unit)
 (fun s_1 w K_1 =>
 ∃ a l c,
 w.cell? (p0.add 8) = some (.slice a l c) ∧
 nilx a fun a =>
 (0 ≤ s.snd.fst ∧ s.snd.fst < (↑l : Int)) ∧
 ∃ a_1 l c,
 w.cell? (a.add (Int.toNat s.snd.fst * 1)) = some (.slice a_1 l c) ∧
 ifB (decide (s_1.snd.fst < (↑l : Int)))
 (∃ a l c,
 w.drew.cell? (p0.add 8) = some (.slice a l c) ∧
 nilx a fun a =>
 (0 ≤ s.snd.fst ∧ s.snd.fst < (↑l : Int)) ∧
 ∃ a_2 l c,
 w.drew.cell? (a.add (Int.toNat s.snd.fst * 1)) = some (.slice a_2 l c) ∧
 nilx a_2 fun a =>
 (0 ≤ s_1.snd.fst ∧ s_1.snd.fst < (↑l : Int)) ∧
 ∃ n,
 w.drew.cell? ((a.add (Int.toNat s_1.snd.fst * 5)).add 1) = some (.int .i64 n) ∧
 ∃ a l c,
 w.drew.cell? (p0.add 11) = some (.slice a l c) ∧
 nilx a fun a =>
 (0 ≤ s.snd.fst ∧ s.snd.fst < (↑l : Int)) ∧
 ∃ n_1,
 w.drew.cell? (a.add (Int.toNat s.snd.fst * 1)) = some (.int .i64 n_1) ∧
 ifB (n != n_1) (R (.bool false) w.drew) (K_1 (s_1.fst, IntKind.i64.wrap (s_1.snd.fst + 1), ()) w.drew))
 (K (s_1.fst, IntKind.i64.wrap (s.snd.fst + 1), ()) w))
 (s.fst, 0, ()) w)
 (R (.bool true) w))
 (s.fst, 0, ()) w))
 (s.fst, 0, ()) w))
 (false, 0, ()) w

theorem S100_eq (p0 : Addr) (w : World) (R : Value → World → Prop) : funX Go.Proofs.Tryz.prog 100 ⟨[(53832, (.op 0 (.op 1 (.op 2 (.op 3 (.op 4 (.op 5 (.op 6 (.op 7 (.op 8 (.op 9 (.op 10 (.op 11 (.op 12 (.op 13 (.op 14 (.op 15 (.op 16 (.op 17 (.done)))))))))))))))))), [])), (119368, (.op 0 (.op 1 (.op 2 (.op 3 (.op 4 (.op 5 (.op 6 (.op 7 (.op 8 (.op 9 (.op 10 (.op 11 (.op 12 (.op 13 (.op 14 (.op 15 (.op 16 (.op 17 (.op 18 (.done))))))))))))))))))), [])), (250440, (.op 0 (.op 1 (.op 2 (.op 3 (.op 4 (.op 5 (.op 6 (.op 7 (.op 8 (.op 9 (.op 10 (.op 11 (.op 12 (.op 13 (.op 14 (.op 15 (.op 16 (.op 17 (.op 18 (.done))))))))))))))))))), []))], [(26, [(2, .bool), (3, .int .i64)]), (1682, [(2, .bool), (4, .int .i64)]), (58, [(2, .bool), (5, .int .i64)]), (3730, [(2, .bool), (6, .int .i64)]), (122, [(2, .bool), (7, .int .i64)]), (7826, [(2, .bool), (8, .int .i64)])], []⟩ [(.pointer (some p0))] w R = S100 p0 w R := by kernel_rfl

/-- (*hearth/bitmap.Map).Next -/
def S99 (p0 : Addr) (n1 : Int) (w : World) (R : Value → World → Prop) : Prop :=
 ∃ n,
 w.cell? (p0.add 0) = some (.int .i64 n) ∧
 ifB (decide ((if 0 > n1 then 0 else n1) ≥ n)) (R (.int .i64 (-1)) w)
 (LoopX (Int × Int × Unit)
 (fun s w K =>
 ∃ a l c,
 w.cell? (p0.add 1) = some (.slice a l c) ∧
 ifB (decide (s.snd.fst < (↑l : Int)))
 (∃ n,
 w.drew.cell? (p0.add 0) = some (.int .i64 n) ∧
 ∃ a l c,
 w.drew.cell? (p0.add 1) = some (.slice a l c) ∧
 nilx a fun a =>
 (0 ≤ s.snd.fst ∧ s.snd.fst < (↑l : Int)) ∧
 ∃ n_1,
 w.drew.cell? (a.add (Int.toNat s.snd.fst * 1)) = some (.int .u64 n_1) ∧
 Calls prog 136 (Array.mk [.int .i64 s.snd.fst, .int .i64 (if 0 > n1 then 0 else n1), .int .i64 n]) w.drew fun y y_1 =>
 ∃ n,
 y = .returned (.int .u64 n) ∧
 (∀ (b : Nat) (o : Obj), w.drew.heap[b]? = some o → y_1.heap[b]? = some o) ∧
 ifB (IntKind.u64.wrap (↑(BitVec.ofInt 64 n_1 &&& BitVec.ofInt 64 n).toNat : Int) != 0)
 (Calls prog 137 (Array.mk [.int .u64 (IntKind.u64.wrap (↑(BitVec.ofInt 64 n_1 &&& BitVec.ofInt 64 n).toNat : Int))]) y_1 fun y y_2 =>
 ∃ n, y = .returned (.int .i64 n) ∧ R (.int .i64 (IntKind.i64.wrap (IntKind.i64.wrap (s.snd.fst * 64) + n))) y_2)
 (K (s.fst, IntKind.i64.wrap (s.snd.fst + 1), ()) y_1))
 (R (.int .i64 (-1)) w))
 (0, IntKind.i64.wrap ((if 0 > n1 then 0 else n1).tdiv 64), ()) w)

theorem S99_eq (p0 : Addr) (n1 : Int) (w : World) (R : Value → World → Prop) : funX Go.Proofs.Tryz.prog 99 ⟨[(3912, (.op 0 (.op 1 (.op 2 (.op 4 (.op 7 (.op 8 (.op 9 (.op 10 (.op 11 (.op 12 (.op 3 (.op 5 (.op 6 (.op 13 (.op 14 (.op 15 (.done)))))))))))))))), [13]))], [(122, [(4, .int .i64), (5, .int .i64)])], []⟩ [(.pointer (some p0)), (.int .i64 n1)] w R = S99 p0 n1 w R := by kernel_rfl

/-- (*hearth/pages.Table).All -/
def S98 (p0 : Addr) (w : World) (R : Value → World → Prop) : Prop :=
 ∃ a l c,
 w.cell? (p0.add 0) = some (.slice a l c) ∧
 ∃ old new,
 rdx w none 0 old ∧
 rdx w a (l * 3) new ∧
 (∀ (v : Value), List.Mem v new → isLeaf v = true) ∧
 (0 + l) * 24 ≤ 1099511627776 ∧
 canApp w none 0 0 l 3 ∧ ∀ (b : Option Addr) (c : Nat) (w' : World), AppTo w none 0 0 l 3 old new [.int .i64 0, .int .i64 0, .int .i64 0] 152 b c w' → R (.slice b (0 + l) c) w'

theorem S98_eq (p0 : Addr) (w : World) (R : Value → World → Prop) : funX Go.Proofs.Tryz.prog 98 ⟨[], [], []⟩ [(.pointer (some p0))] w R = S98 p0 w R := by kernel_rfl

/-- (*hearth/hearthlaw8.keep).markPages -/
def S97 (p0 : Addr) (s1 : Option Addr) (l1 c1 : Nat) (w : World) (R : Value → World → Prop) : Prop :=
 ∃ a l c,
 w.cell? (p0.add 10) = some (.slice a l c) ∧
 LoopX (Int × Unit)
 (fun s w K =>
 ifB (decide (s.fst < (↑l1 : Int)))
 (nilx s1 fun a =>
 (0 ≤ s.fst ∧ s.fst < (↑l1 : Int)) ∧
 stx w (a.add (Int.toNat s.fst * 3)) [.int .i64 (IntKind.i64.wrap (1000003 + (↑l : Int))), .int .i64 0, .int .i64 0] 0 fun w' => K (IntKind.i64.wrap (s.fst + 1), ()) w')
 (∃ a l_1 c,
 w.cell? (p0.add 7) = some (.slice a l_1 c) ∧
 atW (w.alloc (Obj.cells (Array.mk [.slice s1 l1 c1]) 78)) fun w' =>
 ∃ old new,
 rdx w' a (l_1 * 1) old ∧
 rdx w' (some (Addr.mk w.heap.size 0 none)) 1 new ∧
 (∀ (v : Value), List.Mem v new → isLeaf v = true) ∧
 (l_1 + 1) * 24 ≤ 1099511627776 ∧
 canApp w' a l_1 c 1 1 ∧
 ∀ (b : Option Addr) (c_1 : Nat) (w'_1 : World),
 AppTo w' a l_1 c 1 1 old new [.slice none 0 0] 78 b c_1 w'_1 →
 stx w'_1 (p0.add 7) [.slice b (l_1 + 1) c_1] 0 fun w' =>
 ∃ a l_2 c,
 w'.cell? (p0.add 10) = some (.slice a l_2 c) ∧
 atW (w'.alloc (Obj.cells (Array.mk [.int .i64 (IntKind.i64.wrap (1000003 + (↑l : Int)))]) 3)) fun w'_2 =>
 ∃ old new,
 rdx w'_2 a (l_2 * 1) old ∧
 rdx w'_2 (some (Addr.mk w'.heap.size 0 none)) 1 new ∧
 (∀ (v : Value), List.Mem v new → isLeaf v = true) ∧
 (l_2 + 1) * 8 ≤ 1099511627776 ∧
 canApp w'_2 a l_2 c 1 1 ∧
 ∀ (b : Option Addr) (c_2 : Nat) (w' : World),
 AppTo w'_2 a l_2 c 1 1 old new [.int .i64 0] 3 b c_2 w' →
 stx w' (p0.add 10) [.slice b (l_2 + 1) c_2] 0 fun w' =>
 LoopX (Int × Unit)
 (fun s w K =>
 ifB (decide (s.fst ≤ 80))
 (LoopX ((Option Addr × Nat × Nat) × Int × Unit)
 (fun s_1 w K_1 =>
 ifB (decide (s_1.snd.fst < s.fst))
 (atW (w.alloc (Obj.cells (Array.mk [.int .i64 (IntKind.i64.wrap (1000003 + (↑l : Int))), .int .i64 0, .int .i64 0]) 152)) fun w' =>
 ∃ old new,
 rdx w' s_1.fst.fst (s_1.fst.snd.fst * 3) old ∧
 rdx w' (some (Addr.mk w.heap.size 0 none)) 3 new ∧
 (∀ (v : Value), List.Mem v new → isLeaf v = true) ∧
 (s_1.fst.snd.fst + 1) * 24 ≤ 1099511627776 ∧
 canApp w' s_1.fst.fst s_1.fst.snd.fst s_1.fst.snd.snd 1 3 ∧
 ∀ (b : Option Addr) (c : Nat) (w'_3 : World),
 AppTo w' s_1.fst.fst s_1.fst.snd.fst s_1.fst.snd.snd 1 3 old new [.int .i64 0, .int .i64 0, .int .i64 0] 152 b c
 w'_3 →
 K_1 ((b, s_1.fst.snd.fst + 1, c), IntKind.i64.wrap (s_1.snd.fst + 1), ()) w'_3)
 (∃ a l_3 c,
 w.cell? (p0.add 7) = some (.slice a l_3 c) ∧
 atW (w.alloc (Obj.cells (Array.mk [.slice s_1.fst.fst s_1.fst.snd.fst s_1.fst.snd.snd]) 78)) fun w' =>
 ∃ old new,
 rdx w' a (l_3 * 1) old ∧
 rdx w' (some (Addr.mk w.heap.size 0 none)) 1 new ∧
 (∀ (v : Value), List.Mem v new → isLeaf v = true) ∧
 (l_3 + 1) * 24 ≤ 1099511627776 ∧
 canApp w' a l_3 c 1 1 ∧
 ∀ (b : Option Addr) (c_3 : Nat) (w'_3 : World),
 AppTo w' a l_3 c 1 1 old new [.slice none 0 0] 78 b c_3 w'_3 →
 stx w'_3 (p0.add 7) [.slice b (l_3 + 1) c_3] 0 fun w' =>
 ∃ a l_4 c,
 w'.cell? (p0.add 10) = some (.slice a l_4 c) ∧
 atW (w'.alloc (Obj.cells (Array.mk [.int .i64 (IntKind.i64.wrap (1000003 + (↑l : Int)))]) 3)) fun w'_4 =>
 ∃ old new,
 rdx w'_4 a (l_4 * 1) old ∧
 rdx w'_4 (some (Addr.mk w'.heap.size 0 none)) 1 new ∧
 (∀ (v : Value), List.Mem v new → isLeaf v = true) ∧
 (l_4 + 1) * 8 ≤ 1099511627776 ∧
 canApp w'_4 a l_4 c 1 1 ∧
 ∀ (b : Option Addr) (c_4 : Nat) (w' : World),
 AppTo w'_4 a l_4 c 1 1 old new [.int .i64 0] 3 b c_4 w' →
 stx w' (p0.add 10) [.slice b (l_4 + 1) c_4] 0 fun w' => K (IntKind.i64.wrap (s.fst + s.fst), ()) w'))
 ((s1, l1, c1), 0, ()) w)
 (R (.tuple (Array.mk [])) w))
 (1, ()) w'))
 (0, ()) w

theorem S97_eq (p0 : Addr) (s1 : Option Addr) (l1 c1 : Nat) (w : World) (R : Value → World → Prop) : funX Go.Proofs.Tryz.prog 97 ⟨[], [(26, [(5, .int .i64)]), (126, [(6, .int .i64)]), (32330, [(7, .slice), (8, .int .i64)])], []⟩ [(.pointer (some p0)), (.slice s1 l1 c1)] w R = S97 p0 s1 l1 c1 w R := by kernel_rfl

/-- (*hearth/hearthlaw8.keep).markWords -/
def S96 (p0 : Addr) (s1 : Option Addr) (l1 c1 : Nat) (w : World) (R : Value → World → Prop) : Prop :=
 ∃ a l c,
 w.cell? (p0.add 9) = some (.slice a l c) ∧
 LoopX (Int × Unit)
 (fun s w K =>
 ifB (decide (s.fst < (↑l1 : Int)))
 (nilx s1 fun a => (0 ≤ s.fst ∧ s.fst < (↑l1 : Int)) ∧ stx w (a.add (Int.toNat s.fst * 1)) [.int .i64 (IntKind.i64.wrap (1000003 + (↑l : Int)))] 0 fun w' => K (IntKind.i64.wrap (s.fst + 1), ()) w')
 (∃ a l_1 c,
 w.cell? (p0.add 6) = some (.slice a l_1 c) ∧
 atW (w.alloc (Obj.cells (Array.mk [.slice s1 l1 c1]) 30)) fun w' =>
 ∃ old new,
 rdx w' a (l_1 * 1) old ∧
 rdx w' (some (Addr.mk w.heap.size 0 none)) 1 new ∧
 (∀ (v : Value), List.Mem v new → isLeaf v = true) ∧
 (l_1 + 1) * 24 ≤ 1099511627776 ∧
 canApp w' a l_1 c 1 1 ∧
 ∀ (b : Option Addr) (c_1 : Nat) (w'_1 : World),
 AppTo w' a l_1 c 1 1 old new [.slice none 0 0] 30 b c_1 w'_1 →
 stx w'_1 (p0.add 6) [.slice b (l_1 + 1) c_1] 0 fun w' =>
 ∃ a l_2 c,
 w'.cell? (p0.add 9) = some (.slice a l_2 c) ∧
 atW (w'.alloc (Obj.cells (Array.mk [.int .i64 (IntKind.i64.wrap (1000003 + (↑l : Int)))]) 3)) fun w'_2 =>
 ∃ old new,
 rdx w'_2 a (l_2 * 1) old ∧
 rdx w'_2 (some (Addr.mk w'.heap.size 0 none)) 1 new ∧
 (∀ (v : Value), List.Mem v new → isLeaf v = true) ∧
 (l_2 + 1) * 8 ≤ 1099511627776 ∧
 canApp w'_2 a l_2 c 1 1 ∧
 ∀ (b : Option Addr) (c_2 : Nat) (w' : World),
 AppTo w'_2 a l_2 c 1 1 old new [.int .i64 0] 3 b c_2 w' →
 stx w' (p0.add 9) [.slice b (l_2 + 1) c_2] 0 fun w' =>
 LoopX (Int × Unit)
 (fun s w K =>
 ifB (decide (s.fst ≤ 80))
 (LoopX ((Option Addr × Nat × Nat) × Int × Unit)
 (fun s_1 w K_1 =>
 ifB (decide (s_1.snd.fst < s.fst))
 (atW (w.alloc (Obj.cells (Array.mk [.int .i64 (IntKind.i64.wrap (1000003 + (↑l : Int)))]) 3)) fun w' =>
 ∃ old new,
 rdx w' s_1.fst.fst (s_1.fst.snd.fst * 1) old ∧
 rdx w' (some (Addr.mk w.heap.size 0 none)) 1 new ∧
 (∀ (v : Value), List.Mem v new → isLeaf v = true) ∧
 (s_1.fst.snd.fst + 1) * 8 ≤ 1099511627776 ∧
 canApp w' s_1.fst.fst s_1.fst.snd.fst s_1.fst.snd.snd 1 1 ∧
 ∀ (b : Option Addr) (c : Nat) (w'_3 : World),
 AppTo w' s_1.fst.fst s_1.fst.snd.fst s_1.fst.snd.snd 1 1 old new [.int .i64 0] 3 b c w'_3 →
 K_1 ((b, s_1.fst.snd.fst + 1, c), IntKind.i64.wrap (s_1.snd.fst + 1), ()) w'_3)
 (∃ a l_3 c,
 w.cell? (p0.add 6) = some (.slice a l_3 c) ∧
 atW (w.alloc (Obj.cells (Array.mk [.slice s_1.fst.fst s_1.fst.snd.fst s_1.fst.snd.snd]) 30)) fun w' =>
 ∃ old new,
 rdx w' a (l_3 * 1) old ∧
 rdx w' (some (Addr.mk w.heap.size 0 none)) 1 new ∧
 (∀ (v : Value), List.Mem v new → isLeaf v = true) ∧
 (l_3 + 1) * 24 ≤ 1099511627776 ∧
 canApp w' a l_3 c 1 1 ∧
 ∀ (b : Option Addr) (c_3 : Nat) (w'_3 : World),
 AppTo w' a l_3 c 1 1 old new [.slice none 0 0] 30 b c_3 w'_3 →
 stx w'_3 (p0.add 6) [.slice b (l_3 + 1) c_3] 0 fun w' =>
 ∃ a l_4 c,
 w'.cell? (p0.add 9) = some (.slice a l_4 c) ∧
 atW (w'.alloc (Obj.cells (Array.mk [.int .i64 (IntKind.i64.wrap (1000003 + (↑l : Int)))]) 3)) fun w'_4 =>
 ∃ old new,
 rdx w'_4 a (l_4 * 1) old ∧
 rdx w'_4 (some (Addr.mk w'.heap.size 0 none)) 1 new ∧
 (∀ (v : Value), List.Mem v new → isLeaf v = true) ∧
 (l_4 + 1) * 8 ≤ 1099511627776 ∧
 canApp w'_4 a l_4 c 1 1 ∧
 ∀ (b : Option Addr) (c_4 : Nat) (w' : World),
 AppTo w'_4 a l_4 c 1 1 old new [.int .i64 0] 3 b c_4 w' →
 stx w' (p0.add 9) [.slice b (l_4 + 1) c_4] 0 fun w' => K (IntKind.i64.wrap (s.fst + s.fst), ()) w'))
 ((s1, l1, c1), 0, ()) w)
 (R (.tuple (Array.mk [])) w))
 (1, ()) w'))
 (0, ()) w

theorem S96_eq (p0 : Addr) (s1 : Option Addr) (l1 c1 : Nat) (w : World) (R : Value → World → Prop) : funX Go.Proofs.Tryz.prog 96 ⟨[], [(26, [(5, .int .i64)]), (126, [(6, .int .i64)]), (32330, [(7, .slice), (8, .int .i64)])], []⟩ [(.pointer (some p0)), (.slice s1 l1 c1)] w R = S96 p0 s1 l1 c1 w R := by kernel_rfl

end Go.Wx
end
section
/- WRITTEN BY A PROGRAM (wip/gen): what each function's code asks for, by the framework's precondition, in short form; each is checked by the kernel to be that precondition. -/
set_option maxRecDepth 100000
set_option linter.unusedVariables false
namespace Go.Wx
open Go Proofs.Tryz

/-- hearth/hearthlaw8.samePages -/
def S95 (s0 : Option Addr) (l0 c0 : Nat) (s1 : Option Addr) (l1 c1 : Nat) (w : World) (R : Value → World → Prop) : Prop :=
 ifB ((↑l0 : Int) != (↑l1 : Int)) (R (.bool false) w)
 (LoopX (Bool × Int × Unit)
 (fun s w K =>
 ifB (decide (s.snd.fst < (↑l0 : Int)))
 (nilx s0 fun a =>
 (0 ≤ s.snd.fst ∧ s.snd.fst < (↑l0 : Int)) ∧
 ∃ n,
 w.drew.cell? ((a.add (Int.toNat s.snd.fst * 3)).add 0) = some (.int .i64 n) ∧
 ∃ n_1,
 w.drew.cell? ((a.add (Int.toNat s.snd.fst * 3)).add 1) = some (.int .i64 n_1) ∧
 ∃ n_2,
 w.drew.cell? ((a.add (Int.toNat s.snd.fst * 3)).add 2) = some (.int .i64 n_2) ∧
 nilx s1 fun a =>
 (0 ≤ s.snd.fst ∧ s.snd.fst < (↑l1 : Int)) ∧
 ∃ n_3,
 w.drew.cell? ((a.add (Int.toNat s.snd.fst * 3)).add 0) = some (.int .i64 n_3) ∧
 ∃ n_4,
 w.drew.cell? ((a.add (Int.toNat s.snd.fst * 3)).add 1) = some (.int .i64 n_4) ∧
 ∃ n_5,
 w.drew.cell? ((a.add (Int.toNat s.snd.fst * 3)).add 2) = some (.int .i64 n_5) ∧
 ifB (!(n == n_3 && (n_1 == n_4 && (n_2 == n_5 && true)))) (R (.bool false) w.drew) (K (s.fst, IntKind.i64.wrap (s.snd.fst + 1), ()) w.drew))
 (R (.bool true) w))
 (false, 0, ()) w)

theorem S95_eq (s0 : Option Addr) (l0 c0 : Nat) (s1 : Option Addr) (l1 c1 : Nat) (w : World) (R : Value → World → Prop) : funX Go.Proofs.Tryz.prog 95 ⟨[(1864, (.op 0 (.op 1 (.op 2 (.op 3 (.op 4 (.op 5 (.op 6 (.op 7 (.op 8 (.done))))))))), []))], [(58, [(4, .bool), (5, .int .i64)])], []⟩ [(.slice s0 l0 c0), (.slice s1 l1 c1)] w R = S95 s0 l0 c0 s1 l1 c1 w R := by kernel_rfl

/-- hearth/hearthlaw8.sameInts -/
def S94 (s0 : Option Addr) (l0 c0 : Nat) (s1 : Option Addr) (l1 c1 : Nat) (w : World) (R : Value → World → Prop) : Prop :=
 ifB ((↑l0 : Int) != (↑l1 : Int)) (R (.bool false) w)
 (LoopX (Bool × Int × Unit)
 (fun s w K =>
 ifB (decide (s.snd.fst < (↑l0 : Int)))
 (nilx s0 fun a =>
 (0 ≤ s.snd.fst ∧ s.snd.fst < (↑l0 : Int)) ∧
 ∃ n,
 w.drew.cell? (a.add (Int.toNat s.snd.fst * 1)) = some (.int .i64 n) ∧
 nilx s1 fun a =>
 (0 ≤ s.snd.fst ∧ s.snd.fst < (↑l1 : Int)) ∧
 ∃ n_1, w.drew.cell? (a.add (Int.toNat s.snd.fst * 1)) = some (.int .i64 n_1) ∧ ifB (n != n_1) (R (.bool false) w.drew) (K (s.fst, IntKind.i64.wrap (s.snd.fst + 1), ()) w.drew))
 (R (.bool true) w))
 (false, 0, ()) w)

theorem S94_eq (s0 : Option Addr) (l0 c0 : Nat) (s1 : Option Addr) (l1 c1 : Nat) (w : World) (R : Value → World → Prop) : funX Go.Proofs.Tryz.prog 94 ⟨[(1864, (.op 0 (.op 1 (.op 2 (.op 3 (.op 4 (.op 5 (.op 6 (.op 7 (.op 8 (.done))))))))), []))], [(58, [(4, .bool), (5, .int .i64)])], []⟩ [(.slice s0 l0 c0), (.slice s1 l1 c1)] w R = S94 s0 l0 c0 s1 l1 c1 w R := by kernel_rfl

/-- hearth/hearthref8.room -/
def S93 (n0 : Int) (w : World) (R : Value → World → Prop) : Prop :=
 Calls prog 113 (Array.mk [.int .i64 n0]) w fun y y_1 =>
 ∃ n,
 y = .returned (.int .i64 n) ∧
 ifB (decide (n > 0)) (Calls prog 113 (Array.mk [.int .i64 n0]) y_1 fun y y_2 => ∃ n, y = .returned (.int .i64 n) ∧ R (.int .i64 (IntKind.i64.wrap (n * 64))) y_2)
 (Calls prog 62 (Array.mk [.int .i64 n0]) y_1 fun y y_2 =>
 ∃ n, y = .returned (.int .i64 n) ∧ Calls prog 115 (Array.mk [.int .i64 n]) y_2 fun y y_3 => ∃ n, y = .returned (.int .i64 n) ∧ R (.int .i64 n) y_3)

theorem S93_eq (n0 : Int) (w : World) (R : Value → World → Prop) : funX Go.Proofs.Tryz.prog 93 ⟨[], [], []⟩ [(.int .i64 n0)] w R = S93 n0 w R := by kernel_rfl

/-- (*hearth/space.Space).link -/
def S92 (p0 : Addr) (n1 : Int) (n2 : Int) (w : World) (R : Value → World → Prop) : Prop :=
 (0 ≤ n1 ∧ n1 < 8) ∧
 ∃ p,
 w.cell? ((p0.add 3).add (n1.toNat * 1)) = some (.pointer p) ∧
 Calls prog 99 (Array.mk [.pointer p, .int .i64 (IntKind.i64.wrap (n2 + 1))]) w fun y y_1 =>
 ∃ n, y = .returned (.int .i64 n) ∧ Calls prog 135 (Array.mk [.int .i64 n]) y_1 fun y y_2 => ∃ n, y = .returned (.int .i64 n) ∧ R (.int .i64 n) y_2

theorem S92_eq (p0 : Addr) (n1 : Int) (n2 : Int) (w : World) (R : Value → World → Prop) : funX Go.Proofs.Tryz.prog 92 ⟨[], [], []⟩ [(.pointer (some p0)), (.int .i64 n1), (.int .i64 n2)] w R = S92 p0 n1 n2 w R := by kernel_rfl

/-- (*hearth/bitmap.Map).All -/
def S91 (p0 : Addr) (w : World) (R : Value → World → Prop) : Prop :=
 atW (w.alloc (Obj.cells (Array.mk [.pointer (some p0)]) 88)) fun w' => R (Value.func (Fn.func 134) (Array.mk []) (Array.mk [.pointer (some (Addr.mk w.heap.size 0 none))])) w'

theorem S91_eq (p0 : Addr) (w : World) (R : Value → World → Prop) : funX Go.Proofs.Tryz.prog 91 ⟨[], [], []⟩ [(.pointer (some p0))] w R = S91 p0 w R := by kernel_rfl

/-- (*hearth/hearthlaw8.pair).gone$1 -/
def S90 (n0_0 : Int) (n0_1 : Int) (n0_2 : Int) (n0_3 : Int) (n0_4 : Int) (p1 : Addr) (p2 : Addr) (p3 : Addr) (p4 : Addr) (p5 : Addr) (p6 : Addr) (w : World) (R : Value → World → Prop) : Prop :=
 atW (w.alloc (Obj.cells (Array.mk [.int .i64 n0_0, .int .i64 n0_1, .int .i64 n0_2, .int .i64 n0_3, .int .i64 n0_4]) 106)) fun w' =>
 JoinX (Bool × Unit)
 (fun K =>
 ∃ b,
 w'.cell? p1 = some (.bool b) ∧
 ifB (!b) (stx w' p1 [.bool false] 0 fun w' => R (.bool false) w')
 (∃ b,
 w'.cell? p2 = some (.bool b) ∧
 ifB (!b) (stx w' p1 [.bool false] 0 fun w' => R (.bool false) w')
 (∃ n,
 w'.cell? ((Addr.mk w.heap.size 0 none).add 0) = some (.int .i64 n) ∧
 ∃ n_1,
 w'.cell? ((Addr.mk w.heap.size 0 none).add 1) = some (.int .i64 n_1) ∧
 ∃ n_2,
 w'.cell? ((Addr.mk w.heap.size 0 none).add 2) = some (.int .i64 n_2) ∧
 ∃ n_3,
 w'.cell? ((Addr.mk w.heap.size 0 none).add 3) = some (.int .i64 n_3) ∧
 ∃ n_4,
 w'.cell? ((Addr.mk w.heap.size 0 none).add 4) = some (.int .i64 n_4) ∧
 ∃ n_5,
 w'.cell? (p3.add 0) = some (.int .i64 n_5) ∧
 ∃ n_6,
 w'.cell? (p3.add 1) = some (.int .i64 n_6) ∧
 ∃ n_7,
 w'.cell? (p3.add 2) = some (.int .i64 n_7) ∧
 ∃ n_8,
 w'.cell? (p3.add 3) = some (.int .i64 n_8) ∧
 ∃ n_9,
 w'.cell? (p3.add 4) = some (.int .i64 n_9) ∧
 ifB (!(n == n_5 && (n_1 == n_6 && (n_2 == n_7 && (n_3 == n_8 && (n_4 == n_9 && true)))))) (stx w' p1 [.bool false] 0 fun w' => R (.bool false) w')
 (∃ n,
 w'.cell? (p4.add 2) = some (.int .i64 n) ∧
 ifB (decide (n ≥ 1))
 (∃ n,
 w'.cell? p5 = some (.int .i64 n) ∧
 ∃ n_10,
 w'.cell? (p4.add 2) = some (.int .i64 n_10) ∧ ifB (decide (n ≥ n_10)) (stx w' p1 [.bool false] 0 fun w' => R (.bool false) w') (K (false, ()) w'))
 (K (false, ()) w')))))
 fun s w' =>
 ∃ n,
 w'.cell? p5 = some (.int .i64 n) ∧
 stx w' p5 [.int .i64 (IntKind.i64.wrap (n + 1))] 0 fun w' =>
 JoinX Unit
 (fun K =>
 ∃ n,
 w'.cell? p5 = some (.int .i64 n) ∧
 ∃ n_1,
 w'.cell? (p4.add 3) = some (.int .i64 n_1) ∧
 ifB (n == n_1)
 (∃ n,
 w'.cell? (p4.add 4) = some (.int .i64 n) ∧
 ifB (IntKind.i64.wrap (↑(BitVec.ofInt 64 n &&& BitVec.ofInt 64 1).toNat : Int) == 0)
 (∃ p,
 w'.cell? p6 = some (.pointer p) ∧
 Calls prog 14
 (Array.mk [.pointer p, .agg (Array.mk [.int .i64 0, .int .i64 1, .int .i64 1, .int .i64 3, .int .i64 0, .slice none 0 0])]) w'
 fun y y_1 => ∃ b, y = .returned (.bool b) ∧ stx y_1 p1 [.bool b] 0 fun w' => K () w')
 (K () w'))
 (K () w'))
 fun s w' =>
 JoinX Unit
 (fun K =>
 ∃ n,
 w'.cell? p5 = some (.int .i64 n) ∧
 ∃ n_1,
 w'.cell? (p4.add 3) = some (.int .i64 n_1) ∧
 ifB (n == n_1)
 (∃ n,
 w'.cell? (p4.add 4) = some (.int .i64 n) ∧
 ifB (IntKind.i64.wrap (↑(BitVec.ofInt 64 n &&& BitVec.ofInt 64 1).toNat : Int) == 1)
 (∃ p,
 w'.cell? p6 = some (.pointer p) ∧
 ∃ n,
 w'.cell? ((Addr.mk w.heap.size 0 none).add 0) = some (.int .i64 n) ∧
 atW (w'.alloc (Obj.cells (Array.mk [.int .i64 n]) 3)) fun w'_1 =>
 Calls prog 30 (Array.mk [.pointer p, .slice (some (Addr.mk w'.heap.size 0 none)) 1 1]) w'_1 fun y y_1 =>
 ∃ b, y = .returned (.bool b) ∧ stx y_1 p1 [.bool b] 0 fun w' => K () w')
 (K () w'))
 (K () w'))
 fun s w' =>
 ∃ p,
 w'.cell? p6 = some (.pointer p) ∧
 ∃ n,
 w'.cell? ((Addr.mk w.heap.size 0 none).add 0) = some (.int .i64 n) ∧
 Calls prog 89 (Array.mk [.pointer p, .int .i64 n]) w' fun y y_1 =>
 ∃ n n_1 n_2 n_3 n_4 b,
 y =
 .returned
 (.tuple (Array.mk [.agg (Array.mk [.int .i64 n, .int .i64 n_1, .int .i64 n_2, .int .i64 n_3, .int .i64 n_4]), .bool b])) ∧
 stx y_1 p3 [.int .i64 n, .int .i64 n_1, .int .i64 n_2, .int .i64 n_3, .int .i64 n_4] 0 fun w' =>
 stx w' p2 [.bool b] 0 fun w' =>
 ∃ n,
 w'.cell? (p4.add 2) = some (.int .i64 n) ∧
 ifB (decide (n < 1)) (R (.bool true) w') (∃ n, w'.cell? p5 = some (.int .i64 n) ∧ ∃ n_5, w'.cell? (p4.add 2) = some (.int .i64 n_5) ∧ R (.bool (decide (n < n_5))) w')

theorem S90_eq (n0_0 : Int) (n0_1 : Int) (n0_2 : Int) (n0_3 : Int) (n0_4 : Int) (p1 : Addr) (p2 : Addr) (p3 : Addr) (p4 : Addr) (p5 : Addr) (p6 : Addr) (w : World) (R : Value → World → Prop) : funX Go.Proofs.Tryz.prog 90 ⟨[], [], [(3, [(8, .bool)]), (15, []), (31, [])]⟩ [(.agg #[(.int .i64 n0_0), (.int .i64 n0_1), (.int .i64 n0_2), (.int .i64 n0_3), (.int .i64 n0_4)]), (.pointer (some p1)), (.pointer (some p2)), (.pointer (some p3)), (.pointer (some p4)), (.pointer (some p5)), (.pointer (some p6))] w R = S90 n0_0 n0_1 n0_2 n0_3 n0_4 p1 p2 p3 p4 p5 p6 w R := by kernel_rfl

/-- (*hearth/hearthlaw8.pair).after -/
def S89 (p0 : Addr) (n1 : Int) (w : World) (R : Value → World → Prop) : Prop :=
 atW (w.alloc (Obj.cells (Array.mk [.int .i64 0, .int .i64 0, .int .i64 0, .int .i64 0, .int .i64 0]) 106)) fun w' =>
 LoopX (Int × Bool × Unit)
 (fun s w_1 K =>
 ∃ p,
 w_1.cell? (p0.add 1) = some (.pointer p) ∧
 nilx p fun a =>
 ∃ a_1 l c,
 w_1.cell? (a.add 2) = some (.slice a_1 l c) ∧
 ifB (decide (s.fst < (↑l : Int)))
 (∃ p,
 w_1.cell? (p0.add 1) = some (.pointer p) ∧
 nilx p fun a =>
 ∃ a_2 l c,
 w_1.cell? (a.add 2) = some (.slice a_2 l c) ∧
 nilx a_2 fun a =>
 (0 ≤ s.fst ∧ s.fst < (↑l : Int)) ∧
 ∃ n,
 w_1.cell? ((a.add (Int.toNat s.fst * 5)).add 1) = some (.int .i64 n) ∧
 ifB (n != 0)
 (∃ p,
 w_1.cell? (p0.add 1) = some (.pointer p) ∧
 nilx p fun a =>
 ∃ a_3 l c,
 w_1.cell? (a.add 2) = some (.slice a_3 l c) ∧
 nilx a_3 fun a =>
 (0 ≤ s.fst ∧ s.fst < (↑l : Int)) ∧
 ∃ n,
 w_1.cell? ((a.add (Int.toNat s.fst * 5)).add 0) = some (.int .i64 n) ∧
 ∃ n_1,
 w_1.cell? ((a.add (Int.toNat s.fst * 5)).add 1) = some (.int .i64 n_1) ∧
 ∃ n_2,
 w_1.cell? ((a.add (Int.toNat s.fst * 5)).add 2) = some (.int .i64 n_2) ∧
 ∃ n_3,
 w_1.cell? ((a.add (Int.toNat s.fst * 5)).add 3) = some (.int .i64 n_3) ∧
 ∃ n_4,
 w_1.cell? ((a.add (Int.toNat s.fst * 5)).add 4) = some (.int .i64 n_4) ∧
 stx w_1 (Addr.mk w.heap.size 0 none)
 [.int .i64 n, .int .i64 n_1, .int .i64 n_2, .int .i64 n_3, .int .i64 n_4] 0 fun w' =>
 ∃ n,
 w'.cell? ((Addr.mk w.heap.size 0 none).add 0) = some (.int .i64 n) ∧
 ∃ n_5,
 w'.cell? ((Addr.mk w.heap.size 0 none).add 1) = some (.int .i64 n_5) ∧
 ∃ n_6,
 w'.cell? ((Addr.mk w.heap.size 0 none).add 2) = some (.int .i64 n_6) ∧
 ∃ n_7,
 w'.cell? ((Addr.mk w.heap.size 0 none).add 3) = some (.int .i64 n_7) ∧
 ∃ n_8,
 w'.cell? ((Addr.mk w.heap.size 0 none).add 4) = some (.int .i64 n_8) ∧
 R
 (.tuple
 (Array.mk
 [.agg
 (Array.mk
 [.int .i64 n, .int .i64 n_5, .int .i64 n_6, .int .i64 n_7,
 .int .i64 n_8]),
 .bool true]))
 w')
 (K (IntKind.i64.wrap (s.fst + 1), s.snd.fst, ()) w_1))
 (stx w_1 (Addr.mk w.heap.size 0 none) [.int .i64 0, .int .i64 0, .int .i64 0, .int .i64 0, .int .i64 0] 0 fun w' =>
 ∃ n,
 w'.cell? ((Addr.mk w.heap.size 0 none).add 0) = some (.int .i64 n) ∧
 ∃ n_1,
 w'.cell? ((Addr.mk w.heap.size 0 none).add 1) = some (.int .i64 n_1) ∧
 ∃ n_2,
 w'.cell? ((Addr.mk w.heap.size 0 none).add 2) = some (.int .i64 n_2) ∧
 ∃ n_3,
 w'.cell? ((Addr.mk w.heap.size 0 none).add 3) = some (.int .i64 n_3) ∧
 ∃ n_4,
 w'.cell? ((Addr.mk w.heap.size 0 none).add 4) = some (.int .i64 n_4) ∧
 R
 (.tuple
 (Array.mk [.agg (Array.mk [.int .i64 n, .int .i64 n_1, .int .i64 n_2, .int .i64 n_3, .int .i64 n_4]), .bool false]))
 w'))
 (IntKind.i64.wrap (n1 + 1), false, ()) w'

theorem S89_eq (p0 : Addr) (n1 : Int) (w : World) (R : Value → World → Prop) : funX Go.Proofs.Tryz.prog 89 ⟨[], [(26, [(1, .int .i64), (5, .bool)])], []⟩ [(.pointer (some p0)), (.int .i64 n1)] w R = S89 p0 n1 w R := by kernel_rfl

/-- (*hearth/space.Space).All -/
def S88 (p0 : Addr) (w : World) (R : Value → World → Prop) : Prop :=
 atW (w.alloc (Obj.cells (Array.mk [.pointer (some p0)]) 34)) fun w' => R (Value.func (Fn.func 133) (Array.mk []) (Array.mk [.pointer (some (Addr.mk w.heap.size 0 none))])) w'

theorem S88_eq (p0 : Addr) (w : World) (R : Value → World → Prop) : funX Go.Proofs.Tryz.prog 88 ⟨[], [], []⟩ [(.pointer (some p0))] w R = S88 p0 w R := by kernel_rfl

/-- (*hearth/hearthlaw8.keep).markBlocks -/
def S87 (p0 : Addr) (s1 : Option Addr) (l1 c1 : Nat) (w : World) (R : Value → World → Prop) : Prop :=
 ∃ a l c,
 w.cell? (p0.add 11) = some (.slice a l c) ∧
 LoopX (Int × Unit)
 (fun s w K =>
 ifB (decide (s.fst < (↑l1 : Int)))
 (nilx s1 fun a =>
 (0 ≤ s.fst ∧ s.fst < (↑l1 : Int)) ∧
 stx w (a.add (Int.toNat s.fst * 5)) [.int .i64 0, .int .i64 (IntKind.i64.wrap (1000003 + (↑l : Int))), .int .i64 0, .int .i64 0, .int .i64 0] 0 fun w' =>
 K (IntKind.i64.wrap (s.fst + 1), ()) w')
 (∃ a l_1 c,
 w.cell? (p0.add 8) = some (.slice a l_1 c) ∧
 atW (w.alloc (Obj.cells (Array.mk [.slice s1 l1 c1]) 70)) fun w' =>
 ∃ old new,
 rdx w' a (l_1 * 1) old ∧
 rdx w' (some (Addr.mk w.heap.size 0 none)) 1 new ∧
 (∀ (v : Value), List.Mem v new → isLeaf v = true) ∧
 (l_1 + 1) * 24 ≤ 1099511627776 ∧
 canApp w' a l_1 c 1 1 ∧
 ∀ (b : Option Addr) (c_1 : Nat) (w'_1 : World),
 AppTo w' a l_1 c 1 1 old new [.slice none 0 0] 70 b c_1 w'_1 →
 stx w'_1 (p0.add 8) [.slice b (l_1 + 1) c_1] 0 fun w' =>
 ∃ a l_2 c,
 w'.cell? (p0.add 11) = some (.slice a l_2 c) ∧
 atW (w'.alloc (Obj.cells (Array.mk [.int .i64 (IntKind.i64.wrap (1000003 + (↑l : Int)))]) 3)) fun w'_2 =>
 ∃ old new,
 rdx w'_2 a (l_2 * 1) old ∧
 rdx w'_2 (some (Addr.mk w'.heap.size 0 none)) 1 new ∧
 (∀ (v : Value), List.Mem v new → isLeaf v = true) ∧
 (l_2 + 1) * 8 ≤ 1099511627776 ∧
 canApp w'_2 a l_2 c 1 1 ∧
 ∀ (b : Option Addr) (c_2 : Nat) (w' : World),
 AppTo w'_2 a l_2 c 1 1 old new [.int .i64 0] 3 b c_2 w' →
 stx w' (p0.add 11) [.slice b (l_2 + 1) c_2] 0 fun w' =>
 LoopX (Int × Unit)
 (fun s w K =>
 ifB (decide (s.fst ≤ 80))
 (LoopX ((Option Addr × Nat × Nat) × Int × Unit)
 (fun s_1 w K_1 =>
 ifB (decide (s_1.snd.fst < s.fst))
 (atW
 (w.alloc
 (Obj.cells
 (Array.mk
 [.int .i64 0, .int .i64 (IntKind.i64.wrap (1000003 + (↑l : Int))), .int .i64 0, .int .i64 0,
 .int .i64 0])
 106))
 fun w' =>
 ∃ old new,
 rdx w' s_1.fst.fst (s_1.fst.snd.fst * 5) old ∧
 rdx w' (some (Addr.mk w.heap.size 0 none)) 5 new ∧
 (∀ (v : Value), List.Mem v new → isLeaf v = true) ∧
 (s_1.fst.snd.fst + 1) * 40 ≤ 1099511627776 ∧
 canApp w' s_1.fst.fst s_1.fst.snd.fst s_1.fst.snd.snd 1 5 ∧
 ∀ (b : Option Addr) (c : Nat) (w'_3 : World),
 AppTo w' s_1.fst.fst s_1.fst.snd.fst s_1.fst.snd.snd 1 5 old new
 [.int .i64 0, .int .i64 0, .int .i64 0, .int .i64 0, .int .i64 0] 106 b c w'_3 →
 K_1 ((b, s_1.fst.snd.fst + 1, c), IntKind.i64.wrap (s_1.snd.fst + 1), ()) w'_3)
 (∃ a l_3 c,
 w.cell? (p0.add 8) = some (.slice a l_3 c) ∧
 atW (w.alloc (Obj.cells (Array.mk [.slice s_1.fst.fst s_1.fst.snd.fst s_1.fst.snd.snd]) 70)) fun w' =>
 ∃ old new,
 rdx w' a (l_3 * 1) old ∧
 rdx w' (some (Addr.mk w.heap.size 0 none)) 1 new ∧
 (∀ (v : Value), List.Mem v new → isLeaf v = true) ∧
 (l_3 + 1) * 24 ≤ 1099511627776 ∧
 canApp w' a l_3 c 1 1 ∧
 ∀ (b : Option Addr) (c_3 : Nat) (w'_3 : World),
 AppTo w' a l_3 c 1 1 old new [.slice none 0 0] 70 b c_3 w'_3 →
 stx w'_3 (p0.add 8) [.slice b (l_3 + 1) c_3] 0 fun w' =>
 ∃ a l_4 c,
 w'.cell? (p0.add 11) = some (.slice a l_4 c) ∧
 atW (w'.alloc (Obj.cells (Array.mk [.int .i64 (IntKind.i64.wrap (1000003 + (↑l : Int)))]) 3)) fun w'_4 =>
 ∃ old new,
 rdx w'_4 a (l_4 * 1) old ∧
 rdx w'_4 (some (Addr.mk w'.heap.size 0 none)) 1 new ∧
 (∀ (v : Value), List.Mem v new → isLeaf v = true) ∧
 (l_4 + 1) * 8 ≤ 1099511627776 ∧
 canApp w'_4 a l_4 c 1 1 ∧
 ∀ (b : Option Addr) (c_4 : Nat) (w' : World),
 AppTo w'_4 a l_4 c 1 1 old new [.int .i64 0] 3 b c_4 w' →
 stx w' (p0.add 11) [.slice b (l_4 + 1) c_4] 0 fun w' => K (IntKind.i64.wrap (s.fst + s.fst), ()) w'))
 ((s1, l1, c1), 0, ()) w)
 (R (.tuple (Array.mk [])) w))
 (1, ()) w'))
 (0, ()) w

theorem S87_eq (p0 : Addr) (s1 : Option Addr) (l1 c1 : Nat) (w : World) (R : Value → World → Prop) : funX Go.Proofs.Tryz.prog 87 ⟨[], [(26, [(5, .int .i64)]), (126, [(6, .int .i64)]), (32330, [(7, .slice), (8, .int .i64)])], []⟩ [(.pointer (some p0)), (.slice s1 l1 c1)] w R = S87 p0 s1 l1 c1 w R := by kernel_rfl

/-- (*hearth/hearthlaw8.keep).many -/
def S86 (p0 : Addr) (w : World) (R : Value → World → Prop) : Prop :=
 ∃ a l c, w.drew.cell? (p0.add 0) = some (.slice a l c) ∧ ∃ a l_1 c, w.drew.cell? (p0.add 4) = some (.slice a l_1 c) ∧ R (.bool (decide (IntKind.i64.wrap ((↑l : Int) + (↑l_1 : Int)) > 30))) w.drew

theorem S86_eq (p0 : Addr) (w : World) (R : Value → World → Prop) : funX Go.Proofs.Tryz.prog 86 ⟨[(6, (.op 0 (.op 1 (.op 2 (.op 3 (.op 4 (.op 5 (.op 6 (.op 7 (.op 8 (.op 9 (.op 10 (.op 11 (.op 12 (.done))))))))))))), []))], [], []⟩ [(.pointer (some p0))] w R = S86 p0 w R := by kernel_rfl

/-- hearth/hearthlaw8.sameBlocks -/
def S85 (s0 : Option Addr) (l0 c0 : Nat) (s1 : Option Addr) (l1 c1 : Nat) (w : World) (R : Value → World → Prop) : Prop :=
 ifB ((↑l0 : Int) != (↑l1 : Int)) (R (.bool false) w)
 (LoopX (Bool × Int × Unit)
 (fun s w K =>
 ifB (decide (s.snd.fst < (↑l0 : Int)))
 (nilx s0 fun a =>
 (0 ≤ s.snd.fst ∧ s.snd.fst < (↑l0 : Int)) ∧
 ∃ n,
 w.drew.cell? ((a.add (Int.toNat s.snd.fst * 5)).add 0) = some (.int .i64 n) ∧
 ∃ n_1,
 w.drew.cell? ((a.add (Int.toNat s.snd.fst * 5)).add 1) = some (.int .i64 n_1) ∧
 ∃ n_2,
 w.drew.cell? ((a.add (Int.toNat s.snd.fst * 5)).add 2) = some (.int .i64 n_2) ∧
 ∃ n_3,
 w.drew.cell? ((a.add (Int.toNat s.snd.fst * 5)).add 3) = some (.int .i64 n_3) ∧
 ∃ n_4,
 w.drew.cell? ((a.add (Int.toNat s.snd.fst * 5)).add 4) = some (.int .i64 n_4) ∧
 nilx s1 fun a =>
 (0 ≤ s.snd.fst ∧ s.snd.fst < (↑l1 : Int)) ∧
 ∃ n_5,
 w.drew.cell? ((a.add (Int.toNat s.snd.fst * 5)).add 0) = some (.int .i64 n_5) ∧
 ∃ n_6,
 w.drew.cell? ((a.add (Int.toNat s.snd.fst * 5)).add 1) = some (.int .i64 n_6) ∧
 ∃ n_7,
 w.drew.cell? ((a.add (Int.toNat s.snd.fst * 5)).add 2) = some (.int .i64 n_7) ∧
 ∃ n_8,
 w.drew.cell? ((a.add (Int.toNat s.snd.fst * 5)).add 3) = some (.int .i64 n_8) ∧
 ∃ n_9,
 w.drew.cell? ((a.add (Int.toNat s.snd.fst * 5)).add 4) = some (.int .i64 n_9) ∧
 ifB (!(n == n_5 && (n_1 == n_6 && (n_2 == n_7 && (n_3 == n_8 && (n_4 == n_9 && true)))))) (R (.bool false) w.drew) (K (s.fst, IntKind.i64.wrap (s.snd.fst + 1), ()) w.drew))
 (R (.bool true) w))
 (false, 0, ()) w)

theorem S85_eq (s0 : Option Addr) (l0 c0 : Nat) (s1 : Option Addr) (l1 c1 : Nat) (w : World) (R : Value → World → Prop) : funX Go.Proofs.Tryz.prog 85 ⟨[(1864, (.op 0 (.op 1 (.op 2 (.op 3 (.op 4 (.op 5 (.op 6 (.op 7 (.op 8 (.done))))))))), []))], [(58, [(4, .bool), (5, .int .i64)])], []⟩ [(.slice s0 l0 c0), (.slice s1 l1 c1)] w R = S85 s0 l0 c0 s1 l1 c1 w R := by kernel_rfl

/-- (*hearth/hearthref8.Space).Copy -/
def S84 (p0 : Addr) (w : World) (R : Value → World → Prop) : Prop :=
 ∃ a l c,
 w.drew.cell? (p0.add 0) = some (.slice a l c) ∧
 ∃ p,
 w.drew.cell? (p0.add 1) = some (.pointer p) ∧
 ∃ a_1 l_1 c,
 w.drew.cell? (p0.add 2) = some (.slice a_1 l_1 c) ∧
 ∃ n,
 w.drew.cell? (p0.add 3) = some (.int .i64 n) ∧
 ∃ old new,
 rdx w.drew none 0 old ∧
 rdx w.drew a (l * 1) new ∧
 (∀ (v : Value), List.Mem v new → isLeaf v = true) ∧
 (0 + l) * 8 ≤ 1099511627776 ∧
 canApp w.drew none 0 0 l 1 ∧
 ∀ (b : Option Addr) (c : Nat) (w' : World),
 AppTo w.drew none 0 0 l 1 old new [.int .i64 0] 3 b c w' →
 (∀ (b : Nat) (o : Obj), w.drew.heap[b]? = some o → w'.heap[b]? = some o) ∧
 Calls prog 111 (Array.mk [.pointer p]) w' fun y y_1 =>
 ∃ p,
 y = .returned (.pointer p) ∧
 (∀ (b : Nat) (o : Obj), w'.heap[b]? = some o → y_1.heap[b]? = some o) ∧
 ∃ old new,
 rdx y_1 none 0 old ∧
 rdx y_1 a_1 (l_1 * 5) new ∧
 (∀ (v : Value), List.Mem v new → isLeaf v = true) ∧
 (0 + l_1) * 40 ≤ 1099511627776 ∧
 canApp y_1 none 0 0 l_1 5 ∧
 ∀ (b_1 : Option Addr) (c_1 : Nat) (w' : World),
 AppTo y_1 none 0 0 l_1 5 old new [.int .i64 0, .int .i64 0, .int .i64 0, .int .i64 0, .int .i64 0] 106 b_1 c_1 w' →
 (∀ (b : Nat) (o : Obj), y_1.heap[b]? = some o → w'.heap[b]? = some o) ∧
 atW (w'.alloc (Obj.cells (Array.mk [.slice b (0 + l) c, .pointer p, .slice b_1 (0 + l_1) c_1, .int .i64 n]) 74)) fun w'_1 =>
 R (.pointer (some (Addr.mk w'.heap.size 0 none))) w'_1

theorem S84_eq (p0 : Addr) (w : World) (R : Value → World → Prop) : funX Go.Proofs.Tryz.prog 84 ⟨[(6, (.op 0 (.op 1 (.op 2 (.op 3 (.op 5 (.op 6 (.op 7 (.op 10 (.op 11 (.op 12 (.op 15 (.op 16 (.op 17 (.op 8 (.op 13 (.op 18 (.op 4 (.op 9 (.op 14 (.op 19 (.op 20 (.op 21 (.done)))))))))))))))))))))), [4, 9, 14]))], [], []⟩ [(.pointer (some p0))] w R = S84 p0 w R := by kernel_rfl

/-- hearth/class.Blocks -/
def S83 (n0 : Int) (w : World) (R : Value → World → Prop) : Prop :=
 Calls prog 105 (Array.mk [.int .i64 n0]) w fun y y_1 =>
 ∃ n, y = .returned (.int .i64 n) ∧ ifB (n == 0) (R (.int .i64 0) y_1) (ifB (n == 0) False (R (.int .i64 (IntKind.i64.wrap (Int.tdiv 64 n))) y_1))

theorem S83_eq (n0 : Int) (w : World) (R : Value → World → Prop) : funX Go.Proofs.Tryz.prog 83 ⟨[], [], []⟩ [(.int .i64 n0)] w R = S83 n0 w R := by kernel_rfl

/-- (*hearth/pages.Table).TakeClass -/
def S82 (p0 : Addr) (n1 : Int) (w : World) (R : Value → World → Prop) : Prop :=
 Calls prog 105 (Array.mk [.int .i64 n1]) w fun y y_1 =>
 ∃ n,
 y = .returned (.int .i64 n) ∧
 ifB (n == 0) (R (.tuple (Array.mk [.int .i64 0, .int .i64 1])) y_1)
 (Calls prog 129 (Array.mk [.pointer (some p0)]) y_1 fun y y_2 =>
 y = .returned (.tuple (Array.mk [])) ∧
 ∃ n,
 y_2.drew.cell? (p0.add 1) = some (.int .i64 n) ∧
 ∃ a l c,
 y_2.drew.cell? (p0.add 0) = some (.slice a l c) ∧
 ifB (n == (↑l : Int)) (R (.tuple (Array.mk [.int .i64 0, .int .i64 20])) y_2.drew)
 (∃ a l c,
 y_2.drew.drew.cell? (p0.add 0) = some (.slice a l c) ∧
 ∃ n,
 y_2.drew.drew.cell? (p0.add 1) = some (.int .i64 n) ∧
 nilx a fun a =>
 (0 ≤ n ∧ n < (↑l : Int)) ∧
 stx y_2.drew.drew (a.add (n.toNat * 3)) [.int .i64 1, .int .i64 n1, .int .i64 0] 0 fun w' =>
 ∃ n,
 w'.cell? (p0.add 2) = some (.int .i64 n) ∧
 stx w' (p0.add 2) [.int .i64 (IntKind.i64.wrap (n - 1))] 0 fun w' =>
 ∃ n, w'.cell? (p0.add 1) = some (.int .i64 n) ∧ R (.tuple (Array.mk [.int .i64 n, .int .i64 0])) w'))

theorem S82_eq (p0 : Addr) (n1 : Int) (w : World) (R : Value → World → Prop) : funX Go.Proofs.Tryz.prog 82 ⟨[(60, (.op 0 (.op 1 (.op 2 (.op 3 (.op 4 (.op 5 (.op 6 (.op 7 (.op 8 (.op 9 (.done)))))))))), [])), (62, (.op 0 (.op 1 (.op 2 (.op 3 (.op 4 (.op 5 (.op 6 (.op 7 (.op 8 (.op 9 (.op 10 (.op 11 (.done)))))))))))), []))], [], []⟩ [(.pointer (some p0)), (.int .i64 n1)] w R = S82 p0 n1 w R := by kernel_rfl

/-- (*hearth/bitmap.Map).Count -/
def S81 (p0 : Addr) (w : World) (R : Value → World → Prop) : Prop :=
 ∃ n,
 w.cell? (p0.add 0) = some (.int .i64 n) ∧
 Calls prog 132 (Array.mk [.pointer (some p0), .int .i64 0, .int .i64 n]) w fun y y_1 => ∃ n, y = .returned (.int .i64 n) ∧ R (.int .i64 n) y_1

theorem S81_eq (p0 : Addr) (w : World) (R : Value → World → Prop) : funX Go.Proofs.Tryz.prog 81 ⟨[], [], []⟩ [(.pointer (some p0))] w R = S81 p0 w R := by kernel_rfl

/-- hearth/class.Pages -/
def S80 (n0 : Int) (w : World) (R : Value → World → Prop) : Prop :=
 Calls prog 78 (Array.mk [.int .i64 n0]) w fun y y_1 =>
 ∃ n, y = .returned (.int .i64 n) ∧ ifB (n != 8) (R (.int .i64 0) y_1) (R (.int .i64 (IntKind.i64.wrap ((IntKind.i64.wrap (IntKind.i64.wrap (n0 + 64) - 1)).tdiv 64))) y_1)

theorem S80_eq (n0 : Int) (w : World) (R : Value → World → Prop) : funX Go.Proofs.Tryz.prog 80 ⟨[], [], []⟩ [(.int .i64 n0)] w R = S80 n0 w R := by kernel_rfl

/-- (*hearth/pages.Table).TakeRun -/
def S79 (p0 : Addr) (n1 : Int) (w : World) (R : Value → World → Prop) : Prop :=
 JoinX (Int × Int × Unit)
 (fun K => ifB (decide (n1 < 1)) (R (.tuple (Array.mk [.int .i64 0, .int .i64 1])) w) (ifB (decide (n1 > 16)) (R (.tuple (Array.mk [.int .i64 0, .int .i64 1])) w) (K (0, 0, ()) w)))
 fun s w' =>
 Calls prog 129 (Array.mk [.pointer (some p0)]) w' fun y y_1 =>
 y = .returned (.tuple (Array.mk [])) ∧
 ∃ n,
 y_1.cell? (p0.add 1) = some (.int .i64 n) ∧
 LoopX (Int × Int × Int × Int × Unit)
 (fun s w K =>
 ∃ a l c,
 w.cell? (p0.add 0) = some (.slice a l c) ∧
 ifB (decide (s.snd.snd.snd.fst < (↑l : Int)))
 (Calls prog 130 (Array.mk [.pointer (some p0), .int .i64 s.snd.snd.snd.fst]) w fun y y_2 =>
 ∃ b,
 y = .returned (.bool b) ∧
 ifB (!b) (K (s.fst, s.snd.fst, 0, IntKind.i64.wrap (s.snd.snd.snd.fst + 1), ()) y_2)
 (ifB (IntKind.i64.wrap (s.snd.snd.fst + 1) == n1)
 (Calls prog 131 (Array.mk [.pointer (some p0), .int .i64 (IntKind.i64.wrap (IntKind.i64.wrap (s.snd.snd.snd.fst - n1) + 1)), .int .i64 n1]) y_2 fun y y_3 =>
 ∃ n, y = .returned (.int .i64 n) ∧ R (.tuple (Array.mk [.int .i64 n, .int .i64 0])) y_3)
 (K (s.fst, s.snd.fst, IntKind.i64.wrap (s.snd.snd.fst + 1), IntKind.i64.wrap (s.snd.snd.snd.fst + 1), ()) y_2)))
 (R (.tuple (Array.mk [.int .i64 0, .int .i64 20])) w))
 (s.fst, s.snd.fst, 0, n, ()) y_1

theorem S79_eq (p0 : Addr) (n1 : Int) (w : World) (R : Value → World → Prop) : funX Go.Proofs.Tryz.prog 79 ⟨[], [(250, [(4, .int .i64), (5, .int .i64), (6, .int .i64), (7, .int .i64)])], [(3, [(4, .int .i64), (5, .int .i64)])]⟩ [(.pointer (some p0)), (.int .i64 n1)] w R = S79 p0 n1 w R := by kernel_rfl

/-- hearth/class.Of -/
def S78 (n0 : Int) (w : World) (R : Value → World → Prop) : Prop :=
 JoinX (Int × Unit) (fun K => ifB (decide (n0 < 1)) (R (Value.int IntKind.i64 (-1)) w) (ifB (decide (n0 > 1024)) (R (Value.int IntKind.i64 (-1)) w) (K (0, ()) w))) fun s w' =>
 Calls Proofs.Tryz.prog 128 (Array.mk []) w' fun y y_1 =>
 ∃ n n_1 n_2 n_3 n_4 n_5 n_6 n_7,
 y =
 Ending.returned
 (Value.agg
 (Array.mk
 [Value.int IntKind.i64 n, Value.int IntKind.i64 n_1, Value.int IntKind.i64 n_2, Value.int IntKind.i64 n_3, Value.int IntKind.i64 n_4, Value.int IntKind.i64 n_5, Value.int IntKind.i64 n_6, Value.int IntKind.i64 n_7])) ∧
 LoopX (Int × Int × Unit)
 (fun s w K =>
 ifB (decide (s.snd.fst < 8))
 (∃ n_8,
 (0 ≤ s.snd.fst ∧ s.snd.fst < 8) ∧
 [Value.int IntKind.i64 n, Value.int IntKind.i64 n_1, Value.int IntKind.i64 n_2, Value.int IntKind.i64 n_3, Value.int IntKind.i64 n_4, Value.int IntKind.i64 n_5, Value.int IntKind.i64 n_6,
 Value.int IntKind.i64 n_7][Int.toNat s.snd.fst]? =
 some (Value.int IntKind.i64 n_8) ∧
 ifB (decide (n0 ≤ n_8)) (R (Value.int IntKind.i64 s.snd.fst) w) (K (s.fst, IntKind.i64.wrap (s.snd.fst + 1), ()) w))
 (R (Value.int IntKind.i64 8) w))
 (s.fst, 0, ()) y_1

theorem S78_eq (n0 : Int) (w : World) (R : Value → World → Prop) : funX Go.Proofs.Tryz.prog 78 ⟨[], [(58, [(2, .int .i64), (12, .int .i64)])], [(3, [(2, .int .i64)])]⟩ [(.int .i64 n0)] w R = S78 n0 w R := by kernel_rfl

/-- (*hearth/pages.Table).Copy -/
def S77 (p0 : Addr) (w : World) (R : Value → World → Prop) : Prop :=
 ∃ a l c,
 w.cell? (p0.add 0) = some (.slice a l c) ∧
 ∃ n,
 w.cell? (p0.add 1) = some (.int .i64 n) ∧
 ∃ n_1,
 w.cell? (p0.add 2) = some (.int .i64 n_1) ∧
 atW (w.alloc (Obj.cells (Array.mk [.slice none 0 0, .int .i64 0, .int .i64 0]) 137)) fun w' =>
 stx w' (Addr.mk w.heap.size 0 none) [.slice a l c, .int .i64 n, .int .i64 n_1] 0 fun w' =>
 Calls prog 98 (Array.mk [.pointer (some p0)]) w' fun y y_1 =>
 ∃ a l c, y = .returned (.slice a l c) ∧ stx y_1 ((Addr.mk w.heap.size 0 none).add 0) [.slice a l c] 0 fun w' => R (.pointer (some (Addr.mk w.heap.size 0 none))) w'

theorem S77_eq (p0 : Addr) (w : World) (R : Value → World → Prop) : funX Go.Proofs.Tryz.prog 77 ⟨[], [], []⟩ [(.pointer (some p0))] w R = S77 p0 w R := by kernel_rfl

/-- (*hearth/space.Space).Fits$1 -/
def S76 (p0 : Addr) (p1 : Addr) (w : World) (R : Value → World → Prop) : Prop :=
 ∃ b,
 w.cell? p0 = some (.bool b) ∧
 ifB (!b)
 (∃ p,
 w.cell? p1 = some (.pointer p) ∧
 Calls prog 77 (Array.mk [.pointer p]) w fun y y_1 => ∃ p, y = .returned (.pointer p) ∧ stx y_1 p1 [.pointer p] 0 fun w' => stx w' p0 [.bool true] 0 fun w' => R (.tuple (Array.mk [])) w')
 (R (.tuple (Array.mk [])) w)

theorem S76_eq (p0 : Addr) (p1 : Addr) (w : World) (R : Value → World → Prop) : funX Go.Proofs.Tryz.prog 76 ⟨[], [], []⟩ [(.pointer (some p0)), (.pointer (some p1))] w R = S76 p0 p1 w R := by kernel_rfl

/-- (*hearth/hearthref8.Space).Check -/
def S75 (p0 : Addr) (n1 : Int) (w : World) (R : Value → World → Prop) : Prop :=
 atW (w.alloc (Obj.cells (Array.mk [.int .i64 0, .int .i64 0]) 56)) fun w' =>
 Calls prog 71 (Array.mk [.pointer (some p0), .int .i64 n1]) w' fun y y_1 =>
 ∃ n n_1 n_2 n_3 n_4 b,
 y = .returned (.tuple (Array.mk [.agg (Array.mk [.int .i64 n, .int .i64 n_1, .int .i64 n_2, .int .i64 n_3, .int .i64 n_4]), .bool b])) ∧
 atW (y_1.alloc (Obj.cells (Array.mk [.int .i64 0, .int .i64 0, .int .i64 0, .int .i64 0, .int .i64 0]) 106)) fun w' =>
 stx w' (Addr.mk y_1.heap.size 0 none) [.int .i64 n, .int .i64 n_1, .int .i64 n_2, .int .i64 n_3, .int .i64 n_4] 0 fun w' =>
 ifB (!b)
 (stx w' (Addr.mk w.heap.size 0 none) [.int .i64 22, .int .i64 0] 0 fun w' =>
 ∃ n,
 w'.cell? ((Addr.mk w.heap.size 0 none).add 0) = some (.int .i64 n) ∧
 ∃ n_5, w'.cell? ((Addr.mk w.heap.size 0 none).add 1) = some (.int .i64 n_5) ∧ R (.agg (Array.mk [.int .i64 n, .int .i64 n_5])) w')
 (∃ n,
 w'.drew.cell? ((Addr.mk y_1.heap.size 0 none).add 1) = some (.int .i64 n) ∧
 ∃ n_5,
 w'.drew.cell? ((Addr.mk y_1.heap.size 0 none).add 2) = some (.int .i64 n_5) ∧
 ∃ a l c,
 w'.drew.cell? (p0.add 0) = some (.slice a l c) ∧
 nilx a fun a =>
 (0 ≤ n1 ∧ n1 < (↑l : Int)) ∧
 ∃ n_6,
 w'.drew.cell? (a.add (n1.toNat * 1)) = some (.int .i64 n_6) ∧
 Calls prog 120 (Array.mk [.int .i64 n1, .int .i64 n, .int .i64 n_5]) w'.drew fun y y_2 =>
 ∃ n,
 y = .returned (.int .i64 n) ∧
 (∀ (b : Nat) (o : Obj), w'.drew.heap[b]? = some o → y_2.heap[b]? = some o) ∧
 ifB (n_6 != n)
 (stx y_2 (Addr.mk w.heap.size 0 none) [.int .i64 21, .int .i64 n1] 0 fun w' =>
 ∃ n,
 w'.cell? ((Addr.mk w.heap.size 0 none).add 0) = some (.int .i64 n) ∧
 ∃ n_7, w'.cell? ((Addr.mk w.heap.size 0 none).add 1) = some (.int .i64 n_7) ∧ R (.agg (Array.mk [.int .i64 n, .int .i64 n_7])) w')
 (stx y_2 (Addr.mk w.heap.size 0 none) [.int .i64 0, .int .i64 0] 0 fun w' =>
 ∃ n,
 w'.cell? ((Addr.mk w.heap.size 0 none).add 0) = some (.int .i64 n) ∧
 ∃ n_7, w'.cell? ((Addr.mk w.heap.size 0 none).add 1) = some (.int .i64 n_7) ∧ R (.agg (Array.mk [.int .i64 n, .int .i64 n_7])) w'))

theorem S75_eq (p0 : Addr) (n1 : Int) (w : World) (R : Value → World → Prop) : funX Go.Proofs.Tryz.prog 75 ⟨[(60, (.op 0 (.op 1 (.op 2 (.op 4 (.op 7 (.op 8 (.op 9 (.op 10 (.op 11 (.op 3 (.op 5 (.op 6 (.op 12 (.op 13 (.done)))))))))))))), [12]))], [], []⟩ [(.pointer (some p0)), (.int .i64 n1)] w R = S75 p0 n1 w R := by kernel_rfl

/-- (*hearth/space.Space).Check -/
def S74 (p0 : Addr) (n1 : Int) (w : World) (R : Value → World → Prop) : Prop :=
 atW (w.alloc (Obj.cells (Array.mk [.int .i64 0, .int .i64 0]) 39)) fun w' =>
 ∃ p,
 w'.cell? (p0.add 2) = some (.pointer p) ∧
 Calls prog 121 (Array.mk [.pointer p, .int .i64 n1]) w' fun y y_1 =>
 ∃ b,
 y = .returned (.bool b) ∧
 ifB (!b)
 (stx y_1 (Addr.mk w.heap.size 0 none) [.int .i64 22, .int .i64 0] 0 fun w' =>
 ∃ n,
 w'.cell? ((Addr.mk w.heap.size 0 none).add 0) = some (.int .i64 n) ∧
 ∃ n_1, w'.cell? ((Addr.mk w.heap.size 0 none).add 1) = some (.int .i64 n_1) ∧ R (.agg (Array.mk [.int .i64 n, .int .i64 n_1])) w')
 (∃ r,
 y_1.cell? (p0.add 11) = some (.map r) ∧
 optx r fun r =>
 ∃ es c res,
 Mapped y_1 r IntKind.i64 n1 es c res ∧
 ∃ n n_1 n_2 n_3,
 .agg (Array.mk [.int .i64 n, .int .i64 n_1, .int .i64 n_2, .int .i64 n_3]) =
 mgot res (.agg (Array.mk [.int .i64 0, .int .i64 0, .int .i64 0, .int .i64 0])) ∧
 atW (y_1.alloc (Obj.cells (Array.mk [.int .i64 0, .int .i64 0, .int .i64 0, .int .i64 0]) 97)) fun w' =>
 stx w' (Addr.mk y_1.heap.size 0 none) [.int .i64 n, .int .i64 n_1, .int .i64 n_2, .int .i64 n_3] 0 fun w' =>
 ∃ n,
 w'.drew.cell? ((Addr.mk y_1.heap.size 0 none).add 0) = some (.int .i64 n) ∧
 ∃ n_4,
 w'.drew.cell? ((Addr.mk y_1.heap.size 0 none).add 1) = some (.int .i64 n_4) ∧
 ∃ a l c,
 w'.drew.cell? (p0.add 0) = some (.slice a l c) ∧
 nilx a fun a =>
 (0 ≤ n1 ∧ n1 < (↑l : Int)) ∧
 ∃ n_5,
 w'.drew.cell? (a.add (n1.toNat * 1)) = some (.int .i64 n_5) ∧
 Calls prog 56 (Array.mk [.int .i64 n1, .int .i64 n, .int .i64 n_4]) w'.drew fun y y_2 =>
 ∃ n,
 y = .returned (.int .i64 n) ∧
 (∀ (b : Nat) (o : Obj), w'.drew.heap[b]? = some o → y_2.heap[b]? = some o) ∧
 ifB (n_5 != n)
 (stx y_2 (Addr.mk w.heap.size 0 none) [.int .i64 21, .int .i64 n1] 0 fun w' =>
 ∃ n,
 w'.cell? ((Addr.mk w.heap.size 0 none).add 0) = some (.int .i64 n) ∧
 ∃ n_6, w'.cell? ((Addr.mk w.heap.size 0 none).add 1) = some (.int .i64 n_6) ∧ R (.agg (Array.mk [.int .i64 n, .int .i64 n_6])) w')
 (stx y_2 (Addr.mk w.heap.size 0 none) [.int .i64 0, .int .i64 0] 0 fun w' =>
 ∃ n,
 w'.cell? ((Addr.mk w.heap.size 0 none).add 0) = some (.int .i64 n) ∧
 ∃ n_6, w'.cell? ((Addr.mk w.heap.size 0 none).add 1) = some (.int .i64 n_6) ∧ R (.agg (Array.mk [.int .i64 n, .int .i64 n_6])) w'))

theorem S74_eq (p0 : Addr) (n1 : Int) (w : World) (R : Value → World → Prop) : funX Go.Proofs.Tryz.prog 74 ⟨[(60, (.op 0 (.op 1 (.op 2 (.op 4 (.op 7 (.op 8 (.op 9 (.op 10 (.op 11 (.op 3 (.op 5 (.op 6 (.op 12 (.op 13 (.done)))))))))))))), [12]))], [], []⟩ [(.pointer (some p0)), (.int .i64 n1)] w R = S74 p0 n1 w R := by kernel_rfl

/-- (*hearth/hearthref8.Space).Read -/
def S73 (p0 : Addr) (n1 : Int) (n2 : Int) (w : World) (R : Value → World → Prop) : Prop :=
 atW (w.alloc (Obj.cells (Array.mk [.int .i64 0, .int .i64 0]) 56)) fun w' =>
 Calls prog 67 (Array.mk [.pointer (some p0), .int .i64 n1, .int .i64 n2]) w' fun y y_1 =>
 ∃ n n_1,
 y = .returned (.agg (Array.mk [.int .i64 n, .int .i64 n_1])) ∧
 atW (y_1.alloc (Obj.cells (Array.mk [.int .i64 0, .int .i64 0]) 56)) fun w' =>
 stx w' (Addr.mk y_1.heap.size 0 none) [.int .i64 n, .int .i64 n_1] 0 fun w' =>
 ∃ n,
 w'.cell? ((Addr.mk y_1.heap.size 0 none).add 0) = some (.int .i64 n) ∧
 ifB (n != 0)
 (∃ n,
 w'.drew.cell? ((Addr.mk y_1.heap.size 0 none).add 0) = some (.int .i64 n) ∧
 ∃ n_2,
 w'.drew.cell? ((Addr.mk y_1.heap.size 0 none).add 1) = some (.int .i64 n_2) ∧
 stx w'.drew (Addr.mk w.heap.size 0 none) [.int .i64 n, .int .i64 n_2] 0 fun w' =>
 ∃ n,
 w'.cell? ((Addr.mk w.heap.size 0 none).add 0) = some (.int .i64 n) ∧
 ∃ n_3,
 w'.cell? ((Addr.mk w.heap.size 0 none).add 1) = some (.int .i64 n_3) ∧
 R (.tuple (Array.mk [.int .i64 0, .agg (Array.mk [.int .i64 n, .int .i64 n_3])])) w')
 (∃ a l c,
 w'.cell? (p0.add 0) = some (.slice a l c) ∧
 nilx a fun a =>
 (0 ≤ IntKind.i64.wrap (n1 + n2) ∧ IntKind.i64.wrap (n1 + n2) < (↑l : Int)) ∧
 ∃ n,
 w'.cell? (a.add ((IntKind.i64.wrap (n1 + n2)).toNat * 1)) = some (.int .i64 n) ∧
 stx w' (Addr.mk w.heap.size 0 none) [.int .i64 0, .int .i64 0] 0 fun w' =>
 ∃ n_2,
 w'.cell? ((Addr.mk w.heap.size 0 none).add 0) = some (.int .i64 n_2) ∧
 ∃ n_3,
 w'.cell? ((Addr.mk w.heap.size 0 none).add 1) = some (.int .i64 n_3) ∧
 R (.tuple (Array.mk [.int .i64 n, .agg (Array.mk [.int .i64 n_2, .int .i64 n_3])])) w')

theorem S73_eq (p0 : Addr) (n1 : Int) (n2 : Int) (w : World) (R : Value → World → Prop) : funX Go.Proofs.Tryz.prog 73 ⟨[(116, (.op 0 (.op 1 (.op 2 (.done))), []))], [], []⟩ [(.pointer (some p0)), (.int .i64 n1), (.int .i64 n2)] w R = S73 p0 n1 n2 w R := by kernel_rfl

end Go.Wx
end
section
/- WRITTEN BY A PROGRAM (wip/gen): what each function's code asks for, by the framework's precondition, in short form; each is checked by the kernel to be that precondition. -/
set_option maxRecDepth 100000
set_option linter.unusedVariables false
namespace Go.Wx
open Go Proofs.Tryz

/-- (*hearth/space.Space).Read -/
def S72 (p0 : Addr) (n1 : Int) (n2 : Int) (w : World) (R : Value → World → Prop) : Prop :=
 atW (w.alloc (Obj.cells (Array.mk [.int .i64 0, .int .i64 0]) 39)) fun w' =>
 Calls prog 66 (Array.mk [.pointer (some p0), .int .i64 n1, .int .i64 n2]) w' fun y y_1 =>
 ∃ n n_1,
 y = .returned (.agg (Array.mk [.int .i64 n, .int .i64 n_1])) ∧
 atW (y_1.alloc (Obj.cells (Array.mk [.int .i64 0, .int .i64 0]) 39)) fun w' =>
 stx w' (Addr.mk y_1.heap.size 0 none) [.int .i64 n, .int .i64 n_1] 0 fun w' =>
 ∃ n,
 w'.cell? ((Addr.mk y_1.heap.size 0 none).add 0) = some (.int .i64 n) ∧
 ifB (n != 0)
 (∃ n,
 w'.drew.cell? ((Addr.mk y_1.heap.size 0 none).add 0) = some (.int .i64 n) ∧
 ∃ n_2,
 w'.drew.cell? ((Addr.mk y_1.heap.size 0 none).add 1) = some (.int .i64 n_2) ∧
 stx w'.drew (Addr.mk w.heap.size 0 none) [.int .i64 n, .int .i64 n_2] 0 fun w' =>
 ∃ n,
 w'.cell? ((Addr.mk w.heap.size 0 none).add 0) = some (.int .i64 n) ∧
 ∃ n_3,
 w'.cell? ((Addr.mk w.heap.size 0 none).add 1) = some (.int .i64 n_3) ∧
 R (.tuple (Array.mk [.int .i64 0, .agg (Array.mk [.int .i64 n, .int .i64 n_3])])) w')
 (∃ a l c,
 w'.drew.cell? (p0.add 0) = some (.slice a l c) ∧
 nilx a fun a =>
 (0 ≤ IntKind.i64.wrap (n1 + n2) ∧ IntKind.i64.wrap (n1 + n2) < (↑l : Int)) ∧
 ∃ n,
 w'.drew.cell? (a.add ((IntKind.i64.wrap (n1 + n2)).toNat * 1)) = some (.int .i64 n) ∧
 ∃ n_2,
 w'.drew.cell? ((Addr.mk y_1.heap.size 0 none).add 0) = some (.int .i64 n_2) ∧
 ∃ n_3,
 w'.drew.cell? ((Addr.mk y_1.heap.size 0 none).add 1) = some (.int .i64 n_3) ∧
 stx w'.drew (Addr.mk w.heap.size 0 none) [.int .i64 n_2, .int .i64 n_3] 0 fun w' =>
 ∃ n_4,
 w'.cell? ((Addr.mk w.heap.size 0 none).add 0) = some (.int .i64 n_4) ∧
 ∃ n_5,
 w'.cell? ((Addr.mk w.heap.size 0 none).add 1) = some (.int .i64 n_5) ∧
 R (.tuple (Array.mk [.int .i64 n, .agg (Array.mk [.int .i64 n_4, .int .i64 n_5])])) w')

theorem S72_eq (p0 : Addr) (n1 : Int) (n2 : Int) (w : World) (R : Value → World → Prop) : funX Go.Proofs.Tryz.prog 72 ⟨[(116, (.op 0 (.op 1 (.op 2 (.done))), [])), (30, (.op 0 (.op 1 (.op 2 (.op 3 (.op 4 (.op 5 (.op 6 (.op 7 (.op 8 (.op 9 (.op 10 (.op 11 (.done)))))))))))), []))], [], []⟩ [(.pointer (some p0)), (.int .i64 n1), (.int .i64 n2)] w R = S72 p0 n1 n2 w R := by kernel_rfl

/-- (*hearth/hearthref8.Space).Block -/
def S71 (p0 : Addr) (n1 : Int) (w : World) (R : Value → World → Prop) : Prop :=
 atW (w.alloc (Obj.cells (Array.mk [.int .i64 0, .int .i64 0, .int .i64 0, .int .i64 0, .int .i64 0]) 106)) fun w' =>
 JoinX (Bool × Unit)
 (fun K =>
 ifB (decide (n1 < 0))
 (stx w' (Addr.mk w.heap.size 0 none) [.int .i64 0, .int .i64 0, .int .i64 0, .int .i64 0, .int .i64 0] 0 fun w' =>
 ∃ n,
 w'.cell? ((Addr.mk w.heap.size 0 none).add 0) = some (.int .i64 n) ∧
 ∃ n_1,
 w'.cell? ((Addr.mk w.heap.size 0 none).add 1) = some (.int .i64 n_1) ∧
 ∃ n_2,
 w'.cell? ((Addr.mk w.heap.size 0 none).add 2) = some (.int .i64 n_2) ∧
 ∃ n_3,
 w'.cell? ((Addr.mk w.heap.size 0 none).add 3) = some (.int .i64 n_3) ∧
 ∃ n_4,
 w'.cell? ((Addr.mk w.heap.size 0 none).add 4) = some (.int .i64 n_4) ∧
 R (.tuple (Array.mk [.agg (Array.mk [.int .i64 n, .int .i64 n_1, .int .i64 n_2, .int .i64 n_3, .int .i64 n_4]), .bool false])) w')
 (∃ a l c,
 w'.cell? (p0.add 2) = some (.slice a l c) ∧
 ifB (decide (n1 ≥ (↑l : Int)))
 (stx w' (Addr.mk w.heap.size 0 none) [.int .i64 0, .int .i64 0, .int .i64 0, .int .i64 0, .int .i64 0] 0 fun w' =>
 ∃ n,
 w'.cell? ((Addr.mk w.heap.size 0 none).add 0) = some (.int .i64 n) ∧
 ∃ n_1,
 w'.cell? ((Addr.mk w.heap.size 0 none).add 1) = some (.int .i64 n_1) ∧
 ∃ n_2,
 w'.cell? ((Addr.mk w.heap.size 0 none).add 2) = some (.int .i64 n_2) ∧
 ∃ n_3,
 w'.cell? ((Addr.mk w.heap.size 0 none).add 3) = some (.int .i64 n_3) ∧
 ∃ n_4,
 w'.cell? ((Addr.mk w.heap.size 0 none).add 4) = some (.int .i64 n_4) ∧
 R (.tuple (Array.mk [.agg (Array.mk [.int .i64 n, .int .i64 n_1, .int .i64 n_2, .int .i64 n_3, .int .i64 n_4]), .bool false]))
 w')
 (∃ a l c,
 w'.cell? (p0.add 2) = some (.slice a l c) ∧
 nilx a fun a =>
 (0 ≤ n1 ∧ n1 < (↑l : Int)) ∧
 ∃ n,
 w'.cell? ((a.add (n1.toNat * 5)).add 1) = some (.int .i64 n) ∧
 ifB (n == 0)
 (stx w' (Addr.mk w.heap.size 0 none) [.int .i64 0, .int .i64 0, .int .i64 0, .int .i64 0, .int .i64 0] 0 fun w' =>
 ∃ n,
 w'.cell? ((Addr.mk w.heap.size 0 none).add 0) = some (.int .i64 n) ∧
 ∃ n_1,
 w'.cell? ((Addr.mk w.heap.size 0 none).add 1) = some (.int .i64 n_1) ∧
 ∃ n_2,
 w'.cell? ((Addr.mk w.heap.size 0 none).add 2) = some (.int .i64 n_2) ∧
 ∃ n_3,
 w'.cell? ((Addr.mk w.heap.size 0 none).add 3) = some (.int .i64 n_3) ∧
 ∃ n_4,
 w'.cell? ((Addr.mk w.heap.size 0 none).add 4) = some (.int .i64 n_4) ∧
 R
 (.tuple
 (Array.mk [.agg (Array.mk [.int .i64 n, .int .i64 n_1, .int .i64 n_2, .int .i64 n_3, .int .i64 n_4]), .bool false]))
 w')
 (K (false, ()) w'))))
 fun s w' =>
 ∃ a l c,
 w'.cell? (p0.add 2) = some (.slice a l c) ∧
 nilx a fun a =>
 (0 ≤ n1 ∧ n1 < (↑l : Int)) ∧
 ∃ n,
 w'.cell? ((a.add (n1.toNat * 5)).add 0) = some (.int .i64 n) ∧
 ∃ n_1,
 w'.cell? ((a.add (n1.toNat * 5)).add 1) = some (.int .i64 n_1) ∧
 ∃ n_2,
 w'.cell? ((a.add (n1.toNat * 5)).add 2) = some (.int .i64 n_2) ∧
 ∃ n_3,
 w'.cell? ((a.add (n1.toNat * 5)).add 3) = some (.int .i64 n_3) ∧
 ∃ n_4,
 w'.cell? ((a.add (n1.toNat * 5)).add 4) = some (.int .i64 n_4) ∧
 stx w' (Addr.mk w.heap.size 0 none) [.int .i64 n, .int .i64 n_1, .int .i64 n_2, .int .i64 n_3, .int .i64 n_4] 0 fun w' =>
 ∃ n,
 w'.cell? ((Addr.mk w.heap.size 0 none).add 0) = some (.int .i64 n) ∧
 ∃ n_5,
 w'.cell? ((Addr.mk w.heap.size 0 none).add 1) = some (.int .i64 n_5) ∧
 ∃ n_6,
 w'.cell? ((Addr.mk w.heap.size 0 none).add 2) = some (.int .i64 n_6) ∧
 ∃ n_7,
 w'.cell? ((Addr.mk w.heap.size 0 none).add 3) = some (.int .i64 n_7) ∧
 ∃ n_8,
 w'.cell? ((Addr.mk w.heap.size 0 none).add 4) = some (.int .i64 n_8) ∧
 R
 (.tuple
 (Array.mk
 [.agg (Array.mk [.int .i64 n, .int .i64 n_5, .int .i64 n_6, .int .i64 n_7, .int .i64 n_8]), .bool true]))
 w'

theorem S71_eq (p0 : Addr) (n1 : Int) (w : World) (R : Value → World → Prop) : funX Go.Proofs.Tryz.prog 71 ⟨[], [], [(3, [(5, .bool)])]⟩ [(.pointer (some p0)), (.int .i64 n1)] w R = S71 p0 n1 w R := by kernel_rfl

/-- (*hearth/space.Space).Block -/
def S70 (p0 : Addr) (n1 : Int) (w : World) (R : Value → World → Prop) : Prop :=
 atW (w.alloc (Obj.cells (Array.mk [.int .i64 0, .int .i64 0, .int .i64 0, .int .i64 0, .int .i64 0]) 106)) fun w' =>
 ∃ p,
 w'.cell? (p0.add 2) = some (.pointer p) ∧
 Calls prog 121 (Array.mk [.pointer p, .int .i64 n1]) w' fun y y_1 =>
 ∃ b,
 y = .returned (.bool b) ∧
 ifB (!b)
 (stx y_1 (Addr.mk w.heap.size 0 none) [.int .i64 0, .int .i64 0, .int .i64 0, .int .i64 0, .int .i64 0] 0 fun w' =>
 ∃ n,
 w'.cell? ((Addr.mk w.heap.size 0 none).add 0) = some (.int .i64 n) ∧
 ∃ n_1,
 w'.cell? ((Addr.mk w.heap.size 0 none).add 1) = some (.int .i64 n_1) ∧
 ∃ n_2,
 w'.cell? ((Addr.mk w.heap.size 0 none).add 2) = some (.int .i64 n_2) ∧
 ∃ n_3,
 w'.cell? ((Addr.mk w.heap.size 0 none).add 3) = some (.int .i64 n_3) ∧
 ∃ n_4,
 w'.cell? ((Addr.mk w.heap.size 0 none).add 4) = some (.int .i64 n_4) ∧
 R (.tuple (Array.mk [.agg (Array.mk [.int .i64 n, .int .i64 n_1, .int .i64 n_2, .int .i64 n_3, .int .i64 n_4]), .bool false]))
 w')
 (∃ r,
 y_1.cell? (p0.add 11) = some (.map r) ∧
 optx r fun r =>
 ∃ es c res,
 Mapped y_1 r IntKind.i64 n1 es c res ∧
 ∃ n n_1 n_2 n_3,
 .agg (Array.mk [.int .i64 n, .int .i64 n_1, .int .i64 n_2, .int .i64 n_3]) =
 mgot res (.agg (Array.mk [.int .i64 0, .int .i64 0, .int .i64 0, .int .i64 0])) ∧
 atW (y_1.alloc (Obj.cells (Array.mk [.int .i64 0, .int .i64 0, .int .i64 0, .int .i64 0]) 97)) fun w' =>
 stx w' (Addr.mk y_1.heap.size 0 none) [.int .i64 n, .int .i64 n_1, .int .i64 n_2, .int .i64 n_3] 0 fun w' =>
 ∃ n,
 w'.cell? ((Addr.mk y_1.heap.size 0 none).add 0) = some (.int .i64 n) ∧
 ∃ n_4,
 w'.cell? ((Addr.mk y_1.heap.size 0 none).add 1) = some (.int .i64 n_4) ∧
 ∃ n_5,
 w'.cell? ((Addr.mk y_1.heap.size 0 none).add 2) = some (.int .i64 n_5) ∧
 ∃ n_6,
 w'.cell? ((Addr.mk y_1.heap.size 0 none).add 3) = some (.int .i64 n_6) ∧
 stx w' (Addr.mk w.heap.size 0 none) [.int .i64 n1, .int .i64 n, .int .i64 n_4, .int .i64 n_5, .int .i64 n_6] 0 fun w' =>
 ∃ n,
 w'.cell? ((Addr.mk w.heap.size 0 none).add 0) = some (.int .i64 n) ∧
 ∃ n_7,
 w'.cell? ((Addr.mk w.heap.size 0 none).add 1) = some (.int .i64 n_7) ∧
 ∃ n_8,
 w'.cell? ((Addr.mk w.heap.size 0 none).add 2) = some (.int .i64 n_8) ∧
 ∃ n_9,
 w'.cell? ((Addr.mk w.heap.size 0 none).add 3) = some (.int .i64 n_9) ∧
 ∃ n_10,
 w'.cell? ((Addr.mk w.heap.size 0 none).add 4) = some (.int .i64 n_10) ∧
 R
 (.tuple
 (Array.mk
 [.agg (Array.mk [.int .i64 n, .int .i64 n_7, .int .i64 n_8, .int .i64 n_9, .int .i64 n_10]),
 .bool true]))
 w')

theorem S70_eq (p0 : Addr) (n1 : Int) (w : World) (R : Value → World → Prop) : funX Go.Proofs.Tryz.prog 70 ⟨[], [], []⟩ [(.pointer (some p0)), (.int .i64 n1)] w R = S70 p0 n1 w R := by kernel_rfl

/-- (*hearth/hearthref8.Space).Keep -/
def S69 (p0 : Addr) (s1 : Option Addr) (l1 c1 : Nat) (w : World) (R : Value → World → Prop) : Prop :=
 ∃ a l c,
 w.cell? (p0.add 2) = some (.slice a l c) ∧
 (0 ≤ (↑l : Int) ∧ (↑l : Int) ≤ (↑l : Int) ∧ (↑l : Int) ≤ 1099511627776) ∧
 LoopX (Int × Int × Int × Unit)
 (fun s w_1 K =>
 ifB (decide (s.snd.snd.fst < (↑l1 : Int)))
 (nilx s1 fun a =>
 (0 ≤ s.snd.snd.fst ∧ s.snd.snd.fst < (↑l1 : Int)) ∧
 ∃ n,
 w_1.cell? (a.add (Int.toNat s.snd.snd.fst * 1)) = some (.int .i64 n) ∧
 Calls prog 71 (Array.mk [.pointer (some p0), .int .i64 n]) w_1 fun y y_1 =>
 ∃ n n_1 n_2 n_3 n_4 b,
 y =
 .returned
 (.tuple (Array.mk [.agg (Array.mk [.int .i64 n, .int .i64 n_1, .int .i64 n_2, .int .i64 n_3, .int .i64 n_4]), .bool b])) ∧
 atW (y_1.alloc (Obj.cells (Array.mk [.int .i64 0, .int .i64 0, .int .i64 0, .int .i64 0, .int .i64 0]) 106)) fun w' =>
 stx w' (Addr.mk y_1.heap.size 0 none) [.int .i64 n, .int .i64 n_1, .int .i64 n_2, .int .i64 n_3, .int .i64 n_4] 0 fun w' =>
 ifB (!b) (R (.tuple (Array.mk [.int .i64 0, .int .i64 22])) w')
 (nilx s1 fun a =>
 (0 ≤ s.snd.snd.fst ∧ s.snd.snd.fst < (↑l1 : Int)) ∧
 ∃ n,
 w'.cell? (a.add (Int.toNat s.snd.snd.fst * 1)) = some (.int .i64 n) ∧
 (0 ≤ n ∧ n < (↑(↑l : Int).toNat : Int)) ∧ stx w' ((Addr.mk w.heap.size 0 none).add (n.toNat * 1)) [.bool true] 0 fun w' => K (s.fst, s.snd.fst, IntKind.i64.wrap (s.snd.snd.fst + 1), ()) w'))
 (LoopX (Int × Int × Unit)
 (fun s w_2 K =>
 ∃ a l_1 c,
 w_2.cell? (p0.add 2) = some (.slice a l_1 c) ∧
 ifB (decide (s.snd.fst < (↑l_1 : Int)))
 (JoinX (Bool × Unit)
 (fun K =>
 ∃ a l_2 c,
 w_2.cell? (p0.add 2) = some (.slice a l_2 c) ∧
 nilx a fun a =>
 (0 ≤ s.snd.fst ∧ s.snd.fst < (↑l_2 : Int)) ∧
 ∃ n,
 w_2.cell? ((a.add (Int.toNat s.snd.fst * 5)).add 1) = some (.int .i64 n) ∧
 ifB (n != 0) ((0 ≤ s.snd.fst ∧ s.snd.fst < (↑(↑l : Int).toNat : Int)) ∧ ∃ b, w_2.cell? ((Addr.mk w.heap.size 0 none).add (Int.toNat s.snd.fst * 1)) = some (.bool b) ∧ K (!b, ()) w_2)
 (K (false, ()) w_2))
 fun s_1 w' =>
 ifB s_1.fst
 (∃ a l c,
 w'.cell? (p0.add 2) = some (.slice a l c) ∧
 nilx a fun a =>
 (0 ≤ s.snd.fst ∧ s.snd.fst < (↑l : Int)) ∧
 stx w' (a.add (Int.toNat s.snd.fst * 5)) [.int .i64 0, .int .i64 0, .int .i64 0, .int .i64 0, .int .i64 0] 0 fun w' =>
 K (IntKind.i64.wrap (s.fst + 1), IntKind.i64.wrap (s.snd.fst + 1), ()) w')
 (K (s.fst, IntKind.i64.wrap (s.snd.fst + 1), ()) w'))
 (LoopX (Int × Unit)
 (fun s_1 w K =>
 ∃ p,
 w.cell? (p0.add 1) = some (.pointer p) ∧
 nilx p fun a =>
 ∃ a_1 l c,
 w.cell? (a.add 0) = some (.slice a_1 l c) ∧
 ifB (decide (s_1.fst < (↑l : Int)))
 (∃ p,
 w.cell? (p0.add 1) = some (.pointer p) ∧
 nilx p fun a =>
 ∃ a_2 l c,
 w.cell? (a.add 0) = some (.slice a_2 l c) ∧
 nilx a_2 fun a =>
 (0 ≤ s_1.fst ∧ s_1.fst < (↑l : Int)) ∧
 ∃ n,
 w.cell? ((a.add (Int.toNat s_1.fst * 3)).add 0) = some (.int .i64 n) ∧
 ∃ n_1,
 w.cell? ((a.add (Int.toNat s_1.fst * 3)).add 1) = some (.int .i64 n_1) ∧
 ∃ n_2,
 w.cell? ((a.add (Int.toNat s_1.fst * 3)).add 2) = some (.int .i64 n_2) ∧
 atW (w.alloc (Obj.cells (Array.mk [.int .i64 0, .int .i64 0, .int .i64 0]) 152)) fun w' =>
 stx w' (Addr.mk w.heap.size 0 none) [.int .i64 n, .int .i64 n_1, .int .i64 n_2] 0 fun w' =>
 JoinX (Bool × Unit)
 (fun K =>
 ∃ n,
 w'.cell? ((Addr.mk w.heap.size 0 none).add 0) = some (.int .i64 n) ∧
 ifB (n == 2)
 (∃ a l c,
 w'.cell? (p0.add 2) = some (.slice a l c) ∧
 nilx a fun a =>
 (0 ≤ IntKind.i64.wrap (s_1.fst * 64) ∧ IntKind.i64.wrap (s_1.fst * 64) < (↑l : Int)) ∧
 ∃ n, w'.cell? ((a.add ((IntKind.i64.wrap (s_1.fst * 64)).toNat * 5)).add 1) = some (.int .i64 n) ∧ K (n != 0, ()) w')
 (K (false, ()) w'))
 fun s w' =>
 JoinX (Bool × Unit)
 (fun K =>
 LoopX (Bool × Int × Unit)
 (fun s w_3 K_1 =>
 JoinX Unit
 (fun K_2 =>
 ifB (decide (s.snd.fst < 64))
 (∃ n, w_3.cell? ((Addr.mk w.heap.size 0 none).add 0) = some (.int .i64 n) ∧ ifB (n == 1) (K_2 () w_3) (K (s.fst, ()) w_3)) (K (s.fst, ()) w_3))
 fun s_2 w' =>
 ifB s.fst (K_1 (true, IntKind.i64.wrap (s.snd.fst + 1), ()) w')
 (∃ a l c,
 w'.cell? (p0.add 2) = some (.slice a l c) ∧
 nilx a fun a =>
 (0 ≤ IntKind.i64.wrap (IntKind.i64.wrap (s_1.fst * 64) + s.snd.fst) ∧ IntKind.i64.wrap (IntKind.i64.wrap (s_1.fst * 64) + s.snd.fst) < (↑l : Int)) ∧
 ∃ n,
 w'.cell? ((a.add ((IntKind.i64.wrap (IntKind.i64.wrap (s_1.fst * 64) + s.snd.fst)).toNat * 5)).add 1) = some (.int .i64 n) ∧
 K_1 (n != 0, IntKind.i64.wrap (s.snd.fst + 1), ()) w'))
 (s.fst, 0, ()) w')
 fun s w' =>
 ifB (!s.fst)
 (∃ p,
 w'.cell? (p0.add 1) = some (.pointer p) ∧
 Calls prog 126 (Array.mk [.pointer p, .int .i64 s_1.fst]) w' fun y y_1 =>
 ∃ n, y = .returned (.int .i64 n) ∧ K (IntKind.i64.wrap (s_1.fst + 1), ()) y_1)
 (K (IntKind.i64.wrap (s_1.fst + 1), ()) w'))
 (Calls prog 127 (Array.mk [.pointer (some p0)]) w fun y y_1 =>
 y = .returned (.tuple (Array.mk [])) ∧ R (.tuple (Array.mk [.int .i64 s.fst, .int .i64 0])) y_1))
 (0, ()) w_2))
 (0, 0, ()) w_1))
 (0, 0, 0, ()) (w.alloc (Obj.cells (Array.mk (zcells [.bool false] (↑l : Int).toNat)) 4))

theorem S69_eq (p0 : Addr) (s1 : Option Addr) (l1 c1 : Nat) (w : World) (R : Value → World → Prop) : funX Go.Proofs.Tryz.prog 69 ⟨[], [(58, [(4, .int .i64), (5, .int .i64), (7, .int .i64)]), (250, [(10, .int .i64), (11, .int .i64)]), (506, [(12, .int .i64)]), (259226, [(14, .bool), (15, .int .i64)])], [(4004, [(69, .bool)]), (16201, [(14, .bool)]), (32403, [(14, .bool)]), (518452, [])]⟩ [(.pointer (some p0)), (.slice s1 l1 c1)] w R = S69 p0 s1 l1 c1 w R := by kernel_rfl

/-- (*hearth/space.Space).Keep -/
def S68 (p0 : Addr) (s1 : Option Addr) (l1 c1 : Nat) (w : World) (R : Value → World → Prop) : Prop :=
 atW (w.alloc (Obj.cells (Array.mk [Value.pointer (some p0)]) 34)) fun w' =>
 ∃ p,
 w'.cell? (Addr.mk w.heap.size 0 none) = some (Value.pointer p) ∧
 nilx p fun a =>
 ∃ a_1 l c,
 w'.cell? (a.add 0) = some (Value.slice a_1 l c) ∧
 Calls Proofs.Tryz.prog 52 (Array.mk [Value.int IntKind.i64 (↑l : Int)]) w' fun y y_1 =>
 ∃ p n,
 y = Ending.returned (Value.tuple (Array.mk [Value.pointer p, Value.int IntKind.i64 n])) ∧
 atW (y_1.alloc (Obj.cells (Array.mk [Value.pointer none]) 88)) fun w' =>
 stx w' (Addr.mk y_1.heap.size 0 none) [Value.pointer p] 0 fun w' =>
 LoopX (Int × Int × Int × Unit)
 (fun s w_1 K =>
 ifB (decide (s.snd.snd.fst < (↑l1 : Int)))
 (nilx s1 fun a =>
 (0 ≤ s.snd.snd.fst ∧ s.snd.snd.fst < (↑l1 : Int)) ∧
 ∃ n,
 w_1.cell? (a.add (Int.toNat s.snd.snd.fst * 1)) = some (Value.int IntKind.i64 n) ∧
 ∃ p,
 w_1.cell? (Addr.mk w.heap.size 0 none) = some (Value.pointer p) ∧
 nilx p fun a =>
 ∃ p,
 w_1.cell? (a.add 2) = some (Value.pointer p) ∧
 Calls Proofs.Tryz.prog 121 (Array.mk [Value.pointer p, Value.int IntKind.i64 n]) w_1 fun y y_2 =>
 ∃ b,
 y = Ending.returned (Value.bool b) ∧
 ifB (!b) (R (Value.tuple (Array.mk [Value.int IntKind.i64 0, Value.int IntKind.i64 22])) y_2)
 (∃ p,
 y_2.cell? (Addr.mk y_1.heap.size 0 none) = some (Value.pointer p) ∧
 Calls Proofs.Tryz.prog 58 (Array.mk [Value.pointer p, Value.int IntKind.i64 n]) y_2 fun y y_3 =>
 ∃ n, y = Ending.returned (Value.int IntKind.i64 n) ∧ K (s.fst, s.snd.fst, IntKind.i64.wrap (s.snd.snd.fst + 1), ()) y_3))
 (atW (w_1.alloc (Obj.cells (Array.mk [Value.int IntKind.i64 0]) 3)) fun w' =>
 stx w' (Addr.mk w_1.heap.size 0 none) [Value.int IntKind.i64 0] 0 fun w' =>
 ∃ p,
 w'.cell? (Addr.mk w.heap.size 0 none) = some (Value.pointer p) ∧
 nilx p fun a =>
 ∃ p,
 w'.cell? (a.add 2) = some (Value.pointer p) ∧
 Calls Proofs.Tryz.prog 91 (Array.mk [Value.pointer p]) w' fun y y_2 =>
 ∃ v,
 y = Ending.returned v ∧
 RangeX (Int × Unit) Proofs.Tryz.prog v (sargs [(48, SK.int IntKind.i64)])
 (fun l rc s w_2 K =>
 w_2.heap[l]? = some (Obj.loop rc) ∧
 atW (w_2.putObj l (recOf rc LoopState.busy none)) fun w' =>
 ∃ p,
 w'.cell? (Addr.mk y_1.heap.size 0 none) = some (Value.pointer p) ∧
 Calls Proofs.Tryz.prog 121 (Array.mk [Value.pointer p, Value.int IntKind.i64 s.fst]) w' fun y y_3 =>
 ∃ b,
 y = Ending.returned (Value.bool b) ∧
 ifB (!b)
 (∃ p,
 y_3.cell? (Addr.mk w.heap.size 0 none) = some (Value.pointer p) ∧
 Calls Proofs.Tryz.prog 122 (Array.mk [Value.pointer p, Value.int IntKind.i64 s.fst]) y_3 fun y y_4 =>
 y = Ending.returned (Value.tuple (Array.mk [])) ∧
 ∃ n,
 y_4.cell? (Addr.mk w_1.heap.size 0 none) = some (Value.int IntKind.i64 n) ∧
 stx y_4 (Addr.mk w_1.heap.size 0 none) [Value.int IntKind.i64 (IntKind.i64.wrap (n + 1))] 0 fun w' => K Exit.normal w')
 (K Exit.normal y_3))
 y_2 [] fun w' =>
 LoopX (Int × Unit)
 (fun s w_2 K =>
 ifB (decide (s.fst < 8))
 (∃ p,
 w_2.cell? (Addr.mk w.heap.size 0 none) = some (Value.pointer p) ∧
 nilx p fun a =>
 (0 ≤ s.fst ∧ s.fst < 8) ∧
 ∃ p,
 w_2.cell? ((a.add 3).add (Int.toNat s.fst * 1)) = some (Value.pointer p) ∧
 Calls Proofs.Tryz.prog 123 (Array.mk [Value.pointer p]) w_2 fun y y_3 => y = Ending.returned (Value.tuple (Array.mk [])) ∧ K (IntKind.i64.wrap (s.fst + 1), ()) y_3)
 (∃ p,
 w_2.cell? (Addr.mk w.heap.size 0 none) = some (Value.pointer p) ∧
 nilx p fun a =>
 ∃ p,
 w_2.cell? (a.add 1) = some (Value.pointer p) ∧
 Calls Proofs.Tryz.prog 124 (Array.mk [Value.pointer p]) w_2 fun y y_3 =>
 ∃ n,
 y = Ending.returned (Value.int IntKind.i64 n) ∧
 LoopX (Int × Unit)
 (fun s w_3 K =>
 ifB (decide (s.fst < n))
 (∃ p,
 w_3.cell? (Addr.mk w.heap.size 0 none) = some (Value.pointer p) ∧
 Calls Proofs.Tryz.prog 125 (Array.mk [Value.pointer p, Value.int IntKind.i64 s.fst]) w_3 fun y y_4 =>
 y = Ending.returned (Value.tuple (Array.mk [])) ∧ K (IntKind.i64.wrap (s.fst + 1), ()) y_4)
 (∃ p,
 w_3.cell? (Addr.mk w.heap.size 0 none) = some (Value.pointer p) ∧
 nilx p fun a =>
 ∃ p,
 w_3.cell? ((a.add 3).add 0) = some (Value.pointer p) ∧
 ∃ p_1,
 w_3.cell? ((a.add 3).add 1) = some (Value.pointer p_1) ∧
 ∃ p_2,
 w_3.cell? ((a.add 3).add 2) = some (Value.pointer p_2) ∧
 ∃ p_3,
 w_3.cell? ((a.add 3).add 3) = some (Value.pointer p_3) ∧
 ∃ p_4,
 w_3.cell? ((a.add 3).add 4) = some (Value.pointer p_4) ∧
 ∃ p_5,
 w_3.cell? ((a.add 3).add 5) = some (Value.pointer p_5) ∧
 ∃ p_6,
 w_3.cell? ((a.add 3).add 6) = some (Value.pointer p_6) ∧
 ∃ p_7,
 w_3.cell? ((a.add 3).add 7) = some (Value.pointer p_7) ∧
 LoopX ((Int × Unit) × List Nat)
 (fun s w_4 K =>
 ifB (decide (s.fst.fst < 8))
 (∃ p_8,
 (0 ≤ s.fst.fst ∧ s.fst.fst < 8) ∧
 [Value.pointer p, Value.pointer p_1, Value.pointer p_2, Value.pointer p_3, Value.pointer p_4, Value.pointer p_5,
 Value.pointer p_6, Value.pointer p_7][Int.toNat s.fst.fst]? =
 some (Value.pointer p_8) ∧
 atW (w_4.alloc (Obj.cells (Array.mk [Value.int IntKind.i64 0]) 3)) fun w' =>
 stx w' (Addr.mk w_4.heap.size 0 none) [Value.int IntKind.i64 s.fst.fst] 0 fun w' =>
 Calls Proofs.Tryz.prog 91 (Array.mk [Value.pointer p_8]) w' fun y y_4 =>
 ∃ v,
 y = Ending.returned v ∧
 RangeX (Int × Unit) Proofs.Tryz.prog v (sargs [(91, SK.int IntKind.i64)])
 (fun l rc s w_5 K =>
 w_5.heap[l]? = some (Obj.loop rc) ∧
 atW (w_5.putObj l (recOf rc LoopState.busy none)) fun w' =>
 ∃ p,
 w'.drew.cell? (Addr.mk w.heap.size 0 none) = some (Value.pointer p) ∧
 ∃ n,
 w'.drew.cell? (Addr.mk w_4.heap.size 0 none) = some (Value.int IntKind.i64 n) ∧
 ∃ p_9,
 w'.drew.cell? (Addr.mk w.heap.size 0 none) = some (Value.pointer p_9) ∧
 nilx p_9 fun a =>
 ∃ a_2 l c,
 w'.drew.cell? (a.add 0) = some (Value.slice a_2 l c) ∧
 Calls Proofs.Tryz.prog 92
 (Array.mk
 [Value.pointer p, Value.int IntKind.i64 n, Value.int IntKind.i64 s.fst])
 w'.drew fun y y_5 =>
 ∃ n,
 y = Ending.returned (Value.int IntKind.i64 n) ∧
 (∀ (b : Nat) (o : Obj),
 w'.drew.heap[b]? = some o → y_5.heap[b]? = some o) ∧
 nilx a_2 fun a =>
 (0 ≤ s.fst ∧ s.fst < (↑l : Int)) ∧
 stx y_5 (a.add (Int.toNat s.fst * 1)) [Value.int IntKind.i64 n]
 0 fun w' => K Exit.normal w')
 y_4 [] fun w' => K ((IntKind.i64.wrap (s.fst.fst + 1), ()), y_4.heap.size :: s.snd) w')
 (∃ n,
 w_4.cell? (Addr.mk w_1.heap.size 0 none) = some (Value.int IntKind.i64 n) ∧
 takeMs s.snd w_4 fun w' => R (Value.tuple (Array.mk [Value.int IntKind.i64 n, Value.int IntKind.i64 0])) w'))
 ((0, ()), [y_2.heap.size]) w_3))
 (0, ()) y_3))
 (0, ()) w'))
 (0, 0, 0, ()) w'

theorem S68_eq (p0 : Addr) (s1 : Option Addr) (l1 c1 : Nat) (w : World) (R : Value → World → Prop) : funX Go.Proofs.Tryz.prog 68 ⟨[(2091418, (.op 4 (.op 5 (.op 6 (.op 7 (.op 0 (.op 1 (.op 2 (.op 3 (.op 8 (.op 9 (.op 10 (.done))))))))))), [8]))], [(58, [(4, .int .i64), (5, .int .i64), (28, .int .i64)]), (250, [(48, .int .i64)]), (506, [(58, .int .i64)]), (1018, [(74, .int .i64)]), (2042, [(85, .int .i64)]), (522854, [(91, .int .i64)])], []⟩ [(.pointer (some p0)), (.slice s1 l1 c1)] w R = S68 p0 s1 l1 c1 w R := by kernel_rfl

/-- (*hearth/hearthref8.Space).word -/
def S67 (p0 : Addr) (n1 : Int) (n2 : Int) (w : World) (R : Value → World → Prop) : Prop :=
 atW (w.alloc (Obj.cells (Array.mk [.int .i64 0, .int .i64 0]) 56)) fun w' =>
 Calls prog 75 (Array.mk [.pointer (some p0), .int .i64 n1]) w' fun y y_1 =>
 ∃ n n_1,
 y = .returned (.agg (Array.mk [.int .i64 n, .int .i64 n_1])) ∧
 atW (y_1.alloc (Obj.cells (Array.mk [.int .i64 0, .int .i64 0]) 56)) fun w' =>
 stx w' (Addr.mk y_1.heap.size 0 none) [.int .i64 n, .int .i64 n_1] 0 fun w' =>
 ∃ n,
 w'.cell? ((Addr.mk y_1.heap.size 0 none).add 0) = some (.int .i64 n) ∧
 ifB (n != 0)
 (∃ n,
 w'.cell? ((Addr.mk y_1.heap.size 0 none).add 0) = some (.int .i64 n) ∧
 ∃ n_2,
 w'.cell? ((Addr.mk y_1.heap.size 0 none).add 1) = some (.int .i64 n_2) ∧
 stx w' (Addr.mk w.heap.size 0 none) [.int .i64 n, .int .i64 n_2] 0 fun w' =>
 ∃ n,
 w'.cell? ((Addr.mk w.heap.size 0 none).add 0) = some (.int .i64 n) ∧
 ∃ n_3, w'.cell? ((Addr.mk w.heap.size 0 none).add 1) = some (.int .i64 n_3) ∧ R (.agg (Array.mk [.int .i64 n, .int .i64 n_3])) w')
 (ifB (decide (n2 < 1))
 (stx w' (Addr.mk w.heap.size 0 none) [.int .i64 23, .int .i64 0] 0 fun w' =>
 ∃ n,
 w'.cell? ((Addr.mk w.heap.size 0 none).add 0) = some (.int .i64 n) ∧
 ∃ n_2, w'.cell? ((Addr.mk w.heap.size 0 none).add 1) = some (.int .i64 n_2) ∧ R (.agg (Array.mk [.int .i64 n, .int .i64 n_2])) w')
 (∃ a l c,
 w'.cell? (p0.add 2) = some (.slice a l c) ∧
 nilx a fun a =>
 (0 ≤ n1 ∧ n1 < (↑l : Int)) ∧
 ∃ n,
 w'.cell? ((a.add (n1.toNat * 5)).add 2) = some (.int .i64 n) ∧
 ifB (decide (n2 ≥ n))
 (stx w' (Addr.mk w.heap.size 0 none) [.int .i64 23, .int .i64 0] 0 fun w' =>
 ∃ n,
 w'.cell? ((Addr.mk w.heap.size 0 none).add 0) = some (.int .i64 n) ∧
 ∃ n_2, w'.cell? ((Addr.mk w.heap.size 0 none).add 1) = some (.int .i64 n_2) ∧ R (.agg (Array.mk [.int .i64 n, .int .i64 n_2])) w')
 (stx w' (Addr.mk w.heap.size 0 none) [.int .i64 0, .int .i64 0] 0 fun w' =>
 ∃ n,
 w'.cell? ((Addr.mk w.heap.size 0 none).add 0) = some (.int .i64 n) ∧
 ∃ n_2, w'.cell? ((Addr.mk w.heap.size 0 none).add 1) = some (.int .i64 n_2) ∧ R (.agg (Array.mk [.int .i64 n, .int .i64 n_2])) w')))

theorem S67_eq (p0 : Addr) (n1 : Int) (n2 : Int) (w : World) (R : Value → World → Prop) : funX Go.Proofs.Tryz.prog 67 ⟨[], [], []⟩ [(.pointer (some p0)), (.int .i64 n1), (.int .i64 n2)] w R = S67 p0 n1 n2 w R := by kernel_rfl

/-- (*hearth/space.Space).word -/
def S66 (p0 : Addr) (n1 : Int) (n2 : Int) (w : World) (R : Value → World → Prop) : Prop :=
 atW (w.alloc (Obj.cells (Array.mk [.int .i64 0, .int .i64 0]) 39)) fun w' =>
 Calls prog 74 (Array.mk [.pointer (some p0), .int .i64 n1]) w' fun y y_1 =>
 ∃ n n_1,
 y = .returned (.agg (Array.mk [.int .i64 n, .int .i64 n_1])) ∧
 atW (y_1.alloc (Obj.cells (Array.mk [.int .i64 0, .int .i64 0]) 39)) fun w' =>
 stx w' (Addr.mk y_1.heap.size 0 none) [.int .i64 n, .int .i64 n_1] 0 fun w' =>
 ∃ n,
 w'.cell? ((Addr.mk y_1.heap.size 0 none).add 0) = some (.int .i64 n) ∧
 ifB (n == 0)
 (ifB (decide (n2 < 1))
 (stx w' ((Addr.mk y_1.heap.size 0 none).add 0) [.int .i64 23] 0 fun w' =>
 ∃ n,
 w'.cell? ((Addr.mk y_1.heap.size 0 none).add 0) = some (.int .i64 n) ∧
 ∃ n_2,
 w'.cell? ((Addr.mk y_1.heap.size 0 none).add 1) = some (.int .i64 n_2) ∧
 stx w' (Addr.mk w.heap.size 0 none) [.int .i64 n, .int .i64 n_2] 0 fun w' =>
 ∃ n,
 w'.cell? ((Addr.mk w.heap.size 0 none).add 0) = some (.int .i64 n) ∧
 ∃ n_3, w'.cell? ((Addr.mk w.heap.size 0 none).add 1) = some (.int .i64 n_3) ∧ R (.agg (Array.mk [.int .i64 n, .int .i64 n_3])) w')
 (∃ r,
 w'.cell? (p0.add 11) = some (.map r) ∧
 optx r fun r =>
 ∃ es c res,
 Mapped w' r IntKind.i64 n1 es c res ∧
 ∃ n n_2 n_3 n_4,
 .agg (Array.mk [.int .i64 n, .int .i64 n_2, .int .i64 n_3, .int .i64 n_4]) =
 mgot res (.agg (Array.mk [.int .i64 0, .int .i64 0, .int .i64 0, .int .i64 0])) ∧
 ifB (decide (n2 ≥ n_2))
 (stx w' ((Addr.mk y_1.heap.size 0 none).add 0) [.int .i64 23] 0 fun w' =>
 ∃ n,
 w'.cell? ((Addr.mk y_1.heap.size 0 none).add 0) = some (.int .i64 n) ∧
 ∃ n_5,
 w'.cell? ((Addr.mk y_1.heap.size 0 none).add 1) = some (.int .i64 n_5) ∧
 stx w' (Addr.mk w.heap.size 0 none) [.int .i64 n, .int .i64 n_5] 0 fun w' =>
 ∃ n,
 w'.cell? ((Addr.mk w.heap.size 0 none).add 0) = some (.int .i64 n) ∧
 ∃ n_6, w'.cell? ((Addr.mk w.heap.size 0 none).add 1) = some (.int .i64 n_6) ∧ R (.agg (Array.mk [.int .i64 n, .int .i64 n_6])) w')
 (∃ n,
 w'.cell? ((Addr.mk y_1.heap.size 0 none).add 0) = some (.int .i64 n) ∧
 ∃ n_5,
 w'.cell? ((Addr.mk y_1.heap.size 0 none).add 1) = some (.int .i64 n_5) ∧
 stx w' (Addr.mk w.heap.size 0 none) [.int .i64 n, .int .i64 n_5] 0 fun w' =>
 ∃ n,
 w'.cell? ((Addr.mk w.heap.size 0 none).add 0) = some (.int .i64 n) ∧
 ∃ n_6, w'.cell? ((Addr.mk w.heap.size 0 none).add 1) = some (.int .i64 n_6) ∧ R (.agg (Array.mk [.int .i64 n, .int .i64 n_6])) w')))
 (∃ n,
 w'.cell? ((Addr.mk y_1.heap.size 0 none).add 0) = some (.int .i64 n) ∧
 ∃ n_2,
 w'.cell? ((Addr.mk y_1.heap.size 0 none).add 1) = some (.int .i64 n_2) ∧
 stx w' (Addr.mk w.heap.size 0 none) [.int .i64 n, .int .i64 n_2] 0 fun w' =>
 ∃ n,
 w'.cell? ((Addr.mk w.heap.size 0 none).add 0) = some (.int .i64 n) ∧
 ∃ n_3, w'.cell? ((Addr.mk w.heap.size 0 none).add 1) = some (.int .i64 n_3) ∧ R (.agg (Array.mk [.int .i64 n, .int .i64 n_3])) w')

theorem S66_eq (p0 : Addr) (n1 : Int) (n2 : Int) (w : World) (R : Value → World → Prop) : funX Go.Proofs.Tryz.prog 66 ⟨[], [], []⟩ [(.pointer (some p0)), (.int .i64 n1), (.int .i64 n2)] w R = S66 p0 n1 n2 w R := by kernel_rfl

end Go.Wx
end
section
/- WRITTEN BY A PROGRAM (wip/gen): what each function's code asks for, by the framework's precondition, in short form; each is checked by the kernel to be that precondition. -/
set_option maxRecDepth 100000
set_option linter.unusedVariables false
namespace Go.Wx
open Go Proofs.Tryz

/-- (*hearth/hearthref8.Space).take -/
def S65 (p0 : Addr) (n1 : Int) (b2 : Bool) (n3 : Int) (n4 : Int) (n5 : Int) (w : World) (R : Value → World → Prop) : Prop :=
 Calls prog 62 (Array.mk [.int .i64 n4]) w fun y y_1 =>
 ∃ n,
 y = .returned (.int .i64 n) ∧
 JoinX Unit
 (fun K =>
 ifB (n == 8)
 (∃ p,
 y_1.drew.cell? (p0.add 1) = some (.pointer p) ∧
 Calls prog 113 (Array.mk [.int .i64 n4]) y_1.drew fun y y_2 =>
 ∃ n,
 y = .returned (.int .i64 n) ∧
 (∀ (b : Nat) (o : Obj), y_1.drew.heap[b]? = some o → y_2.heap[b]? = some o) ∧
 Calls prog 112 (Array.mk [.pointer p, .int .i64 n]) y_2 fun y y_3 => ∃ n n_1, y = .returned (.tuple (Array.mk [.int .i64 n, .int .i64 n_1])) ∧ K () y_3)
 (ifB b2
 (∃ p,
 y_1.cell? (p0.add 1) = some (.pointer p) ∧
 Calls prog 114 (Array.mk [.pointer p, .int .i64 n]) y_1 fun y y_2 => ∃ n n_1, y = .returned (.tuple (Array.mk [.int .i64 n, .int .i64 n_1])) ∧ K () y_2)
 (K () y_1)))
 fun s w' =>
 atW (w'.alloc (Obj.cells (Array.mk [.int .i64 0, .int .i64 0, .int .i64 0, .int .i64 0, .int .i64 0]) 106)) fun w'_1 =>
 stx w'_1 (Addr.mk w'.heap.size 0 none) [.int .i64 n1, .int .i64 n3, .int .i64 n4, .int .i64 0, .int .i64 n5] 0 fun w'_2 =>
 JoinX Unit
 (fun K =>
 Calls prog 118 (Array.mk [.int .i64 n3]) w'_2 fun y y_2 =>
 ∃ b,
 y = .returned (.bool b) ∧
 ifB b
 (∃ n,
 y_2.cell? (p0.add 3) = some (.int .i64 n) ∧
 stx y_2 (p0.add 3) [.int .i64 (IntKind.i64.wrap (n + 1))] 0 fun w'_3 =>
 ∃ n, w'_3.cell? (p0.add 3) = some (.int .i64 n) ∧ stx w'_3 ((Addr.mk w'.heap.size 0 none).add 3) [.int .i64 n] 0 fun w' => K () w')
 (K () y_2))
 fun s w'_3 =>
 ∃ a l c,
 w'_3.drew.cell? (p0.add 2) = some (.slice a l c) ∧
 ∃ n_1,
 w'_3.drew.cell? ((Addr.mk w'.heap.size 0 none).add 0) = some (.int .i64 n_1) ∧
 ∃ n_2,
 w'_3.drew.cell? ((Addr.mk w'.heap.size 0 none).add 1) = some (.int .i64 n_2) ∧
 ∃ n_3,
 w'_3.drew.cell? ((Addr.mk w'.heap.size 0 none).add 2) = some (.int .i64 n_3) ∧
 ∃ n_4,
 w'_3.drew.cell? ((Addr.mk w'.heap.size 0 none).add 3) = some (.int .i64 n_4) ∧
 ∃ n_5,
 w'_3.drew.cell? ((Addr.mk w'.heap.size 0 none).add 4) = some (.int .i64 n_5) ∧
 nilx a fun a =>
 (0 ≤ n1 ∧ n1 < (↑l : Int)) ∧
 stx w'_3.drew (a.add (n1.toNat * 5)) [.int .i64 n_1, .int .i64 n_2, .int .i64 n_3, .int .i64 n_4, .int .i64 n_5] 0 fun w' =>
 JoinX Unit
 (fun K =>
 ifB b2
 (Calls prog 119 (Array.mk [.pointer (some p0), .int .i64 n1, .int .i64 64]) w' fun y y_2 =>
 y = .returned (.tuple (Array.mk [])) ∧
 LoopX (Int × Unit)
 (fun s w K_1 =>
 Calls prog 116 (Array.mk [.int .i64 n]) w fun y y_3 =>
 ∃ n_6,
 y = .returned (.int .i64 n_6) ∧
 ifB (decide (s.fst < n_6))
 (JoinX (Int × Unit)
 (fun K =>
 Calls prog 116 (Array.mk [.int .i64 n]) y_3 fun y y_4 =>
 ∃ n_7,
 y = .returned (.int .i64 n_7) ∧
 ifB (decide (IntKind.i64.wrap (s.fst + 1) < n_7))
 (Calls prog 117 (Array.mk [.int .i64 n, .int .i64 (IntKind.i64.wrap (s.fst + 1))]) y_4 fun y y_5 =>
 ∃ n, y = .returned (.int .i64 n) ∧ K (IntKind.i64.wrap (n1 + n), ()) y_5)
 (K (-1, ()) y_4))
 fun s_1 w' =>
 ∃ a l c,
 w'.drew.cell? (p0.add 0) = some (.slice a l c) ∧
 Calls prog 117 (Array.mk [.int .i64 n, .int .i64 s.fst]) w'.drew fun y y_4 =>
 ∃ n,
 y = .returned (.int .i64 n) ∧
 (∀ (b : Nat) (o : Obj), w'.drew.heap[b]? = some o → y_4.heap[b]? = some o) ∧
 Calls prog 63 (Array.mk [.int .i64 s_1.fst]) y_4 fun y y_5 =>
 ∃ n_7,
 y = .returned (.int .i64 n_7) ∧
 (∀ (b : Nat) (o : Obj), y_4.heap[b]? = some o → y_5.heap[b]? = some o) ∧
 nilx a fun a =>
 (0 ≤ IntKind.i64.wrap (n1 + n) ∧ IntKind.i64.wrap (n1 + n) < (↑l : Int)) ∧
 stx y_5 (a.add ((IntKind.i64.wrap (n1 + n)).toNat * 1)) [.int .i64 n_7] 0 fun w' => K_1 (IntKind.i64.wrap (s.fst + 1), ()) w')
 (K () y_3))
 (1, ()) y_2)
 (K () w'))
 fun s w' =>
 Calls prog 93 (Array.mk [.int .i64 n4]) w' fun y y_2 =>
 ∃ n,
 y = .returned (.int .i64 n) ∧
 Calls prog 119 (Array.mk [.pointer (some p0), .int .i64 n1, .int .i64 n]) y_2 fun y y_3 =>
 y = .returned (.tuple (Array.mk [])) ∧
 ∃ a l c,
 y_3.drew.cell? (p0.add 0) = some (.slice a l c) ∧
 Calls prog 120 (Array.mk [.int .i64 n1, .int .i64 n3, .int .i64 n4]) y_3.drew fun y y_4 =>
 ∃ n,
 y = .returned (.int .i64 n) ∧
 (∀ (b : Nat) (o : Obj), y_3.drew.heap[b]? = some o → y_4.heap[b]? = some o) ∧
 nilx a fun a => (0 ≤ n1 ∧ n1 < (↑l : Int)) ∧ stx y_4 (a.add (n1.toNat * 1)) [.int .i64 n] 0 fun w' => R (.tuple (Array.mk [])) w'

theorem S65_eq (p0 : Addr) (n1 : Int) (b2 : Bool) (n3 : Int) (n4 : Int) (n5 : Int) (w : World) (R : Value → World → Prop) : funX Go.Proofs.Tryz.prog 65 ⟨[(50, (.op 0 (.op 1 (.op 2 (.op 4 (.op 3 (.op 5 (.op 6 (.done))))))), [5])), (62, (.op 0 (.op 1 (.op 2 (.op 3 (.op 4 (.op 5 (.op 6 (.op 7 (.done)))))))), [])), (259475, (.op 0 (.op 1 (.op 2 (.op 4 (.op 5 (.op 6 (.op 9 (.op 3 (.op 7 (.op 8 (.op 10 (.op 11 (.op 12 (.done))))))))))))), [10, 7])), (255, (.op 0 (.op 1 (.op 2 (.op 4 (.op 5 (.op 6 (.op 7 (.op 3 (.op 8 (.op 9 (.op 10 (.done))))))))))), [8]))], [(4054, [(14, .int .i64)])], [(3, []), (15, []), (63, []), (129737, [(15, .int .i64)])]⟩ [(.pointer (some p0)), (.int .i64 n1), (.bool b2), (.int .i64 n3), (.int .i64 n4), (.int .i64 n5)] w R = S65 p0 n1 b2 n3 n4 n5 w R := by kernel_rfl

/-- (*hearth/hearthref8.Space).NextFree -/
def S64 (p0 : Addr) (n1 : Int) (n2 : Int) (w : World) (R : Value → World → Prop) : Prop :=
 JoinX (Int × Unit) (fun K => ifB (decide (n2 < 0)) (K (0, ()) w) (K (n2, ()) w)) fun s w' =>
 LoopX (Int × Int × Unit)
 (fun s_1 w K =>
 ∃ p,
 w.cell? (p0.add 1) = some (.pointer p) ∧
 nilx p fun a =>
 ∃ a_1 l c,
 w.cell? (a.add 0) = some (.slice a_1 l c) ∧
 ifB (decide (s_1.snd.fst < (↑l : Int)))
 (JoinX Unit
 (fun K_1 =>
 ∃ p,
 w.cell? (p0.add 1) = some (.pointer p) ∧
 nilx p fun a =>
 ∃ a_2 l c,
 w.cell? (a.add 0) = some (.slice a_2 l c) ∧
 nilx a_2 fun a =>
 (0 ≤ s_1.snd.fst ∧ s_1.snd.fst < (↑l : Int)) ∧
 ∃ n,
 w.cell? ((a.add (Int.toNat s_1.snd.fst * 3)).add 0) = some (.int .i64 n) ∧
 ifB (n != 1) (K (s_1.fst, IntKind.i64.wrap (s_1.snd.fst + 1), ()) w)
 (∃ p,
 w.cell? (p0.add 1) = some (.pointer p) ∧
 nilx p fun a =>
 ∃ a_3 l c,
 w.cell? (a.add 0) = some (.slice a_3 l c) ∧
 nilx a_3 fun a =>
 (0 ≤ s_1.snd.fst ∧ s_1.snd.fst < (↑l : Int)) ∧
 ∃ n, w.cell? ((a.add (Int.toNat s_1.snd.fst * 3)).add 1) = some (.int .i64 n) ∧ ifB (n != n1) (K (s_1.fst, IntKind.i64.wrap (s_1.snd.fst + 1), ()) w) (K_1 () w)))
 fun s_2 w' =>
 LoopX (Int × Int × Unit)
 (fun s_3 w K_1 =>
 Calls prog 116 (Array.mk [.int .i64 n1]) w fun y y_1 =>
 ∃ n,
 y = .returned (.int .i64 n) ∧
 ifB (decide (s_3.snd.fst < n))
 (Calls prog 117 (Array.mk [.int .i64 n1, .int .i64 s_3.snd.fst]) y_1 fun y y_2 =>
 ∃ n,
 y = .returned (.int .i64 n) ∧
 ifB (decide (IntKind.i64.wrap (IntKind.i64.wrap (s_1.snd.fst * 64) + n) ≥ s.fst))
 (∃ a l c,
 y_2.cell? (p0.add 2) = some (.slice a l c) ∧
 nilx a fun a =>
 (0 ≤ IntKind.i64.wrap (IntKind.i64.wrap (s_1.snd.fst * 64) + n) ∧ IntKind.i64.wrap (IntKind.i64.wrap (s_1.snd.fst * 64) + n) < (↑l : Int)) ∧
 ∃ n_1,
 y_2.cell? ((a.add ((IntKind.i64.wrap (IntKind.i64.wrap (s_1.snd.fst * 64) + n)).toNat * 5)).add 1) = some (.int .i64 n_1) ∧
 ifB (n_1 == 0) (R (.int .i64 (IntKind.i64.wrap (IntKind.i64.wrap (s_1.snd.fst * 64) + n))) y_2) (K_1 (s_3.fst, IntKind.i64.wrap (s_3.snd.fst + 1), ()) y_2))
 (K_1 (s_3.fst, IntKind.i64.wrap (s_3.snd.fst + 1), ()) y_2))
 (K (s_3.fst, IntKind.i64.wrap (s_1.snd.fst + 1), ()) y_1))
 (s_1.fst, 0, ()) w')
 (R (.int .i64 (-1)) w))
 (0, IntKind.i64.wrap (Int.tdiv s.fst 64), ()) w'

theorem S64_eq (p0 : Addr) (n1 : Int) (n2 : Int) (w : World) (R : Value → World → Prop) : funX Go.Proofs.Tryz.prog 64 ⟨[], [(58, [(6, .int .i64), (7, .int .i64)]), (7462, [(6, .int .i64), (8, .int .i64)])], [(3, [(2, .int .i64)]), (932, [])]⟩ [(.pointer (some p0)), (.int .i64 n1), (.int .i64 n2)] w R = S64 p0 n1 n2 w R := by kernel_rfl

/-- hearth/hearthref8.link -/
def S63 (n0 : Int) (w : World) (R : Value → World → Prop) : Prop :=
 R (.int .i64 (IntKind.i64.wrap (IntKind.i64.wrap (n0 * 8) + 4))) w

theorem S63_eq (n0 : Int) (w : World) (R : Value → World → Prop) : funX Go.Proofs.Tryz.prog 63 ⟨[], [], []⟩ [(.int .i64 n0)] w R = S63 n0 w R := by kernel_rfl

/-- hearth/hearthref4.Of -/
def S62 (n0 : Int) (w : World) (R : Value → World → Prop) : Prop :=
 JoinX (Int × Unit) (fun K => ifB (decide (n0 < 1)) (R (.int .i64 (-1)) w) (ifB (decide (n0 > 1024)) (R (.int .i64 (-1)) w) (K (0, ()) w))) fun s w' =>
 LoopX (Int × Unit)
 (fun s w K =>
 ifB (decide (s.fst < 8))
 (Calls prog 115 (Array.mk [.int .i64 s.fst]) w fun y y_1 =>
 ∃ n, y = .returned (.int .i64 n) ∧ ifB (decide (n < n0)) (K (IntKind.i64.wrap (s.fst + 1), ()) y_1) (R (.int .i64 s.fst) y_1))
 (R (.int .i64 s.fst) w))
 (0, ()) w'

theorem S62_eq (n0 : Int) (w : World) (R : Value → World → Prop) : funX Go.Proofs.Tryz.prog 62 ⟨[], [(60, [(3, .int .i64)])], [(3, [(2, .int .i64)])]⟩ [(.int .i64 n0)] w R = S62 n0 w R := by kernel_rfl

/-- (*hearth/hearthref8.Space).place -/
def S61 (p0 : Addr) (n1 : Int) (w : World) (R : Value → World → Prop) : Prop :=
 Calls prog 62 (Array.mk [.int .i64 n1]) w fun y y_1 =>
 ∃ n,
 y = .returned (.int .i64 n) ∧
 ifB (decide (n < 0)) (R (.tuple (Array.mk [.int .i64 (-1), .bool false])) y_1)
 (∃ p,
 y_1.cell? (p0.add 1) = some (.pointer p) ∧
 Calls prog 111 (Array.mk [.pointer p]) y_1 fun y y_2 =>
 ∃ p,
 y = .returned (.pointer p) ∧
 ifB (n == 8)
 (Calls prog 113 (Array.mk [.int .i64 n1]) y_2 fun y y_3 =>
 ∃ n,
 y = .returned (.int .i64 n) ∧
 Calls prog 112 (Array.mk [.pointer p, .int .i64 n]) y_3 fun y y_4 =>
 ∃ n n_1,
 y = .returned (.tuple (Array.mk [.int .i64 n, .int .i64 n_1])) ∧
 ifB (n_1 != 0) (R (.tuple (Array.mk [.int .i64 (-1), .bool false])) y_4) (R (.tuple (Array.mk [.int .i64 (IntKind.i64.wrap (n * 64)), .bool false])) y_4))
 (Calls prog 64 (Array.mk [.pointer (some p0), .int .i64 n, .int .i64 0]) y_2 fun y y_3 =>
 ∃ n_1,
 y = .returned (.int .i64 n_1) ∧
 ifB (decide (n_1 ≥ 0)) (R (.tuple (Array.mk [.int .i64 n_1, .bool false])) y_3)
 (Calls prog 114 (Array.mk [.pointer p, .int .i64 n]) y_3 fun y y_4 =>
 ∃ n n_2,
 y = .returned (.tuple (Array.mk [.int .i64 n, .int .i64 n_2])) ∧
 ifB (n_2 != 0) (R (.tuple (Array.mk [.int .i64 (-1), .bool false])) y_4) (R (.tuple (Array.mk [.int .i64 (IntKind.i64.wrap (n * 64)), .bool true])) y_4))))

theorem S61_eq (p0 : Addr) (n1 : Int) (w : World) (R : Value → World → Prop) : funX Go.Proofs.Tryz.prog 61 ⟨[], [], []⟩ [(.pointer (some p0)), (.int .i64 n1)] w R = S61 p0 n1 w R := by kernel_rfl

/-- hearth/hearthref6.Fits -/
def S60 (n0 : Int) (n1 : Int) (w : World) (R : Value → World → Prop) : Prop :=
 JoinX (Bool × Unit)
 (fun K =>
 ifB (decide (n0 < 1)) (R (.bool false) w)
 (ifB (decide (n0 > 13)) (R (.bool false) w)
 (ifB (n0 == 12) (Calls prog 108 (Array.mk [.int .i64 (IntKind.i64.wrap (n1 - 1))]) w fun y y_1 => ∃ b, y = .returned (.bool b) ∧ ifB (!b) (R (.bool false) y_1) (K (false, ()) y_1))
 (K (false, ()) w))))
 fun s w' =>
 Calls prog 109 (Array.mk [.int .i64 n0]) w' fun y y_1 =>
 ∃ a l c n n_1 n_2 n_3,
 y = .returned (.agg (Array.mk [.slice a l c, .int .i64 n, .int .i64 n_1, .int .i64 n_2, .int .i64 n_3])) ∧
 atW (y_1.alloc (Obj.cells (Array.mk [.slice none 0 0, .int .i64 0, .int .i64 0, .int .i64 0, .int .i64 0]) 147)) fun w' =>
 stx w' (Addr.mk y_1.heap.size 0 none) [.slice a l c, .int .i64 n, .int .i64 n_1, .int .i64 n_2, .int .i64 n_3] 0 fun w' =>
 ∃ n,
 w'.cell? ((Addr.mk y_1.heap.size 0 none).add 2) = some (.int .i64 n) ∧
 Calls prog 110 (Array.mk [.int .i64 n0, .int .i64 n]) w' fun y y_2 =>
 ∃ n b,
 y = .returned (.tuple (Array.mk [.int .i64 n, .bool b])) ∧
 ∃ n_4,
 y_2.cell? ((Addr.mk y_1.heap.size 0 none).add 3) = some (.int .i64 n_4) ∧
 Calls prog 110 (Array.mk [.int .i64 n0, .int .i64 n_4]) y_2 fun y y_3 =>
 ∃ n_5 b, y = .returned (.tuple (Array.mk [.int .i64 n_5, .bool b])) ∧ ifB (decide (n1 ≥ n)) (R (.bool (decide (n1 ≤ n_5))) y_3) (R (.bool false) y_3)

theorem S60_eq (n0 : Int) (n1 : Int) (w : World) (R : Value → World → Prop) : funX Go.Proofs.Tryz.prog 60 ⟨[], [], [(3, [(4, .bool)])]⟩ [(.int .i64 n0), (.int .i64 n1)] w R = S60 n0 n1 w R := by kernel_rfl

/-- hearth/hearthref7.New -/
def S59 (n0 : Int) (w : World) (R : Value → World → Prop) : Prop :=
 ifB (decide (n0 < 1)) (R (.tuple (Array.mk [.pointer none, .int .i64 1])) w)
 (ifB (decide (n0 > 4096)) (R (.tuple (Array.mk [.pointer none, .int .i64 1])) w)
 ((0 ≤ n0 ∧ n0 ≤ n0 ∧ n0 ≤ 1099511627776) ∧
 atW
 ((w.alloc (Obj.cells (Array.mk (zcells [.int .i64 0, .int .i64 0, .int .i64 0] n0.toNat)) 152)).alloc
 (Obj.cells (Array.mk [.slice (some (Addr.mk w.heap.size 0 none)) n0.toNat n0.toNat]) 135))
 fun w' =>
 R (.tuple (Array.mk [.pointer (some (Addr.mk (w.alloc (Obj.cells (Array.mk (zcells [.int .i64 0, .int .i64 0, .int .i64 0] n0.toNat)) 152)).heap.size 0 none)), .int .i64 0]))
 w'))

theorem S59_eq (n0 : Int) (w : World) (R : Value → World → Prop) : funX Go.Proofs.Tryz.prog 59 ⟨[], [], []⟩ [(.int .i64 n0)] w R = S59 n0 w R := by kernel_rfl

/-- (*hearth/bitmap.Map).Set -/
def S58 (p0 : Addr) (n1 : Int) (w : World) (R : Value → World → Prop) : Prop :=
 Calls prog 107 (Array.mk [.pointer (some p0), .int .i64 n1, .int .i64 (IntKind.i64.wrap (n1 + 1))]) w fun y y_1 => ∃ n, y = .returned (.int .i64 n) ∧ R (.int .i64 n) y_1

theorem S58_eq (p0 : Addr) (n1 : Int) (w : World) (R : Value → World → Prop) : funX Go.Proofs.Tryz.prog 58 ⟨[], [], []⟩ [(.pointer (some p0)), (.int .i64 n1)] w R = S58 p0 n1 w R := by kernel_rfl

/-- hearth/layout.Numbered -/
def S57 (n0 : Int) (w : World) (R : Value → World → Prop) : Prop :=
 Calls prog 106 (Array.mk [.int .i64 n0]) w fun y y_1 => ∃ b, y = .returned (.bool b) ∧ ifB b (R (.bool true) y_1) (R (.bool (n0 == 11)) y_1)

theorem S57_eq (n0 : Int) (w : World) (R : Value → World → Prop) : funX Go.Proofs.Tryz.prog 57 ⟨[], [], []⟩ [(.int .i64 n0)] w R = S57 n0 w R := by kernel_rfl

/-- hearth/header.Make -/
def S56 (n0 : Int) (n1 : Int) (n2 : Int) (w : World) (R : Value → World → Prop) : Prop :=
 JoinX (Int × Unit)
 (fun K =>
 ifB (decide (n0 < 0)) (R (.int .i64 0) w)
 (ifB (decide (n0 ≥ 262144)) (R (.int .i64 0) w)
 (ifB (decide (n1 < 1)) (R (.int .i64 0) w)
 (ifB (decide (n1 > 31)) (R (.int .i64 0) w) (ifB (decide (n2 < 1)) (R (.int .i64 0) w) (ifB (decide (n2 > 1024)) (R (.int .i64 0) w) (K (0, ()) w)))))))
 fun s w' =>
 R
 (.int .i64
 (IntKind.i64.wrap
 (IntKind.u64.wrap
 (↑(BitVec.ofInt 64
 (IntKind.u64.wrap
 (IntKind.u64.wrap
 (↑(BitVec.ofInt 64
 (IntKind.u64.wrap
 (↑(BitVec.ofInt 64
 (IntKind.u64.wrap
 (IntKind.u64.wrap
 (↑(BitVec.ofInt 64
 (IntKind.u64.wrap
 (IntKind.u64.wrap
 (IntKind.u64.wrap (↑(BitVec.ofInt 64 (IntKind.u64.wrap (IntKind.u64.wrap n0 * 65536)) ||| BitVec.ofInt 64 (IntKind.u64.wrap (IntKind.u64.wrap n1 * 2048))).toNat : Int) +
 IntKind.u64.wrap n2) *
 10872568911861)) &&&
 BitVec.ofInt 64 17592186044415).toNat :
 Int) *
 65536)) |||
 BitVec.ofInt 64 (IntKind.u64.wrap (IntKind.u64.wrap n2 * 32))).toNat :
 Int)) |||
 BitVec.ofInt 64 (IntKind.u64.wrap n1)).toNat :
 Int) *
 8)) |||
 BitVec.ofInt 64 5).toNat :
 Int))))
 w'

theorem S56_eq (n0 : Int) (n1 : Int) (n2 : Int) (w : World) (R : Value → World → Prop) : funX Go.Proofs.Tryz.prog 56 ⟨[], [], [(3, [(6, .int .i64)])]⟩ [(.int .i64 n0), (.int .i64 n1), (.int .i64 n2)] w R = S56 n0 n1 n2 w R := by kernel_rfl

/-- hearth/space.wide -/
def S55 (n0 : Int) (w : World) (R : Value → World → Prop) : Prop :=
 Calls prog 80 (Array.mk [.int .i64 n0]) w fun y y_1 =>
 ∃ n,
 y = .returned (.int .i64 n) ∧
 ifB (decide (n > 0)) (R (.int .i64 (IntKind.i64.wrap (n * 64))) y_1)
 (Calls prog 78 (Array.mk [.int .i64 n0]) y_1 fun y y_2 =>
 ∃ n, y = .returned (.int .i64 n) ∧ Calls prog 105 (Array.mk [.int .i64 n]) y_2 fun y y_3 => ∃ n, y = .returned (.int .i64 n) ∧ R (.int .i64 n) y_3)

theorem S55_eq (n0 : Int) (w : World) (R : Value → World → Prop) : funX Go.Proofs.Tryz.prog 55 ⟨[], [], []⟩ [(.int .i64 n0)] w R = S55 n0 w R := by kernel_rfl

/-- (*hearth/space.Space).take -/
def S54 (p0 : Addr) (n1 : Int) (w : World) (R : Value → World → Prop) : Prop :=
 atW (w.alloc (Obj.cells (Array.mk [.int .i64 0, .int .i64 0]) 39)) fun w' =>
 Calls prog 78 (Array.mk [.int .i64 n1]) w' fun y y_1 =>
 ∃ n,
 y = .returned (.int .i64 n) ∧
 ifB (n == 8)
 (∃ p,
 y_1.drew.cell? (p0.add 1) = some (.pointer p) ∧
 Calls prog 80 (Array.mk [.int .i64 n1]) y_1.drew fun y y_2 =>
 ∃ n,
 y = .returned (.int .i64 n) ∧
 (∀ (b : Nat) (o : Obj), y_1.drew.heap[b]? = some o → y_2.heap[b]? = some o) ∧
 Calls prog 79 (Array.mk [.pointer p, .int .i64 n]) y_2 fun y y_3 =>
 ∃ n n_1,
 y = .returned (.tuple (Array.mk [.int .i64 n, .int .i64 n_1])) ∧
 stx y_3 (Addr.mk w.heap.size 0 none) [.int .i64 n_1, .int .i64 0] 0 fun w' =>
 ∃ n_2,
 w'.cell? ((Addr.mk w.heap.size 0 none).add 0) = some (.int .i64 n_2) ∧
 ∃ n_3,
 w'.cell? ((Addr.mk w.heap.size 0 none).add 1) = some (.int .i64 n_3) ∧
 R (.tuple (Array.mk [.int .i64 (IntKind.i64.wrap (n * 64)), .agg (Array.mk [.int .i64 n_2, .int .i64 n_3])])) w')
 ((0 ≤ n ∧ n < 8) ∧
 ∃ p,
 y_1.cell? ((p0.add 3).add (n.toNat * 1)) = some (.pointer p) ∧
 Calls prog 99 (Array.mk [.pointer p, .int .i64 0]) y_1 fun y y_2 =>
 ∃ n_1,
 y = .returned (.int .i64 n_1) ∧
 JoinX (Int × Int × Unit)
 (fun K =>
 ifB (decide (n_1 < 0))
 (∃ p,
 y_2.cell? (p0.add 1) = some (.pointer p) ∧
 Calls prog 82 (Array.mk [.pointer p, .int .i64 n]) y_2 fun y y_3 =>
 ∃ n_2 n_3,
 y = .returned (.tuple (Array.mk [.int .i64 n_2, .int .i64 n_3])) ∧
 ifB (n_3 != 0)
 (stx y_3 (Addr.mk w.heap.size 0 none) [.int .i64 n_3, .int .i64 0] 0 fun w' =>
 ∃ n,
 w'.cell? ((Addr.mk w.heap.size 0 none).add 0) = some (.int .i64 n) ∧
 ∃ n_4,
 w'.cell? ((Addr.mk w.heap.size 0 none).add 1) = some (.int .i64 n_4) ∧
 R (.tuple (Array.mk [.int .i64 0, .agg (Array.mk [.int .i64 n, .int .i64 n_4])])) w')
 (Calls prog 103 (Array.mk [.pointer (some p0), .int .i64 n_2, .int .i64 n]) y_3 fun y y_4 =>
 y = .returned (.tuple (Array.mk [])) ∧ K (0, IntKind.i64.wrap (n_2 * 64), ()) y_4))
 (K (0, n_1, ()) y_2))
 fun s w' =>
 ∃ a l c,
 w'.drew.cell? (p0.add 0) = some (.slice a l c) ∧
 nilx a fun a =>
 (0 ≤ s.snd.fst ∧ s.snd.fst < (↑l : Int)) ∧
 ∃ n_2,
 w'.drew.cell? (a.add (Int.toNat s.snd.fst * 1)) = some (.int .i64 n_2) ∧
 Calls prog 92 (Array.mk [.pointer (some p0), .int .i64 n, .int .i64 s.snd.fst]) w'.drew fun y y_3 =>
 ∃ n_3,
 y = .returned (.int .i64 n_3) ∧
 (∀ (b : Nat) (o : Obj), w'.drew.heap[b]? = some o → y_3.heap[b]? = some o) ∧
 ifB (n_2 != n_3)
 (stx y_3 (Addr.mk w.heap.size 0 none) [.int .i64 21, .int .i64 s.snd.fst] 0 fun w' =>
 ∃ n,
 w'.cell? ((Addr.mk w.heap.size 0 none).add 0) = some (.int .i64 n) ∧
 ∃ n_4,
 w'.cell? ((Addr.mk w.heap.size 0 none).add 1) = some (.int .i64 n_4) ∧
 R (.tuple (Array.mk [.int .i64 0, .agg (Array.mk [.int .i64 n, .int .i64 n_4])])) w')
 ((0 ≤ n ∧ n < 8) ∧
 ∃ p,
 y_3.cell? ((p0.add 3).add (n.toNat * 1)) = some (.pointer p) ∧
 Calls prog 104 (Array.mk [.pointer p, .int .i64 s.snd.fst]) y_3 fun y y_4 =>
 ∃ n,
 y = .returned (.int .i64 n) ∧
 stx y_4 (Addr.mk w.heap.size 0 none) [.int .i64 0, .int .i64 0] 0 fun w' =>
 ∃ n,
 w'.cell? ((Addr.mk w.heap.size 0 none).add 0) = some (.int .i64 n) ∧
 ∃ n_4,
 w'.cell? ((Addr.mk w.heap.size 0 none).add 1) = some (.int .i64 n_4) ∧
 R (.tuple (Array.mk [.int .i64 s.snd.fst, .agg (Array.mk [.int .i64 n, .int .i64 n_4])])) w'))

theorem S54_eq (p0 : Addr) (n1 : Int) (w : World) (R : Value → World → Prop) : funX Go.Proofs.Tryz.prog 54 ⟨[(116, (.op 0 (.op 1 (.op 2 (.op 4 (.op 3 (.op 5 (.op 6 (.op 7 (.op 8 (.op 9 (.op 10 (.op 11 (.done)))))))))))), [5])), (252, (.op 0 (.op 1 (.op 2 (.op 4 (.op 7 (.op 8 (.op 9 (.op 3 (.op 5 (.op 6 (.op 10 (.op 11 (.done)))))))))))), [10]))], [], [(31, [(4, .int .i64), (9, .int .i64)])]⟩ [(.pointer (some p0)), (.int .i64 n1)] w R = S54 p0 n1 w R := by kernel_rfl

/-- hearth/layout.Fits -/
def S53 (n0 : Int) (n1 : Int) (w : World) (R : Value → World → Prop) : Prop :=
 Calls prog 101 (Array.mk [.int .i64 n0]) w fun y y_1 =>
 ∃ n n_1,
 y = .returned (.tuple (Array.mk [.int .i64 n, .int .i64 n_1])) ∧
 JoinX (Int × Unit) (fun K => ifB (n0 == 4) (K (IntKind.i64.wrap ((IntKind.i64.wrap (n_1 + 7)).tdiv 8), ()) y_1) (K (n_1, ()) y_1)) fun s w' =>
 ifB (decide (n > 0))
 (ifB (decide (n1 ≥ n))
 (ifB (decide (IntKind.i64.wrap (n1 - n) ≤ s.fst))
 (ifB (n0 != 12) (R (.bool true) w') (Calls prog 102 (Array.mk [.int .i64 (IntKind.i64.wrap (n1 - n))]) w' fun y y_2 => ∃ b, y = .returned (.bool b) ∧ R (.bool b) y_2))
 (R (.bool false) w'))
 (R (.bool false) w'))
 (R (.bool false) w')

theorem S53_eq (n0 : Int) (n1 : Int) (w : World) (R : Value → World → Prop) : funX Go.Proofs.Tryz.prog 53 ⟨[], [], [(15, [(6, .int .i64)])]⟩ [(.int .i64 n0), (.int .i64 n1)] w R = S53 n0 n1 w R := by kernel_rfl

/-- hearth/bitmap.New -/
def S52 (n0 : Int) (w : World) (R : Value → World → Prop) : Prop :=
 JoinX (Option Addr × Int × Unit)
 (fun K => ifB (decide (n0 < 0)) (R (.tuple (Array.mk [.pointer none, .int .i64 1])) w) (ifB (decide (n0 > 262144)) (R (.tuple (Array.mk [.pointer none, .int .i64 1])) w) (K (none, 0, ()) w)))
 fun s w' =>
 (0 ≤ IntKind.i64.wrap ((IntKind.i64.wrap (n0 + 63)).tdiv 64) ∧
 IntKind.i64.wrap ((IntKind.i64.wrap (n0 + 63)).tdiv 64) ≤ IntKind.i64.wrap ((IntKind.i64.wrap (n0 + 63)).tdiv 64) ∧ IntKind.i64.wrap ((IntKind.i64.wrap (n0 + 63)).tdiv 64) ≤ 1099511627776) ∧
 atW
 ((w'.alloc (Obj.cells (Array.mk (zcells [.int .u64 0] (IntKind.i64.wrap ((IntKind.i64.wrap (n0 + 63)).tdiv 64)).toNat)) 143)).alloc
 (Obj.cells (Array.mk [.int .i64 n0, .slice (some (Addr.mk w'.heap.size 0 none)) (IntKind.i64.wrap ((IntKind.i64.wrap (n0 + 63)).tdiv 64)).toNat (IntKind.i64.wrap ((IntKind.i64.wrap (n0 + 63)).tdiv 64)).toNat]) 140))
 fun w'_1 =>
 R
 (.tuple
 (Array.mk [.pointer (some (Addr.mk (w'.alloc (Obj.cells (Array.mk (zcells [.int .u64 0] (IntKind.i64.wrap ((IntKind.i64.wrap (n0 + 63)).tdiv 64)).toNat)) 143)).heap.size 0 none)), .int .i64 0]))
 w'_1

theorem S52_eq (n0 : Int) (w : World) (R : Value → World → Prop) : funX Go.Proofs.Tryz.prog 52 ⟨[], [], [(3, [(2, .ptr), (3, .int .i64)])]⟩ [(.int .i64 n0)] w R = S52 n0 w R := by kernel_rfl

/-- hearth/pages.New -/
def S51 (n0 : Int) (w : World) (R : Value → World → Prop) : Prop :=
 ifB (decide (n0 < 1)) (R (.tuple (Array.mk [.pointer none, .int .i64 1])) w)
 (ifB (decide (n0 > 4096)) (R (.tuple (Array.mk [.pointer none, .int .i64 1])) w)
 ((0 ≤ n0 ∧ n0 ≤ n0 ∧ n0 ≤ 1099511627776) ∧
 atW
 ((w.alloc (Obj.cells (Array.mk (zcells [.int .i64 0, .int .i64 0, .int .i64 0] n0.toNat)) 152)).alloc
 (Obj.cells (Array.mk [.slice (some (Addr.mk w.heap.size 0 none)) n0.toNat n0.toNat, .int .i64 0, .int .i64 n0]) 137))
 fun w' =>
 R (.tuple (Array.mk [.pointer (some (Addr.mk (w.alloc (Obj.cells (Array.mk (zcells [.int .i64 0, .int .i64 0, .int .i64 0] n0.toNat)) 152)).heap.size 0 none)), .int .i64 0]))
 w'))

theorem S51_eq (n0 : Int) (w : World) (R : Value → World → Prop) : funX Go.Proofs.Tryz.prog 51 ⟨[], [], []⟩ [(.int .i64 n0)] w R = S51 n0 w R := by kernel_rfl

/-- (*hearth/hearthlaw8.keep).apart -/
def S50 (p0 : Addr) (w : World) (R : Value → World → Prop) : Prop :=
 LoopX (Bool × Int × Unit)
 (fun s w K =>
 ∃ a l c,
 w.cell? (p0.add 0) = some (.slice a l c) ∧
 ifB (decide (s.snd.fst < (↑l : Int)))
 (∃ a l c,
 w.drew.cell? (p0.add 0) = some (.slice a l c) ∧
 nilx a fun a =>
 (0 ≤ s.snd.fst ∧ s.snd.fst < (↑l : Int)) ∧
 ∃ a_1 l c,
 w.drew.cell? (a.add (Int.toNat s.snd.fst * 1)) = some (.slice a_1 l c) ∧
 ∃ a l_1 c_1,
 w.drew.cell? (p0.add 1) = some (.slice a l_1 c_1) ∧
 nilx a fun a =>
 (0 ≤ s.snd.fst ∧ s.snd.fst < (↑l_1 : Int)) ∧
 ∃ a_2 l_2 c_2,
 w.drew.cell? (a.add (Int.toNat s.snd.fst * 1)) = some (.slice a_2 l_2 c_2) ∧
 Calls prog 94 (Array.mk [.slice a_1 l c, .slice a_2 l_2 c_2]) w.drew fun y y_1 =>
 ∃ b,
 y = .returned (.bool b) ∧
 ifB (!b) (R (.bool false) y_1)
 (∃ a l c,
 y_1.cell? (p0.add 2) = some (.slice a l c) ∧
 nilx a fun a =>
 (0 ≤ s.snd.fst ∧ s.snd.fst < (↑l : Int)) ∧
 ∃ a_3 l c,
 y_1.cell? (a.add (Int.toNat s.snd.fst * 1)) = some (.slice a_3 l c) ∧
 ∃ a l_3 c_3,
 y_1.cell? (p0.add 3) = some (.slice a l_3 c_3) ∧
 nilx a fun a =>
 (0 ≤ s.snd.fst ∧ s.snd.fst < (↑l_3 : Int)) ∧
 ∃ a_4 l_4 c_4,
 y_1.cell? (a.add (Int.toNat s.snd.fst * 1)) = some (.slice a_4 l_4 c_4) ∧
 Calls prog 95 (Array.mk [.slice a_3 l c, .slice a_4 l_4 c_4]) y_1 fun y y_2 =>
 ∃ b, y = .returned (.bool b) ∧ ifB (!b) (R (.bool false) y_2) (K (s.fst, IntKind.i64.wrap (s.snd.fst + 1), ()) y_2)))
 (LoopX (Bool × Int × Unit)
 (fun s w K =>
 ∃ a l c,
 w.cell? (p0.add 4) = some (.slice a l c) ∧
 ifB (decide (s.snd.fst < (↑l : Int)))
 (∃ a l c,
 w.drew.cell? (p0.add 4) = some (.slice a l c) ∧
 nilx a fun a =>
 (0 ≤ s.snd.fst ∧ s.snd.fst < (↑l : Int)) ∧
 ∃ a_1 l c,
 w.drew.cell? (a.add (Int.toNat s.snd.fst * 1)) = some (.slice a_1 l c) ∧
 ∃ a l_1 c_1,
 w.drew.cell? (p0.add 5) = some (.slice a l_1 c_1) ∧
 nilx a fun a =>
 (0 ≤ s.snd.fst ∧ s.snd.fst < (↑l_1 : Int)) ∧
 ∃ a_2 l_2 c_2,
 w.drew.cell? (a.add (Int.toNat s.snd.fst * 1)) = some (.slice a_2 l_2 c_2) ∧
 Calls prog 85 (Array.mk [.slice a_1 l c, .slice a_2 l_2 c_2]) w.drew fun y y_1 =>
 ∃ b, y = .returned (.bool b) ∧ ifB (!b) (R (.bool false) y_1) (K (s.fst, IntKind.i64.wrap (s.snd.fst + 1), ()) y_1))
 (LoopX (Int × Unit)
 (fun s w K =>
 ∃ a l c,
 w.cell? (p0.add 0) = some (.slice a l c) ∧
 ifB (decide (s.fst < (↑l : Int)))
 (∃ a l c,
 w.cell? (p0.add 0) = some (.slice a l c) ∧
 nilx a fun a =>
 (0 ≤ s.fst ∧ s.fst < (↑l : Int)) ∧
 ∃ a_1 l c,
 w.cell? (a.add (Int.toNat s.fst * 1)) = some (.slice a_1 l c) ∧
 Calls prog 96 (Array.mk [.pointer (some p0), .slice a_1 l c]) w fun y y_1 =>
 y = .returned (.tuple (Array.mk [])) ∧
 ∃ a l c,
 y_1.cell? (p0.add 2) = some (.slice a l c) ∧
 nilx a fun a =>
 (0 ≤ s.fst ∧ s.fst < (↑l : Int)) ∧
 ∃ a_2 l c,
 y_1.cell? (a.add (Int.toNat s.fst * 1)) = some (.slice a_2 l c) ∧
 Calls prog 97 (Array.mk [.pointer (some p0), .slice a_2 l c]) y_1 fun y y_2 =>
 y = .returned (.tuple (Array.mk [])) ∧ K (IntKind.i64.wrap (s.fst + 1), ()) y_2)
 (LoopX (Int × Unit)
 (fun s w K =>
 ∃ a l c,
 w.cell? (p0.add 4) = some (.slice a l c) ∧
 ifB (decide (s.fst < (↑l : Int)))
 (∃ a l c,
 w.cell? (p0.add 4) = some (.slice a l c) ∧
 nilx a fun a =>
 (0 ≤ s.fst ∧ s.fst < (↑l : Int)) ∧
 ∃ a_1 l c,
 w.cell? (a.add (Int.toNat s.fst * 1)) = some (.slice a_1 l c) ∧
 Calls prog 87 (Array.mk [.pointer (some p0), .slice a_1 l c]) w fun y y_1 =>
 y = .returned (.tuple (Array.mk [])) ∧ K (IntKind.i64.wrap (s.fst + 1), ()) y_1)
 (Calls prog 100 (Array.mk [.pointer (some p0)]) w fun y y_1 => ∃ b, y = .returned (.bool b) ∧ R (.bool b) y_1))
 (0, ()) w))
 (0, ()) w))
 (s.fst, 0, ()) w))
 (false, 0, ()) w

theorem S50_eq (p0 : Addr) (w : World) (R : Value → World → Prop) : funX Go.Proofs.Tryz.prog 50 ⟨[(840, (.op 0 (.op 1 (.op 2 (.op 3 (.op 4 (.op 5 (.op 6 (.op 7 (.op 8 (.op 9 (.op 10 (.op 11 (.op 12 (.op 13 (.op 14 (.op 15 (.op 16 (.op 17 (.op 18 (.op 19 (.op 20 (.op 21 (.op 22 (.op 23 (.op 24 (.op 25 (.op 26 (.op 27 (.op 28 (.op 29 (.op 30 (.op 31 (.op 32 (.op 33 (.done)))))))))))))))))))))))))))))))))), [])), (1864, (.op 0 (.op 1 (.op 2 (.op 3 (.op 4 (.op 5 (.op 6 (.op 7 (.op 8 (.op 9 (.op 10 (.op 11 (.op 12 (.op 13 (.op 14 (.op 15 (.done)))))))))))))))), []))], [(26, [(2, .bool), (3, .int .i64)]), (58, [(2, .bool), (4, .int .i64)]), (122, [(5, .int .i64)]), (250, [(6, .int .i64)])], []⟩ [(.pointer (some p0))] w R = S50 p0 w R := by kernel_rfl

end Go.Wx
end
section
/- WRITTEN BY A PROGRAM (wip/gen): what each function's code asks for, by the framework's precondition, in short form; each is checked by the kernel to be that precondition. -/
set_option maxRecDepth 100000
set_option linter.unusedVariables false
namespace Go.Wx
open Go Proofs.Tryz

/-- (*hearth/hearthref8.Space).Dump -/
def S49 (p0 : Addr) (w : World) (R : Value → World → Prop) : Prop :=
 atW
 (w.alloc
 (Obj.cells
 (Array.mk
 [.slice none 0 0, .slice none 0 0, .slice none 0 0, .int .i64 0, .int .i64 0, .int .i64 0, .int .i64 0, .int .i64 0, .int .i64 0,
 .int .i64 0, .int .i64 0, .int .i64 0])
 81))
 fun w' =>
 JoinX (Value × Unit)
 (fun K =>
 ∃ a l c,
 w'.drew.cell? (p0.add 0) = some (.slice a l c) ∧
 ∃ p,
 w'.drew.cell? (p0.add 1) = some (.pointer p) ∧
 nilx p fun a_1 =>
 ∃ a_2 l_1 c,
 w'.drew.cell? (a_1.add 0) = some (.slice a_2 l_1 c) ∧
 ∃ n,
 w'.drew.cell? (p0.add 3) = some (.int .i64 n) ∧
 (∃ old new,
 rdx w'.drew none 0 old ∧
 rdx w'.drew a (l * 1) new ∧
 (∀ (v : Value), List.Mem v new → isLeaf v = true) ∧
 (0 + l) * 8 ≤ 1099511627776 ∧
 canApp w'.drew none 0 0 l 1 ∧
 ∀ (b : Option Addr) (c : Nat) (w'_1 : World),
 AppTo w'.drew none 0 0 l 1 old new [.int .i64 0] 3 b c w'_1 →
 (∀ (b : Nat) (o : Obj), w'.drew.heap[b]? = some o → w'_1.heap[b]? = some o) ∧
 (∃ old new,
 rdx w'_1 none 0 old ∧
 rdx w'_1 a_2 (l_1 * 3) new ∧
 (∀ (v : Value), List.Mem v new → isLeaf v = true) ∧
 (0 + l_1) * 24 ≤ 1099511627776 ∧
 canApp w'_1 none 0 0 l_1 3 ∧
 ∀ (b_1 : Option Addr) (c_1 : Nat) (w' : World),
 AppTo w'_1 none 0 0 l_1 3 old new [.int .i64 0, .int .i64 0, .int .i64 0] 152 b_1 c_1 w' →
 (∀ (b : Nat) (o : Obj), w'_1.heap[b]? = some o → w'.heap[b]? = some o) ∧
 (Calls prog 41 (Array.mk [.pointer (some p0)]) w' fun y y_1 =>
 ∃ a l_2 c_2,
 y = .returned (.slice a l_2 c_2) ∧
 (∀ (b : Nat) (o : Obj), w'.heap[b]? = some o → y_1.heap[b]? = some o) ∧
 atW
 (y_1.alloc
 (Obj.cells
 (Array.mk
 [.slice none 0 0, .slice none 0 0, .slice none 0 0, .int .i64 0, .int .i64 0, .int .i64 0,
 .int .i64 0, .int .i64 0, .int .i64 0, .int .i64 0, .int .i64 0, .int .i64 0])
 81))
 fun w' =>
 (∀ (b : Nat) (o : Obj), y_1.heap[b]? = some o → w'.heap[b]? = some o) ∧
 stx w' (Addr.mk y_1.heap.size 0 none)
 [.slice b (0 + l) c, .slice b_1 (0 + l_1) c_1, .slice a l_2 c_2, .int .i64 0, .int .i64 0, .int .i64 0,
 .int .i64 0, .int .i64 0, .int .i64 0, .int .i64 0, .int .i64 0, .int .i64 n]
 0 fun w' => K (.pointer (some (Addr.mk y_1.heap.size 0 none)), ()) w') ∧
 atW
 (w'.alloc
 (Obj.cells
 (Array.mk
 [.slice none 0 0, .slice none 0 0, .slice none 0 0, .int .i64 0, .int .i64 0, .int .i64 0, .int .i64 0,
 .int .i64 0, .int .i64 0, .int .i64 0, .int .i64 0, .int .i64 0])
 81))
 fun w'_2 =>
 (∀ (b : Nat) (o : Obj), w'.heap[b]? = some o → w'_2.heap[b]? = some o) ∧
 Calls prog 41 (Array.mk [.pointer (some p0)]) w'_2 fun y y_1 =>
 ∃ a l_2 c_2,
 y = .returned (.slice a l_2 c_2) ∧
 (∀ (b : Nat) (o : Obj), w'_2.heap[b]? = some o → y_1.heap[b]? = some o) ∧
 stx y_1 (Addr.mk w'.heap.size 0 none)
 [.slice b (0 + l) c, .slice b_1 (0 + l_1) c_1, .slice a l_2 c_2, .int .i64 0, .int .i64 0, .int .i64 0,
 .int .i64 0, .int .i64 0, .int .i64 0, .int .i64 0, .int .i64 0, .int .i64 n]
 0 fun w'_3 => K (.pointer (some (Addr.mk w'.heap.size 0 none)), ()) w'_3) ∧
 atW
 (w'_1.alloc
 (Obj.cells
 (Array.mk
 [.slice none 0 0, .slice none 0 0, .slice none 0 0, .int .i64 0, .int .i64 0, .int .i64 0, .int .i64 0,
 .int .i64 0, .int .i64 0, .int .i64 0, .int .i64 0, .int .i64 0])
 81))
 fun w' =>
 (∀ (b : Nat) (o : Obj), w'_1.heap[b]? = some o → w'.heap[b]? = some o) ∧
 ∃ old new,
 rdx w' none 0 old ∧
 rdx w' a_2 (l_1 * 3) new ∧
 (∀ (v : Value), List.Mem v new → isLeaf v = true) ∧
 (0 + l_1) * 24 ≤ 1099511627776 ∧
 canApp w' none 0 0 l_1 3 ∧
 ∀ (b_1 : Option Addr) (c_1 : Nat) (w'_2 : World),
 AppTo w' none 0 0 l_1 3 old new [.int .i64 0, .int .i64 0, .int .i64 0] 152 b_1 c_1 w'_2 →
 (∀ (b : Nat) (o : Obj), w'.heap[b]? = some o → w'_2.heap[b]? = some o) ∧
 Calls prog 41 (Array.mk [.pointer (some p0)]) w'_2 fun y y_1 =>
 ∃ a l_2 c_2,
 y = .returned (.slice a l_2 c_2) ∧
 (∀ (b : Nat) (o : Obj), w'_2.heap[b]? = some o → y_1.heap[b]? = some o) ∧
 stx y_1 (Addr.mk w'_1.heap.size 0 none)
 [.slice b (0 + l) c, .slice b_1 (0 + l_1) c_1, .slice a l_2 c_2, .int .i64 0, .int .i64 0, .int .i64 0,
 .int .i64 0, .int .i64 0, .int .i64 0, .int .i64 0, .int .i64 0, .int .i64 n]
 0 fun w' => K (.pointer (some (Addr.mk w'_1.heap.size 0 none)), ()) w') ∧
 atW
 (w'.drew.alloc
 (Obj.cells
 (Array.mk
 [.slice none 0 0, .slice none 0 0, .slice none 0 0, .int .i64 0, .int .i64 0, .int .i64 0, .int .i64 0, .int .i64 0,
 .int .i64 0, .int .i64 0, .int .i64 0, .int .i64 0])
 81))
 fun w'_1 =>
 (∀ (b : Nat) (o : Obj), w'.drew.heap[b]? = some o → w'_1.heap[b]? = some o) ∧
 ∃ old new,
 rdx w'_1 none 0 old ∧
 rdx w'_1 a (l * 1) new ∧
 (∀ (v : Value), List.Mem v new → isLeaf v = true) ∧
 (0 + l) * 8 ≤ 1099511627776 ∧
 canApp w'_1 none 0 0 l 1 ∧
 ∀ (b : Option Addr) (c : Nat) (w'_2 : World),
 AppTo w'_1 none 0 0 l 1 old new [.int .i64 0] 3 b c w'_2 →
 (∀ (b : Nat) (o : Obj), w'_1.heap[b]? = some o → w'_2.heap[b]? = some o) ∧
 ∃ old new,
 rdx w'_2 none 0 old ∧
 rdx w'_2 a_2 (l_1 * 3) new ∧
 (∀ (v : Value), List.Mem v new → isLeaf v = true) ∧
 (0 + l_1) * 24 ≤ 1099511627776 ∧
 canApp w'_2 none 0 0 l_1 3 ∧
 ∀ (b_1 : Option Addr) (c_1 : Nat) (w'_3 : World),
 AppTo w'_2 none 0 0 l_1 3 old new [.int .i64 0, .int .i64 0, .int .i64 0] 152 b_1 c_1 w'_3 →
 (∀ (b : Nat) (o : Obj), w'_2.heap[b]? = some o → w'_3.heap[b]? = some o) ∧
 Calls prog 41 (Array.mk [.pointer (some p0)]) w'_3 fun y y_1 =>
 ∃ a l_2 c_2,
 y = .returned (.slice a l_2 c_2) ∧
 (∀ (b : Nat) (o : Obj), w'_3.heap[b]? = some o → y_1.heap[b]? = some o) ∧
 stx y_1 (Addr.mk w'.drew.heap.size 0 none)
 [.slice b (0 + l) c, .slice b_1 (0 + l_1) c_1, .slice a l_2 c_2, .int .i64 0, .int .i64 0, .int .i64 0,
 .int .i64 0, .int .i64 0, .int .i64 0, .int .i64 0, .int .i64 0, .int .i64 n]
 0 fun w'_4 => K (.pointer (some (Addr.mk w'.drew.heap.size 0 none)), ()) w'_4)
 fun s w' =>
 LoopX (Int × Unit)
 (fun s_1 w_1 K =>
 ifB (decide (s_1.fst < 8))
 (Calls prog 64 (Array.mk [.pointer (some p0), .int .i64 s_1.fst, .int .i64 0]) w_1 fun y y_1 =>
 ∃ n,
 y = .returned (.int .i64 n) ∧
 asA (SK.any.v s.fst) fun a => (0 ≤ s_1.fst ∧ s_1.fst < 8) ∧ stx y_1 ((a.add 3).add (Int.toNat s_1.fst * 1)) [.int .i64 n] 0 fun w' => K (IntKind.i64.wrap (s_1.fst + 1), ()) w')
 (asA (SK.any.v s.fst) fun a =>
 ∃ a_1 l c,
 w_1.cell? (a.add 0) = some (.slice a_1 l c) ∧
 ∃ a_2 l_1 c_1,
 w_1.cell? (a.add 1) = some (.slice a_2 l_1 c_1) ∧
 ∃ a_3 l_2 c_2,
 w_1.cell? (a.add 2) = some (.slice a_3 l_2 c_2) ∧
 ∃ n,
 w_1.cell? (a.add 3) = some (.int .i64 n) ∧
 ∃ n_1,
 w_1.cell? (a.add 4) = some (.int .i64 n_1) ∧
 ∃ n_2,
 w_1.cell? (a.add 5) = some (.int .i64 n_2) ∧
 ∃ n_3,
 w_1.cell? (a.add 6) = some (.int .i64 n_3) ∧
 ∃ n_4,
 w_1.cell? (a.add 7) = some (.int .i64 n_4) ∧
 ∃ n_5,
 w_1.cell? (a.add 8) = some (.int .i64 n_5) ∧
 ∃ n_6,
 w_1.cell? (a.add 9) = some (.int .i64 n_6) ∧
 ∃ n_7,
 w_1.cell? (a.add 10) = some (.int .i64 n_7) ∧
 ∃ n_8,
 w_1.cell? (a.add 11) = some (.int .i64 n_8) ∧
 stx w_1 (Addr.mk w.heap.size 0 none)
 [.slice a_1 l c, .slice a_2 l_1 c_1, .slice a_3 l_2 c_2, .int .i64 n, .int .i64 n_1, .int .i64 n_2, .int .i64 n_3,
 .int .i64 n_4, .int .i64 n_5, .int .i64 n_6, .int .i64 n_7, .int .i64 n_8]
 0 fun w' =>
 ∃ a l c,
 w'.cell? ((Addr.mk w.heap.size 0 none).add 0) = some (.slice a l c) ∧
 ∃ a_4 l_3 c_3,
 w'.cell? ((Addr.mk w.heap.size 0 none).add 1) = some (.slice a_4 l_3 c_3) ∧
 ∃ a_5 l_4 c_4,
 w'.cell? ((Addr.mk w.heap.size 0 none).add 2) = some (.slice a_5 l_4 c_4) ∧
 ∃ n,
 w'.cell? ((Addr.mk w.heap.size 0 none).add 3) = some (.int .i64 n) ∧
 ∃ n_9,
 w'.cell? ((Addr.mk w.heap.size 0 none).add 4) = some (.int .i64 n_9) ∧
 ∃ n_10,
 w'.cell? ((Addr.mk w.heap.size 0 none).add 5) = some (.int .i64 n_10) ∧
 ∃ n_11,
 w'.cell? ((Addr.mk w.heap.size 0 none).add 6) = some (.int .i64 n_11) ∧
 ∃ n_12,
 w'.cell? ((Addr.mk w.heap.size 0 none).add 7) = some (.int .i64 n_12) ∧
 ∃ n_13,
 w'.cell? ((Addr.mk w.heap.size 0 none).add 8) = some (.int .i64 n_13) ∧
 ∃ n_14,
 w'.cell? ((Addr.mk w.heap.size 0 none).add 9) = some (.int .i64 n_14) ∧
 ∃ n_15,
 w'.cell? ((Addr.mk w.heap.size 0 none).add 10) = some (.int .i64 n_15) ∧
 ∃ n_16,
 w'.cell? ((Addr.mk w.heap.size 0 none).add 11) = some (.int .i64 n_16) ∧
 R
 (.agg
 (Array.mk
 [.slice a l c, .slice a_4 l_3 c_3, .slice a_5 l_4 c_4, .int .i64 n, .int .i64 n_9,
 .int .i64 n_10, .int .i64 n_11, .int .i64 n_12, .int .i64 n_13,
 .int .i64 n_14, .int .i64 n_15, .int .i64 n_16]))
 w'))
 (0, ()) w'

theorem S49_eq (p0 : Addr) (w : World) (R : Value → World → Prop) : funX Go.Proofs.Tryz.prog 49 ⟨[(6, (.op 0 (.op 1 (.op 2 (.op 5 (.op 6 (.op 7 (.op 13 (.op 15 (.op 16 (.op 17 (.op 3 (.op 8 (.op 9 (.op 10 (.op 11 (.op 18 (.alt 4 (.alt 12 (.alt 14 (.op 19 (.op 20 (.op 21 (.done)))) 20 (.op 14 (.op 19 (.op 21 (.done))))) 20 (.op 12 (.op 14 (.op 19 (.op 21 (.done)))))) 20 (.op 4 (.op 12 (.op 14 (.op 19 (.op 21 (.done)))))))))))))))))))))), [20, 4, 14, 12]))], [(58, [(4, .int .i64)])], [(3, [(3, .any)])]⟩ [(.pointer (some p0))] w R = S49 p0 w R := by kernel_rfl

/-- (*hearth/space.Space).Dump -/
def S48 (p0 : Addr) (w : World) (R : Value → World → Prop) : Prop :=
 atW
 (w.alloc
 (Obj.cells
 (Array.mk
 [Value.slice none 0 0, Value.slice none 0 0, Value.slice none 0 0, Value.int IntKind.i64 0, Value.int IntKind.i64 0, Value.int IntKind.i64 0, Value.int IntKind.i64 0, Value.int IntKind.i64 0, Value.int IntKind.i64 0,
 Value.int IntKind.i64 0, Value.int IntKind.i64 0, Value.int IntKind.i64 0])
 81))
 fun w' =>
 JoinX (Value × Unit)
 (fun K =>
 ∃ a l c,
 w'.drew.cell? (p0.add 0) = some (Value.slice a l c) ∧
 ∃ p,
 w'.drew.cell? (p0.add 1) = some (Value.pointer p) ∧
 ∃ n,
 w'.drew.cell? (p0.add 13) = some (Value.int IntKind.i64 n) ∧
 (∃ old new,
 rdx w'.drew none 0 old ∧
 rdx w'.drew a (l * 1) new ∧
 (∀ (v : Value), List.Mem v new → isLeaf v = true) ∧
 (0 + l) * 8 ≤ 1099511627776 ∧
 canApp w'.drew none 0 0 l 1 ∧
 ∀ (b : Option Addr) (c : Nat) (w'_1 : World),
 AppTo w'.drew none 0 0 l 1 old new [Value.int IntKind.i64 0] 3 b c w'_1 →
 (∀ (b : Nat) (o : Obj), w'.drew.heap[b]? = some o → w'_1.heap[b]? = some o) ∧
 (Calls Proofs.Tryz.prog 98 (Array.mk [Value.pointer p]) w'_1 fun y y_1 =>
 ∃ a l_1 c_1,
 y = Ending.returned (Value.slice a l_1 c_1) ∧
 (∀ (b : Nat) (o : Obj), w'_1.heap[b]? = some o → y_1.heap[b]? = some o) ∧
 (Calls Proofs.Tryz.prog 40 (Array.mk [Value.pointer (some p0)]) y_1 fun y y_2 =>
 ∃ a_1 l_2 c_2,
 y = Ending.returned (Value.slice a_1 l_2 c_2) ∧
 (∀ (b : Nat) (o : Obj), y_1.heap[b]? = some o → y_2.heap[b]? = some o) ∧
 atW
 (y_2.alloc
 (Obj.cells
 (Array.mk
 [Value.slice none 0 0, Value.slice none 0 0, Value.slice none 0 0, Value.int IntKind.i64 0, Value.int IntKind.i64 0, Value.int IntKind.i64 0, Value.int IntKind.i64 0,
 Value.int IntKind.i64 0, Value.int IntKind.i64 0, Value.int IntKind.i64 0, Value.int IntKind.i64 0, Value.int IntKind.i64 0])
 81))
 fun w' =>
 (∀ (b : Nat) (o : Obj), y_2.heap[b]? = some o → w'.heap[b]? = some o) ∧
 stx w' (Addr.mk y_2.heap.size 0 none)
 [Value.slice b (0 + l) c, Value.slice a l_1 c_1, Value.slice a_1 l_2 c_2, Value.int IntKind.i64 0, Value.int IntKind.i64 0, Value.int IntKind.i64 0, Value.int IntKind.i64 0,
 Value.int IntKind.i64 0, Value.int IntKind.i64 0, Value.int IntKind.i64 0, Value.int IntKind.i64 0, Value.int IntKind.i64 n]
 0 fun w' => K (Value.pointer (some (Addr.mk y_2.heap.size 0 none)), ()) w') ∧
 atW
 (y_1.alloc
 (Obj.cells
 (Array.mk
 [Value.slice none 0 0, Value.slice none 0 0, Value.slice none 0 0, Value.int IntKind.i64 0, Value.int IntKind.i64 0, Value.int IntKind.i64 0, Value.int IntKind.i64 0,
 Value.int IntKind.i64 0, Value.int IntKind.i64 0, Value.int IntKind.i64 0, Value.int IntKind.i64 0, Value.int IntKind.i64 0])
 81))
 fun w' =>
 (∀ (b : Nat) (o : Obj), y_1.heap[b]? = some o → w'.heap[b]? = some o) ∧
 Calls Proofs.Tryz.prog 40 (Array.mk [Value.pointer (some p0)]) w' fun y y_2 =>
 ∃ a_1 l_2 c_2,
 y = Ending.returned (Value.slice a_1 l_2 c_2) ∧
 (∀ (b : Nat) (o : Obj), w'.heap[b]? = some o → y_2.heap[b]? = some o) ∧
 stx y_2 (Addr.mk y_1.heap.size 0 none)
 [Value.slice b (0 + l) c, Value.slice a l_1 c_1, Value.slice a_1 l_2 c_2, Value.int IntKind.i64 0, Value.int IntKind.i64 0, Value.int IntKind.i64 0, Value.int IntKind.i64 0,
 Value.int IntKind.i64 0, Value.int IntKind.i64 0, Value.int IntKind.i64 0, Value.int IntKind.i64 0, Value.int IntKind.i64 n]
 0 fun w' => K (Value.pointer (some (Addr.mk y_1.heap.size 0 none)), ()) w') ∧
 atW
 (w'_1.alloc
 (Obj.cells
 (Array.mk
 [Value.slice none 0 0, Value.slice none 0 0, Value.slice none 0 0, Value.int IntKind.i64 0, Value.int IntKind.i64 0, Value.int IntKind.i64 0, Value.int IntKind.i64 0, Value.int IntKind.i64 0,
 Value.int IntKind.i64 0, Value.int IntKind.i64 0, Value.int IntKind.i64 0, Value.int IntKind.i64 0])
 81))
 fun w' =>
 (∀ (b : Nat) (o : Obj), w'_1.heap[b]? = some o → w'.heap[b]? = some o) ∧
 Calls Proofs.Tryz.prog 98 (Array.mk [Value.pointer p]) w' fun y y_1 =>
 ∃ a l_1 c_1,
 y = Ending.returned (Value.slice a l_1 c_1) ∧
 (∀ (b : Nat) (o : Obj), w'.heap[b]? = some o → y_1.heap[b]? = some o) ∧
 Calls Proofs.Tryz.prog 40 (Array.mk [Value.pointer (some p0)]) y_1 fun y y_2 =>
 ∃ a_1 l_2 c_2,
 y = Ending.returned (Value.slice a_1 l_2 c_2) ∧
 (∀ (b : Nat) (o : Obj), y_1.heap[b]? = some o → y_2.heap[b]? = some o) ∧
 stx y_2 (Addr.mk w'_1.heap.size 0 none)
 [Value.slice b (0 + l) c, Value.slice a l_1 c_1, Value.slice a_1 l_2 c_2, Value.int IntKind.i64 0, Value.int IntKind.i64 0, Value.int IntKind.i64 0, Value.int IntKind.i64 0,
 Value.int IntKind.i64 0, Value.int IntKind.i64 0, Value.int IntKind.i64 0, Value.int IntKind.i64 0, Value.int IntKind.i64 n]
 0 fun w' => K (Value.pointer (some (Addr.mk w'_1.heap.size 0 none)), ()) w') ∧
 atW
 (w'.drew.alloc
 (Obj.cells
 (Array.mk
 [Value.slice none 0 0, Value.slice none 0 0, Value.slice none 0 0, Value.int IntKind.i64 0, Value.int IntKind.i64 0, Value.int IntKind.i64 0, Value.int IntKind.i64 0, Value.int IntKind.i64 0,
 Value.int IntKind.i64 0, Value.int IntKind.i64 0, Value.int IntKind.i64 0, Value.int IntKind.i64 0])
 81))
 fun w'_1 =>
 (∀ (b : Nat) (o : Obj), w'.drew.heap[b]? = some o → w'_1.heap[b]? = some o) ∧
 ∃ old new,
 rdx w'_1 none 0 old ∧
 rdx w'_1 a (l * 1) new ∧
 (∀ (v : Value), List.Mem v new → isLeaf v = true) ∧
 (0 + l) * 8 ≤ 1099511627776 ∧
 canApp w'_1 none 0 0 l 1 ∧
 ∀ (b : Option Addr) (c : Nat) (w'_2 : World),
 AppTo w'_1 none 0 0 l 1 old new [Value.int IntKind.i64 0] 3 b c w'_2 →
 (∀ (b : Nat) (o : Obj), w'_1.heap[b]? = some o → w'_2.heap[b]? = some o) ∧
 Calls Proofs.Tryz.prog 98 (Array.mk [Value.pointer p]) w'_2 fun y y_1 =>
 ∃ a l_1 c_1,
 y = Ending.returned (Value.slice a l_1 c_1) ∧
 (∀ (b : Nat) (o : Obj), w'_2.heap[b]? = some o → y_1.heap[b]? = some o) ∧
 Calls Proofs.Tryz.prog 40 (Array.mk [Value.pointer (some p0)]) y_1 fun y y_2 =>
 ∃ a_1 l_2 c_2,
 y = Ending.returned (Value.slice a_1 l_2 c_2) ∧
 (∀ (b : Nat) (o : Obj), y_1.heap[b]? = some o → y_2.heap[b]? = some o) ∧
 stx y_2 (Addr.mk w'.drew.heap.size 0 none)
 [Value.slice b (0 + l) c, Value.slice a l_1 c_1, Value.slice a_1 l_2 c_2, Value.int IntKind.i64 0, Value.int IntKind.i64 0, Value.int IntKind.i64 0, Value.int IntKind.i64 0,
 Value.int IntKind.i64 0, Value.int IntKind.i64 0, Value.int IntKind.i64 0, Value.int IntKind.i64 0, Value.int IntKind.i64 n]
 0 fun w'_3 => K (Value.pointer (some (Addr.mk w'.drew.heap.size 0 none)), ()) w'_3)
 fun s w' =>
 ∃ p,
 w'.cell? ((p0.add 3).add 0) = some (Value.pointer p) ∧
 ∃ p_1,
 w'.cell? ((p0.add 3).add 1) = some (Value.pointer p_1) ∧
 ∃ p_2,
 w'.cell? ((p0.add 3).add 2) = some (Value.pointer p_2) ∧
 ∃ p_3,
 w'.cell? ((p0.add 3).add 3) = some (Value.pointer p_3) ∧
 ∃ p_4,
 w'.cell? ((p0.add 3).add 4) = some (Value.pointer p_4) ∧
 ∃ p_5,
 w'.cell? ((p0.add 3).add 5) = some (Value.pointer p_5) ∧
 ∃ p_6,
 w'.cell? ((p0.add 3).add 6) = some (Value.pointer p_6) ∧
 ∃ p_7,
 w'.cell? ((p0.add 3).add 7) = some (Value.pointer p_7) ∧
 LoopX (Int × Unit)
 (fun s_1 w_1 K =>
 ifB (decide (s_1.fst < 8))
 (∃ p_8,
 (0 ≤ s_1.fst ∧ s_1.fst < 8) ∧
 [Value.pointer p, Value.pointer p_1, Value.pointer p_2, Value.pointer p_3, Value.pointer p_4, Value.pointer p_5, Value.pointer p_6, Value.pointer p_7][Int.toNat s_1.fst]? =
 some (Value.pointer p_8) ∧
 Calls Proofs.Tryz.prog 99 (Array.mk [Value.pointer p_8, Value.int IntKind.i64 0]) w_1 fun y y_1 =>
 ∃ n,
 y = Ending.returned (Value.int IntKind.i64 n) ∧
 asA (SK.any.v s.fst) fun a =>
 (0 ≤ s_1.fst ∧ s_1.fst < 8) ∧ stx y_1 ((a.add 3).add (Int.toNat s_1.fst * 1)) [Value.int IntKind.i64 n] 0 fun w' => K (IntKind.i64.wrap (s_1.fst + 1), ()) w')
 (asA (SK.any.v s.fst) fun a =>
 ∃ a_1 l c,
 w_1.cell? (a.add 0) = some (Value.slice a_1 l c) ∧
 ∃ a_2 l_1 c_1,
 w_1.cell? (a.add 1) = some (Value.slice a_2 l_1 c_1) ∧
 ∃ a_3 l_2 c_2,
 w_1.cell? (a.add 2) = some (Value.slice a_3 l_2 c_2) ∧
 ∃ n,
 w_1.cell? (a.add 3) = some (Value.int IntKind.i64 n) ∧
 ∃ n_1,
 w_1.cell? (a.add 4) = some (Value.int IntKind.i64 n_1) ∧
 ∃ n_2,
 w_1.cell? (a.add 5) = some (Value.int IntKind.i64 n_2) ∧
 ∃ n_3,
 w_1.cell? (a.add 6) = some (Value.int IntKind.i64 n_3) ∧
 ∃ n_4,
 w_1.cell? (a.add 7) = some (Value.int IntKind.i64 n_4) ∧
 ∃ n_5,
 w_1.cell? (a.add 8) = some (Value.int IntKind.i64 n_5) ∧
 ∃ n_6,
 w_1.cell? (a.add 9) = some (Value.int IntKind.i64 n_6) ∧
 ∃ n_7,
 w_1.cell? (a.add 10) = some (Value.int IntKind.i64 n_7) ∧
 ∃ n_8,
 w_1.cell? (a.add 11) = some (Value.int IntKind.i64 n_8) ∧
 stx w_1 (Addr.mk w.heap.size 0 none)
 [Value.slice a_1 l c, Value.slice a_2 l_1 c_1, Value.slice a_3 l_2 c_2, Value.int IntKind.i64 n, Value.int IntKind.i64 n_1,
 Value.int IntKind.i64 n_2, Value.int IntKind.i64 n_3, Value.int IntKind.i64 n_4, Value.int IntKind.i64 n_5, Value.int IntKind.i64 n_6,
 Value.int IntKind.i64 n_7, Value.int IntKind.i64 n_8]
 0 fun w' =>
 ∃ a l c,
 w'.cell? ((Addr.mk w.heap.size 0 none).add 0) = some (Value.slice a l c) ∧
 ∃ a_4 l_3 c_3,
 w'.cell? ((Addr.mk w.heap.size 0 none).add 1) = some (Value.slice a_4 l_3 c_3) ∧
 ∃ a_5 l_4 c_4,
 w'.cell? ((Addr.mk w.heap.size 0 none).add 2) = some (Value.slice a_5 l_4 c_4) ∧
 ∃ n,
 w'.cell? ((Addr.mk w.heap.size 0 none).add 3) = some (Value.int IntKind.i64 n) ∧
 ∃ n_9,
 w'.cell? ((Addr.mk w.heap.size 0 none).add 4) = some (Value.int IntKind.i64 n_9) ∧
 ∃ n_10,
 w'.cell? ((Addr.mk w.heap.size 0 none).add 5) = some (Value.int IntKind.i64 n_10) ∧
 ∃ n_11,
 w'.cell? ((Addr.mk w.heap.size 0 none).add 6) = some (Value.int IntKind.i64 n_11) ∧
 ∃ n_12,
 w'.cell? ((Addr.mk w.heap.size 0 none).add 7) = some (Value.int IntKind.i64 n_12) ∧
 ∃ n_13,
 w'.cell? ((Addr.mk w.heap.size 0 none).add 8) = some (Value.int IntKind.i64 n_13) ∧
 ∃ n_14,
 w'.cell? ((Addr.mk w.heap.size 0 none).add 9) = some (Value.int IntKind.i64 n_14) ∧
 ∃ n_15,
 w'.cell? ((Addr.mk w.heap.size 0 none).add 10) = some (Value.int IntKind.i64 n_15) ∧
 ∃ n_16,
 w'.cell? ((Addr.mk w.heap.size 0 none).add 11) = some (Value.int IntKind.i64 n_16) ∧
 R
 (Value.agg
 (Array.mk
 [Value.slice a l c, Value.slice a_4 l_3 c_3, Value.slice a_5 l_4 c_4,
 Value.int IntKind.i64 n, Value.int IntKind.i64 n_9, Value.int IntKind.i64 n_10,
 Value.int IntKind.i64 n_11, Value.int IntKind.i64 n_12, Value.int IntKind.i64 n_13,
 Value.int IntKind.i64 n_14, Value.int IntKind.i64 n_15, Value.int IntKind.i64 n_16]))
 w'))
 (0, ()) w'

theorem S48_eq (p0 : Addr) (w : World) (R : Value → World → Prop) : funX Go.Proofs.Tryz.prog 48 ⟨[(6, (.op 0 (.op 1 (.op 2 (.op 5 (.op 6 (.op 7 (.op 10 (.op 12 (.op 13 (.op 14 (.op 3 (.op 8 (.op 15 (.alt 4 (.alt 9 (.alt 11 (.op 16 (.op 17 (.op 18 (.done)))) 17 (.op 11 (.op 16 (.op 18 (.done))))) 17 (.op 9 (.op 11 (.op 16 (.op 18 (.done)))))) 17 (.op 4 (.op 9 (.op 11 (.op 16 (.op 18 (.done))))))))))))))))))), [17, 4, 11, 9]))], [(58, [(27, .int .i64)])], [(3, [(3, .any)])]⟩ [(.pointer (some p0))] w R = S48 p0 w R := by kernel_rfl

end Go.Wx
end
section
/- WRITTEN BY A PROGRAM (wip/gen): what each function's code asks for, by the framework's precondition, in short form; each is checked by the kernel to be that precondition. -/
set_option maxRecDepth 100000
set_option linter.unusedVariables false
namespace Go.Wx
open Go Proofs.Tryz

/-- (*hearth/hearthlaw8.keep).dump -/
def S47 (p0 : Addr) (s1_0 : Option Addr) (l1_0 c1_0 : Nat) (s1_1 : Option Addr) (l1_1 c1_1 : Nat) (s1_2 : Option Addr) (l1_2 c1_2 : Nat) (n1_3 : Int) (n1_4 : Int) (n1_5 : Int) (n1_6 : Int) (n1_7 : Int) (n1_8 : Int) (n1_9 : Int) (n1_10 : Int) (n1_11 : Int) (s2_0 : Option Addr) (l2_0 c2_0 : Nat) (s2_1 : Option Addr) (l2_1 c2_1 : Nat) (s2_2 : Option Addr) (l2_2 c2_2 : Nat) (n2_3 : Int) (n2_4 : Int) (n2_5 : Int) (n2_6 : Int) (n2_7 : Int) (n2_8 : Int) (n2_9 : Int) (n2_10 : Int) (n2_11 : Int) (b3 : Bool) (w : World) (R : Value → World → Prop) : Prop :=
 atW
 (w.alloc
 (Obj.cells
 (Array.mk
 [.slice s1_0 l1_0 c1_0, .slice s1_1 l1_1 c1_1, .slice s1_2 l1_2 c1_2, .int .i64 n1_3, .int .i64 n1_4, .int .i64 n1_5, .int .i64 n1_6, .int .i64 n1_7,
 .int .i64 n1_8, .int .i64 n1_9, .int .i64 n1_10, .int .i64 n1_11])
 81))
 fun w' =>
 atW
 (w'.alloc
 (Obj.cells
 (Array.mk
 [.slice s2_0 l2_0 c2_0, .slice s2_1 l2_1 c2_1, .slice s2_2 l2_2 c2_2, .int .i64 n2_3, .int .i64 n2_4, .int .i64 n2_5, .int .i64 n2_6, .int .i64 n2_7,
 .int .i64 n2_8, .int .i64 n2_9, .int .i64 n2_10, .int .i64 n2_11])
 81))
 fun w'_1 =>
 JoinX (Bool × Unit)
 (fun K =>
 ∃ a l c,
 w'_1.cell? ((Addr.mk w.heap.size 0 none).add 0) = some (.slice a l c) ∧
 ∃ a_1 l_1 c_1,
 w'_1.cell? ((Addr.mk w'.heap.size 0 none).add 0) = some (.slice a_1 l_1 c_1) ∧
 Calls prog 94 (Array.mk [.slice a l c, .slice a_1 l_1 c_1]) w'_1 fun y y_1 =>
 ∃ b,
 y = .returned (.bool b) ∧
 ifB (!b) (R (.bool false) y_1)
 (∃ a l c,
 y_1.cell? ((Addr.mk w.heap.size 0 none).add 1) = some (.slice a l c) ∧
 ∃ a_2 l_2 c_2,
 y_1.cell? ((Addr.mk w'.heap.size 0 none).add 1) = some (.slice a_2 l_2 c_2) ∧
 Calls prog 95 (Array.mk [.slice a l c, .slice a_2 l_2 c_2]) y_1 fun y y_2 =>
 ∃ b,
 y = .returned (.bool b) ∧
 ifB (!b) (R (.bool false) y_2)
 (∃ a l c,
 y_2.cell? ((Addr.mk w.heap.size 0 none).add 2) = some (.slice a l c) ∧
 ∃ a_3 l_3 c_3,
 y_2.cell? ((Addr.mk w'.heap.size 0 none).add 2) = some (.slice a_3 l_3 c_3) ∧
 Calls prog 85 (Array.mk [.slice a l c, .slice a_3 l_3 c_3]) y_2 fun y y_3 =>
 ∃ b,
 y = .returned (.bool b) ∧
 ifB (!b) (R (.bool false) y_3)
 (∃ n,
 y_3.cell? (((Addr.mk w.heap.size 0 none).add 3).add 0) = some (.int .i64 n) ∧
 ∃ n_1,
 y_3.cell? (((Addr.mk w.heap.size 0 none).add 3).add 1) = some (.int .i64 n_1) ∧
 ∃ n_2,
 y_3.cell? (((Addr.mk w.heap.size 0 none).add 3).add 2) = some (.int .i64 n_2) ∧
 ∃ n_3,
 y_3.cell? (((Addr.mk w.heap.size 0 none).add 3).add 3) = some (.int .i64 n_3) ∧
 ∃ n_4,
 y_3.cell? (((Addr.mk w.heap.size 0 none).add 3).add 4) = some (.int .i64 n_4) ∧
 ∃ n_5,
 y_3.cell? (((Addr.mk w.heap.size 0 none).add 3).add 5) = some (.int .i64 n_5) ∧
 ∃ n_6,
 y_3.cell? (((Addr.mk w.heap.size 0 none).add 3).add 6) = some (.int .i64 n_6) ∧
 ∃ n_7,
 y_3.cell? (((Addr.mk w.heap.size 0 none).add 3).add 7) = some (.int .i64 n_7) ∧
 ∃ n_8,
 y_3.cell? (((Addr.mk w'.heap.size 0 none).add 3).add 0) = some (.int .i64 n_8) ∧
 ∃ n_9,
 y_3.cell? (((Addr.mk w'.heap.size 0 none).add 3).add 1) = some (.int .i64 n_9) ∧
 ∃ n_10,
 y_3.cell? (((Addr.mk w'.heap.size 0 none).add 3).add 2) = some (.int .i64 n_10) ∧
 ∃ n_11,
 y_3.cell? (((Addr.mk w'.heap.size 0 none).add 3).add 3) = some (.int .i64 n_11) ∧
 ∃ n_12,
 y_3.cell? (((Addr.mk w'.heap.size 0 none).add 3).add 4) = some (.int .i64 n_12) ∧
 ∃ n_13,
 y_3.cell? (((Addr.mk w'.heap.size 0 none).add 3).add 5) = some (.int .i64 n_13) ∧
 ∃ n_14,
 y_3.cell? (((Addr.mk w'.heap.size 0 none).add 3).add 6) = some (.int .i64 n_14) ∧
 ∃ n_15,
 y_3.cell? (((Addr.mk w'.heap.size 0 none).add 3).add 7) = some (.int .i64 n_15) ∧
 ifB
 (!(n == n_8 &&
 (n_1 == n_9 &&
 (n_2 == n_10 && (n_3 == n_11 && (n_4 == n_12 && (n_5 == n_13 && (n_6 == n_14 && (n_7 == n_15 && true)))))))))
 (R (.bool false) y_3)
 (∃ n,
 y_3.cell? ((Addr.mk w.heap.size 0 none).add 11) = some (.int .i64 n) ∧
 ∃ n_16,
 y_3.cell? ((Addr.mk w'.heap.size 0 none).add 11) = some (.int .i64 n_16) ∧
 ifB (n != n_16) (R (.bool false) y_3) (K (false, ()) y_3))))))
 fun s w'_2 =>
 Calls prog 86 (Array.mk [.pointer (some p0)]) w'_2 fun y y_1 =>
 ∃ b,
 y = .returned (.bool b) ∧
 ifB b (R (.bool true) y_1)
 (ifB b3
 (∃ a l c,
 y_1.drew.cell? ((Addr.mk w.heap.size 0 none).add 0) = some (.slice a l c) ∧
 ∃ a_1 l_1 c_1,
 y_1.drew.cell? (p0.add 0) = some (.slice a_1 l_1 c_1) ∧
 atW (y_1.drew.alloc (Obj.cells (Array.mk [.slice a l c]) 30)) fun w'_3 =>
 (∀ (b : Nat) (o : Obj), y_1.drew.heap[b]? = some o → w'_3.heap[b]? = some o) ∧
 ∃ old new,
 rdx w'_3 a_1 (l_1 * 1) old ∧
 rdx w'_3 (some (Addr.mk y_1.drew.heap.size 0 none)) 1 new ∧
 (∀ (v : Value), List.Mem v new → isLeaf v = true) ∧
 (l_1 + 1) * 24 ≤ 1099511627776 ∧
 canApp w'_3 a_1 l_1 c_1 1 1 ∧
 ∀ (b : Option Addr) (c : Nat) (w'_4 : World),
 AppTo w'_3 a_1 l_1 c_1 1 1 old new [.slice none 0 0] 30 b c w'_4 →
 stx w'_4 (p0.add 0) [.slice b (l_1 + 1) c] 0 fun w'_5 =>
 ∃ a l c,
 w'_5.drew.cell? ((Addr.mk w'.heap.size 0 none).add 0) = some (.slice a l c) ∧
 ∃ a_2 l_2 c_2,
 w'_5.drew.cell? (p0.add 1) = some (.slice a_2 l_2 c_2) ∧
 atW (w'_5.drew.alloc (Obj.cells (Array.mk [.slice a l c]) 30)) fun w'_6 =>
 (∀ (b : Nat) (o : Obj), w'_5.drew.heap[b]? = some o → w'_6.heap[b]? = some o) ∧
 ∃ old new,
 rdx w'_6 a_2 (l_2 * 1) old ∧
 rdx w'_6 (some (Addr.mk w'_5.drew.heap.size 0 none)) 1 new ∧
 (∀ (v : Value), List.Mem v new → isLeaf v = true) ∧
 (l_2 + 1) * 24 ≤ 1099511627776 ∧
 canApp w'_6 a_2 l_2 c_2 1 1 ∧
 ∀ (b : Option Addr) (c : Nat) (w'_7 : World),
 AppTo w'_6 a_2 l_2 c_2 1 1 old new [.slice none 0 0] 30 b c w'_7 →
 stx w'_7 (p0.add 1) [.slice b (l_2 + 1) c] 0 fun w'_8 =>
 ∃ a l c,
 w'_8.drew.cell? ((Addr.mk w.heap.size 0 none).add 1) = some (.slice a l c) ∧
 ∃ a_3 l_3 c_3,
 w'_8.drew.cell? (p0.add 2) = some (.slice a_3 l_3 c_3) ∧
 atW (w'_8.drew.alloc (Obj.cells (Array.mk [.slice a l c]) 78)) fun w'_9 =>
 (∀ (b : Nat) (o : Obj), w'_8.drew.heap[b]? = some o → w'_9.heap[b]? = some o) ∧
 ∃ old new,
 rdx w'_9 a_3 (l_3 * 1) old ∧
 rdx w'_9 (some (Addr.mk w'_8.drew.heap.size 0 none)) 1 new ∧
 (∀ (v : Value), List.Mem v new → isLeaf v = true) ∧
 (l_3 + 1) * 24 ≤ 1099511627776 ∧
 canApp w'_9 a_3 l_3 c_3 1 1 ∧
 ∀ (b : Option Addr) (c : Nat) (w'_10 : World),
 AppTo w'_9 a_3 l_3 c_3 1 1 old new [.slice none 0 0] 78 b c w'_10 →
 stx w'_10 (p0.add 2) [.slice b (l_3 + 1) c] 0 fun w'_11 =>
 ∃ a l c,
 w'_11.drew.cell? ((Addr.mk w'.heap.size 0 none).add 1) = some (.slice a l c) ∧
 ∃ a_4 l_4 c_4,
 w'_11.drew.cell? (p0.add 3) = some (.slice a_4 l_4 c_4) ∧
 atW (w'_11.drew.alloc (Obj.cells (Array.mk [.slice a l c]) 78)) fun w'_12 =>
 (∀ (b : Nat) (o : Obj), w'_11.drew.heap[b]? = some o → w'_12.heap[b]? = some o) ∧
 ∃ old new,
 rdx w'_12 a_4 (l_4 * 1) old ∧
 rdx w'_12 (some (Addr.mk w'_11.drew.heap.size 0 none)) 1 new ∧
 (∀ (v : Value), List.Mem v new → isLeaf v = true) ∧
 (l_4 + 1) * 24 ≤ 1099511627776 ∧
 canApp w'_12 a_4 l_4 c_4 1 1 ∧
 ∀ (b : Option Addr) (c : Nat) (w'_13 : World),
 AppTo w'_12 a_4 l_4 c_4 1 1 old new [.slice none 0 0] 78 b c w'_13 →
 stx w'_13 (p0.add 3) [.slice b (l_4 + 1) c] 0 fun w'_14 =>
 ∃ a l c,
 w'_14.drew.cell? ((Addr.mk w.heap.size 0 none).add 2) = some (.slice a l c) ∧
 ∃ a_5 l_5 c_5,
 w'_14.drew.cell? (p0.add 4) = some (.slice a_5 l_5 c_5) ∧
 atW (w'_14.drew.alloc (Obj.cells (Array.mk [.slice a l c]) 70)) fun w'_15 =>
 (∀ (b : Nat) (o : Obj), w'_14.drew.heap[b]? = some o → w'_15.heap[b]? = some o) ∧
 ∃ old new,
 rdx w'_15 a_5 (l_5 * 1) old ∧
 rdx w'_15 (some (Addr.mk w'_14.drew.heap.size 0 none)) 1 new ∧
 (∀ (v : Value), List.Mem v new → isLeaf v = true) ∧
 (l_5 + 1) * 24 ≤ 1099511627776 ∧
 canApp w'_15 a_5 l_5 c_5 1 1 ∧
 ∀ (b : Option Addr) (c : Nat) (w'_16 : World),
 AppTo w'_15 a_5 l_5 c_5 1 1 old new [.slice none 0 0] 70 b c w'_16 →
 stx w'_16 (p0.add 4) [.slice b (l_5 + 1) c] 0 fun w'_17 =>
 ∃ a l c,
 w'_17.drew.cell? ((Addr.mk w'.heap.size 0 none).add 2) =
 some (.slice a l c) ∧
 ∃ a_6 l_6 c_6,
 w'_17.drew.cell? (p0.add 5) = some (.slice a_6 l_6 c_6) ∧
 atW
 (w'_17.drew.alloc (Obj.cells (Array.mk [.slice a l c]) 70))
 fun w' =>
 (∀ (b : Nat) (o : Obj),
 w'_17.drew.heap[b]? = some o → w'.heap[b]? = some o) ∧
 ∃ old new,
 rdx w' a_6 (l_6 * 1) old ∧
 rdx w' (some (Addr.mk w'_17.drew.heap.size 0 none)) 1
 new ∧
 (∀ (v : Value), List.Mem v new → isLeaf v = true) ∧
 (l_6 + 1) * 24 ≤ 1099511627776 ∧
 canApp w' a_6 l_6 c_6 1 1 ∧
 ∀ (b : Option Addr) (c : Nat) (w'_18 : World),
 AppTo w' a_6 l_6 c_6 1 1 old new
 [.slice none 0 0] 70 b c w'_18 →
 stx w'_18 (p0.add 5)
 [.slice b (l_6 + 1) c] 0 fun w' =>
 R (.bool true) w')
 (∃ a l c,
 y_1.cell? ((Addr.mk w.heap.size 0 none).add 0) = some (.slice a l c) ∧
 Calls prog 96 (Array.mk [.pointer (some p0), .slice a l c]) y_1 fun y y_2 =>
 y = .returned (.tuple (Array.mk [])) ∧
 ∃ a l c,
 y_2.cell? ((Addr.mk w.heap.size 0 none).add 1) = some (.slice a l c) ∧
 Calls prog 97 (Array.mk [.pointer (some p0), .slice a l c]) y_2 fun y y_3 =>
 y = .returned (.tuple (Array.mk [])) ∧
 ∃ a l c,
 y_3.cell? ((Addr.mk w.heap.size 0 none).add 2) = some (.slice a l c) ∧
 Calls prog 87 (Array.mk [.pointer (some p0), .slice a l c]) y_3 fun y y_4 => y = .returned (.tuple (Array.mk [])) ∧ R (.bool true) y_4))

theorem S47_eq (p0 : Addr) (s1_0 : Option Addr) (l1_0 c1_0 : Nat) (s1_1 : Option Addr) (l1_1 c1_1 : Nat) (s1_2 : Option Addr) (l1_2 c1_2 : Nat) (n1_3 : Int) (n1_4 : Int) (n1_5 : Int) (n1_6 : Int) (n1_7 : Int) (n1_8 : Int) (n1_9 : Int) (n1_10 : Int) (n1_11 : Int) (s2_0 : Option Addr) (l2_0 c2_0 : Nat) (s2_1 : Option Addr) (l2_1 c2_1 : Nat) (s2_2 : Option Addr) (l2_2 c2_2 : Nat) (n2_3 : Int) (n2_4 : Int) (n2_5 : Int) (n2_6 : Int) (n2_7 : Int) (n2_8 : Int) (n2_9 : Int) (n2_10 : Int) (n2_11 : Int) (b3 : Bool) (w : World) (R : Value → World → Prop) : funX Go.Proofs.Tryz.prog 47 ⟨[(924, (.op 0 (.op 1 (.op 2 (.op 3 (.op 5 (.op 6 (.op 4 (.op 7 (.op 8 (.op 9 (.op 10 (.op 11 (.done)))))))))))), [7])), (1850, (.op 0 (.op 1 (.op 2 (.op 3 (.op 5 (.op 6 (.op 4 (.op 7 (.op 8 (.op 9 (.op 10 (.op 11 (.done)))))))))))), [7])), (3702, (.op 0 (.op 1 (.op 2 (.op 3 (.op 5 (.op 6 (.op 4 (.op 7 (.op 8 (.op 9 (.op 10 (.op 11 (.done)))))))))))), [7])), (7406, (.op 0 (.op 1 (.op 2 (.op 3 (.op 5 (.op 6 (.op 4 (.op 7 (.op 8 (.op 9 (.op 10 (.op 11 (.done)))))))))))), [7])), (14814, (.op 0 (.op 1 (.op 2 (.op 3 (.op 5 (.op 6 (.op 4 (.op 7 (.op 8 (.op 9 (.op 10 (.op 11 (.done)))))))))))), [7])), (14815, (.op 0 (.op 1 (.op 2 (.op 3 (.op 5 (.op 6 (.op 4 (.op 7 (.op 8 (.op 9 (.op 10 (.op 11 (.done)))))))))))), [7]))], [], [(3, [(8, .bool)])]⟩ [(.pointer (some p0)), (.agg #[(.slice s1_0 l1_0 c1_0), (.slice s1_1 l1_1 c1_1), (.slice s1_2 l1_2 c1_2), (.int .i64 n1_3), (.int .i64 n1_4), (.int .i64 n1_5), (.int .i64 n1_6), (.int .i64 n1_7), (.int .i64 n1_8), (.int .i64 n1_9), (.int .i64 n1_10), (.int .i64 n1_11)]), (.agg #[(.slice s2_0 l2_0 c2_0), (.slice s2_1 l2_1 c2_1), (.slice s2_2 l2_2 c2_2), (.int .i64 n2_3), (.int .i64 n2_4), (.int .i64 n2_5), (.int .i64 n2_6), (.int .i64 n2_7), (.int .i64 n2_8), (.int .i64 n2_9), (.int .i64 n2_10), (.int .i64 n2_11)]), (.bool b3)] w R = S47 p0 s1_0 l1_0 c1_0 s1_1 l1_1 c1_1 s1_2 l1_2 c1_2 n1_3 n1_4 n1_5 n1_6 n1_7 n1_8 n1_9 n1_10 n1_11 s2_0 l2_0 c2_0 s2_1 l2_1 c2_1 s2_2 l2_2 c2_2 n2_3 n2_4 n2_5 n2_6 n2_7 n2_8 n2_9 n2_10 n2_11 b3 w R := by kernel_rfl

/-- (*hearth/hearthref8.Space).Room -/
def S46 (p0 : Addr) (w : World) (R : Value → World → Prop) : Prop :=
 LoopX (Int × Int × Unit)
 (fun s w K =>
 ∃ a l c,
 w.cell? (p0.add 2) = some (.slice a l c) ∧
 ifB (decide (s.snd.fst < (↑l : Int)))
 (∃ a l c,
 w.cell? (p0.add 2) = some (.slice a l c) ∧
 nilx a fun a =>
 (0 ≤ s.snd.fst ∧ s.snd.fst < (↑l : Int)) ∧
 ∃ n,
 w.cell? ((a.add (Int.toNat s.snd.fst * 5)).add 1) = some (.int .i64 n) ∧
 ifB (n != 0)
 (∃ a l c,
 w.cell? (p0.add 2) = some (.slice a l c) ∧
 nilx a fun a =>
 (0 ≤ s.snd.fst ∧ s.snd.fst < (↑l : Int)) ∧
 ∃ n,
 w.cell? ((a.add (Int.toNat s.snd.fst * 5)).add 2) = some (.int .i64 n) ∧
 Calls prog 93 (Array.mk [.int .i64 n]) w fun y y_1 =>
 ∃ n, y = .returned (.int .i64 n) ∧ K (IntKind.i64.wrap (s.fst + n), IntKind.i64.wrap (s.snd.fst + 1), ()) y_1)
 (K (s.fst, IntKind.i64.wrap (s.snd.fst + 1), ()) w))
 (R (.int .i64 s.fst) w))
 (0, 0, ()) w

theorem S46_eq (p0 : Addr) (w : World) (R : Value → World → Prop) : funX Go.Proofs.Tryz.prog 46 ⟨[], [(58, [(3, .int .i64), (4, .int .i64)])], []⟩ [(.pointer (some p0))] w R = S46 p0 w R := by kernel_rfl

/-- (*hearth/space.Space).Use -/
def S45 (p0 : Addr) (w : World) (R : Value → World → Prop) : Prop :=
 ∃ n,
 w.drew.cell? (p0.add 14) = some (.int .i64 n) ∧
 ∃ a l c, w.drew.cell? (p0.add 0) = some (.slice a l c) ∧ optx (FloatKind.f64.format.div (FloatKind.f64.nearest n) (FloatKind.f64.nearest (↑l : Int))) fun r => R (Value.float FloatKind.f64 r) w.drew

theorem S45_eq (p0 : Addr) (w : World) (R : Value → World → Prop) : funX Go.Proofs.Tryz.prog 45 ⟨[(6, (.op 0 (.op 1 (.op 2 (.op 3 (.op 4 (.op 5 (.op 6 (.op 7 (.op 8 (.op 9 (.op 10 (.op 11 (.op 12 (.done))))))))))))), []))], [], []⟩ [(.pointer (some p0))] w R = S45 p0 w R := by kernel_rfl

/-- (*hearth/hearthref8.Space).Wrong -/
def S44 (p0 : Addr) (w : World) (R : Value → World → Prop) : Prop :=
 ∃ a l c,
 w.cell? (p0.add 2) = some (.slice a l c) ∧
 LoopX (Int × Int × Unit)
 (fun s w K =>
 ifB (decide (s.snd.fst ≥ 0))
 (∃ a l c,
 w.cell? (p0.add 2) = some (.slice a l c) ∧
 nilx a fun a =>
 (0 ≤ s.snd.fst ∧ s.snd.fst < (↑l : Int)) ∧
 ∃ n,
 w.cell? ((a.add (Int.toNat s.snd.fst * 5)).add 1) = some (.int .i64 n) ∧
 ifB (n != 0)
 (Calls prog 75 (Array.mk [.pointer (some p0), .int .i64 s.snd.fst]) w fun y y_1 =>
 ∃ n n_1,
 y = .returned (.agg (Array.mk [.int .i64 n, .int .i64 n_1])) ∧
 ifB (n != 0) (K (s.snd.fst, IntKind.i64.wrap (s.snd.fst - 1), ()) y_1) (K (s.fst, IntKind.i64.wrap (s.snd.fst - 1), ()) y_1))
 (K (s.fst, IntKind.i64.wrap (s.snd.fst - 1), ()) w))
 (LoopX (Int × Int × Unit)
 (fun s w K =>
 ifB (decide (s.snd.fst < 8))
 (Calls prog 64 (Array.mk [.pointer (some p0), .int .i64 s.snd.fst, .int .i64 0]) w fun y y_1 =>
 ∃ n,
 y = .returned (.int .i64 n) ∧
 LoopX (Int × Int × Unit)
 (fun s_1 w K_1 =>
 ifB (decide (s_1.snd.fst ≥ 0))
 (Calls prog 64 (Array.mk [.pointer (some p0), .int .i64 s.snd.fst, .int .i64 (IntKind.i64.wrap (s_1.snd.fst + 1))]) w fun y y_2 =>
 ∃ n,
 y = .returned (.int .i64 n) ∧
 ∃ a l c,
 y_2.drew.cell? (p0.add 0) = some (.slice a l c) ∧
 nilx a fun a =>
 (0 ≤ s_1.snd.fst ∧ s_1.snd.fst < (↑l : Int)) ∧
 ∃ n_1,
 y_2.drew.cell? (a.add (Int.toNat s_1.snd.fst * 1)) = some (.int .i64 n_1) ∧
 Calls prog 63 (Array.mk [.int .i64 n]) y_2.drew fun y y_3 =>
 ∃ n_2,
 y = .returned (.int .i64 n_2) ∧
 (∀ (b : Nat) (o : Obj), y_2.drew.heap[b]? = some o → y_3.heap[b]? = some o) ∧
 ifB (n_1 != n_2) (ifB (decide (s_1.fst < 0)) (K_1 (s_1.snd.fst, n, ()) y_3) (ifB (decide (s_1.snd.fst < s_1.fst)) (K_1 (s_1.snd.fst, n, ()) y_3) (K_1 (s_1.fst, n, ()) y_3)))
 (K_1 (s_1.fst, n, ()) y_3))
 (K (s_1.fst, IntKind.i64.wrap (s.snd.fst + 1), ()) w))
 (s.fst, n, ()) y_1)
 (R (.int .i64 s.fst) w))
 (s.fst, 0, ()) w))
 (-1, IntKind.i64.wrap ((↑l : Int) - 1), ()) w

theorem S44_eq (p0 : Addr) (w : World) (R : Value → World → Prop) : funX Go.Proofs.Tryz.prog 44 ⟨[(500884, (.op 0 (.op 1 (.op 2 (.op 4 (.op 7 (.op 3 (.op 5 (.op 6 (.op 8 (.op 9 (.op 10 (.op 11 (.op 12 (.op 13 (.op 14 (.op 15 (.op 16 (.op 17 (.op 18 (.done))))))))))))))))))), [8]))], [(58, [(3, .int .i64), (4, .int .i64)]), (122, [(3, .int .i64), (5, .int .i64)]), (7826, [(3, .int .i64), (6, .int .i64)])], []⟩ [(.pointer (some p0))] w R = S44 p0 w R := by kernel_rfl

/-- (*hearth/space.Space).Wrong -/
def S43 (p0 : Addr) (w : World) (R : Value → World → Prop) : Prop :=
 atW (w.alloc (Obj.cells (Array.mk [Value.pointer (some p0)]) 34)) fun w' =>
 ∃ p,
 w'.cell? (Addr.mk w.heap.size 0 none) = some (Value.pointer p) ∧
 nilx p fun a =>
 ∃ a_1 l c,
 w'.cell? (a.add 0) = some (Value.slice a_1 l c) ∧
 atW (w'.alloc (Obj.cells (Array.mk [Value.int IntKind.i64 0]) 3)) fun w'_1 =>
 stx w'_1 (Addr.mk w'.heap.size 0 none) [Value.int IntKind.i64 (↑l : Int)] 0 fun w'_2 =>
 JoinX (Unit × List Nat)
 (fun K =>
 ∃ p,
 w'_2.cell? (Addr.mk w.heap.size 0 none) = some (Value.pointer p) ∧
 nilx p fun a =>
 ∃ p,
 w'_2.cell? (a.add 2) = some (Value.pointer p) ∧
 Calls Proofs.Tryz.prog 91 (Array.mk [Value.pointer p]) w'_2 fun y y_1 =>
 ∃ v,
 y = Ending.returned v ∧
 RangeX (Int × Unit) Proofs.Tryz.prog v (sargs [(18, SK.int IntKind.i64)])
 (fun l rc s w_1 K =>
 w_1.heap[l]? = some (Obj.loop rc) ∧
 atW (w_1.putObj l (recOf rc LoopState.busy none)) fun w'_3 =>
 ∃ p,
 w'_3.cell? (Addr.mk w.heap.size 0 none) = some (Value.pointer p) ∧
 Calls Proofs.Tryz.prog 74 (Array.mk [Value.pointer p, Value.int IntKind.i64 s.fst]) w'_3 fun y y_2 =>
 ∃ n n_1,
 y = Ending.returned (Value.agg (Array.mk [Value.int IntKind.i64 n, Value.int IntKind.i64 n_1])) ∧
 ifB (n != 0) (stx y_2 (Addr.mk w'.heap.size 0 none) [Value.int IntKind.i64 s.fst] 0 fun w' => K (Exit.exit 0) w') (K Exit.normal y_2))
 y_1 [(Code.exit 0, fun w' => K ((), [y_1.heap.size]) w')] fun w' => K ((), [y_1.heap.size]) w')
 fun s w'_3 =>
 ∃ p,
 w'_3.cell? (Addr.mk w.heap.size 0 none) = some (Value.pointer p) ∧
 nilx p fun a =>
 ∃ p,
 w'_3.cell? ((a.add 3).add 0) = some (Value.pointer p) ∧
 ∃ p_1,
 w'_3.cell? ((a.add 3).add 1) = some (Value.pointer p_1) ∧
 ∃ p_2,
 w'_3.cell? ((a.add 3).add 2) = some (Value.pointer p_2) ∧
 ∃ p_3,
 w'_3.cell? ((a.add 3).add 3) = some (Value.pointer p_3) ∧
 ∃ p_4,
 w'_3.cell? ((a.add 3).add 4) = some (Value.pointer p_4) ∧
 ∃ p_5,
 w'_3.cell? ((a.add 3).add 5) = some (Value.pointer p_5) ∧
 ∃ p_6,
 w'_3.cell? ((a.add 3).add 6) = some (Value.pointer p_6) ∧
 ∃ p_7,
 w'_3.cell? ((a.add 3).add 7) = some (Value.pointer p_7) ∧
 LoopX ((Int × Unit) × List Nat)
 (fun s w_1 K =>
 ifB (decide (s.fst.fst < 8))
 (∃ p_8,
 (0 ≤ s.fst.fst ∧ s.fst.fst < 8) ∧
 [Value.pointer p, Value.pointer p_1, Value.pointer p_2, Value.pointer p_3, Value.pointer p_4, Value.pointer p_5, Value.pointer p_6, Value.pointer p_7][Int.toNat s.fst.fst]? =
 some (Value.pointer p_8) ∧
 atW (w_1.alloc (Obj.cells (Array.mk [Value.int IntKind.i64 0]) 3)) fun w'_4 =>
 stx w'_4 (Addr.mk w_1.heap.size 0 none) [Value.int IntKind.i64 s.fst.fst] 0 fun w'_5 =>
 Calls Proofs.Tryz.prog 91 (Array.mk [Value.pointer p_8]) w'_5 fun y y_1 =>
 ∃ v,
 y = Ending.returned v ∧
 RangeX (Int × Unit) Proofs.Tryz.prog v (sargs [(35, SK.int IntKind.i64)])
 (fun l rc s w_2 K =>
 w_2.heap[l]? = some (Obj.loop rc) ∧
 atW (w_2.putObj l (recOf rc LoopState.busy none)) fun w'_6 =>
 ∃ n,
 w'_6.cell? (Addr.mk w'.heap.size 0 none) = some (Value.int IntKind.i64 n) ∧
 ifB (decide (s.fst ≥ n)) (K (Exit.exit 4) w'_6)
 (∃ p,
 w'_6.drew.cell? (Addr.mk w.heap.size 0 none) = some (Value.pointer p) ∧
 ∃ n,
 w'_6.drew.cell? (Addr.mk w_1.heap.size 0 none) = some (Value.int IntKind.i64 n) ∧
 ∃ p_9,
 w'_6.drew.cell? (Addr.mk w.heap.size 0 none) = some (Value.pointer p_9) ∧
 nilx p_9 fun a =>
 ∃ a_2 l c,
 w'_6.drew.cell? (a.add 0) = some (Value.slice a_2 l c) ∧
 nilx a_2 fun a =>
 (0 ≤ s.fst ∧ s.fst < (↑l : Int)) ∧
 ∃ n_1,
 w'_6.drew.cell? (a.add (Int.toNat s.fst * 1)) = some (Value.int IntKind.i64 n_1) ∧
 Calls Proofs.Tryz.prog 92 (Array.mk [Value.pointer p, Value.int IntKind.i64 n, Value.int IntKind.i64 s.fst]) w'_6.drew
 fun y y_2 =>
 ∃ n,
 y = Ending.returned (Value.int IntKind.i64 n) ∧
 (∀ (b : Nat) (o : Obj), w'_6.drew.heap[b]? = some o → y_2.heap[b]? = some o) ∧
 ifB (n_1 != n) (stx y_2 (Addr.mk w'.heap.size 0 none) [Value.int IntKind.i64 s.fst] 0 fun w' => K Exit.normal w')
 (K Exit.normal y_2)))
 y_1 [(Code.exit 4, fun w' => K ((IntKind.i64.wrap (s.fst.fst + 1), ()), y_1.heap.size :: s.snd) w')] fun w' =>
 K ((IntKind.i64.wrap (s.fst.fst + 1), ()), y_1.heap.size :: s.snd) w')
 (∃ n,
 w_1.drew.cell? (Addr.mk w'.heap.size 0 none) = some (Value.int IntKind.i64 n) ∧
 ∃ p,
 w_1.drew.cell? (Addr.mk w.heap.size 0 none) = some (Value.pointer p) ∧
 nilx p fun a =>
 ∃ a_2 l c,
 w_1.drew.cell? (a.add 0) = some (Value.slice a_2 l c) ∧
 ifB (n == (↑l : Int)) (takeMs s.snd w_1.drew fun w' => R (Value.int IntKind.i64 (-1)) w')
 (∃ n, w_1.drew.cell? (Addr.mk w'.heap.size 0 none) = some (Value.int IntKind.i64 n) ∧ takeMs s.snd w_1.drew fun w' => R (Value.int IntKind.i64 n) w')))
 ((0, ()), s.snd) w'_3

theorem S43_eq (p0 : Addr) (w : World) (R : Value → World → Prop) : funX Go.Proofs.Tryz.prog 43 ⟨[(501354, (.op 4 (.op 7 (.op 8 (.op 9 (.op 0 (.op 1 (.op 2 (.op 3 (.op 5 (.op 6 (.op 10 (.op 11 (.done)))))))))))), [10])), (124, (.op 0 (.op 1 (.op 2 (.op 3 (.op 4 (.op 5 (.op 6 (.done))))))), []))], [(58, [(18, .int .i64)]), (122, [(29, .int .i64)]), (31334, [(35, .int .i64)])], [(7, [])]⟩ [(.pointer (some p0))] w R = S43 p0 w R := by kernel_rfl

end Go.Wx
end
section
/- WRITTEN BY A PROGRAM (wip/gen): what each function's code asks for, by the framework's precondition, in short form; each is checked by the kernel to be that precondition. -/
set_option maxRecDepth 100000
set_option linter.unusedVariables false
namespace Go.Wx
open Go Proofs.Tryz

/-- (*hearth/hearthlaw8.pair).gone -/
def S42 (p0 : Addr) (n1_0 : Int) (n1_1 : Int) (n1_2 : Int) (n1_3 : Int) (n1_4 : Int) (s1_5 : Option Addr) (l1_5 c1_5 : Nat) (w : World) (R : Value → World → Prop) : Prop :=
 atW (w.alloc (Obj.cells (Array.mk [Value.pointer (some p0)]) 27)) fun w' =>
  atW (w'.alloc (Obj.cells (Array.mk [Value.int IntKind.i64 n1_0, Value.int IntKind.i64 n1_1, Value.int IntKind.i64 n1_2, Value.int IntKind.i64 n1_3, Value.int IntKind.i64 n1_4, Value.slice s1_5 l1_5 c1_5]) 32)) fun w'_1 =>
   ∃ p,
    w'_1.cell? (Addr.mk w.heap.size 0 none) = some (Value.pointer p) ∧
     Calls Proofs.Tryz.prog 89 (Array.mk [Value.pointer p, Value.int IntKind.i64 (-1)]) w'_1 fun y y_1 =>
      ∃ n n_1 n_2 n_3 n_4 b,
       y = Ending.returned (Value.tuple (Array.mk [Value.agg (Array.mk [Value.int IntKind.i64 n, Value.int IntKind.i64 n_1, Value.int IntKind.i64 n_2, Value.int IntKind.i64 n_3, Value.int IntKind.i64 n_4]), Value.bool b])) ∧
        atW (y_1.alloc (Obj.cells (Array.mk [Value.int IntKind.i64 0, Value.int IntKind.i64 0, Value.int IntKind.i64 0, Value.int IntKind.i64 0, Value.int IntKind.i64 0]) 106)) fun w'_2 =>
         atW (w'_2.alloc (Obj.cells (Array.mk [Value.bool false]) 4)) fun w'_3 =>
          stx w'_3 (Addr.mk y_1.heap.size 0 none) [Value.int IntKind.i64 n, Value.int IntKind.i64 n_1, Value.int IntKind.i64 n_2, Value.int IntKind.i64 n_3, Value.int IntKind.i64 n_4] 0 fun w'_4 =>
           stx w'_4 (Addr.mk w'_2.heap.size 0 none) [Value.bool b] 0 fun w'_5 =>
            atW (w'_5.alloc (Obj.cells (Array.mk [Value.int IntKind.i64 0]) 3)) fun w'_6 =>
             stx w'_6 (Addr.mk w'_5.heap.size 0 none) [Value.int IntKind.i64 0] 0 fun w'_7 =>
              atW (w'_7.alloc (Obj.cells (Array.mk [Value.bool false]) 4)) fun w'_8 =>
               stx w'_8 (Addr.mk w'_7.heap.size 0 none) [Value.bool true] 0 fun w'_9 =>
                ∃ p,
                 w'_9.cell? (Addr.mk w.heap.size 0 none) = some (Value.pointer p) ∧
                  nilx p fun a =>
                   ∃ p,
                    w'_9.cell? (a.add 0) = some (Value.pointer p) ∧
                     Calls Proofs.Tryz.prog 88 (Array.mk [Value.pointer p]) w'_9 fun y y_2 =>
                      ∃ v,
                       y = Ending.returned v ∧
                        match v, Value.nilFunc with
                        | Value.int k a, Value.int l b =>
                         ifB (false || decide (k = l))
                          (ifB (a == b) (R (Value.bool false) y_2)
                           (match v with
                           | Value.func (Fn.func g) first caps =>
                            ifB (okCallee Proofs.Tryz.prog g)
                             (Calls Proofs.Tryz.prog g
                              (Array.mk
                               (first.toList ++
                                [Value.func (Fn.func 90) (Array.mk [])
                                 (Array.mk
                                  [Value.pointer (some (Addr.mk w'_7.heap.size 0 none)), Value.pointer (some (Addr.mk w'_2.heap.size 0 none)), Value.pointer (some (Addr.mk y_1.heap.size 0 none)),
                                   Value.pointer (some (Addr.mk w'.heap.size 0 none)), Value.pointer (some (Addr.mk w'_5.heap.size 0 none)), Value.pointer (some (Addr.mk w.heap.size 0 none))])] ++
                                caps.toList))
                              y_2 fun y y_3 =>
                              match resKs Proofs.Tryz.prog g with
                              | [k] =>
                               match k, fun v =>
                                y = Ending.returned v ∧
                                 ∃ b,
                                  y_3.cell? (Addr.mk w'_7.heap.size 0 none) = some (Value.bool b) ∧
                                   ifB b
                                    (∃ b,
                                     y_3.cell? (Addr.mk w'_2.heap.size 0 none) = some (Value.bool b) ∧
                                      ifB (!b) (R (Value.bool true) y_3)
                                       (∃ n,
                                        y_3.cell? ((Addr.mk w'.heap.size 0 none).add 2) = some (Value.int IntKind.i64 n) ∧
                                         ifB (decide (n ≥ 1))
                                          (∃ n,
                                           y_3.cell? (Addr.mk w'_5.heap.size 0 none) = some (Value.int IntKind.i64 n) ∧
                                            ∃ n_5, y_3.cell? ((Addr.mk w'.heap.size 0 none).add 2) = some (Value.int IntKind.i64 n_5) ∧ R (Value.bool (n == n_5)) y_3)
                                          (R (Value.bool false) y_3)))
                                    (R (Value.bool false) y_3) with
                               | VK.leaf l, K =>
                                match l, fun y => K y with
                                | LK.int k, K => ∃ n, K (Value.int k n)
                                | LK.bool, K => ∃ b, K (Value.bool b)
                                | LK.ptr, K => ∃ p, K (Value.pointer p)
                                | LK.slice, K => ∃ a l c, K (Value.slice a l c)
                                | LK.map, K => ∃ r, K (Value.map r)
                                | LK.float k, K => ∃ n, K (Value.float k n)
                                | LK.str, K => ∃ s, K (Value.string s)
                                | LK.any, K => ∃ v, K v
                               | VK.agg ls, K => exLs ls fun vs => K (Value.agg (Array.mk vs))
                              | ks =>
                               exVs ks fun vs =>
                                y = Ending.returned (Value.tuple (Array.mk vs)) ∧
                                 ∃ b,
                                  y_3.cell? (Addr.mk w'_7.heap.size 0 none) = some (Value.bool b) ∧
                                   ifB b
                                    (∃ b,
                                     y_3.cell? (Addr.mk w'_2.heap.size 0 none) = some (Value.bool b) ∧
                                      ifB (!b) (R (Value.bool true) y_3)
                                       (∃ n,
                                        y_3.cell? ((Addr.mk w'.heap.size 0 none).add 2) = some (Value.int IntKind.i64 n) ∧
                                         ifB (decide (n ≥ 1))
                                          (∃ n,
                                           y_3.cell? (Addr.mk w'_5.heap.size 0 none) = some (Value.int IntKind.i64 n) ∧
                                            ∃ n_5, y_3.cell? ((Addr.mk w'.heap.size 0 none).add 2) = some (Value.int IntKind.i64 n_5) ∧ R (Value.bool (n == n_5)) y_3)
                                          (R (Value.bool false) y_3)))
                                    (R (Value.bool false) y_3))
                             False
                           | f =>
                            CallV Proofs.Tryz.prog f
                             [Value.func (Fn.func 90) (Array.mk [])
                              (Array.mk
                               [Value.pointer (some (Addr.mk w'_7.heap.size 0 none)), Value.pointer (some (Addr.mk w'_2.heap.size 0 none)), Value.pointer (some (Addr.mk y_1.heap.size 0 none)),
                                Value.pointer (some (Addr.mk w'.heap.size 0 none)), Value.pointer (some (Addr.mk w'_5.heap.size 0 none)), Value.pointer (some (Addr.mk w.heap.size 0 none))])]
                             y_2 fun y y_3 =>
                             y = Ending.returned (Value.tuple (Array.mk [])) ∧
                              ∃ b,
                               y_3.cell? (Addr.mk w'_7.heap.size 0 none) = some (Value.bool b) ∧
                                ifB b
                                 (∃ b,
                                  y_3.cell? (Addr.mk w'_2.heap.size 0 none) = some (Value.bool b) ∧
                                   ifB (!b) (R (Value.bool true) y_3)
                                    (∃ n,
                                     y_3.cell? ((Addr.mk w'.heap.size 0 none).add 2) = some (Value.int IntKind.i64 n) ∧
                                      ifB (decide (n ≥ 1))
                                       (∃ n,
                                        y_3.cell? (Addr.mk w'_5.heap.size 0 none) = some (Value.int IntKind.i64 n) ∧
                                         ∃ n_5, y_3.cell? ((Addr.mk w'.heap.size 0 none).add 2) = some (Value.int IntKind.i64 n_5) ∧ R (Value.bool (n == n_5)) y_3)
                                       (R (Value.bool false) y_3)))
                                 (R (Value.bool false) y_3)))
                          False
                        | Value.float k a, Value.float l b =>
                         ifB (decide (k = l))
                          (ifB (k.format.order a b == some Ordering.eq) (R (Value.bool false) y_2)
                           (match v with
                           | Value.func (Fn.func g) first caps =>
                            ifB (okCallee Proofs.Tryz.prog g)
                             (Calls Proofs.Tryz.prog g
                              (Array.mk
                               (first.toList ++
                                [Value.func (Fn.func 90) (Array.mk [])
                                 (Array.mk
                                  [Value.pointer (some (Addr.mk w'_7.heap.size 0 none)), Value.pointer (some (Addr.mk w'_2.heap.size 0 none)), Value.pointer (some (Addr.mk y_1.heap.size 0 none)),
                                   Value.pointer (some (Addr.mk w'.heap.size 0 none)), Value.pointer (some (Addr.mk w'_5.heap.size 0 none)), Value.pointer (some (Addr.mk w.heap.size 0 none))])] ++
                                caps.toList))
                              y_2 fun y y_3 =>
                              match resKs Proofs.Tryz.prog g with
                              | [k] =>
                               match k, fun v =>
                                y = Ending.returned v ∧
                                 ∃ b,
                                  y_3.cell? (Addr.mk w'_7.heap.size 0 none) = some (Value.bool b) ∧
                                   ifB b
                                    (∃ b,
                                     y_3.cell? (Addr.mk w'_2.heap.size 0 none) = some (Value.bool b) ∧
                                      ifB (!b) (R (Value.bool true) y_3)
                                       (∃ n,
                                        y_3.cell? ((Addr.mk w'.heap.size 0 none).add 2) = some (Value.int IntKind.i64 n) ∧
                                         ifB (decide (n ≥ 1))
                                          (∃ n,
                                           y_3.cell? (Addr.mk w'_5.heap.size 0 none) = some (Value.int IntKind.i64 n) ∧
                                            ∃ n_5, y_3.cell? ((Addr.mk w'.heap.size 0 none).add 2) = some (Value.int IntKind.i64 n_5) ∧ R (Value.bool (n == n_5)) y_3)
                                          (R (Value.bool false) y_3)))
                                    (R (Value.bool false) y_3) with
                               | VK.leaf l, K =>
                                match l, fun y => K y with
                                | LK.int k, K => ∃ n, K (Value.int k n)
                                | LK.bool, K => ∃ b, K (Value.bool b)
                                | LK.ptr, K => ∃ p, K (Value.pointer p)
                                | LK.slice, K => ∃ a l c, K (Value.slice a l c)
                                | LK.map, K => ∃ r, K (Value.map r)
                                | LK.float k, K => ∃ n, K (Value.float k n)
                                | LK.str, K => ∃ s, K (Value.string s)
                                | LK.any, K => ∃ v, K v
                               | VK.agg ls, K => exLs ls fun vs => K (Value.agg (Array.mk vs))
                              | ks =>
                               exVs ks fun vs =>
                                y = Ending.returned (Value.tuple (Array.mk vs)) ∧
                                 ∃ b,
                                  y_3.cell? (Addr.mk w'_7.heap.size 0 none) = some (Value.bool b) ∧
                                   ifB b
                                    (∃ b,
                                     y_3.cell? (Addr.mk w'_2.heap.size 0 none) = some (Value.bool b) ∧
                                      ifB (!b) (R (Value.bool true) y_3)
                                       (∃ n,
                                        y_3.cell? ((Addr.mk w'.heap.size 0 none).add 2) = some (Value.int IntKind.i64 n) ∧
                                         ifB (decide (n ≥ 1))
                                          (∃ n,
                                           y_3.cell? (Addr.mk w'_5.heap.size 0 none) = some (Value.int IntKind.i64 n) ∧
                                            ∃ n_5, y_3.cell? ((Addr.mk w'.heap.size 0 none).add 2) = some (Value.int IntKind.i64 n_5) ∧ R (Value.bool (n == n_5)) y_3)
                                          (R (Value.bool false) y_3)))
                                    (R (Value.bool false) y_3))
                             False
                           | f =>
                            CallV Proofs.Tryz.prog f
                             [Value.func (Fn.func 90) (Array.mk [])
                              (Array.mk
                               [Value.pointer (some (Addr.mk w'_7.heap.size 0 none)), Value.pointer (some (Addr.mk w'_2.heap.size 0 none)), Value.pointer (some (Addr.mk y_1.heap.size 0 none)),
                                Value.pointer (some (Addr.mk w'.heap.size 0 none)), Value.pointer (some (Addr.mk w'_5.heap.size 0 none)), Value.pointer (some (Addr.mk w.heap.size 0 none))])]
                             y_2 fun y y_3 =>
                             y = Ending.returned (Value.tuple (Array.mk [])) ∧
                              ∃ b,
                               y_3.cell? (Addr.mk w'_7.heap.size 0 none) = some (Value.bool b) ∧
                                ifB b
                                 (∃ b,
                                  y_3.cell? (Addr.mk w'_2.heap.size 0 none) = some (Value.bool b) ∧
                                   ifB (!b) (R (Value.bool true) y_3)
                                    (∃ n,
                                     y_3.cell? ((Addr.mk w'.heap.size 0 none).add 2) = some (Value.int IntKind.i64 n) ∧
                                      ifB (decide (n ≥ 1))
                                       (∃ n,
                                        y_3.cell? (Addr.mk w'_5.heap.size 0 none) = some (Value.int IntKind.i64 n) ∧
                                         ∃ n_5, y_3.cell? ((Addr.mk w'.heap.size 0 none).add 2) = some (Value.int IntKind.i64 n_5) ∧ R (Value.bool (n == n_5)) y_3)
                                       (R (Value.bool false) y_3)))
                                 (R (Value.bool false) y_3)))
                          False
                        | Value.pointer p, Value.pointer none => False
                        | Value.slice p len cap, Value.slice none len_1 cap_1 => False
                        | Value.func fn first captured, Value.nilFunc =>
                         match v with
                         | Value.func (Fn.func g) first caps =>
                          ifB (okCallee Proofs.Tryz.prog g)
                           (Calls Proofs.Tryz.prog g
                            (Array.mk
                             (first.toList ++
                              [Value.func (Fn.func 90) (Array.mk [])
                               (Array.mk
                                [Value.pointer (some (Addr.mk w'_7.heap.size 0 none)), Value.pointer (some (Addr.mk w'_2.heap.size 0 none)), Value.pointer (some (Addr.mk y_1.heap.size 0 none)),
                                 Value.pointer (some (Addr.mk w'.heap.size 0 none)), Value.pointer (some (Addr.mk w'_5.heap.size 0 none)), Value.pointer (some (Addr.mk w.heap.size 0 none))])] ++
                              caps.toList))
                            y_2 fun y y_3 =>
                            match resKs Proofs.Tryz.prog g with
                            | [k] =>
                             match k, fun v =>
                              y = Ending.returned v ∧
                               ∃ b,
                                y_3.cell? (Addr.mk w'_7.heap.size 0 none) = some (Value.bool b) ∧
                                 ifB b
                                  (∃ b,
                                   y_3.cell? (Addr.mk w'_2.heap.size 0 none) = some (Value.bool b) ∧
                                    ifB (!b) (R (Value.bool true) y_3)
                                     (∃ n,
                                      y_3.cell? ((Addr.mk w'.heap.size 0 none).add 2) = some (Value.int IntKind.i64 n) ∧
                                       ifB (decide (n ≥ 1))
                                        (∃ n,
                                         y_3.cell? (Addr.mk w'_5.heap.size 0 none) = some (Value.int IntKind.i64 n) ∧
                                          ∃ n_5, y_3.cell? ((Addr.mk w'.heap.size 0 none).add 2) = some (Value.int IntKind.i64 n_5) ∧ R (Value.bool (n == n_5)) y_3)
                                        (R (Value.bool false) y_3)))
                                  (R (Value.bool false) y_3) with
                             | VK.leaf l, K =>
                              match l, fun y => K y with
                              | LK.int k, K => ∃ n, K (Value.int k n)
                              | LK.bool, K => ∃ b, K (Value.bool b)
                              | LK.ptr, K => ∃ p, K (Value.pointer p)
                              | LK.slice, K => ∃ a l c, K (Value.slice a l c)
                              | LK.map, K => ∃ r, K (Value.map r)
                              | LK.float k, K => ∃ n, K (Value.float k n)
                              | LK.str, K => ∃ s, K (Value.string s)
                              | LK.any, K => ∃ v, K v
                             | VK.agg ls, K => exLs ls fun vs => K (Value.agg (Array.mk vs))
                            | ks =>
                             exVs ks fun vs =>
                              y = Ending.returned (Value.tuple (Array.mk vs)) ∧
                               ∃ b,
                                y_3.cell? (Addr.mk w'_7.heap.size 0 none) = some (Value.bool b) ∧
                                 ifB b
                                  (∃ b,
                                   y_3.cell? (Addr.mk w'_2.heap.size 0 none) = some (Value.bool b) ∧
                                    ifB (!b) (R (Value.bool true) y_3)
                                     (∃ n,
                                      y_3.cell? ((Addr.mk w'.heap.size 0 none).add 2) = some (Value.int IntKind.i64 n) ∧
                                       ifB (decide (n ≥ 1))
                                        (∃ n,
                                         y_3.cell? (Addr.mk w'_5.heap.size 0 none) = some (Value.int IntKind.i64 n) ∧
                                          ∃ n_5, y_3.cell? ((Addr.mk w'.heap.size 0 none).add 2) = some (Value.int IntKind.i64 n_5) ∧ R (Value.bool (n == n_5)) y_3)
                                        (R (Value.bool false) y_3)))
                                  (R (Value.bool false) y_3))
                           False
                         | f =>
                          CallV Proofs.Tryz.prog f
                           [Value.func (Fn.func 90) (Array.mk [])
                            (Array.mk
                             [Value.pointer (some (Addr.mk w'_7.heap.size 0 none)), Value.pointer (some (Addr.mk w'_2.heap.size 0 none)), Value.pointer (some (Addr.mk y_1.heap.size 0 none)),
                              Value.pointer (some (Addr.mk w'.heap.size 0 none)), Value.pointer (some (Addr.mk w'_5.heap.size 0 none)), Value.pointer (some (Addr.mk w.heap.size 0 none))])]
                           y_2 fun y y_3 =>
                           y = Ending.returned (Value.tuple (Array.mk [])) ∧
                            ∃ b,
                             y_3.cell? (Addr.mk w'_7.heap.size 0 none) = some (Value.bool b) ∧
                              ifB b
                               (∃ b,
                                y_3.cell? (Addr.mk w'_2.heap.size 0 none) = some (Value.bool b) ∧
                                 ifB (!b) (R (Value.bool true) y_3)
                                  (∃ n,
                                   y_3.cell? ((Addr.mk w'.heap.size 0 none).add 2) = some (Value.int IntKind.i64 n) ∧
                                    ifB (decide (n ≥ 1))
                                     (∃ n,
                                      y_3.cell? (Addr.mk w'_5.heap.size 0 none) = some (Value.int IntKind.i64 n) ∧
                                       ∃ n_5, y_3.cell? ((Addr.mk w'.heap.size 0 none).add 2) = some (Value.int IntKind.i64 n_5) ∧ R (Value.bool (n == n_5)) y_3)
                                     (R (Value.bool false) y_3)))
                               (R (Value.bool false) y_3)
                        | Value.bool a, Value.bool b => False
                        | Value.agg xs, Value.agg ys => False
                        | x, x_1 => False

theorem S42_eq (p0 : Addr) (n1_0 : Int) (n1_1 : Int) (n1_2 : Int) (n1_3 : Int) (n1_4 : Int) (s1_5 : Option Addr) (l1_5 c1_5 : Nat) (w : World) (R : Value → World → Prop) : funX Go.Proofs.Tryz.prog 42 ⟨[], [], []⟩ [(.pointer (some p0)), (.agg #[(.int .i64 n1_0), (.int .i64 n1_1), (.int .i64 n1_2), (.int .i64 n1_3), (.int .i64 n1_4), (.slice s1_5 l1_5 c1_5)])] w R = S42 p0 n1_0 n1_1 n1_2 n1_3 n1_4 s1_5 l1_5 c1_5 w R := by kernel_rfl

/-- (*hearth/hearthref8.Space).Blocks -/
def S41 (p0 : Addr) (w : World) (R : Value → World → Prop) : Prop :=
 LoopX ((Option Addr × Nat × Nat) × Int × Unit)
 (fun s w K =>
 ∃ a l c,
 w.cell? (p0.add 2) = some (.slice a l c) ∧
 ifB (decide (s.snd.fst < (↑l : Int)))
 (∃ a l c,
 w.cell? (p0.add 2) = some (.slice a l c) ∧
 nilx a fun a =>
 (0 ≤ s.snd.fst ∧ s.snd.fst < (↑l : Int)) ∧
 ∃ n,
 w.cell? ((a.add (Int.toNat s.snd.fst * 5)).add 1) = some (.int .i64 n) ∧
 ifB (n != 0)
 (∃ a l c,
 w.cell? (p0.add 2) = some (.slice a l c) ∧
 nilx a fun a =>
 (0 ≤ s.snd.fst ∧ s.snd.fst < (↑l : Int)) ∧
 ∃ n,
 w.cell? ((a.add (Int.toNat s.snd.fst * 5)).add 0) = some (.int .i64 n) ∧
 ∃ n_1,
 w.cell? ((a.add (Int.toNat s.snd.fst * 5)).add 1) = some (.int .i64 n_1) ∧
 ∃ n_2,
 w.cell? ((a.add (Int.toNat s.snd.fst * 5)).add 2) = some (.int .i64 n_2) ∧
 ∃ n_3,
 w.cell? ((a.add (Int.toNat s.snd.fst * 5)).add 3) = some (.int .i64 n_3) ∧
 ∃ n_4,
 w.cell? ((a.add (Int.toNat s.snd.fst * 5)).add 4) = some (.int .i64 n_4) ∧
 atW (w.alloc (Obj.cells (Array.mk [.int .i64 n, .int .i64 n_1, .int .i64 n_2, .int .i64 n_3, .int .i64 n_4]) 106)) fun w' =>
 ∃ old new,
 rdx w' s.fst.fst (s.fst.snd.fst * 5) old ∧
 rdx w' (some (Addr.mk w.heap.size 0 none)) 5 new ∧
 (∀ (v : Value), List.Mem v new → isLeaf v = true) ∧
 (s.fst.snd.fst + 1) * 40 ≤ 1099511627776 ∧
 canApp w' s.fst.fst s.fst.snd.fst s.fst.snd.snd 1 5 ∧
 ∀ (b : Option Addr) (c : Nat) (w'_1 : World),
 AppTo w' s.fst.fst s.fst.snd.fst s.fst.snd.snd 1 5 old new
 [.int .i64 0, .int .i64 0, .int .i64 0, .int .i64 0, .int .i64 0] 106 b c w'_1 →
 K ((b, s.fst.snd.fst + 1, c), IntKind.i64.wrap (s.snd.fst + 1), ()) w'_1)
 (K ((s.fst.fst, s.fst.snd.fst, s.fst.snd.snd), IntKind.i64.wrap (s.snd.fst + 1), ()) w))
 (R (.slice s.fst.fst s.fst.snd.fst s.fst.snd.snd) w))
 ((none, 0, 0), 0, ()) w

theorem S41_eq (p0 : Addr) (w : World) (R : Value → World → Prop) : funX Go.Proofs.Tryz.prog 41 ⟨[], [(58, [(3, .slice), (4, .int .i64)])], []⟩ [(.pointer (some p0))] w R = S41 p0 w R := by kernel_rfl

/-- (*hearth/space.Space).Blocks -/
def S40 (p0 : Addr) (w : World) (R : Value → World → Prop) : Prop :=
 atW (w.alloc (Obj.cells (Array.mk [.slice none 0 0]) 70)) fun w' =>
 Calls prog 88 (Array.mk [.pointer (some p0)]) w' fun y y_1 =>
 ∃ v,
 y = .returned v ∧
 RangeX ((Int × Int × Int × Int × Int × Unit) × Unit) prog v (sargs [(7, SK.row 5)])
 (fun l rc s w_1 K =>
 atW (w_1.alloc (Obj.cells (Array.mk [.int .i64 0, .int .i64 0, .int .i64 0, .int .i64 0, .int .i64 0]) 106)) fun w' =>
 stx w' (Addr.mk w_1.heap.size 0 none)
 [.int .i64 s.fst.fst, .int .i64 s.fst.snd.fst, .int .i64 s.fst.snd.snd.fst, .int .i64 s.fst.snd.snd.snd.fst, .int .i64 s.fst.snd.snd.snd.snd.fst] 0 fun w' =>
 w'.heap[l]? = some (Obj.loop rc) ∧
 atW (w'.putObj l (recOf rc LoopState.busy none)) fun w' =>
 ∃ a l c,
 w'.cell? (Addr.mk w.heap.size 0 none) = some (.slice a l c) ∧
 ∃ n,
 w'.cell? ((Addr.mk w_1.heap.size 0 none).add 0) = some (.int .i64 n) ∧
 ∃ n_1,
 w'.cell? ((Addr.mk w_1.heap.size 0 none).add 1) = some (.int .i64 n_1) ∧
 ∃ n_2,
 w'.cell? ((Addr.mk w_1.heap.size 0 none).add 2) = some (.int .i64 n_2) ∧
 ∃ n_3,
 w'.cell? ((Addr.mk w_1.heap.size 0 none).add 3) = some (.int .i64 n_3) ∧
 ∃ n_4,
 w'.cell? ((Addr.mk w_1.heap.size 0 none).add 4) = some (.int .i64 n_4) ∧
 atW (w'.alloc (Obj.cells (Array.mk [.int .i64 n, .int .i64 n_1, .int .i64 n_2, .int .i64 n_3, .int .i64 n_4]) 106)) fun w'_1 =>
 ∃ old new,
 rdx w'_1 a (l * 5) old ∧
 rdx w'_1 (some (Addr.mk w'.heap.size 0 none)) 5 new ∧
 (∀ (v : Value), List.Mem v new → isLeaf v = true) ∧
 (l + 1) * 40 ≤ 1099511627776 ∧
 canApp w'_1 a l c 1 5 ∧
 ∀ (b : Option Addr) (c_1 : Nat) (w' : World),
 AppTo w'_1 a l c 1 5 old new [.int .i64 0, .int .i64 0, .int .i64 0, .int .i64 0, .int .i64 0] 106 b c_1 w' →
 stx w' (Addr.mk w.heap.size 0 none) [.slice b (l + 1) c_1] 0 fun w' => K Exit.normal w')
 y_1 [] fun w' => ∃ a l c, w'.cell? (Addr.mk w.heap.size 0 none) = some (.slice a l c) ∧ w'.heap[y_1.heap.size]? = some (Obj.deferred (some [])) ∧ R (.slice a l c) (w'.putObj y_1.heap.size (Obj.deferred none))

theorem S40_eq (p0 : Addr) (w : World) (R : Value → World → Prop) : funX Go.Proofs.Tryz.prog 40 ⟨[], [(58, [(7, .row 5)])], []⟩ [(.pointer (some p0))] w R = S40 p0 w R := by kernel_rfl

/-- (*hearth/hearthlaw8.keep).blocks -/
def S39 (p0 : Addr) (s1 : Option Addr) (l1 c1 : Nat) (s2 : Option Addr) (l2 c2 : Nat) (b3 : Bool) (w : World) (R : Value → World → Prop) : Prop :=
 Calls prog 85 (Array.mk [.slice s1 l1 c1, .slice s2 l2 c2]) w fun y y_1 =>
 ∃ b,
 y = .returned (.bool b) ∧
 ifB (!b) (R (.bool false) y_1)
 (Calls prog 86 (Array.mk [.pointer (some p0)]) y_1 fun y y_2 =>
 ∃ b,
 y = .returned (.bool b) ∧
 ifB b (R (.bool true) y_2)
 (ifB b3
 (∃ a l c,
 y_2.cell? (p0.add 4) = some (.slice a l c) ∧
 atW (y_2.alloc (Obj.cells (Array.mk [.slice s1 l1 c1]) 70)) fun w' =>
 ∃ old new,
 rdx w' a (l * 1) old ∧
 rdx w' (some (Addr.mk y_2.heap.size 0 none)) 1 new ∧
 (∀ (v : Value), List.Mem v new → isLeaf v = true) ∧
 (l + 1) * 24 ≤ 1099511627776 ∧
 canApp w' a l c 1 1 ∧
 ∀ (b : Option Addr) (c_1 : Nat) (w'_1 : World),
 AppTo w' a l c 1 1 old new [.slice none 0 0] 70 b c_1 w'_1 →
 stx w'_1 (p0.add 4) [.slice b (l + 1) c_1] 0 fun w' =>
 ∃ a l c,
 w'.cell? (p0.add 5) = some (.slice a l c) ∧
 atW (w'.alloc (Obj.cells (Array.mk [.slice s2 l2 c2]) 70)) fun w'_2 =>
 ∃ old new,
 rdx w'_2 a (l * 1) old ∧
 rdx w'_2 (some (Addr.mk w'.heap.size 0 none)) 1 new ∧
 (∀ (v : Value), List.Mem v new → isLeaf v = true) ∧
 (l + 1) * 24 ≤ 1099511627776 ∧
 canApp w'_2 a l c 1 1 ∧
 ∀ (b : Option Addr) (c_2 : Nat) (w' : World),
 AppTo w'_2 a l c 1 1 old new [.slice none 0 0] 70 b c_2 w' → stx w' (p0.add 5) [.slice b (l + 1) c_2] 0 fun w' => R (.bool true) w')
 (Calls prog 87 (Array.mk [.pointer (some p0), .slice s1 l1 c1]) y_2 fun y y_3 => y = .returned (.tuple (Array.mk [])) ∧ R (.bool true) y_3)))

theorem S39_eq (p0 : Addr) (s1 : Option Addr) (l1 c1 : Nat) (s2 : Option Addr) (l2 c2 : Nat) (b3 : Bool) (w : World) (R : Value → World → Prop) : funX Go.Proofs.Tryz.prog 39 ⟨[], [], []⟩ [(.pointer (some p0)), (.slice s1 l1 c1), (.slice s2 l2 c2), (.bool b3)] w R = S39 p0 s1 l1 c1 s2 l2 c2 b3 w R := by kernel_rfl

/-- (*hearth/hearthref8.Space).Find -/
def S38 (p0 : Addr) (n1 : Int) (w : World) (R : Value → World → Prop) : Prop :=
 LoopX (Int × Bool × Int × Unit)
 (fun s w K =>
 ∃ a l c,
 w.cell? (p0.add 2) = some (.slice a l c) ∧
 ifB (decide (s.snd.snd.fst < (↑l : Int)))
 (∃ a l c,
 w.cell? (p0.add 2) = some (.slice a l c) ∧
 nilx a fun a =>
 (0 ≤ s.snd.snd.fst ∧ s.snd.snd.fst < (↑l : Int)) ∧
 ∃ n,
 w.cell? ((a.add (Int.toNat s.snd.snd.fst * 5)).add 1) = some (.int .i64 n) ∧
 ifB (n != 0)
 (∃ a l c,
 w.cell? (p0.add 2) = some (.slice a l c) ∧
 nilx a fun a =>
 (0 ≤ s.snd.snd.fst ∧ s.snd.snd.fst < (↑l : Int)) ∧
 ∃ n,
 w.cell? ((a.add (Int.toNat s.snd.snd.fst * 5)).add 3) = some (.int .i64 n) ∧
 ifB (n == n1) (ifB (decide (n1 ≥ 1)) (R (.tuple (Array.mk [.int .i64 s.snd.snd.fst, .bool true])) w) (K (s.fst, s.snd.fst, IntKind.i64.wrap (s.snd.snd.fst + 1), ()) w))
 (K (s.fst, s.snd.fst, IntKind.i64.wrap (s.snd.snd.fst + 1), ()) w))
 (K (s.fst, s.snd.fst, IntKind.i64.wrap (s.snd.snd.fst + 1), ()) w))
 (R (.tuple (Array.mk [.int .i64 0, .bool false])) w))
 (0, false, 0, ()) w

theorem S38_eq (p0 : Addr) (n1 : Int) (w : World) (R : Value → World → Prop) : funX Go.Proofs.Tryz.prog 38 ⟨[], [(26, [(4, .int .i64), (5, .bool), (6, .int .i64)])], []⟩ [(.pointer (some p0)), (.int .i64 n1)] w R = S38 p0 n1 w R := by kernel_rfl

/-- (*hearth/space.Space).Find -/
def S37 (p0 : Addr) (n1 : Int) (w : World) (R : Value → World → Prop) : Prop :=
 ∃ r,
 w.cell? (p0.add 12) = some (.map r) ∧
 optx r fun r => ∃ es c res, Mapped w r IntKind.i64 n1 es c res ∧ ∃ n, .int .i64 n = mgot res (.int .i64 0) ∧ R (.tuple (Array.mk [.int .i64 n, .bool res.isSome])) w

theorem S37_eq (p0 : Addr) (n1 : Int) (w : World) (R : Value → World → Prop) : funX Go.Proofs.Tryz.prog 37 ⟨[], [], []⟩ [(.pointer (some p0)), (.int .i64 n1)] w R = S37 p0 n1 w R := by kernel_rfl

/-- (*hearth/hearthref8.Space).Fits -/
def S36 (p0 : Addr) (s1 : Option Addr) (l1 c1 : Nat) (w : World) (R : Value → World → Prop) : Prop :=
 Calls prog 84 (Array.mk [.pointer (some p0)]) w fun y y_1 =>
 ∃ p,
 y = .returned (.pointer p) ∧
 LoopX (Bool × Int × Unit)
 (fun s w K =>
 ifB (decide (s.snd.fst < (↑l1 : Int)))
 (nilx s1 fun a =>
 (0 ≤ s.snd.fst ∧ s.snd.fst < (↑l1 : Int)) ∧
 ∃ n,
 w.cell? (a.add (Int.toNat s.snd.fst * 1)) = some (.int .i64 n) ∧
 Calls prog 61 (Array.mk [.pointer p, .int .i64 n]) w fun y y_2 =>
 ∃ n b,
 y = .returned (.tuple (Array.mk [.int .i64 n, .bool b])) ∧
 ifB (decide (n < 0)) (R (.bool false) y_2)
 (nilx s1 fun a =>
 (0 ≤ s.snd.fst ∧ s.snd.fst < (↑l1 : Int)) ∧
 ∃ n_1,
 y_2.cell? (a.add (Int.toNat s.snd.fst * 1)) = some (.int .i64 n_1) ∧
 Calls prog 65 (Array.mk [.pointer p, .int .i64 n, .bool b, .int .i64 3, .int .i64 n_1, .int .i64 0]) y_2 fun y y_3 =>
 y = .returned (.tuple (Array.mk [])) ∧ K (s.fst, IntKind.i64.wrap (s.snd.fst + 1), ()) y_3))
 (R (.bool true) w))
 (false, 0, ()) y_1

theorem S36_eq (p0 : Addr) (s1 : Option Addr) (l1 c1 : Nat) (w : World) (R : Value → World → Prop) : funX Go.Proofs.Tryz.prog 36 ⟨[], [(58, [(4, .bool), (6, .int .i64)])], []⟩ [(.pointer (some p0)), (.slice s1 l1 c1)] w R = S36 p0 s1 l1 c1 w R := by kernel_rfl

/-- hearth/hearthlaw8.kept -/
def S35 (s0 : Option Addr) (l0 c0 : Nat) (s1 : Option Addr) (l1 c1 : Nat) (w : World) (R : Value → World → Prop) : Prop :=
 JoinX (Bool × Unit)
 (fun K =>
 LoopX (Bool × Int × Unit)
 (fun s w K_1 =>
 JoinX Unit (fun K_2 => ifB (decide (s.snd.fst < (↑l0 : Int))) (ifB s.fst (K_2 () w) (K (s.fst, ()) w)) (K (s.fst, ()) w)) fun s_1 w' =>
 ifB (decide (s.snd.fst < (↑l1 : Int)))
 (nilx s0 fun a =>
 (0 ≤ s.snd.fst ∧ s.snd.fst < (↑l0 : Int)) ∧
 ∃ n,
 w'.drew.cell? (a.add (Int.toNat s.snd.fst * 1)) = some (.int .i64 n) ∧
 nilx s1 fun a =>
 (0 ≤ s.snd.fst ∧ s.snd.fst < (↑l1 : Int)) ∧
 ∃ n_1,
 w'.drew.cell? (a.add (Int.toNat s.snd.fst * 1)) = some (.int .i64 n_1) ∧
 ifB (n == n_1) (K_1 (true, IntKind.i64.wrap (s.snd.fst + 1), ()) w'.drew)
 (ifB (decide (s.snd.fst ≥ (↑l1 : Int)))
 (nilx s0 fun a =>
 (0 ≤ s.snd.fst ∧ s.snd.fst < (↑l0 : Int)) ∧
 ∃ n, w'.drew.cell? (a.add (Int.toNat s.snd.fst * 1)) = some (.int .i64 n) ∧ K_1 (n == IntKind.i64.wrap (-71 - s.snd.fst), IntKind.i64.wrap (s.snd.fst + 1), ()) w'.drew)
 (K_1 (false, IntKind.i64.wrap (s.snd.fst + 1), ()) w'.drew)))
 (ifB (decide (s.snd.fst ≥ (↑l1 : Int)))
 (nilx s0 fun a =>
 (0 ≤ s.snd.fst ∧ s.snd.fst < (↑l0 : Int)) ∧ ∃ n, w'.drew.cell? (a.add (Int.toNat s.snd.fst * 1)) = some (.int .i64 n) ∧ K_1 (n == IntKind.i64.wrap (-71 - s.snd.fst), IntKind.i64.wrap (s.snd.fst + 1), ()) w'.drew)
 (K_1 (false, IntKind.i64.wrap (s.snd.fst + 1), ()) w'.drew)))
 ((↑l0 : Int) == IntKind.i64.wrap ((↑l1 : Int) + 20), 0, ()) w)
 fun s w' =>
 LoopX (Int × Unit)
 (fun s_1 w K =>
 ifB (decide (s_1.fst < (↑l0 : Int))) (nilx s0 fun a => (0 ≤ s_1.fst ∧ s_1.fst < (↑l0 : Int)) ∧ stx w (a.add (Int.toNat s_1.fst * 1)) [.int .i64 7] 0 fun w' => K (IntKind.i64.wrap (s_1.fst + 1), ()) w')
 (R (.bool s.fst) w))
 (0, ()) w'

theorem S35_eq (s0 : Option Addr) (l0 c0 : Nat) (s1 : Option Addr) (l1 c1 : Nat) (w : World) (R : Value → World → Prop) : funX Go.Proofs.Tryz.prog 35 ⟨[(1956, (.op 0 (.op 1 (.op 2 (.op 3 (.op 4 (.op 5 (.op 6 (.op 7 (.op 8 (.op 9 (.op 10 (.op 11 (.op 12 (.op 13 (.op 14 (.op 15 (.op 16 (.op 17 (.op 18 (.op 19 (.op 20 (.op 21 (.op 22 (.op 23 (.op 24 (.op 25 (.op 26 (.op 27 (.op 28 (.done))))))))))))))))))))))))))))), []))], [(122, [(6, .bool), (7, .int .i64)]), (250, [(8, .int .i64)])], [(15, [(6, .bool)]), (244, [])]⟩ [(.slice s0 l0 c0), (.slice s1 l1 c1)] w R = S35 s0 l0 c0 s1 l1 c1 w R := by kernel_rfl

/-- (*hearth/space.Space).Fits -/
def S34 (p0 : Addr) (s1 : Option Addr) (l1 c1 : Nat) (w : World) (R : Value → World → Prop) : Prop :=
 atW (w.alloc (Obj.cells (Array.mk [.int .i64 0, .int .i64 0, .int .i64 0, .int .i64 0, .int .i64 0, .int .i64 0, .int .i64 0, .int .i64 0]) 79))
 fun w' =>
 LoopX (Int × Unit)
 (fun s w_1 K =>
 ifB (decide (s.fst < 8)) ((0 ≤ s.fst ∧ s.fst < 8) ∧ stx w_1 ((Addr.mk w.heap.size 0 none).add (Int.toNat s.fst * 1)) [.int .i64 (-1)] 0 fun w' => K (IntKind.i64.wrap (s.fst + 1), ()) w')
 (∃ p,
 w_1.cell? (p0.add 1) = some (.pointer p) ∧
 atW (w_1.alloc (Obj.cells (Array.mk [.pointer none]) 83)) fun w' =>
 stx w' (Addr.mk w_1.heap.size 0 none) [.pointer p] 0 fun w' =>
 atW (w'.alloc (Obj.cells (Array.mk [.bool false]) 4)) fun w'_1 =>
 stx w'_1 (Addr.mk w'.heap.size 0 none) [.bool false] 0 fun w'_2 =>
 LoopX (Bool × Int × Unit)
 (fun s w_2 K =>
 ifB (decide (s.snd.fst < (↑l1 : Int)))
 (nilx s1 fun a =>
 (0 ≤ s.snd.fst ∧ s.snd.fst < (↑l1 : Int)) ∧
 ∃ n,
 w_2.cell? (a.add (Int.toNat s.snd.fst * 1)) = some (.int .i64 n) ∧
 Calls prog 78 (Array.mk [.int .i64 n]) w_2 fun y y_1 =>
 ∃ n_1,
 y = .returned (.int .i64 n_1) ∧
 ifB (decide (n_1 < 0)) (R (.bool false) y_1)
 (ifB (n_1 == 8)
 (Calls prog 76 (Array.mk [.pointer (some (Addr.mk w'.heap.size 0 none)), .pointer (some (Addr.mk w_1.heap.size 0 none))]) y_1 fun y y_2 =>
 y = .returned (.tuple (Array.mk [])) ∧
 ∃ p,
 y_2.drew.cell? (Addr.mk w_1.heap.size 0 none) = some (.pointer p) ∧
 Calls prog 80 (Array.mk [.int .i64 n]) y_2.drew fun y y_3 =>
 ∃ n,
 y = .returned (.int .i64 n) ∧
 (∀ (b : Nat) (o : Obj), y_2.drew.heap[b]? = some o → y_3.heap[b]? = some o) ∧
 Calls prog 79 (Array.mk [.pointer p, .int .i64 n]) y_3 fun y y_4 =>
 ∃ n n_2,
 y = .returned (.tuple (Array.mk [.int .i64 n, .int .i64 n_2])) ∧
 ifB (n_2 != 0) (R (.bool false) y_4) (K (s.fst, IntKind.i64.wrap (s.snd.fst + 1), ()) y_4))
 (JoinX Unit
 (fun K =>
 (0 ≤ n_1 ∧ n_1 < 8) ∧
 ∃ n,
 y_1.cell? ((Addr.mk w.heap.size 0 none).add (n_1.toNat * 1)) = some (.int .i64 n) ∧
 ifB (decide (n < 0))
 ((0 ≤ n_1 ∧ n_1 < 8) ∧
 ∃ p,
 y_1.cell? ((p0.add 3).add (n_1.toNat * 1)) = some (.pointer p) ∧
 Calls prog 81 (Array.mk [.pointer p]) y_1 fun y y_2 =>
 ∃ n,
 y = .returned (.int .i64 n) ∧
 (0 ≤ n_1 ∧ n_1 < 8) ∧ stx y_2 ((Addr.mk w.heap.size 0 none).add (n_1.toNat * 1)) [.int .i64 n] 0 fun w' => K () w')
 (K () y_1))
 fun s_1 w'_3 =>
 (0 ≤ n_1 ∧ n_1 < 8) ∧
 ∃ n,
 w'_3.cell? ((Addr.mk w.heap.size 0 none).add (n_1.toNat * 1)) = some (.int .i64 n) ∧
 ifB (n == 0)
 (Calls prog 76 (Array.mk [.pointer (some (Addr.mk w'.heap.size 0 none)), .pointer (some (Addr.mk w_1.heap.size 0 none))]) w'_3 fun y y_2 =>
 y = .returned (.tuple (Array.mk [])) ∧
 ∃ p,
 y_2.cell? (Addr.mk w_1.heap.size 0 none) = some (.pointer p) ∧
 Calls prog 82 (Array.mk [.pointer p, .int .i64 n_1]) y_2 fun y y_3 =>
 ∃ n n_2,
 y = .returned (.tuple (Array.mk [.int .i64 n, .int .i64 n_2])) ∧
 Calls prog 83 (Array.mk [.int .i64 n_1]) y_3 fun y y_4 =>
 ∃ n,
 y = .returned (.int .i64 n) ∧
 (0 ≤ n_1 ∧ n_1 < 8) ∧
 stx y_4 ((Addr.mk w.heap.size 0 none).add (n_1.toNat * 1)) [.int .i64 n] 0 fun w' =>
 (0 ≤ n_1 ∧ n_1 < 8) ∧
 ∃ n,
 w'.cell? ((Addr.mk w.heap.size 0 none).add (n_1.toNat * 1)) = some (.int .i64 n) ∧
 (0 ≤ n_1 ∧ n_1 < 8) ∧
 stx w' ((Addr.mk w.heap.size 0 none).add (n_1.toNat * 1)) [.int .i64 (IntKind.i64.wrap (n - 1))] 0 fun w' =>
 ifB (n_2 != 0) (R (.bool false) w') (K (s.fst, IntKind.i64.wrap (s.snd.fst + 1), ()) w'))
 ((0 ≤ n_1 ∧ n_1 < 8) ∧
 ∃ n,
 w'_3.cell? ((Addr.mk w.heap.size 0 none).add (n_1.toNat * 1)) = some (.int .i64 n) ∧
 (0 ≤ n_1 ∧ n_1 < 8) ∧
 stx w'_3 ((Addr.mk w.heap.size 0 none).add (n_1.toNat * 1)) [.int .i64 (IntKind.i64.wrap (n - 1))] 0 fun w' => K (s.fst, IntKind.i64.wrap (s.snd.fst + 1), ()) w'))))
 (R (.bool true) w_2))
 (false, 0, ()) w'_2))
 (0, ()) w'

theorem S34_eq (p0 : Addr) (s1 : Option Addr) (l1 c1 : Nat) (w : World) (R : Value → World → Prop) : funX Go.Proofs.Tryz.prog 34 ⟨[(33371037, (.op 1 (.op 0 (.op 2 (.op 3 (.op 4 (.op 5 (.op 6 (.op 7 (.done)))))))), [2]))], [(58, [(14, .int .i64)]), (1018, [(4, .bool), (27, .int .i64)])], [(16685519, [])]⟩ [(.pointer (some p0)), (.slice s1 l1 c1)] w R = S34 p0 s1 l1 c1 w R := by kernel_rfl

/-- hearth/hearthlaw8.lent -/
def S33 (s0 : Option Addr) (l0 c0 : Nat) (w : World) (R : Value → World → Prop) : Prop :=
 ∃ old new,
 rdx w none 0 old ∧
 rdx w s0 (l0 * 1) new ∧
 (∀ (v : Value), List.Mem v new → isLeaf v = true) ∧
 (0 + l0) * 8 ≤ 1099511627776 ∧
 canApp w none 0 0 l0 1 ∧
 ∀ (b : Option Addr) (c : Nat) (w' : World),
 AppTo w none 0 0 l0 1 old new [.int .i64 0] 3 b c w' →
 ∃ old,
 rdx w' b ((0 + l0) * 1) old ∧
 ((1 : Int) ≤ 20 ∧ ((↑(0 + l0) : Int) + 20) * 8 ≤ 1099511627776) ∧
 canApp w' b (0 + l0) c 20 1 ∧
 ∀ (b_1 : Option Addr) (c_1 : Nat) (w'_1 : World),
 AppTo w' b (0 + l0) c 20 1 old
 [.int .i64 0, .int .i64 0, .int .i64 0, .int .i64 0, .int .i64 0, .int .i64 0, .int .i64 0, .int .i64 0,
 .int .i64 0, .int .i64 0, .int .i64 0, .int .i64 0, .int .i64 0, .int .i64 0, .int .i64 0, .int .i64 0,
 .int .i64 0, .int .i64 0, .int .i64 0, .int .i64 0]
 [.int .i64 0] 3 b_1 c_1 w'_1 →
 LoopX (Int × Unit)
 (fun s w K =>
 ifB (decide (s.fst < (↑(0 + l0 + 20) : Int)))
 (nilx b_1 fun a =>
 (0 ≤ s.fst ∧ s.fst < (↑(0 + l0 + 20) : Int)) ∧ stx w (a.add (Int.toNat s.fst * 1)) [.int .i64 (IntKind.i64.wrap (-71 - s.fst))] 0 fun w' => K (IntKind.i64.wrap (s.fst + 1), ()) w')
 (R (.slice b_1 (0 + l0 + 20) c_1) w))
 ((↑l0 : Int), ()) w'_1

theorem S33_eq (s0 : Option Addr) (l0 c0 : Nat) (w : World) (R : Value → World → Prop) : funX Go.Proofs.Tryz.prog 33 ⟨[], [(122, [(5, .int .i64)])], []⟩ [(.slice s0 l0 c0)] w R = S33 s0 l0 c0 w R := by kernel_rfl

end Go.Wx
end
