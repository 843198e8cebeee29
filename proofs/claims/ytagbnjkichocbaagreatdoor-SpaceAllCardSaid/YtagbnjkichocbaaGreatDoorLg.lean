/- Own text, merged out of small ones: Pa: the framework, the preconditions and the contracts on which the claim rests (no conditions of its own). -/
import Derived.Test.YtagbnjkichocbaaGreatDoorLf
import Derived.Test.YtagbnjkichocbaaGreatDoorRows
import Derived.ProofKit
import Derived.OpenShut
import Derived.LaidMore
import Derived.Lay
import Derived.SevenTiedAt
import Derived.Stop.Joined
section
/- From the readings of the rows to the contracts' worlds, and back: the table of bits; the script; what the form asks of a call that only adds blocks. -/
set_option linter.unusedVariables false
set_option maxRecDepth 100000
namespace Go.Wx
open Go Go.Proofs Go.ChangeShapes Go.WideShapes Go.ChangeAt Go.RowKit

theorem own_ : ownKnob Tryz.prog.godebug = none := by kernel_rfl
theorem laidOut_ : laidOutB Tryz.prog = true := by kernel_rfl
theorem rd3 : Tryz.prog.readableRec 3 = true := by kernel_rfl
theorem rd22 : Tryz.prog.readableRec 22 = true := by kernel_rfl
theorem row3 : (3 : Nat) < Tryz.prog.types.size := of_decide_eq_true (by kernel_rfl)
theorem row22 : (22 : Nat) < Tryz.prog.types.size := of_decide_eq_true (by kernel_rfl)
theorem cells6 : Tryz.prog.cellsOf 32 = 6 := by kernel_rfl
theorem c1_ : Tryz.prog.cellsOf 3 = 1 := by kernel_rfl
theorem c30_ : Tryz.prog.cellsOf 30 = 1 := by kernel_rfl
theorem cu8 : Tryz.prog.cellsOf 5 = 1 := by kernel_rfl
abbrev laid1 : List (String × DataW Unit) := [("math/bits.deBruijn64tab", Proofs.YtagbnjkichocbaaGreatDoor.Rows.laid_math_bits_deBruijn64tab)]
theorem laid_eq : (Proofs.YtagbnjkichocbaaGreatDoor.Rows.laid_math_bits_deBruijn64tab : DataW Unit) = .agg (dbTab.map fun n : Nat => .lit (.int .u8 (n : Int))) := by rfl

theorem gt_of {W : World} (h : laidMetH Tryz.prog laid1 W) : GT W := by
  rw [MakeChecks.laidMetH_plain _ _ _ (by kernel_rfl)] at h
  obtain ⟨ps, ⟨g, t, cs, fuel, p, q, hg, ht, hv, hd, _, _⟩, _, _⟩ := h
  obtain rfl := Option.some.inj ((show Tryz.prog.globalNamed "math/bits.deBruijn64tab" = some 0 by kernel_rfl).symm.trans hg)
  obtain rfl := Option.some.inj ((show (Tryz.prog.globals[0]?).map (·.type) = some 161 by kernel_rfl).symm.trans ht)
  obtain ⟨xs, m, _, ex, _, hl, hel⟩ := DataW.trod_array Tryz.underlying161 hd
  rw [laid_eq] at ex
  have e3 : (xs.map (·.1)) = dbTab.map fun n : Nat => (DataW.lit (.int .u8 (n : Int)) : DataW Unit) := (DataW.agg.inj (Prod.mk.inj ex).1).symm
  have hlen : dbTab.length = 64 := rfl
  have hxl : xs.length = 64 := by have := congrArg List.length e3; simpa [hlen] using this
  unfold World.var? at hv
  rw [hg] at hv
  simp only [Option.bind_some] at hv
  split at hv
  · rename_i cs' ty fr hb
    obtain rfl := Option.some.inj hv
    refine ⟨cs'.toList, ty, fr, by rw [hb], fun i hi => ?_⟩
    have hE := hel i hi
    rw [cu8, Nat.mul_one, List.getElem?_eq_getElem (by omega)] at hE
    obtain ⟨z, e1, e2, _⟩ := DataW.trod_int Tryz.underlying5 hE
    have e4 : (xs.map (·.1))[i]? = (dbTab.map fun n : Nat => (DataW.lit (.int .u8 (n : Int)) : DataW Unit))[i]? := by rw [e3]
    rw [List.getElem?_map, List.getElem?_map, List.getElem?_eq_getElem (by omega : i < xs.length), List.getElem?_eq_getElem (by omega : i < dbTab.length), e2] at e4
    have hz : z = ((dbTab.getD i 0 : Nat) : Int) := by
      simp only [Option.map_some, Option.some.injEq, DataW.lit.injEq, Lit.int.injEq, true_and] at e4
      rw [e4, List.getD, List.getElem?_eq_getElem (by omega : i < dbTab.length)]; rfl
    rw [← hz]
    have h0 : ((cs'.toList.drop i).take 1)[0]? = some (.int .u8 z) := by rw [e1]; rfl
    simpa using h0
  · cases hv

theorem add0 (a : Addr) : a.add 0 = a := rfl
theorem wf64 {v : Int} (h : (Lit.int .i64 v).wf = true) : In64 v := by
  simp only [Lit.wf, Bool.and_eq_true, decide_eq_true_eq] at h
  have h1 : IntKind.i64.min = -9223372036854775808 := by decide
  have h2 : IntKind.i64.max = 9223372036854775807 := by decide
  constructor <;> omega
theorem cells_at {W : World} {a : Addr} {n : Nat} {cs : List Value} (h : W.cells? 0 a n = some cs) : cs.length = n ∧ ∀ i, i < n → W.cell? (a.add i) = cs[i]? := by
  obtain ⟨_, h1, h2⟩ := World.cells?_some h
  exact ⟨h1, h2⟩

section
variable {H : Type} {enc : TypeId × Value → H} {W : World}
theorem ls_of {fuel : Nat} {cs : List Value} {x : DataW H × List MemPlace} (h : DataW.trod enc Tryz.prog W 0 (fun _ => true) true fuel 30 cs = some x) :
    ∃ s l c ks, cs = [.slice s l c] ∧ Ls W s l ks ∧ ∀ j, j < l → In64 (ks j) := by
  rcases DataW.trod_slice Tryz.underlying30 h with ⟨rfl, _⟩ | ⟨a, len, cap, elems, rest, n, _, rfl, _, _, _, _, hlen, hel, _, _⟩
  · exact ⟨none, 0, 0, fun _ => 0, rfl, fun i hi => by omega, fun i hi => by omega⟩
  have key : ∀ i, ∃ v : Int, i < len → (W.cell? (a.add (i * 1)) = some (I v) ∧ In64 v) := by
    intro i
    by_cases hi : i < len
    · have h1 := hel i hi
      rw [c1_, List.getElem?_eq_getElem (by omega)] at h1
      obtain ⟨cs', g1, g2⟩ := Option.bind_eq_some_iff.1 h1
      obtain ⟨hl, hc⟩ := cells_at g1
      obtain ⟨v, rfl, _, wf⟩ := DataW.trod_int Tryz.underlying3 g2
      exact ⟨v, fun _ => ⟨hc 0 (by omega), wf64 wf⟩⟩
    · exact ⟨0, fun hh => absurd hh hi⟩
  exact ⟨some a, len, cap, fun i => Classical.choose (key i), rfl, fun i hi => ⟨a, rfl, (Classical.choose_spec (key i) hi).1⟩, fun i hi => (Classical.choose_spec (key i) hi).2⟩

theorem op_of {fuel : Nat} {cs : List Value} {x : DataW H × List MemPlace} (h : DataW.trod enc Tryz.prog W 0 (fun _ => true) true fuel 32 cs = some x) :
    ∃ (f : Nat → Int) (s : Option Addr) (l c : Nat) (ks : Nat → Int), (∀ k, k < 5 → cs[k]? = some (I (f k)) ∧ In64 (f k)) ∧ cs[5]? = some (.slice s l c) ∧ Ls W s l ks ∧ ∀ j, j < l → In64 (ks j) := by
  obtain ⟨xs, n, _, _, hl, hxs, hf⟩ := DataW.trod_struct Tryz.underlying32 h
  have hx6 : xs.length = 6 := hxs
  have num : ∀ k : Nat, k < 5 → ∃ v : Int, cs[k]? = some (I v) ∧ In64 v := by
    intro k hk
    obtain ⟨fd, hfd, h3, ho⟩ : ∃ fd : Field, (#[{ name := "Who", type := 3, offset := 0, embedded := false, tag := "", pkgPath := "", byteOffset := 0 }, { name := "Kind", type := 3, offset := 1, embedded := false, tag := "", pkgPath := "", byteOffset := 8 }, { name := "A", type := 3, offset := 2, embedded := false, tag := "", pkgPath := "", byteOffset := 16 }, { name := "B", type := 3, offset := 3, embedded := false, tag := "", pkgPath := "", byteOffset := 24 }, { name := "C", type := 3, offset := 4, embedded := false, tag := "", pkgPath := "", byteOffset := 32 }, { name := "L", type := 30, offset := 5, embedded := false, tag := "", pkgPath := "", byteOffset := 40 }] : Array Field)[k]? = some fd ∧ fd.type = 3 ∧ fd.offset = k := by
      rcases (by omega : k = 0 ∨ k = 1 ∨ k = 2 ∨ k = 3 ∨ k = 4) with rfl | rfl | rfl | rfl | rfl <;> exact ⟨_, rfl, rfl, rfl⟩
    have h1 := hf k fd hfd
    rw [h3, ho, c1_, List.getElem?_eq_getElem (by omega)] at h1
    obtain ⟨v, e, _, wf⟩ := DataW.trod_int Tryz.underlying3 h1
    refine ⟨v, ?_, wf64 wf⟩
    have h0 : ((cs.drop k).take 1)[0]? = some (I v) := by rw [e]; rfl
    simpa using h0
  have h5 := hf 5 { name := "L", type := 30, offset := 5, embedded := false, tag := "", pkgPath := "", byteOffset := 40 } rfl
  dsimp only at h5
  rw [c30_, List.getElem?_eq_getElem (by omega)] at h5
  obtain ⟨s, l, c, ks, e, h6, h7⟩ := ls_of h5
  refine ⟨fun k => if hk : k < 5 then Classical.choose (num k hk) else 0, s, l, c, ks, fun k hk => ?_, ?_, h6, h7⟩
  · simp only [hk, dif_pos]
    exact Classical.choose_spec (num k hk)
  · have h0 : ((cs.drop 5).take 1)[0]? = some (.slice s l c) := by rw [e]; rfl
    simpa using h0

theorem scr_of {v : Value} {b0 : Nat} {r : Go.Reach} {d : DataW H} {ps : List MemPlace} (hval : Value.okWide Tryz.prog W r b0 22 v) (h : DataW.Trod enc Tryz.prog W 0 (fun _ => true) true 22 v d ps) :
    ∃ s l c f ad ln cc ks, v = .slice s l c ∧ Scr W s l f ad ln cc ks := by
  obtain ⟨v1, v2, v3, rfl⟩ := okWide_slice Tryz.underlying22 hval
  obtain ⟨fuel, h⟩ := h
  rcases DataW.trod_slice Tryz.underlying22 h with ⟨e, _⟩ | ⟨a, len, cap, elems, rest, n, _, e, _, _, _, _, hlen, hel, _, _⟩
  · refine ⟨none, 0, 0, fun _ _ => 0, fun _ => none, fun _ => 0, fun _ => 0, fun _ _ => 0, ?_, ⟨fun i hi => by omega, fun i hi => by omega, fun i hi => by omega, fun i hi => by omega⟩⟩
    simpa [Value.cells] using e
  have key : ∀ i, ∃ q : (Nat → Int) × Option Addr × Nat × Nat × (Nat → Int), i < len → (∀ k, k < 5 → W.cell? ((a.add (i * 6)).add k) = some (I (q.1 k)) ∧ In64 (q.1 k)) ∧ W.cell? ((a.add (i * 6)).add 5) = some (.slice q.2.1 q.2.2.1 q.2.2.2.1) ∧ Ls W q.2.1 q.2.2.1 q.2.2.2.2 ∧ ∀ j, j < q.2.2.1 → In64 (q.2.2.2.2 j) := by
    intro i
    by_cases hi : i < len
    · have h1 := hel i hi
      rw [cells6, List.getElem?_eq_getElem (by omega)] at h1
      obtain ⟨cs', g1, g2⟩ := Option.bind_eq_some_iff.1 h1
      obtain ⟨hl, hc⟩ := cells_at g1
      obtain ⟨f, s, l, c, ks, k1, k2, k3, k4⟩ := op_of g2
      exact ⟨(f, s, l, c, ks), fun _ => ⟨fun k hk => ⟨(hc k (by omega)).trans (k1 k hk).1, (k1 k hk).2⟩, (hc 5 (by omega)).trans k2, k3, k4⟩⟩
    · exact ⟨(fun _ => 0, none, 0, 0, fun _ => 0), fun hh => absurd hh hi⟩
  have sp := fun i (hi : i < len) => Classical.choose_spec (key i) hi
  refine ⟨some a, len, cap, fun i => (Classical.choose (key i)).1, fun i => (Classical.choose (key i)).2.1, fun i => (Classical.choose (key i)).2.2.1, fun i => (Classical.choose (key i)).2.2.2.1, fun i => (Classical.choose (key i)).2.2.2.2, by simpa [Value.cells] using e, ⟨fun i hi => ⟨a, rfl, fun k hk => ((sp i hi).1 k hk).1, (sp i hi).2.1⟩, fun i hi k hk => ((sp i hi).1 k hk).2, fun i hi => (sp i hi).2.2.1, fun i hi => (sp i hi).2.2.2⟩⟩

theorem same_of {W' : World} (k : Kp W W') {p : MemPlace} (hp : p.block < W.heap.size) : W.sameAt W' p := by
  have hb : W'.heap[p.block]? = W.heap[p.block]? := by
    rw [Array.getElem?_eq_getElem hp]
    exact k.at (Array.getElem?_eq_getElem hp)
  cases p with
  | cell b o => exact World.cell?_of_block (w := W) hb
  | map b => exact hb
theorem frame_of {W' : World} (k : Kp W W') (may : MemPlace → Prop) : W.keptBut W' may := by
  refine ⟨k.st.1, k.st.2, fun i hi => ?_⟩
  rw [show W'.heap[i]? = W.heap[i]? by rw [Array.getElem?_eq_getElem hi]; exact k.at (Array.getElem?_eq_getElem hi)]
  split <;> simp_all

/-- What the form asks of a call with three arguments that only adds blocks. -/
theorem post_kp {s : ChangeSpec} {f : Func} {args : Array Value} {ds : List (DataW H)} {before : List MemPlace} {W' : World} (hv : s.vars = []) (hp : f.params = #[3, 3, 22]) (hr : f.resultTypes = #[4])
    (hs : s.fn H ds = { results := [.lit (.bool true)], args := ds }) (hW : DataW.Whole enc Tryz.prog f.params.toList s.vars false W args.toList ds [] before) (k : Kp W W') :
    s.post enc Tryz.prog f false true false false W args (.bool true) W' := by
  have hW0 := hW
  obtain ⟨p, q, hA, hV, rfl, hfz, hnd⟩ := hW
  rw [hv] at hV
  obtain ⟨_, rfl⟩ := trodVars_none hV
  rw [hp] at hA
  have hlt : ∀ x ∈ p, x.block < W.heap.size := fun x hx => by simpa using hW0.lt x (by simpa using hx)
  obtain ⟨v0, v1, v2, d0, d1, d2, p0, p1, p2, e1, rfl, rfl, h0, h1, h2⟩ := trodAll_three hA
  have st : ∀ {t v d pp}, Tryz.prog.readableRec t = true → t < Tryz.prog.types.size → (∀ x ∈ pp, x.block < W.heap.size) → DataW.Trod enc Tryz.prog W 0 (fun _ => true) true t v d pp → DataW.Trod enc Tryz.prog W' 0 (fun b => decide (b < W.heap.size)) true t v d pp := fun hr ht hl h =>
    WideElems.Trod_stays laidOut_ hr ht h (fun x hx => same_of k (hl x hx)) (fun x hx => by simpa using hl x hx)
  refine ⟨_, _, _, [], p0 ++ (p1 ++ p2), [], hW0, ?_, ?_, ?_, frame_of k _, fun hh => by cases hh⟩
  · rw [hr, List.append_nil, hs]
    exact trodAll_mk1 (shut_bool Tryz.underlying4 _)
  · rw [hp, List.append_nil, hs]
    subst e1
    exact trodAll_mk3 (st rd3 row3 (fun x hx => hlt x (by simp [hx])) h0) (st rd3 row3 (fun x hx => hlt x (by simp [hx])) h1) (st rd22 row22 (fun x hx => hlt x (by simp [hx])) h2)
  · rw [hv, List.append_nil, hs]
    exact rfl
end
end Go.Wx
end
