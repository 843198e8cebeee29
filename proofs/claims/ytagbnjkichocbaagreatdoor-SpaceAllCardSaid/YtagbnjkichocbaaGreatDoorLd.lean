/- Own text, merged out of small ones: Ma Mb Mc Md Me Mf Mg Mh Mi Mj Na Nb Nc Nd Ne Nf: the framework, the preconditions and the contracts on which the claim rests (no conditions of its own). -/
import Derived.Test.YtagbnjkichocbaaGreatDoorLc
section
/- Memory: what stands at a block; what a step leaves as it is. -/
namespace Go.Wx
open Go

/-- A block of cells, none frozen. -/
abbrev Bl (cs : List Value) (t : TypeId) : Obj := .cells (Array.mk cs) t
/-- A block's start, or a cell of it. -/
abbrev at' (b i : Nat) : Addr := ⟨b, i, none⟩
abbrev I (n : Int) : Value := .int .i64 n

@[simp] theorem add_mk (b o n : Nat) : (Addr.mk b o none).add n = ⟨b, o + n, none⟩ := by
  unfold Addr.add; split
  · subst_vars; rfl
  · rfl

/-- All that stood stands, but for these blocks. -/
structure Upd (F : Nat → Prop) (w w' : World) : Prop where
  sz : w.heap.size ≤ w'.heap.size
  kp : ∀ b o, ¬ F b → w.heap[b]? = some o → w'.heap[b]? = some o
  st : w'.os = w.os ∧ w'.output = w.output
abbrev Kp (w w' : World) : Prop := Upd (fun _ => False) w w'
/-- This block alone. -/
abbrev one (b : Nat) : Nat → Prop := fun c => c = b

theorem lt_of_look {w : World} {b : Nat} {o : Obj} (h : w.heap[b]? = some o) : b < w.heap.size := by
  rcases Nat.lt_or_ge b w.heap.size with h' | h'
  · exact h'
  · rw [Array.getElem?_eq_none h'] at h; cases h

theorem Upd.refl {F : Nat → Prop} {w : World} : Upd F w w := ⟨Nat.le_refl _, fun _ _ _ h => h, rfl, rfl⟩
theorem Upd.mono {F F' : Nat → Prop} {w w' : World} (h : Upd F w w') (hs : ∀ b, F b → F' b) : Upd F' w w' := ⟨h.sz, fun b o hb => h.kp b o fun hh => hb (hs b hh), h.st⟩
theorem Upd.trans {F : Nat → Prop} {w w1 w2 : World} (h : Upd F w w1) (h2 : Upd F w1 w2) : Upd F w w2 :=
  ⟨Nat.le_trans h.sz h2.sz, fun b o hb ho => h2.kp b o hb (h.kp b o hb ho), h2.st.1.trans h.st.1, h2.st.2.trans h.st.2⟩
/-- Blocks that are new do not count. -/
theorem Upd.tr {F F' : Nat → Prop} {w w1 w2 : World} (h : Upd F w w1) (h2 : Upd F' w1 w2) (hs : ∀ b, F' b → F b ∨ w.heap.size ≤ b) : Upd F w w2 :=
  ⟨Nat.le_trans h.sz h2.sz, fun b o hb ho => h2.kp b o (fun hb' => (hs b hb').elim hb fun hh => absurd (lt_of_look ho) (by omega)) (h.kp b o hb ho), h2.st.1.trans h.st.1, h2.st.2.trans h.st.2⟩
theorem Kp.upd {F : Nat → Prop} {w w' : World} (h : Kp w w') : Upd F w w' := Upd.mono h (fun _ h => h.elim)
theorem Kp.at {w w' : World} (h : Kp w w') {b : Nat} {o : Obj} (ho : w.heap[b]? = some o) : w'.heap[b]? = some o := h.kp b o (fun h => h) ho
theorem Upd.at {F : Nat → Prop} {w w' : World} (h : Upd F w w') {b : Nat} {o : Obj} (ho : w.heap[b]? = some o) (hb : ¬ F b) : w'.heap[b]? = some o := h.kp b o hb ho
theorem Kp.draw {w w' : World} (h : Kp w w') : ∀ (b : Nat) (o : Obj), w.heap[b]? = some o → w'.heap[b]? = some o := fun _ _ => h.at
theorem Upd.drop {F : Nat → Prop} {w w' : World} (h : Upd F w w') (hs : ∀ b, F b → w.heap.size ≤ b) : Kp w w' :=
  Upd.tr (w1 := w) Upd.refl h fun b hb => .inr (hs b hb)

/-- One block more. -/
structure New (w : World) (o : Obj) (w' : World) : Prop where
  at0 : w'.heap[w.heap.size]? = some o
  sz : w'.heap.size = w.heap.size + 1
  ext : Kp w w'
/-- One block turned. -/
structure Put (w : World) (b : Nat) (o : Obj) (w' : World) : Prop where
  at0 : w'.heap[b]? = some o
  sz : w'.heap.size = w.heap.size
  upd : Upd (one b) w w'
  lt : b < w.heap.size
theorem Put.at {w w' : World} {b : Nat} {o o1 : Obj} {c : Nat} (h : Put w b o w') (hc : w.heap[c]? = some o1) (hn : c ≠ b) : w'.heap[c]? = some o1 := h.upd.at hc hn

theorem new_alloc (w : World) (o : Obj) : New w o (w.alloc o) := by
  refine ⟨?_, by simp, ⟨by simp, fun b o' _ hb => ?_, rfl, rfl⟩⟩
  · show (w.heap.push o)[w.heap.size]? = some o
    simp
  · have := lt_of_look hb
    show (w.heap.push o)[b]? = some o'
    simp only [Array.getElem?_push]
    rw [if_neg (by omega)]; exact hb

theorem put_putB {w : World} {b : Nat} (o : Obj) (h : b < w.heap.size) : Put w b o (World.putB w b o) := by
  refine ⟨?_, ?_, ⟨?_, fun c o' hc ho => ?_, rfl, rfl⟩, h⟩
  · simp [World.putB, h]
  · simp [World.putB]
  · simp [World.putB]
  · simp only [World.putB]
    rw [Array.getElem?_setIfInBounds_ne (fun h => hc h.symm)]; exact ho

theorem put_putObj {w : World} {b : Nat} (o : Obj) (h : b < w.heap.size) : Put w b o (w.putObj b o) := put_putB o h

theorem put_of_heap {w w' w'' : World} {b : Nat} {o : Obj} (h : Put w b o w') (hh : w''.heap = w'.heap) (hs : w''.os = w'.os ∧ w''.output = w'.output) : Put w b o w'' :=
  ⟨by rw [hh]; exact h.at0, by rw [hh]; exact h.sz, ⟨by rw [hh]; exact h.upd.sz, fun c o' hc ho => by rw [hh]; exact h.upd.kp c o' hc ho, hs.1.trans h.upd.st.1, hs.2.trans h.upd.st.2⟩, h.lt⟩

theorem cell_of {w : World} {b : Nat} {cs : List Value} {t : TypeId} (h : w.heap[b]? = some (Bl cs t)) (i : Nat) : w.cell? ⟨b, i, none⟩ = cs[i]? := by
  simp [World.cell?, h]
theorem frozen_of {w : World} {b : Nat} {cs : List Value} {t : TypeId} (h : w.heap[b]? = some (Bl cs t)) (i : Nat) : w.frozen? ⟨b, i, none⟩ = false := by
  simp [World.frozen?, h]
theorem put_setCell {w : World} {b : Nat} {cs : List Value} {t : TypeId} (h : w.heap[b]? = some (Bl cs t)) (i : Nat) (v : Value) : Put w b (Bl (cs.set i v) t) (w.setCell ⟨b, i, none⟩ v) := by
  refine ⟨?_, ?_, ⟨?_, fun c o' hc ho => ?_, rfl, rfl⟩, lt_of_look h⟩
  · simp [World.setCell, Array.getElem?_modify, h]
  · simp
  · simp
  · simp only [World.setCell, Array.getElem?_modify]
    rw [if_neg (fun h => hc h.symm)]; exact ho

/-- A row written into a list from a place on. -/
def setL (cs : List Value) : Nat → List Value → List Value
  | _, [] => cs
  | i, v :: vs => setL (cs.set i v) (i + 1) vs

@[simp] theorem setL_nil (cs : List Value) (i : Nat) : setL cs i [] = cs := rfl
theorem setL_length : ∀ (vs cs : List Value) (i : Nat), (setL cs i vs).length = cs.length
  | [], _, _ => rfl
  | v :: vs, cs, i => by rw [setL, setL_length vs]; simp

theorem setL_get : ∀ (vs cs : List Value) (i j : Nat), i + vs.length ≤ cs.length → (setL cs i vs)[j]? = if i ≤ j ∧ j < i + vs.length then vs[j - i]? else cs[j]?
  | [], cs, i, j, _ => by
    rw [setL_nil, if_neg]
    rintro ⟨h1, h2⟩; simp at h2; omega
  | v :: vs, cs, i, j, h => by
    simp only [List.length_cons] at h
    rw [setL, setL_get vs _ (i + 1) j (by simp; omega)]
    by_cases h1 : i + 1 ≤ j ∧ j < i + 1 + vs.length
    · rw [if_pos h1, if_pos (by simp only [List.length_cons]; omega)]
      rw [show j - i = (j - (i + 1)) + 1 by omega, List.getElem?_cons_succ]
    · rw [if_neg h1]
      by_cases h2 : i = j
      · subst h2
        rw [if_pos (by simp only [List.length_cons]; omega), Nat.sub_self]
        rw [List.getElem?_set_self (by omega)]; rfl
      · rw [if_neg (by simp only [List.length_cons]; omega), List.getElem?_set_ne h2]

theorem setL_append (cs : List Value) : ∀ (vs us : List Value) (i : Nat), setL cs i (vs ++ us) = setL (setL cs i vs) (i + vs.length) us := by
  intro vs
  induction vs generalizing cs with
  | nil => intro us i; rfl
  | cons v vs ih => intro us i; simp only [List.cons_append, setL, ih, List.length_cons]; rw [show i + 1 + vs.length = i + (vs.length + 1) by omega]

theorem Put.same {w w1 w2 : World} {b : Nat} {o o1 : Obj} (h : Put w b o1 w1) (h2 : Put w1 b o w2) : Put w b o w2 :=
  ⟨h2.at0, h2.sz.trans h.sz, h.upd.trans h2.upd, h.lt⟩

theorem wrx_put {t : TypeId} {b : Nat} (vs : List Value) : ∀ {w : World} {cs : List Value} (i j : Nat), w.heap[b]? = some (Bl cs t) → Put w b (Bl (setL cs (i + j) vs) t) (wrx w ⟨b, i, none⟩ vs j) := by
  induction vs with
  | nil => intro w cs i j h; exact ⟨h, rfl, Upd.refl, lt_of_look h⟩
  | cons v vs ih =>
    intro w cs i j h
    have p := put_setCell h (i + j) v
    have := ih i (j + 1) p.at0
    rw [wrx, add_mk]
    exact p.same this

theorem canWr_of {w : World} {b i n : Nat} {cs : List Value} {t : TypeId} (h : w.heap[b]? = some (Bl cs t)) (hn : i + n ≤ cs.length) : canWr w ⟨b, i, none⟩ n := by
  intro j hj
  rw [add_mk, cell_of h, frozen_of h]
  exact ⟨⟨cs[i + j]'(by omega), List.getElem?_eq_getElem _⟩, rfl⟩

/-- A store of a row into a known block. -/
theorem stx_at {w : World} {b : Nat} {t : TypeId} {K : World → Prop} (vs : List Value) {cs : List Value} {i j : Nat} (h : w.heap[b]? = some (Bl cs t)) (hl : i + j + vs.length ≤ cs.length) (hf : vs.all isLeaf = true)
    (hk : ∀ w', Put w b (Bl (setL cs (i + j) vs) t) w' → K w') : stx w ⟨b, i, none⟩ vs j K := by
  induction vs generalizing w cs j with
  | nil => exact hk w ⟨h, rfl, Upd.refl, lt_of_look h⟩
  | cons v vs ih =>
    simp only [List.all_cons, Bool.and_eq_true, List.length_cons] at hf hl
    have p := put_setCell h (i + j) v
    show ifB (isLeaf v) _ False
    rw [hf.1]
    refine ⟨?_, ?_, ?_⟩
    · rw [add_mk, cell_of h]; exact ⟨_, List.getElem?_eq_getElem (by omega)⟩
    · rw [add_mk, frozen_of h]
    · rw [add_mk]
      exact ih (j := j + 1) p.at0 (by simp; omega) hf.2 fun w' hw => hk w' (p.same hw)

theorem atW_new {w : World} {o : Obj} {K : World → Prop} (hk : ∀ w', New w o w' → K w') : atW (w.alloc o) K := hk _ (new_alloc w o)
theorem atW_wrx {w : World} {b i : Nat} {cs vs : List Value} {t : TypeId} {K : World → Prop} (h : w.heap[b]? = some (Bl cs t)) (hk : ∀ w', Put w b (Bl (setL cs i vs) t) w' → K w') : atW (wrx w ⟨b, i, none⟩ vs 0) K := hk _ (by simpa using wrx_put vs i 0 h)
theorem atW_put {w : World} {b : Nat} {o : Obj} {K : World → Prop} (h : b < w.heap.size) (hk : ∀ w', Put w b o w' → K w') : atW (World.putB w b o) K := hk _ (put_putB o h)
theorem atW_putO {w : World} {b : Nat} {o : Obj} {K : World → Prop} (h : b < w.heap.size) (hk : ∀ w', Put w b o w' → K w') : atW (w.putObj b o) K := hk _ (put_putObj o h)
theorem atW_same {w : World} {K : World → Prop} (hk : K w) : atW w K := hk

theorem drew_heap (w : World) : w.drew.heap = w.heap := rfl
theorem ext_drew (w : World) : Kp w w.drew := ⟨Nat.le_refl _, fun _ _ _ h => h, rfl, rfl⟩
/-- A drawn world as one of its own. -/
theorem drew_elim {w : World} {K : World → Prop} (hk : ∀ w', Kp w w' → Kp w' w → w'.heap.size = w.heap.size → K w') : K w.drew := hk _ (ext_drew w) ⟨Nat.le_refl _, fun _ _ _ h => h, rfl, rfl⟩ rfl

/-! Contracts -/
/-- A call returns, and what holds then. -/
def Ret (P : Program) (f : FuncId) (args : List Value) (w : World) (R : Value → World → Prop) : Prop := Calls P f (Array.mk args) w fun e w' => ∃ v, e = .returned v ∧ R v w'
theorem Ret.of {P : Program} {f : FuncId} {A : An} {args : List Value} {w : World} {R : Value → World → Prop} (h : funX P f A args w R) : Ret P f args w R := funX_sound h
theorem Ret.use {P : Program} {f : FuncId} {args : List Value} {w : World} {R : Value → World → Prop} (h : Ret P f args w R) {K : Ending → World → Prop} (hk : ∀ v w', R v w' → K (.returned v) w') : Calls P f (Array.mk args) w K :=
  Calls.mono h fun _ _ ⟨_, he, hr⟩ => he ▸ hk _ _ hr
theorem Ret.mono {P : Program} {f : FuncId} {args : List Value} {w : World} {R R' : Value → World → Prop} (h : Ret P f args w R) (hk : ∀ v w', R v w' → R' v w') : Ret P f args w R' :=
  h.use fun v w' hr => ⟨v, rfl, hk v w' hr⟩
/-- It returns this, and leaves all as it was. -/
abbrev RetE (P : Program) (f : FuncId) (args : List Value) (w : World) (v : Value) : Prop := Ret P f args w fun v' w' => v' = v ∧ Kp w w'
theorem RetE.use {P : Program} {f : FuncId} {args : List Value} {w : World} {v : Value} (h : RetE P f args w v) {K : Ending → World → Prop} (hk : ∀ w', Kp w w' → K (.returned v) w') : Calls P f (Array.mk args) w K :=
  Ret.use h fun _ w' ⟨hv, he⟩ => hv ▸ hk w' he

theorem least_ex {Q : Nat → Prop} (h : ∃ n, Q n) : ∃ n, Q n ∧ ∀ m, Q m → n ≤ m := by
  obtain ⟨n, hn⟩ := h
  induction n using Nat.strongRecOn with
  | _ n ih =>
    by_cases hx : ∃ m, m < n ∧ Q m
    · obtain ⟨m, hm, hq⟩ := hx
      exact ih m hm hq
    · exact ⟨n, hn, fun m hm => by
        rcases Nat.lt_or_ge m n with h | h
        · exact absurd ⟨m, h, hm⟩ hx
        · exact h⟩
open Classical in
noncomputable def leastOf (Q : Nat → Prop) : Nat := if h : ∃ n, Q n then Classical.choose (least_ex h) else 0
theorem leastOf_le {Q : Nat → Prop} {n : Nat} (h : Q n) : leastOf Q ≤ n := by
  have hx : ∃ n, Q n := ⟨n, h⟩
  unfold leastOf
  rw [dif_pos hx]
  exact (Classical.choose_spec (least_ex hx)).2 n h
theorem leastOf_spec {Q : Nat → Prop} (h : ∃ n, Q n) : Q (leastOf Q) := by
  unfold leastOf
  rw [dif_pos h]
  exact (Classical.choose_spec (least_ex h)).1

/-- A loop: ghost states, an invariant, a measure. -/
theorem loop_rule {α β : Type} {body : α → World → (α → World → Prop) → Prop} {s : α} {w : World} (S : β → α) (Inv : β → World → Prop) (μ : β → Nat) (b0 : β) (hs : S b0 = s) (h0 : Inv b0 w)
    (step : ∀ b w K, Inv b w → (∀ b' w', Inv b' w' → μ b' < μ b → K (S b') w') → body (S b) w K) : LoopX α body s w := by
  refine ⟨fun s w => ∃ b, S b = s ∧ Inv b w, fun s w => leastOf fun n => ∃ b, S b = s ∧ Inv b w ∧ μ b = n, ⟨b0, hs, h0⟩, ?_⟩
  rintro s w ⟨b, hb, hi⟩
  obtain ⟨c, hc, hic, hm⟩ := leastOf_spec (Q := fun n => ∃ b, S b = s ∧ Inv b w ∧ μ b = n) ⟨μ b, b, hb, hi, rfl⟩
  show body s w fun s' w' => (∃ b, S b = s' ∧ Inv b w') ∧ (leastOf fun n => ∃ b, S b = s' ∧ Inv b w' ∧ μ b = n) < leastOf fun n => ∃ b, S b = s ∧ Inv b w ∧ μ b = n
  rw [← hm, ← hc]
  refine step c w _ hic fun b' w' hi' hlt => ⟨⟨b', rfl, hi'⟩, Nat.lt_of_le_of_lt (leastOf_le ⟨b', rfl, hi', rfl⟩) hlt⟩

theorem join_two {α : Type} {one : (α → World → Prop) → Prop} {two : α → World → Prop} (h : one two) : JoinX α one two := ⟨two, fun _ _ h => h, h⟩

theorem wrap_id {x : Int} (h1 : -9223372036854775808 ≤ x) (h2 : x < 9223372036854775808) : IntKind.i64.wrap x = x := by
  simp [IntKind.wrap, IntKind.signed, IntKind.bits]
  split <;> omega
theorem wrap_u {x : Int} (h1 : 0 ≤ x) (h2 : x < 18446744073709551616) : IntKind.u64.wrap x = x := by
  simp [IntKind.wrap, IntKind.signed, IntKind.bits]
  omega
end Go.Wx
end
section
/- Rows of cells by places; bits; the next and the number of those that are in. -/
namespace Go.Wx
open Go

def vals (m : Nat) (g : Nat → Value) : List Value := (List.range m).map g
def up {α : Type} (g : Nat → α) (i : Nat) (v : α) : Nat → α := fun j => if j = i then v else g j
@[simp] theorem up_same {α : Type} (g : Nat → α) (i : Nat) (v : α) : up g i v i = v := by simp [up]
theorem up_other {α : Type} (g : Nat → α) {i j : Nat} (v : α) (h : j ≠ i) : up g i v j = g j := by simp [up, h]

@[simp] theorem vals_length (m : Nat) (g : Nat → Value) : (vals m g).length = m := by simp [vals]
theorem vals_get (m : Nat) (g : Nat → Value) (i : Nat) : (vals m g)[i]? = if i < m then some (g i) else none := by
  simp only [vals, List.getElem?_map]
  by_cases h : i < m
  · rw [if_pos h, List.getElem?_range h]; rfl
  · rw [if_neg h, List.getElem?_eq_none (by simpa using h)]; rfl
theorem vals_lt {m : Nat} {g : Nat → Value} {i : Nat} (h : i < m) : (vals m g)[i]? = some (g i) := by rw [vals_get, if_pos h]
theorem vals_congr {m : Nat} {g h : Nat → Value} (hh : ∀ i, i < m → g i = h i) : vals m g = vals m h := by
  apply List.map_congr_left
  intro i hi
  exact hh i (List.mem_range.1 hi)
theorem eq_vals {m : Nat} {g : Nat → Value} {l : List Value} (hl : l.length = m) (h : ∀ i, i < m → l[i]? = some (g i)) : l = vals m g := by
  apply List.ext_getElem?
  intro i
  by_cases hi : i < m
  · rw [h i hi, vals_lt hi]
  · rw [List.getElem?_eq_none (by omega), List.getElem?_eq_none (by simp; omega)]
theorem vals_set (m : Nat) (g : Nat → Value) (i : Nat) (v : Value) : (vals m g).set i v = vals m (up g i v) := by
  apply eq_vals (by simp)
  intro j hj
  by_cases h : i = j
  · subst h; rw [List.getElem?_set_self (by simpa using hj)]; simp
  · rw [List.getElem?_set_ne h, vals_lt hj, up_other _ _ (fun hh => h hh.symm)]
theorem setL_vals {m k i : Nat} {g u : Nat → Value} (h : i + k ≤ m) : setL (vals m g) i (vals k u) = vals m (fun j => if i ≤ j ∧ j < i + k then u (j - i) else g j) := by
  apply eq_vals (by simp [setL_length])
  intro j hj
  rw [setL_get _ _ _ _ (by simpa using h)]
  simp only [vals_length]
  split
  · rw [vals_lt (by omega)]
  · rw [vals_lt hj]
theorem setL_one (cs : List Value) (i : Nat) (v : Value) : setL cs i [v] = cs.set i v := rfl
theorem zc_length (z : List Value) : ∀ n, (zcells z n).length = n * z.length
  | 0 => by simp [zcells]
  | n + 1 => by rw [zcells, List.length_append, zc_length z n, Nat.add_mul]; omega
theorem zcells_one (v : Value) (k : Nat) : zcells [v] k = vals k fun _ => v := by
  apply eq_vals (by simp [zc_length])
  induction k with
  | zero => intro i hi; omega
  | succ k ih =>
    intro i hi
    cases i with
    | zero => rfl
    | succ i => simpa [zcells] using ih i (by omega)

/-- A row of records of z cells each. -/
def recs (z m : Nat) (g : Nat → List Value) : List Value := vals (m * z) fun i => ((g (i / z))[i % z]?).getD undef
@[simp] theorem recs_length (z m : Nat) (g : Nat → List Value) : (recs z m g).length = m * z := by simp [recs]
theorem recs_get {z m : Nat} {g : Nat → List Value} (hg : ∀ i, (g i).length = z) {i j : Nat} (hi : i < m) (hj : j < z) : (recs z m g)[i * z + j]? = (g i)[j]? := by
  have h1 : i * z + j < m * z := by
    have : (i + 1) * z ≤ m * z := Nat.mul_le_mul_right z hi
    rw [Nat.add_mul] at this; omega
  have h2 : (i * z + j) / z = i := by
    rw [Nat.mul_comm, Nat.mul_add_div (by omega), Nat.div_eq_of_lt hj]; omega
  have h3 : (i * z + j) % z = j := by
    rw [Nat.mul_comm, Nat.mul_add_mod, Nat.mod_eq_of_lt hj]
  rw [recs, vals_lt h1, h2, h3, List.getElem?_eq_getElem (by rw [hg]; exact hj)]; rfl
theorem eq_recs {z m : Nat} {g : Nat → List Value} {l : List Value} (hg : ∀ i, (g i).length = z) (hl : l.length = m * z) (h : ∀ i j, i < m → j < z → l[i * z + j]? = (g i)[j]?) : l = recs z m g := by
  apply eq_vals hl
  intro i hi
  have hz : 0 < z := by
    rcases Nat.eq_zero_or_pos z with h | h
    · subst h; simp at hi
    · exact h
  have h1 : i / z < m := (Nat.div_lt_iff_lt_mul hz).2 hi
  have h2 : i % z < z := Nat.mod_lt _ hz
  have := h (i / z) (i % z) h1 h2
  rw [show i / z * z + i % z = i by rw [Nat.mul_comm]; exact Nat.div_add_mod i z] at this
  rw [this, List.getElem?_eq_getElem (by rw [hg]; exact h2)]; rfl
theorem recs_congr {z m : Nat} {g h : Nat → List Value} (hh : ∀ i, i < m → g i = h i) : recs z m g = recs z m h := by
  apply vals_congr
  intro i hi
  have hz : 0 < z := by
    rcases Nat.eq_zero_or_pos z with h | h
    · subst h; simp at hi
    · exact h
  rw [hh _ ((Nat.div_lt_iff_lt_mul hz).2 hi)]
theorem row_pos {z i j a b : Nat} (hj : j < z) (hb : b < z) (h : i * z + j = a * z + b) : i = a ∧ j = b := by
  have h1 : (i * z + j) / z = i := by rw [Nat.mul_comm, Nat.mul_add_div (by omega), Nat.div_eq_of_lt hj]; omega
  have h2 : (a * z + b) / z = a := by rw [Nat.mul_comm, Nat.mul_add_div (by omega), Nat.div_eq_of_lt hb]; omega
  rw [h, h2] at h1
  subst h1; omega
theorem setL_recs {z m : Nat} {g u : Nat → List Value} (hg : ∀ i, (g i).length = z) (hu : ∀ i, (u i).length = z) {i k : Nat} (h : i + k ≤ m) :
    setL (recs z m g) (i * z) (recs z k u) = recs z m (fun j => if i ≤ j ∧ j < i + k then u (j - i) else g j) := by
  have hle : i * z + k * z ≤ m * z := by rw [← Nat.add_mul]; exact Nat.mul_le_mul_right z h
  apply eq_recs (by intro j; split <;> simp [hg, hu]) (by simp [setL_length])
  intro a b ha hb
  rw [setL_get _ _ _ _ (by simpa using hle)]
  simp only [recs_length]
  by_cases hx : i ≤ a ∧ a < i + k
  · have h1 : i * z ≤ a * z := Nat.mul_le_mul_right z hx.1
    have h2 : (a + 1) * z ≤ (i + k) * z := Nat.mul_le_mul_right z hx.2
    rw [Nat.add_mul, Nat.add_mul] at h2
    rw [if_pos (by omega), if_pos hx, show a * z + b - i * z = (a - i) * z + b by rw [Nat.sub_mul]; omega, recs_get hu (by omega) hb]
  · rw [if_neg hx, if_neg, recs_get hg ha hb]
    rintro ⟨h1, h2⟩
    apply hx
    constructor
    · rcases Nat.lt_or_ge a i with h | h
      · have := Nat.mul_le_mul_right z h
        rw [Nat.succ_mul] at this; omega
      · exact h
    · rcases Nat.lt_or_ge a (i + k) with h | h
      · exact h
      · have := Nat.mul_le_mul_right z h
        rw [Nat.add_mul] at this; omega
theorem zcells_recs {z : Nat} {row : List Value} (hr : row.length = z) : ∀ k, zcells row k = recs z k fun _ => row := by
  intro k
  apply eq_recs (fun _ => hr) (by rw [zc_length, hr])
  induction k with
  | zero => intro i j hi; omega
  | succ k ih =>
    intro i j hi hj
    rw [zcells]
    cases i with
    | zero => rw [List.getElem?_append_left (by omega)]; simp
    | succ i =>
      rw [List.getElem?_append_right (by rw [hr, Nat.add_mul]; omega), hr, show (i + 1) * z + j - z = i * z + j by rw [Nat.add_mul]; omega]
      exact ih i j (by omega) hj
theorem recs_one {z : Nat} {row : List Value} (hr : row.length = z) : recs z 1 (fun _ => row) = row := by
  rw [← zcells_recs hr]; simp [zcells]
theorem setL_row {z m : Nat} {g : Nat → List Value} (hg : ∀ i, (g i).length = z) {row : List Value} (hr : row.length = z) {i : Nat} (h : i < m) : setL (recs z m g) (i * z) row = recs z m (up g i row) := by
  have := setL_recs hg (u := fun _ => row) (fun _ => hr) (i := i) (k := 1) (m := m) (by omega)
  rw [recs_one hr] at this
  rw [this]
  apply recs_congr
  intro j _
  unfold up
  by_cases hj : j = i
  · rw [if_pos (by omega), if_pos hj]
  · rw [if_neg (by omega), if_neg hj]

/-! The next that is in -/
def nxtF (p : Nat → Bool) : Nat → Nat → Int
  | 0, _ => -1
  | f + 1, i => if p i then (i : Int) else nxtF p f (i + 1)
def nxt (p : Nat → Bool) (m i : Nat) : Int := nxtF p (m - i) i
theorem nxtF_cases (p : Nat → Bool) : ∀ f i, (nxtF p f i = -1 ∧ ∀ j, i ≤ j → j < i + f → p j = false) ∨ ∃ j : Nat, nxtF p f i = j ∧ i ≤ j ∧ j < i + f ∧ p j = true ∧ ∀ k, i ≤ k → k < j → p k = false
  | 0, i => .inl ⟨rfl, fun j h1 h2 => by omega⟩
  | f + 1, i => by
    unfold nxtF
    by_cases h : p i
    · rw [if_pos h]
      exact .inr ⟨i, rfl, Nat.le_refl _, by omega, h, fun k h1 h2 => by omega⟩
    · rw [if_neg h]
      have h : p i = false := by simpa using h
      rcases nxtF_cases p f (i + 1) with ⟨h1, h2⟩ | ⟨j, h1, h2, h3, h4, h5⟩
      · refine .inl ⟨h1, fun j hj1 hj2 => ?_⟩
        by_cases hj : j = i
        · rw [hj]; exact h
        · exact h2 j (by omega) (by omega)
      · refine .inr ⟨j, h1, by omega, by omega, h4, fun k hk1 hk2 => ?_⟩
        by_cases hj : k = i
        · rw [hj]; exact h
        · exact h5 k (by omega) hk2
theorem nxt_cases (p : Nat → Bool) (m i : Nat) : (nxt p m i = -1 ∧ ∀ j, i ≤ j → j < m → p j = false) ∨ ∃ j : Nat, nxt p m i = j ∧ i ≤ j ∧ j < m ∧ p j = true ∧ ∀ k, i ≤ k → k < j → p k = false := by
  rcases nxtF_cases p (m - i) i with ⟨h1, h2⟩ | ⟨j, h1, h2, h3, h4, h5⟩
  · exact .inl ⟨h1, fun j a b => h2 j a (by omega)⟩
  · exact .inr ⟨j, h1, h2, by omega, h4, h5⟩
theorem nxt_none {p : Nat → Bool} {m i : Nat} (h : ∀ j, i ≤ j → j < m → p j = false) : nxt p m i = -1 := by
  rcases nxt_cases p m i with ⟨h1, _⟩ | ⟨j, h1, h2, h3, h4, _⟩
  · exact h1
  · rw [h j h2 h3] at h4; cases h4
theorem nxt_some {p : Nat → Bool} {m i j : Nat} (h1 : i ≤ j) (h2 : j < m) (h3 : p j = true) (h4 : ∀ k, i ≤ k → k < j → p k = false) : nxt p m i = j := by
  rcases nxt_cases p m i with ⟨_, h⟩ | ⟨k, hk, k1, k2, k3, k4⟩
  · rw [h j h1 h2] at h3; cases h3
  · rw [hk]
    rcases Nat.lt_trichotomy j k with h | h | h
    · rw [k4 j h1 h] at h3; cases h3
    · rw [h]
    · rw [h4 k k1 h] at k3; cases k3
theorem nxt_congr {p q : Nat → Bool} {m i : Nat} (h : ∀ j, i ≤ j → j < m → p j = q j) : nxt p m i = nxt q m i := by
  rcases nxt_cases p m i with ⟨h1, h2⟩ | ⟨j, h1, h2, h3, h4, h5⟩
  · rw [h1, nxt_none]
    intro j a b; rw [← h j a b]; exact h2 j a b
  · rw [h1, nxt_some h2 h3 (by rw [← h j h2 h3]; exact h4)]
    intro k a b; rw [← h k a (by omega)]; exact h5 k a b
theorem nxt_skip {p : Nat → Bool} {m i k : Nat} (hik : i ≤ k) (h : ∀ j, i ≤ j → j < k → j < m → p j = false) : nxt p m i = nxt p m k := by
  rcases nxt_cases p m k with ⟨h1, h2⟩ | ⟨j, h1, h2, h3, h4, h5⟩
  · rw [h1, nxt_none]
    intro j a b
    rcases Nat.lt_or_ge j k with h' | h'
    · exact h j a h' b
    · exact h2 j h' b
  · rw [h1, nxt_some (by omega) h3 h4]
    intro l a b
    rcases Nat.lt_or_ge l k with h' | h'
    · exact h l a h' (by omega)
    · exact h5 l h' b

/-! How many are in -/
def cntF (p : Nat → Bool) : Nat → Nat → Nat
  | 0, _ => 0
  | f + 1, i => (p i).toNat + cntF p f (i + 1)
def cnt (p : Nat → Bool) (a b : Nat) : Nat := cntF p (b - a) a
theorem cntF_add (p : Nat → Bool) : ∀ f g i, cntF p (f + g) i = cntF p f i + cntF p g (i + f)
  | 0, g, i => by simp [cntF]
  | f + 1, g, i => by
    rw [show f + 1 + g = (f + g) + 1 by omega, cntF, cntF, cntF_add p f g (i + 1), show i + 1 + f = i + (f + 1) by omega]; omega
theorem cnt_split (p : Nat → Bool) {a b c : Nat} (h1 : a ≤ b) (h2 : b ≤ c) : cnt p a c = cnt p a b + cnt p b c := by
  unfold cnt
  rw [show c - a = (b - a) + (c - b) by omega, cntF_add, show a + (b - a) = b by omega]
theorem cnt_self (p : Nat → Bool) (a : Nat) : cnt p a a = 0 := by simp [cnt, cntF]
theorem cnt_empty (p : Nat → Bool) {a b : Nat} (h : b ≤ a) : cnt p a b = 0 := by simp [cnt, cntF, Nat.sub_eq_zero_of_le h]
theorem cntF_congr {p q : Nat → Bool} : ∀ f i i', (∀ j, j < f → p (i + j) = q (i' + j)) → cntF p f i = cntF q f i'
  | 0, _, _, _ => rfl
  | f + 1, i, i', h => by
    rw [cntF, cntF, cntF_congr f (i + 1) (i' + 1) (fun j hj => by have := h (j + 1) (by omega); simpa [Nat.add_assoc, Nat.add_comm, Nat.add_left_comm] using this)]
    have := h 0 (by omega)
    simp only [Nat.add_zero] at this
    rw [this]
theorem cnt_congr {p q : Nat → Bool} {a b : Nat} (h : ∀ j, a ≤ j → j < b → p j = q j) : cnt p a b = cnt q a b :=
  cntF_congr _ _ _ fun j hj => h _ (by omega) (by omega)
theorem cnt_shift {p q : Nat → Bool} {a b c d : Nat} (hl : b - a = d - c) (h : ∀ j, j < b - a → p (a + j) = q (c + j)) : cnt p a b = cnt q c d := by
  unfold cnt; rw [← hl]; exact cntF_congr _ _ _ h
theorem cnt_one (p : Nat → Bool) (a : Nat) : cnt p a (a + 1) = (p a).toNat := by
  simp [cnt, cntF]
theorem cnt_zero_iff (p : Nat → Bool) {a b : Nat} : cnt p a b = 0 ↔ ∀ j, a ≤ j → j < b → p j = false := by
  have : ∀ f i, cntF p f i = 0 ↔ ∀ j, i ≤ j → j < i + f → p j = false := by
    intro f
    induction f with
    | zero => intro i; simp only [cntF, true_iff]; intro j h1 h2; omega
    | succ f ih =>
      intro i
      rw [cntF]
      constructor
      · intro h j h1 h2
        have h3 : (p i).toNat = 0 := by omega
        have h4 := (ih (i + 1)).1 (by omega)
        by_cases hj : j = i
        · subst hj; cases hp : p j <;> simp [hp] at h3 ⊢
        · exact h4 j (by omega) (by omega)
      · intro h
        rw [h i (Nat.le_refl _) (by omega), (ih (i + 1)).2 fun j h1 h2 => h j (by omega) (by omega)]; rfl
  unfold cnt
  rw [this]
  constructor
  · intro h j h1 h2; exact h j h1 (by omega)
  · intro h j h1 h2; exact h j h1 (by omega)
theorem cnt_le (p : Nat → Bool) (a b : Nat) : cnt p a b ≤ b - a := by
  unfold cnt
  generalize b - a = f
  induction f generalizing a with
  | zero => simp [cntF]
  | succ f ih => rw [cntF]; have := ih (a + 1); cases p a <;> simp <;> omega

/-! Bits -/
def ofB (f : Nat → Bool) : Nat → Nat
  | 0 => 0
  | n + 1 => 2 ^ n * (f n).toNat + ofB f n
theorem ofB_lt (f : Nat → Bool) : ∀ n, ofB f n < 2 ^ n
  | 0 => by simp [ofB]
  | n + 1 => by
    have := ofB_lt f n
    rw [ofB, Nat.pow_succ]
    cases f n <;> simp <;> omega
theorem testBit_ofB (f : Nat → Bool) : ∀ n j, (ofB f n).testBit j = (decide (j < n) && f j)
  | 0, j => by simp [ofB]
  | n + 1, j => by
    rw [ofB, Nat.testBit_two_pow_mul_add _ (ofB_lt f n)]
    by_cases h : j < n
    · rw [if_pos h, testBit_ofB f n j]; simp [h, Nat.lt_succ_of_lt h]
    · rw [if_neg h]
      by_cases h2 : j = n
      · subst h2; cases f j <;> simp
      · have : ¬ j < n + 1 := by omega
        simp only [this, decide_false, Bool.false_and]
        obtain ⟨d, hd⟩ : ∃ d, j - n = d + 1 := ⟨j - n - 1, by omega⟩
        rw [hd]
        cases f n <;> simp [Nat.testBit_succ]
def bmRow (bit : Nat → Bool) (k : Nat) : Nat := ofB (fun j => bit (64 * k + j)) 64
theorem bmRow_lt (bit : Nat → Bool) (k : Nat) : bmRow bit k < 18446744073709551616 := ofB_lt _ 64
theorem bmRow_bit (bit : Nat → Bool) (k : Nat) {j : Nat} (h : j < 64) : (bmRow bit k).testBit j = bit (64 * k + j) := by
  rw [bmRow, testBit_ofB]; simp [h]
theorem eq_bmRow {bit : Nat → Bool} {k x : Nat} (hx : x < 18446744073709551616) (h : ∀ j, j < 64 → x.testBit j = bit (64 * k + j)) : x = bmRow bit k := by
  apply Nat.eq_of_testBit_eq
  intro j
  by_cases hj : j < 64
  · rw [h j hj, bmRow_bit _ _ hj]
  · have hp : 18446744073709551616 ≤ 2 ^ j := Nat.pow_le_pow_right (n := 2) (by omega) (show 64 ≤ j by omega)
    rw [Nat.testBit_lt_two_pow (Nat.lt_of_lt_of_le hx hp), Nat.testBit_lt_two_pow (Nat.lt_of_lt_of_le (bmRow_lt _ _) hp)]
theorem bmRow_congr {p q : Nat → Bool} {k : Nat} (h : ∀ j, j < 64 → p (64 * k + j) = q (64 * k + j)) : bmRow p k = bmRow q k :=
  eq_bmRow (bmRow_lt _ _) fun j hj => by rw [bmRow_bit _ _ hj]; exact h j hj

theorem bv_toNat {a : Nat} (h : a < 18446744073709551616) : (BitVec.ofInt 64 (a : Int)).toNat = a := by
  simp; omega
theorem bv_or {a b : Nat} (ha : a < 18446744073709551616) (hb : b < 18446744073709551616) : (BitVec.ofInt 64 (a : Int) ||| BitVec.ofInt 64 (b : Int)).toNat = a ||| b := by
  rw [BitVec.toNat_or, bv_toNat ha, bv_toNat hb]
theorem bv_and {a b : Nat} (ha : a < 18446744073709551616) (hb : b < 18446744073709551616) : (BitVec.ofInt 64 (a : Int) &&& BitVec.ofInt 64 (b : Int)).toNat = a &&& b := by
  rw [BitVec.toNat_and, bv_toNat ha, bv_toNat hb]
theorem or_lt64 {a b : Nat} (ha : a < 18446744073709551616) (hb : b < 18446744073709551616) : a ||| b < 18446744073709551616 := Nat.or_lt_two_pow (n := 64) ha hb
theorem and_lt64 {a : Nat} (b : Nat) (ha : a < 18446744073709551616) : a &&& b < 18446744073709551616 := Nat.lt_of_le_of_lt Nat.and_le_left ha
theorem bv_andNot {a b : Nat} (ha : a < 18446744073709551616) (hb : b < 18446744073709551616) : ∃ x : Nat, (BitVec.ofInt 64 (a : Int) &&& ~~~ BitVec.ofInt 64 (b : Int)).toNat = x ∧ x < 18446744073709551616 ∧ ∀ j, j < 64 → x.testBit j = (a.testBit j && !b.testBit j) := by
  refine ⟨_, rfl, BitVec.isLt _, fun j hj => ?_⟩
  rw [BitVec.testBit_toNat, BitVec.getLsbD_and, BitVec.getLsbD_not, ← BitVec.testBit_toNat, ← BitVec.testBit_toNat, bv_toNat ha, bv_toNat hb]
  simp [hj]
attribute [irreducible] bmRow
end Go.Wx
end
section
/- Contracts of the functions of numbers alone: classes, links, headers, layouts. -/
set_option linter.unusedVariables false
set_option maxRecDepth 100000
namespace Go.Wx
open Go

noncomputable abbrev PR : Program := Proofs.Tryz.prog
abbrev B1 (b : Bool) : Value := .bool b
abbrev U (n : Nat) : Value := .int .u64 (n : Int)

theorem ifB_d {p : Prop} [Decidable p] {A B : Prop} (h1 : p → A) (h2 : ¬ p → B) : ifB (decide p) A B := by
  by_cases h : p
  · rw [decide_eq_true h]; exact h1 h
  · rw [decide_eq_false h]; exact h2 h
theorem ifB_eq {n m : Int} {A B : Prop} (h1 : n = m → A) (h2 : n ≠ m → B) : ifB (n == m) A B := by
  by_cases h : n = m
  · rw [show (n == m) = true by simp [h]]; exact h1 h
  · rw [show (n == m) = false by simp [h]]; exact h2 h
theorem ifB_ne {n m : Int} {A B : Prop} (h1 : n ≠ m → A) (h2 : n = m → B) : ifB (n != m) A B := by
  by_cases h : n = m
  · rw [show (n != m) = false by simp [h]]; exact h2 h
  · rw [show (n != m) = true by simp [h]]; exact h1 h
theorem ifB_b {b : Bool} {A B : Prop} (h1 : b = true → A) (h2 : b = false → B) : ifB b A B := by cases b <;> simp_all [ifB]
theorem ifB_nb {b : Bool} {A B : Prop} (h1 : b = false → A) (h2 : b = true → B) : ifB (!b) A B := by cases b <;> simp_all [ifB]
theorem ifB_t {b : Bool} {A B : Prop} (hb : b = true) (h1 : A) : ifB b A B := by rw [hb]; exact h1
theorem ifB_f {b : Bool} {A B : Prop} (hb : b = false) (h1 : B) : ifB b A B := by rw [hb]; exact h1
theorem kp0 {w : World} : Kp w w := Upd.refl

/-! Classes -/
def wdN : Nat → Nat
  | 0 => 2 | 1 => 4 | 2 => 6 | 3 => 8 | 4 => 12 | 5 => 16 | 6 => 20 | 7 => 32 | _ => 0
def bkN : Nat → Nat
  | 0 => 32 | 1 => 16 | 2 => 10 | 3 => 8 | 4 => 5 | 5 => 4 | 6 => 3 | 7 => 2 | _ => 0
/-- The words of a class. -/
def wdS (c : Int) : Int := if 0 ≤ c ∧ c < 8 then wdN c.toNat else 0
def bkS (c : Int) : Int := if 0 ≤ c ∧ c < 8 then bkN c.toNat else 0
/-- The class of a size. -/
def ofS (n : Int) : Int := if n < 1 then -1 else if n > 1024 then -1 else if n ≤ 2 then 0 else if n ≤ 4 then 1 else if n ≤ 6 then 2 else if n ≤ 8 then 3 else if n ≤ 12 then 4 else if n ≤ 16 then 5 else if n ≤ 20 then 6 else if n ≤ 32 then 7 else 8
def pgS (n : Int) : Int := if ofS n = 8 then (n + 63) / 64 else 0
def stS (c i : Int) : Int := if i < 0 then -1 else if i ≥ bkS c then -1 else i * wdS c
/-- The words of an object's room. -/
def roomS (n : Int) : Int := if pgS n > 0 then pgS n * 64 else wdS (ofS n)

theorem lt8 {c : Nat} (h : c < 8) : c = 0 ∨ c = 1 ∨ c = 2 ∨ c = 3 ∨ c = 4 ∨ c = 5 ∨ c = 6 ∨ c = 7 := by omega
theorem wdN_pos {c : Nat} (h : c < 8) : 2 ≤ wdN c ∧ wdN c ≤ 32 ∧ bkN c ≤ 32 ∧ 2 ≤ bkN c ∧ bkN c * wdN c ≤ 64 ∧ 64 < (bkN c + 1) * wdN c ∧ 64 / wdN c = bkN c := by
  rcases lt8 h with rfl | rfl | rfl | rfl | rfl | rfl | rfl | rfl <;> decide
theorem ofS_tab : ∀ m : Fin 1025, 1 ≤ m.val → ∀ c : Fin 8, ((m.val : Int) ≤ wdN c.val ↔ ofS (m.val : Int) ≤ c.val) := by decide +kernel
theorem ofS_le {n : Int} {c : Nat} (h1 : 1 ≤ n) (h2 : n ≤ 1024) (h : c < 8) : n ≤ wdN c ↔ ofS n ≤ c := by
  obtain ⟨m, rfl⟩ : ∃ m : Nat, n = m := ⟨n.toNat, by omega⟩
  exact ofS_tab ⟨m, by omega⟩ (by show 1 ≤ m; omega) ⟨c, h⟩
theorem ofS_rng (n : Int) : -1 ≤ ofS n ∧ ofS n ≤ 8 := by
  unfold ofS; repeat' split <;> omega
theorem ofS_in {n : Int} (h1 : 1 ≤ n) (h2 : n ≤ 1024) : 0 ≤ ofS n ∧ ofS n ≤ 8 := by
  unfold ofS; repeat' split <;> omega
theorem ofS_8 {n : Int} (h : ofS n = 8) : 33 ≤ n ∧ n ≤ 1024 := by
  unfold ofS at h; repeat' split at h <;> omega
theorem ofS_neg {n : Int} (h : ofS n < 0) : n < 1 ∨ n > 1024 := by
  rcases Int.lt_or_le n 1 with h1 | h1
  · exact .inl h1
  · rcases Int.lt_or_le 1024 n with h2 | h2
    · exact .inr h2
    · have := ofS_in h1 h2; omega

theorem c128 (w : World) : RetE PR 128 [] w (.agg (Array.mk [I 2, I 4, I 6, I 8, I 12, I 16, I 20, I 32])) := by
  refine Ret.of ((S128_eq w _).mpr ?_)
  unfold S128
  refine atW_new fun w1 n1 => ?_
  refine stx_at _ n1.at0 (by decide) rfl fun w2 p2 => ?_
  refine ⟨_, cell_of p2.at0 0, _, cell_of p2.at0 1, _, cell_of p2.at0 2, _, cell_of p2.at0 3, _, cell_of p2.at0 4, _, cell_of p2.at0 5, _, cell_of p2.at0 6, _, cell_of p2.at0 7, rfl, ?_⟩
  exact Upd.tr n1.ext p2.upd (fun b hb => .inr (by have := n1.sz; simp [one] at hb; omega))

theorem c105 (w : World) (c : Int) : RetE PR 105 [I c] w (I (wdS c)) := by
  refine Ret.of ((S105_eq c w _).mpr ?_)
  unfold S105
  refine ifB_d (fun h => ⟨?_, kp0⟩) fun h => ifB_d (fun h' => ⟨?_, kp0⟩) fun h' => ?_
  · rw [wdS, if_neg (by omega)]
  · rw [wdS, if_neg (by omega)]
  · refine (c128 w).use fun w1 e1 => ⟨_, _, _, _, _, _, _, _, rfl, wdS c, ⟨by omega, by omega⟩, ?_, rfl, e1⟩
    obtain ⟨k, rfl⟩ : ∃ k : Nat, c = k := ⟨c.toNat, by omega⟩
    rw [wdS, if_pos (by omega)]
    rcases lt8 (show k < 8 by omega) with rfl | rfl | rfl | rfl | rfl | rfl | rfl | rfl <;> rfl

theorem wdS_nat {c : Nat} (h : c < 8) : wdS c = wdN c := by rw [wdS, if_pos (by omega)]; rfl
theorem bkS_nat {c : Nat} (h : c < 8) : bkS c = bkN c := by rw [bkS, if_pos (by omega)]; rfl

theorem c83 (w : World) (c : Int) : RetE PR 83 [I c] w (I (bkS c)) := by
  refine Ret.of ((S83_eq c w _).mpr ?_)
  unfold S83
  refine (c105 w c).use fun w1 e1 => ⟨_, rfl, ?_⟩
  by_cases hc : 0 ≤ c ∧ c < 8
  · obtain ⟨k, rfl⟩ : ∃ k : Nat, c = k := ⟨c.toNat, by omega⟩
    have hk : k < 8 := by omega
    obtain ⟨h1, h2, h3, h4, h5, h6, h7⟩ := wdN_pos hk
    rw [wdS_nat hk, bkS_nat hk]
    refine ifB_eq (fun h => by omega) fun h => ifB_eq (fun h => by omega) fun h => ⟨?_, e1⟩
    rcases lt8 hk with rfl | rfl | rfl | rfl | rfl | rfl | rfl | rfl <;> rfl
  · rw [wdS, if_neg hc, bkS, if_neg hc]
    exact ⟨rfl, e1⟩

theorem c78 (w : World) (n : Int) : RetE PR 78 [I n] w (I (ofS n)) := by
  refine Ret.of ((S78_eq n w _).mpr ?_)
  unfold S78
  refine join_two (ifB_d (fun h => ⟨?_, kp0⟩) fun h => ifB_d (fun h' => ⟨?_, kp0⟩) fun h' => ?_)
  · rw [ofS, if_pos h]
  · rw [ofS, if_neg h, if_pos h']
  refine (c128 w).use fun w1 e1 => ⟨_, _, _, _, _, _, _, _, rfl, ?_⟩
  refine loop_rule (fun i : Nat => ((0 : Int), (i : Int), ())) (fun i w' => w' = w1 ∧ i ≤ 8 ∧ (i : Int) ≤ ofS n) (fun i => 8 - i) 0 rfl ⟨rfl, by omega, (ofS_in (by omega) (by omega)).1⟩ ?_
  rintro i w' K ⟨rfl, hi, hle⟩ hk
  refine ifB_d (fun h => ?_) fun h => ⟨?_, e1⟩
  · refine ⟨wdN i, ⟨Int.natCast_nonneg _, h⟩, ?_, ?_⟩
    · have : i < 8 := by simp at h; omega
      rcases lt8 this with rfl | rfl | rfl | rfl | rfl | rfl | rfl | rfl <;> rfl
    · have hi8 : i < 8 := by simp at h; omega
      have := ofS_le (n := n) (c := i) (by omega) (by omega) hi8
      refine ifB_d (fun h2 => ⟨?_, e1⟩) fun h2 => ?_
      · have := this.1 h2
        show Value.int .i64 (i : Int) = I (ofS n)
        rw [show (i : Int) = ofS n by omega]
      · rw [show IntKind.i64.wrap (((0 : Int), ((i : Int), ())).snd.fst + 1) = ((i + 1 : Nat) : Int) by rw [wrap_id (by simp; omega) (by simp; omega)]; simp]
        exact hk (i + 1) w' ⟨rfl, by omega, by omega⟩ (by omega)
  · show Value.int .i64 8 = I (ofS n)
    have : i = 8 := by simp at h; omega
    have := (ofS_in (n := n) (by omega) (by omega)).2
    rw [show ofS n = 8 by omega]

theorem pgS_rng (n : Int) : 0 ≤ pgS n ∧ pgS n ≤ 16 := by
  unfold pgS; split
  · have := ofS_8 ‹_›; omega
  · omega
theorem pgS_8 {n : Int} (h : ofS n = 8) : 1 ≤ pgS n ∧ n ≤ pgS n * 64 := by
  unfold pgS; rw [if_pos h]; have := ofS_8 h; omega

theorem c80 (w : World) (n : Int) : RetE PR 80 [I n] w (I (pgS n)) := by
  refine Ret.of ((S80_eq n w _).mpr ?_)
  unfold S80
  refine (c78 w n).use fun w1 e1 => ⟨_, rfl, ?_⟩
  refine ifB_ne (fun h => ⟨?_, e1⟩) fun h => ⟨?_, e1⟩
  · rw [pgS, if_neg h]
  · have := ofS_8 h
    rw [pgS, if_pos h, wrap_id (x := n + 64) (by omega) (by omega), wrap_id (x := n + 64 - 1) (by omega) (by omega), Int.tdiv_eq_ediv_of_nonneg (by omega), wrap_id (by omega) (by omega), show n + 64 - 1 = n + 63 by omega]

theorem c138 (w : World) (c i : Int) (hi : i < 1000000) : RetE PR 138 [I c, I i] w (I (stS c i)) := by
  refine Ret.of ((S138_eq c i w _).mpr ?_)
  unfold S138 stS
  refine ifB_d (fun h => ⟨by rw [if_pos h], kp0⟩) fun h => ?_
  refine (c83 w c).use fun w1 e1 => ⟨_, rfl, ?_⟩
  refine ifB_d (fun h' => ⟨by rw [if_neg h, if_pos h'], e1⟩) fun h' => ?_
  refine (c105 w1 c).use fun w2 e2 => ⟨_, rfl, ?_, e1.trans e2⟩
  rw [if_neg h, if_neg h', wrap_id]
  all_goals
    by_cases hc : 0 ≤ c ∧ c < 8
    · obtain ⟨k, rfl⟩ : ∃ k : Nat, c = k := ⟨c.toNat, by omega⟩
      have hk : k < 8 := by omega
      obtain ⟨h1, h2, h3, h4, h5, h6, h7⟩ := wdN_pos hk
      rw [wdS_nat hk]
      have : 0 ≤ i * (wdN k : Int) := Int.mul_nonneg (by omega) (by omega)
      have : i * (wdN k : Int) ≤ 1000000 * 32 := Int.mul_le_mul (by omega) (by omega) (by omega) (by omega)
      omega
    · rw [wdS, if_neg hc]; omega

theorem c55 (w : World) (n : Int) : RetE PR 55 [I n] w (I (roomS n)) := by
  refine Ret.of ((S55_eq n w _).mpr ?_)
  unfold S55 roomS
  refine (c80 w n).use fun w1 e1 => ⟨_, rfl, ?_⟩
  have := pgS_rng n
  refine ifB_d (fun h => ⟨?_, e1⟩) fun h => ?_
  · rw [if_pos h, wrap_id (by omega) (by omega)]
  · refine (c78 w1 n).use fun w2 e2 => ⟨_, rfl, ?_⟩
    refine (c105 w2 _).use fun w3 e3 => ⟨_, rfl, ?_, (e1.trans e2).trans e3⟩
    rw [if_neg h]

/-! The reference's classes -/
theorem c115 (w : World) (c : Int) : RetE PR 115 [I c] w (I (wdS c)) := by
  refine Ret.of ((S115_eq c w _).mpr ?_)
  unfold S115
  refine join_two (ifB_d (fun h => ⟨?_, kp0⟩) fun h => ifB_d (fun h' => ⟨?_, kp0⟩) fun h' => ?_)
  · rw [wdS, if_neg (by omega)]
  · rw [wdS, if_neg (by omega)]
  obtain ⟨k, rfl⟩ : ∃ k : Nat, c = k := ⟨c.toNat, by omega⟩
  have hk : k < 8 := by omega
  rw [wdS_nat hk]
  refine loop_rule (fun i : Nat => ((wdN i : Int), (i : Int), ())) (fun i w' => w' = w ∧ i ≤ k) (fun i => 8 - i) 0 rfl ⟨rfl, by omega⟩ ?_
  rintro i w' K ⟨rfl, hi⟩ hK
  refine ifB_d (fun h2 => ?_) fun h2 => ⟨?_, kp0⟩
  · have h2 : i < k := by simpa using h2
    have := hK (i + 1) w' ⟨rfl, by omega⟩ (by omega)
    rcases lt8 (show i < 8 by omega) with rfl | rfl | rfl | rfl | rfl | rfl | rfl | rfl <;> first | exact this | omega
  · have : i = k := by simp at h2; omega
    rw [this]

theorem c116 (w : World) (c : Int) : RetE PR 116 [I c] w (I (bkS c)) := by
  refine Ret.of ((S116_eq c w _).mpr ?_)
  unfold S116
  refine (c115 w c).use fun w1 e1 => ⟨_, rfl, ?_⟩
  by_cases hc : 0 ≤ c ∧ c < 8
  · obtain ⟨k, rfl⟩ : ∃ k : Nat, c = k := ⟨c.toNat, by omega⟩
    have hk : k < 8 := by omega
    obtain ⟨h1, h2, h3, h4, h5, h6, h7⟩ := wdN_pos hk
    rw [wdS_nat hk, bkS_nat hk]
    refine loop_rule (fun i : Nat => ((i : Int), ())) (fun i w' => w' = w1 ∧ i ≤ bkN k) (fun i => 64 - i) 0 rfl ⟨rfl, by omega⟩ ?_
    rintro i w' K ⟨rfl, hi⟩ hK
    refine ifB_d (fun _ => ?_) fun h => by omega
    have e : IntKind.i64.wrap (IntKind.i64.wrap ((i : Int) + 1) * (wdN k : Int)) = (((i + 1) * wdN k : Nat) : Int) := by
      have : (i + 1) * wdN k ≤ 33 * 32 := Nat.mul_le_mul (by omega) (by omega)
      rw [wrap_id (x := (i : Int) + 1) (by omega) (by omega), wrap_id]
      · simp
      · have := Int.natCast_nonneg ((i + 1) * wdN k); simp at this ⊢; omega
      · have : ((i + 1) * wdN k : Int) ≤ 33 * 32 := by exact_mod_cast this
        omega
    show ifB (decide (IntKind.i64.wrap (IntKind.i64.wrap ((i : Int) + 1) * (wdN k : Int)) ≤ 64)) _ _
    rw [e]
    refine ifB_d (fun h => ?_) fun h => ⟨?_, e1⟩
    · have hlt : i < bkN k := by
        rcases Nat.lt_or_ge i (bkN k) with h' | h'
        · exact h'
        · have := Nat.mul_le_mul_right (wdN k) (show bkN k + 1 ≤ i + 1 by omega)
          omega
      show K (IntKind.i64.wrap ((i : Int) + 1), ()) w'
      rw [wrap_id (by omega) (by omega)]
      exact hK (i + 1) w' ⟨rfl, by omega⟩ (by omega)
    · have : i = bkN k := by
        rcases Nat.lt_or_ge i (bkN k) with h' | h'
        · have := Nat.mul_le_mul_right (wdN k) (show i + 1 ≤ bkN k by omega)
          omega
        · omega
      rw [this]
  · rw [wdS, if_neg hc, bkS, if_neg hc]
    refine ⟨fun s w => s = (0, ()) ∧ w = w1, fun _ _ => 0, ⟨rfl, rfl⟩, ?_⟩
    rintro s w' ⟨rfl, rfl⟩
    exact ⟨rfl, e1⟩

theorem c62 (w : World) (n : Int) : RetE PR 62 [I n] w (I (ofS n)) := by
  refine Ret.of ((S62_eq n w _).mpr ?_)
  unfold S62
  refine join_two (ifB_d (fun h => ⟨?_, kp0⟩) fun h => ifB_d (fun h' => ⟨?_, kp0⟩) fun h' => ?_)
  · rw [ofS, if_pos h]
  · rw [ofS, if_neg h, if_pos h']
  refine loop_rule (fun i : Nat => ((i : Int), ())) (fun i w' => Kp w w' ∧ i ≤ 8 ∧ (i : Int) ≤ ofS n) (fun i => 8 - i) 0 rfl ⟨kp0, by omega, (ofS_in (by omega) (by omega)).1⟩ ?_
  rintro i w' K ⟨e1, hi, hle⟩ hk
  refine ifB_d (fun h => ?_) fun h => ⟨?_, e1⟩
  · have hi8 : i < 8 := by simp at h; omega
    refine (c115 w' i).use fun w2 e2 => ⟨_, rfl, ?_⟩
    rw [wdS_nat hi8]
    have := ofS_le (n := n) (c := i) (by omega) (by omega) hi8
    refine ifB_d (fun h2 => ?_) fun h2 => ⟨?_, e1.trans e2⟩
    · rw [show IntKind.i64.wrap (((i : Int), ()).fst + 1) = ((i + 1 : Nat) : Int) by rw [wrap_id (by simp; omega) (by simp; omega)]; simp]
      exact hk (i + 1) w2 ⟨e1.trans e2, by omega, by omega⟩ (by omega)
    · have := this.1 (by omega)
      show Value.int .i64 (i : Int) = I (ofS n)
      rw [show (i : Int) = ofS n by omega]
  · show Value.int .i64 (i : Int) = I (ofS n)
    have : i = 8 := by simp at h; omega
    have := (ofS_in (n := n) (by omega) (by omega)).2
    rw [show (i : Int) = ofS n by omega]

theorem c113 (w : World) (n : Int) : RetE PR 113 [I n] w (I (pgS n)) := by
  refine Ret.of ((S113_eq n w _).mpr ?_)
  unfold S113
  refine (c62 w n).use fun w1 e1 => ⟨_, rfl, ?_⟩
  refine ifB_ne (fun h => ⟨?_, e1⟩) fun h => ?_
  · rw [pgS, if_neg h]
  have h8 := ofS_8 h
  refine loop_rule (fun i : Nat => ((i : Int), ())) (fun i w' => w' = w1 ∧ (i : Int) ≤ pgS n) (fun i => 64 - i) 0 rfl ⟨rfl, (pgS_rng n).1⟩ ?_
  have hp : pgS n = (n + 63) / 64 := by rw [pgS, if_pos h]
  rw [hp]
  rintro i w' K ⟨rfl, hi⟩ hK
  show ifB (decide (IntKind.i64.wrap ((i : Int) * 64) < n)) _ _
  rw [wrap_id (by omega) (by omega)]
  refine ifB_d (fun h2 => ?_) fun h2 => ⟨?_, e1⟩
  · show K (IntKind.i64.wrap ((i : Int) + 1), ()) w'
    rw [wrap_id (by omega) (by omega)]
    exact hK (i + 1) w' ⟨rfl, by omega⟩ (by omega)
  · show I (i : Int) = I ((n + 63) / 64)
    rw [show (i : Int) = (n + 63) / 64 by omega]

theorem c117 (w : World) (c i : Int) (hi : i < 1000000) : RetE PR 117 [I c, I i] w (I (stS c i)) := by
  refine Ret.of ((S117_eq c i w _).mpr ?_)
  unfold S117 stS
  refine ifB_d (fun h => ⟨by rw [if_pos h], kp0⟩) fun h => ?_
  refine (c116 w c).use fun w1 e1 => ⟨_, rfl, ?_⟩
  refine ifB_d (fun h' => ⟨by rw [if_neg h, if_pos h'], e1⟩) fun h' => ?_
  refine (c115 w1 c).use fun w2 e2 => ⟨_, rfl, ?_, e1.trans e2⟩
  rw [if_neg h, if_neg h', wrap_id]
  all_goals
    by_cases hc : 0 ≤ c ∧ c < 8
    · obtain ⟨k, rfl⟩ : ∃ k : Nat, c = k := ⟨c.toNat, by omega⟩
      have hk : k < 8 := by omega
      obtain ⟨h1, h2, h3, h4, h5, h6, h7⟩ := wdN_pos hk
      rw [wdS_nat hk]
      have : 0 ≤ i * (wdN k : Int) := Int.mul_nonneg (by omega) (by omega)
      have : i * (wdN k : Int) ≤ 1000000 * 32 := Int.mul_le_mul (by omega) (by omega) (by omega) (by omega)
      omega
    · rw [wdS, if_neg hc]; omega

theorem c93 (w : World) (n : Int) : RetE PR 93 [I n] w (I (roomS n)) := by
  refine Ret.of ((S93_eq n w _).mpr ?_)
  unfold S93 roomS
  refine (c113 w n).use fun w1 e1 => ⟨_, rfl, ?_⟩
  have := pgS_rng n
  refine ifB_d (fun h => ?_) fun h => ?_
  · refine (c113 w1 n).use fun w2 e2 => ⟨_, rfl, ?_, e1.trans e2⟩
    rw [if_pos h, wrap_id (by omega) (by omega)]
  · refine (c62 w1 n).use fun w2 e2 => ⟨_, rfl, ?_⟩
    refine (c115 w2 _).use fun w3 e3 => ⟨_, rfl, ?_, (e1.trans e2).trans e3⟩
    rw [if_neg h]
end Go.Wx
end
section
/- Contracts of the functions of numbers alone, second part: links, headers, layouts. -/
set_option linter.unusedVariables false
set_option maxRecDepth 100000
namespace Go.Wx
open Go

/-- An int of 64 bits. -/
def In64 (x : Int) : Prop := -9223372036854775808 ≤ x ∧ x < 9223372036854775808
theorem wrap_in {x : Int} (h : In64 x) : IntKind.i64.wrap x = x := wrap_id h.1 h.2
theorem wrap_umod (x : Int) : IntKind.u64.wrap x = x % 18446744073709551616 := by
  simp [IntKind.wrap, IntKind.signed, IntKind.bits]

theorem or_add (a b k : Nat) (h : b < 2 ^ k) : (a * 2 ^ k) ||| b = a * 2 ^ k + b := by
  rw [Nat.mul_comm, ← Nat.two_pow_add_eq_or_of_lt h]

/-! Links -/
def lkS (n : Int) : Int := n * 8 + 4
theorem bv_neg8 : (BitVec.ofInt 64 (-8) ||| BitVec.ofInt 64 4).toNat = 18446744073709551612 := by decide
theorem c135 (w : World) (n : Int) (h1 : -1 ≤ n) (h2 : n < 262144) : RetE PR 135 [I n] w (I (lkS n)) := by
  refine Ret.of ((S135_eq n w _).mpr ?_)
  unfold S135
  refine ifB_d (fun h => by omega) fun h => ifB_d (fun h' => by omega) fun h' => ⟨?_, kp0⟩
  rw [wrap_id (x := n * 8) (by omega) (by omega)]
  by_cases hn : n = -1
  · subst hn; rfl
  · obtain ⟨m, rfl⟩ : ∃ m : Nat, n = m := ⟨n.toNat, by omega⟩
    rw [show ((m : Int) * 8) = ((m * 8 : Nat) : Int) by simp, show (4 : Int) = ((4 : Nat) : Int) from rfl, bv_or (by omega) (by omega), or_add m 4 3 (by omega), wrap_id (by omega) (by omega)]
    simp [lkS]
theorem c63 (w : World) (n : Int) (h1 : -1 ≤ n) (h2 : n < 262144) : RetE PR 63 [I n] w (I (lkS n)) := by
  refine Ret.of ((S63_eq n w _).mpr ?_)
  unfold S63
  rw [wrap_id (x := n * 8) (by omega) (by omega), wrap_id (by omega) (by omega)]
  exact ⟨rfl, kp0⟩

/-! Headers -/
def hdS (at_ kind size : Int) : Int :=
  if 0 ≤ at_ ∧ at_ < 262144 ∧ 1 ≤ kind ∧ kind ≤ 31 ∧ 1 ≤ size ∧ size ≤ 1024 then
    (kind + size * 32 + (at_ * 65536 + kind * 2048 + size) * 10872568911861 % 17592186044416 * 65536) * 8 + 5
  else 0

theorem c56 (w : World) (a k s : Int) : RetE PR 56 [I a, I k, I s] w (I (hdS a k s)) := by
  refine Ret.of ((S56_eq a k s w _).mpr ?_)
  unfold S56
  refine join_two ?_
  refine ifB_d (fun h => ⟨by rw [hdS, if_neg (by omega)], kp0⟩) fun h1 => ifB_d (fun h => ⟨by rw [hdS, if_neg (by omega)], kp0⟩) fun h2 => ifB_d (fun h => ⟨by rw [hdS, if_neg (by omega)], kp0⟩) fun h3 =>
    ifB_d (fun h => ⟨by rw [hdS, if_neg (by omega)], kp0⟩) fun h4 => ifB_d (fun h => ⟨by rw [hdS, if_neg (by omega)], kp0⟩) fun h5 => ifB_d (fun h => ⟨by rw [hdS, if_neg (by omega)], kp0⟩) fun h6 => ⟨?_, kp0⟩
  rw [hdS, if_pos (by omega)]
  obtain ⟨a, rfl⟩ : ∃ m : Nat, a = m := ⟨a.toNat, by omega⟩
  obtain ⟨k, rfl⟩ : ∃ m : Nat, k = m := ⟨k.toNat, by omega⟩
  obtain ⟨s, rfl⟩ : ∃ m : Nat, s = m := ⟨s.toNat, by omega⟩
  rw [wrap_u (x := (a : Int)) (by omega) (by omega), wrap_u (x := (k : Int)) (by omega) (by omega), wrap_u (x := (s : Int)) (by omega) (by omega),
    wrap_u (x := (a : Int) * 65536) (by omega) (by omega), wrap_u (x := (k : Int) * 2048) (by omega) (by omega), wrap_u (x := (s : Int) * 32) (by omega) (by omega),
    show ((a : Int) * 65536) = ((a * 65536 : Nat) : Int) by simp, show ((k : Int) * 2048) = ((k * 2048 : Nat) : Int) by simp, show ((s : Int) * 32) = ((s * 32 : Nat) : Int) by simp,
    bv_or (by omega) (by omega), or_add a (k * 2048) 16 (by omega), wrap_u (x := ((a * 2 ^ 16 + k * 2048 : Nat) : Int)) (by omega) (by omega), wrap_u (x := ((a * 2 ^ 16 + k * 2048 : Nat) : Int) + s) (by omega) (by omega)]
  have hx : ((a * 2 ^ 16 + k * 2048 : Nat) : Int) + s = ((a * 65536 + k * 2048 + s : Nat) : Int) := by simp
  rw [hx]
  have hX : a * 65536 + k * 2048 + s < 17179936000 := by omega
  have hg : ((a : Int) * 65536 + (k : Int) * 2048 + (s : Int)) = ((a * 65536 + k * 2048 + s : Nat) : Int) := by simp
  rw [show (((a * 65536 : Nat) : Int) + ((k * 2048 : Nat) : Int) + (s : Int)) = ((a * 65536 + k * 2048 + s : Nat) : Int) by simp]
  obtain ⟨X, hXX⟩ : ∃ X, X = a * 65536 + k * 2048 + s := ⟨_, rfl⟩
  rw [← hXX] at hX hg ⊢
  clear hx
  have e1 : ((X : Int) * 10872568911861) % 18446744073709551616 = ((X * 10872568911861 % 18446744073709551616 : Nat) : Int) := by simp
  have e2 : ((X : Int) * 10872568911861) % 17592186044416 = ((X * 10872568911861 % 17592186044416 : Nat) : Int) := by simp
  rw [wrap_umod ((X : Int) * 10872568911861), e1, e2, show (17592186044415 : Int) = ((17592186044415 : Nat) : Int) from rfl, bv_and (Nat.mod_lt _ (by omega)) (by omega)]
  have e3 : X * 10872568911861 % 18446744073709551616 &&& 17592186044415 = X * 10872568911861 % 17592186044416 := by
    have := Nat.and_two_pow_sub_one_eq_mod (X * 10872568911861 % 18446744073709551616) 44
    simp only [Nat.reducePow, Nat.reduceSub] at this
    rw [this]
    omega
  rw [e3]
  have hY : X * 10872568911861 % 17592186044416 < 17592186044416 := Nat.mod_lt _ (by omega)
  obtain ⟨Y, hYY⟩ : ∃ Y, Y = X * 10872568911861 % 17592186044416 := ⟨_, rfl⟩
  rw [← hYY] at hY ⊢
  clear e1 e2 e3 hg hYY
  rw [wrap_u (x := (Y : Int)) (by omega) (by omega), wrap_u (x := (Y : Int) * 65536) (by omega) (by omega), show ((Y : Int) * 65536) = ((Y * 65536 : Nat) : Int) by simp,
    bv_or (by omega) (by omega), or_add Y (s * 32) 16 (by omega), wrap_u (x := ((Y * 2 ^ 16 + s * 32 : Nat) : Int)) (by omega) (by omega),
    bv_or (by omega) (by omega), show Y * 2 ^ 16 + s * 32 = (Y * 2048 + s) * 2 ^ 5 by omega, or_add (Y * 2048 + s) k 5 (by omega), wrap_u (x := (((Y * 2048 + s) * 2 ^ 5 + k : Nat) : Int)) (by omega) (by omega),
    wrap_u (x := (((Y * 2048 + s) * 2 ^ 5 + k : Nat) : Int) * 8) (by omega) (by omega), show ((((Y * 2048 + s) * 2 ^ 5 + k : Nat) : Int) * 8) = ((((Y * 2048 + s) * 2 ^ 5 + k) * 2 ^ 3 : Nat) : Int) by simp,
    show (5 : Int) = ((5 : Nat) : Int) from rfl, bv_or (by omega) (by omega), or_add _ 5 3 (by omega), wrap_u (by omega) (by omega), wrap_id (by omega) (by omega)]
  show Value.int .i64 _ = Value.int .i64 _
  rw [show ∀ a b : Int, a = b → Value.int .i64 a = Value.int .i64 b from fun _ _ h => h ▸ rfl]
  simp only [Nat.reducePow]
  omega

theorem c143 (w : World) (x : Nat) (hx : x < 17592186044416) : RetE PR 143 [I x] w (I ((x * 10872568911861 % 17592186044416 : Nat) : Int)) := by
  refine Ret.of ((S143_eq x w _).mpr ?_)
  unfold S143
  refine loop_rule (fun p : Nat × Nat × Nat => ((p.1 : Int), (p.2.1 : Int), (p.2.2 : Int), ())) (fun p w' => w' = w ∧ p.1 < 17592186044416 ∧ p.2.1 < 17592186044416 ∧ p.2.2 < 17592186044416 ∧ (p.2.1 + p.1 * p.2.2) % 17592186044416 = x * 10872568911861 % 17592186044416) (fun p => p.1) (x, 0, 10872568911861) rfl ⟨rfl, hx, by show 0 < _; omega, by show 10872568911861 < _; omega, by simp⟩ ?_
  rintro ⟨x', s, d⟩ w' K ⟨rfl, h1, h2, h3, h4⟩ hK
  simp only at h1 h2 h3 h4 ⊢
  refine ifB_d (fun h => ?_) fun h => ⟨?_, kp0⟩
  · have hdiv : IntKind.i64.wrap (Int.tdiv (x' : Int) 2) = ((x' / 2 : Nat) : Int) := by
      rw [Int.tdiv_eq_ediv_of_nonneg (by omega), wrap_id (by omega) (by omega)]; simp
    have hdd : (IntKind.i64.wrap ((d : Int) + (d : Int))).tmod 17592186044416 = ((d + d) % 17592186044416 : Nat) := by
      rw [wrap_id (by omega) (by omega), Int.tmod_eq_emod_of_nonneg (by omega)]; simp
    have hsd : (IntKind.i64.wrap ((s : Int) + (d : Int))).tmod 17592186044416 = ((s + d) % 17592186044416 : Nat) := by
      rw [wrap_id (by omega) (by omega), Int.tmod_eq_emod_of_nonneg (by omega)]; simp
    have hm : Int.tmod (x' : Int) 2 = ((x' % 2 : Nat) : Int) := by rw [Int.tmod_eq_emod_of_nonneg (by omega)]; simp
    have key : ∀ s' : Nat, s' < 17592186044416 → s' % 17592186044416 = (s + (x' % 2) * d) % 17592186044416 → (s' + x' / 2 * ((d + d) % 17592186044416)) % 17592186044416 = x * 10872568911861 % 17592186044416 := by
      intro s' _ he
      have e1 : (s' + x' / 2 * ((d + d) % 17592186044416)) % 17592186044416 = (s' + x' / 2 * (d + d)) % 17592186044416 := by
        rw [Nat.add_mod, Nat.mul_mod, Nat.mod_mod, ← Nat.mul_mod, ← Nat.add_mod]
      rw [e1, Nat.add_mod, he, ← Nat.add_mod, ← h4]
      congr 1
      have : x' * d = (x' % 2) * d + x' / 2 * (d + d) := by
        have h := Nat.div_add_mod x' 2
        calc x' * d = (2 * (x' / 2) + x' % 2) * d := by rw [h]
          _ = (x' % 2) * d + x' / 2 * (d + d) := by rw [Nat.add_mul, Nat.mul_comm 2, Nat.mul_assoc, Nat.two_mul]; omega
      omega
    refine join_two ?_
    rw [hm, hdiv, hdd, hsd]
    refine ifB_eq (fun h5 => ?_) fun h5 => ?_
    · refine hK (x' / 2, (s + d) % 17592186044416, (d + d) % 17592186044416) w' ⟨rfl, by omega, Nat.mod_lt _ (by omega), Nat.mod_lt _ (by omega), ?_⟩ (by simp; omega)
      have : x' % 2 = 1 := by omega
      exact key _ (Nat.mod_lt _ (by omega)) (by rw [this, Nat.one_mul, Nat.mod_mod])
    · refine hK (x' / 2, s, (d + d) % 17592186044416) w' ⟨rfl, by omega, h2, Nat.mod_lt _ (by omega), ?_⟩ (by simp; omega)
      have : x' % 2 = 0 := by omega
      exact key _ h2 (by rw [this, Nat.zero_mul, Nat.add_zero])
  · have : x' = 0 := by omega
    subst this
    rw [← h4]
    simp only [Nat.zero_mul, Nat.add_zero, Nat.mod_eq_of_lt h2]

theorem c142 (w : World) (a k s : Int) : RetE PR 142 [I a, I k, I s] w (.bool (decide (0 ≤ a ∧ a < 262144 ∧ 1 ≤ k ∧ k ≤ 31 ∧ 1 ≤ s ∧ s ≤ 1024))) := by
  refine Ret.of ((S142_eq a k s w _).mpr ?_)
  unfold S142
  refine ifB_d (fun h1 => ifB_d (fun h2 => ifB_d (fun h3 => ifB_d (fun h4 => ifB_d (fun h5 => ⟨?_, kp0⟩) fun h => ⟨?_, kp0⟩) fun h => ⟨?_, kp0⟩) fun h => ⟨?_, kp0⟩) fun h => ⟨?_, kp0⟩) fun h => ⟨?_, kp0⟩
  all_goals congr 1
  all_goals first
    | (symm; rw [decide_eq_false_iff_not]; omega)
    | (rw [decide_eq_decide]; omega)

theorem c120 (w : World) (a k s : Int) : RetE PR 120 [I a, I k, I s] w (I (hdS a k s)) := by
  refine Ret.of ((S120_eq a k s w _).mpr ?_)
  unfold S120
  refine (c142 w a k s).use fun w1 e1 => ⟨_, rfl, ?_⟩
  refine ifB_nb (fun h => ⟨?_, e1⟩) fun h => ?_
  · rw [hdS, if_neg (of_decide_eq_false h)]
  · have h := of_decide_eq_true h
    rw [hdS, if_pos h]
    obtain ⟨a, rfl⟩ : ∃ m : Nat, a = m := ⟨a.toNat, by omega⟩
    obtain ⟨k, rfl⟩ : ∃ m : Nat, k = m := ⟨k.toNat, by omega⟩
    obtain ⟨s, rfl⟩ : ∃ m : Nat, s = m := ⟨s.toNat, by omega⟩
    have hx : IntKind.i64.wrap (IntKind.i64.wrap (IntKind.i64.wrap ((a : Int) * 65536) + IntKind.i64.wrap ((k : Int) * 2048)) + s) = ((a * 65536 + k * 2048 + s : Nat) : Int) := by
      rw [wrap_id (x := (a : Int) * 65536) (by omega) (by omega), wrap_id (x := (k : Int) * 2048) (by omega) (by omega), wrap_id (x := (a : Int) * 65536 + k * 2048) (by omega) (by omega), wrap_id (by omega) (by omega)]
      simp
    rw [hx]
    refine (c143 w1 _ (by omega)).use fun w2 e2 => ⟨_, rfl, ?_, e1.trans e2⟩
    rw [show (((a : Int) * 65536 + (k : Int) * 2048 + (s : Int)) * 10872568911861 % 17592186044416) = (((a * 65536 + k * 2048 + s) * 10872568911861 % 17592186044416 : Nat) : Int) by simp]
    have hY : (a * 65536 + k * 2048 + s) * 10872568911861 % 17592186044416 < 17592186044416 := Nat.mod_lt _ (by omega)
    obtain ⟨Y, hYY⟩ : ∃ Y, Y = (a * 65536 + k * 2048 + s) * 10872568911861 % 17592186044416 := ⟨_, rfl⟩
    rw [← hYY] at hY ⊢
    clear hYY
    rw [wrap_id (x := (s : Int) * 32) (by omega) (by omega), wrap_id (x := (k : Int) + s * 32) (by omega) (by omega), wrap_id (x := (Y : Int) * 65536) (by omega) (by omega), wrap_id (x := (k : Int) + s * 32 + Y * 65536) (by omega) (by omega), wrap_id (x := ((k : Int) + s * 32 + Y * 65536) * 8) (by omega) (by omega), wrap_id (by omega) (by omega)]

/-! Layouts -/
def headS (n : Int) : Bool := decide (n = 4 ∨ n = 8 ∨ n = 16 ∨ n = 32 ∨ n = 64 ∨ n = 128 ∨ n = 256 ∨ n = 512)
def shB (k : Int) : Int := if k = 2 ∨ k = 5 ∨ k = 7 then 2 else if k = 1 ∨ k = 8 ∨ k = 9 ∨ k = 10 then 3 else if k = 13 then 4 else if k = 4 then 2 else if k = 11 then 5 else if k = 3 then 1 else if k = 6 then 1 else if k = 12 then 1 else 0
def shM (k : Int) : Int := if k = 4 then 4096 else if k = 11 then 128 else if k = 3 then 1023 else if k = 6 then 64 else if k = 12 then 512 else 0
def fitS (k n : Int) : Bool := decide (shB k > 0 ∧ n ≥ shB k ∧ n - shB k ≤ (if k = 4 then 512 else shM k) ∧ (k = 12 → headS (n - shB k) = true))
def numS (k : Int) : Bool := decide (1 ≤ k ∧ k ≤ 11)

theorem c101 (w : World) (k : Int) : RetE PR 101 [I k] w (.tuple (Array.mk [I (shB k), I (shM k)])) := by
  refine Ret.of ((S101_eq k w _).mpr ?_)
  unfold S101
  have fin : ∀ {a b : Int}, a = shB k → b = shM k → (Value.tuple (Array.mk [I a, I b]) = .tuple (Array.mk [I (shB k), I (shM k)]) ∧ Kp w w) := by rintro _ _ rfl rfl; exact ⟨rfl, kp0⟩
  refine ⟨fun s w' => w' = w ∧ s = (decide (k = 2 ∨ k = 5 ∨ k = 7), ()), ?_, ifB_eq (fun h => ⟨rfl, by simp [h]⟩) fun h => ifB_eq (fun h => ⟨rfl, by simp [h]⟩) fun h' => ⟨rfl, by simp [h, h']; rfl⟩⟩
  rintro s w' ⟨rfl, rfl⟩
  refine ifB_d (fun h => fin (by rw [shB, if_pos h]) (by unfold shM; repeat' split <;> omega)) fun h => ?_
  refine ⟨fun s w'' => w'' = w' ∧ s = (decide (k = 1 ∨ k = 8 ∨ k = 9 ∨ k = 10), ()), ?_, ifB_eq (fun h => ⟨rfl, by simp [h]⟩) fun h => ifB_eq (fun h => ⟨rfl, by simp [h]⟩) fun h' => ifB_eq (fun h => ⟨rfl, by simp [h]⟩) fun h'' => ⟨rfl, by simp [h, h', h'']; rfl⟩⟩
  rintro s w'' ⟨rfl, rfl⟩
  refine ifB_d (fun h2 => fin (by rw [shB, if_neg h, if_pos h2]) (by unfold shM; repeat' split <;> omega)) fun h2 => ?_
  refine ifB_eq (fun h3 => fin ?_ ?_) fun h3 => ifB_eq (fun h4 => fin ?_ ?_) fun h4 => ifB_eq (fun h5 => fin ?_ ?_) fun h5 => ifB_eq (fun h6 => fin ?_ ?_) fun h6 => ifB_eq (fun h7 => fin ?_ ?_) fun h7 => ifB_eq (fun h8 => fin ?_ ?_) fun h8 => fin ?_ ?_
  all_goals simp [shB, shM, *]
  all_goals subst_vars
  all_goals simp

theorem head_tab : ∀ m : Fin 513, 4 ≤ m.val → (IntKind.i64.wrap (↑(BitVec.ofInt 64 (m.val : Int) &&& BitVec.ofInt 64 (IntKind.i64.wrap ((m.val : Int) - 1))).toNat : Int) == 0) = headS (m.val : Int) := by decide +kernel
theorem c102 (w : World) (n : Int) : RetE PR 102 [I n] w (.bool (headS n)) := by
  refine Ret.of ((S102_eq n w _).mpr ?_)
  unfold S102
  refine ifB_d (fun h1 => ifB_d (fun h2 => ⟨?_, kp0⟩) fun h => ⟨?_, kp0⟩) fun h => ⟨?_, kp0⟩
  · obtain ⟨m, rfl⟩ : ∃ m : Nat, n = m := ⟨n.toNat, by omega⟩
    rw [head_tab ⟨m, by omega⟩ (by show 4 ≤ m; omega)]
  · congr 1; symm; rw [headS, decide_eq_false_iff_not]; omega
  · congr 1; symm; rw [headS, decide_eq_false_iff_not]; omega

theorem shB_rng (k : Int) : 0 ≤ shB k ∧ shB k ≤ 5 := by unfold shB; repeat' split <;> omega
theorem shM_rng (k : Int) : 0 ≤ shM k ∧ shM k ≤ 4096 := by unfold shM; repeat' split <;> omega

theorem c53 (w : World) (k n : Int) (hn : In64 n) : RetE PR 53 [I k, I n] w (.bool (fitS k n)) := by
  refine Ret.of ((S53_eq k n w _).mpr ?_)
  unfold S53
  refine (c101 w k).use fun w1 e1 => ⟨_, _, rfl, ?_⟩
  have hb := shB_rng k
  have hm := shM_rng k
  have hn2 := hn.2
  refine ⟨fun s w' => w' = w1 ∧ s = ((if k = 4 then 512 else shM k), ()), ?_, ifB_eq (fun h => ⟨rfl, ?_⟩) fun h => ⟨rfl, by rw [if_neg h]⟩⟩
  · rintro s w' ⟨rfl, rfl⟩
    refine ifB_d (fun h1 => ifB_d (fun h2 => ?_) fun h => ⟨?_, e1⟩) fun h => ⟨?_, e1⟩
    · rw [wrap_id (x := n - shB k) (by omega) (by omega)]
      refine ifB_d (fun h3 => ifB_ne (fun h4 => ⟨?_, e1⟩) fun h4 => ?_) fun h => ⟨?_, e1⟩
      · congr 1; symm; rw [fitS, decide_eq_true_iff]; exact ⟨h1, h2, h3, fun h => absurd h h4⟩
      · refine (c102 w' _).use fun w2 e2 => ⟨_, rfl, ?_, e1.trans e2⟩
        congr 1
        rw [fitS]
        cases hh : headS (n - shB k) with
        | true => symm; rw [decide_eq_true_iff]; exact ⟨h1, h2, h3, fun _ => rfl⟩
        | false => symm; rw [decide_eq_false_iff_not]; rintro ⟨_, _, _, h⟩; exact absurd (h h4) (by simp)
      · congr 1; symm; rw [fitS, decide_eq_false_iff_not]; rintro ⟨_, _, h', _⟩; exact h h'
    · congr 1; symm; rw [fitS, decide_eq_false_iff_not]; rintro ⟨_, h', _⟩; exact h h'
    · congr 1; symm; rw [fitS, decide_eq_false_iff_not]; rintro ⟨h', _⟩; exact h h'
  · subst h; rfl

theorem c106 (w : World) (k : Int) : RetE PR 106 [I k] w (.bool (decide (1 ≤ k ∧ k ≤ 10))) := by
  refine Ret.of ((S106_eq k w _).mpr ?_)
  unfold S106
  refine ifB_d (fun h1 => ⟨?_, kp0⟩) fun h => ⟨?_, kp0⟩
  · congr 1; rw [decide_eq_decide]; omega
  · congr 1; symm; rw [decide_eq_false_iff_not]; omega
theorem c57 (w : World) (k : Int) : RetE PR 57 [I k] w (.bool (numS k)) := by
  refine Ret.of ((S57_eq k w _).mpr ?_)
  unfold S57
  refine (c106 w k).use fun w1 e1 => ⟨_, rfl, ?_⟩
  refine ifB_d (fun h1 => ⟨?_, e1⟩) fun h => ⟨?_, e1⟩
  · congr 1; symm; rw [numS, decide_eq_true_iff]; omega
  · congr 1; rw [numS, show (k == 11) = decide (k = 11) from rfl, decide_eq_decide]; omega
theorem c118 (w : World) (k : Int) : RetE PR 118 [I k] w (.bool (numS k)) := by
  refine Ret.of ((S118_eq k w _).mpr ?_)
  unfold S118
  refine ifB_d (fun h1 => ⟨?_, kp0⟩) fun h => ⟨?_, kp0⟩
  · congr 1; rw [numS, decide_eq_decide]; omega
  · congr 1; symm; rw [numS, decide_eq_false_iff_not]; omega

/-! The reference's layouts -/
def kN : Nat → Nat
  | 0 => 4 | 1 => 8 | 2 => 16 | 3 => 32 | 4 => 64 | 5 => 128 | 6 => 256 | 7 => 512 | _ => 0
theorem c108 (w : World) (n : Int) : RetE PR 108 [I n] w (.bool (headS n)) := by
  refine Ret.of ((S108_eq n w _).mpr ?_)
  unfold S108
  refine loop_rule (fun i : Nat => ((kN i : Int), ())) (fun i w' => w' = w ∧ i < 8 ∧ (i = 0 ∨ ((kN (i - 1) : Nat) : Int) < n)) (fun i => 8 - i) 0 rfl ⟨rfl, by omega, .inl rfl⟩ ?_
  rintro i w' K ⟨rfl, hi, hlt⟩ hK
  refine ifB_d (fun h1 => ifB_d (fun h2 => ?_) fun h => ⟨?_, kp0⟩) fun h => ⟨?_, kp0⟩
  · have hi7 : i < 7 := by
      rcases lt8 hi with rfl | rfl | rfl | rfl | rfl | rfl | rfl | rfl <;> first | omega | (simp [kN] at h2)
    have := hK (i + 1) w' ⟨rfl, by omega, .inr h1⟩ (by omega)
    rcases lt8 hi with rfl | rfl | rfl | rfl | rfl | rfl | rfl | rfl <;> first | exact this | omega
  · congr 1
    rw [headS, show (((kN i : Nat) : Int) == n) = decide (((kN i : Nat) : Int) = n) from rfl, decide_eq_decide]
    rcases lt8 hi with rfl | rfl | rfl | rfl | rfl | rfl | rfl | rfl <;> simp only [kN] at h h1 ⊢ <;> omega
  · congr 1
    rw [headS, show (((kN i : Nat) : Int) == n) = decide (((kN i : Nat) : Int) = n) from rfl, decide_eq_decide]
    rcases lt8 hi with rfl | rfl | rfl | rfl | rfl | rfl | rfl | rfl <;> simp [kN] at h hlt ⊢ <;> omega

/-- A row: how many first words, the role of the rest, the least, the most, how many make a word. -/
def rowL' (k : Int) : Nat := if k = 1 then 2 else if k = 2 then 1 else if k = 3 then 0 else if k = 4 then 1 else if k = 5 then 1 else if k = 6 then 0 else if k = 7 then 1 else if k = 8 then 2 else if k = 9 then 2 else if k = 10 then 2 else if k = 11 then 4 else if k = 12 then 0 else 3
def rowR (k : Int) : Int := if k = 3 then 2 else if k = 4 then 1 else if k = 6 then 2 else if k = 11 then 2 else if k = 12 then 9 else 0
def rowI (k : Int) : Int := if k = 12 then 4 else 0
def rowP (k : Int) : Int := if k = 3 then 1 else if k = 4 then 8 else if k = 6 then 1 else if k = 11 then 1 else if k = 12 then 1 else 0

theorem c109 (w : World) (k : Int) : Ret PR 109 [I k] w fun v w' => (∃ a c, v = .agg (Array.mk [.slice a (rowL' k) c, I (rowR k), I (rowI k), I (shM k), I (rowP k)])) ∧ Kp w w' := by
  refine Ret.of ((S109_eq k w _).mpr ?_)
  unfold S109
  refine atW_new fun w1 n1 => ?_
  have one : ∀ {w2 : World} {b : Nat} {cs : List Value} {t : TypeId} {a : Option Addr} {l c : Nat} {x1 x2 x3 x4 : Int} {R : Value → World → Prop}, w2.heap[w.heap.size]? = some (Bl [.slice none 0 0, I 0, I 0, I 0, I 0] t) → Kp w w2 →
      l = rowL' k → x1 = rowR k → x2 = rowI k → x3 = shM k → x4 = rowP k →
      (∀ v w', ((∃ a c, v = .agg (Array.mk [.slice a (rowL' k) c, I (rowR k), I (rowI k), I (shM k), I (rowP k)])) ∧ Kp w w') → R v w') →
      stx w2 (Addr.mk w.heap.size 0 none) [.slice a l c, I x1, I x2, I x3, I x4] 0 fun w' =>
        ∃ a l c, w'.cell? ((Addr.mk w.heap.size 0 none).add 0) = some (Value.slice a l c) ∧ ∃ n, w'.cell? ((Addr.mk w.heap.size 0 none).add 1) = some (Value.int IntKind.i64 n) ∧ ∃ n_1, w'.cell? ((Addr.mk w.heap.size 0 none).add 2) = some (Value.int IntKind.i64 n_1) ∧
          ∃ n_2, w'.cell? ((Addr.mk w.heap.size 0 none).add 3) = some (Value.int IntKind.i64 n_2) ∧ ∃ n_3, w'.cell? ((Addr.mk w.heap.size 0 none).add 4) = some (Value.int IntKind.i64 n_3) ∧ R (.agg (Array.mk [.slice a l c, I n, I n_1, I n_2, I n_3])) w' := by
    rintro w2 b cs t a l c x1 x2 x3 x4 R h2 e2 rfl rfl rfl rfl rfl hR
    refine stx_at _ h2 (by simp) rfl fun w3 p3 => ⟨_, _, _, cell_of p3.at0 0, _, cell_of p3.at0 1, _, cell_of p3.at0 2, _, cell_of p3.at0 3, _, cell_of p3.at0 4, hR _ _ ⟨⟨_, _, rfl⟩, ?_⟩⟩
    exact Upd.tr e2 p3.upd (fun b hb => .inr (by simp only [Go.Wx.one] at hb; omega))
  refine ifB_eq (fun h => ?_) fun h1 => ifB_eq (fun h => ?_) fun h2 => ifB_eq (fun h => ?_) fun h3 => ifB_eq (fun h => ?_) fun h4 => ifB_eq (fun h => ?_) fun h5 => ifB_eq (fun h => ?_) fun h6 => ifB_eq (fun h => ?_) fun h7 => ifB_eq (fun h => ?_) fun h8 =>
    ifB_eq (fun h => ?_) fun h9 => ifB_eq (fun h => ?_) fun h10 => ifB_eq (fun h => ?_) fun h11 => ifB_eq (fun h => ?_) fun h12 => ?_
  all_goals first
    | (refine one (b := 0) (cs := []) n1.at0 n1.ext ?_ ?_ ?_ ?_ ?_ fun v w' h => h <;> first | (subst h; rfl) | simp [rowL', rowR, rowI, rowP, shM, *])
    | (refine atW_new fun w2 n2 => ?_
       refine one (b := 0) (cs := []) (n2.ext.at n1.at0) (n1.ext.trans n2.ext) ?_ ?_ ?_ ?_ ?_ fun v w' h => h <;> first | (subst h; rfl) | simp [rowL', rowR, rowI, rowP, shM, *])
end Go.Wx
end
section
/- Contracts of the functions of numbers alone, third part: the reference's layouts; small things of the law. -/
set_option linter.unusedVariables false
set_option maxRecDepth 100000
namespace Go.Wx
open Go

def szS (k n : Int) : Int := 1 + rowL' k + (if rowR k > 0 then (if rowP k = 8 then (n + 7) / 8 else n) else 0)
theorem rowL'_le (k : Int) : rowL' k ≤ 4 := by unfold rowL'; (repeat' split) <;> omega
theorem rowP_or {k : Int} (h : rowR k > 0) : rowP k = 1 ∨ rowP k = 8 := by
  unfold rowR at h; unfold rowP; repeat' split at h <;> first | omega | simp_all

theorem c110 (w : World) (k n : Int) (h1 : 1 ≤ k) (h2 : k ≤ 13) (h3 : rowI k ≤ n) (h4 : n ≤ shM k) (h5 : k = 12 → headS n = true) : RetE PR 110 [I k, I n] w (.tuple (Array.mk [I (szS k n), .bool true])) := by
  refine Ret.of ((S110_eq k n w _).mpr ?_)
  unfold S110
  refine join_two (ifB_d (fun h => by omega) fun h => ifB_d (fun h' => by omega) fun h' => ?_)
  refine (c109 w k).use ?_
  rintro _ w1 ⟨⟨a, c, rfl⟩, e1⟩
  refine ⟨_, _, _, _, _, _, _, rfl, ?_⟩
  refine atW_new fun w2 n2 => stx_at _ n2.at0 (by simp) rfl fun w3 p3 => ?_
  have e3 : Kp w w3 := (e1.trans n2.ext).tr p3.upd fun b hb => .inr (by simp only [one] at hb; have := e1.sz; omega)
  have hm := shM_rng k
  have hn0 : 0 ≤ n := by
    have : 0 ≤ rowI k := by unfold rowI; split <;> omega
    omega
  refine ⟨fun s w' => s = (0, false, ()) ∧ Kp w3 w', ?_, ?_⟩
  · rintro s w' ⟨rfl, e4⟩
    have h := e4.at p3.at0
    refine ⟨_, _, _, cell_of h 0, _, cell_of h 1, ?_⟩
    have hl := rowL'_le k
    refine ifB_d (fun hr => ?_) fun hr => ⟨?_, e3.trans e4⟩
    · rw [wrap_id (x := 1 + (rowL' k : Int)) (by omega) (by omega)]
      have hp := rowP_or hr
      refine loop_rule (fun j : Nat => (1 + (rowL' k : Int) + j, (j : Int) * rowP k, ())) (fun j w'' => w'' = w' ∧ ((j : Int) - 1) * rowP k < n ∨ w'' = w' ∧ j = 0) (fun j => 5000 - j) 0 (by simp) (.inr ⟨rfl, rfl⟩) ?_
      intro j w'' K hj hK
      have hw : w'' = w' := by rcases hj with h | h <;> exact h.1
      have hj' : ((j : Int) - 1) * rowP k < n ∨ j = 0 := by rcases hj with h | h; exact .inl h.2; exact .inr h.2
      subst hw
      refine ifB_d (fun hlt => ⟨_, cell_of h 4, ?_⟩) fun hlt => ⟨?_, e3.trans e4⟩
      · show K (IntKind.i64.wrap (1 + (rowL' k : Int) + j + 1), IntKind.i64.wrap ((j : Int) * rowP k + rowP k), ()) w''
        have hjb : (j : Int) * rowP k < n := hlt
        have hjn : (j : Int) < 4096 := by rcases hp with hp | hp <;> rw [hp] at hjb <;> omega
        have := hK (j + 1) w'' (.inl ⟨rfl, by simpa using hlt⟩) (by omega)
        rw [wrap_id (by omega) (by omega), wrap_id (by rcases hp with hp | hp <;> rw [hp] <;> omega) (by rcases hp with hp | hp <;> rw [hp] <;> omega)]
        simp only [Int.natCast_add, Int.cast_ofNat_Int] at this
        rw [show 1 + (rowL' k : Int) + (j : Int) + 1 = 1 + (rowL' k : Int) + ((j : Int) + 1) by omega, show (j : Int) * rowP k + rowP k = ((j : Int) + 1) * rowP k by rw [Int.add_mul]; omega]
        exact this
      · have hlt : ¬ (j : Int) * rowP k < n := hlt
        show Value.tuple (Array.mk [I (1 + (rowL' k : Int) + j), .bool true]) = .tuple (Array.mk [I (szS k n), .bool true])
        have : 1 + (rowL' k : Int) + j = szS k n := by
          rw [szS, if_pos hr]
          rcases hp with hp | hp
          · rw [if_neg (by omega)]; rw [hp] at hlt hj'; omega
          · rw [if_pos hp]; rw [hp] at hlt hj'; omega
        rw [this]
    · rw [wrap_id (by omega) (by omega), szS, if_neg hr]; simp
  · refine ⟨_, cell_of p3.at0 2, ifB_d (fun h => by omega) fun _ => ⟨_, cell_of p3.at0 3, ifB_d (fun h => by omega) fun _ => ?_⟩⟩
    refine ifB_eq (fun h => ?_) fun h => ⟨rfl, kp0⟩
    refine (c108 w3 n).use fun w4 e4 => ⟨_, rfl, ?_⟩
    exact ifB_nb (fun h' => by rw [h5 h] at h'; cases h') fun _ => ⟨rfl, e4⟩

theorem k13 {k : Int} (h1 : 1 ≤ k) (h2 : k ≤ 13) : k = 1 ∨ k = 2 ∨ k = 3 ∨ k = 4 ∨ k = 5 ∨ k = 6 ∨ k = 7 ∨ k = 8 ∨ k = 9 ∨ k = 10 ∨ k = 11 ∨ k = 12 ∨ k = 13 := by omega

theorem fitS_eq {k n : Int} (h1 : 1 ≤ k) (h2 : k ≤ 13) : fitS k n = decide (n ≥ szS k (rowI k) ∧ n ≤ szS k (shM k) ∧ (k = 12 → headS (n - 1) = true)) := by
  unfold fitS
  rw [decide_eq_decide]
  rcases k13 h1 h2 with rfl | rfl | rfl | rfl | rfl | rfl | rfl | rfl | rfl | rfl | rfl | rfl | rfl
  all_goals simp [shB, shM, szS, rowL', rowR, rowI, rowP]
  all_goals try omega
  constructor
  · rintro ⟨a, b, c⟩
    refine ⟨?_, by omega, c⟩
    simp [headS] at c; omega
  · rintro ⟨a, b, c⟩; exact ⟨by omega, by omega, c⟩
theorem fitS_out {k n : Int} (h : k < 1 ∨ k > 13) : fitS k n = false := by
  unfold fitS
  rw [decide_eq_false_iff_not]
  rintro ⟨h', _⟩
  unfold shB at h'
  repeat' split at h' <;> omega
theorem fitS_rng {k n : Int} (h : fitS k n = true) : 1 ≤ k ∧ k ≤ 13 ∧ 1 ≤ n ∧ n ≤ 1024 := by
  have h1 : ¬ (k < 1 ∨ k > 13) := fun hh => by rw [fitS_out hh] at h; cases h
  refine ⟨by omega, by omega, ?_⟩
  unfold fitS at h
  obtain ⟨a, b, c, _⟩ := of_decide_eq_true h
  have := shB_rng k
  rcases k13 (k := k) (by omega) (by omega) with rfl | rfl | rfl | rfl | rfl | rfl | rfl | rfl | rfl | rfl | rfl | rfl | rfl
  all_goals simp [shB, shM] at c b a; omega

theorem c60 (w : World) (k n : Int) (hn : In64 n) : RetE PR 60 [I k, I n] w (.bool (fitS k n)) := by
  refine Ret.of ((S60_eq k n w _).mpr ?_)
  unfold S60
  refine ⟨fun s w' => (s = (false, ()) ∧ Kp w w' ∧ 1 ≤ k ∧ k ≤ 13 ∧ (k = 12 → headS (n - 1) = true)), ?_, ?_⟩
  · rintro s w' ⟨rfl, e0, h1, h2, h5⟩
    refine (c109 w' k).use ?_
    rintro _ w1 ⟨⟨a, c, rfl⟩, e1⟩
    refine ⟨_, _, _, _, _, _, _, rfl, ?_⟩
    refine atW_new fun w2 n2 => stx_at _ n2.at0 (by simp) rfl fun w3 p3 => ⟨_, cell_of p3.at0 2, ?_⟩
    have e3 : Kp w w3 := ((e0.trans e1).trans n2.ext).tr p3.upd fun b hb => .inr (by simp only [one] at hb; have := e1.sz; have := e0.sz; omega)
    have hM : rowI k ≤ shM k := by rcases k13 h1 h2 with rfl | rfl | rfl | rfl | rfl | rfl | rfl | rfl | rfl | rfl | rfl | rfl | rfl <;> simp [rowI, shM]
    refine (c110 w3 k (rowI k) h1 h2 (by omega) hM (by rintro rfl; rfl)).use fun w4 e4 => ⟨_, _, rfl, _, cell_of (e4.at p3.at0) 3, ?_⟩
    refine (c110 w4 k (shM k) h1 h2 hM (by omega) (by rintro rfl; rfl)).use fun w5 e5 => ⟨_, _, rfl, ?_⟩
    have e := (e3.trans e4).trans e5
    rw [fitS_eq h1 h2]
    refine ifB_d (fun h => ⟨?_, e⟩) fun h => ⟨?_, e⟩
    · congr 1; rw [decide_eq_decide]; exact ⟨fun h' => ⟨h, h', h5⟩, fun h' => h'.2.1⟩
    · congr 1; symm; rw [decide_eq_false_iff_not]; exact fun h' => h h'.1
  · refine ifB_d (fun h => ⟨by rw [fitS_out (.inl h)], kp0⟩) fun h1 => ifB_d (fun h => ⟨by rw [fitS_out (.inr h)], kp0⟩) fun h2 => ifB_eq (fun h => ?_) fun h => ⟨rfl, kp0, by omega, by omega, fun hh => absurd hh h⟩
    have hw : ∀ w, RetE PR 108 [I (IntKind.i64.wrap (n - 1))] w (.bool (headS (n - 1))) := by
      intro w
      by_cases hh : n = -9223372036854775808
      · have := c108 w (IntKind.i64.wrap (n - 1))
        rwa [show headS (IntKind.i64.wrap (n - 1)) = headS (n - 1) by subst hh; decide] at this
      · have := c108 w (n - 1)
        rwa [wrap_id (by have := hn.1; omega) (by have := hn.2; omega)]
    refine (hw w).use fun w1 e1 => ⟨_, rfl, ?_⟩
    refine ifB_nb (fun h' => ⟨?_, e1⟩) fun h' => ⟨rfl, e1, by omega, by omega, fun _ => h'⟩
    rw [fitS_eq (by omega) (by omega)]
    congr 1; symm; rw [decide_eq_false_iff_not]; rintro ⟨_, _, h3⟩; rw [h3 h] at h'; cases h'

/-! The law's -/
/-- A number brought to 0 .. n - 1. -/
def wiS (x n : Int) : Int := if x < 0 then (-(x + 1)) % n else x % n
theorem c29 (w : World) (x n : Int) (hx : In64 x) (hn : 0 < n) (hn2 : n < 1000000) : RetE PR 29 [I x, I n] w (I (wiS x n)) := by
  refine Ret.of ((S29_eq x n w _).mpr ?_)
  unfold S29
  have h1 := hx.1
  have h2 := hx.2
  refine ifB_d (fun h => ifB_eq (fun h' => by omega) fun h' => ⟨?_, kp0⟩) fun h => ifB_eq (fun h' => by omega) fun h' => ⟨?_, kp0⟩
  · rw [wiS, if_pos h, wrap_id (x := x + 1) (by omega) (by omega), wrap_id (x := 0 - (x + 1)) (by omega) (by omega), Int.tmod_eq_emod_of_nonneg (by omega), Int.zero_sub]
  · rw [wiS, if_neg h, Int.tmod_eq_emod_of_nonneg (by omega)]
theorem wiS_rng {x n : Int} (hn : 0 < n) : 0 ≤ wiS x n ∧ wiS x n < n := by
  unfold wiS; split
  · exact ⟨Int.emod_nonneg _ (by omega), Int.emod_lt_of_pos _ hn⟩
  · exact ⟨Int.emod_nonneg _ (by omega), Int.emod_lt_of_pos _ hn⟩
end Go.Wx
end
section
/- Contracts of the counting of ones and of the zeros behind. -/
set_option linter.unusedVariables false
set_option maxRecDepth 100000
namespace Go.Wx
open Go

/-! The number of ones -/
def byB (f : Nat → Nat) : Nat → Nat → Nat
  | 0, _ => 0
  | n + 1, x => 256 * byB f n (x / 256) + f (x % 256)
def mk (m : Nat) : Nat → Nat
  | 0 => 0
  | n + 1 => 256 * mk m n + m
theorem and_256 {a r m s : Nat} (hr : r < 256) (hs : s < 256) : (256 * a + r) &&& (256 * m + s) = 256 * (a &&& m) + (r &&& s) := by
  have h1 := Nat.and_div_two_pow (a := 256 * a + r) (b := 256 * m + s) (n := 8)
  have h2 := Nat.and_mod_two_pow (a := 256 * a + r) (b := 256 * m + s) (n := 8)
  simp only [Nat.reducePow] at h1 h2
  rw [show (256 * a + r) / 256 = a by omega, show (256 * m + s) / 256 = m by omega] at h1
  rw [show (256 * a + r) % 256 = r by omega, show (256 * m + s) % 256 = s by omega] at h2
  omega
def f1 (b : Nat) : Nat := (b / 2 &&& 85) + (b &&& 85)
def f2 (b : Nat) : Nat := (b / 4 &&& 51) + (b &&& 51)
def f3 (b : Nat) : Nat := b / 16 + b % 16
def f12 (b : Nat) : Nat := f2 (f1 b)
def f123 (b : Nat) : Nat := f3 (f12 b)
theorem t1 : ∀ c : Fin 2, ∀ b : Fin 256, (128 * c.val + b.val / 2) &&& 85 = b.val / 2 &&& 85 := by decide +kernel
theorem t2 : ∀ c : Fin 4, ∀ b : Fin 256, (64 * c.val + b.val / 4) &&& 51 = b.val / 4 &&& 51 := by decide +kernel
theorem t3 : ∀ c : Fin 5, ∀ b : Fin 69, b.val % 16 ≤ 4 → (16 * c.val + b.val / 16 + b.val) &&& 15 = f3 b.val := by decide +kernel
theorem t4 : ∀ b : Fin 256, f1 b.val < 256 ∧ f12 b.val < 69 ∧ f12 b.val % 16 ≤ 4 ∧ f123 b.val ≤ 8 ∧ f123 b.val = cnt b.val.testBit 0 8 := by decide +kernel
theorem step1 : ∀ n x, (x / 2 &&& mk 85 n) + (x &&& mk 85 n) = byB f1 n x
  | 0, x => by simp [mk, byB]
  | n + 1, x => by
    have ih := step1 n (x / 256)
    have e1 : x / 2 = 256 * (x / 256 / 2) + (128 * (x / 256 % 2) + x % 256 / 2) := by omega
    have e2 : x = 256 * (x / 256) + x % 256 := by omega
    have h1 : x / 2 &&& mk 85 (n + 1) = 256 * (x / 256 / 2 &&& mk 85 n) + ((x % 256) / 2 &&& 85) := by
      rw [e1, mk, and_256 (by omega) (by omega)]
      have := t1 ⟨x / 256 % 2, by omega⟩ ⟨x % 256, by omega⟩
      simp only at this; rw [this]
    have h2 : x &&& mk 85 (n + 1) = 256 * (x / 256 &&& mk 85 n) + (x % 256 &&& 85) := by
      conv => lhs; rw [e2]
      rw [mk, and_256 (by omega) (by omega)]
    rw [h1, h2, byB, ← ih, f1]; omega
theorem step2 : ∀ n x, (x / 4 &&& mk 51 n) + (x &&& mk 51 n) = byB f2 n x
  | 0, x => by simp [mk, byB]
  | n + 1, x => by
    have ih := step2 n (x / 256)
    have e1 : x / 4 = 256 * (x / 256 / 4) + (64 * (x / 256 % 4) + x % 256 / 4) := by omega
    have e2 : x = 256 * (x / 256) + x % 256 := by omega
    have h1 : x / 4 &&& mk 51 (n + 1) = 256 * (x / 256 / 4 &&& mk 51 n) + ((x % 256) / 4 &&& 51) := by
      rw [e1, mk, and_256 (by omega) (by omega)]
      have := t2 ⟨x / 256 % 4, by omega⟩ ⟨x % 256, by omega⟩
      simp only at this; rw [this]
    have h2 : x &&& mk 51 (n + 1) = 256 * (x / 256 &&& mk 51 n) + (x % 256 &&& 51) := by
      conv => lhs; rw [e2]
      rw [mk, and_256 (by omega) (by omega)]
    rw [h1, h2, byB, ← ih, f2]; omega
theorem byB_div {f : Nat → Nat} (hf : ∀ b, b < 256 → f b < 256) (n x : Nat) : byB f (n + 1) x / 256 = byB f n (x / 256) ∧ byB f (n + 1) x % 256 = f (x % 256) := by
  have := hf (x % 256) (by omega)
  rw [byB]; omega
theorem byB_comp {f g : Nat → Nat} (hf : ∀ b, b < 256 → f b < 256) : ∀ n x, byB g n (byB f n x) = byB (fun b => g (f b)) n x
  | 0, _ => rfl
  | n + 1, x => by
    obtain ⟨h1, h2⟩ := byB_div hf n x
    rw [byB, h1, h2, byB_comp hf n, byB]
theorem f1_lt {b : Nat} (h : b < 256) : f1 b < 256 := (t4 ⟨b, h⟩).1
theorem f12_lt {b : Nat} (h : b < 256) : f12 b < 69 ∧ f12 b % 16 ≤ 4 := ⟨(t4 ⟨b, h⟩).2.1, (t4 ⟨b, h⟩).2.2.1⟩
theorem f123_le {b : Nat} (h : b < 256) : f123 b ≤ 8 := (t4 ⟨b, h⟩).2.2.2.1
theorem byB_lo (n x : Nat) : byB f12 n x % 16 ≤ 4 := by
  cases n with
  | zero => simp [byB]
  | succ n => have := f12_lt (b := x % 256) (by omega); rw [byB]; omega
theorem step3 : ∀ n x, (byB f12 n x / 16 + byB f12 n x) &&& mk 15 n = byB f123 n x
  | 0, x => by simp [mk, byB]
  | n + 1, x => by
    have ih := step3 n (x / 256)
    have hb := f12_lt (b := x % 256) (by omega)
    have hl := byB_lo n (x / 256)
    have e : byB f12 (n + 1) x / 16 + byB f12 (n + 1) x = 256 * (byB f12 n (x / 256) / 16 + byB f12 n (x / 256)) + (16 * (byB f12 n (x / 256) % 16) + f12 (x % 256) / 16 + f12 (x % 256)) := by
      rw [byB]; omega
    rw [e, mk, and_256 (by omega) (by omega), ih, byB]
    have := t3 ⟨byB f12 n (x / 256) % 16, by omega⟩ ⟨f12 (x % 256), hb.1⟩ hb.2
    simp only at this
    rw [this]; rfl
def sumB : Nat → Nat → Nat
  | 0, _ => 0
  | n + 1, x => f123 (x % 256) + sumB n (x / 256)
theorem cnt_sumB : ∀ n x, cnt x.testBit 0 (8 * n) = sumB n x
  | 0, x => by simp [cnt_self, sumB]
  | n + 1, x => by
    rw [cnt_split _ (b := 8) (by omega) (by omega), sumB, ← cnt_sumB n (x / 256)]
    have h1 : cnt x.testBit 0 8 = cnt (x % 256).testBit 0 8 := cnt_congr fun j _ hj => by
      have := Nat.testBit_mod_two_pow x 8 j
      simp only [Nat.reducePow] at this
      rw [this]; simp [hj]
    have h2 : cnt x.testBit 8 (8 * (n + 1)) = cnt (x / 256).testBit 0 (8 * n) := cnt_shift (by omega) fun j _ => by
      have := Nat.testBit_div_two_pow (x := x) (i := j) (n := 8)
      simp only [Nat.reducePow] at this
      rw [Nat.zero_add, this, Nat.add_comm]
    rw [h1, h2, (t4 ⟨x % 256, by omega⟩).2.2.2.2]
theorem dv {q r m : Nat} (h : r < m) : (m * q + r) / m = q := by
  rw [Nat.mul_add_div (by omega), Nat.div_eq_of_lt h, Nat.add_zero]
theorem l8 {c0 c1 c2 c3 c4 c5 c6 c7 a b d : Nat} (h0 : c0 ≤ 8) (h1 : c1 ≤ 8) (h2 : c2 ≤ 8) (h3 : c3 ≤ 8) (h4 : c4 ≤ 8) (h5 : c5 ≤ 8) (h6 : c6 ≤ 8) (h7 : c7 ≤ 8)
  (ha : a = 256 * (256 * (256 * (256 * (256 * (256 * (256 * c7 + c6) + c5) + c4) + c3) + c2) + c1) + c0) (hb : b = a + a / 256) (hd : d = b + b / 65536) : (d + d / 4294967296) % 128 = c0 + c1 + c2 + c3 + c4 + c5 + c6 + c7 ∧ a ≤ 578721382704613384 := by
  have e1 : a / 256 = 256 * (256 * (256 * (256 * (256 * (256 * c7 + c6) + c5) + c4) + c3) + c2) + c1 := by rw [ha]; exact dv (by clear ha hb hd; omega)
  rw [e1, ha] at hb
  have e2 : b = 65536 * (256 * (256 * (256 * (256 * (256 * c7 + (c6 + c7)) + (c5 + c6)) + (c4 + c5)) + (c3 + c4)) + (c2 + c3)) + (256 * (c1 + c2) + (c0 + c1)) := by rw [hb]; clear ha hb hd e1; omega
  have e3 : b / 65536 = 256 * (256 * (256 * (256 * (256 * c7 + (c6 + c7)) + (c5 + c6)) + (c4 + c5)) + (c3 + c4)) + (c2 + c3) := by rw [e2]; exact dv (by clear ha hb hd e1 e2; omega)
  rw [e3, e2] at hd
  have e4 : d = 4294967296 * (256 * (256 * (256 * c7 + (c6 + c7)) + (c5 + c6 + c7)) + (c4 + c5 + c6 + c7)) + (256 * (256 * (256 * (c3 + c4 + c5 + c6) + (c2 + c3 + c4 + c5)) + (c1 + c2 + c3 + c4)) + (c0 + c1 + c2 + c3)) := by rw [hd]; clear ha hb hd e1 e2 e3; omega
  have e5 : d / 4294967296 = 256 * (256 * (256 * c7 + (c6 + c7)) + (c5 + c6 + c7)) + (c4 + c5 + c6 + c7) := by rw [e4]; exact dv (by clear ha hb hd e1 e2 e3 e4; omega)
  refine ⟨?_, ?_⟩
  · rw [e5, e4]
    have : 4294967296 * (256 * (256 * (256 * c7 + (c6 + c7)) + (c5 + c6 + c7)) + (c4 + c5 + c6 + c7)) + (256 * (256 * (256 * (c3 + c4 + c5 + c6) + (c2 + c3 + c4 + c5)) + (c1 + c2 + c3 + c4)) + (c0 + c1 + c2 + c3)) + (256 * (256 * (256 * c7 + (c6 + c7)) + (c5 + c6 + c7)) + (c4 + c5 + c6 + c7)) = (c0 + c1 + c2 + c3 + c4 + c5 + c6 + c7) + 128 * (33554432 * (256 * (256 * (256 * c7 + (c6 + c7)) + (c5 + c6 + c7)) + (c4 + c5 + c6 + c7)) + 2 * (256 * (256 * (c3 + c4 + c5 + c6) + (c2 + c3 + c4 + c5)) + (c1 + c2 + c3 + c4)) + 2 * (256 * (256 * c7 + (c6 + c7)) + (c5 + c6 + c7))) := by clear ha hb hd e1 e2 e3 e4 e5; omega
    rw [this, Nat.add_mul_mod_self_left, Nat.mod_eq_of_lt (by clear ha hb hd e1 e2 e3 e4 e5 this; omega)]
  · rw [ha]; clear ha hb hd e1 e2 e3 e4 e5; omega
theorem last (a : Nat) {x : Nat} (ha : a = byB f123 8 x) : (a + a / 256 + (a + a / 256) / 65536 + (a + a / 256 + (a + a / 256) / 65536) / 4294967296) % 128 = sumB 8 x ∧ a ≤ 578721382704613384 := by
  have hb : ∀ y, f123 (y % 256) ≤ 8 := fun y => f123_le (Nat.mod_lt _ (by omega))
  have := l8 (hb x) (hb (x / 256)) (hb (x / 256 / 256)) (hb (x / 256 / 256 / 256)) (hb (x / 256 / 256 / 256 / 256)) (hb (x / 256 / 256 / 256 / 256 / 256)) (hb (x / 256 / 256 / 256 / 256 / 256 / 256)) (hb (x / 256 / 256 / 256 / 256 / 256 / 256 / 256)) (a := a)
    (by rw [ha]; simp only [byB, Nat.mul_zero, Nat.zero_add]) rfl rfl
  refine ⟨this.1.trans ?_, this.2⟩
  simp only [sumB, Nat.add_zero, Nat.add_assoc]
theorem mk85 : mk 85 8 = 6148914691236517205 := by decide
theorem mk51 : mk 51 8 = 3689348814741910323 := by decide
theorem mk15 : mk 15 8 = 1085102592571150095 := by decide

theorem c146 (w : World) (x : Nat) (hx : x < 18446744073709551616) : RetE PR 146 [U x] w (I (cnt x.testBit 0 64 : Nat)) := by
  refine Ret.of ((S146_eq x w _).mpr ?_)
  unfold S146
  have hm1 : (6148914691236517205 : Int) = ((6148914691236517205 : Nat) : Int) := rfl
  have hm2 : (3689348814741910323 : Int) = ((3689348814741910323 : Nat) : Int) := rfl
  have hm3 : (1085102592571150095 : Int) = ((1085102592571150095 : Nat) : Int) := rfl
  have fd : ∀ (y d : Nat), (y : Int).fdiv ((d : Nat) : Int) = ((y / d : Nat) : Int) := fun y d => by rw [Int.fdiv_eq_ediv_of_nonneg _ (by omega)]; simp
  have an : ∀ (y m : Nat), y < 18446744073709551616 → m < 18446744073709551616 → IntKind.u64.wrap (↑(BitVec.ofInt 64 (y : Int) &&& BitVec.ofInt 64 (m : Int)).toNat : Int) = ((y &&& m : Nat) : Int) := fun y m h1 h2 => by
    rw [bv_and h1 h2, wrap_u (by omega) (by have := and_lt64 m h1; omega)]
  have s1 : ∀ (y : Nat), y < 18446744073709551616 → (y / 2 &&& 6148914691236517205) + (y &&& 6148914691236517205) < 18446744073709551616 := fun y h => by
    have h1 : (y / 2 &&& 6148914691236517205) ≤ 6148914691236517205 := Nat.and_le_right
    have h2 : (y &&& 6148914691236517205) ≤ 6148914691236517205 := Nat.and_le_right
    omega
  have s2 : ∀ (y : Nat), y < 18446744073709551616 → (y / 4 &&& 3689348814741910323) + (y &&& 3689348814741910323) < 7400000000000000000 := fun y h => by
    have h1 : (y / 4 &&& 3689348814741910323) ≤ 3689348814741910323 := Nat.and_le_right
    have h2 : (y &&& 3689348814741910323) ≤ 3689348814741910323 := Nat.and_le_right
    omega
  have h1 : IntKind.u64.wrap (IntKind.u64.wrap (↑(BitVec.ofInt 64 ((x : Int).fdiv 2) &&& BitVec.ofInt 64 6148914691236517205).toNat : Int) + IntKind.u64.wrap (↑(BitVec.ofInt 64 (x : Int) &&& BitVec.ofInt 64 6148914691236517205).toNat : Int)) = ((byB f1 8 x : Nat) : Int) := by
    rw [show (2 : Int) = ((2 : Nat) : Int) from rfl, hm1, fd, an _ _ (by omega) (by omega), an _ _ hx (by omega), wrap_u (by omega) (by have := s1 x hx; omega), ← step1 8 x, mk85]; rfl
  have l1 : byB f1 8 x < 18446744073709551616 := by rw [← step1 8 x, mk85]; exact s1 x hx
  have h2 : IntKind.u64.wrap (IntKind.u64.wrap (↑(BitVec.ofInt 64 (((byB f1 8 x : Nat) : Int).fdiv 4) &&& BitVec.ofInt 64 3689348814741910323).toNat : Int) + IntKind.u64.wrap (↑(BitVec.ofInt 64 ((byB f1 8 x : Nat) : Int) &&& BitVec.ofInt 64 3689348814741910323).toNat : Int)) = ((byB f12 8 x : Nat) : Int) := by
    rw [show (4 : Int) = ((4 : Nat) : Int) from rfl, hm2, fd, an _ _ (by omega) (by omega), an _ _ l1 (by omega), wrap_u (by omega) (by have := s2 _ l1; omega), show byB f12 8 x = byB f2 8 (byB f1 8 x) from (byB_comp (fun _ => f1_lt) 8 x).symm, ← step2 8 (byB f1 8 x), mk51]; rfl
  have l2 : byB f12 8 x < 7400000000000000000 := by rw [show byB f12 8 x = byB f2 8 (byB f1 8 x) from (byB_comp (fun _ => f1_lt) 8 x).symm, ← step2 8 (byB f1 8 x), mk51]; exact s2 _ l1
  have h3 : IntKind.u64.wrap (↑(BitVec.ofInt 64 (IntKind.u64.wrap (((byB f12 8 x : Nat) : Int).fdiv 16 + ((byB f12 8 x : Nat) : Int))) &&& BitVec.ofInt 64 1085102592571150095).toNat : Int) = ((byB f123 8 x : Nat) : Int) := by
    rw [show (16 : Int) = ((16 : Nat) : Int) from rfl, hm3, fd, wrap_u (x := ((byB f12 8 x / 16 : Nat) : Int) + ((byB f12 8 x : Nat) : Int)) (by omega) (by omega), ← Int.natCast_add, an _ _ (by omega) (by omega), ← step3 8 x, mk15]
  obtain ⟨hl, l3⟩ := last (byB f123 8 x) (x := x) rfl
  rw [h1, h2, h3]
  rw [← cnt_sumB 8 x] at hl
  have hc := cnt_le x.testBit 0 (8 * 8)
  generalize byB f123 8 x = a at hl l3 ⊢
  rw [show (256 : Int) = ((256 : Nat) : Int) from rfl, show (65536 : Int) = ((65536 : Nat) : Int) from rfl, show (4294967296 : Int) = ((4294967296 : Nat) : Int) from rfl, fd, ← Int.natCast_add, wrap_u (x := ((a + a / 256 : Nat) : Int)) (by omega) (by omega), fd, ← Int.natCast_add, wrap_u (x := ((a + a / 256 + (a + a / 256) / 65536 : Nat) : Int)) (by omega) (by omega), fd, ← Int.natCast_add, wrap_u (by omega) (by omega),
    wrap_id (x := ((a + a / 256 + (a + a / 256) / 65536 + (a + a / 256 + (a + a / 256) / 65536) / 4294967296 : Nat) : Int)) (by omega) (by omega), show (127 : Int) = ((127 : Nat) : Int) from rfl, bv_and (by omega) (by omega)]
  have := Nat.and_two_pow_sub_one_eq_mod (a + a / 256 + (a + a / 256) / 65536 + (a + a / 256 + (a + a / 256) / 65536) / 4294967296) 7
  simp only [Nat.reducePow, Nat.reduceSub] at this
  rw [this, hl, wrap_id (by omega) (by omega)]
  exact ⟨rfl, kp0⟩

/-! The zeros behind -/
def dbTab : List Nat := [0, 1, 56, 2, 57, 49, 28, 3, 61, 58, 42, 50, 38, 29, 17, 4, 62, 47, 59, 36, 45, 43, 51, 22, 53, 39, 33, 30, 24, 18, 12, 5, 63, 55, 48, 27, 60, 41, 37, 16, 46, 35, 44, 21, 52, 32, 23, 11, 54, 26, 40, 15, 34, 20, 31, 10, 25, 14, 19, 9, 13, 8, 7, 6]
/-- The table of the package math/bits stands at its place. -/
def GT (w : World) : Prop := ∃ cs t fr, w.heap[0]? = some (.cells (Array.mk cs) t fr) ∧ ∀ i, i < 64 → cs[i]? = some (.int .u8 ((dbTab.getD i 0 : Nat) : Int))
theorem GT.upd {F : Nat → Prop} {w w' : World} (h : GT w) (u : Upd F w w') (h0 : ¬ F 0) : GT w' := by
  obtain ⟨cs, t, fr, h1, h2⟩ := h
  exact ⟨cs, t, fr, u.at h1 h0, h2⟩
theorem GT.kp {w w' : World} (h : GT w) (u : Kp w w') : GT w' := h.upd u fun h => h
theorem GT.cell {w : World} (h : GT w) {i : Nat} (hi : i < 64) : w.cell? ⟨0, i, none⟩ = some (.int .u8 ((dbTab.getD i 0 : Nat) : Int)) := by
  obtain ⟨cs, t, fr, h1, h2⟩ := h
  simp only [World.cell?, h1]
  simpa using h2 i hi
theorem db_tab : ∀ t : Fin 64, (2 ^ t.val * 285870213051353865 % 18446744073709551616) / 288230376151711744 < 64 ∧ dbTab.getD ((2 ^ t.val * 285870213051353865 % 18446744073709551616) / 288230376151711744) 0 = t.val := by decide +kernel
theorem lowbit {x t : Nat} (hx : x < 18446744073709551616) (ht : t < 64) (h1 : x.testBit t = true) (h2 : ∀ j, j < t → x.testBit j = false) : x &&& (18446744073709551616 - x) = 2 ^ t := by
  have hm : x % 2 ^ (t + 1) = 2 ^ t := by
    apply Nat.eq_of_testBit_eq
    intro j
    rw [Nat.testBit_mod_two_pow, Nat.testBit_two_pow]
    by_cases hj : j < t
    · rw [h2 j hj, decide_eq_false (show ¬ t = j by omega), Bool.and_false]
    · by_cases hj' : j = t
      · subst hj'; simp [h1]
      · rw [decide_eq_false (show ¬ j < t + 1 by omega), decide_eq_false (show ¬ t = j by omega)]; rfl
  have hp : 0 < 2 ^ t := Nat.two_pow_pos t
  have hps : 2 ^ (t + 1) = 2 * 2 ^ t := by rw [Nat.pow_succ]; omega
  have hx1 : x = 2 ^ (t + 1) * (x / 2 ^ (t + 1)) + 2 ^ t := by
    have := Nat.div_add_mod x (2 ^ (t + 1)); omega
  generalize x / 2 ^ (t + 1) = q at hx1
  have hxm : x - 1 = 2 ^ (t + 1) * q + (2 ^ t - 1) := by omega
  apply Nat.eq_of_testBit_eq
  intro i
  have h64 : 18446744073709551616 - x = 2 ^ 64 - ((x - 1) + 1) := by
    rw [show x - 1 + 1 = x by omega]
  rw [Nat.testBit_and, h64, Nat.testBit_two_pow_sub_succ (by omega), hxm, hx1, Nat.testBit_two_pow_mul_add _ (by omega), Nat.testBit_two_pow_mul_add _ (by omega), Nat.testBit_two_pow, Nat.testBit_two_pow_sub_one]
  by_cases hi : i < t + 1
  · rw [if_pos hi, if_pos hi]
    by_cases hit : t = i
    · subst hit; simp [ht]
    · simp [hit]
  · rw [if_neg hi, if_neg hi]
    have : ¬ t = i := by omega
    cases q.testBit (i - (t + 1)) <;> simp [this]
theorem c137 (w : World) (hg : GT w) {x t : Nat} (hx : x < 18446744073709551616) (ht : t < 64) (h1 : x.testBit t = true) (h2 : ∀ j, j < t → x.testBit j = false) : RetE PR 137 [U x] w (I t) := by
  refine Ret.of ((S137_eq x w _).mpr ?_)
  unfold S137
  have h0 : x ≠ 0 := by rintro rfl; simp at h1
  refine ifB_eq (fun h => by omega) fun _ => ?_
  obtain ⟨d1, d2⟩ := db_tab ⟨t, ht⟩
  simp only at d1 d2
  have e1 : IntKind.u64.wrap (0 - (x : Int)) = ((18446744073709551616 - x : Nat) : Int) := by rw [wrap_umod]; omega
  have hpt : 2 ^ t < 18446744073709551616 := Nat.pow_lt_pow_right (a := 2) (by omega) (show t < 64 from ht)
  have e2 : (IntKind.u64.wrap (IntKind.u64.wrap (↑(BitVec.ofInt 64 (x : Int) &&& BitVec.ofInt 64 (IntKind.u64.wrap (0 - (x : Int)))).toNat : Int) * 285870213051353865)).fdiv 288230376151711744 = (((2 ^ t * 285870213051353865 % 18446744073709551616) / 288230376151711744 : Nat) : Int) := by
    rw [e1, bv_and hx (by omega), lowbit hx ht h1 h2, wrap_u (x := ((2 ^ t : Nat) : Int)) (by omega) (by omega), wrap_umod, Int.fdiv_eq_ediv_of_nonneg _ (by omega)]
    simp
  rw [e2]
  refine ⟨⟨by omega, by omega⟩, (t : Int), ?_, ?_, kp0⟩
  · rw [add_mk, Nat.zero_add, Nat.mul_one, Int.toNat_natCast, hg.cell d1, d2]
  · rw [wrap_id (by omega) (by omega)]
end Go.Wx
end
section
/- Contracts of the sets of small numbers. -/
set_option linter.unusedVariables false
set_option maxRecDepth 100000
namespace Go.Wx
open Go

theorem bl_eq {cs cs' : List Value} {t : TypeId} (h : cs = cs') : some (Bl cs t) = some (Bl cs' t) := by rw [h]
abbrev pt (b : Nat) : Value := .pointer (some ⟨b, 0, none⟩)

/-- A set of numbers below 64 r: its struct at b, its rows at rb. -/
structure Bm (w : World) (b rb r : Nat) (bit : Nat → Bool) : Prop where
  h0 : w.heap[b]? = some (Bl [I ((64 * r : Nat) : Int), .slice (some ⟨rb, 0, none⟩) r r] 140)
  h1 : w.heap[rb]? = some (Bl (vals r fun k => U (bmRow bit k)) 143)
  hr : r ≤ 4096
  gt : GT w

theorem Bm.upd {F : Nat → Prop} {w w' : World} {b rb r : Nat} {bit : Nat → Bool} (h : Bm w b rb r bit) (u : Upd F w w') (hb : ¬ F b) (hrb : ¬ F rb) (h0 : ¬ F 0) : Bm w' b rb r bit :=
  ⟨u.at h.h0 hb, u.at h.h1 hrb, h.hr, h.gt.upd u h0⟩
theorem Bm.kp {w w' : World} {b rb r : Nat} {bit : Nat → Bool} (h : Bm w b rb r bit) (u : Kp w w') : Bm w' b rb r bit := h.upd u (fun h => h) (fun h => h) (fun h => h)
theorem Bm.ne {w : World} {b rb r : Nat} {bit : Nat → Bool} (h : Bm w b rb r bit) : b ≠ rb := by
  intro e
  have := h.h1
  rw [← e, h.h0] at this
  injection this with this
  injection this with _ h2
  cases h2
theorem Bm.ne0 {w : World} {b rb r : Nat} {bit : Nat → Bool} (h : Bm w b rb r bit) : b ≠ 0 ∧ rb ≠ 0 := by
  obtain ⟨cs, t, fr, h1, h2⟩ := h.gt
  constructor
  · rintro rfl
    have := h.h0
    rw [h1] at this
    injection this with this
    injection this with h3
    have h4 := h2 0 (by omega)
    simp only [Array.mk.injEq] at h3
    rw [h3] at h4; simp at h4
  · rintro rfl
    have := h.h1
    rw [h1] at this
    injection this with this
    injection this with h3
    have h4 := h2 0 (by omega)
    simp only [Array.mk.injEq] at h3
    rw [h3, vals_get] at h4
    split at h4 <;> simp at h4
theorem Bm.congr {w : World} {b rb r : Nat} {bit bit' : Nat → Bool} (h : Bm w b rb r bit) (hb : ∀ i, i < 64 * r → bit i = bit' i) : Bm w b rb r bit' := by
  refine ⟨h.h0, ?_, h.hr, h.gt⟩
  rw [h.h1]
  refine bl_eq (vals_congr fun k hk => ?_)
  rw [bmRow_congr]
  intro j hj
  exact hb _ (by omega)

/-- Within the two ends? -/
abbrev inR (a b : Nat) (i : Nat) : Bool := decide (a ≤ i ∧ i < b)

theorem c136 (w : World) {k a b : Nat} (hk : k ≤ 4096) (ha : a < 1000000) (hb : b < 1000000) (hkb : 64 * k < b) :
    Ret PR 136 [I k, I a, I b] w fun v w' => (∃ m : Nat, v = U m ∧ m < 18446744073709551616 ∧ ∀ j, j < 64 → m.testBit j = inR a b (64 * k + j)) ∧ Kp w w' := by
  refine Ret.of ((S136_eq k a b w _).mpr ?_)
  unfold S136
  rw [wrap_id (x := (k : Int) * 64) (by omega) (by omega), wrap_id (x := (a : Int) - k * 64) (by omega) (by omega), wrap_id (x := (k : Int) * 64 + 64) (by omega) (by omega), wrap_id (x := (b : Int) - k * 64) (by omega) (by omega)]
  refine ⟨fun s w' => w' = w ∧ ∃ m : Nat, s = ((m : Int), ()) ∧ m < 18446744073709551616 ∧ ∀ j, j < 64 → m.testBit j = decide (a ≤ 64 * k + j), ?_, ?_⟩
  · rintro s w' ⟨rfl, m, rfl, hm, hbit⟩
    refine ifB_d (fun h => ifB_d (fun h => by omega) fun h' => ⟨⟨m &&& (2 ^ (b - 64 * k) - 1), ?_, and_lt64 _ hm, ?_⟩, kp0⟩) fun h => ⟨⟨m, rfl, hm, ?_⟩, kp0⟩
    · have hmin : min ((b : Int) - k * 64).toNat 64 = b - 64 * k := by omega
      have hp : 2 ^ (b - 64 * k) < 18446744073709551616 := Nat.pow_lt_pow_right (a := 2) (by omega) (show b - 64 * k < 64 by omega)
      have hp0 : 0 < 2 ^ (b - 64 * k) := Nat.two_pow_pos _
      rw [hmin, show ((1 : Int) * 2 ^ (b - 64 * k)) = ((2 ^ (b - 64 * k) : Nat) : Int) by simp, wrap_u (x := ((2 ^ (b - 64 * k) : Nat) : Int)) (by omega) (by omega), show (((2 ^ (b - 64 * k) : Nat) : Int) - 1) = ((2 ^ (b - 64 * k) - 1 : Nat) : Int) by omega, wrap_u (x := ((2 ^ (b - 64 * k) - 1 : Nat) : Int)) (by omega) (by omega), bv_and hm (by omega), wrap_u (by omega) (by have := and_lt64 (2 ^ (b - 64 * k) - 1) hm; omega)]
    · intro j hj
      rw [Nat.testBit_and, hbit j hj, Nat.testBit_two_pow_sub_one, ← Bool.decide_and, decide_eq_decide]; omega
    · intro j hj
      rw [hbit j hj, decide_eq_decide]; omega
  · refine ifB_d (fun h => ifB_d (fun h => by omega) fun h' => ⟨rfl, (18446744073709551615 * 2 ^ min ((a : Int) - k * 64).toNat 64) % 18446744073709551616, ?_, Nat.mod_lt _ (by omega), ?_⟩) fun h => ⟨rfl, 18446744073709551615, by simp, by omega, ?_⟩
    · rw [wrap_umod]
      simp
    · intro j hj
      have h1 := Nat.testBit_mod_two_pow (18446744073709551615 * 2 ^ min ((a : Int) - k * 64).toNat 64) 64 j
      simp only [Nat.reducePow] at h1
      have h2 := Nat.testBit_two_pow_sub_one 64 (j - min ((a : Int) - k * 64).toNat 64)
      simp only [Nat.reducePow, Nat.reduceSub] at h2
      rw [h1, ← Nat.shiftLeft_eq, Nat.testBit_shiftLeft, h2, ← Bool.decide_and, ← Bool.decide_and, decide_eq_decide]; omega
    · intro j hj
      have h2 := Nat.testBit_two_pow_sub_one 64 j
      simp only [Nat.reducePow, Nat.reduceSub] at h2
      rw [h2, decide_eq_decide]; omega

section
variable {w : World} {b rb r : Nat} {bit : Nat → Bool}

theorem c140 (h : Bm w b rb r bit) (x y : Int) : RetE PR 140 [pt b, I x, I y] w (.bool (decide (0 ≤ x ∧ y ≤ ((64 * r : Nat) : Int) ∧ x ≤ y))) := by
  refine Ret.of ((S140_eq _ x y w _).mpr ?_)
  unfold S140
  refine ifB_d (fun h1 => ⟨_, cell_of h.h0 0, ifB_d (fun h2 => ⟨?_, kp0⟩) fun h2 => ⟨?_, kp0⟩⟩) fun h1 => ⟨?_, kp0⟩
  · congr 1; rw [decide_eq_decide]; omega
  · congr 1; symm; rw [decide_eq_false_iff_not]; omega
  · congr 1; symm; rw [decide_eq_false_iff_not]; omega

theorem c121 (h : Bm w b rb r bit) (i : Int) (hi : In64 i) : RetE PR 121 [pt b, I i] w (.bool (decide (0 ≤ i ∧ i < ((64 * r : Nat) : Int)) && bit i.toNat)) := by
  refine Ret.of ((S121_eq _ i w _).mpr ?_)
  unfold S121
  have hr := h.hr
  refine ifB_d (fun h1 => ⟨_, cell_of h.h0 0, ifB_d (fun h2 => ?_) fun h2 => ⟨?_, kp0⟩⟩) fun h1 => ⟨?_, kp0⟩
  · refine ⟨_, _, _, cell_of h.h0 1, ?_⟩
    obtain ⟨i, rfl⟩ : ∃ m : Nat, i = m := ⟨i.toNat, by omega⟩
    have e1 : IntKind.i64.wrap ((i : Int).tdiv 64) = ((i / 64 : Nat) : Int) := by rw [Int.tdiv_eq_ediv_of_nonneg (by omega), wrap_id (by omega) (by omega)]; simp
    have e2 : (i : Int).tmod 64 = ((i % 64 : Nat) : Int) := by rw [Int.tmod_eq_emod_of_nonneg (by omega)]; simp
    rw [e1, e2]
    refine ⟨⟨by omega, by omega⟩, (bmRow bit (i / 64) : Nat), ?_, ifB_d (fun h => by omega) fun _ => ⟨?_, kp0⟩⟩
    · rw [add_mk, cell_of h.h1, Nat.zero_add, Nat.mul_one, Int.toNat_natCast, vals_lt (by omega)]
    · have hx := bmRow_lt bit (i / 64)
      have hmin : min ((i % 64 : Nat) : Int).toNat 64 = i % 64 := by omega
      have hp : 0 < 2 ^ (i % 64) := Nat.two_pow_pos _
      rw [hmin, show ((2 : Int) ^ (i % 64)) = ((2 ^ (i % 64) : Nat) : Int) by simp, Int.fdiv_eq_ediv_of_nonneg _ (by omega), ← Int.natCast_ediv, show (1 : Int) = ((1 : Nat) : Int) from rfl, bv_and (Nat.lt_of_le_of_lt (Nat.div_le_self _ _) hx) (by omega), Nat.and_one_is_mod, wrap_u (by omega) (by omega)]
      congr 1
      rw [decide_eq_true (show (0 : Int) ≤ (i : Int) ∧ (i : Int) < ((64 * r : Nat) : Int) by omega), Bool.true_and, Int.toNat_natCast]
      have := bmRow_bit bit (i / 64) (j := i % 64) (by omega)
      rw [show 64 * (i / 64) + i % 64 = i by omega, Nat.testBit_eq_decide_div_mod_eq] at this
      rw [← this, show ∀ x y : Int, (x == y) = decide (x = y) from fun _ _ => rfl, decide_eq_decide]
      omega
  · congr 1; symm; rw [decide_eq_false (by omega)]; rfl
  · congr 1; symm; rw [decide_eq_false (by omega)]; rfl

theorem c107 (h : Bm w b rb r bit) {x y : Nat} (hxy : x ≤ y) (hy : y ≤ 64 * r) : Ret PR 107 [pt b, I x, I y] w fun v w' => v = I 0 ∧ Bm w' b rb r (fun i => inR x y i || bit i) ∧ Upd (one rb) w w' := by
  refine Ret.of ((S107_eq _ x y w _).mpr ?_)
  unfold S107
  have hr := h.hr
  refine (c140 h x y).use fun w1 e1 => ⟨_, rfl, ifB_nb (fun hh => absurd (of_decide_eq_false hh) (by simp; omega)) fun _ => ?_⟩
  have e0 : IntKind.i64.wrap ((x : Int).tdiv 64) = ((x / 64 : Nat) : Int) := by rw [Int.tdiv_eq_ediv_of_nonneg (by omega), wrap_id (by omega) (by omega)]; simp
  rw [e0]
  refine loop_rule (fun k : Nat => ((k : Int), ())) (fun k w' => x / 64 ≤ k ∧ k ≤ r ∧ Bm w' b rb r (fun i => decide (x ≤ i ∧ i < y ∧ i < 64 * k) || bit i) ∧ Upd (one rb) w w') (fun k => 5000 - k) (x / 64) rfl ⟨Nat.le_refl _, by omega, (h.kp e1).congr fun i hi => ?_, e1.upd⟩ ?_
  · rw [decide_eq_false (by omega)]; rfl
  rintro k w2 K ⟨hk1, hk2, hb, hu⟩ hK
  show ifB (decide (IntKind.i64.wrap ((k : Int) * 64) < _)) _ _
  rw [wrap_id (x := (k : Int) * 64) (by omega) (by omega)]
  refine ifB_d (fun hlt => ?_) fun hlt => ⟨rfl, hb.congr fun i hi => ?_, hu⟩
  · generalize hwd : World.drew w2 = wd
    have d1 : Kp w2 wd := hwd ▸ ext_drew w2
    have hbd := hb.kp d1
    refine ⟨_, _, _, cell_of hbd.h0 1, ⟨by omega, by omega⟩, (bmRow (fun i => decide (x ≤ i ∧ i < y ∧ i < 64 * k) || bit i) k : Nat), ?_, ?_⟩
    · rw [add_mk, cell_of hbd.h1, Nat.zero_add, Nat.mul_one, Int.toNat_natCast, vals_lt (by omega)]
    refine (c136 wd (k := k) (a := x) (b := y) (by omega) (by omega) (by omega) (by omega)).use ?_
    rintro _ w3 ⟨⟨m, rfl, hm, hmb⟩, e3⟩
    refine ⟨_, rfl, e3.draw, ⟨by omega, by omega⟩, ?_⟩
    have hb3 := hbd.kp e3
    rw [add_mk, Nat.zero_add, Nat.mul_one, Int.toNat_natCast]
    refine stx_at _ hb3.h1 (by simp; omega) rfl fun w4 p4 => ?_
    rw [wrap_id (by omega) (by omega)]
    refine hK (k + 1) w4 ⟨by omega, by omega, ⟨p4.at hb3.h0 hb.ne, ?_, hr, hb3.gt.upd p4.upd (fun h => hb.ne0.2 h.symm)⟩, ((hu.trans d1.upd).trans e3.upd).trans p4.upd⟩ (by omega)
    rw [p4.at0]
    refine bl_eq ?_
    rw [Nat.add_zero, setL_one, vals_set]
    refine vals_congr fun k' hk' => ?_
    by_cases hkk : k' = k
    · subst hkk
      rw [up_same]
      have hx := bmRow_lt (fun i => decide (x ≤ i ∧ i < y ∧ i < 64 * k') || bit i) k'
      rw [bv_or hx hm, wrap_u (by omega) (by have := or_lt64 hx hm; omega)]
      refine congrArg U (eq_bmRow (or_lt64 hx hm) fun j hj => ?_)
      rw [Nat.testBit_or, bmRow_bit _ _ hj, hmb j hj]
      rw [decide_eq_false (show ¬ (x ≤ 64 * k' + j ∧ 64 * k' + j < y ∧ 64 * k' + j < 64 * k') by omega), Bool.false_or, Bool.or_comm]
      congr 1
      rw [decide_eq_decide]; omega
    · rw [up_other _ _ hkk]
      refine congrArg U (bmRow_congr fun j hj => ?_)
      rw [show decide (x ≤ 64 * k' + j ∧ 64 * k' + j < y ∧ 64 * k' + j < 64 * k) = decide (x ≤ 64 * k' + j ∧ 64 * k' + j < y ∧ 64 * k' + j < 64 * (k + 1)) by rw [decide_eq_decide]; omega]
  · congr 1
    rw [decide_eq_decide]; omega

theorem c139 (h : Bm w b rb r bit) {x y : Nat} (hxy : x ≤ y) (hy : y ≤ 64 * r) : Ret PR 139 [pt b, I x, I y] w fun v w' => v = I 0 ∧ Bm w' b rb r (fun i => bit i && !inR x y i) ∧ Upd (one rb) w w' := by
  refine Ret.of ((S139_eq _ x y w _).mpr ?_)
  unfold S139
  have hr := h.hr
  refine (c140 h x y).use fun w1 e1 => ⟨_, rfl, ifB_nb (fun hh => absurd (of_decide_eq_false hh) (by simp; omega)) fun _ => ?_⟩
  have e0 : IntKind.i64.wrap ((x : Int).tdiv 64) = ((x / 64 : Nat) : Int) := by rw [Int.tdiv_eq_ediv_of_nonneg (by omega), wrap_id (by omega) (by omega)]; simp
  rw [e0]
  refine loop_rule (fun k : Nat => ((k : Int), ())) (fun k w' => x / 64 ≤ k ∧ k ≤ r ∧ Bm w' b rb r (fun i => bit i && !decide (x ≤ i ∧ i < y ∧ i < 64 * k)) ∧ Upd (one rb) w w') (fun k => 5000 - k) (x / 64) rfl ⟨Nat.le_refl _, by omega, (h.kp e1).congr fun i hi => ?_, e1.upd⟩ ?_
  · rw [decide_eq_false (by omega)]; simp
  rintro k w2 K ⟨hk1, hk2, hb, hu⟩ hK
  show ifB (decide (IntKind.i64.wrap ((k : Int) * 64) < _)) _ _
  rw [wrap_id (x := (k : Int) * 64) (by omega) (by omega)]
  refine ifB_d (fun hlt => ?_) fun hlt => ⟨rfl, hb.congr fun i hi => ?_, hu⟩
  · generalize hwd : World.drew w2 = wd
    have d1 : Kp w2 wd := hwd ▸ ext_drew w2
    have hbd := hb.kp d1
    refine ⟨_, _, _, cell_of hbd.h0 1, ⟨by omega, by omega⟩, (bmRow (fun i => bit i && !decide (x ≤ i ∧ i < y ∧ i < 64 * k)) k : Nat), ?_, ?_⟩
    · rw [add_mk, cell_of hbd.h1, Nat.zero_add, Nat.mul_one, Int.toNat_natCast, vals_lt (by omega)]
    refine (c136 wd (k := k) (a := x) (b := y) (by omega) (by omega) (by omega) (by omega)).use ?_
    rintro _ w3 ⟨⟨m, rfl, hm, hmb⟩, e3⟩
    refine ⟨_, rfl, e3.draw, ⟨by omega, by omega⟩, ?_⟩
    have hb3 := hbd.kp e3
    rw [add_mk, Nat.zero_add, Nat.mul_one, Int.toNat_natCast]
    refine stx_at _ hb3.h1 (by simp; omega) rfl fun w4 p4 => ?_
    rw [wrap_id (by omega) (by omega)]
    refine hK (k + 1) w4 ⟨by omega, by omega, ⟨p4.at hb3.h0 hb.ne, ?_, hr, hb3.gt.upd p4.upd (fun h => hb.ne0.2 h.symm)⟩, ((hu.trans d1.upd).trans e3.upd).trans p4.upd⟩ (by omega)
    rw [p4.at0]
    refine bl_eq ?_
    rw [Nat.add_zero, setL_one, vals_set]
    refine vals_congr fun k' hk' => ?_
    by_cases hkk : k' = k
    · subst hkk
      rw [up_same]
      have hx := bmRow_lt (fun i => bit i && !decide (x ≤ i ∧ i < y ∧ i < 64 * k')) k'
      obtain ⟨z, hz1, hz2, hz3⟩ := bv_andNot hx hm
      rw [hz1, wrap_u (by omega) (by omega)]
      refine congrArg U (eq_bmRow hz2 fun j hj => ?_)
      rw [hz3 j hj, bmRow_bit _ _ hj, hmb j hj]
      rw [decide_eq_false (show ¬ (x ≤ 64 * k' + j ∧ 64 * k' + j < y ∧ 64 * k' + j < 64 * k') by omega), Bool.not_false, Bool.and_true]
      congr 2
      rw [decide_eq_decide]; omega
    · rw [up_other _ _ hkk]
      refine congrArg U (bmRow_congr fun j hj => ?_)
      rw [show decide (x ≤ 64 * k' + j ∧ 64 * k' + j < y ∧ 64 * k' + j < 64 * k) = decide (x ≤ 64 * k' + j ∧ 64 * k' + j < y ∧ 64 * k' + j < 64 * (k + 1)) by rw [decide_eq_decide]; omega]
  · congr 2
    rw [decide_eq_decide]; omega

theorem c58 (h : Bm w b rb r bit) {i : Nat} (hi : i < 64 * r) : Ret PR 58 [pt b, I i] w fun v w' => v = I 0 ∧ Bm w' b rb r (up bit i true) ∧ Upd (one rb) w w' := by
  refine Ret.of ((S58_eq _ i w _).mpr ?_)
  unfold S58
  have hr := h.hr
  rw [wrap_id (by omega) (by omega), show (i : Int) + 1 = ((i + 1 : Nat) : Int) by simp]
  refine (c107 h (x := i) (y := i + 1) (by omega) (by omega)).use ?_
  rintro _ w' ⟨rfl, h1, h2⟩
  refine ⟨_, rfl, rfl, h1.congr fun j hj => ?_, h2⟩
  unfold up
  by_cases hji : j = i
  · rw [if_pos hji, show inR i (i + 1) j = true from decide_eq_true (by omega)]; rfl
  · rw [if_neg hji, show inR i (i + 1) j = false from decide_eq_false (by omega)]; rfl
theorem c104 (h : Bm w b rb r bit) {i : Nat} (hi : i < 64 * r) : Ret PR 104 [pt b, I i] w fun v w' => v = I 0 ∧ Bm w' b rb r (up bit i false) ∧ Upd (one rb) w w' := by
  refine Ret.of ((S104_eq _ i w _).mpr ?_)
  unfold S104
  have hr := h.hr
  rw [wrap_id (by omega) (by omega), show (i : Int) + 1 = ((i + 1 : Nat) : Int) by simp]
  refine (c139 h (x := i) (y := i + 1) (by omega) (by omega)).use ?_
  rintro _ w' ⟨rfl, h1, h2⟩
  refine ⟨_, rfl, rfl, h1.congr fun j hj => ?_, h2⟩
  unfold up
  by_cases hji : j = i
  · rw [if_pos hji, show inR i (i + 1) j = true from decide_eq_true (by omega)]; simp
  · rw [if_neg hji, show inR i (i + 1) j = false from decide_eq_false (by omega)]; simp
end
end Go.Wx
end
section
/- Contracts of the sets of small numbers, second part: counting, the next one, making, going over all. -/
set_option linter.unusedVariables false
set_option maxRecDepth 100000
namespace Go.Wx
open Go

section
variable {w : World} {b rb r : Nat} {bit : Nat → Bool}

theorem c132 (h : Bm w b rb r bit) {x y : Nat} (hxy : x ≤ y) (hy : y ≤ 64 * r) : RetE PR 132 [pt b, I x, I y] w (I (cnt bit x y : Nat)) := by
  refine Ret.of ((S132_eq _ x y w _).mpr ?_)
  unfold S132
  have hr := h.hr
  refine ⟨_, cell_of h.h0 0, ?_⟩
  have e1 : (if (0 : Int) > (x : Int) then (0 : Int) else (x : Int)) = (x : Int) := by rw [if_neg (by omega)]
  have e2 : (if ((64 * r : Nat) : Int) < (y : Int) then ((64 * r : Nat) : Int) else (y : Int)) = (y : Int) := by rw [if_neg (by omega)]
  rw [e1, e2]
  have e0 : IntKind.i64.wrap ((x : Int).tdiv 64) = ((x / 64 : Nat) : Int) := by rw [Int.tdiv_eq_ediv_of_nonneg (by omega), wrap_id (by omega) (by omega)]; simp
  rw [e0]
  obtain ⟨q, hq⟩ : ∃ q : Nat → Bool, q = fun i => bit i && inR x y i := ⟨_, rfl⟩
  refine loop_rule (fun k : Nat => (((cnt q (64 * (x / 64)) (64 * k) : Nat) : Int), (k : Int), ())) (fun k w' => x / 64 ≤ k ∧ k ≤ r ∧ Kp w w') (fun k => 5000 - k) (x / 64) (by simp [cnt_self]) ⟨Nat.le_refl _, by omega, kp0⟩ ?_
  rintro k w1 K ⟨hk1, hk2, hu⟩ hK
  refine join_two ?_
  have fin : ¬ (x < y ∧ 64 * k < y) → I ((cnt q (64 * (x / 64)) (64 * k) : Nat) : Int) = I (cnt bit x y : Nat) := by
    intro hh
    have : cnt q (64 * (x / 64)) (64 * k) = cnt bit x y := by
      by_cases hxy' : x < y
      · rw [cnt_split q (a := 64 * (x / 64)) (b := x) (by omega) (by omega), cnt_split q (a := x) (b := y) (by omega) (by omega)]
        rw [(cnt_zero_iff q).2, (cnt_zero_iff q (a := y)).2]
        · rw [Nat.zero_add, Nat.add_zero]
          exact cnt_congr fun j h1 h2 => by rw [hq]; simp only; rw [show inR x y j = true from decide_eq_true ⟨h1, h2⟩, Bool.and_true]
        · intro j h1 h2; rw [hq]; simp only; rw [show inR x y j = false from decide_eq_false (by omega), Bool.and_false]
        · intro j h1 h2; rw [hq]; simp only; rw [show inR x y j = false from decide_eq_false (by omega), Bool.and_false]
      · rw [cnt_empty bit (by omega), (cnt_zero_iff q).2]
        intro j h1 h2; rw [hq]; simp only; rw [show inR x y j = false from decide_eq_false (by omega), Bool.and_false]
    rw [this]
  show ifB (decide ((x : Int) < y)) (ifB (decide (IntKind.i64.wrap ((k : Int) * 64) < y)) _ _) _
  rw [wrap_id (x := (k : Int) * 64) (by omega) (by omega)]
  refine ifB_d (fun h1 => ifB_d (fun h2 => ?_) fun h2 => ⟨fin (by omega), hu⟩) fun h1 => ⟨fin (by omega), hu⟩
  dsimp only
  generalize hwd : World.drew w1 = wd
  have d1 : Kp w1 wd := hwd ▸ ext_drew w1
  have hb := (h.kp hu).kp d1
  refine ⟨_, _, _, cell_of hb.h0 1, ⟨by omega, by omega⟩, (bmRow bit k : Nat), ?_, ?_⟩
  · show wd.cell? ((Addr.mk rb 0 none).add ((k : Int).toNat * 1)) = _
    rw [add_mk, cell_of hb.h1, Nat.zero_add, Nat.mul_one, Int.toNat_natCast, vals_lt (by omega)]
  refine (c136 wd (k := k) (a := x) (b := y) (by omega) (by omega) (by omega) (by omega)).use ?_
  rintro _ w3 ⟨⟨m, rfl, hm, hmb⟩, e3⟩
  refine ⟨_, rfl, e3.draw, ?_⟩
  have hx := bmRow_lt bit k
  rw [bv_and hx hm, wrap_u (by omega) (by have := and_lt64 m hx; omega)]
  refine (c146 w3 _ (and_lt64 m hx)).use fun w4 e4 => ⟨_, rfl, ?_⟩
  have hc : cnt (bmRow bit k &&& m).testBit 0 64 = cnt q (64 * k) (64 * (k + 1)) := cnt_shift (by omega) fun j hj => by
    rw [Nat.zero_add, Nat.testBit_and, bmRow_bit _ _ (by omega), hmb j (by omega), hq]
  have hl := cnt_le q (64 * (x / 64)) (64 * k)
  have hl2 := cnt_le (bmRow bit k &&& m).testBit 0 64
  have := hK (k + 1) w4 ⟨by omega, by omega, ((hu.trans d1).trans e3).trans e4⟩ (by omega)
  rw [cnt_split q (b := 64 * k) (by omega) (by omega), ← hc] at this
  show K (IntKind.i64.wrap (((cnt q (64 * (x / 64)) (64 * k) : Nat) : Int) + ((cnt (bmRow bit k &&& m).testBit 0 64 : Nat) : Int)), IntKind.i64.wrap ((k : Int) + 1), ()) w4
  rw [wrap_id (x := ((cnt q (64 * (x / 64)) (64 * k) : Nat) : Int) + ((cnt (bmRow bit k &&& m).testBit 0 64 : Nat) : Int)) (by omega) (by omega), wrap_id (x := (k : Int) + 1) (by omega) (by omega)]
  exact this

theorem c81 (h : Bm w b rb r bit) : RetE PR 81 [pt b] w (I (cnt bit 0 (64 * r) : Nat)) := by
  refine Ret.of ((S81_eq _ w _).mpr ?_)
  unfold S81
  refine ⟨_, cell_of h.h0 0, ?_⟩
  refine (c132 h (x := 0) (y := 64 * r) (by omega) (by omega)).use fun w1 e1 => ⟨_, rfl, rfl, e1⟩

theorem c99 (h : Bm w b rb r bit) (x : Int) : RetE PR 99 [pt b, I x] w (I (nxt bit (64 * r) x.toNat)) := by
  refine Ret.of ((S99_eq _ x w _).mpr ?_)
  unfold S99
  have hr := h.hr
  refine ⟨_, cell_of h.h0 0, ?_⟩
  have e1 : (if (0 : Int) > x then (0 : Int) else x) = (x.toNat : Int) := by split <;> omega
  rw [e1]
  generalize x.toNat = x
  refine ifB_d (fun h1 => ⟨?_, kp0⟩) fun h1 => ?_
  · rw [nxt_none fun j a b => by omega]
  have e0 : IntKind.i64.wrap ((x : Int).tdiv 64) = ((x / 64 : Nat) : Int) := by rw [Int.tdiv_eq_ediv_of_nonneg (by omega), wrap_id (by omega) (by omega)]; simp
  rw [e0]
  refine loop_rule (fun k : Nat => ((0 : Int), (k : Int), ())) (fun k w' => x / 64 ≤ k ∧ k ≤ r ∧ Kp w w' ∧ ∀ j, x ≤ j → j < 64 * k → bit j = false) (fun k => 5000 - k) (x / 64) rfl ⟨Nat.le_refl _, by omega, kp0, fun j h1 h2 => by omega⟩ ?_
  rintro k w1 K ⟨hk1, hk2, hu, hno⟩ hK
  have hb := h.kp hu
  refine ⟨_, _, _, cell_of hb.h0 1, ifB_d (fun h2 => ?_) fun h2 => ⟨?_, hu⟩⟩
  · have h2 : (k : Int) < r := h2
    generalize hwd : World.drew w1 = wd
    have d1 : Kp w1 wd := hwd ▸ ext_drew w1
    have hb := hb.kp d1
    refine ⟨_, cell_of hb.h0 0, _, _, _, cell_of hb.h0 1, ⟨by show (0 : Int) ≤ k; omega, h2⟩, (bmRow bit k : Nat), ?_, ?_⟩
    · show wd.cell? ((Addr.mk rb 0 none).add ((k : Int).toNat * 1)) = _
      rw [add_mk, cell_of hb.h1, Nat.zero_add, Nat.mul_one, Int.toNat_natCast, vals_lt (by omega)]
    refine (c136 wd (k := k) (a := x) (b := 64 * r) (by omega) (by omega) (by omega) (by omega)).use ?_
    rintro _ w3 ⟨⟨m, rfl, hm, hmb⟩, e3⟩
    refine ⟨_, rfl, e3.draw, ?_⟩
    have hx := bmRow_lt bit k
    rw [bv_and hx hm, wrap_u (by omega) (by have := and_lt64 m hx; omega)]
    have hbt : ∀ j, j < 64 → (bmRow bit k &&& m).testBit j = (bit (64 * k + j) && decide (x ≤ 64 * k + j)) := fun j hj => by
      rw [Nat.testBit_and, bmRow_bit _ _ hj, hmb j hj]
      rw [show inR x (64 * r) (64 * k + j) = decide (x ≤ 64 * k + j) from by rw [decide_eq_decide]; omega]
    have hlt := and_lt64 m hx
    generalize bmRow bit k &&& m = z at hbt hlt ⊢
    refine ifB_ne (fun hz => ?_) fun hz => ?_
    · rcases nxt_cases z.testBit 64 0 with ⟨_, hn⟩ | ⟨t, _, _, ht1, ht2, ht3⟩
      · exfalso
        apply hz
        have : z = 0 := by
          apply Nat.eq_of_testBit_eq
          intro j
          rw [Nat.zero_testBit]
          by_cases hj : j < 64
          · exact hn j (by omega) hj
          · exact Nat.testBit_lt_two_pow (Nat.lt_of_lt_of_le hlt (Nat.pow_le_pow_right (n := 2) (by omega) (show 64 ≤ j by omega)))
        rw [this]; rfl
      · refine (c137 w3 (hb.kp e3).gt hlt ht1 ht2 (fun j hj => ht3 j (by omega) hj)).use fun w4 e4 => ⟨_, rfl, ?_, ((hu.trans d1).trans e3).trans e4⟩
        show I (IntKind.i64.wrap (IntKind.i64.wrap ((k : Int) * 64) + t)) = _
        rw [wrap_id (x := (k : Int) * 64) (by omega) (by omega), wrap_id (by omega) (by omega)]
        have hbt' := hbt t ht1
        rw [ht2] at hbt'
        have h3 : bit (64 * k + t) = true ∧ x ≤ 64 * k + t := by simpa using hbt'.symm
        rw [nxt_some (j := 64 * k + t) h3.2 (by omega) h3.1]
        · rw [show (k : Int) * 64 + t = ((64 * k + t : Nat) : Int) by simp; omega]
        · intro j ha hb'
          by_cases hj : j < 64 * k
          · exact hno j ha hj
          · have := hbt (j - 64 * k) (by omega)
            rw [ht3 (j - 64 * k) (by omega) (by omega), show 64 * k + (j - 64 * k) = j by omega, decide_eq_true ha, Bool.and_true] at this
            exact this.symm
    · have hz0 : z = 0 := by omega
      subst hz0
      show K (0, IntKind.i64.wrap ((k : Int) + 1), ()) w3
      rw [wrap_id (by omega) (by omega)]
      refine hK (k + 1) w3 ⟨by omega, by omega, (hu.trans d1).trans e3, fun j ha hb' => ?_⟩ (by omega)
      by_cases hj : j < 64 * k
      · exact hno j ha hj
      · have := hbt (j - 64 * k) (by omega)
        rw [Nat.zero_testBit, show 64 * k + (j - 64 * k) = j by omega, decide_eq_true ha, Bool.and_true] at this
        exact this.symm
  · have h2 : ¬ (k : Int) < r := h2
    rw [nxt_none fun j ha hb' => hno j ha (by omega)]

theorem c52 (hg : GT w) {n : Nat} (hn : n ≤ 4096) : Ret PR 52 [I ((64 * n : Nat) : Int)] w fun v w' => ∃ b rb, v = .tuple (Array.mk [pt b, I 0]) ∧ Bm w' b rb n (fun _ => false) ∧ Kp w w' ∧ w.heap.size ≤ b ∧ w.heap.size ≤ rb := by
  refine Ret.of ((S52_eq _ w _).mpr ?_)
  unfold S52
  refine join_two (ifB_d (fun h => by omega) fun h1 => ifB_d (fun h => by omega) fun h2 => ?_)
  dsimp only
  have e : IntKind.i64.wrap ((IntKind.i64.wrap (((64 * n : Nat) : Int) + 63)).tdiv 64) = (n : Int) := by
    rw [wrap_id (x := ((64 * n : Nat) : Int) + 63) (by omega) (by omega), Int.tdiv_eq_ediv_of_nonneg (by omega), wrap_id (by omega) (by omega)]; omega
  rw [e, Int.toNat_natCast]
  have n1 := new_alloc w (Obj.cells (Array.mk (zcells [Value.int IntKind.u64 0] n)) 143)
  generalize w.alloc (Obj.cells (Array.mk (zcells [Value.int IntKind.u64 0] n)) 143) = w1 at n1 ⊢
  refine ⟨⟨by omega, by omega, by omega⟩, atW_new fun w2 n2 => ⟨w1.heap.size, w.heap.size, rfl, ⟨n2.at0, ?_, hn, (hg.kp n1.ext).kp n2.ext⟩, n1.ext.trans n2.ext, n1.ext.sz, Nat.le_refl _⟩⟩
  rw [n2.ext.at n1.at0]
  refine bl_eq ?_
  rw [zcells_one]
  refine vals_congr fun k hk => ?_
  show U 0 = _
  refine congrArg U (eq_bmRow (by omega) fun j hj => by rw [Nat.zero_testBit])

theorem c123 (h : Bm w b rb r bit) : Ret PR 123 [pt b] w fun v w' => v = .tuple (Array.mk []) ∧ Bm w' b rb r (fun _ => false) ∧ Upd (one rb) w w' := by
  refine Ret.of ((S123_eq _ w _).mpr ?_)
  unfold S123
  refine ⟨_, _, _, cell_of h.h0 1, canWr_of h.h1 (by simp), ?_⟩
  refine atW_wrx h.h1 fun w1 p1 => ⟨rfl, ⟨p1.at h.h0 h.ne, ?_, h.hr, h.gt.upd p1.upd (fun hh => h.ne0.2 hh.symm)⟩, p1.upd⟩
  rw [p1.at0]
  refine bl_eq ?_
  rw [zcells_one, setL_vals (by omega)]
  refine vals_congr fun k hk => ?_
  rw [if_pos (by omega)]
  show U 0 = _
  refine congrArg U (eq_bmRow (by omega) fun j hj => by rw [Nat.zero_testBit])

theorem c91 (w : World) (b : Nat) : Ret PR 91 [pt b] w fun v w' => v = .func (.func 134) (Array.mk []) (Array.mk [pt w.heap.size]) ∧ New w (Bl [pt b] 88) w' := by
  refine Ret.of ((S91_eq _ w _).mpr ?_)
  unfold S91
  exact atW_new fun w1 n1 => ⟨rfl, n1⟩
end

theorem callF_of {f : FuncId} (h : okCallee PR f = true) {first caps : Array Value} {args : List Value} {w : World} {R : Ending → World → Prop} (hc : Calls PR f (first.toList ++ args ++ caps.toList).toArray w R) : CallF PR (.func (.func f) first caps) args w R := by
  show ifB _ _ _
  rw [h]; exact hc
theorem ok134 : okCallee PR 134 = true := by kernel_rfl

theorem orL_mem {T : Code → (World → Prop) → Prop} : ∀ {l : List (Code × (World → Prop))} {c : Code} {Q : World → Prop}, (c, Q) ∈ l → T c Q → orL T l
  | [], _, _, h, _ => by simp at h
  | [x], c, Q, h, ht => by
    simp only [List.mem_singleton] at h
    subst h; exact ht
  | x :: y :: r, c, Q, h, ht => by
    rcases List.mem_cons.1 h with h | h
    · subst h; exact .inl ht
    · exact .inr (orL_mem h ht)

/-- A range over a set's numbers: 'Inv i bit W': all below i are done, the set is 'bit' now. -/
theorem range_bits {α : Type} {ar : α → List Value} {round : Nat → Loop → α → World → (Exit → World → Prop) → Prop} {w : World} {js : List (Code × (World → Prop))} {Q : World → Prop} {cb b rb r : Nat} (S : Int → α)
    (has : ∀ i, ar (S i) = [I i]) (hjs : ∀ c Qc, (c, Qc) ∈ js → isOut c = true)
    (Inv : Nat → (Nat → Bool) → World → Prop)
    (hI : ∀ i bit W, Inv i bit W → W.heap[cb]? = some (Bl [pt b] 88) ∧ Bm W b rb r bit)
    (hst : ∀ i bit W W', Inv i bit W → Upd (one (w.heap.size + 1)) W W' → Inv i bit W')
    (bit0 : Nat → Bool) (h0 : ∀ W, Kp w W → W.heap[w.heap.size]? = some (.deferred (some [])) → w.heap.size + 2 ≤ W.heap.size → Inv 0 bit0 W)
    (step : ∀ i bit (j : Nat) W rc K, Inv i bit W → i ≤ j → j < 64 * r → bit j = true → (∀ k, i ≤ k → k < j → bit k = false) → W.heap[w.heap.size + 1]? = some (.loop rc) →
      (∀ bit' W', Inv (j + 1) bit' W' → W'.heap[w.heap.size + 1]? = some (recOf rc .busy none) → K .normal W') →
      (∀ c Qc W', (c, Qc) ∈ js → W'.heap[w.heap.size + 1]? = some (recOf rc .busy none) → (∀ W'', Upd (one (w.heap.size + 1)) W' W'' → Qc W'') → K (exOf c) W') →
      round (w.heap.size + 1) rc (S j) W K)
    (hend : ∀ i bit W, Inv i bit W → (∀ j, i ≤ j → j < 64 * r → bit j = false) → Q W) :
    RangeX α PR (.func (.func 134) (Array.mk []) (Array.mk [pt cb])) ar round w js Q := by
  intro rc hr1 hr2 hr3 hround
  obtain ⟨st, pe, fn, tmps, params, assign, body, defers⟩ := rc
  simp only at hr1 hr2 hr3
  subst hr1 hr2
  refine callF_of ok134 ?_
  have n1 := new_alloc w (.deferred (some []))
  generalize w.alloc (.deferred (some [])) = w1 at n1 ⊢
  have n2 := new_alloc w1 (.loop { state := .ready, pending := none, fn := fn, tmps := tmps, params := params, assign := assign, body := body, defers := defers })
  generalize w1.alloc (.loop { state := .ready, pending := none, fn := fn, tmps := tmps, params := params, assign := assign, body := body, defers := defers }) = w2 at n2 ⊢
  have hl := n2.at0
  rw [n1.sz] at hl
  have hD := n2.ext.at n1.at0
  have hinv := h0 w2 (n1.ext.trans n2.ext) hD (by rw [n2.sz, n1.sz]; omega)
  obtain ⟨rc, hrc⟩ : ∃ rc : Loop, rc = { state := .ready, pending := none, fn := fn, tmps := tmps, params := params, assign := assign, body := body, defers := defers } := ⟨_, rfl⟩
  have hready : recOf rc .ready none = .loop rc := by rw [hrc]; rfl
  rw [← hrc] at hround hl ⊢
  refine Ret.use (Ret.of ((S134_eq (w.heap.size + 1) ⟨cb, 0, none⟩ w2 (fun v W => (W.heap[w.heap.size + 1]? = some (.loop rc) ∧ Q (W.putObj (w.heap.size + 1) (recOf rc .exhausted none))) ∨
       orL (fun j Q => W.heap[w.heap.size + 1]? = some (recOf rc .done (some j)) ∧ Q (W.putObj (w.heap.size + 1) (recOf rc .exhausted (some j)))) js)).mpr ?_)) ?_
  rotate_left
  · intro v W h
    exact ⟨⟨v, rfl⟩, h⟩
  unfold S134
  obtain ⟨hcb, hbm⟩ := hI _ _ _ hinv
  refine ⟨_, cell_of hcb 0, ?_⟩
  refine (c99 hbm 0).use fun w3 e3 => ⟨_, rfl, ?_⟩
  refine loop_rule (fun g : Nat × (Nat → Bool) => (nxt g.2 (64 * r) g.1, ())) (fun g W => Inv g.1 g.2 W ∧ W.heap[w.heap.size + 1]? = some (.loop rc)) (fun g => 64 * r + 1 - g.1) (0, bit0) rfl ⟨hst _ _ _ _ hinv e3.upd, e3.at hl⟩ ?_
  rintro ⟨i, bit⟩ W K ⟨hi, hlW⟩ hK
  simp only at hi hK ⊢
  rcases nxt_cases bit (64 * r) i with ⟨hn, hnn⟩ | ⟨j, hn, hj1, hj2, hj3, hj4⟩
  · rw [hn]
    refine ifB_d (fun h => by omega) fun _ => .inl ⟨hlW, hend i bit _ (hst _ _ _ _ hi (put_putObj _ (lt_of_look hlW)).upd) hnn⟩
  · rw [hn]
    refine ifB_d (fun _ => ?_) fun h => by omega
    have key := hround (S j) W (fun y y_2 => ∃ b, y = Ending.returned (Value.bool b) ∧ ifB (!b) ((y_2.heap[w.heap.size + 1]? = some (.loop rc) ∧ Q (y_2.putObj (w.heap.size + 1) (recOf rc .exhausted none))) ∨
        orL (fun j Q => y_2.heap[w.heap.size + 1]? = some (recOf rc .done (some j)) ∧ Q (y_2.putObj (w.heap.size + 1) (recOf rc .exhausted (some j)))) js)
          (∃ p, y_2.cell? ⟨cb, 0, none⟩ = some (Value.pointer p) ∧ Calls PR 99 (Array.mk [Value.pointer p, Value.int IntKind.i64 (IntKind.i64.wrap ((j : Int) + 1))]) y_2 fun y y_3 => ∃ n, y = Ending.returned (Value.int IntKind.i64 n) ∧ K (n, ()) y_3)) hlW
    rw [has] at key
    refine key (step i bit j W rc _ hi hj1 hj2 hj3 hj4 hlW ?_ ?_)
    · intro bit' W' hi' hb'
      refine ⟨hb', true, rfl, ?_⟩
      rw [hready]
      have p := put_putObj (.loop rc) (lt_of_look hb')
      generalize W'.putObj (w.heap.size + 1) (.loop rc) = W2 at p ⊢
      have hi2 := hst _ _ _ _ hi' p.upd
      obtain ⟨hcb2, hbm2⟩ := hI _ _ _ hi2
      have hr := hbm2.hr
      refine ⟨_, cell_of hcb2 0, ?_⟩
      rw [wrap_id (by omega) (by omega)]
      refine (c99 hbm2 _).use fun w4 e4 => ⟨_, rfl, ?_⟩
      have := hK (j + 1, bit') w4 ⟨hst _ _ _ _ hi2 e4.upd, e4.at p.at0⟩ (by simp only; omega)
      exact this
    · intro c Qc W' hc hb' hq
      have ho := hjs c Qc hc
      have p := put_putObj (recOf rc .done (some c)) (lt_of_look hb')
      have fin : ∃ b, Ending.returned (Value.bool false) = Ending.returned (Value.bool b) ∧ ifB (!b) (((W'.putObj (w.heap.size + 1) (recOf rc .done (some c))).heap[w.heap.size + 1]? = some (.loop rc) ∧ Q ((W'.putObj (w.heap.size + 1) (recOf rc .done (some c))).putObj (w.heap.size + 1) (recOf rc .exhausted none))) ∨
        orL (fun j Q => (W'.putObj (w.heap.size + 1) (recOf rc .done (some c))).heap[w.heap.size + 1]? = some (recOf rc .done (some j)) ∧ Q ((W'.putObj (w.heap.size + 1) (recOf rc .done (some c))).putObj (w.heap.size + 1) (recOf rc .exhausted (some j)))) js)
          (∃ p, (W'.putObj (w.heap.size + 1) (recOf rc .done (some c))).cell? ⟨cb, 0, none⟩ = some (Value.pointer p) ∧ Calls PR 99 (Array.mk [Value.pointer p, Value.int IntKind.i64 (IntKind.i64.wrap ((j : Int) + 1))]) (W'.putObj (w.heap.size + 1) (recOf rc .done (some c))) fun y y_3 => ∃ n, y = Ending.returned (Value.int IntKind.i64 n) ∧ K (n, ()) y_3) :=
        ⟨false, rfl, .inr (orL_mem hc ⟨p.at0, hq _ (p.upd.trans (put_putObj _ (lt_of_look p.at0)).upd)⟩)⟩
      cases c <;> first | (exact ⟨hb', fin⟩) | (simp [isOut] at ho)
end Go.Wx
end
section
/- Contracts of the program's table of pages. -/
set_option linter.unusedVariables false
set_option maxRecDepth 100000
namespace Go.Wx
open Go

/-- A page. -/
structure Pg where
  kind : Int
  cls : Int
  run : Int
  deriving DecidableEq
def Pg.z : Pg := ⟨0, 0, 0⟩
def Pg.cells (p : Pg) : List Value := [I p.kind, I p.cls, I p.run]
@[simp] theorem Pg.cells_length (p : Pg) : p.cells.length = 3 := rfl
def pgs (c : Nat) (P : Nat → Pg) : List Value := recs 3 c fun i => (P i).cells
@[simp] theorem pgs_length (c : Nat) (P : Nat → Pg) : (pgs c P).length = c * 3 := by simp [pgs]
theorem pgs_congr {c : Nat} {P Q : Nat → Pg} (h : ∀ i, i < c → P i = Q i) : pgs c P = pgs c Q := recs_congr fun i hi => by rw [h i hi]
theorem pgs_cell {w : World} {pb c : Nat} {P : Nat → Pg} {t : TypeId} (h : w.heap[pb]? = some (Bl (pgs c P) t)) {i j : Nat} (hi : i < c) (hj : j < 3) : w.cell? ((Addr.add ⟨pb, 0, none⟩ (i * 3)).add j) = (P i).cells[j]? := by
  rw [add_mk, add_mk, cell_of h, Nat.zero_add, pgs, recs_get (fun i => by simp) hi hj]
theorem pgs_set {c i : Nat} {P : Nat → Pg} (q : Pg) (hi : i < c) : setL (pgs c P) (i * 3) q.cells = pgs c (up P i q) := by
  rw [pgs, setL_row (fun i => by simp) (by simp) hi]
  refine recs_congr fun j _ => ?_
  unfold up; split <;> rfl
theorem z3 : ([Value.int IntKind.i64 0, Value.int IntKind.i64 0, Value.int IntKind.i64 0] : List Value) = Pg.z.cells := rfl
theorem pgs_clear {c i m : Nat} {P : Nat → Pg} (h : i + m ≤ c) : setL (pgs c P) (i * 3) (zcells [Value.int IntKind.i64 0, Value.int IntKind.i64 0, Value.int IntKind.i64 0] m) = pgs c (fun j => if i ≤ j ∧ j < i + m then Pg.z else P j) := by
  rw [z3, zcells_recs (z := 3) rfl, pgs, setL_recs (z := 3) (fun i => by simp) (fun _ => rfl) h]
  refine recs_congr fun j _ => ?_
  dsimp only
  split <;> rfl

abbrev fp (P : Nat → Pg) (i : Nat) : Bool := decide ((P i).kind = 0)

structure Tb (w : World) (tb pb n c : Nat) (P : Nat → Pg) (low : Nat) (free : Int) : Prop where
  h0 : w.heap[tb]? = some (Bl [.slice (some ⟨pb, 0, none⟩) n c, I low, I free] 137)
  h1 : w.heap[pb]? = some (Bl (pgs c P) 152)
  hlow : low ≤ n
  low_no : ∀ i, i < low → (P i).kind ≠ 0
  hc : n ≤ c
  hn : n ≤ 4096
  hz : ∀ i, i < n → (P i).kind = 0 → P i = Pg.z

abbrev two (a b : Nat) : Nat → Prop := fun c => c = a ∨ c = b

section
variable {w : World} {tb pb n c low : Nat} {P : Nat → Pg} {free : Int}

theorem Tb.upd {F : Nat → Prop} {w' : World} (h : Tb w tb pb n c P low free) (u : Upd F w w') (hb : ¬ F tb) (hrb : ¬ F pb) : Tb w' tb pb n c P low free :=
  ⟨u.at h.h0 hb, u.at h.h1 hrb, h.hlow, h.low_no, h.hc, h.hn, h.hz⟩
theorem Tb.kp {w' : World} (h : Tb w tb pb n c P low free) (u : Kp w w') : Tb w' tb pb n c P low free := h.upd u (fun h => h) (fun h => h)
theorem Tb.ne (h : Tb w tb pb n c P low free) : tb ≠ pb := by
  rintro rfl
  have := h.h1
  rw [h.h0] at this
  injection this with this
  injection this with _ h2
  cases h2

theorem c124 (h : Tb w tb pb n c P low free) : RetE PR 124 [pt tb] w (I n) := by
  refine Ret.of ((S124_eq _ w _).mpr ?_)
  unfold S124
  exact ⟨_, _, _, cell_of h.h0 0, rfl, kp0⟩

theorem c130 (h : Tb w tb pb n c P low free) {i : Nat} (hi : i < n) : RetE PR 130 [pt tb, I i] w (.bool (fp P i)) := by
  refine Ret.of ((S130_eq _ _ w _).mpr ?_)
  unfold S130
  have hic : i < c := Nat.lt_of_lt_of_le hi h.hc
  refine ⟨_, _, _, cell_of h.h0 0, ⟨by omega, by omega⟩, ?_⟩
  refine ⟨_, pgs_cell (i := i) h.h1 hic (by omega), _, pgs_cell (i := i) h.h1 hic (by omega), _, pgs_cell (i := i) h.h1 hic (by omega), ?_, kp0⟩
  congr 1
  by_cases hk : (P i).kind = 0
  · rw [show fp P i = true from decide_eq_true hk, h.hz i hi hk]; rfl
  · rw [show fp P i = false from decide_eq_false hk, show ((P i).kind == 0) = false by simpa using hk]; rfl

theorem c129 (h : Tb w tb pb n c P low free) : Ret PR 129 [pt tb] w fun v w' => v = .tuple (Array.mk []) ∧ (∃ low', Tb w' tb pb n c P low' free ∧ (low' = n ∨ (low' < n ∧ (P low').kind = 0))) ∧ Upd (one tb) w w' := by
  refine Ret.of ((S129_eq _ w _).mpr ?_)
  unfold S129
  refine loop_rule (fun _ : Nat => ()) (fun l w' => Tb w' tb pb n c P l free ∧ Upd (one tb) w w') (fun l => n - l) low rfl ⟨h, Upd.refl⟩ ?_
  rintro l w1 K ⟨h1, hu⟩ hK
  refine join_two ?_
  dsimp only
  generalize hwd : World.drew w1 = wd
  have d1 : Kp w1 wd := hwd ▸ ext_drew w1
  have h2 := h1.kp d1
  refine ⟨_, cell_of h2.h0 1, _, _, _, cell_of h2.h0 0, ifB_d (fun hl => ⟨_, cell_of h2.h0 1, ?_⟩) fun hl => ⟨rfl, ⟨l, h2, .inl (by have := h1.hlow; omega)⟩, hu.trans d1.upd⟩⟩
  refine (c130 h2 (by omega)).use fun w2 e2 => ⟨_, rfl, ifB_nb (fun hb => ?_) fun hb => ⟨rfl, ⟨l, h2.kp e2, .inr ⟨by omega, by simpa using hb⟩⟩, (hu.trans d1.upd).trans e2.upd⟩⟩
  have h3 := h2.kp e2
  refine ⟨_, cell_of h3.h0 1, stx_at (i := 1) _ h3.h0 (by simp) rfl fun w3 p3 => ?_⟩
  refine hK (l + 1) w3 ⟨⟨?_, p3.at h3.h1 h3.ne.symm, by omega, ?_, h3.hc, h3.hn, h3.hz⟩, ((hu.trans d1.upd).trans e2.upd).trans p3.upd⟩ (by omega)
  · have := p3.at0
    rwa [show setL [Value.slice (some ⟨pb, 0, none⟩) n c, I l, I free] (1 + 0) [Value.int IntKind.i64 (IntKind.i64.wrap ((l : Int) + 1))] = [Value.slice (some ⟨pb, 0, none⟩) n c, I ((l + 1 : Nat) : Int), I free] by
      have := h1.hn; rw [wrap_id (by omega) (by omega)]; rfl] at this
  · intro i hi
    by_cases hil : i = l
    · subst hil; simpa using hb
    · exact h3.low_no i (by omega)

theorem c82 (h : Tb w tb pb n c P low free) {cl : Nat} (hcl : cl < 8) : Ret PR 82 [pt tb, I cl] w fun v w' =>
    ((nxt (fp P) n 0 = -1 ∧ v = .tuple (Array.mk [I 0, I 20]) ∧ ∃ low' free', Tb w' tb pb n c P low' free') ∨
     (∃ k : Nat, nxt (fp P) n 0 = k ∧ k < n ∧ v = .tuple (Array.mk [I k, I 0]) ∧ ∃ low' free', Tb w' tb pb n c (up P k ⟨1, cl, 0⟩) low' free')) ∧ Upd (two tb pb) w w' := by
  refine Ret.of ((S82_eq _ _ w _).mpr ?_)
  unfold S82
  have hwd := wdN_pos hcl
  refine (c105 w cl).use fun w1 e1 => ⟨_, rfl, ?_⟩
  rw [wdS_nat hcl]
  refine ifB_eq (fun hh => by omega) fun _ => ?_
  refine (c129 (h.kp e1)).use ?_
  rintro _ w2 ⟨rfl, ⟨l, h2, hl⟩, u2⟩
  refine ⟨rfl, ?_⟩
  have hu2 : Upd (two tb pb) w w2 := e1.upd.trans (u2.mono fun b hb => .inl hb)
  generalize hwd : World.drew w2 = wd
  have d1 : Kp w2 wd := hwd ▸ ext_drew w2
  have h3 := h2.kp d1
  refine ⟨_, cell_of h3.h0 1, _, _, _, cell_of h3.h0 0, ifB_eq (fun hh => ⟨.inl ⟨nxt_none fun j _ hj => ?_, rfl, l, free, h3⟩, hu2.trans d1.upd⟩) fun hh => ?_⟩
  · exact decide_eq_false (h3.low_no j (by omega))
  generalize hwd2 : World.drew wd = wd2
  have d2 : Kp wd wd2 := hwd2 ▸ ext_drew wd
  have h4 := h3.kp d2
  have hln : l < n := by have := h4.hlow; omega
  have hlk : (P l).kind = 0 := by rcases hl with hl | hl; omega; exact hl.2
  have hlc : l < c := Nat.lt_of_lt_of_le hln h4.hc
  refine ⟨_, _, _, cell_of h4.h0 0, _, cell_of h4.h0 1, ⟨by omega, by omega⟩, ?_⟩
  simp only [add_mk, Int.toNat_natCast, Nat.zero_add]
  refine stx_at (cs := pgs c P) _ h4.h1 (by simp; omega) rfl fun w3 p3 => ?_
  have hp3 := p3.at0
  rw [Nat.add_zero, show ([Value.int IntKind.i64 1, Value.int IntKind.i64 (cl : Int), Value.int IntKind.i64 0] : List Value) = Pg.cells ⟨1, cl, 0⟩ from rfl, pgs_set _ hlc] at hp3
  have h5 := p3.at h4.h0 h4.ne
  refine ⟨_, cell_of h5 2, stx_at (i := 2) _ h5 (by simp) rfl fun w4 p4 => ?_⟩
  refine ⟨_, cell_of p4.at0 1, .inr ⟨l, nxt_some (Nat.zero_le _) hln (decide_eq_true hlk) (fun k _ hk => decide_eq_false (h4.low_no k hk)), hln, rfl, l, _, p4.at0, p4.at hp3 h4.ne.symm, h4.hlow, ?_, h4.hc, h4.hn, ?_⟩, ?_⟩
  · intro i hi; rw [up_other _ _ (by omega)]; exact h4.low_no i hi
  · intro i hi hk
    by_cases hil : i = l
    · subst hil; rw [up_same] at hk; simp at hk
    · rw [up_other _ _ hil] at hk ⊢; exact h4.hz i hi hk
  · exact (((hu2.trans d1.upd).trans d2.upd).trans (p3.upd.mono fun b hb => .inr hb)).trans (p4.upd.mono fun b hb => .inl hb)

/-- A row of m free pages from p on. -/
def rowB (P : Nat → Pg) (n m p : Nat) : Bool := decide (p + m ≤ n ∧ ∀ j, j < m → (P (p + j)).kind = 0)
def runP (P : Nat → Pg) (p m : Nat) : Nat → Pg := fun i => if i = p then ⟨2, 0, m⟩ else if p ≤ i ∧ i < p + m then ⟨3, 0, 0⟩ else P i

theorem c131 (h : Tb w tb pb n c P low free) {p m : Nat} (hm : 1 ≤ m) (hpm : p + m ≤ n) : Ret PR 131 [pt tb, I p, I m] w fun v w' => v = I p ∧ (∃ free', Tb w' tb pb n c (runP P p m) low free') ∧ Upd (two tb pb) w w' := by
  refine Ret.of ((S131_eq _ _ _ w _).mpr ?_)
  unfold S131
  have hn := h.hn
  refine loop_rule (fun i : Nat => ((i : Int), ())) (fun i w' => i ≤ m ∧ Tb w' tb pb n c (fun j => if p ≤ j ∧ j < p + i then ⟨3, 0, 0⟩ else P j) low free ∧ Upd (two tb pb) w w') (fun i => m - i) 0 rfl ⟨by omega, ?_, Upd.refl⟩ ?_
  · have : (fun j => if p ≤ j ∧ j < p + 0 then (⟨3, 0, 0⟩ : Pg) else P j) = P := by funext j; rw [if_neg (by omega)]
    rw [this]; exact h
  rintro i w1 K ⟨hi, h1, hu⟩ hK
  have hpc : p < c := by have := h1.hc; omega
  refine ifB_d (fun hlt => ?_) fun hlt => ?_
  · have hlt : i < m := by simpa using hlt
    have hic : p + i < c := by have := h1.hc; omega
    refine ⟨_, _, _, cell_of h1.h0 0, ?_⟩
    have e : IntKind.i64.wrap ((p : Int) + ((i : Int), ()).fst) = ((p + i : Nat) : Int) := by show IntKind.i64.wrap ((p : Int) + (i : Int)) = _; rw [wrap_id (by omega) (by omega)]; simp
    rw [e]
    refine ⟨⟨by omega, by omega⟩, ?_⟩
    simp only [add_mk, Int.toNat_natCast, Nat.zero_add]
    refine stx_at _ h1.h1 (by simp; omega) rfl fun w3 p3 => ?_
    have hp3 := p3.at0
    rw [Nat.add_zero, show ([Value.int IntKind.i64 3, Value.int IntKind.i64 0, Value.int IntKind.i64 0] : List Value) = Pg.cells ⟨3, 0, 0⟩ from rfl, pgs_set _ hic] at hp3
    rw [wrap_id (by omega) (by omega)]
    have hf : up (fun j => if p ≤ j ∧ j < p + i then (⟨3, 0, 0⟩ : Pg) else P j) (p + i) ⟨3, 0, 0⟩ = fun j => if p ≤ j ∧ j < p + (i + 1) then ⟨3, 0, 0⟩ else P j := by
      funext j
      unfold up
      dsimp only
      by_cases hj : j = p + i
      · rw [if_pos hj, if_pos (by omega)]
      · rw [if_neg hj]
        by_cases hj2 : p ≤ j ∧ j < p + i
        · rw [if_pos hj2, if_pos (by omega)]
        · rw [if_neg hj2, if_neg (by omega)]
    rw [hf] at hp3
    refine hK (i + 1) w3 ⟨hlt, ⟨p3.at h1.h0 h1.ne, hp3, h1.hlow, ?_, h1.hc, h1.hn, ?_⟩, hu.trans (p3.upd.mono fun b hb => .inr hb)⟩ (by omega)
    · intro j hj
      split
      · simp
      · exact h.low_no j hj
    · intro j hj
      split
      · simp
      · exact h.hz j hj
  · have him : i = m := by simp at hlt; omega
    subst him
    refine ⟨_, _, _, cell_of h1.h0 0, ⟨by omega, by omega⟩, ?_⟩
    simp only [add_mk, Int.toNat_natCast, Nat.zero_add]
    refine stx_at _ h1.h1 (by simp; omega) rfl fun w3 p3 => ?_
    have hp3 := p3.at0
    rw [Nat.add_zero, show ([Value.int IntKind.i64 2, Value.int IntKind.i64 0, Value.int IntKind.i64 (i : Int)] : List Value) = Pg.cells ⟨2, 0, i⟩ from rfl, pgs_set _ hpc] at hp3
    have h5 := p3.at h1.h0 h1.ne
    refine ⟨_, cell_of h5 2, stx_at (i := 2) _ h5 (by simp) rfl fun w4 p4 => ⟨trivial, ⟨_, p4.at0, p4.at hp3 h1.ne.symm, h1.hlow, ?_, h1.hc, h1.hn, ?_⟩, ?_⟩⟩
    · intro j hj
      unfold runP
      split
      · simp
      · split
        · simp
        · exact h.low_no j hj
    · intro j hj
      unfold runP
      split
      · simp
      · split
        · simp
        · exact h.hz j hj
    · exact (hu.trans (p3.upd.mono fun b hb => .inr hb)).trans (p4.upd.mono fun b hb => .inl hb)

theorem rowB_iff {P : Nat → Pg} {n m p : Nat} : rowB P n m p = true ↔ p + m ≤ n ∧ ∀ j, j < m → (P (p + j)).kind = 0 := by simp [rowB]
theorem rowB_no {P : Nat → Pg} {n m p j : Nat} (h1 : p ≤ j) (h2 : j < p + m) (h : (P j).kind ≠ 0) : rowB P n m p = false := by
  cases hh : rowB P n m p with
  | false => rfl
  | true =>
    have := (rowB_iff.1 hh).2 (j - p) (by omega)
    rw [show p + (j - p) = j by omega] at this
    exact absurd this h
/-- What a search for a row knows, at page i, behind k free ones. -/
structure RowI (P : Nat → Pg) (n m i k : Nat) : Prop where
  ki : k ≤ i
  km : k < m
  no : ∀ p, p + m ≤ i → rowB P n m p = false
  free : ∀ j, i - k ≤ j → j < i → (P j).kind = 0
  edge : i = k ∨ (P (i - k - 1)).kind ≠ 0
theorem RowI.next {P : Nat → Pg} {n m i k : Nat} (h : RowI P n m i k) (hi : (P i).kind = 0) (hk : k + 1 < m) : RowI P n m (i + 1) (k + 1) := by
  have := h.ki
  refine ⟨by omega, hk, fun p hp => ?_, fun j h1 h2 => ?_, ?_⟩
  · by_cases hp' : p + m ≤ i
    · exact h.no p hp'
    · rcases h.edge with he | he
      · omega
      · exact rowB_no (j := i - k - 1) (by omega) (by omega) he
  · by_cases hj : j = i
    · subst hj; exact hi
    · exact h.free j (by omega) (by omega)
  · rcases h.edge with he | he
    · left; omega
    · right; rw [show i + 1 - (k + 1) - 1 = i - k - 1 by omega]; exact he
theorem RowI.reset {P : Nat → Pg} {n m i k : Nat} (h : RowI P n m i k) (hi : (P i).kind ≠ 0) : RowI P n m (i + 1) 0 := by
  have := h.km
  refine ⟨by omega, by omega, fun p hp => ?_, fun j h1 h2 => by omega, .inr (by simpa using hi)⟩
  by_cases hp' : p + m ≤ i
  · exact h.no p hp'
  · exact rowB_no (j := i) (by omega) (by omega) hi
theorem RowI.found {P : Nat → Pg} {n m i k : Nat} (h : RowI P n m i k) (hi : (P i).kind = 0) (hk : k + 1 = m) (hin : i < n) : nxt (rowB P n m) n 0 = ((i + 1 - m : Nat) : Int) ∧ i + 1 - m + m ≤ n := by
  have := h.ki
  refine ⟨nxt_some (by omega) (by omega) (rowB_iff.2 ⟨by omega, fun j hj => ?_⟩) fun k _ hk => h.no k (by omega), by omega⟩
  by_cases hj' : i + 1 - m + j = i
  · rw [hj']; exact hi
  · exact h.free _ (by omega) (by omega)
theorem RowI.none {P : Nat → Pg} {n m k : Nat} (h : RowI P n m n k) : nxt (rowB P n m) n 0 = -1 := by
  refine nxt_none fun p _ hp => ?_
  by_cases hp' : p + m ≤ n
  · exact h.no p hp'
  · rw [rowB, decide_eq_false]; omega

theorem c79 (h : Tb w tb pb n c P low free) {m : Nat} (hm1 : 1 ≤ m) (hm2 : m ≤ 16) : Ret PR 79 [pt tb, I m] w fun v w' =>
    ((nxt (rowB P n m) n 0 = -1 ∧ v = .tuple (Array.mk [I 0, I 20]) ∧ ∃ low' free', Tb w' tb pb n c P low' free') ∨
     (∃ k : Nat, nxt (rowB P n m) n 0 = k ∧ k + m ≤ n ∧ v = .tuple (Array.mk [I k, I 0]) ∧ ∃ low' free', Tb w' tb pb n c (runP P k m) low' free')) ∧ Upd (two tb pb) w w' := by
  refine Ret.of ((S79_eq _ _ w _).mpr ?_)
  unfold S79
  refine join_two (ifB_d (fun hh => by omega) fun _ => ifB_d (fun hh => by omega) fun _ => ?_)
  dsimp only
  refine (c129 h).use ?_
  rintro _ w2 ⟨rfl, ⟨l, h2, hl⟩, u2⟩
  have hu2 : Upd (two tb pb) w w2 := u2.mono fun b hb => .inl hb
  have hn := h2.hn
  refine ⟨rfl, _, cell_of h2.h0 1, ?_⟩
  refine loop_rule (fun g : Nat × Nat => ((0 : Int), (0 : Int), (g.2 : Int), (g.1 : Int), ())) (fun g w' => Tb w' tb pb n c P l free ∧ g.1 ≤ n ∧ RowI P n m g.1 g.2 ∧ Upd (two tb pb) w w') (fun g => n - g.1) (l, 0) rfl ⟨h2, h2.hlow, ⟨by omega, by omega, fun p hp => rowB_no (j := p) (by omega) (by omega) (h2.low_no p (by simp only at hp; omega)), fun j h1 h2 => by omega, ?_⟩, hu2⟩ ?_
  · by_cases h0 : l = 0
    · exact .inl h0
    · exact .inr (h2.low_no _ (by simp only; omega))
  rintro ⟨i, k⟩ w3 K ⟨h3, hin, hr, hu3⟩ hK
  dsimp only at hin hr hK ⊢
  refine ⟨_, _, _, cell_of h3.h0 0, ifB_d (fun hlt => ?_) fun hlt => ⟨.inl ⟨?_, rfl, l, free, h3⟩, hu3⟩⟩
  · have hlt : i < n := by omega
    refine (c130 h3 hlt).use fun w4 e4 => ⟨_, rfl, ?_⟩
    have h4 := h3.kp e4
    have hu4 := hu3.trans e4.upd
    have hkm := hr.km
    rw [wrap_id (x := (i : Int) + 1) (by omega) (by omega), wrap_id (x := (k : Int) + 1) (by omega) (by omega)]
    refine ifB_nb (fun hb => ?_) fun hb => ifB_eq (fun hh => ?_) fun hh => ?_
    · exact hK (i + 1, 0) w4 ⟨h4, hlt, hr.reset (by simpa using hb), hu4⟩ (by dsimp only; omega)
    · obtain ⟨hf, hle⟩ := hr.found (by simpa using hb) (by omega) hlt
      have hki := hr.ki
      rw [wrap_id (x := (i : Int) - m) (by omega) (by omega), wrap_id (by omega) (by omega), show (i : Int) - m + 1 = ((i + 1 - m : Nat) : Int) by omega]
      refine (c131 h4 hm1 hle).use ?_
      rintro _ w5 ⟨rfl, ⟨f', h5⟩, u5⟩
      exact ⟨_, rfl, .inr ⟨_, hf, hle, rfl, l, f', h5⟩, hu4.trans u5⟩
    · exact hK (i + 1, k + 1) w4 ⟨h4, hlt, hr.next (by simpa using hb) (by omega), hu4⟩ (by dsimp only; omega)
  · have : i = n := by omega
    subst this
    exact hr.none

def pgM (q : Pg) : Nat := if q.kind = 2 then q.run.toNat else 1
def giveP (P : Nat → Pg) (p : Nat) : Nat → Pg := fun i => if p ≤ i ∧ i < p + pgM (P p) then Pg.z else P i

theorem c144 (h : Tb w tb pb n c P low free) {p : Nat} (hp : p + pgM (P p) ≤ n) (hk : (P p).kind = 1 ∧ (P p).run = 0 ∨ (P p).kind = 2 ∧ 1 ≤ (P p).run) : Ret PR 144 [pt tb, I p] w fun v w' => v = I 0 ∧ (∃ low' free', Tb w' tb pb n c (giveP P p) low' free') ∧ Upd (two tb pb) w w' := by
  have hm1 : 1 ≤ pgM (P p) := by unfold pgM; split <;> omega
  have hmr : (if (P p).run > 1 then (P p).run else 1) = ((pgM (P p) : Nat) : Int) := by
    unfold pgM
    rcases hk with ⟨h1, h2⟩ | ⟨h1, h2⟩
    · rw [if_neg (by omega), if_neg (by omega)]; rfl
    · rw [if_pos h1]; split <;> omega
  have hpn : p < n := by omega
  have hn := h.hn
  have hpc : p + pgM (P p) ≤ c := Nat.le_trans hp h.hc
  refine Ret.of ((S144_eq _ _ w _).mpr ?_)
  unfold S144
  refine join_two (ifB_d (fun hh => by omega) fun _ => ⟨_, _, _, cell_of h.h0 0, ifB_d (fun hh => by omega) fun _ => ?_⟩)
  refine (c130 h hpn).use fun w1 e1 => ⟨_, rfl, ifB_d (fun hh => by omega) fun _ => ?_⟩
  have h1 := h.kp e1
  refine ⟨_, _, _, cell_of h1.h0 0, ⟨by omega, by omega⟩, ?_⟩
  refine ⟨_, pgs_cell (i := p) h1.h1 (by omega) (by omega), ifB_eq (fun hh => by omega) fun _ => ?_⟩
  refine ⟨_, _, _, cell_of h1.h0 0, ⟨by omega, by omega⟩, ?_⟩
  refine ⟨_, pgs_cell (i := p) h1.h1 (by omega) (by omega), _, _, _, cell_of h1.h0 0, ?_⟩
  rw [hmr, wrap_id (x := (p : Int) + ((pgM (P p) : Nat) : Int)) (by omega) (by omega), show (p : Int) + ((pgM (P p) : Nat) : Int) = ((p + pgM (P p) : Nat) : Int) by simp]
  refine ⟨⟨by omega, by omega⟩, ⟨by omega, by omega⟩, ?_⟩
  rw [if_neg (show ¬ c = (p : Int).toNat by omega)]
  simp only [Option.map_some, add_mk, Int.toNat_natCast, Nat.zero_add, Nat.add_sub_cancel_left]
  refine ⟨canWr_of h1.h1 (by simp only [pgs_length]; have := Nat.mul_le_mul_right 3 hpc; omega), atW_wrx h1.h1 fun w2 p2 => ?_⟩
  have hp2 := p2.at0
  rw [pgs_clear hpc] at hp2
  have h5 := p2.at h1.h0 h1.ne
  refine ⟨_, cell_of h5 2, stx_at (i := 2) _ h5 (by simp) rfl fun w3 p3 => ⟨_, cell_of p3.at0 1, stx_at (i := 1) _ p3.at0 (by simp [setL]) rfl fun w4 p4 => ⟨trivial, ?_, ?_⟩⟩⟩
  · refine ⟨if p < low then p else low, IntKind.i64.wrap (free + ((pgM (P p) : Nat) : Int)), ?_, p4.at (p3.at hp2 h1.ne.symm) h1.ne.symm, ?_, ?_, h.hc, h.hn, ?_⟩
    · have := p4.at0
      rw [this]
      refine bl_eq ?_
      simp only [setL, List.set]
      have e : (if (p : Int) < (low : Int) then (p : Int) else (low : Int)) = ((if p < low then p else low : Nat) : Int) := by
        by_cases hpl : p < low
        · rw [if_pos hpl, if_pos (by omega)]
        · rw [if_neg hpl, if_neg (by omega)]
      rw [e]
    · have := h.hlow; split <;> omega
    · intro i hi
      have : i < low ∧ i < p := by split at hi <;> omega
      rw [giveP, if_neg (by omega)]
      exact h.low_no i this.1
    · intro i hi
      unfold giveP
      split
      · intro _; rfl
      · exact h.hz i hi
  · exact ((e1.upd.trans (p2.upd.mono fun b hb => .inr hb)).trans (p3.upd.mono fun b hb => .inl hb)).trans (p4.upd.mono fun b hb => .inl hb)

theorem c145 (h : Tb w tb pb n c P low free) {p : Nat} (hp : p < n) : RetE PR 145 [pt tb, I p] w (.tuple (Array.mk [.agg (Array.mk (P p).cells), .bool true])) := by
  refine Ret.of ((S145_eq _ _ w _).mpr ?_)
  unfold S145
  refine atW_new fun w1 n1 => join_two (ifB_d (fun hh => by omega) fun _ => ⟨_, _, _, cell_of (h.kp n1.ext).h0 0, ifB_d (fun hh => by omega) fun _ => ?_⟩)
  have h1 := h.kp n1.ext
  have hpc : p < c := Nat.lt_of_lt_of_le hp h.hc
  refine ⟨_, _, _, cell_of h1.h0 0, ⟨by omega, by omega⟩, ?_⟩
  refine ⟨_, pgs_cell (i := p) h1.h1 hpc (by omega), _, pgs_cell (i := p) h1.h1 hpc (by omega), _, pgs_cell (i := p) h1.h1 hpc (by omega), ?_⟩
  refine stx_at _ n1.at0 (by simp) rfl fun w2 p2 => ⟨_, cell_of p2.at0 0, _, cell_of p2.at0 1, _, cell_of p2.at0 2, rfl, n1.ext.tr p2.upd fun b hb => .inr (by simp only [one] at hb; omega)⟩
end
end Go.Wx
end
section
/- Copies of lists; contracts of making and copying tables of pages, and of the reference's table. -/
set_option linter.unusedVariables false
set_option maxRecDepth 100000
namespace Go.Wx
open Go

theorem new_drew {w w' : World} {o : Obj} (h : New w.drew o w') : New w o w' := ⟨h.at0, h.sz, ⟨h.ext.sz, h.ext.kp, h.ext.st⟩⟩

theorem rdx_at {w : World} {b : Nat} {cs : List Value} {t : TypeId} (h : w.heap[b]? = some (Bl cs t)) {o n : Nat} (hn : o + n ≤ cs.length) : rdx w (some ⟨b, o, none⟩) n ((cs.drop o).take n) := by
  refine ⟨by simp; omega, fun i hi => ?_⟩
  rw [add_mk, cell_of h, List.getElem?_take_of_lt hi, List.getElem?_drop]
theorem rdx_nil {w : World} : rdx w none 0 [] := ⟨rfl, rfl⟩

/-- append of a list that is not empty to none. -/
theorem copy_at {w : World} {b : Nat} {cs z : List Value} {t el : TypeId} {l sz bytes : Nat} {R : Option Addr → Nat → World → Prop} (h : w.heap[b]? = some (Bl cs t)) (hl : 1 ≤ l) (hlen : l * sz ≤ cs.length) (hf : ∀ v, v ∈ cs.take (l * sz) → isLeaf v = true)
    (hb : (0 + l) * bytes ≤ 1099511627776) (hk : ∀ c w', l ≤ c → New w (Bl (cs.take (l * sz) ++ zcells z (c - l)) el) w' → R (some ⟨w.heap.size, 0, none⟩) c w') :
    ∃ old new, rdx w none 0 old ∧ rdx w (some ⟨b, 0, none⟩) (l * sz) new ∧ (∀ v : Value, List.Mem v new → isLeaf v = true) ∧ (0 + l) * bytes ≤ 1099511627776 ∧ canApp w none 0 0 l sz ∧
      ∀ (b : Option Addr) (c : Nat) (w' : World), AppTo w none 0 0 l sz old new z el b c w' → R b c w' := by
  refine ⟨[], cs.take (l * sz), rdx_nil, ?_, fun v hv => hf v hv, hb, fun _ => trivial, ?_⟩
  · have := rdx_at h (o := 0) (n := l * sz) (by omega)
    simpa using this
  · rintro b' c w' (⟨h1, _⟩ | ⟨h1, h2, rfl, rfl⟩)
    · omega
    · refine hk c _ (by omega) (new_drew ?_)
      have := new_alloc w.drew (Bl (cs.take (l * sz) ++ zcells z (c - l)) el)
      simpa using this

theorem vals_leaf {m : Nat} {g : Nat → Value} (h : ∀ i, isLeaf (g i) = true) : ∀ v, v ∈ vals m g → isLeaf v = true := by
  intro v hv
  obtain ⟨i, _, rfl⟩ := List.mem_map.1 hv
  exact h i
theorem recs_leaf {z m : Nat} {g : Nat → List Value} (hg : ∀ i, (g i).length = z) (h : ∀ i, ∀ v ∈ g i, isLeaf v = true) : ∀ v, v ∈ recs z m g → isLeaf v = true := by
  intro v hv
  obtain ⟨i, hi, rfl⟩ := List.mem_map.1 hv
  have hi := List.mem_range.1 hi
  have hz : 0 < z := by
    rcases Nat.eq_zero_or_pos z with h | h
    · subst h; simp at hi
    · exact h
  have h2 : i % z < (g (i / z)).length := by rw [hg]; exact Nat.mod_lt _ hz
  rw [List.getElem?_eq_getElem h2]
  exact h _ _ (List.getElem_mem _)
theorem vals_copy {n c c' : Nat} {g : Nat → Value} {v : Value} (h1 : n ≤ c) (h2 : n ≤ c') : (vals c g).take (n * 1) ++ zcells [v] (c' - n) = vals c' fun i => if i < n then g i else v := by
  rw [zcells_one, Nat.mul_one]
  apply eq_vals (by simp; omega)
  intro i hi
  by_cases hin : i < n
  · rw [List.getElem?_append_left (by simp; omega), List.getElem?_take_of_lt hin, vals_lt (by omega), if_pos hin]
  · rw [List.getElem?_append_right (by simp; omega), vals_lt (by simp; omega), if_neg hin]
theorem recs_copy {z n c c' : Nat} {g : Nat → List Value} {row : List Value} (hg : ∀ i, (g i).length = z) (hr : row.length = z) (h1 : n ≤ c) (h2 : n ≤ c') : (recs z c g).take (n * z) ++ zcells row (c' - n) = recs z c' fun i => if i < n then g i else row := by
  have hle : n * z ≤ c * z := Nat.mul_le_mul_right z h1
  have hle2 : n * z ≤ c' * z := Nat.mul_le_mul_right z h2
  have hL : ((recs z c g).take (n * z)).length = n * z := by rw [List.length_take, recs_length]; omega
  rw [zcells_recs hr]
  apply eq_recs (by intro i; split <;> simp [hg, hr]) (by rw [List.length_append, hL, recs_length, Nat.sub_mul]; omega)
  intro i j hi hj
  by_cases hin : i < n
  · have : (i + 1) * z ≤ n * z := Nat.mul_le_mul_right z hin
    rw [Nat.add_mul] at this
    rw [List.getElem?_append_left (by rw [hL]; omega), List.getElem?_take_of_lt (by omega), recs_get hg (by omega) hj, if_pos hin]
  · have : n * z ≤ i * z := Nat.mul_le_mul_right z (by omega)
    rw [List.getElem?_append_right (by rw [hL]; omega), if_neg hin, hL]
    rw [show i * z + j - n * z = (i - n) * z + j by rw [Nat.sub_mul]; omega, recs_get (fun _ => hr) (by omega) hj]

def cutP (n : Nat) (P : Nat → Pg) : Nat → Pg := fun i => if i < n then P i else Pg.z
theorem pgs_copy {n c c' : Nat} {P : Nat → Pg} (h1 : n ≤ c) (h2 : n ≤ c') : (pgs c P).take (n * 3) ++ zcells [Value.int IntKind.i64 0, Value.int IntKind.i64 0, Value.int IntKind.i64 0] (c' - n) = pgs c' (cutP n P) := by
  rw [z3, pgs, recs_copy (z := 3) (fun i => by simp) rfl h1 h2, pgs]
  refine recs_congr fun i _ => ?_
  unfold cutP
  split <;> rfl
theorem pgs_leaf {c : Nat} {P : Nat → Pg} : ∀ v, v ∈ pgs c P → isLeaf v = true := recs_leaf (fun i => by simp) fun i v hv => by
  simp only [Pg.cells, List.mem_cons, List.not_mem_nil, or_false] at hv
  rcases hv with rfl | rfl | rfl <;> rfl

theorem c51_bad (w : World) {n : Int} (h : n < 1 ∨ n > 4096) : RetE PR 51 [I n] w (.tuple (Array.mk [.pointer none, I 1])) := by
  refine Ret.of ((S51_eq _ w _).mpr ?_)
  unfold S51
  exact ifB_d (fun _ => ⟨rfl, kp0⟩) fun h1 => ifB_d (fun _ => ⟨rfl, kp0⟩) fun h2 => by omega
theorem c51 (w : World) {n : Nat} (h1 : 1 ≤ n) (h2 : n ≤ 4096) : Ret PR 51 [I n] w fun v w' => ∃ tb pb, v = .tuple (Array.mk [pt tb, I 0]) ∧ Tb w' tb pb n n (fun _ => Pg.z) 0 n ∧ Kp w w' ∧ w.heap.size ≤ tb ∧ w.heap.size ≤ pb := by
  refine Ret.of ((S51_eq _ w _).mpr ?_)
  unfold S51
  refine ifB_d (fun _ => by omega) fun _ => ifB_d (fun _ => by omega) fun _ => ⟨⟨by omega, by omega, by omega⟩, ?_⟩
  rw [Int.toNat_natCast]
  have n1 := new_alloc w (Obj.cells (Array.mk (zcells [Value.int IntKind.i64 0, Value.int IntKind.i64 0, Value.int IntKind.i64 0] n)) 152)
  generalize w.alloc (Obj.cells (Array.mk (zcells [Value.int IntKind.i64 0, Value.int IntKind.i64 0, Value.int IntKind.i64 0] n)) 152) = w1 at n1 ⊢
  refine atW_new fun w2 n2 => ⟨w1.heap.size, w.heap.size, rfl, ⟨n2.at0, ?_, by omega, fun i hi => by omega, Nat.le_refl _, h2, fun i _ _ => rfl⟩, n1.ext.trans n2.ext, n1.ext.sz, Nat.le_refl _⟩
  rw [n2.ext.at n1.at0]
  refine bl_eq ?_
  rw [z3, zcells_recs (z := 3) rfl]; rfl

section
variable {w : World} {tb pb n c low : Nat} {P : Nat → Pg} {free : Int}

theorem c98 (h : Tb w tb pb n c P low free) (h1 : 1 ≤ n) : Ret PR 98 [pt tb] w fun v w' => ∃ c', n ≤ c' ∧ v = .slice (some ⟨w.heap.size, 0, none⟩) n c' ∧ New w (Bl (pgs c' (cutP n P)) 152) w' := by
  refine Ret.of ((S98_eq _ w _).mpr ?_)
  unfold S98
  have hn := h.hn
  refine ⟨_, _, _, cell_of h.h0 0, copy_at h.h1 h1 (by simp; exact Nat.mul_le_mul_right 3 h.hc) (fun v hv => pgs_leaf v (List.mem_of_mem_take hv)) (by omega) fun c' w' hc n1 => ?_⟩
  rw [pgs_copy h.hc hc] at n1
  exact ⟨c', hc, by rw [Nat.zero_add], n1⟩

theorem c77 (h : Tb w tb pb n c P low free) (h1 : 1 ≤ n) : Ret PR 77 [pt tb] w fun v w' => ∃ tb' pb' c', v = pt tb' ∧ Tb w' tb' pb' n c' (cutP n P) low free ∧ Kp w w' ∧ w.heap.size ≤ tb' ∧ w.heap.size ≤ pb' := by
  refine Ret.of ((S77_eq _ w _).mpr ?_)
  unfold S77
  refine ⟨_, _, _, cell_of h.h0 0, _, cell_of h.h0 1, _, cell_of h.h0 2, atW_new fun w1 n1 => stx_at _ n1.at0 (by simp) rfl fun w2 p2 => ?_⟩
  have k2 : Kp w w2 := n1.ext.tr p2.upd fun b hb => .inr (by simp only [one] at hb; omega)
  refine (c98 (h.kp k2) h1).use ?_
  rintro _ w3 ⟨c', hc', rfl, n3⟩
  refine ⟨_, _, _, rfl, ?_⟩
  rw [add_mk]
  have h3 := n3.ext.at p2.at0
  refine stx_at _ h3 (by simp [setL]) rfl fun w4 p4 => ⟨w.heap.size, w2.heap.size, c', rfl, ⟨p4.at0, p4.at n3.at0 ?_, h.hlow, ?_, hc', h.hn, ?_⟩, ?_, Nat.le_refl _, k2.sz⟩
  · have := p2.lt; have := p2.sz; omega
  · intro i hi; have := h.hlow; rw [cutP, if_pos (by omega)]; exact h.low_no i hi
  · intro i hi hk; rw [cutP, if_pos hi] at hk ⊢; exact h.hz i hi hk
  · exact (k2.trans n3.ext).tr p4.upd fun b hb => .inr (by simp only [one] at hb; omega)
end

/-! The reference's table -/
structure Rt (w : World) (tb pb n c : Nat) (P : Nat → Pg) : Prop where
  h0 : w.heap[tb]? = some (Bl [.slice (some ⟨pb, 0, none⟩) n c] 135)
  h1 : w.heap[pb]? = some (Bl (pgs c P) 152)
  hc : n ≤ c
  hn : n ≤ 4096

theorem c59_bad (w : World) {n : Int} (h : n < 1 ∨ n > 4096) : RetE PR 59 [I n] w (.tuple (Array.mk [.pointer none, I 1])) := by
  refine Ret.of ((S59_eq _ w _).mpr ?_)
  unfold S59
  exact ifB_d (fun _ => ⟨rfl, kp0⟩) fun h1 => ifB_d (fun _ => ⟨rfl, kp0⟩) fun h2 => by omega
theorem c59 (w : World) {n : Nat} (h1 : 1 ≤ n) (h2 : n ≤ 4096) : Ret PR 59 [I n] w fun v w' => ∃ tb pb, v = .tuple (Array.mk [pt tb, I 0]) ∧ Rt w' tb pb n n (fun _ => Pg.z) ∧ Kp w w' ∧ w.heap.size ≤ tb ∧ w.heap.size ≤ pb := by
  refine Ret.of ((S59_eq _ w _).mpr ?_)
  unfold S59
  refine ifB_d (fun _ => by omega) fun _ => ifB_d (fun _ => by omega) fun _ => ⟨⟨by omega, by omega, by omega⟩, ?_⟩
  rw [Int.toNat_natCast]
  have n1 := new_alloc w (Obj.cells (Array.mk (zcells [Value.int IntKind.i64 0, Value.int IntKind.i64 0, Value.int IntKind.i64 0] n)) 152)
  generalize w.alloc (Obj.cells (Array.mk (zcells [Value.int IntKind.i64 0, Value.int IntKind.i64 0, Value.int IntKind.i64 0] n)) 152) = w1 at n1 ⊢
  refine atW_new fun w2 n2 => ⟨w1.heap.size, w.heap.size, rfl, ⟨n2.at0, ?_, Nat.le_refl _, h2⟩, n1.ext.trans n2.ext, n1.ext.sz, Nat.le_refl _⟩
  rw [n2.ext.at n1.at0]
  refine bl_eq ?_
  rw [z3, zcells_recs (z := 3) rfl]; rfl

section
variable {w : World} {tb pb n c : Nat} {P : Nat → Pg}

theorem Rt.upd {F : Nat → Prop} {w' : World} (h : Rt w tb pb n c P) (u : Upd F w w') (hb : ¬ F tb) (hrb : ¬ F pb) : Rt w' tb pb n c P := ⟨u.at h.h0 hb, u.at h.h1 hrb, h.hc, h.hn⟩
theorem Rt.kp {w' : World} (h : Rt w tb pb n c P) (u : Kp w w') : Rt w' tb pb n c P := h.upd u (fun h => h) (fun h => h)
theorem Rt.ne (h : Rt w tb pb n c P) : tb ≠ pb := by
  rintro rfl
  have := h.h1
  rw [h.h0] at this
  injection this with this
  injection this with _ h2
  cases h2

theorem c114 (h : Rt w tb pb n c P) {cl : Nat} (hcl : cl < 8) : Ret PR 114 [pt tb, I cl] w fun v w' =>
    ((nxt (fp P) n 0 = -1 ∧ v = .tuple (Array.mk [I 0, I 20]) ∧ Rt w' tb pb n c P) ∨
     (∃ k : Nat, nxt (fp P) n 0 = k ∧ k < n ∧ v = .tuple (Array.mk [I k, I 0]) ∧ Rt w' tb pb n c (up P k ⟨1, cl, 0⟩))) ∧ Upd (one pb) w w' := by
  refine Ret.of ((S114_eq _ _ w _).mpr ?_)
  unfold S114
  have hn := h.hn
  have hc := h.hc
  refine join_two (ifB_d (fun hh => by omega) fun _ => ifB_d (fun hh => by omega) fun _ => ?_)
  dsimp only
  refine loop_rule (fun i : Nat => ((0 : Int), (0 : Int), (i : Int), ())) (fun i w' => w' = w ∧ i ≤ n ∧ ∀ j, j < i → (P j).kind ≠ 0) (fun i => n - i) 0 rfl ⟨rfl, by omega, fun j hj => by omega⟩ ?_
  rintro i w1 K ⟨rfl, hin, hno⟩ hK
  refine ⟨_, _, _, cell_of h.h0 0, ifB_d (fun hlt => ?_) fun hlt => ⟨.inl ⟨nxt_none fun j _ hj => decide_eq_false (hno j ?_), rfl, h⟩, Upd.refl⟩⟩
  · have hlt : i < n := by simpa using hlt
    refine ⟨_, _, _, cell_of h.h0 0, ⟨by simp, by simpa using hlt⟩, _, pgs_cell (i := i) h.h1 (by omega) (by omega), ifB_eq (fun hk => ?_) fun hk => ?_⟩
    · refine ⟨_, _, _, cell_of h.h0 0, ⟨by simp, by simpa using hlt⟩, ?_⟩
      dsimp only
      rw [add_mk, Int.toNat_natCast, Nat.zero_add]
      refine stx_at _ h.h1 (by simp; omega) rfl fun w3 p3 => ?_
      have hp3 := p3.at0
      rw [Nat.add_zero, show ([Value.int IntKind.i64 1, Value.int IntKind.i64 (cl : Int), Value.int IntKind.i64 0] : List Value) = Pg.cells ⟨1, cl, 0⟩ from rfl, pgs_set _ (by omega)] at hp3
      exact ⟨.inr ⟨i, nxt_some (by omega) hlt (decide_eq_true hk) fun j _ hj => decide_eq_false (hno j hj), hlt, rfl, p3.at h.h0 h.ne, hp3, hc, hn⟩, p3.upd⟩
    · have := hK (i + 1) w1 ⟨rfl, hlt, fun j hj => ?_⟩ (by omega)
      · dsimp only
        rw [wrap_id (by omega) (by omega)]
        exact this
      · by_cases hji : j = i
        · subst hji; exact hk
        · exact hno j (by omega)
  · have : ¬ i < n := by simpa using hlt
    omega

theorem c141 (h : Rt w tb pb n c P) {m : Nat} (hm1 : 1 ≤ m) (hm2 : m ≤ 16) : RetE PR 141 [pt tb, I m] w (I (nxt (rowB P n m) n 0)) := by
  refine Ret.of ((S141_eq _ _ w _).mpr ?_)
  unfold S141
  have hn := h.hn
  have hc := h.hc
  refine loop_rule (fun g : Nat × Nat => ((0 : Int), (g.2 : Int), (g.1 : Int), ())) (fun g w' => w' = w ∧ g.1 ≤ n ∧ RowI P n m g.1 g.2) (fun g => n - g.1) (0, 0) rfl ⟨rfl, by simp, ⟨by omega, by omega, fun p hp => by simp at hp; omega, fun j h1 h2 => by simp at h2, .inl rfl⟩⟩ ?_
  rintro ⟨i, k⟩ w1 K ⟨rfl, hin, hr⟩ hK
  dsimp only at hin hr hK ⊢
  refine ⟨_, _, _, cell_of h.h0 0, ifB_d (fun hlt => ?_) fun hlt => ⟨?_, kp0⟩⟩
  · have hlt : i < n := by omega
    have hkm := hr.km
    refine ⟨_, _, _, cell_of h.h0 0, ⟨by omega, by omega⟩, _, pgs_cell (i := i) h.h1 (by omega) (by omega), ?_⟩
    rw [wrap_id (x := (i : Int) + 1) (by omega) (by omega), wrap_id (x := (k : Int) + 1) (by omega) (by omega)]
    refine ifB_ne (fun hb => ?_) fun hb => ifB_eq (fun hh => ⟨?_, kp0⟩) fun hh => ?_
    · exact hK (i + 1, 0) w1 ⟨rfl, hlt, hr.reset hb⟩ (by dsimp only; omega)
    · obtain ⟨hf, hle⟩ := hr.found hb (by omega) hlt
      have hki := hr.ki
      rw [wrap_id (x := (i : Int) - m) (by omega) (by omega), wrap_id (by omega) (by omega), hf, show (i : Int) - m + 1 = ((i + 1 - m : Nat) : Int) by omega]
    · exact hK (i + 1, k + 1) w1 ⟨rfl, hlt, hr.next hb (by omega)⟩ (by dsimp only; omega)
  · have : i = n := by omega
    subst this
    rw [hr.none]

theorem c112 (h : Rt w tb pb n c P) {m : Nat} (hm1 : 1 ≤ m) (hm2 : m ≤ 16) : Ret PR 112 [pt tb, I m] w fun v w' =>
    ((nxt (rowB P n m) n 0 = -1 ∧ v = .tuple (Array.mk [I 0, I 20]) ∧ Rt w' tb pb n c P) ∨
     (∃ k : Nat, nxt (rowB P n m) n 0 = k ∧ k + m ≤ n ∧ v = .tuple (Array.mk [I k, I 0]) ∧ Rt w' tb pb n c (runP P k m))) ∧ Upd (one pb) w w' := by
  refine Ret.of ((S112_eq _ _ w _).mpr ?_)
  unfold S112
  have hn := h.hn
  have hc := h.hc
  refine join_two (ifB_d (fun hh => by omega) fun _ => ifB_d (fun hh => by omega) fun _ => ?_)
  dsimp only
  refine (c141 h hm1 hm2).use fun w1 e1 => ⟨_, rfl, ?_⟩
  have h1 := h.kp e1
  rcases nxt_cases (rowB P n m) n 0 with ⟨hnx, _⟩ | ⟨p, hnx, _, hpn, hrow, _⟩
  · rw [hnx]
    exact ifB_d (fun _ => ⟨.inl ⟨rfl, rfl, h1⟩, e1.upd⟩) fun hh => by omega
  · have hpm := (rowB_iff.1 hrow).1
    rw [hnx]
    refine ifB_d (fun hh => by omega) fun _ => ⟨_, _, _, cell_of h1.h0 0, ⟨by omega, by omega⟩, ?_⟩
    rw [add_mk, Int.toNat_natCast, Nat.zero_add]
    refine stx_at _ h1.h1 (by simp; omega) rfl fun w3 p3 => ?_
    have hp3 := p3.at0
    rw [Nat.add_zero, show ([Value.int IntKind.i64 2, Value.int IntKind.i64 0, Value.int IntKind.i64 (m : Int)] : List Value) = Pg.cells ⟨2, 0, m⟩ from rfl, pgs_set _ (by omega)] at hp3
    refine loop_rule (fun i : Nat => (((i + 1 : Nat) : Int), ())) (fun i w' => i + 1 ≤ m ∧ Rt w' tb pb n c (fun j => if j = p then ⟨2, 0, m⟩ else if p ≤ j ∧ j < p + (i + 1) then ⟨3, 0, 0⟩ else P j) ∧ Upd (one pb) w w') (fun i => m - i) 0 rfl ⟨hm1, ⟨p3.at h1.h0 h1.ne, ?_, hc, hn⟩, e1.upd.trans p3.upd⟩ ?_
    · rw [hp3]
      refine bl_eq (pgs_congr fun j _ => ?_)
      unfold up
      by_cases hj : j = p
      · rw [if_pos hj, if_pos hj]
      · rw [if_neg hj, if_neg hj, if_neg (by omega)]
    rintro i w4 K ⟨him, h4, u4⟩ hK
    refine ifB_d (fun hlt => ?_) fun hlt => ?_
    · have hlt : i + 1 < m := by simp only at hlt; omega
      refine ⟨_, _, _, cell_of h4.h0 0, ?_⟩
      have e : IntKind.i64.wrap ((p : Int) + (((i + 1 : Nat) : Int), ()).fst) = ((p + (i + 1) : Nat) : Int) := by show IntKind.i64.wrap ((p : Int) + ((i + 1 : Nat) : Int)) = _; rw [wrap_id (by omega) (by omega)]; simp
      rw [e]
      refine ⟨⟨by omega, by omega⟩, ?_⟩
      rw [add_mk, Int.toNat_natCast, Nat.zero_add]
      refine stx_at _ h4.h1 (by simp; omega) rfl fun w5 p5 => ?_
      have hp5 := p5.at0
      rw [Nat.add_zero ((p + (i + 1)) * 3), show ([Value.int IntKind.i64 3, Value.int IntKind.i64 0, Value.int IntKind.i64 0] : List Value) = Pg.cells ⟨3, 0, 0⟩ from rfl, pgs_set _ (by omega)] at hp5
      rw [wrap_id (by dsimp only; omega) (by dsimp only; omega)]
      refine hK (i + 1) w5 ⟨hlt, ⟨p5.at h4.h0 h4.ne, ?_, hc, hn⟩, u4.trans p5.upd⟩ (by omega)
      rw [hp5]
      refine bl_eq (pgs_congr fun j _ => ?_)
      unfold up
      dsimp only
      by_cases hj0 : j = p
      · rw [if_neg (by omega), if_pos hj0, if_pos hj0]
      · by_cases hj : j = p + (i + 1)
        · rw [if_pos hj, if_neg hj0, if_pos (by omega)]
        · rw [if_neg hj, if_neg hj0, if_neg hj0]
          by_cases hj2 : p ≤ j ∧ j < p + (i + 1)
          · rw [if_pos hj2, if_pos (by omega)]
          · rw [if_neg hj2, if_neg (by omega)]
    · have : i + 1 = m := by simp only at hlt; omega
      refine ⟨.inr ⟨p, rfl, hpm, rfl, ?_⟩, u4⟩
      rw [this] at h4
      exact h4

theorem c126 (h : Rt w tb pb n c P) {p : Nat} (hp : p + pgM (P p) ≤ n) (hpn : p < n) (hr : (P p).kind = 2 → 0 ≤ (P p).run) : Ret PR 126 [pt tb, I p] w fun v w' => (∃ e, v = I e) ∧ Rt w' tb pb n c (if (P p).kind = 0 ∨ (P p).kind = 3 then P else giveP P p) ∧ Upd (one pb) w w' := by
  refine Ret.of ((S126_eq _ _ w _).mpr ?_)
  unfold S126
  have hn := h.hn
  have hc := h.hc
  refine ⟨fun s w' => w' = w ∧ ¬ ((P p).kind = 0 ∨ (P p).kind = 3), ?_, ifB_d (fun hh => by omega) fun _ => ⟨_, _, _, cell_of h.h0 0, ifB_d (fun hh => by omega) fun _ => ⟨_, _, _, cell_of h.h0 0, ⟨by omega, by omega⟩, _, pgs_cell (i := p) h.h1 (by omega) (by omega), ifB_eq (fun hk => ⟨⟨_, rfl⟩, ?_, Upd.refl⟩) fun hk => ⟨_, _, _, cell_of h.h0 0, ⟨by omega, by omega⟩, _, pgs_cell (i := p) h.h1 (by omega) (by omega), ifB_eq (fun hk' => ⟨⟨_, rfl⟩, ?_, Upd.refl⟩) fun hk' => ⟨rfl, by omega⟩⟩⟩⟩⟩
  · rintro s w' ⟨rfl, hk⟩
    rw [if_neg hk]
    refine ⟨fun s w'' => w'' = w' ∧ s = (((pgM (P p) : Nat) : Int), ()), ?_, ⟨_, _, _, cell_of h.h0 0, ⟨by omega, by omega⟩, _, pgs_cell (i := p) h.h1 (by omega) (by omega), ifB_eq (fun hk2 => ⟨_, _, _, cell_of h.h0 0, ⟨by omega, by omega⟩, _, pgs_cell (i := p) h.h1 (by omega) (by omega), rfl, ?_⟩) fun hk2 => ⟨rfl, ?_⟩⟩⟩
    · rintro s w'' ⟨rfl, rfl⟩
      refine loop_rule (fun i : Nat => ((i : Int), ())) (fun i w' => i ≤ pgM (P p) ∧ Rt w' tb pb n c (fun j => if p ≤ j ∧ j < p + i then Pg.z else P j) ∧ Upd (one pb) w'' w') (fun i => pgM (P p) - i) 0 rfl ⟨by omega, ?_, Upd.refl⟩ ?_
      · have : (fun j => if p ≤ j ∧ j < p + 0 then Pg.z else P j) = P := by funext j; rw [if_neg (by omega)]
        rw [this]; exact h
      rintro i w4 K ⟨him, h4, u4⟩ hK
      refine ifB_d (fun hlt => ?_) fun hlt => ?_
      · have hlt : i < pgM (P p) := by simp only at hlt; omega
        refine ⟨_, _, _, cell_of h4.h0 0, ?_⟩
        have e : IntKind.i64.wrap ((p : Int) + ((i : Int), ()).fst) = ((p + i : Nat) : Int) := by show IntKind.i64.wrap ((p : Int) + (i : Int)) = _; rw [wrap_id (by omega) (by omega)]; simp
        rw [e]
        refine ⟨⟨by omega, by omega⟩, ?_⟩
        rw [add_mk, Int.toNat_natCast, Nat.zero_add]
        refine stx_at _ h4.h1 (by simp; omega) rfl fun w5 p5 => ?_
        have hp5 := p5.at0
        rw [Nat.add_zero, z3, pgs_set _ (by omega)] at hp5
        rw [wrap_id (by dsimp only; omega) (by dsimp only; omega)]
        refine hK (i + 1) w5 ⟨hlt, ⟨p5.at h4.h0 h4.ne, ?_, hc, hn⟩, u4.trans p5.upd⟩ (by omega)
        rw [hp5]
        refine bl_eq (pgs_congr fun j _ => ?_)
        unfold up
        dsimp only
        by_cases hj : j = p + i
        · rw [if_pos hj, if_pos (by omega)]
        · rw [if_neg hj]
          by_cases hj2 : p ≤ j ∧ j < p + i
          · rw [if_pos hj2, if_pos (by omega)]
          · rw [if_neg hj2, if_neg (by omega)]
      · have : i = pgM (P p) := by simp only at hlt; omega
        subst this
        exact ⟨⟨_, rfl⟩, h4, u4⟩
    · rw [pgM, if_pos hk2]
      have := hr hk2
      rw [Int.toNat_of_nonneg this]
    · rw [pgM, if_neg hk2]; rfl
  · rw [if_pos (.inl hk)]; exact h
  · rw [if_pos (.inr hk')]; exact h

theorem c111 (h : Rt w tb pb n c P) (h1 : 1 ≤ n) : Ret PR 111 [pt tb] w fun v w' => ∃ tb' pb' c', v = pt tb' ∧ Rt w' tb' pb' n c' (cutP n P) ∧ Kp w w' ∧ w.heap.size ≤ tb' ∧ w.heap.size ≤ pb' := by
  refine Ret.of ((S111_eq _ w _).mpr ?_)
  unfold S111
  have hn := h.hn
  refine ⟨_, _, _, cell_of h.h0 0, copy_at h.h1 h1 (by simp; exact Nat.mul_le_mul_right 3 h.hc) (fun v hv => pgs_leaf v (List.mem_of_mem_take hv)) (by omega) fun c' w' hc n1 => ?_⟩
  rw [pgs_copy h.hc hc] at n1
  refine atW_new fun w2 n2 => ⟨w'.heap.size, w.heap.size, c', rfl, ⟨?_, n2.ext.at n1.at0, hc, hn⟩, n1.ext.trans n2.ext, n1.ext.sz, Nat.le_refl _⟩
  have := n2.at0
  rwa [Nat.zero_add] at this
end
end Go.Wx
end
section
/- The state of a space, in plain terms; how the program and the reference keep it in memory. -/
set_option linter.unusedVariables false
set_option maxRecDepth 100000
namespace Go.Wx
open Go

/-! Maps with integer keys -/
def lkp : List (Int × Value) → Int → Option Value
  | [], _ => none
  | (k, v) :: r, j => if j = k then some v else lkp r j
structure Mp (es : Array MapEntry) (L : Int → Option Value) : Prop where
  ex : ∃ l : List (Int × Value), es.toList.map (fun e => (e.key, e.val)) = l.map (fun p => (I p.1, p.2)) ∧ (l.map (·.1)).Nodup ∧ L = lkp l

theorem find_lkp : ∀ (es : List MapEntry) (l : List (Int × Value)) (k : Int) (i : Nat), es.map (fun e => (e.key, e.val)) = l.map (fun p => (I p.1, p.2)) →
    (Instr.findNow (.int .i64) (I k) es i = some none ∧ lkp l k = none) ∨ ∃ j v, Instr.findNow (.int .i64) (I k) es i = some (some (i + j, v)) ∧ lkp l k = some v ∧ j < l.length ∧ (l[j]?).map (·.1) = some k ∧ ∀ m, m < j → (l[m]?).map (·.1) ≠ some k
  | [], [], k, i, _ => .inl ⟨rfl, rfl⟩
  | e :: es, [], k, i, h => by simp at h
  | [], p :: l, k, i, h => by simp at h
  | e :: es, (a, v) :: l, k, i, h => by
    simp only [List.map_cons, List.cons.injEq, Prod.mk.injEq] at h
    obtain ⟨⟨h1, h2⟩, h3⟩ := h
    unfold Instr.findNow
    rw [h1]
    simp only [Instr.sameNow, if_true]
    by_cases hk : k = a
    · subst hk
      refine .inr ⟨0, v, ?_, by simp [lkp], by simp, by simp, fun m hm => by omega⟩
      simp [h2]
    · have hb : (k == a) = false := by simpa using hk
      rw [hb]
      rcases find_lkp es l k (i + 1) h3 with ⟨h4, h5⟩ | ⟨j, u, h4, h5, h6, h7, h8⟩
      · exact .inl ⟨h4, by simp [lkp, hk, h5]⟩
      · refine .inr ⟨j + 1, u, by show Instr.findNow _ _ es (i + 1) = _; rw [h4, show i + (j + 1) = i + 1 + j by omega], by simp [lkp, hk, h5], by simp; omega, by simpa using h7, fun m hm => ?_⟩
        cases m with
        | zero => simp; exact fun h => hk h.symm
        | succ m => simpa using h8 m (by omega)

theorem Mp.find {es : Array MapEntry} {L : Int → Option Value} (h : Mp es L) (k : Int) : ∃ res, Instr.findNow (.int .i64) (I k) es.toList 0 = some res ∧ res.map (·.2) = L k := by
  obtain ⟨l, h1, h2, rfl⟩ := h.ex
  rcases find_lkp es.toList l k 0 h1 with ⟨h4, h5⟩ | ⟨j, u, h4, h5, _⟩
  · exact ⟨none, h4, by rw [h5]; rfl⟩
  · exact ⟨some (0 + j, u), h4, by rw [h5]; rfl⟩

theorem lkp_erase : ∀ (l : List (Int × Value)) (k : Int) (j : Nat), (l.map (·.1)).Nodup → (l[j]?).map (·.1) = some k → ∀ m, lkp (l.eraseIdx j) m = if m = k then none else lkp l m
  | [], k, j, _, h => by simp at h
  | (a, v) :: l, k, 0, hn, h => by
    intro m
    simp only [List.getElem?_cons_zero, Option.map_some, Option.some.injEq] at h
    subst h
    simp only [List.eraseIdx_cons_zero, lkp]
    split
    · rename_i hm
      subst hm
      have : ∀ (l : List (Int × Value)), m ∉ l.map (·.1) → lkp l m = none := by
        intro l
        induction l with
        | nil => intro _; rfl
        | cons p l ih => intro hp; simp only [List.map_cons, List.mem_cons, not_or] at hp; rw [lkp, if_neg hp.1, ih hp.2]
      simp only [List.map_cons, List.nodup_cons] at hn
      exact this l hn.1
    · rfl
  | (a, v) :: l, k, j + 1, hn, h => by
    intro m
    simp only [List.map_cons, List.nodup_cons] at hn
    simp only [List.getElem?_cons_succ] at h
    simp only [List.eraseIdx_cons_succ, lkp]
    rw [lkp_erase l k j hn.2 h m]
    by_cases hma : m = a
    · rw [if_pos hma, if_pos hma, if_neg]
      rintro rfl
      subst hma
      apply hn.1
      obtain ⟨p, hp, hpk⟩ := Option.map_eq_some_iff.1 h
      exact hpk ▸ List.mem_map_of_mem (List.mem_of_getElem? hp)
    · rw [if_neg hma, if_neg hma]

theorem map_erase {α β : Type} (f : α → β) (l : List α) (i : Nat) : (l.eraseIdx i).map f = (l.map f).eraseIdx i := by
  apply List.ext_getElem?
  intro j
  simp only [List.getElem?_map, List.getElem?_eraseIdx]
  split <;> rfl

theorem Mp.del {es : Array MapEntry} {L : Int → Option Value} (h : Mp es L) {k : Int} {res : Option (Nat × Value)} (hr : Instr.findNow (.int .i64) (I k) es.toList 0 = some res) (c : Nat) :
    ∃ es', mdel es c res = .map es' c ∧ Mp es' fun j => if j = k then none else L j := by
  obtain ⟨l, h1, h2, rfl⟩ := h.ex
  rcases find_lkp es.toList l k 0 h1 with ⟨h4, h5⟩ | ⟨j, u, h4, h5, h6, h7, h8⟩
  · rw [h4] at hr
    obtain rfl : none = res := by injection hr
    refine ⟨es, rfl, l, h1, h2, ?_⟩
    funext m
    split
    · rename_i hm; rw [hm, h5]
    · rfl
  · rw [h4] at hr
    obtain rfl : some (0 + j, u) = res := by injection hr
    refine ⟨es.eraseIdxIfInBounds (0 + j), rfl, l.eraseIdx j, ?_, ?_, ?_⟩
    · have hl : es.toList.length = l.length := by have := congrArg List.length h1; simpa using this
      have hj : j < es.size := by rw [Array.length_toList] at hl; omega
      rw [Array.eraseIdxIfInBounds, dif_pos (by omega), Array.toList_eraseIdx, map_erase, h1, map_erase, Nat.zero_add]
    · rw [map_erase]; exact h2.sublist (List.eraseIdx_sublist _ _)
    · funext m; exact (lkp_erase l k j h2 h7 m).symm

theorem lkp_append : ∀ (l : List (Int × Value)) (k : Int) (v : Value), lkp l k = none → ∀ m, lkp (l ++ [(k, v)]) m = if m = k then some v else lkp l m
  | [], k, v, _, m => by simp [lkp]
  | (a, u) :: l, k, v, h, m => by
    unfold lkp at h
    split at h
    · cases h
    · rename_i hka
      simp only [List.cons_append, lkp, lkp_append l k v h m]
      by_cases hma : m = a
      · rw [if_pos hma, if_neg, if_pos hma]
        rintro rfl; exact hka hma
      · rw [if_neg hma, if_neg hma]
theorem lkp_none {l : List (Int × Value)} {k : Int} (h : lkp l k = none) : k ∉ l.map (·.1) := by
  induction l with
  | nil => simp
  | cons p l ih =>
    unfold lkp at h
    split at h
    · cases h
    · simp only [List.map_cons, List.mem_cons, not_or]
      exact ⟨by assumption, ih h⟩
theorem lkp_set : ∀ (l : List (Int × Value)) (k : Int) (v : Value) (j : Nat), (l[j]?).map (·.1) = some k → (∀ m, m < j → (l[m]?).map (·.1) ≠ some k) → ∀ m, lkp (l.set j (k, v)) m = if m = k then some v else lkp l m
  | [], k, v, j, h, _, m => by simp at h
  | (a, u) :: l, k, v, 0, h, _, m => by
    simp only [List.getElem?_cons_zero, Option.map_some, Option.some.injEq] at h
    subst h
    simp only [List.set_cons_zero, lkp]
    by_cases hm : m = a
    · rw [if_pos hm, if_pos hm]
    · rw [if_neg hm, if_neg hm, if_neg hm]
  | (a, u) :: l, k, v, j + 1, h, h2, m => by
    have h0 : a ≠ k := by have := h2 0 (by omega); simpa using this
    simp only [List.getElem?_cons_succ] at h
    simp only [List.set_cons_succ, lkp]
    rw [lkp_set l k v j h (fun i hi => by simpa using h2 (i + 1) (by omega)) m]
    by_cases hm : m = a
    · rw [if_pos hm, if_neg (fun h => h0 (hm ▸ h)), if_pos hm]
    · rw [if_neg hm, if_neg hm]

theorem Mp.put {es : Array MapEntry} {L : Int → Option Value} (h : Mp es L) {k : Int} {res : Option (Nat × Value)} (hr : Instr.findNow (.int .i64) (I k) es.toList 0 = some res) (c : Nat) (v : Value) :
    ∃ es' c', mput es c res (I k) v = .map es' c' ∧ Mp es' fun j => if j = k then some v else L j := by
  obtain ⟨l, h1, h2, rfl⟩ := h.ex
  rcases find_lkp es.toList l k 0 h1 with ⟨h4, h5⟩ | ⟨j, u, h4, h5, h6, h7, h8⟩
  · rw [h4] at hr
    obtain rfl : none = res := by injection hr
    refine ⟨_, _, rfl, l ++ [(k, v)], ?_, ?_, ?_⟩
    · simp [h1]
    · rw [List.map_append]
      refine List.nodup_append.2 ⟨h2, by simp, ?_⟩
      intro a ha b hb
      simp at hb
      subst hb
      rintro rfl
      exact lkp_none h5 ha
    · funext m; exact (lkp_append l k v h5 m).symm
  · rw [h4] at hr
    obtain rfl : some (0 + j, u) = res := by injection hr
    refine ⟨_, _, rfl, l.set j (k, v), ?_, ?_, ?_⟩
    · apply List.ext_getElem?
      intro m
      have h1m := congrArg (fun l => l[m]?) h1
      simp only [List.getElem?_map] at h1m
      simp only [List.getElem?_map, Array.toList_modify, List.getElem?_modify, Nat.zero_add, List.getElem?_set]
      by_cases hjm : j = m
      · subst hjm
        rw [if_pos rfl, if_pos h6]
        cases he : es.toList[j]? with
        | none => rw [he, List.getElem?_eq_getElem h6] at h1m; simp at h1m
        | some e => simp
      · rw [if_neg hjm]
        cases he : es.toList[m]? with
        | none => rw [he] at h1m; simpa [hjm] using h1m
        | some e => rw [he] at h1m; simpa [hjm] using h1m
    · have : (l.set j (k, v)).map (·.1) = l.map (·.1) := by
        apply List.ext_getElem?
        intro m
        simp only [List.getElem?_map, List.getElem?_set]
        by_cases hjm : j = m
        · subst hjm
          rw [if_pos rfl, if_pos h6, h7]; rfl
        · rw [if_neg hjm]
      rw [this]; exact h2
    · funext m; exact (lkp_set l k v j h7 h8 m).symm

theorem mp_nil : Mp #[] fun _ => none := ⟨[], rfl, by simp, rfl⟩

/-! The state -/
/-- An object. -/
structure Bk where
  at_ : Int
  kind : Int
  size : Int
  serial : Int
  tag : Int
  deriving DecidableEq
def Bk.z : Bk := ⟨0, 0, 0, 0, 0⟩
def Bk.cells (b : Bk) : List Value := [I b.at_, I b.kind, I b.size, I b.serial, I b.tag]
@[simp] theorem Bk.cells_length (b : Bk) : b.cells.length = 5 := rfl
def bks (c : Nat) (O : Nat → Bk) : List Value := recs 5 c fun i => (O i).cells
@[simp] theorem bks_length (c : Nat) (O : Nat → Bk) : (bks c O).length = c * 5 := by simp [bks]
theorem bks_congr {c : Nat} {P Q : Nat → Bk} (h : ∀ i, i < c → P i = Q i) : bks c P = bks c Q := recs_congr fun i hi => by rw [h i hi]
theorem bks_cell {w : World} {pb c : Nat} {O : Nat → Bk} {t : TypeId} (h : w.heap[pb]? = some (Bl (bks c O) t)) {i j : Nat} (hi : i < c) (hj : j < 5) : w.cell? ((Addr.add ⟨pb, 0, none⟩ (i * 5)).add j) = (O i).cells[j]? := by
  rw [add_mk, add_mk, cell_of h, Nat.zero_add, bks, recs_get (fun i => by simp) hi hj]
theorem bks_set {c i : Nat} {O : Nat → Bk} (q : Bk) (hi : i < c) : setL (bks c O) (i * 5) q.cells = bks c (up O i q) := by
  rw [bks, setL_row (fun i => by simp) (by simp) hi]
  refine recs_congr fun j _ => ?_
  unfold up; split <;> rfl
theorem z5 : ([Value.int IntKind.i64 0, Value.int IntKind.i64 0, Value.int IntKind.i64 0, Value.int IntKind.i64 0, Value.int IntKind.i64 0] : List Value) = Bk.z.cells := rfl
def cutO (n : Nat) (O : Nat → Bk) : Nat → Bk := fun i => if i < n then O i else Bk.z
theorem bks_copy {n c c' : Nat} {O : Nat → Bk} (h1 : n ≤ c) (h2 : n ≤ c') : (bks c O).take (n * 5) ++ zcells [Value.int IntKind.i64 0, Value.int IntKind.i64 0, Value.int IntKind.i64 0, Value.int IntKind.i64 0, Value.int IntKind.i64 0] (c' - n) = bks c' (cutO n O) := by
  rw [z5, bks, recs_copy (z := 5) (fun i => by simp) rfl h1 h2, bks]
  refine recs_congr fun i _ => ?_
  unfold cutO
  split <;> rfl
theorem bks_leaf {c : Nat} {O : Nat → Bk} : ∀ v, v ∈ bks c O → isLeaf v = true := recs_leaf (fun i => by simp) fun i v hv => by
  simp only [Bk.cells, List.mem_cons, List.not_mem_nil, or_false] at hv
  rcases hv with rfl | rfl | rfl | rfl | rfl <;> rfl
def ints (m : Nat) (f : Nat → Int) : List Value := vals m fun i => I (f i)
@[simp] theorem ints_length (m : Nat) (f : Nat → Int) : (ints m f).length = m := by simp [ints]
theorem ints_cell {w : World} {b m : Nat} {f : Nat → Int} {t : TypeId} (h : w.heap[b]? = some (Bl (ints m f) t)) {i : Nat} (hi : i < m) : w.cell? (Addr.add ⟨b, 0, none⟩ (i * 1)) = some (I (f i)) := by
  rw [add_mk, cell_of h, Nat.zero_add, Nat.mul_one, ints, vals_lt hi]
theorem ints_set {m i : Nat} {f : Nat → Int} (x : Int) : setL (ints m f) i [I x] = ints m (up f i x) := by
  rw [setL_one, ints, vals_set, ints]
  congr 1
  funext j
  unfold up; split <;> rfl
theorem ints_congr {m : Nat} {f g : Nat → Int} (h : ∀ i, i < m → f i = g i) : ints m f = ints m g := vals_congr fun i hi => by rw [h i hi]
theorem ints_clear {m i k : Nat} {f : Nat → Int} (h : i + k ≤ m) : setL (ints m f) i (zcells [Value.int IntKind.i64 0] k) = ints m fun j => if i ≤ j ∧ j < i + k then 0 else f j := by
  rw [zcells_one, ints, setL_vals h, ints]
  refine vals_congr fun j _ => ?_
  split <;> rfl
theorem ints_leaf {m : Nat} {f : Nat → Int} : ∀ v, v ∈ ints m f → isLeaf v = true := vals_leaf fun _ => rfl
def cutW (n : Nat) (W : Nat → Int) : Nat → Int := fun i => if i < n then W i else 0
theorem ints_copy {n c c' : Nat} {W : Nat → Int} (h1 : n ≤ c) (h2 : n ≤ c') : (ints c W).take (n * 1) ++ zcells [Value.int IntKind.i64 0] (c' - n) = ints c' (cutW n W) := by
  rw [ints, vals_copy h1 h2, ints]
  refine vals_congr fun i _ => ?_
  unfold cutW
  split <;> rfl

/-- A space. -/
structure St where
  n : Nat
  W : Nat → Int
  P : Nat → Pg
  O : Nat → Bk
  last : Int

/-! The reference's space -/
structure RB where
  s : Nat
  wb : Nat
  tb : Nat
  pb : Nat
  ob : Nat
  cw : Nat
  cp : Nat
  co : Nat
def RB.F (R : RB) : Nat → Prop := fun b => b = R.s ∨ b = R.wb ∨ b = R.pb ∨ b = R.ob ∨ b = R.tb

structure Rf (w : World) (R : RB) (σ : St) : Prop where
  hs : w.heap[R.s]? = some (Bl [.slice (some ⟨R.wb, 0, none⟩) (64 * σ.n) R.cw, pt R.tb, .slice (some ⟨R.ob, 0, none⟩) (64 * σ.n) R.co, I σ.last] 74)
  hw : w.heap[R.wb]? = some (Bl (ints R.cw σ.W) 3)
  ht : Rt w R.tb R.pb σ.n R.cp σ.P
  ho : w.heap[R.ob]? = some (Bl (bks R.co σ.O) 106)
  hcw : 64 * σ.n ≤ R.cw
  hco : 64 * σ.n ≤ R.co
  n1 : 1 ≤ σ.n
  n2 : σ.n ≤ 4096

theorem ne_ty {w : World} {a b : Nat} {x y : List Value} {t u : TypeId} (h1 : w.heap[a]? = some (Bl x t)) (h2 : w.heap[b]? = some (Bl y u)) (h : t ≠ u) : a ≠ b := by
  rintro rfl
  rw [h1] at h2
  injection h2 with h2
  injection h2 with _ h3
  exact h h3

section
variable {w : World} {R : RB} {σ : St}
theorem Rf.upd {F : Nat → Prop} {w' : World} (h : Rf w R σ) (u : Upd F w w') (hF : ∀ b, R.F b → ¬ F b) : Rf w' R σ :=
  ⟨u.at h.hs (hF _ (.inl rfl)), u.at h.hw (hF _ (.inr (.inl rfl))), h.ht.upd u (hF _ (.inr (.inr (.inr (.inr rfl))))) (hF _ (.inr (.inr (.inl rfl)))), u.at h.ho (hF _ (.inr (.inr (.inr (.inl rfl))))), h.hcw, h.hco, h.n1, h.n2⟩
theorem Rf.kp {w' : World} (h : Rf w R σ) (u : Kp w w') : Rf w' R σ := h.upd u fun _ _ h => h
theorem Rf.putS (h : Rf w R σ) {w' : World} {x : Int} (p : Put w R.s (Bl [.slice (some ⟨R.wb, 0, none⟩) (64 * σ.n) R.cw, pt R.tb, .slice (some ⟨R.ob, 0, none⟩) (64 * σ.n) R.co, I x] 74) w') : Rf w' R { σ with last := x } :=
  ⟨p.at0, p.at h.hw (ne_ty h.hw h.hs (by decide)), h.ht.upd p.upd (ne_ty h.ht.h0 h.hs (by decide)) (ne_ty h.ht.h1 h.hs (by decide)), p.at h.ho (ne_ty h.ho h.hs (by decide)), h.hcw, h.hco, h.n1, h.n2⟩
theorem Rf.putW (h : Rf w R σ) {w' : World} {W : Nat → Int} (p : Put w R.wb (Bl (ints R.cw W) 3) w') : Rf w' R { σ with W := W } :=
  ⟨p.at h.hs (ne_ty h.hs h.hw (by decide)), p.at0, h.ht.upd p.upd (ne_ty h.ht.h0 h.hw (by decide)) (ne_ty h.ht.h1 h.hw (by decide)), p.at h.ho (ne_ty h.ho h.hw (by decide)), h.hcw, h.hco, h.n1, h.n2⟩
theorem Rf.putO (h : Rf w R σ) {w' : World} {O : Nat → Bk} (p : Put w R.ob (Bl (bks R.co O) 106) w') : Rf w' R { σ with O := O } :=
  ⟨p.at h.hs (ne_ty h.hs h.ho (by decide)), p.at h.hw (ne_ty h.hw h.ho (by decide)), h.ht.upd p.upd (ne_ty h.ht.h0 h.ho (by decide)) (ne_ty h.ht.h1 h.ho (by decide)), p.at0, h.hcw, h.hco, h.n1, h.n2⟩
theorem Rf.putP (h : Rf w R σ) {w' : World} {P : Nat → Pg} (ht : Rt w' R.tb R.pb σ.n R.cp P) (u : Upd (one R.pb) w w') : Rf w' R { σ with P := P } :=
  ⟨u.at h.hs (ne_ty h.hs h.ht.h1 (by decide)), u.at h.hw (ne_ty h.hw h.ht.h1 (by decide)), ht, u.at h.ho (ne_ty h.ho h.ht.h1 (by decide)), h.hcw, h.hco, h.n1, h.n2⟩
theorem Rf.congr {σ' : St} (h : Rf w R σ) (hn : σ'.n = σ.n) (hl : σ'.last = σ.last) (hW : ∀ i, i < R.cw → σ.W i = σ'.W i) (hP : ∀ i, i < R.cp → σ.P i = σ'.P i) (hO : ∀ i, i < R.co → σ.O i = σ'.O i) : Rf w R σ' := by
  refine ⟨by rw [hn, hl]; exact h.hs, by rw [h.hw]; exact bl_eq (ints_congr hW), ⟨by rw [hn]; exact h.ht.h0, by rw [h.ht.h1]; exact bl_eq (pgs_congr hP), by rw [hn]; exact h.ht.hc, by rw [hn]; exact h.n2⟩, by rw [h.ho]; exact bl_eq (bks_congr hO), by rw [hn]; exact h.hcw, by rw [hn]; exact h.hco, by rw [hn]; exact h.n1, by rw [hn]; exact h.n2⟩
end

/-! The program's space -/
inductive Sl where
  | s | w | t | p | k | kr | sh | pl | f (c : Nat) | fr (c : Nat)
def Sl.ok : Sl → Prop
  | .f c | .fr c => c < 8
  | _ => True
/-- What the program keeps. -/
structure Raw where
  n : Nat
  W : Nat → Int
  P : Nat → Pg
  tk : Nat → Bool
  fr : Nat → Nat → Bool
  sh : Int → Option Value
  pl : Int → Option Value
  last : Int
  room : Int
def sCells (B : Sl → Nat) (ρ : Raw) : List Value := [.slice (some ⟨B .w, 0, none⟩) (64 * ρ.n) (64 * ρ.n), pt (B .t), pt (B .k), pt (B (.f 0)), pt (B (.f 1)), pt (B (.f 2)), pt (B (.f 3)), pt (B (.f 4)), pt (B (.f 5)), pt (B (.f 6)), pt (B (.f 7)), .map (some (B .sh)), .map (some (B .pl)), I ρ.last, I ρ.room]
def spF (B : Sl → Nat) : Nat → Prop := fun b => ∃ x : Sl, x.ok ∧ b = B x
structure SpR (w : World) (B : Sl → Nat) (ρ : Raw) : Prop where
  hs : w.heap[B .s]? = some (Bl (sCells B ρ) 91)
  hw : w.heap[B .w]? = some (Bl (ints (64 * ρ.n) ρ.W) 3)
  ht : ∃ low free, Tb w (B .t) (B .p) ρ.n ρ.n ρ.P low free
  hk : Bm w (B .k) (B .kr) ρ.n ρ.tk
  hf : ∀ c, c < 8 → Bm w (B (.f c)) (B (.fr c)) ρ.n (ρ.fr c)
  hsh : ∃ es ck, w.heap[B .sh]? = some (.map es ck) ∧ Mp es ρ.sh
  hpl : ∃ es ck, w.heap[B .pl]? = some (.map es ck) ∧ Mp es ρ.pl
  n1 : 1 ≤ ρ.n
  inj : ∀ x y : Sl, x.ok → y.ok → B x = B y → x = y

section
variable {w : World} {B : Sl → Nat} {ρ : Raw}
theorem SpR.dj (h : SpR w B ρ) {x y : Sl} (hx : x.ok) (hy : y.ok) (hxy : x ≠ y) : ¬ one (B y) (B x) := fun e => hxy (h.inj _ _ hx hy e)
theorem SpR.n2 (h : SpR w B ρ) : ρ.n ≤ 4096 := h.hk.hr
theorem SpR.gt (h : SpR w B ρ) : GT w := h.hk.gt
theorem SpR.upd {F : Nat → Prop} {w' : World} (h : SpR w B ρ) (u : Upd F w w') (hF : ∀ x : Sl, x.ok → ¬ F (B x)) (h0 : ¬ F 0) : SpR w' B ρ := by
  obtain ⟨low, free, ht⟩ := h.ht
  obtain ⟨es, ck, h1, h2⟩ := h.hsh
  obtain ⟨es', ck', h3, h4⟩ := h.hpl
  exact ⟨u.at h.hs (hF _ trivial), u.at h.hw (hF _ trivial), ⟨low, free, ht.upd u (hF .t trivial) (hF .p trivial)⟩, h.hk.upd u (hF .k trivial) (hF .kr trivial) h0, fun c hc => (h.hf c hc).upd u (hF (.f c) hc) (hF (.fr c) hc) h0, ⟨es, ck, u.at h1 (hF .sh trivial), h2⟩, ⟨es', ck', u.at h3 (hF .pl trivial), h4⟩, h.n1, h.inj⟩
theorem SpR.kp {w' : World} (h : SpR w B ρ) (u : Kp w w') : SpR w' B ρ := h.upd u (fun _ _ h => h) (fun h => h)
theorem SpR.ne0 (h : SpR w B ρ) {x : Sl} (hx : x.ok) : B x ≠ 0 := by
  intro e
  obtain ⟨cs, t, fr, g1, g2⟩ := h.gt
  have key : ∀ {cs' : List Value} {t' : TypeId}, w.heap[B x]? = some (Bl cs' t') → (∀ (k : Nat) (n : Int), cs'[k]? ≠ some (Value.int .u8 n)) → False := by
    intro cs' t' h1 h2
    rw [e, g1] at h1
    injection h1 with h1
    injection h1 with h3
    simp only [Array.mk.injEq] at h3
    have h4 := g2 0 (by omega)
    rw [h3] at h4
    exact h2 _ _ h4
  have keym : ∀ {es : Array MapEntry} {c : Nat}, w.heap[B x]? = some (.map es c) → False := by
    intro es c h1
    rw [e, g1] at h1
    injection h1 with h1
    cases h1
  cases x with
  | s =>
    refine key h.hs fun k n hh => ?_
    have := List.mem_of_getElem? hh
    simp [sCells] at this
  | w =>
    refine key h.hw fun k n hh => ?_
    rw [ints, vals_get] at hh
    split at hh <;> simp at hh
  | t =>
    obtain ⟨low, free, ht⟩ := h.ht
    refine key ht.h0 fun k n hh => ?_
    have := List.mem_of_getElem? hh
    simp at this
  | p =>
    obtain ⟨low, free, ht⟩ := h.ht
    refine key ht.h1 fun k n hh => ?_
    obtain ⟨i, hi, hv⟩ := List.mem_map.1 (List.mem_of_getElem? hh)
    simp only [Pg.cells] at hv
    rcases (show i % 3 = 0 ∨ i % 3 = 1 ∨ i % 3 = 2 by omega) with h | h | h <;> rw [h] at hv <;> simp at hv
  | k => exact h.hk.ne0.1 e
  | kr => exact h.hk.ne0.2 e
  | sh =>
    obtain ⟨es, ck, h1, h2⟩ := h.hsh
    exact keym h1
  | pl =>
    obtain ⟨es, ck, h1, h2⟩ := h.hpl
    exact keym h1
  | f c => exact (h.hf c hx).ne0.1 e
  | fr c => exact (h.hf c hx).ne0.2 e
theorem SpR.d0 (h : SpR w B ρ) {x : Sl} (hx : x.ok) : ¬ one (B x) 0 := fun e => h.ne0 hx e.symm
theorem one_F {B : Sl → Nat} {x : Sl} (hx : x.ok) : ∀ b, one (B x) b → spF B b := fun b e => ⟨x, hx, e⟩

theorem SpR.putS (h : SpR w B ρ) {w' : World} {x y : Int} (p : Put w (B .s) (Bl (sCells B { ρ with last := x, room := y }) 91) w') : SpR w' B { ρ with last := x, room := y } := by
  obtain ⟨low, free, ht⟩ := h.ht
  obtain ⟨es, ck, h1, h2⟩ := h.hsh
  obtain ⟨es', ck', h3, h4⟩ := h.hpl
  have d : ∀ {x : Sl}, x.ok → x ≠ .s → ¬ one (B .s) (B x) := fun hx hn => h.dj hx trivial hn
  exact ⟨p.at0, p.upd.at h.hw (d (x := .w) trivial nofun), ⟨low, free, ht.upd p.upd (d (x := .t) trivial nofun) (d (x := .p) trivial nofun)⟩, h.hk.upd p.upd (d (x := .k) trivial nofun) (d (x := .kr) trivial nofun) (h.d0 (x := .s) trivial), fun c hc => (h.hf c hc).upd p.upd (d (x := .f c) hc nofun) (d (x := .fr c) hc nofun) (h.d0 (x := .s) trivial), ⟨es, ck, p.upd.at h1 (d (x := .sh) trivial nofun), h2⟩, ⟨es', ck', p.upd.at h3 (d (x := .pl) trivial nofun), h4⟩, h.n1, h.inj⟩
theorem SpR.putW (h : SpR w B ρ) {w' : World} {W : Nat → Int} (p : Put w (B .w) (Bl (ints (64 * ρ.n) W) 3) w') : SpR w' B { ρ with W := W } := by
  obtain ⟨low, free, ht⟩ := h.ht
  obtain ⟨es, ck, h1, h2⟩ := h.hsh
  obtain ⟨es', ck', h3, h4⟩ := h.hpl
  have d : ∀ {x : Sl}, x.ok → x ≠ .w → ¬ one (B .w) (B x) := fun hx hn => h.dj hx trivial hn
  exact ⟨p.upd.at h.hs (d (x := .s) trivial nofun), p.at0, ⟨low, free, ht.upd p.upd (d (x := .t) trivial nofun) (d (x := .p) trivial nofun)⟩, h.hk.upd p.upd (d (x := .k) trivial nofun) (d (x := .kr) trivial nofun) (h.d0 (x := .w) trivial), fun c hc => (h.hf c hc).upd p.upd (d (x := .f c) hc nofun) (d (x := .fr c) hc nofun) (h.d0 (x := .w) trivial), ⟨es, ck, p.upd.at h1 (d (x := .sh) trivial nofun), h2⟩, ⟨es', ck', p.upd.at h3 (d (x := .pl) trivial nofun), h4⟩, h.n1, h.inj⟩
theorem SpR.putP (h : SpR w B ρ) {w' : World} {P : Nat → Pg} (hT : ∃ low free, Tb w' (B .t) (B .p) ρ.n ρ.n P low free) (u : Upd (two (B .t) (B .p)) w w') : SpR w' B { ρ with P := P } := by
  obtain ⟨es, ck, h1, h2⟩ := h.hsh
  obtain ⟨es', ck', h3, h4⟩ := h.hpl
  have d : ∀ {x : Sl}, x.ok → x ≠ .t → x ≠ .p → ¬ two (B .t) (B .p) (B x) := fun hx hn hm e => e.elim (h.dj (y := .t) hx trivial hn) (h.dj (y := .p) hx trivial hm)
  have d0 : ¬ two (B .t) (B .p) 0 := fun e => e.elim (h.d0 (x := .t) trivial) (h.d0 (x := .p) trivial)
  exact ⟨u.at h.hs (d (x := .s) trivial nofun nofun), u.at h.hw (d (x := .w) trivial nofun nofun), hT, h.hk.upd u (d (x := .k) trivial nofun nofun) (d (x := .kr) trivial nofun nofun) d0, fun c hc => (h.hf c hc).upd u (d (x := .f c) hc nofun nofun) (d (x := .fr c) hc nofun nofun) d0, ⟨es, ck, u.at h1 (d (x := .sh) trivial nofun nofun), h2⟩, ⟨es', ck', u.at h3 (d (x := .pl) trivial nofun nofun), h4⟩, h.n1, h.inj⟩
theorem SpR.putK (h : SpR w B ρ) {w' : World} {b : Nat → Bool} (hb : Bm w' (B .k) (B .kr) ρ.n b) (u : Upd (one (B .kr)) w w') : SpR w' B { ρ with tk := b } := by
  obtain ⟨low, free, ht⟩ := h.ht
  obtain ⟨es, ck, h1, h2⟩ := h.hsh
  obtain ⟨es', ck', h3, h4⟩ := h.hpl
  have d : ∀ {x : Sl}, x.ok → x ≠ .kr → ¬ one (B .kr) (B x) := fun hx hn => h.dj hx trivial hn
  exact ⟨u.at h.hs (d (x := .s) trivial nofun), u.at h.hw (d (x := .w) trivial nofun), ⟨low, free, ht.upd u (d (x := .t) trivial nofun) (d (x := .p) trivial nofun)⟩, hb, fun c hc => (h.hf c hc).upd u (d (x := .f c) hc nofun) (d (x := .fr c) hc nofun) (h.d0 (x := .kr) trivial), ⟨es, ck, u.at h1 (d (x := .sh) trivial nofun), h2⟩, ⟨es', ck', u.at h3 (d (x := .pl) trivial nofun), h4⟩, h.n1, h.inj⟩
theorem SpR.putF (h : SpR w B ρ) {w' : World} {c : Nat} (hc : c < 8) {b : Nat → Bool} (hb : Bm w' (B (.f c)) (B (.fr c)) ρ.n b) (u : Upd (one (B (.fr c))) w w') : SpR w' B { ρ with fr := up ρ.fr c b } := by
  obtain ⟨low, free, ht⟩ := h.ht
  obtain ⟨es, ck, h1, h2⟩ := h.hsh
  obtain ⟨es', ck', h3, h4⟩ := h.hpl
  have d : ∀ {x : Sl}, x.ok → x ≠ .fr c → ¬ one (B (.fr c)) (B x) := fun hx hn => h.dj hx hc hn
  refine ⟨u.at h.hs (d (x := .s) trivial nofun), u.at h.hw (d (x := .w) trivial nofun), ⟨low, free, ht.upd u (d (x := .t) trivial nofun) (d (x := .p) trivial nofun)⟩, h.hk.upd u (d (x := .k) trivial nofun) (d (x := .kr) trivial nofun) (h.d0 (x := .fr c) hc), fun e he => ?_, ⟨es, ck, u.at h1 (d (x := .sh) trivial nofun), h2⟩, ⟨es', ck', u.at h3 (d (x := .pl) trivial nofun), h4⟩, h.n1, h.inj⟩
  by_cases hce : e = c
  · subst hce; show Bm _ _ _ _ (up ρ.fr e b e); rw [up_same]; exact hb
  · show Bm _ _ _ _ (up ρ.fr c b e)
    rw [up_other _ _ hce]
    exact (h.hf e he).upd u (d (x := .f e) he nofun) (d (x := .fr e) he fun h => hce (by injection h)) (h.d0 (x := .fr c) hc)
theorem SpR.putH (h : SpR w B ρ) {w' : World} {es : Array MapEntry} {ck : Nat} {L : Int → Option Value} (p : Put w (B .sh) (.map es ck) w') (hm : Mp es L) : SpR w' B { ρ with sh := L } := by
  obtain ⟨low, free, ht⟩ := h.ht
  obtain ⟨es', ck', h3, h4⟩ := h.hpl
  have d : ∀ {x : Sl}, x.ok → x ≠ .sh → ¬ one (B .sh) (B x) := fun hx hn => h.dj hx trivial hn
  exact ⟨p.upd.at h.hs (d (x := .s) trivial nofun), p.upd.at h.hw (d (x := .w) trivial nofun), ⟨low, free, ht.upd p.upd (d (x := .t) trivial nofun) (d (x := .p) trivial nofun)⟩, h.hk.upd p.upd (d (x := .k) trivial nofun) (d (x := .kr) trivial nofun) (h.d0 (x := .sh) trivial), fun c hc => (h.hf c hc).upd p.upd (d (x := .f c) hc nofun) (d (x := .fr c) hc nofun) (h.d0 (x := .sh) trivial), ⟨es, ck, p.at0, hm⟩, ⟨es', ck', p.upd.at h3 (d (x := .pl) trivial nofun), h4⟩, h.n1, h.inj⟩
theorem SpR.putL (h : SpR w B ρ) {w' : World} {es : Array MapEntry} {ck : Nat} {L : Int → Option Value} (p : Put w (B .pl) (.map es ck) w') (hm : Mp es L) : SpR w' B { ρ with pl := L } := by
  obtain ⟨low, free, ht⟩ := h.ht
  obtain ⟨es', ck', h3, h4⟩ := h.hsh
  have d : ∀ {x : Sl}, x.ok → x ≠ .pl → ¬ one (B .pl) (B x) := fun hx hn => h.dj hx trivial hn
  exact ⟨p.upd.at h.hs (d (x := .s) trivial nofun), p.upd.at h.hw (d (x := .w) trivial nofun), ⟨low, free, ht.upd p.upd (d (x := .t) trivial nofun) (d (x := .p) trivial nofun)⟩, h.hk.upd p.upd (d (x := .k) trivial nofun) (d (x := .kr) trivial nofun) (h.d0 (x := .pl) trivial), fun c hc => (h.hf c hc).upd p.upd (d (x := .f c) hc nofun) (d (x := .fr c) hc nofun) (h.d0 (x := .pl) trivial), ⟨es', ck', p.upd.at h3 (d (x := .sh) trivial nofun), h4⟩, ⟨es, ck, p.at0, hm⟩, h.n1, h.inj⟩
end
end Go.Wx
end
section
/- What the calls of a space answer, in plain terms; what always holds of a space. -/
set_option linter.unusedVariables false
set_option maxRecDepth 100000
namespace Go.Wx
open Go

/-- Does an object begin there? -/
abbrev isO (σ : St) (i : Nat) : Bool := decide ((σ.O i).kind ≠ 0)
/-- Is that a free block of a class? -/
def frB (σ : St) (c i : Nat) : Bool := decide ((σ.P (i / 64)).kind = 1 ∧ (σ.P (i / 64)).cls = c ∧ (i % 64) % wdN c = 0 ∧ (i % 64) / wdN c < bkN c ∧ (σ.O i).kind = 0)
def nfS (σ : St) (c i : Nat) : Int := nxt (frB σ c) (64 * σ.n) i
def roomAt (O : Nat → Bk) (i : Nat) : Int := if (O i).kind ≠ 0 then roomS (O i).size else 0
def sumI (f : Nat → Int) : Nat → Int
  | 0 => 0
  | n + 1 => sumI f n + f n
def rmS (σ : St) : Int := sumI (roomAt σ.O) (64 * σ.n)
/-- The place of a serial; -1: none. -/
def fnS (σ : St) (s : Int) : Int := if s ≥ 1 then nxt (fun i => decide ((σ.O i).kind ≠ 0 ∧ (σ.O i).serial = s)) (64 * σ.n) 0 else -1
def shV (b : Bk) : Value := .agg (Array.mk [I b.kind, I b.size, I b.serial, I b.tag])
def shL (n : Nat) (O : Nat → Bk) (k : Int) : Option Value := if 0 ≤ k ∧ k < ((64 * n : Nat) : Int) ∧ (O k.toNat).kind ≠ 0 then some (shV (O k.toNat)) else none
def plL (σ : St) (s : Int) : Option Value := if fnS σ s < 0 then none else some (I (fnS σ s))
def rawOf (σ : St) : Raw := { n := σ.n, W := σ.W, P := σ.P, tk := isO σ, fr := frB σ, sh := shL σ.n σ.O, pl := plL σ, last := σ.last, room := rmS σ }

def PgOK (σ : St) (p : Nat) : Prop :=
  σ.P p = Pg.z ∨ (∃ c : Nat, c < 8 ∧ σ.P p = ⟨1, c, 0⟩) ∨ (∃ r : Nat, 1 ≤ r ∧ r ≤ 16 ∧ σ.P p = ⟨2, 0, r⟩ ∧ p + r ≤ σ.n ∧ ∀ j, 1 ≤ j → j < r → σ.P (p + j) = ⟨3, 0, 0⟩) ∨ (σ.P p = ⟨3, 0, 0⟩ ∧ ∃ h r : Nat, h < p ∧ p < h + r ∧ σ.P h = ⟨2, 0, r⟩)
def PlOK (σ : St) (i : Nat) (size : Int) : Prop :=
  (∃ c : Nat, c < 8 ∧ ofS size = c ∧ σ.P (i / 64) = ⟨1, c, 0⟩ ∧ (i % 64) % wdN c = 0 ∧ (i % 64) / wdN c < bkN c) ∨ (ofS size = 8 ∧ i % 64 = 0 ∧ σ.P (i / 64) = ⟨2, 0, pgS size⟩)
structure ObOK (σ : St) (i : Nat) : Prop where
  fit : fitS (σ.O i).kind (σ.O i).size = true
  at_ : (σ.O i).at_ = i
  ser : numS (σ.O i).kind = true → 1 ≤ (σ.O i).serial ∧ (σ.O i).serial ≤ σ.last
  ser0 : numS (σ.O i).kind = false → (σ.O i).serial = 0
  pl : PlOK σ i (σ.O i).size
structure Inv (σ : St) : Prop where
  n1 : 1 ≤ σ.n
  n2 : σ.n ≤ 4096
  pg : ∀ p, p < σ.n → PgOK σ p
  ob : ∀ i, i < 64 * σ.n → (σ.O i).kind ≠ 0 → ObOK σ i
  oz : ∀ i, i < 64 * σ.n → (σ.O i).kind = 0 → σ.O i = Bk.z
  ser : ∀ i j, i < 64 * σ.n → j < 64 * σ.n → (σ.O i).kind ≠ 0 → (σ.O j).kind ≠ 0 → 1 ≤ (σ.O i).serial → (σ.O i).serial = (σ.O j).serial → i = j
  hd : ∀ p, p < σ.n → (σ.P p).kind = 2 → (σ.O (64 * p)).kind ≠ 0
  last0 : 0 ≤ σ.last

theorem roomS_small {n : Int} {c : Nat} (hc : c < 8) (h : ofS n = c) : roomS n = wdN c := by
  rw [roomS, if_neg, h, wdS_nat hc]
  rw [pgS, if_neg (by omega)]; omega
theorem roomS_big {n : Int} (h : ofS n = 8) : roomS n = pgS n * 64 := by
  rw [roomS, if_pos]
  have := pgS_8 h; omega
theorem blk_in {i c : Nat} (hc : c < 8) (h1 : (i % 64) % wdN c = 0) (h2 : (i % 64) / wdN c < bkN c) : i % 64 + wdN c ≤ 64 := by
  obtain ⟨a1, a2, a3, a4, a5, a6, a7⟩ := wdN_pos hc
  have h3 := Nat.div_add_mod (i % 64) (wdN c)
  have h4 : wdN c * ((i % 64) / wdN c + 1) ≤ wdN c * bkN c := Nat.mul_le_mul_left _ h2
  rw [Nat.mul_add, Nat.mul_comm (wdN c) (bkN c)] at h4
  omega
theorem size_room {n : Int} (h1 : 1 ≤ n) (h2 : n ≤ 1024) : n ≤ roomS n ∧ 2 ≤ roomS n ∧ roomS n ≤ 1024 := by
  have hr := ofS_in h1 h2
  by_cases h8 : ofS n = 8
  · rw [roomS_big h8]; have := pgS_8 h8; have := pgS_rng n; omega
  · have hc : (ofS n).toNat < 8 := by omega
    have he : ofS n = ((ofS n).toNat : Int) := by omega
    rw [roomS_small hc he]
    have := wdN_pos hc
    have := (ofS_le h1 h2 hc).2 (by omega)
    omega

section
variable {σ : St}
theorem PgOK.head {p : Nat} (h : PgOK σ p) (hk : (σ.P p).kind = 2) : ∃ r : Nat, 1 ≤ r ∧ r ≤ 16 ∧ σ.P p = ⟨2, 0, r⟩ ∧ p + r ≤ σ.n ∧ ∀ j, 1 ≤ j → j < r → σ.P (p + j) = ⟨3, 0, 0⟩ := by
  rcases h with h | ⟨c, _, h⟩ | h | ⟨h, _⟩
  · rw [h] at hk; simp [Pg.z] at hk
  · rw [h] at hk; simp at hk
  · exact h
  · rw [h] at hk; simp at hk
theorem PgOK.clsz {p : Nat} (h : PgOK σ p) (hk : (σ.P p).kind = 1) : ∃ c : Nat, c < 8 ∧ σ.P p = ⟨1, c, 0⟩ := by
  rcases h with h | h | ⟨r, _, _, h, _⟩ | ⟨h, _⟩
  · rw [h] at hk; simp [Pg.z] at hk
  · exact h
  · rw [h] at hk; simp at hk
  · rw [h] at hk; simp at hk
theorem PgOK.free {p : Nat} (h : PgOK σ p) (hk : (σ.P p).kind = 0) : σ.P p = Pg.z := by
  rcases h with h | ⟨c, _, h⟩ | ⟨r, _, _, h, _⟩ | ⟨h, _⟩
  · exact h
  · rw [h] at hk; simp at hk
  · rw [h] at hk; simp at hk
  · rw [h] at hk; simp at hk
theorem Inv.room (hI : Inv σ) {i : Nat} (hi : i < 64 * σ.n) (hk : (σ.O i).kind ≠ 0) : 1 ≤ (σ.O i).size ∧ (σ.O i).size ≤ 1024 ∧ (i : Int) + roomS (σ.O i).size ≤ ((64 * σ.n : Nat) : Int) ∧ (σ.O i).size ≤ roomS (σ.O i).size := by
  have ho := hI.ob i hi hk
  obtain ⟨k1, k2, s1, s2⟩ := fitS_rng ho.fit
  have hsr := size_room s1 s2
  refine ⟨s1, s2, ?_, hsr.1⟩
  rcases ho.pl with ⟨c, hc, h1, h2, h3, h4⟩ | ⟨h1, h2, h3⟩
  · rw [roomS_small hc h1]
    have := blk_in hc h3 h4
    omega
  · rw [roomS_big h1]
    obtain ⟨r, r1, r2, r3, r4, _⟩ := (hI.pg (i / 64) (by omega)).head (by rw [h3])
    rw [h3] at r3
    injection r3 with _ _ r3
    omega
end

def okI (σ : St) (at_ : Int) : Bool := decide (0 ≤ at_ ∧ at_ < ((64 * σ.n : Nat) : Int)) && isO σ at_.toNat
theorem okI_iff {σ : St} {x : Int} : okI σ x = true ↔ ∃ i : Nat, x = i ∧ i < 64 * σ.n ∧ (σ.O i).kind ≠ 0 := by
  unfold okI
  simp only [Bool.and_eq_true, decide_eq_true_eq]
  constructor
  · rintro ⟨h1, h2⟩; exact ⟨x.toNat, by omega, by omega, h2⟩
  · rintro ⟨i, rfl, h1, h2⟩; exact ⟨by omega, by simpa using h2⟩
theorem okI_nat {σ : St} {i : Nat} (h : i < 64 * σ.n) : okI σ i = isO σ i := by
  unfold okI; rw [decide_eq_true (by omega)]; simp
/-- Block, as its answer. -/
def blkS (σ : St) (x : Int) : Bk := if okI σ x then σ.O x.toNat else Bk.z
/-- Check: an error, and its place. -/
def chkS (σ : St) (x : Int) : Int × Int := if okI σ x then (if σ.W x.toNat ≠ hdS x (σ.O x.toNat).kind (σ.O x.toNat).size then (21, x) else (0, 0)) else (22, 0)
def wrdS (σ : St) (x i : Int) : Int × Int := if (chkS σ x).1 ≠ 0 then chkS σ x else if i < 1 then (23, 0) else if i ≥ (σ.O x.toNat).size then (23, 0) else (0, 0)
def rdS (σ : St) (x i : Int) : Int := if (wrdS σ x i).1 ≠ 0 then 0 else σ.W (x + i).toNat
def wrS (σ : St) (x i v : Int) : St := if (wrdS σ x i).1 ≠ 0 then σ else { σ with W := up σ.W (x + i).toNat v }
def pkS (σ : St) (x : Int) : Int := if 0 ≤ x ∧ x < ((64 * σ.n : Nat) : Int) then σ.W x.toNat else 0
def inS (σ : St) (x : Int) : Bool := decide (0 ≤ x ∧ x < ((64 * σ.n : Nat) : Int))
def poS (σ : St) (x v : Int) : St := if inS σ x then { σ with W := up σ.W x.toNat v } else σ

theorem wrdS_ok {σ : St} {x i : Int} (h : (wrdS σ x i).1 = 0) : ∃ a : Nat, x = a ∧ a < 64 * σ.n ∧ (σ.O a).kind ≠ 0 ∧ 1 ≤ i ∧ i < (σ.O a).size ∧ wrdS σ x i = (0, 0) := by
  unfold wrdS at h ⊢
  by_cases h1 : (chkS σ x).1 = 0
  · rw [if_neg (by omega)] at h ⊢
    have hk : okI σ x = true := by
      unfold chkS at h1
      split at h1
      · assumption
      · simp at h1
    obtain ⟨a, rfl, ha, hk⟩ := okI_iff.1 hk
    rw [Int.toNat_natCast] at h ⊢
    by_cases h2 : i < 1
    · rw [if_pos h2] at h; simp at h
    · rw [if_neg h2] at h ⊢
      by_cases h3 : i ≥ (σ.O a).size
      · rw [if_pos h3] at h; simp at h
      · rw [if_neg h3]
        exact ⟨a, rfl, ha, hk, by omega, by omega, rfl⟩
  · rw [if_pos h1] at h; exact absurd h h1
end Go.Wx
end
section
/- Contracts of the calls that look at one place: the program's, and the reference's. -/
set_option linter.unusedVariables false
set_option maxRecDepth 100000
namespace Go.Wx
open Go

abbrev Sp (w : World) (B : Sl → Nat) (σ : St) : Prop := SpR w B (rawOf σ)
theorem Sp.hw {w : World} {B : Sl → Nat} {σ : St} (h : Sp w B σ) : w.heap[B .w]? = some (Bl (ints (64 * σ.n) σ.W) 3) := SpR.hw h

theorem Sp.hs {w : World} {B : Sl → Nat} {σ : St} (h : Sp w B σ) : w.heap[B .s]? = some (Bl [.slice (some ⟨B .w, 0, none⟩) (64 * σ.n) (64 * σ.n), pt (B .t), pt (B .k), pt (B (.f 0)), pt (B (.f 1)), pt (B (.f 2)), pt (B (.f 3)), pt (B (.f 4)), pt (B (.f 5)), pt (B (.f 6)), pt (B (.f 7)), .map (some (B .sh)), .map (some (B .pl)), I σ.last, I (rmS σ)] 91) := SpR.hs h
theorem Sp.kp {w w' : World} {B : Sl → Nat} {σ : St} (h : Sp w B σ) (u : Kp w w') : Sp w' B σ := SpR.kp h u

theorem mgot_some {res : Option (Nat × Value)} {v z : Value} (h : res.map (·.2) = some v) : mgot res z = v := by
  cases res with
  | none => cases h
  | some p => obtain ⟨i, u⟩ := p; simp at h; exact h
theorem mgot_none {res : Option (Nat × Value)} {z : Value} (h : res.map (·.2) = none) : mgot res z = z := by
  cases res with
  | none => rfl
  | some p => cases h

theorem ret2 {w : World} {b : Nat} {x y : Value} {t : TypeId} {p q : Int} {R : Int → Int → World → Prop} (h : w.heap[b]? = some (Bl [x, y] t)) (hk : ∀ w', Put w b (Bl [I p, I q] t) w' → R p q w') :
    stx w (Addr.mk b 0 none) [I p, I q] 0 fun w' => ∃ n, w'.cell? ((Addr.mk b 0 none).add 0) = some (Value.int IntKind.i64 n) ∧ ∃ n_1, w'.cell? ((Addr.mk b 0 none).add 1) = some (Value.int IntKind.i64 n_1) ∧ R n n_1 w' :=
  stx_at _ h (by simp) rfl fun w' p' => ⟨_, cell_of p'.at0 0, _, cell_of p'.at0 1, hk w' p'⟩
theorem ret5 {w : World} {b : Nat} {x1 x2 x3 x4 x5 : Value} {t : TypeId} {p1 p2 p3 p4 p5 : Int} {R : Int → Int → Int → Int → Int → World → Prop} (h : w.heap[b]? = some (Bl [x1, x2, x3, x4, x5] t)) (hk : ∀ w', Put w b (Bl [I p1, I p2, I p3, I p4, I p5] t) w' → R p1 p2 p3 p4 p5 w') :
    stx w (Addr.mk b 0 none) [I p1, I p2, I p3, I p4, I p5] 0 fun w' => ∃ n, w'.cell? ((Addr.mk b 0 none).add 0) = some (Value.int IntKind.i64 n) ∧ ∃ n_1, w'.cell? ((Addr.mk b 0 none).add 1) = some (Value.int IntKind.i64 n_1) ∧ ∃ n_2, w'.cell? ((Addr.mk b 0 none).add 2) = some (Value.int IntKind.i64 n_2) ∧
      ∃ n_3, w'.cell? ((Addr.mk b 0 none).add 3) = some (Value.int IntKind.i64 n_3) ∧ ∃ n_4, w'.cell? ((Addr.mk b 0 none).add 4) = some (Value.int IntKind.i64 n_4) ∧ R n n_1 n_2 n_3 n_4 w' :=
  stx_at _ h (by simp) rfl fun w' p' => ⟨_, cell_of p'.at0 0, _, cell_of p'.at0 1, _, cell_of p'.at0 2, _, cell_of p'.at0 3, _, cell_of p'.at0 4, hk w' p'⟩

/-- A new block that was turned is new. -/
theorem Kp.put {w w1 w2 : World} {b : Nat} {o : Obj} (h : Kp w w1) (p : Put w1 b o w2) (hb : w.heap.size ≤ b) : Kp w w2 := h.tr p.upd fun c hc => .inr (by simp only [one] at hc; omega)
theorem Upd.put {F : Nat → Prop} {w w1 w2 : World} {b : Nat} {o : Obj} (h : Upd F w w1) (p : Put w1 b o w2) (hb : w.heap.size ≤ b) : Upd F w w2 := h.tr p.upd fun c hc => .inr (by simp only [one] at hc; omega)
theorem Upd.new {F : Nat → Prop} {w w1 w2 : World} {o : Obj} (h : Upd F w w1) (n : New w1 o w2) : Upd F w w2 := h.trans n.ext.upd
theorem Upd.kpt {F : Nat → Prop} {w w1 w2 : World} (h : Upd F w w1) (k : Kp w1 w2) : Upd F w w2 := h.trans (Kp.upd k)

abbrev V2 (f : Int × Int) : Value := .agg (Array.mk [I f.1, I f.2])
abbrev VB (b : Bk) : Value := .agg (Array.mk b.cells)

section
variable {w : World} {B : Sl → Nat} {σ : St}

theorem c20 (h : Sp w B σ) : RetE PR 20 [pt (B .s)] w (I ((64 * σ.n : Nat) : Int)) := by
  refine Ret.of ((S20_eq _ w _).mpr ?_)
  unfold S20
  exact ⟨_, _, _, cell_of h.hs 0, rfl, kp0⟩

theorem c19 (h : Sp w B σ) (x : Int) : RetE PR 19 [pt (B .s), I x] w (.tuple (Array.mk [I (pkS σ x), .bool (inS σ x)])) := by
  refine Ret.of ((S19_eq _ x w _).mpr ?_)
  unfold S19 pkS inS
  refine join_two (ifB_d (fun h1 => ⟨by rw [if_neg (by omega), decide_eq_false (by omega)], kp0⟩) fun h1 => ⟨_, _, _, cell_of h.hs 0, ifB_d (fun h2 => ⟨?_, kp0⟩) fun h2 => ?_⟩)
  · have h2 : ¬ x < ((64 * σ.n : Nat) : Int) := by omega
    rw [if_neg (by omega), decide_eq_false (by omega)]
  · have h2 : x < ((64 * σ.n : Nat) : Int) := by omega
    obtain ⟨i, rfl⟩ : ∃ i : Nat, x = i := ⟨x.toNat, by omega⟩
    refine ⟨_, _, _, cell_of h.hs 0, ⟨by omega, h2⟩, _, ints_cell (i := i) h.hw (by omega), ?_, kp0⟩
    rw [if_pos (by omega), decide_eq_true (by omega), Int.toNat_natCast]

theorem c27 (h : Sp w B σ) (x v : Int) : Ret PR 27 [pt (B .s), I x, I v] w fun r w' => r = .bool (inS σ x) ∧ Sp w' B (poS σ x v) ∧ Upd (spF B) w w' := by
  refine Ret.of ((S27_eq _ x v w _).mpr ?_)
  unfold S27 poS
  have bad : ¬ (0 ≤ x ∧ x < ((64 * σ.n : Nat) : Int)) → inS σ x = false := fun h => decide_eq_false h
  refine join_two (ifB_d (fun h1 => ⟨by rw [bad (by omega)], by rw [bad (by omega)]; exact h, Upd.refl⟩) fun h1 => ⟨_, _, _, cell_of h.hs 0, ifB_d (fun h2 => ?_) fun h2 => ?_⟩)
  · have h2 : ¬ x < ((64 * σ.n : Nat) : Int) := by omega
    exact ⟨by rw [bad (by omega)], by rw [bad (by omega)]; exact h, Upd.refl⟩
  · have h2 : x < ((64 * σ.n : Nat) : Int) := by omega
    obtain ⟨i, rfl⟩ : ∃ i : Nat, x = i := ⟨x.toNat, by omega⟩
    refine ⟨_, _, _, cell_of h.hs 0, ⟨by omega, h2⟩, ?_⟩
    rw [add_mk, Int.toNat_natCast, Nat.zero_add, Nat.mul_one]
    refine stx_at _ h.hw (by simp; omega) rfl fun w' p => ?_
    rw [Nat.add_zero, ints_set] at p
    rw [show inS σ i = true from decide_eq_true (by omega)]
    exact ⟨rfl, SpR.putW h p, p.upd.mono (one_F (x := .w) trivial)⟩

theorem Sp.get (h : Sp w B σ) (x : Int) (hx : In64 x) : RetE PR 121 [pt (B .k), I x] w (.bool (okI σ x)) := c121 h.hk x hx
theorem Sp.shape (h : Sp w B σ) {x : Nat} (hk : okI σ x = true) : ∃ es c res, Mapped w (B .sh) .i64 x es c res ∧ ∀ z, mgot res z = shV (σ.O x) := by
  obtain ⟨es, ck, h1, h2⟩ := h.hsh
  obtain ⟨res, h3, h4⟩ := h2.find x
  refine ⟨es, ck, res, ⟨h1, h3⟩, fun z => mgot_some ?_⟩
  rw [h4]
  obtain ⟨a, ha, h5, h6⟩ := okI_iff.1 hk
  obtain rfl : x = a := by omega
  show shL σ.n σ.O x = _
  rw [shL, if_pos ⟨by omega, by omega, by simpa using h6⟩, Int.toNat_natCast]

theorem c70 (hI : Inv σ) (h : Sp w B σ) (x : Int) (hx : In64 x) : RetE PR 70 [pt (B .s), I x] w (.tuple (Array.mk [VB (blkS σ x), .bool (okI σ x)])) := by
  refine Ret.of ((S70_eq _ x w _).mpr ?_)
  unfold S70
  refine atW_new fun w1 n1 => ?_
  have h1 := Sp.kp h n1.ext
  refine ⟨_, cell_of h1.hs 2, ?_⟩
  refine (Sp.get h1 x hx).use fun w2 e2 => ⟨_, rfl, ?_⟩
  have h2 := Sp.kp h1 e2
  have k2 := n1.ext.trans e2
  refine ifB_nb (fun hb => ?_) fun hb => ?_
  · refine ret5 (R := fun a b c d e w' => _) (e2.at n1.at0) fun w3 p3 => ⟨?_, k2.put p3 (Nat.le_refl _)⟩
    rw [hb, blkS, hb]; rfl
  · obtain ⟨i, rfl, hi, hk⟩ := okI_iff.1 hb
    have ho := hI.ob i hi hk
    obtain ⟨es, c, res, hm, hg⟩ := Sp.shape h2 hb
    refine ⟨_, cell_of h2.hs 11, es, c, res, hm, _, _, _, _, (hg _).symm, atW_new fun w3 n3 => ?_⟩
    have hl : w.heap.size ≠ w2.heap.size := by have := e2.sz; have := n1.sz; omega
    refine stx_at _ n3.at0 (by simp) rfl fun w4 p4 => ⟨_, cell_of p4.at0 0, _, cell_of p4.at0 1, _, cell_of p4.at0 2, _, cell_of p4.at0 3, ?_⟩
    have k4 := (k2.trans n3.ext).put p4 (by have := k2.sz; omega)
    refine ret5 (R := fun a b c d e w' => _) (p4.at (n3.ext.at (e2.at n1.at0)) hl) fun w5 p5 => ⟨?_, k4.put p5 (Nat.le_refl _)⟩
    rw [hb, blkS, hb, if_pos rfl, Int.toNat_natCast]
    show Value.tuple (Array.mk [.agg (Array.mk [I i, I (σ.O i).kind, I (σ.O i).size, I (σ.O i).serial, I (σ.O i).tag]), .bool true]) = _
    rw [VB, Bk.cells, ho.at_]

theorem c74 (h : Sp w B σ) (x : Int) (hx : In64 x) : RetE PR 74 [pt (B .s), I x] w (V2 (chkS σ x)) := by
  refine Ret.of ((S74_eq _ x w _).mpr ?_)
  unfold S74
  refine atW_new fun w1 n1 => ?_
  have h1 := Sp.kp h n1.ext
  refine ⟨_, cell_of h1.hs 2, ?_⟩
  refine (Sp.get h1 x hx).use fun w2 e2 => ⟨_, rfl, ?_⟩
  have h2 := Sp.kp h1 e2
  have k2 := n1.ext.trans e2
  refine ifB_nb (fun hb => ?_) fun hb => ?_
  · refine ret2 (R := fun a b w' => _) (e2.at n1.at0) fun w3 p3 => ⟨?_, k2.put p3 (Nat.le_refl _)⟩
    rw [chkS, hb]; rfl
  · obtain ⟨i, rfl, hi, hk⟩ := okI_iff.1 hb
    obtain ⟨es, c, res, hm, hg⟩ := Sp.shape h2 hb
    refine ⟨_, cell_of h2.hs 11, es, c, res, hm, _, _, _, _, (hg _).symm, atW_new fun w3 n3 => ?_⟩
    have hl : w.heap.size ≠ w2.heap.size := by have := e2.sz; have := n1.sz; omega
    refine stx_at _ n3.at0 (by simp) rfl fun w4 p4 => ?_
    have k4 := (k2.trans n3.ext).put p4 (by have := k2.sz; omega)
    generalize hwd : World.drew w4 = wd
    have d1 : Kp w4 wd := hwd ▸ ext_drew w4
    have h5 := Sp.kp h (k4.trans d1)
    refine ⟨_, cell_of (d1.at p4.at0) 0, _, cell_of (d1.at p4.at0) 1, _, _, _, cell_of h5.hs 0, ⟨by omega, by show (i : Int) < ((64 * σ.n : Nat) : Int); omega⟩, _, ints_cell (i := i) h5.hw hi, ?_⟩
    refine (c56 wd i (σ.O i).kind (σ.O i).size).use fun w6 e6 => ⟨_, rfl, e6.draw, ?_⟩
    have k6 := (k4.trans d1).trans e6
    have hb6 := e6.at (d1.at (p4.at (n3.ext.at (e2.at n1.at0)) hl))
    refine ifB_ne (fun hne => ret2 (R := fun a b w' => _) hb6 fun w7 p7 => ⟨?_, k6.put p7 (Nat.le_refl _)⟩) fun heq => ret2 (R := fun a b w' => _) hb6 fun w7 p7 => ⟨?_, k6.put p7 (Nat.le_refl _)⟩
    · rw [chkS, if_pos hb, Int.toNat_natCast, if_pos hne]
    · rw [chkS, if_pos hb, Int.toNat_natCast, if_neg (fun hh => hh heq)]

theorem chkS_ok {x : Int} (h : (chkS σ x).1 = 0) : chkS σ x = (0, 0) ∧ okI σ x = true := by
  unfold chkS at h ⊢
  split at h
  · rename_i hk
    rw [if_pos hk]
    split at h
    · simp at h
    · rename_i h2; rw [if_neg h2]; exact ⟨rfl, hk⟩
  · simp at h

theorem c66 (h : Sp w B σ) (x i : Int) (hx : In64 x) : RetE PR 66 [pt (B .s), I x, I i] w (V2 (wrdS σ x i)) := by
  refine Ret.of ((S66_eq _ x i w _).mpr ?_)
  unfold S66
  refine atW_new fun w1 n1 => ?_
  have h1 := Sp.kp h n1.ext
  refine (c74 h1 x hx).use fun w2 e2 => ⟨_, _, rfl, atW_new fun w3 n3 => stx_at _ n3.at0 (by simp) rfl fun w4 p4 => ⟨_, cell_of p4.at0 0, ?_⟩⟩
  have k2 := n1.ext.trans e2
  have k4 := (k2.trans n3.ext).put p4 (by have := k2.sz; omega)
  have hl : w.heap.size ≠ w2.heap.size := by have := e2.sz; have := n1.sz; omega
  have hb4 := p4.at (n3.ext.at (e2.at n1.at0)) hl
  have h4 := Sp.kp h k4
  refine ifB_eq (fun h0 => ?_) fun h0 => ?_
  · obtain ⟨hc, hok⟩ := chkS_ok h0
    rw [hc] at p4
    have bad : i < 1 ∨ i ≥ (σ.O x.toNat).size → wrdS σ x i = (23, 0) := fun hi => by
      rw [wrdS, if_neg (by omega)]
      split
      · rfl
      · rw [if_pos (by omega)]
    have fin : wrdS σ x i = (23, 0) → stx w4 ((Addr.mk w2.heap.size 0 none).add 0) [Value.int IntKind.i64 23] 0 fun w' =>
        ∃ n, w'.cell? ((Addr.mk w2.heap.size 0 none).add 0) = some (Value.int IntKind.i64 n) ∧ ∃ n_2, w'.cell? ((Addr.mk w2.heap.size 0 none).add 1) = some (Value.int IntKind.i64 n_2) ∧
          stx w' (Addr.mk w.heap.size 0 none) [Value.int IntKind.i64 n, Value.int IntKind.i64 n_2] 0 fun w' => ∃ n, w'.cell? ((Addr.mk w.heap.size 0 none).add 0) = some (Value.int IntKind.i64 n) ∧ ∃ n_3, w'.cell? ((Addr.mk w.heap.size 0 none).add 1) = some (Value.int IntKind.i64 n_3) ∧
            (Value.agg (Array.mk [Value.int IntKind.i64 n, Value.int IntKind.i64 n_3]) = V2 (wrdS σ x i) ∧ Kp w w') := by
      intro hw
      rw [add_mk]
      refine stx_at _ p4.at0 (by simp [setL]) rfl fun w5 p5 => ⟨_, cell_of p5.at0 0, _, cell_of p5.at0 1, ?_⟩
      refine ret2 (R := fun a b w' => _) (p5.at hb4 hl) fun w6 p6 => ⟨?_, (k4.put p5 (by have := k2.sz; omega)).put p6 (Nat.le_refl _)⟩
      rw [hw]
    refine ifB_d (fun hi => fin (bad (.inl hi))) fun hi => ?_
    obtain ⟨a, rfl, ha, hk⟩ := okI_iff.1 hok
    obtain ⟨es, c, res, hm, hg⟩ := Sp.shape h4 hok
    refine ⟨_, cell_of h4.hs 11, es, c, res, hm, _, _, _, _, (hg _).symm, ifB_d (fun hi2 => fin (bad (.inr (by rw [Int.toNat_natCast]; exact hi2)))) fun hi2 => ?_⟩
    refine ⟨_, cell_of p4.at0 0, _, cell_of p4.at0 1, ret2 (R := fun a b w' => _) hb4 fun w6 p6 => ⟨?_, k4.put p6 (Nat.le_refl _)⟩⟩
    rw [wrdS, if_neg (by omega), if_neg hi, Int.toNat_natCast, if_neg hi2]
  · refine ⟨_, cell_of p4.at0 0, _, cell_of p4.at0 1, ret2 (R := fun a b w' => _) hb4 fun w6 p6 => ⟨?_, k4.put p6 (Nat.le_refl _)⟩⟩
    rw [wrdS, if_pos h0]

theorem c72 (hI : Inv σ) (h : Sp w B σ) (x i : Int) (hx : In64 x) : RetE PR 72 [pt (B .s), I x, I i] w (.tuple (Array.mk [I (rdS σ x i), V2 (wrdS σ x i)])) := by
  refine Ret.of ((S72_eq _ x i w _).mpr ?_)
  unfold S72
  refine atW_new fun w1 n1 => ?_
  have h1 := Sp.kp h n1.ext
  refine (c66 h1 x i hx).use fun w2 e2 => ⟨_, _, rfl, atW_new fun w3 n3 => stx_at _ n3.at0 (by simp) rfl fun w4 p4 => ⟨_, cell_of p4.at0 0, ?_⟩⟩
  have k2 := n1.ext.trans e2
  have k4 := (k2.trans n3.ext).put p4 (by have := k2.sz; omega)
  have hl : w.heap.size ≠ w2.heap.size := by have := e2.sz; have := n1.sz; omega
  have hb4 := p4.at (n3.ext.at (e2.at n1.at0)) hl
  generalize hwd : World.drew w4 = wd
  have d1 : Kp w4 wd := hwd ▸ ext_drew w4
  have k5 := k4.trans d1
  have h5 := Sp.kp h k5
  have hp5 := d1.at p4.at0
  refine ifB_ne (fun h0 => ?_) fun h0 => ?_
  · refine ⟨_, cell_of hp5 0, _, cell_of hp5 1, ret2 (R := fun a b w' => _) (d1.at hb4) fun w6 p6 => ⟨?_, k5.put p6 (Nat.le_refl _)⟩⟩
    rw [rdS, if_pos h0]
  · obtain ⟨a, rfl, ha, hk, hi1, hi2, hw⟩ := wrdS_ok h0
    obtain ⟨s1, s2, s3, s4⟩ := hI.room ha hk
    have hn2 := hI.n2
    obtain ⟨j, rfl⟩ : ∃ j : Nat, i = j := ⟨i.toNat, by omega⟩
    have e : IntKind.i64.wrap ((a : Int) + (j : Int)) = ((a + j : Nat) : Int) := by rw [wrap_id (by omega) (by omega)]; simp
    rw [e]
    refine ⟨_, _, _, cell_of h5.hs 0, ⟨by omega, by show ((a + j : Nat) : Int) < ((64 * σ.n : Nat) : Int); omega⟩, _, ints_cell (i := a + j) h5.hw (by omega), _, cell_of hp5 0, _, cell_of hp5 1, ret2 (R := fun a b w' => _) (d1.at hb4) fun w6 p6 => ⟨?_, k5.put p6 (Nat.le_refl _)⟩⟩
    rw [rdS, if_neg (by omega), show ((a : Int) + (j : Int)).toNat = a + j by omega]

theorem c24 (hI : Inv σ) (h : Sp w B σ) (x i v : Int) (hx : In64 x) : Ret PR 24 [pt (B .s), I x, I i, I v] w fun r w' => r = V2 (wrdS σ x i) ∧ Sp w' B (wrS σ x i v) ∧ Upd (spF B) w w' := by
  refine Ret.of ((S24_eq _ x i v w _).mpr ?_)
  unfold S24
  refine atW_new fun w1 n1 => ?_
  have h1 := Sp.kp h n1.ext
  refine (c66 h1 x i hx).use fun w2 e2 => ⟨_, _, rfl, atW_new fun w3 n3 => stx_at _ n3.at0 (by simp) rfl fun w4 p4 => ⟨_, cell_of p4.at0 0, ?_⟩⟩
  have k2 := n1.ext.trans e2
  have k4 := (k2.trans n3.ext).put p4 (by have := k2.sz; omega)
  have hl : w.heap.size ≠ w2.heap.size := by have := e2.sz; have := n1.sz; omega
  have hb4 := p4.at (n3.ext.at (e2.at n1.at0)) hl
  have h4 := Sp.kp h k4
  have hws : B .w < w.heap.size := lt_of_look h.hw
  refine ifB_eq (fun h0 => ?_) fun h0 => ?_
  · obtain ⟨a, rfl, ha, hk, hi1, hi2, hw⟩ := wrdS_ok h0
    obtain ⟨s1, s2, s3, s4⟩ := hI.room ha hk
    have hn2 := hI.n2
    obtain ⟨j, rfl⟩ : ∃ j : Nat, i = j := ⟨i.toNat, by omega⟩
    have e : IntKind.i64.wrap ((a : Int) + (j : Int)) = ((a + j : Nat) : Int) := by rw [wrap_id (by omega) (by omega)]; simp
    rw [e]
    refine ⟨_, _, _, cell_of h4.hs 0, ⟨by omega, by show ((a + j : Nat) : Int) < ((64 * σ.n : Nat) : Int); omega⟩, ?_⟩
    rw [add_mk, Int.toNat_natCast, Nat.zero_add, Nat.mul_one]
    refine stx_at _ h4.hw (by simp; omega) rfl fun w5 p5 => ?_
    rw [Nat.add_zero (a + j), ints_set] at p5
    have h5 := SpR.putW h4 p5
    have hp5 := p5.at p4.at0 (by have := k2.sz; omega)
    have u5 : Upd (spF B) w w5 := (Kp.upd k4).trans (p5.upd.mono (one_F (x := .w) trivial))
    refine ⟨_, cell_of hp5 0, _, cell_of hp5 1, ret2 (R := fun a b w' => _) (p5.at hb4 (by omega)) fun w6 p6 => ⟨rfl, ?_, u5.put p6 (Nat.le_refl _)⟩⟩
    rw [wrS, if_neg (by omega), show ((a : Int) + (j : Int)).toNat = a + j by omega]
    have hx6 : ∀ x : Sl, x.ok → ¬ one w.heap.size (B x) := by
      intro x hx he
      have := lt_of_look h.hs
      obtain ⟨low, free, ht⟩ := h.ht
      obtain ⟨es, ck, g1, g2⟩ := h.hsh
      obtain ⟨es', ck', g3, g4⟩ := h.hpl
      have : B x < w.heap.size := by
        cases x with
        | s => exact lt_of_look h.hs
        | w => exact lt_of_look h.hw
        | t => exact lt_of_look ht.h0
        | p => exact lt_of_look ht.h1
        | k => exact lt_of_look h.hk.h0
        | kr => exact lt_of_look h.hk.h1
        | sh => exact lt_of_look g1
        | pl => exact lt_of_look g3
        | f c => exact lt_of_look (h.hf c hx).h0
        | fr c => exact lt_of_look (h.hf c hx).h1
      simp only [one] at he
      omega
    exact SpR.upd h5 p6.upd hx6 (by simp only [one]; omega)
  · refine ⟨_, cell_of p4.at0 0, _, cell_of p4.at0 1, ret2 (R := fun a b w' => _) hb4 fun w6 p6 => ⟨rfl, ?_, (Kp.upd k4).put p6 (Nat.le_refl _)⟩⟩
    rw [wrS, if_pos h0]
    exact Sp.kp h (k4.put p6 (Nat.le_refl _))

theorem c37 (h : Sp w B σ) (x : Int) : RetE PR 37 [pt (B .s), I x] w (.tuple (Array.mk [I (if fnS σ x < 0 then 0 else fnS σ x), .bool (decide (0 ≤ fnS σ x))])) := by
  refine Ret.of ((S37_eq _ x w _).mpr ?_)
  unfold S37
  obtain ⟨es, ck, h1, h2⟩ := h.hpl
  obtain ⟨res, h3, h4⟩ := h2.find x
  refine ⟨_, cell_of h.hs 12, es, ck, res, ⟨h1, h3⟩, ?_⟩
  have h4 : res.map (·.2) = plL σ x := h4
  unfold plL at h4
  by_cases hf : fnS σ x < 0
  · rw [if_pos hf] at h4
    refine ⟨0, (mgot_none h4).symm, ?_, kp0⟩
    rw [if_pos hf, decide_eq_false (by omega)]
    cases res with
    | none => rfl
    | some p => cases h4
  · rw [if_neg hf] at h4
    refine ⟨_, (mgot_some h4).symm, ?_, kp0⟩
    rw [if_neg hf, decide_eq_true (by omega)]
    cases res with
    | none => cases h4
    | some p => rfl

/-- The place of a slot of free blocks among the struct's cells. -/
theorem cell_f {ρ : Raw} (h : SpR w B ρ) {c : Nat} (hc : c < 8) : w.cell? ((Addr.add ⟨B .s, 0, none⟩ 3).add (c * 1)) = some (pt (B (.f c))) := by
  rw [add_mk, add_mk, cell_of h.hs]
  rcases lt8 hc with rfl | rfl | rfl | rfl | rfl | rfl | rfl | rfl <;> rfl

theorem c92 {ρ : Raw} (h : SpR w B ρ) {c a : Nat} (hc : c < 8) (ha : a < 64 * ρ.n) : RetE PR 92 [pt (B .s), I c, I a] w (I (lkS (nxt (ρ.fr c) (64 * ρ.n) (a + 1)))) := by
  refine Ret.of ((S92_eq _ _ _ w _).mpr ?_)
  unfold S92
  have hn := h.n2
  refine ⟨⟨by omega, by omega⟩, _, cell_f (c := c) h hc, ?_⟩
  rw [wrap_id (by omega) (by omega)]
  refine (c99 (h.hf c hc) _).use fun w1 e1 => ⟨_, rfl, ?_⟩
  rw [show ((a : Int) + 1).toNat = a + 1 by omega]
  have hr : -1 ≤ nxt (ρ.fr c) (64 * ρ.n) (a + 1) ∧ nxt (ρ.fr c) (64 * ρ.n) (a + 1) < 262144 := by
    rcases nxt_cases (ρ.fr c) (64 * ρ.n) (a + 1) with ⟨h1, _⟩ | ⟨j, h1, _, h2, _⟩ <;> omega
  refine (c135 w1 _ hr.1 hr.2).use fun w2 e2 => ⟨_, rfl, rfl, e1.trans e2⟩
end
end Go.Wx
end
section
/- Contracts of the reference's calls that look at one place, and of its search for a free block. -/
set_option linter.unusedVariables false
set_option maxRecDepth 100000
namespace Go.Wx
open Go

section
variable {w : World} {R : RB} {σ : St}

theorem c31 (h : Rf w R σ) (x : Int) : RetE PR 31 [pt R.s, I x] w (.tuple (Array.mk [I (pkS σ x), .bool (inS σ x)])) := by
  refine Ret.of ((S31_eq _ x w _).mpr ?_)
  unfold S31 pkS inS
  have hcw := h.hcw
  refine join_two (ifB_d (fun h1 => ⟨by rw [if_neg (by omega), decide_eq_false (by omega)], kp0⟩) fun h1 => ⟨_, _, _, cell_of h.hs 0, ifB_d (fun h2 => ⟨?_, kp0⟩) fun h2 => ?_⟩)
  · rw [if_neg (by omega), decide_eq_false (by omega)]
  · obtain ⟨i, rfl⟩ : ∃ i : Nat, x = i := ⟨x.toNat, by omega⟩
    refine ⟨_, _, _, cell_of h.hs 0, ⟨by omega, by omega⟩, _, ints_cell (i := i) h.hw (by omega), ?_, kp0⟩
    rw [if_pos (by omega), decide_eq_true (by omega), Int.toNat_natCast]

theorem c28 (h : Rf w R σ) (x v : Int) : Ret PR 28 [pt R.s, I x, I v] w fun r w' => r = .bool (inS σ x) ∧ Rf w' R (poS σ x v) ∧ Upd R.F w w' := by
  refine Ret.of ((S28_eq _ x v w _).mpr ?_)
  unfold S28 poS
  have hcw := h.hcw
  have bad : ¬ (0 ≤ x ∧ x < ((64 * σ.n : Nat) : Int)) → inS σ x = false := fun h => decide_eq_false h
  refine join_two (ifB_d (fun h1 => ⟨by rw [bad (by omega)], by rw [bad (by omega)]; exact h, Upd.refl⟩) fun h1 => ⟨_, _, _, cell_of h.hs 0, ifB_d (fun h2 => ?_) fun h2 => ?_⟩)
  · exact ⟨by rw [bad (by omega)], by rw [bad (by omega)]; exact h, Upd.refl⟩
  · obtain ⟨i, rfl⟩ : ∃ i : Nat, x = i := ⟨x.toNat, by omega⟩
    refine ⟨_, _, _, cell_of h.hs 0, ⟨by omega, by omega⟩, ?_⟩
    rw [add_mk, Int.toNat_natCast, Nat.zero_add, Nat.mul_one]
    refine stx_at _ h.hw (by simp; omega) rfl fun w' p => ?_
    rw [Nat.add_zero, ints_set] at p
    rw [show inS σ i = true from decide_eq_true (by omega)]
    exact ⟨rfl, h.putW p, p.upd.mono fun b hb => .inr (.inl hb)⟩

theorem c71 (h : Rf w R σ) (x : Int) : RetE PR 71 [pt R.s, I x] w (.tuple (Array.mk [VB (blkS σ x), .bool (okI σ x)])) := by
  refine Ret.of ((S71_eq _ x w _).mpr ?_)
  unfold S71
  have hco := h.hco
  refine atW_new fun w1 n1 => ?_
  have h1 := h.kp n1.ext
  have bad : okI σ x = false → ∀ w2, Kp w w2 → Value.tuple (Array.mk [.agg (Array.mk [I 0, I 0, I 0, I 0, I 0]), .bool false]) = .tuple (Array.mk [VB (blkS σ x), .bool (okI σ x)]) ∧ Kp w w2 := by
    intro hb w2 k2
    refine ⟨?_, k2⟩
    rw [hb, blkS, hb]; rfl
  have out : ¬ (0 ≤ x ∧ x < ((64 * σ.n : Nat) : Int)) → okI σ x = false := fun hh => by unfold okI; rw [decide_eq_false hh]; rfl
  refine join_two (ifB_d (fun h2 => ret5 (R := fun a b c d e w' => _) n1.at0 fun w3 p3 => bad (out (by omega)) _ (n1.ext.put p3 (Nat.le_refl _))) fun h2 => ⟨_, _, _, cell_of h1.hs 2, ifB_d (fun h3 => ret5 (R := fun a b c d e w' => _) n1.at0 fun w3 p3 => bad (out (by omega)) _ (n1.ext.put p3 (Nat.le_refl _))) fun h3 => ?_⟩)
  obtain ⟨i, rfl⟩ : ∃ i : Nat, x = i := ⟨x.toNat, by omega⟩
  refine ⟨_, _, _, cell_of h1.hs 2, ⟨by omega, by omega⟩, _, bks_cell (i := i) h1.ho (by omega) (by omega), ifB_eq (fun h4 => ret5 (R := fun a b c d e w' => _) n1.at0 fun w3 p3 => bad ?_ _ (n1.ext.put p3 (Nat.le_refl _))) fun h4 => ?_⟩
  · rw [okI_nat (by omega)]; exact decide_eq_false (fun hh => hh h4)
  have hok : okI σ i = true := by rw [okI_nat (by omega)]; exact decide_eq_true h4
  refine ⟨_, _, _, cell_of h1.hs 2, ⟨by omega, by omega⟩, _, bks_cell (i := i) h1.ho (by omega) (by omega), _, bks_cell (i := i) h1.ho (by omega) (by omega), _, bks_cell (i := i) h1.ho (by omega) (by omega), _, bks_cell (i := i) h1.ho (by omega) (by omega), _, bks_cell (i := i) h1.ho (by omega) (by omega), ?_⟩
  refine ret5 (R := fun a b c d e w' => _) n1.at0 fun w3 p3 => ⟨?_, n1.ext.put p3 (Nat.le_refl _)⟩
  rw [hok, blkS, hok, if_pos rfl, Int.toNat_natCast]; rfl

theorem c75 (h : Rf w R σ) (x : Int) : RetE PR 75 [pt R.s, I x] w (V2 (chkS σ x)) := by
  refine Ret.of ((S75_eq _ x w _).mpr ?_)
  unfold S75
  have hcw := h.hcw
  refine atW_new fun w1 n1 => ?_
  have h1 := h.kp n1.ext
  refine (c71 h1 x).use fun w2 e2 => ⟨_, _, _, _, _, _, rfl, atW_new fun w3 n3 => stx_at _ n3.at0 (by simp) rfl fun w4 p4 => ?_⟩
  have k2 := n1.ext.trans e2
  have k4 := (k2.trans n3.ext).put p4 (by have := k2.sz; omega)
  have hl : w.heap.size ≠ w2.heap.size := by have := e2.sz; have := n1.sz; omega
  have hb4 := p4.at (n3.ext.at (e2.at n1.at0)) hl
  refine ifB_nb (fun hb => ?_) fun hb => ?_
  · refine ret2 (R := fun a b w' => _) hb4 fun w5 p5 => ⟨?_, k4.put p5 (Nat.le_refl _)⟩
    rw [chkS, hb]; rfl
  · obtain ⟨i, rfl, hi, hk⟩ := okI_iff.1 hb
    generalize hwd : World.drew w4 = wd
    have d1 : Kp w4 wd := hwd ▸ ext_drew w4
    have h5 := h.kp (k4.trans d1)
    refine ⟨_, cell_of (d1.at p4.at0) 1, _, cell_of (d1.at p4.at0) 2, _, _, _, cell_of h5.hs 0, ⟨by omega, by omega⟩, _, ints_cell (i := i) h5.hw (by omega), ?_⟩
    refine (c120 wd i _ _).use fun w6 e6 => ⟨_, rfl, e6.draw, ?_⟩
    have k6 := (k4.trans d1).trans e6
    have hb6 := e6.at (d1.at hb4)
    have hbl : blkS σ i = σ.O i := by rw [blkS, if_pos hb, Int.toNat_natCast]
    rw [hbl]
    refine ifB_ne (fun hne => ret2 (R := fun a b w' => _) hb6 fun w7 p7 => ⟨?_, k6.put p7 (Nat.le_refl _)⟩) fun heq => ret2 (R := fun a b w' => _) hb6 fun w7 p7 => ⟨?_, k6.put p7 (Nat.le_refl _)⟩
    · rw [chkS, if_pos hb, Int.toNat_natCast, if_pos hne]
    · rw [chkS, if_pos hb, Int.toNat_natCast, if_neg (fun hh => hh heq)]

theorem c67 (h : Rf w R σ) (x i : Int) : RetE PR 67 [pt R.s, I x, I i] w (V2 (wrdS σ x i)) := by
  refine Ret.of ((S67_eq _ x i w _).mpr ?_)
  unfold S67
  have hco := h.hco
  refine atW_new fun w1 n1 => ?_
  have h1 := h.kp n1.ext
  refine (c75 h1 x).use fun w2 e2 => ⟨_, _, rfl, atW_new fun w3 n3 => stx_at _ n3.at0 (by simp) rfl fun w4 p4 => ⟨_, cell_of p4.at0 0, ?_⟩⟩
  have k2 := n1.ext.trans e2
  have k4 := (k2.trans n3.ext).put p4 (by have := k2.sz; omega)
  have hl : w.heap.size ≠ w2.heap.size := by have := e2.sz; have := n1.sz; omega
  have hb4 := p4.at (n3.ext.at (e2.at n1.at0)) hl
  have h4 := h.kp k4
  refine ifB_ne (fun h0 => ?_) fun h0 => ?_
  · refine ⟨_, cell_of p4.at0 0, _, cell_of p4.at0 1, ret2 (R := fun a b w' => _) hb4 fun w6 p6 => ⟨?_, k4.put p6 (Nat.le_refl _)⟩⟩
    rw [wrdS, if_pos h0]
  · obtain ⟨hc, hok⟩ := chkS_ok h0
    obtain ⟨a, rfl, ha, hk⟩ := okI_iff.1 hok
    refine ifB_d (fun hi => ret2 (R := fun a b w' => _) hb4 fun w6 p6 => ⟨?_, k4.put p6 (Nat.le_refl _)⟩) fun hi => ⟨_, _, _, cell_of h4.hs 2, ⟨by omega, by omega⟩, _, bks_cell (i := a) h4.ho (by omega) (by omega), ifB_d (fun hi2 => ret2 (R := fun a b w' => _) hb4 fun w6 p6 => ⟨?_, k4.put p6 (Nat.le_refl _)⟩) fun hi2 => ret2 (R := fun a b w' => _) hb4 fun w6 p6 => ⟨?_, k4.put p6 (Nat.le_refl _)⟩⟩
    · rw [wrdS, if_neg (by omega), if_pos hi]
    · rw [wrdS, if_neg (by omega), if_neg hi, Int.toNat_natCast, if_pos hi2]
    · rw [wrdS, if_neg (by omega), if_neg hi, Int.toNat_natCast, if_neg hi2]

theorem c73 (hI : Inv σ) (h : Rf w R σ) (x i : Int) : RetE PR 73 [pt R.s, I x, I i] w (.tuple (Array.mk [I (rdS σ x i), V2 (wrdS σ x i)])) := by
  refine Ret.of ((S73_eq _ x i w _).mpr ?_)
  unfold S73
  have hcw := h.hcw
  refine atW_new fun w1 n1 => ?_
  have h1 := h.kp n1.ext
  refine (c67 h1 x i).use fun w2 e2 => ⟨_, _, rfl, atW_new fun w3 n3 => stx_at _ n3.at0 (by simp) rfl fun w4 p4 => ⟨_, cell_of p4.at0 0, ?_⟩⟩
  have k2 := n1.ext.trans e2
  have k4 := (k2.trans n3.ext).put p4 (by have := k2.sz; omega)
  have hl : w.heap.size ≠ w2.heap.size := by have := e2.sz; have := n1.sz; omega
  have hb4 := p4.at (n3.ext.at (e2.at n1.at0)) hl
  refine ifB_ne (fun h0 => ?_) fun h0 => ?_
  · generalize hwd : World.drew w4 = wd
    have d1 : Kp w4 wd := hwd ▸ ext_drew w4
    refine ⟨_, cell_of (d1.at p4.at0) 0, _, cell_of (d1.at p4.at0) 1, ret2 (R := fun a b w' => _) (d1.at hb4) fun w6 p6 => ⟨?_, (k4.trans d1).put p6 (Nat.le_refl _)⟩⟩
    rw [rdS, if_pos h0]
  · obtain ⟨a, rfl, ha, hk, hi1, hi2, hw⟩ := wrdS_ok h0
    obtain ⟨s1, s2, s3, s4⟩ := hI.room ha hk
    have hn2 := hI.n2
    have h4 := h.kp k4
    obtain ⟨j, rfl⟩ : ∃ j : Nat, i = j := ⟨i.toNat, by omega⟩
    have e : IntKind.i64.wrap ((a : Int) + (j : Int)) = ((a + j : Nat) : Int) := by rw [wrap_id (by omega) (by omega)]; simp
    rw [e]
    refine ⟨_, _, _, cell_of h4.hs 0, ⟨by omega, by omega⟩, _, ints_cell (i := a + j) h4.hw (by omega), ret2 (R := fun a b w' => _) hb4 fun w6 p6 => ⟨?_, k4.put p6 (Nat.le_refl _)⟩⟩
    rw [rdS, if_neg (by omega), show ((a : Int) + (j : Int)).toNat = a + j by omega, hw]

theorem Rf.lt (h : Rf w R σ) {b : Nat} (hb : R.F b) : b < w.heap.size := by
  rcases hb with rfl | rfl | rfl | rfl | rfl
  · exact lt_of_look h.hs
  · exact lt_of_look h.hw
  · exact lt_of_look h.ht.h1
  · exact lt_of_look h.ho
  · exact lt_of_look h.ht.h0
theorem Rf.putNew (h : Rf w R σ) {w0 w' : World} {b : Nat} {o : Obj} (p : Put w b o w') (hb : ∀ c, R.F c → c < b) : Rf w' R σ := h.upd p.upd fun c hc he => by have := hb c hc; simp only [one] at he; omega

theorem c25 (hI : Inv σ) (h : Rf w R σ) (x i v : Int) : Ret PR 25 [pt R.s, I x, I i, I v] w fun r w' => r = V2 (wrdS σ x i) ∧ Rf w' R (wrS σ x i v) ∧ Upd R.F w w' := by
  refine Ret.of ((S25_eq _ x i v w _).mpr ?_)
  unfold S25
  have hcw := h.hcw
  refine atW_new fun w1 n1 => ?_
  have h1 := h.kp n1.ext
  refine (c67 h1 x i).use fun w2 e2 => ⟨_, _, rfl, atW_new fun w3 n3 => stx_at _ n3.at0 (by simp) rfl fun w4 p4 => ⟨_, cell_of p4.at0 0, ?_⟩⟩
  have k2 := n1.ext.trans e2
  have k4 := (k2.trans n3.ext).put p4 (by have := k2.sz; omega)
  have hl : w.heap.size ≠ w2.heap.size := by have := e2.sz; have := n1.sz; omega
  have hb4 := p4.at (n3.ext.at (e2.at n1.at0)) hl
  have h4 := h.kp k4
  have hwl : R.wb < w.heap.size := lt_of_look h.hw
  refine ifB_eq (fun h0 => ?_) fun h0 => ?_
  · obtain ⟨a, rfl, ha, hk, hi1, hi2, hw⟩ := wrdS_ok h0
    obtain ⟨s1, s2, s3, s4⟩ := hI.room ha hk
    have hn2 := hI.n2
    obtain ⟨j, rfl⟩ : ∃ j : Nat, i = j := ⟨i.toNat, by omega⟩
    have e : IntKind.i64.wrap ((a : Int) + (j : Int)) = ((a + j : Nat) : Int) := by rw [wrap_id (by omega) (by omega)]; simp
    rw [e]
    refine ⟨_, _, _, cell_of h4.hs 0, ⟨by omega, by omega⟩, ?_⟩
    rw [add_mk, Int.toNat_natCast, Nat.zero_add, Nat.mul_one]
    refine stx_at _ h4.hw (by simp; omega) rfl fun w5 p5 => ?_
    rw [Nat.add_zero (a + j), ints_set] at p5
    have h5 := h4.putW p5
    have hp5 := p5.at p4.at0 (by have := k2.sz; omega)
    have u5 : Upd R.F w w5 := (Kp.upd k4).trans (p5.upd.mono fun b hb => .inr (.inl hb))
    refine ⟨_, cell_of hp5 0, _, cell_of hp5 1, ret2 (R := fun a b w' => _) (p5.at hb4 (by omega)) fun w6 p6 => ⟨rfl, ?_, u5.put p6 (Nat.le_refl _)⟩⟩
    rw [wrS, if_neg (by omega), show ((a : Int) + (j : Int)).toNat = a + j by omega]
    exact h5.putNew (w0 := w) p6 fun c hc => h.lt hc
  · refine ⟨_, cell_of p4.at0 0, _, cell_of p4.at0 1, ret2 (R := fun a b w' => _) hb4 fun w6 p6 => ⟨rfl, ?_, (Kp.upd k4).put p6 (Nat.le_refl _)⟩⟩
    rw [wrS, if_pos h0]
    exact h.kp (k4.put p6 (Nat.le_refl _))

theorem c38 (h : Rf w R σ) (x : Int) : RetE PR 38 [pt R.s, I x] w (.tuple (Array.mk [I (if fnS σ x < 0 then 0 else fnS σ x), .bool (decide (0 ≤ fnS σ x))])) := by
  refine Ret.of ((S38_eq _ x w _).mpr ?_)
  unfold S38
  have hco := h.hco
  have hn2 := h.n2
  refine loop_rule (fun i : Nat => ((0 : Int), false, (i : Int), ())) (fun i w' => w' = w ∧ i ≤ 64 * σ.n ∧ ∀ j, j < i → ¬ ((σ.O j).kind ≠ 0 ∧ (σ.O j).serial = x ∧ x ≥ 1)) (fun i => 64 * σ.n - i) 0 rfl ⟨rfl, by omega, fun j hj => by omega⟩ ?_
  rintro i w1 K ⟨rfl, hin, hno⟩ hK
  have next : i < 64 * σ.n → ¬ ((σ.O i).kind ≠ 0 ∧ (σ.O i).serial = x ∧ x ≥ 1) → K ((0 : Int), false, IntKind.i64.wrap ((i : Int) + 1), ()) w1 := by
    intro hi hnot
    rw [wrap_id (by omega) (by omega)]
    refine hK (i + 1) w1 ⟨rfl, hi, fun j hj => ?_⟩ (by omega)
    by_cases hji : j = i
    · subst hji; exact hnot
    · exact hno j (by omega)
  refine ⟨_, _, _, cell_of h.hs 2, ifB_d (fun hlt => ?_) fun hlt => ⟨?_, kp0⟩⟩
  · have hlt : i < 64 * σ.n := by simp only at hlt; omega
    refine ⟨_, _, _, cell_of h.hs 2, ⟨by dsimp only; omega, by dsimp only; omega⟩, _, bks_cell (i := i) h.ho (by omega) (by omega), ifB_ne (fun hk => ?_) fun hk => next hlt fun hh => hh.1 hk⟩
    refine ⟨_, _, _, cell_of h.hs 2, ⟨by dsimp only; omega, by dsimp only; omega⟩, _, bks_cell (i := i) h.ho (by omega) (by omega), ifB_eq (fun hs => ifB_d (fun h1 => ⟨?_, kp0⟩) fun h1 => next hlt fun hh => h1 hh.2.2) fun hs => next hlt fun hh => hs hh.2.1⟩
    have : fnS σ x = i := by
      rw [fnS, if_pos h1]
      refine nxt_some (by omega) hlt (decide_eq_true ⟨hk, hs⟩) fun j _ hj => decide_eq_false fun hh => hno j hj ⟨hh.1, hh.2, h1⟩
    rw [this, if_neg (by omega), decide_eq_true (by omega)]
  · have hlt : ¬ i < 64 * σ.n := by simp only at hlt; omega
    have : fnS σ x = -1 := by
      unfold fnS
      split
      · exact nxt_none fun j _ hj => decide_eq_false fun hh => hno j (by omega) ⟨hh.1, hh.2, by assumption⟩
      · rfl
    rw [this]; rfl

theorem frB_iff {c i : Nat} : frB σ c i = true ↔ (σ.P (i / 64)).kind = 1 ∧ (σ.P (i / 64)).cls = c ∧ (i % 64) % wdN c = 0 ∧ (i % 64) / wdN c < bkN c ∧ (σ.O i).kind = 0 := by simp [frB]

theorem c64 (h : Rf w R σ) {c : Nat} (hc : c < 8) (x : Int) (hx : x < 1000000) (hx0 : -1000000 < x) : RetE PR 64 [pt R.s, I c, I x] w (I (nfS σ c x.toNat)) := by
  refine Ret.of ((S64_eq _ _ x w _).mpr ?_)
  unfold S64
  have hco := h.hco
  have hn2 := h.n2
  have hcp := h.ht.hc
  obtain ⟨v1, v2, v3, v4, v5, v6, v7⟩ := wdN_pos hc
  refine ⟨fun s w' => w' = w ∧ s = ((x.toNat : Int), ()), ?_, ifB_d (fun hh => ⟨rfl, by rw [show x.toNat = 0 by omega]; rfl⟩) fun hh => ⟨rfl, by rw [show ((x.toNat : Nat) : Int) = x by omega]⟩⟩
  rintro s w' ⟨rfl, rfl⟩
  have hxl : x.toNat < 1000000 := by omega
  generalize x.toNat = x at *
  have e0 : IntKind.i64.wrap (Int.tdiv (x : Int) 64) = ((x / 64 : Nat) : Int) := by rw [Int.tdiv_eq_ediv_of_nonneg (by omega), wrap_id (by omega) (by omega)]; simp
  dsimp only
  rw [e0]
  refine loop_rule (fun p : Nat => ((0 : Int), (p : Int), ())) (fun p w1 => Kp w' w1 ∧ x / 64 ≤ p ∧ (p ≤ σ.n ∨ p = x / 64) ∧ ∀ j, x ≤ j → j < 64 * p → frB σ c j = false) (fun p => 1000000 - p) (x / 64) rfl ⟨kp0, Nat.le_refl _, .inr rfl, fun j h1 h2 => by omega⟩ ?_
  rintro p w1 K ⟨k1, hp1, hp2, hno⟩ hK
  have h1 := h.kp k1
  dsimp only
  refine ⟨_, cell_of h1.hs 1, _, _, _, cell_of h1.ht.h0 0, ifB_d (fun hlt => ?_) fun hlt => ⟨?_, k1⟩⟩
  · have hlt : p < σ.n := by omega
    have next : ∀ w2, Kp w' w2 → (∀ j, x ≤ j → 64 * p ≤ j → j < 64 * p + 64 → frB σ c j = false) → K ((0 : Int), IntKind.i64.wrap ((p : Int) + 1), ()) w2 := by
      intro w2 k2 hn
      rw [wrap_id (by omega) (by omega)]
      refine hK (p + 1) w2 ⟨k2, by omega, .inl (by omega), fun j ha hb => ?_⟩ (by omega)
      by_cases hj : j < 64 * p
      · exact hno j ha hj
      · exact hn j ha (by omega) (by omega)
    refine join_two ⟨_, cell_of h1.hs 1, _, _, _, cell_of h1.ht.h0 0, ⟨by omega, by omega⟩, _, pgs_cell (i := p) h1.ht.h1 (by omega) (by omega), ifB_ne (fun hk => next w1 k1 fun j _ ha hb => ?_) fun hk => ⟨_, cell_of h1.hs 1, _, _, _, cell_of h1.ht.h0 0, ⟨by omega, by omega⟩, _, pgs_cell (i := p) h1.ht.h1 (by omega) (by omega), ifB_ne (fun hcl => next w1 k1 fun j _ ha hb => ?_) fun hcl => ?_⟩⟩
    · cases hf : frB σ c j with
      | false => rfl
      | true =>
        have := (frB_iff.1 hf).1
        rw [show j / 64 = p by omega] at this
        exact absurd this hk
    · cases hf : frB σ c j with
      | false => rfl
      | true =>
        have := (frB_iff.1 hf).2.1
        rw [show j / 64 = p by omega] at this
        exact absurd this hcl
    · refine loop_rule (fun i : Nat => ((0 : Int), (i : Int), ())) (fun i w2 => Kp w' w2 ∧ i ≤ bkN c ∧ ∀ j, x ≤ j → 64 * p ≤ j → j < 64 * p + i * wdN c → frB σ c j = false) (fun i => 64 - i) 0 rfl ⟨k1, by omega, fun j h1 h2 h3 => by omega⟩ ?_
      rintro i w2 K1 ⟨k2, hib, hno2⟩ hK1
      dsimp only
      refine (c116 w2 c).use fun w3 e3 => ⟨_, rfl, ?_⟩
      rw [bkS_nat hc]
      have k3 := k2.trans e3
      refine ifB_d (fun hlt2 => ?_) fun hlt2 => next w3 k3 fun j ha hb hd => ?_
      · have hi : i < bkN c := by omega
        have hle : (i + 1) * wdN c ≤ 64 := Nat.le_trans (Nat.mul_le_mul_right _ hi) v5
        rw [Nat.add_mul] at hle
        refine (c117 w3 c i (by omega)).use fun w4 e4 => ⟨_, rfl, ?_⟩
        have k4 := k3.trans e4
        have h4 := h.kp k4
        have hst : stS c i = ((i * wdN c : Nat) : Int) := by rw [stS, if_neg (by omega), bkS_nat hc, if_neg (by omega), wdS_nat hc]; simp
        have e5 : IntKind.i64.wrap (IntKind.i64.wrap ((p : Int) * 64) + stS c i) = ((64 * p + i * wdN c : Nat) : Int) := by rw [hst, wrap_id (x := (p : Int) * 64) (by omega) (by omega), wrap_id (by omega) (by omega)]; simp; omega
        rw [e5]
        have next1 : frB σ c (64 * p + i * wdN c) = false ∨ 64 * p + i * wdN c < x → K1 ((0 : Int), IntKind.i64.wrap ((i : Int) + 1), ()) w4 := by
          intro hor
          rw [wrap_id (by omega) (by omega)]
          refine hK1 (i + 1) w4 ⟨k4, hi, fun j ha hb hd => ?_⟩ (by omega)
          rw [Nat.add_mul, Nat.one_mul] at hd
          by_cases hj : j < 64 * p + i * wdN c
          · exact hno2 j ha hb hj
          · by_cases hj2 : j = 64 * p + i * wdN c
            · rcases hor with h | h
              · rw [hj2]; exact h
              · omega
            · cases hf : frB σ c j with
              | false => rfl
              | true =>
                exfalso
                have hm := (frB_iff.1 hf).2.2.1
                rw [show j % 64 = wdN c * i + (j - 64 * p - i * wdN c) by rw [Nat.mul_comm]; omega, Nat.mul_add_mod, Nat.mod_eq_of_lt (by omega)] at hm
                omega
        refine ifB_d (fun hge => ⟨_, _, _, cell_of h4.hs 2, ⟨by omega, by omega⟩, _, bks_cell (i := 64 * p + i * wdN c) h4.ho (by omega) (by omega), ifB_eq (fun hk0 => ⟨?_, k4⟩) fun hk0 => next1 (.inl ?_)⟩) fun hge => next1 (.inr (by omega))
        · rw [nfS, nxt_some (j := 64 * p + i * wdN c) (by omega) (by omega)]
          · refine frB_iff.2 ?_
            rw [show (64 * p + i * wdN c) / 64 = p by omega, show (64 * p + i * wdN c) % 64 = wdN c * i by rw [Nat.mul_comm (wdN c)]; omega, Nat.mul_mod_right, Nat.mul_div_cancel_left _ (by omega)]
            exact ⟨hk, hcl, rfl, hi, hk0⟩
          · intro j ha hb
            by_cases hj : j < 64 * p
            · exact hno j ha hj
            · exact hno2 j ha (by omega) hb
        · cases hf : frB σ c (64 * p + i * wdN c) with
          | false => rfl
          | true => exact absurd (frB_iff.1 hf).2.2.2.2 hk0
      · have hi : i = bkN c := by omega
        by_cases hj : j < 64 * p + i * wdN c
        · exact hno2 j ha hb hj
        · cases hf : frB σ c j with
          | false => rfl
          | true =>
            exfalso
            have hm := (frB_iff.1 hf).2.2.2.1
            have := (Nat.div_lt_iff_lt_mul (show 0 < wdN c by omega)).1 hm
            rw [hi] at hj
            omega
  · rw [nfS, nxt_none fun j ha hb => ?_]
    rcases hp2 with hp2 | hp2
    · exact hno j ha (by omega)
    · exact hno j ha (by omega)
end
end Go.Wx
end
section
/- Taking an object, in plain terms: where it would stand, what the space is then; what always holds goes on to hold. -/
set_option linter.unusedVariables false
set_option maxRecDepth 100000
namespace Go.Wx
open Go

/-- Where an object of so many words would stand, and whether its class takes a page for it; -1: nowhere. -/
def plS (σ : St) (size : Int) : Int × Bool :=
  if ofS size < 0 then (-1, false)
  else if ofS size = 8 then (if nxt (rowB σ.P σ.n (pgS size).toNat) σ.n 0 < 0 then (-1, false) else (nxt (rowB σ.P σ.n (pgS size).toNat) σ.n 0 * 64, false))
  else if nfS σ (ofS size).toNat 0 ≥ 0 then (nfS σ (ofS size).toNat 0, false)
  else if nxt (fp σ.P) σ.n 0 < 0 then (-1, false) else (nxt (fp σ.P) σ.n 0 * 64, true)

def PlcOK (σ : St) (size : Int) (a : Nat) (fresh : Bool) : Prop :=
  (∃ c : Nat, c < 8 ∧ ofS size = c ∧ fresh = false ∧ a < 64 * σ.n ∧ frB σ c a = true) ∨
  (∃ c : Nat, c < 8 ∧ ofS size = c ∧ fresh = true ∧ (∀ j, j < 64 * σ.n → frB σ c j = false) ∧ ∃ k, k < σ.n ∧ a = 64 * k ∧ (σ.P k).kind = 0) ∨
  (ofS size = 8 ∧ fresh = false ∧ ∃ k, a = 64 * k ∧ rowB σ.P σ.n (pgS size).toNat k = true)

theorem plS_cases (σ : St) {size : Int} (h1 : 1 ≤ size) (h2 : size ≤ 1024) : plS σ size = (-1, false) ∨ ∃ (a : Nat) (f : Bool), plS σ size = ((a : Int), f) ∧ PlcOK σ size a f := by
  have hr := ofS_in h1 h2
  unfold plS
  rw [if_neg (by omega)]
  by_cases h8 : ofS size = 8
  · rw [if_pos h8]
    rcases nxt_cases (rowB σ.P σ.n (pgS size).toNat) σ.n 0 with ⟨h3, _⟩ | ⟨k, h3, _, _, h4, _⟩
    · left; rw [h3]; rfl
    · right
      rw [h3, if_neg (by omega)]
      exact ⟨64 * k, false, by simp; omega, .inr (.inr ⟨h8, rfl, k, rfl, h4⟩)⟩
  · rw [if_neg h8]
    obtain ⟨c, hc⟩ : ∃ c : Nat, ofS size = c := ⟨(ofS size).toNat, by omega⟩
    rw [hc, Int.toNat_natCast]
    have hc8 : c < 8 := by omega
    rcases nxt_cases (frB σ c) (64 * σ.n) 0 with ⟨h3, h4⟩ | ⟨a, h3, _, h4, h5, _⟩
    · rw [nfS, h3, if_neg (by omega)]
      rcases nxt_cases (fp σ.P) σ.n 0 with ⟨h5, _⟩ | ⟨k, h5, _, h6, h7, _⟩
      · left; rw [h5]; rfl
      · right
        rw [h5, if_neg (by omega)]
        exact ⟨64 * k, true, by simp; omega, .inr (.inl ⟨c, hc8, hc, rfl, fun j hj => h4 j (by omega) hj, k, h6, rfl, by simpa using h7⟩)⟩
    · right
      rw [nfS, h3, if_pos (by omega)]
      exact ⟨a, false, rfl, .inl ⟨c, hc8, hc, rfl, h4, h5⟩⟩

/-- The link of a block of a page that is cut. -/
def lkW (c a i : Nat) : Int := if (i - a) % wdN c = 0 ∧ (i - a) / wdN c < bkN c then lkS (if (i - a) / wdN c + 1 < bkN c then ((i + wdN c : Nat) : Int) else -1) else 0
def takW (W : Nat → Int) (a : Nat) (fresh : Bool) (kind size : Int) : Nat → Int := fun i =>
  if i = a then hdS a kind size else if a < i ∧ (i : Int) < a + roomS size then 0 else if fresh = true ∧ a ≤ i ∧ i < a + 64 then lkW (ofS size).toNat a i else W i
def takP (P : Nat → Pg) (a : Nat) (fresh : Bool) (size : Int) : Nat → Pg := if ofS size = 8 then runP P (a / 64) (pgS size).toNat else if fresh then up P (a / 64) ⟨1, ofS size, 0⟩ else P
def takB (σ : St) (a : Nat) (kind size tag : Int) : Bk := ⟨a, kind, size, if numS kind then σ.last + 1 else 0, tag⟩
def takeS (σ : St) (a : Nat) (fresh : Bool) (kind size tag : Int) : St :=
  { n := σ.n, W := takW σ.W a fresh kind size, P := takP σ.P a fresh size, O := up σ.O a (takB σ a kind size tag), last := if numS kind then σ.last + 1 else σ.last }

theorem shB_pos {k n : Int} (h : fitS k n = true) : k ≠ 0 := by have := fitS_rng h; omega

section
variable {σ : St}
/-- A page of an object is taken. -/
theorem Inv.page (hI : Inv σ) {i : Nat} (hi : i < 64 * σ.n) (hk : (σ.O i).kind ≠ 0) : (σ.P (i / 64)).kind = 1 ∨ ((σ.P (i / 64)).kind = 2 ∧ i % 64 = 0) := by
  rcases (hI.ob i hi hk).pl with ⟨c, hc, h1, h2, h3, h4⟩ | ⟨h1, h2, h3⟩
  · left; rw [h2]
  · right; rw [h3]; exact ⟨rfl, h2⟩

theorem PlcOK.lt {size : Int} {a : Nat} {f : Bool} (h : PlcOK σ size a f) (h1 : 1 ≤ size) (h2 : size ≤ 1024) : a < 64 * σ.n ∧ (a : Int) + roomS size ≤ ((64 * σ.n : Nat) : Int) := by
  rcases h with ⟨c, hc, h3, _, h4, h5⟩ | ⟨c, hc, h3, _, _, k, h4, rfl, h6⟩ | ⟨h8, _, k, rfl, h4⟩
  · obtain ⟨g1, g2, g3, g4, g5⟩ := frB_iff.1 h5
    have := blk_in hc g3 g4
    rw [roomS_small hc h3]
    omega
  · rw [roomS_small hc h3]; have := wdN_pos hc; omega
  · rw [roomS_big h8]
    have := (rowB_iff.1 h4).1
    have := pgS_8 h8
    omega
theorem PlcOK.empty (hI : Inv σ) {size : Int} {a : Nat} {f : Bool} (h : PlcOK σ size a f) : (σ.O a).kind = 0 := by
  rcases h with ⟨c, hc, h3, _, h4, h5⟩ | ⟨c, hc, h3, _, _, k, h4, rfl, h6⟩ | ⟨h8, _, k, rfl, h4⟩
  · exact (frB_iff.1 h5).2.2.2.2
  · by_cases hk : (σ.O (64 * k)).kind = 0
    · exact hk
    · have := hI.page (i := 64 * k) (by omega) hk
      rw [show 64 * k / 64 = k by omega] at this
      omega
  · obtain ⟨g1, g2⟩ := rowB_iff.1 h4
    have hp := pgS_8 h8
    by_cases hk : (σ.O (64 * k)).kind = 0
    · exact hk
    · have := hI.page (i := 64 * k) (by omega) hk
      rw [show 64 * k / 64 = k by omega] at this
      have g3 := g2 0 (by omega)
      rw [Nat.add_zero] at g3
      omega

/-- The pages that are no longer what they were, were free. -/
theorem takP_same {size : Int} {a : Nat} {f : Bool} (h : PlcOK σ size a f) {p : Nat} (hp : (σ.P p).kind ≠ 0) : takP σ.P a f size p = σ.P p := by
  unfold takP
  rcases h with ⟨c, hc, h3, hf, h4, h5⟩ | ⟨c, hc, h3, hf, _, k, h4, rfl, h6⟩ | ⟨h8, hf, k, rfl, h4⟩
  · rw [if_neg (by omega), hf, if_neg (by simp)]
  · rw [if_neg (by omega), hf, if_pos rfl, show 64 * k / 64 = k by omega]
    exact up_other _ _ fun e => hp (e ▸ h6)
  · rw [if_pos h8, show 64 * k / 64 = k by omega]
    obtain ⟨g1, g2⟩ := rowB_iff.1 h4
    have h8p := pgS_8 h8
    unfold runP
    have hin : ¬ (k ≤ p ∧ p < k + (pgS size).toNat) := fun hh => by
      have := g2 (p - k) (by omega)
      rw [show k + (p - k) = p by omega] at this
      exact hp this
    rw [if_neg (fun e => hin ⟨by omega, by omega⟩), if_neg hin]

theorem Inv.take (hI : Inv σ) {kind size tag : Int} (hfit : fitS kind size = true) {a : Nat} {f : Bool} (h : PlcOK σ size a f) : Inv (takeS σ a f kind size tag) := by
  obtain ⟨k1, k2, s1, s2⟩ := fitS_rng hfit
  obtain ⟨ha, hroom⟩ := h.lt s1 s2
  have he := h.empty hI
  have same := fun {p : Nat} => takP_same h (p := p)
  have hl0 := hI.last0
  have hlast : σ.last ≤ (takeS σ a f kind size tag).last := by show σ.last ≤ if numS kind then σ.last + 1 else σ.last; split <;> omega
  have hO : ∀ i, i ≠ a → (takeS σ a f kind size tag).O i = σ.O i := fun i hi => up_other _ _ hi
  have hOa : (takeS σ a f kind size tag).O a = takB σ a kind size tag := up_same _ _ _
  refine ⟨hI.n1, hI.n2, fun p hp => ?_, fun i hi hk => ?_, fun i hi hk => ?_, fun i j hi hj hki hkj hs he' => ?_, fun p hp hk => ?_, by omega⟩
  · -- pages
    have hpg := hI.pg p hp
    by_cases hk0 : (σ.P p).kind = 0
    · -- it was free
      unfold PgOK
      show takP σ.P a f size p = Pg.z ∨ (∃ c : Nat, c < 8 ∧ takP σ.P a f size p = ⟨1, c, 0⟩) ∨ (∃ r : Nat, 1 ≤ r ∧ r ≤ 16 ∧ takP σ.P a f size p = ⟨2, 0, r⟩ ∧ p + r ≤ σ.n ∧ ∀ j, 1 ≤ j → j < r → takP σ.P a f size (p + j) = ⟨3, 0, 0⟩) ∨ (takP σ.P a f size p = ⟨3, 0, 0⟩ ∧ ∃ h r : Nat, h < p ∧ p < h + r ∧ takP σ.P a f size h = ⟨2, 0, r⟩)
      unfold takP
      rcases h with ⟨c, hc, h3, hf, h4, h5⟩ | ⟨c, hc, h3, hf, _, k, h4, rfl, h6⟩ | ⟨h8, hf, k, rfl, h4⟩
      · rw [if_neg (by omega), hf, if_neg (by simp)]
        exact .inl (hpg.free hk0)
      · rw [if_neg (by omega), hf, if_pos rfl, show 64 * k / 64 = k by omega]
        by_cases hpk : p = k
        · subst hpk; rw [up_same, h3]; exact .inr (.inl ⟨c, hc, rfl⟩)
        · rw [up_other _ _ hpk]; exact .inl (hpg.free hk0)
      · rw [if_pos h8, show 64 * k / 64 = k by omega]
        obtain ⟨g1, g2⟩ := rowB_iff.1 h4
        have h8p := pgS_8 h8
        have h8r := pgS_rng size
        by_cases hpk : p = k
        · subst hpk
          refine .inr (.inr (.inl ⟨(pgS size).toNat, by omega, by omega, by rw [runP, if_pos rfl], g1, fun j hj1 hj2 => ?_⟩))
          rw [runP, if_neg (by omega), if_pos (by omega)]
        · by_cases hin : k ≤ p ∧ p < k + (pgS size).toNat
          · refine .inr (.inr (.inr ⟨by rw [runP, if_neg hpk, if_pos hin], k, (pgS size).toNat, by omega, hin.2, by rw [runP, if_pos rfl]⟩))
          · rw [runP, if_neg hpk, if_neg hin]; exact .inl (hpg.free hk0)
    · show PgOK (takeS σ a f kind size tag) p
      unfold PgOK
      show takP σ.P a f size p = Pg.z ∨ (∃ c : Nat, c < 8 ∧ takP σ.P a f size p = ⟨1, c, 0⟩) ∨ (∃ r : Nat, 1 ≤ r ∧ r ≤ 16 ∧ takP σ.P a f size p = ⟨2, 0, r⟩ ∧ p + r ≤ σ.n ∧ ∀ j, 1 ≤ j → j < r → takP σ.P a f size (p + j) = ⟨3, 0, 0⟩) ∨ (takP σ.P a f size p = ⟨3, 0, 0⟩ ∧ ∃ h r : Nat, h < p ∧ p < h + r ∧ takP σ.P a f size h = ⟨2, 0, r⟩)
      rw [same hk0]
      rcases hpg with h0 | h1 | ⟨r, r1, r2, r3, r4, r5⟩ | ⟨r1, hh, r, r2, r3, r4⟩
      · exact .inl h0
      · exact .inr (.inl h1)
      · refine .inr (.inr (.inl ⟨r, r1, r2, r3, r4, fun j hj1 hj2 => ?_⟩))
        rw [same (by rw [r5 j hj1 hj2]; simp), r5 j hj1 hj2]
      · exact .inr (.inr (.inr ⟨r1, hh, r, r2, r3, by rw [same (by rw [r4]; simp), r4]⟩))
  · -- objects
    by_cases hia : i = a
    · subst hia
      refine ⟨by rw [hOa]; exact hfit, by rw [hOa]; rfl, ?_, ?_, ?_⟩
      · rw [hOa]
        show numS kind = true → 1 ≤ (if numS kind then σ.last + 1 else 0) ∧ (if numS kind then σ.last + 1 else 0) ≤ (if numS kind then σ.last + 1 else σ.last)
        intro hn; rw [hn]; simp; omega
      · rw [hOa]
        show numS kind = false → (if numS kind then σ.last + 1 else 0) = 0
        intro hn; rw [hn]; rfl
      · rw [hOa]
        show (∃ c : Nat, c < 8 ∧ ofS size = c ∧ takP σ.P i f size (i / 64) = ⟨1, c, 0⟩ ∧ (i % 64) % wdN c = 0 ∧ (i % 64) / wdN c < bkN c) ∨ (ofS size = 8 ∧ i % 64 = 0 ∧ takP σ.P i f size (i / 64) = ⟨2, 0, pgS size⟩)
        rcases h with ⟨c, hc, h3, hf, h4, h5⟩ | ⟨c, hc, h3, hf, _, k, h4, rfl, h6⟩ | ⟨h8, hf, k, rfl, h4⟩
        · obtain ⟨g1, g2, g3, g4, g5⟩ := frB_iff.1 h5
          refine .inl ⟨c, hc, h3, ?_, g3, g4⟩
          rw [same (by omega)]
          obtain ⟨c', _, hP⟩ := (hI.pg (i / 64) (by omega)).clsz g1
          rw [hP] at g2 ⊢
          simp only at g2
          rw [g2]
        · refine .inl ⟨c, hc, h3, ?_, ?_, ?_⟩
          · rw [takP, if_neg (by omega), hf, if_pos rfl, up_same, h3]
          · rw [show 64 * k % 64 = 0 by omega]; simp
          · rw [show 64 * k % 64 = 0 by omega, Nat.zero_div]; have := wdN_pos hc; omega
        · refine .inr ⟨h8, by omega, ?_⟩
          have := pgS_8 h8
          rw [takP, if_pos h8, runP, if_pos rfl, Int.toNat_of_nonneg (by omega)]
    · rw [hO i hia] at hk
      have ho := hI.ob i hi hk
      have hpk : (σ.P (i / 64)).kind ≠ 0 := by rcases hI.page hi hk with h | h <;> omega
      refine ⟨by rw [hO i hia]; exact ho.fit, by rw [hO i hia]; exact ho.at_, ?_, ?_, ?_⟩
      · rw [hO i hia]; intro hn; have := ho.ser hn; omega
      · rw [hO i hia]; exact ho.ser0
      · rw [hO i hia]
        show (∃ c : Nat, c < 8 ∧ ofS (σ.O i).size = c ∧ takP σ.P a f size (i / 64) = ⟨1, c, 0⟩ ∧ (i % 64) % wdN c = 0 ∧ (i % 64) / wdN c < bkN c) ∨ (ofS (σ.O i).size = 8 ∧ i % 64 = 0 ∧ takP σ.P a f size (i / 64) = ⟨2, 0, pgS (σ.O i).size⟩)
        rw [same hpk]
        exact ho.pl
  · by_cases hia : i = a
    · subst hia
      rw [hOa] at hk
      exact absurd hk (shB_pos hfit)
    · rw [hO i hia] at hk ⊢
      exact hI.oz i hi hk
  · have key : ∀ i j, i < 64 * σ.n → j < 64 * σ.n → i = a → j ≠ a → (σ.O j).kind ≠ 0 → 1 ≤ (takB σ a kind size tag).serial → (takB σ a kind size tag).serial = (σ.O j).serial → False := by
      intro i j hi hj hia hja hkj hs he'
      have hs : 1 ≤ (if numS kind then σ.last + 1 else 0) := hs
      have he' : (if numS kind then σ.last + 1 else 0) = (σ.O j).serial := he'
      have hoj := hI.ob j hj hkj
      split at hs
      · rename_i hn
        rw [if_pos hn] at he'
        cases hnj : numS (σ.O j).kind with
        | true => have := hoj.ser hnj; omega
        | false => have := hoj.ser0 hnj; omega
      · omega
    by_cases hia : i = a
    · by_cases hja : j = a
      · omega
      · subst hia
        rw [hOa] at hs he'
        rw [hO j hja] at hkj he'
        exact (key i j hi hj rfl hja hkj hs he').elim
    · by_cases hja : j = a
      · subst hja
        rw [hOa] at he'
        rw [hO i hia] at hki hs he'
        exact (key j i hj hi rfl hia hki (by omega) he'.symm).elim
      · rw [hO i hia] at hki hs he'
        rw [hO j hja] at hkj he'
        exact hI.ser i j hi hj hki hkj hs he'
  · by_cases hpa : 64 * p = a
    · rw [hpa, hOa]; exact shB_pos hfit
    · rw [hO _ hpa]
      have hk : (takP σ.P a f size p).kind = 2 := hk
      by_cases hk0 : (σ.P p).kind = 0
      · exfalso
        unfold takP at hk
        rcases h with ⟨c, hc, h3, hf, h4, h5⟩ | ⟨c, hc, h3, hf, _, k, h4, rfl, h6⟩ | ⟨h8, hf, k, rfl, h4⟩
        · rw [if_neg (by omega), hf, if_neg (by simp)] at hk; omega
        · rw [if_neg (by omega), hf, if_pos rfl, show 64 * k / 64 = k by omega, up_other _ _ (by omega)] at hk; omega
        · rw [if_pos h8, show 64 * k / 64 = k by omega, runP, if_neg (by omega)] at hk
          split at hk
          · simp at hk
          · omega
      · rw [same hk0] at hk
        exact hI.hd p hp hk

/-! What the program keeps, when an object is taken -/
theorem takeS_fr (hI : Inv σ) {kind size tag : Int} (hfit : fitS kind size = true) {a : Nat} {f : Bool} (h : PlcOK σ size a f) {d : Nat} (hd : d < 8) {i : Nat} (hi : i < 64 * σ.n) :
    frB (takeS σ a f kind size tag) d i = if ofS size = d then (if f then decide (a ≤ i ∧ i < a + 64 ∧ i ≠ a ∧ (i % 64) % wdN d = 0 ∧ (i % 64) / wdN d < bkN d) else up (frB σ d) a false i) else frB σ d i := by
  obtain ⟨k1, k2, s1, s2⟩ := fitS_rng hfit
  have he := h.empty hI
  have hkz : (takB σ a kind size tag).kind ≠ 0 := shB_pos hfit
  have same := fun {p : Nat} => takP_same h (p := p)
  have hP : (takeS σ a f kind size tag).P = takP σ.P a f size := rfl
  have hO : ∀ i, i ≠ a → up σ.O a (takB σ a kind size tag) i = σ.O i := fun i hi => up_other _ _ hi
  have hOa : up σ.O a (takB σ a kind size tag) a = takB σ a kind size tag := up_same _ _ _
  have cong : ∀ {x : Bool} {σ' : St} {i : Nat}, (x = true ↔ frB σ' d i = true) → frB σ' d i = x := by intro x σ' i hx; cases x <;> cases h : frB σ' d i <;> simp_all
  apply cong
  rw [frB_iff, hP, show (takeS σ a f kind size tag).O = up σ.O a (takB σ a kind size tag) from rfl]
  rcases h with ⟨c, hc, h3, hf, h4, h5⟩ | ⟨c, hc, h3, hf, hnone, k, h4, rfl, h6⟩ | ⟨h8, hf, k, rfl, h4⟩
  · have hPs : takP σ.P a f size = σ.P := by rw [takP, if_neg (by omega), hf, if_neg (by simp)]
    rw [hPs, hf]
    by_cases hcd : ofS size = d
    · rw [if_pos hcd, if_neg (by simp)]
      by_cases hia : i = a
      · subst hia; rw [up_same, hOa]; simp [hkz]
      · rw [up_other _ _ hia, hO i hia, frB_iff]
    · rw [if_neg hcd]
      by_cases hia : i = a
      · subst hia
        rw [hOa]
        constructor
        · intro hh
          obtain ⟨g1, g2, _⟩ := frB_iff.1 h5
          obtain ⟨g3, g4, _⟩ := frB_iff.1 hh
          omega
        · rintro ⟨_, _, _, _, hh⟩; exact absurd hh hkz
      · rw [hO i hia, frB_iff]
  · have hPs : takP σ.P (64 * k) f size = up σ.P k ⟨1, ofS size, 0⟩ := by rw [takP, if_neg (by omega), hf, if_pos rfl, show 64 * k / 64 = k by omega]
    rw [hPs, hf]
    by_cases hik : i / 64 = k
    · rw [hik, up_same]
      have hO0 : i ≠ 64 * k → (σ.O i).kind = 0 := fun hne => by
        by_cases hk : (σ.O i).kind = 0
        · exact hk
        · have := hI.page hi hk; rw [hik] at this; omega
      by_cases hcd : ofS size = d
      · rw [if_pos hcd, if_pos rfl, decide_eq_true_eq]
        constructor
        · rintro ⟨g1, g2, g3, g4, g5⟩
          exact ⟨rfl, hcd, g4, g5, by rw [hO i g3]; exact hO0 g3⟩
        · rintro ⟨g1, g2, g3, g4, g5⟩
          refine ⟨by omega, by omega, ?_, g3, g4⟩
          rintro rfl; rw [hOa] at g5; exact hkz g5
      · rw [if_neg hcd]
        constructor
        · intro hh
          have := (frB_iff.1 hh).1; rw [hik] at this; omega
        · rintro ⟨_, hh, _⟩; exact absurd hh hcd
    · rw [up_other _ _ hik, hO i (by omega)]
      by_cases hcd : ofS size = d
      · rw [if_pos hcd, if_pos rfl, decide_eq_true_eq]
        constructor
        · rintro ⟨g1, g2, g3, g4, g5⟩; omega
        · rintro ⟨g1, g2, g3, g4, g5⟩
          have hcd' : c = d := by omega
          subst hcd'
          have := hnone i hi
          rw [frB_iff.2 ⟨g1, g2, g3, g4, g5⟩] at this
          cases this
      · rw [if_neg hcd, frB_iff]
  · have hPs : takP σ.P (64 * k) f size = runP σ.P k (pgS size).toNat := by rw [takP, if_pos h8, show 64 * k / 64 = k by omega]
    obtain ⟨g1, g2⟩ := rowB_iff.1 h4
    have h8p := pgS_8 h8
    rw [hPs, if_neg (by omega)]
    by_cases hin : k ≤ i / 64 ∧ i / 64 < k + (pgS size).toNat
    · constructor
      · intro hh
        have h1 := (frB_iff.1 hh).1
        have := g2 (i / 64 - k) (by omega)
        rw [show k + (i / 64 - k) = i / 64 by omega] at this
        omega
      · rintro ⟨hh, _⟩
        unfold runP at hh
        by_cases hik : i / 64 = k
        · rw [if_pos hik] at hh; simp at hh
        · rw [if_neg hik, if_pos hin] at hh; simp at hh
    · have : runP σ.P k (pgS size).toNat (i / 64) = σ.P (i / 64) := by rw [runP, if_neg (fun e => hin ⟨by omega, by omega⟩), if_neg hin]
      rw [this, hO i (by omega), frB_iff]

theorem sumI_up {g : Nat → Int} {a : Nat} {x : Int} : ∀ {n : Nat}, a < n → sumI (fun i => if i = a then x else g i) n = sumI g n + (x - g a)
  | 0, h => by omega
  | n + 1, h => by
    have cong : ∀ m, m ≤ a → sumI (fun i => if i = a then x else g i) m = sumI g m := by
      intro m
      induction m with
      | zero => intro _; rfl
      | succ m ih => intro hm; rw [sumI, sumI, ih (by omega), if_neg (by omega)]
    rw [sumI, sumI]
    by_cases han : a = n
    · subst han; rw [cong a (Nat.le_refl _), if_pos rfl]; omega
    · rw [sumI_up (by omega), if_neg (by omega)]; omega

theorem takeS_rm (hI : Inv σ) {kind size tag : Int} (hfit : fitS kind size = true) {a : Nat} {f : Bool} (h : PlcOK σ size a f) : rmS (takeS σ a f kind size tag) = rmS σ + roomS size := by
  obtain ⟨k1, k2, s1, s2⟩ := fitS_rng hfit
  obtain ⟨ha, hroom⟩ := h.lt s1 s2
  have he := h.empty hI
  have : roomAt (up σ.O a (takB σ a kind size tag)) = fun i => if i = a then roomS size else roomAt σ.O i := by
    funext i
    unfold roomAt
    by_cases hia : i = a
    · subst hia; rw [up_same, if_pos rfl, if_pos (show (takB σ i kind size tag).kind ≠ 0 from shB_pos hfit)]; rfl
    · rw [up_other _ _ hia, if_neg hia]
  show sumI (roomAt (up σ.O a (takB σ a kind size tag))) (64 * σ.n) = _
  rw [this, sumI_up ha, show roomAt σ.O a = 0 by rw [roomAt, if_neg (by omega)]]
  unfold rmS; omega

theorem takeS_sh {kind size tag : Int} (hfit : fitS kind size = true) {a : Nat} {f : Bool} (ha : a < 64 * σ.n) (j : Int) : shL σ.n (up σ.O a (takB σ a kind size tag)) j = if j = a then some (shV (takB σ a kind size tag)) else shL σ.n σ.O j := by
  unfold shL
  by_cases hja : j = a
  · subst hja
    rw [if_pos rfl, Int.toNat_natCast, up_same, if_pos ⟨by omega, by omega, shB_pos hfit⟩]
  · rw [if_neg hja]
    by_cases hj : 0 ≤ j
    · rw [up_other _ _ (by omega)]
    · rw [if_neg (fun hh => hj hh.1), if_neg (fun hh => hj hh.1)]

theorem takeS_pl (hI : Inv σ) {kind size tag : Int} (hfit : fitS kind size = true) {a : Nat} {f : Bool} (h : PlcOK σ size a f) (s : Int) : plL (takeS σ a f kind size tag) s = if numS kind = true ∧ s = σ.last + 1 then some (I a) else plL σ s := by
  obtain ⟨k1, k2, s1, s2⟩ := fitS_rng hfit
  obtain ⟨ha, hroom⟩ := h.lt s1 s2
  have he := h.empty hI
  have hl0 := hI.last0
  have hO : ∀ i, i ≠ a → (takeS σ a f kind size tag).O i = σ.O i := fun i hi => up_other _ _ hi
  have hOa : (takeS σ a f kind size tag).O a = takB σ a kind size tag := up_same _ _ _
  have hlow : ∀ j, j < 64 * σ.n → (σ.O j).kind ≠ 0 → (σ.O j).serial ≤ σ.last := fun j hj hk => by
    have ho := hI.ob j hj hk
    cases hn : numS (σ.O j).kind with
    | true => exact (ho.ser hn).2
    | false => rw [ho.ser0 hn]; exact hl0
  by_cases hc : numS kind = true ∧ s = σ.last + 1
  · rw [if_pos hc]
    obtain ⟨hn, rfl⟩ := hc
    have : fnS (takeS σ a f kind size tag) (σ.last + 1) = a := by
      rw [fnS, if_pos (by omega)]
      refine nxt_some (Nat.zero_le _) ha (decide_eq_true ?_) fun j _ hj => decide_eq_false ?_
      · rw [hOa]
        refine ⟨shB_pos hfit, ?_⟩
        show (if numS kind then σ.last + 1 else 0) = _
        rw [if_pos hn]
      · rw [hO j (by omega)]
        rintro ⟨h1, h2⟩
        have := hlow j (by omega) h1
        omega
    rw [plL, this, if_neg (by omega)]
  · rw [if_neg hc]
    have : fnS (takeS σ a f kind size tag) s = fnS σ s := by
      unfold fnS
      by_cases hs : s ≥ 1
      · rw [if_pos hs, if_pos hs]
        refine nxt_congr fun j _ hj => ?_
        rw [decide_eq_decide]
        by_cases hja : j = a
        · subst hja
          rw [hOa]
          constructor
          · rintro ⟨_, h2⟩
            exfalso
            have h2 : (if numS kind then σ.last + 1 else 0) = s := h2
            split at h2
            · rename_i hn; exact hc ⟨hn, h2.symm⟩
            · omega
          · rintro ⟨h1, _⟩; exact absurd he h1
        · rw [hO j hja]
      · rw [if_neg hs, if_neg hs]
    rw [plL, this]; rfl
end
end Go.Wx
end
section
/- Contracts of the reference's place, wipe, take, Alloc. -/
set_option linter.unusedVariables false
set_option maxRecDepth 100000
namespace Go.Wx
open Go

theorem rowB_congr {P Q : Nat → Pg} {n m : Nat} (h : ∀ p, p < n → P p = Q p) (p : Nat) : rowB P n m p = rowB Q n m p := by
  have : ∀ {x y : Bool}, (x = true ↔ y = true) → x = y := by intro x y h; cases x <;> cases y <;> simp_all
  apply this
  rw [rowB_iff, rowB_iff]
  constructor
  · rintro ⟨h1, h2⟩; exact ⟨h1, fun j hj => by rw [← h (p + j) (by omega)]; exact h2 j hj⟩
  · rintro ⟨h1, h2⟩; exact ⟨h1, fun j hj => by rw [h (p + j) (by omega)]; exact h2 j hj⟩
theorem cutP_row (P : Nat → Pg) (n m : Nat) : nxt (rowB (cutP n P) n m) n 0 = nxt (rowB P n m) n 0 := nxt_congr fun j _ _ => rowB_congr (fun p hp => by rw [cutP, if_pos hp]) j
theorem cutP_fp (P : Nat → Pg) (n : Nat) : nxt (fp (cutP n P)) n 0 = nxt (fp P) n 0 := nxt_congr fun j _ hj => by show decide ((cutP n P j).kind = 0) = _; rw [cutP, if_pos hj]

section
variable {w : World} {R : RB} {σ : St}

theorem c61 (h : Rf w R σ) (size : Int) : RetE PR 61 [pt R.s, I size] w (.tuple (Array.mk [I (plS σ size).1, .bool (plS σ size).2])) := by
  refine Ret.of ((S61_eq _ size w _).mpr ?_)
  unfold S61
  have hn2 := h.n2
  have hrng := ofS_rng size
  refine (c62 w size).use fun w1 e1 => ⟨_, rfl, ?_⟩
  have h1 := h.kp e1
  refine ifB_d (fun hneg => ⟨by rw [plS, if_pos hneg], e1⟩) fun hneg => ⟨_, cell_of h1.hs 1, ?_⟩
  unfold plS
  rw [if_neg hneg]
  refine (c111 h1.ht h.n1).use ?_
  rintro _ w2 ⟨tb', pb', c', rfl, ht2, e2, htb, hpb⟩
  refine ⟨_, rfl, ?_⟩
  have k2 := e1.trans e2
  have h2 := h.kp k2
  have hge : w.heap.size ≤ pb' := Nat.le_trans e1.sz hpb
  refine ifB_eq (fun h8 => ?_) fun h8 => ?_
  · rw [if_pos h8]
    have hp8 := pgS_8 h8
    have hpr := pgS_rng size
    refine (c113 w2 size).use fun w3 e3 => ⟨_, rfl, ?_⟩
    rw [show pgS size = (((pgS size).toNat : Nat) : Int) by omega]
    refine (c112 (ht2.kp e3) (m := (pgS size).toNat) (by omega) (by omega)).use ?_
    rintro v w4 ⟨hv, u4⟩
    rw [cutP_row] at hv
    have k4 : Kp w w4 := (k2.trans e3).tr u4 fun b hb => .inr (by simp only [one] at hb; omega)
    rw [Int.toNat_natCast]
    rcases hv with ⟨hn, rfl, _⟩ | ⟨k, hn, hle, rfl, _⟩
    · refine ⟨_, _, rfl, ifB_ne (fun _ => ⟨?_, k4⟩) fun hh => by omega⟩
      rw [hn]; rfl
    · refine ⟨_, _, rfl, ifB_ne (fun hh => by omega) fun _ => ⟨?_, k4⟩⟩
      rw [hn, if_neg (by omega), wrap_id (by omega) (by omega)]
  · rw [if_neg h8]
    obtain ⟨c, hc⟩ : ∃ c : Nat, ofS size = c := ⟨(ofS size).toNat, by omega⟩
    rw [hc, Int.toNat_natCast]
    have hc8 : c < 8 := by omega
    refine (c64 h2 hc8 0 (by omega) (by omega)).use fun w3 e3 => ⟨_, rfl, ?_⟩
    show ifB (decide (nfS σ c 0 ≥ 0)) _ _
    refine ifB_d (fun hge0 => ⟨by rw [if_pos hge0]; rfl, k2.trans e3⟩) fun hge0 => ?_
    rw [if_neg hge0]
    refine (c114 (ht2.kp e3) hc8).use ?_
    rintro v w4 ⟨hv, u4⟩
    rw [cutP_fp] at hv
    have k4 : Kp w w4 := (k2.trans e3).tr u4 fun b hb => .inr (by simp only [one] at hb; omega)
    rcases hv with ⟨hn, rfl, _⟩ | ⟨k, hn, hle, rfl, _⟩
    · refine ⟨_, _, rfl, ifB_ne (fun _ => ⟨?_, k4⟩) fun hh => by omega⟩
      rw [hn]; rfl
    · refine ⟨_, _, rfl, ifB_ne (fun hh => by omega) fun _ => ⟨?_, k4⟩⟩
      rw [hn, if_neg (by omega), wrap_id (by omega) (by omega)]

theorem c119 (h : Rf w R σ) {a m : Nat} (ha : a + m ≤ 64 * σ.n) : Ret PR 119 [pt R.s, I a, I m] w fun v w' => v = .tuple (Array.mk []) ∧ Rf w' R { σ with W := fun i => if a ≤ i ∧ i < a + m then 0 else σ.W i } ∧ Upd (one R.wb) w w' := by
  refine Ret.of ((S119_eq _ _ _ w _).mpr ?_)
  unfold S119
  have hcw := h.hcw
  have hn2 := h.n2
  refine loop_rule (fun i : Nat => ((i : Int), ())) (fun i w' => i ≤ m ∧ Rf w' R { σ with W := fun j => if a ≤ j ∧ j < a + i then 0 else σ.W j } ∧ Upd (one R.wb) w w') (fun i => m - i) 0 rfl ⟨by omega, ?_, Upd.refl⟩ ?_
  · have : (fun j => if a ≤ j ∧ j < a + 0 then 0 else σ.W j) = σ.W := by funext j; rw [if_neg (by omega)]
    rw [this]; exact h
  rintro i w1 K ⟨hi, h1, u1⟩ hK
  refine ifB_d (fun hlt => ?_) fun hlt => ?_
  · have hlt : i < m := by simpa using hlt
    refine ⟨_, _, _, cell_of h1.hs 0, ?_⟩
    have e : IntKind.i64.wrap ((a : Int) + ((i : Int), ()).fst) = ((a + i : Nat) : Int) := by show IntKind.i64.wrap ((a : Int) + (i : Int)) = _; rw [wrap_id (by omega) (by omega)]; simp
    rw [e]
    refine ⟨⟨by omega, by show ((a + i : Nat) : Int) < ((64 * σ.n : Nat) : Int); omega⟩, ?_⟩
    rw [add_mk, Int.toNat_natCast, Nat.zero_add, Nat.mul_one]
    refine stx_at _ h1.hw (by simp; omega) rfl fun w2 p2 => ?_
    rw [Nat.add_zero (a + i), ints_set] at p2
    rw [wrap_id (by dsimp only; omega) (by dsimp only; omega)]
    have h2 := h1.putW p2
    have hf : up (fun j => if a ≤ j ∧ j < a + i then 0 else σ.W j) (a + i) 0 = fun j => if a ≤ j ∧ j < a + (i + 1) then 0 else σ.W j := by
      funext j
      unfold up
      dsimp only
      by_cases hj : j = a + i
      · rw [if_pos hj, if_pos (by omega)]
      · rw [if_neg hj]
        by_cases hj2 : a ≤ j ∧ j < a + i
        · rw [if_pos hj2, if_pos (by omega)]
        · rw [if_neg hj2, if_neg (by omega)]
    rw [hf] at h2
    exact hK (i + 1) w2 ⟨hlt, h2, u1.trans p2.upd⟩ (by omega)
  · have : i = m := by simp at hlt; omega
    subst this
    exact ⟨rfl, h1, u1⟩

theorem stS_nat {c i : Nat} (hc : c < 8) (hi : i < bkN c) : stS c i = ((i * wdN c : Nat) : Int) := by rw [stS, if_neg (by omega), bkS_nat hc, if_neg (by omega), wdS_nat hc]; simp

theorem c65 (hI : Inv σ) (h : Rf w R σ) {kind size tag : Int} (hfit : fitS kind size = true) {a : Nat} {f : Bool} (hp : plS σ size = ((a : Int), f)) (hlast : σ.last < 1000000000000) :
    Ret PR 65 [pt R.s, I a, .bool f, I kind, I size, I tag] w fun v w' => v = .tuple (Array.mk []) ∧ Rf w' R (takeS σ a f kind size tag) ∧ Upd R.F w w' := by
  obtain ⟨k1, k2, s1, s2⟩ := fitS_rng hfit
  have hplc : PlcOK σ size a f := by
    rcases plS_cases σ s1 s2 with h1 | ⟨a', f', h1, h2⟩
    · rw [hp] at h1; injection h1 with h1; omega
    · rw [hp] at h1; injection h1 with h1 h3; obtain rfl : a = a' := by omega
      rw [h3]; exact h2
  obtain ⟨ha, hroom⟩ := hplc.lt s1 s2
  have hl0 := hI.last0
  have hsr := size_room s1 s2
  have hn2 := h.n2
  have hcw := h.hcw
  have hco := h.hco
  refine Ret.of ((S65_eq _ _ _ _ _ _ w _).mpr ?_)
  unfold S65
  refine (c62 w size).use fun w1 e1 => ⟨_, rfl, ?_⟩
  have h1 := h.kp e1
  have Fp : ∀ b, one R.pb b → R.F b := fun b hb => .inr (.inr (.inl hb))
  have Fw : ∀ b, one R.wb b → R.F b := fun b hb => .inr (.inl hb)
  refine ⟨fun _ w' => Rf w' R { σ with P := takP σ.P a f size } ∧ Upd R.F w w', ?_, ?_⟩
  rotate_left
  · refine ifB_eq (fun h8 => ?_) fun h8 => ifB_b (fun hf => ?_) fun hf => ?_
    · generalize hwd : World.drew w1 = wd
      have d1 : Kp w1 wd := hwd ▸ ext_drew w1
      have h2 := h1.kp d1
      refine ⟨_, cell_of h2.hs 1, ?_⟩
      refine (c113 wd size).use fun w3 e3 => ⟨_, rfl, e3.draw, ?_⟩
      have hp8 := pgS_8 h8
      have hpr := pgS_rng size
      rw [show pgS size = (((pgS size).toNat : Nat) : Int) by omega]
      have h3 := h2.kp e3
      refine (c112 h3.ht (m := (pgS size).toNat) (by omega) (by omega)).use ?_
      rintro v w4 ⟨hv, u4⟩
      rw [plS, if_neg (by omega), if_pos h8] at hp
      have ku := ((Kp.upd ((e1.trans d1).trans e3)).trans (u4.mono Fp) : Upd R.F w w4)
      rcases hv with ⟨hn, rfl, _⟩ | ⟨k, hn, hle, rfl, ht⟩
      · rw [hn, if_pos (by omega)] at hp; injection hp with hp; omega
      · rw [hn, if_neg (by omega)] at hp
        injection hp with hp _
        refine ⟨_, _, rfl, ?_, ku⟩
        have := h3.putP ht u4
        rw [takP, if_pos h8, show a / 64 = k by omega]
        exact this
    · obtain ⟨c, hc⟩ : ∃ c : Nat, ofS size = c := ⟨(ofS size).toNat, by have := ofS_in s1 s2; omega⟩
      have hc8 : c < 8 := by have := ofS_in s1 s2; omega
      refine ⟨_, cell_of h1.hs 1, ?_⟩
      rw [hc]
      refine (c114 h1.ht hc8).use ?_
      rintro v w4 ⟨hv, u4⟩
      have ku := ((Kp.upd e1).trans (u4.mono Fp) : Upd R.F w w4)
      rw [plS, if_neg (by omega), if_neg h8] at hp
      split at hp
      · injection hp with _ hp; rw [← hp] at hf; cases hf
      rcases hv with ⟨hn, rfl, _⟩ | ⟨k, hn, hle, rfl, ht⟩
      · rw [hn, if_pos (by omega)] at hp; injection hp with hp; omega
      · rw [hn, if_neg (by omega)] at hp
        injection hp with hp _
        refine ⟨_, _, rfl, ?_, ku⟩
        have := h1.putP ht u4
        rw [takP, if_neg h8, if_pos hf, show a / 64 = k by omega, hc]
        exact this
    · refine ⟨?_, Kp.upd e1⟩
      rw [takP, if_neg h8, if_neg (by rw [hf]; simp)]
      exact h1
  rintro _ w2 ⟨h2, u2⟩
  refine atW_new fun w3 n3 => stx_at _ n3.at0 (by simp) rfl fun w4 p4 => ?_
  have hsz2 := u2.sz
  have u4 : Upd R.F w w4 := (u2.new n3).put p4 (by omega)
  have h4 := (h2.kp n3.ext).putNew (w0 := w) p4 fun c hc => h2.lt hc
  refine ⟨fun _ w' => Rf w' R { σ with P := takP σ.P a f size, last := if numS kind then σ.last + 1 else σ.last } ∧ Upd R.F w w' ∧ w'.heap[w2.heap.size]? = some (Bl (takB σ a kind size tag).cells 106), ?_, ?_⟩
  rotate_left
  · refine (c118 w4 kind).use fun w5 e5 => ⟨_, rfl, ifB_b (fun hn => ?_) fun hn => ⟨?_, u4.trans (Kp.upd e5), ?_⟩⟩
    · have h5 := h4.kp e5
      refine ⟨_, cell_of h5.hs 3, ?_⟩
      rw [add_mk, wrap_id (by show -9223372036854775808 ≤ σ.last + 1; omega) (by show σ.last + 1 < _; omega)]
      refine stx_at _ h5.hs (by simp) rfl fun w6 p6 => ?_
      have h6 := h5.putS p6
      refine ⟨_, cell_of p6.at0 3, ?_⟩
      rw [add_mk]
      have hne : w2.heap.size ≠ R.s := by have := h2.lt (.inl rfl); omega
      refine stx_at _ (p6.at (e5.at p4.at0) hne) (by simp [setL]) rfl fun w7 p7 => ⟨?_, ((u4.trans (Kp.upd e5)).trans (p6.upd.mono fun b hb => .inl hb)).put p7 (by omega), ?_⟩
      · have := h6.putNew (w0 := w) p7 fun c hc => h2.lt hc
        rw [hn, if_pos rfl]
        exact this
      · rw [p7.at0]
        refine bl_eq ?_
        rw [takB, hn]; rfl
    · rw [hn]; exact h4.kp e5
    · rw [e5.at p4.at0]
      refine bl_eq ?_
      rw [takB, hn]; rfl
  rintro _ w5 ⟨h5, u5, hb5⟩
  generalize hwd : World.drew w5 = wd
  have d5 : Kp w5 wd := hwd ▸ ext_drew w5
  have h6 := h5.kp d5
  have hbd := d5.at hb5
  refine ⟨_, _, _, cell_of h6.hs 2, _, cell_of hbd 0, _, cell_of hbd 1, _, cell_of hbd 2, _, cell_of hbd 3, _, cell_of hbd 4, ⟨by omega, by show (a : Int) < ((64 * σ.n : Nat) : Int); omega⟩, ?_⟩
  rw [add_mk, Int.toNat_natCast, Nat.zero_add]
  refine stx_at (cs := bks R.co σ.O) _ h6.ho (by simp; omega) rfl fun w7 p7 => ?_
  have p7' : Put wd R.ob (Bl (bks R.co (up σ.O a (takB σ a kind size tag))) 106) w7 := by
    have := p7
    rw [Nat.add_zero, show ([Value.int IntKind.i64 (takB σ a kind size tag).at_, Value.int IntKind.i64 (takB σ a kind size tag).kind, Value.int IntKind.i64 (takB σ a kind size tag).size, Value.int IntKind.i64 (takB σ a kind size tag).serial, Value.int IntKind.i64 (takB σ a kind size tag).tag] : List Value) = (takB σ a kind size tag).cells from rfl, bks_set _ (by omega)] at this
    exact this
  have h7 := h6.putO p7'
  have u7 : Upd R.F w w7 := (u5.trans (Kp.upd d5)).trans (p7.upd.mono fun b hb => .inr (.inr (.inr (.inl hb))))
  obtain ⟨W1, hW1⟩ : ∃ W1 : Nat → Int, W1 = fun j => if f = true ∧ a ≤ j ∧ j < a + 64 then (if (j - a) % wdN (ofS size).toNat = 0 ∧ 1 ≤ (j - a) / wdN (ofS size).toNat ∧ (j - a) / wdN (ofS size).toNat < bkN (ofS size).toNat then lkS (if (j - a) / wdN (ofS size).toNat + 1 < bkN (ofS size).toNat then ((j + wdN (ofS size).toNat : Nat) : Int) else -1) else 0) else σ.W j := ⟨_, rfl⟩
  refine ⟨fun _ w' => Rf w' R { σ with P := takP σ.P a f size, last := (if numS kind then σ.last + 1 else σ.last), O := up σ.O a (takB σ a kind size tag), W := W1 } ∧ Upd R.F w w', ?_, ?_⟩
  rotate_left
  · refine ifB_b (fun hf => ?_) fun hf => ?_
    · -- a fresh page
      rcases hplc with ⟨c, hc, h3, hf', _, _⟩ | ⟨c, hc, h3, hf', _, k, hk, hak, h6'⟩ | ⟨h8, hf', _⟩
      · rw [hf] at hf'; cases hf'
      rotate_left
      · rw [hf] at hf'; cases hf'
      obtain ⟨v1, v2, v3, v4, v5, v6, v7⟩ := wdN_pos hc
      rw [h3]
      rw [show (ofS size).toNat = c by omega] at hW1
      refine (c119 h7 (a := a) (m := 64) (by show a + 64 ≤ 64 * σ.n; omega)).use ?_
      rintro _ w8 ⟨rfl, h8', u8⟩
      refine ⟨rfl, ?_⟩
      refine loop_rule (fun i : Nat => (((i + 1 : Nat) : Int), ())) (fun i w' => i + 1 ≤ bkN c ∧ Rf w' R { σ with P := takP σ.P a f size, last := (if numS kind then σ.last + 1 else σ.last), O := up σ.O a (takB σ a kind size tag), W := fun j => if a ≤ j ∧ j < a + 64 then (if (j - a) % wdN c = 0 ∧ 1 ≤ (j - a) / wdN c ∧ (j - a) / wdN c < i + 1 then lkS (if (j - a) / wdN c + 1 < bkN c then ((j + wdN c : Nat) : Int) else -1) else 0) else σ.W j } ∧ Upd R.F w w') (fun i => 64 - i) 0 rfl ⟨by omega, ?_, u7.trans (u8.mono Fw)⟩ ?_
      · have : (fun j => if a ≤ j ∧ j < a + 64 then (if (j - a) % wdN c = 0 ∧ 1 ≤ (j - a) / wdN c ∧ (j - a) / wdN c < 0 + 1 then lkS (if (j - a) / wdN c + 1 < bkN c then ((j + wdN c : Nat) : Int) else -1) else 0) else σ.W j) = fun i => if a ≤ i ∧ i < a + 64 then 0 else σ.W i := by
          funext j
          by_cases hj : a ≤ j ∧ j < a + 64
          · rw [if_pos hj, if_pos hj, if_neg (by omega)]
          · rw [if_neg hj, if_neg hj]
        rw [this]; exact h8'
      rintro i w9 K1 ⟨hi, h9, u9⟩ hK1
      dsimp only
      refine (c116 w9 c).use fun w10 e10 => ⟨_, rfl, ?_⟩
      rw [bkS_nat hc]
      have h10 := h9.kp e10
      refine ifB_d (fun hlt => ?_) fun hlt => ?_
      · have hlt : i + 1 < bkN c := by omega
        have hle : (i + 2) * wdN c ≤ 64 := Nat.le_trans (Nat.mul_le_mul_right _ (show i + 2 ≤ bkN c by omega)) v5
        have hi2 : (i + 2) * wdN c = (i + 1) * wdN c + wdN c := by rw [show i + 2 = (i + 1) + 1 by omega, Nat.add_mul (i + 1) 1, Nat.one_mul]
        refine ⟨fun s w' => s = ((if i + 1 + 1 < bkN c then ((a + (i + 1) * wdN c + wdN c : Nat) : Int) else -1), ()) ∧ Kp w10 w', ?_, ?_⟩
        rotate_left
        · refine (c116 w10 c).use fun w11 e11 => ⟨_, rfl, ?_⟩
          rw [bkS_nat hc, wrap_id (x := ((i + 1 : Nat) : Int) + 1) (by omega) (by omega), show ((i + 1 : Nat) : Int) + 1 = ((i + 2 : Nat) : Int) by omega]
          refine ifB_d (fun hh => ?_) fun hh => ⟨by rw [if_neg (by omega)], e11⟩
          refine (c117 w11 c ((i + 2 : Nat) : Int) (by omega)).use fun w12 e12 => ⟨_, rfl, ?_, e11.trans e12⟩
          rw [stS_nat hc (by omega), if_pos (by omega), wrap_id (by omega) (by omega), hi2]
          rw [show (a : Int) + (((i + 1) * wdN c + wdN c : Nat) : Int) = ((a + (i + 1) * wdN c + wdN c : Nat) : Int) by simp; omega]
        rintro s w11 ⟨rfl, e11⟩
        generalize hwd2 : World.drew w11 = wd2
        have d11 : Kp w11 wd2 := hwd2 ▸ ext_drew w11
        have h11 := (h10.kp e11).kp d11
        refine ⟨_, _, _, cell_of h11.hs 0, ?_⟩
        refine (c117 wd2 c ((i + 1 : Nat) : Int) (by omega)).use fun w12 e12 => ⟨_, rfl, e12.draw, ?_⟩
        have hle3 : i + 2 < bkN c → (i + 2) * wdN c + wdN c ≤ 64 := fun hh => by
          have := Nat.le_trans (Nat.mul_le_mul_right (wdN c) (show i + 3 ≤ bkN c by omega)) v5
          rw [show i + 3 = (i + 2) + 1 by omega, Nat.add_mul (i + 2) 1, Nat.one_mul] at this
          exact this
        have hlk : -1 ≤ (if i + 1 + 1 < bkN c then ((a + (i + 1) * wdN c + wdN c : Nat) : Int) else -1) ∧ (if i + 1 + 1 < bkN c then ((a + (i + 1) * wdN c + wdN c : Nat) : Int) else -1) < 262144 := by split <;> omega
        refine (c63 w12 _ hlk.1 hlk.2).use fun w13 e13 => ⟨_, rfl, e13.draw, ?_⟩
        have h13 := (h11.kp e12).kp e13
        rw [stS_nat hc hlt, wrap_id (x := (a : Int) + (((i + 1) * wdN c : Nat) : Int)) (by omega) (by omega), show (a : Int) + (((i + 1) * wdN c : Nat) : Int) = ((a + (i + 1) * wdN c : Nat) : Int) by simp]
        refine ⟨⟨by omega, by show ((a + (i + 1) * wdN c : Nat) : Int) < ((64 * σ.n : Nat) : Int); omega⟩, ?_⟩
        rw [add_mk, Int.toNat_natCast, Nat.zero_add, Nat.mul_one]
        refine stx_at _ h13.hw (by simp; omega) rfl fun w14 p14 => ?_
        rw [Nat.add_zero (a + (i + 1) * wdN c), ints_set] at p14
        have h14 := h13.putW p14
        rw [wrap_id (by omega) (by omega)]
        refine hK1 (i + 1) w14 ⟨hlt, ?_, ((((u9.trans (Kp.upd e10)).trans (Kp.upd (e11.trans d11))).trans (Kp.upd (e12.trans e13))).trans (p14.upd.mono Fw))⟩ (by omega)
        have hfun : up (fun j => if a ≤ j ∧ j < a + 64 then (if (j - a) % wdN c = 0 ∧ 1 ≤ (j - a) / wdN c ∧ (j - a) / wdN c < i + 1 then lkS (if (j - a) / wdN c + 1 < bkN c then ((j + wdN c : Nat) : Int) else -1) else 0) else σ.W j) (a + (i + 1) * wdN c) (lkS (if i + 1 + 1 < bkN c then ((a + (i + 1) * wdN c + wdN c : Nat) : Int) else -1)) =
            fun j => if a ≤ j ∧ j < a + 64 then (if (j - a) % wdN c = 0 ∧ 1 ≤ (j - a) / wdN c ∧ (j - a) / wdN c < i + 1 + 1 then lkS (if (j - a) / wdN c + 1 < bkN c then ((j + wdN c : Nat) : Int) else -1) else 0) else σ.W j := by
          funext j
          unfold up
          dsimp only
          by_cases hj : j = a + (i + 1) * wdN c
          · rw [if_pos hj]
            subst hj
            have hsub : a + (i + 1) * wdN c - a = wdN c * (i + 1) := by rw [Nat.mul_comm]; omega
            rw [hsub, if_pos (show a ≤ a + (i + 1) * wdN c ∧ a + (i + 1) * wdN c < a + 64 from ⟨by omega, by omega⟩), Nat.mul_mod_right, Nat.mul_div_cancel_left _ (by omega), if_pos (show (0 : Nat) = 0 ∧ 1 ≤ i + 1 ∧ i + 1 < i + 1 + 1 from ⟨rfl, by omega, by omega⟩)]
          · rw [if_neg hj]
            by_cases hj2 : a ≤ j ∧ j < a + 64
            · rw [if_pos hj2, if_pos hj2]
              by_cases hq : (j - a) % wdN c = 0 ∧ 1 ≤ (j - a) / wdN c ∧ (j - a) / wdN c < i + 1
              · rw [if_pos hq, if_pos (show (j - a) % wdN c = 0 ∧ 1 ≤ (j - a) / wdN c ∧ (j - a) / wdN c < i + 1 + 1 from ⟨hq.1, hq.2.1, by omega⟩)]
              · rw [if_neg hq, if_neg]
                rintro ⟨g1, g2, g3⟩
                apply hq
                refine ⟨g1, g2, ?_⟩
                have hdm := Nat.div_add_mod (j - a) (wdN c)
                rw [g1] at hdm
                rcases Nat.lt_or_ge ((j - a) / wdN c) (i + 1) with h | h
                · exact h
                · exfalso
                  have : (j - a) / wdN c = i + 1 := by omega
                  rw [this, Nat.mul_comm] at hdm
                  omega
            · rw [if_neg hj2, if_neg hj2]
        rw [hfun] at h14
        exact h14
      · have : i + 1 = bkN c := by omega
        refine ⟨?_, u9.trans (Kp.upd e10)⟩
        rw [this] at h10
        rw [hW1]
        have hfun : (fun j => if f = true ∧ a ≤ j ∧ j < a + 64 then (if (j - a) % wdN c = 0 ∧ 1 ≤ (j - a) / wdN c ∧ (j - a) / wdN c < bkN c then lkS (if (j - a) / wdN c + 1 < bkN c then ((j + wdN c : Nat) : Int) else -1) else 0) else σ.W j) = fun j => if a ≤ j ∧ j < a + 64 then (if (j - a) % wdN c = 0 ∧ 1 ≤ (j - a) / wdN c ∧ (j - a) / wdN c < bkN c then lkS (if (j - a) / wdN c + 1 < bkN c then ((j + wdN c : Nat) : Int) else -1) else 0) else σ.W j := by
          funext j; simp only [hf, true_and]
        rw [hfun]
        exact h10
    · have : W1 = σ.W := by rw [hW1]; funext j; rw [if_neg (by rw [hf]; simp)]
      rw [this]
      exact ⟨h7, u7⟩
  rintro _ w8 ⟨h8, u8⟩
  refine (c93 w8 size).use fun w9 e9 => ⟨_, rfl, ?_⟩
  have h9 := h8.kp e9
  obtain ⟨m, hm⟩ : ∃ m : Nat, roomS size = m := ⟨(roomS size).toNat, by omega⟩
  rw [hm]
  refine (c119 h9 (a := a) (m := m) (by show a + m ≤ 64 * σ.n; omega)).use ?_
  rintro _ w10 ⟨rfl, h10, u10⟩
  refine ⟨rfl, ?_⟩
  generalize hwd3 : World.drew w10 = wd3
  have d10 : Kp w10 wd3 := hwd3 ▸ ext_drew w10
  have h11 := h10.kp d10
  refine ⟨_, _, _, cell_of h11.hs 0, ?_⟩
  refine (c120 wd3 a kind size).use fun w12 e12 => ⟨_, rfl, e12.draw, ⟨by omega, by show (a : Int) < ((64 * σ.n : Nat) : Int); omega⟩, ?_⟩
  have h12 := h11.kp e12
  rw [add_mk, show ∀ x : Nat, 0 + x * 1 = x from fun x => by omega]
  refine stx_at _ h12.hw (by simp; omega) rfl fun w13 p13 => ?_
  rw [Nat.add_zero, ints_set] at p13
  have h13 := h12.putW p13
  refine ⟨rfl, ?_, ((((u8.trans (Kp.upd e9)).trans (u10.mono Fw)).trans (Kp.upd (d10.trans e12))).trans (p13.upd.mono Fw))⟩
  have hfun : up (fun i => if a ≤ i ∧ i < a + m then 0 else W1 i) a (hdS a kind size) = takW σ.W a f kind size := by
    funext j
    unfold up takW
    dsimp only
    by_cases hj : j = a
    · rw [if_pos hj, if_pos hj]
    · rw [if_neg hj, if_neg hj]
      by_cases hj2 : a ≤ j ∧ j < a + m
      · rw [if_pos hj2, if_pos (by omega)]
      · rw [if_neg hj2, if_neg (by omega), hW1]
        dsimp only
        by_cases hj3 : f = true ∧ a ≤ j ∧ j < a + 64
        · rw [if_pos hj3, if_pos hj3, lkW]
          rcases hplc with ⟨c, hc, h3, hf', _, _⟩ | ⟨c, hc, h3, hf', _, k, hk, hak, h6'⟩ | ⟨h8, hf', _⟩
          · rw [hj3.1] at hf'; cases hf'
          · rw [show (ofS size).toNat = c by omega]
            have hmw : m = wdN c := by rw [roomS_small hc h3] at hm; omega
            have hge : 1 ≤ (j - a) / wdN c := by
              have := wdN_pos hc
              rw [Nat.le_div_iff_mul_le (by omega)]; omega
            by_cases hq : (j - a) % wdN c = 0 ∧ (j - a) / wdN c < bkN c
            · rw [if_pos ⟨hq.1, hge, hq.2⟩, if_pos hq]
            · rw [if_neg (fun hh => hq ⟨hh.1, hh.2.2⟩), if_neg hq]
          · rw [hj3.1] at hf'; cases hf'
        · rw [if_neg hj3, if_neg hj3]
  have h14 : Rf w13 R { n := σ.n, W := up (fun i => if a ≤ i ∧ i < a + m then 0 else W1 i) a (hdS a kind size), P := takP σ.P a f size, O := up σ.O a (takB σ a kind size tag), last := if numS kind then σ.last + 1 else σ.last } := h13
  rw [hfun] at h14
  exact h14
end
end Go.Wx
end
