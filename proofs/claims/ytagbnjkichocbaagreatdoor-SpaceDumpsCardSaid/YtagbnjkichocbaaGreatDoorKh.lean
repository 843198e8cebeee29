/- Own text, merged out of small ones: Oq Or Os: contracts on which the claim rests (no conditions of its own). -/
import Derived.Test.YtagbnjkichocbaaGreatDoorKf
import Derived.Laws.FloatBits
section
/- Contracts of looked: Fits, Blocks. -/
set_option linter.unusedVariables false
set_option maxRecDepth 100000
namespace Go.Wx
open Go

section
variable {w : World} {pb N : Nat} {own : Nat → Own} {P : Prop} {B : Sl → Nat} {R : RB} {σ : St}
theorem c15_14 (h : PI w pb own N P B R σ) (hlast : σ.last < 1000000) {who a b c : Int} {s : Option Addr} {l cc : Nat} {ks : Nat → Int} (ho : OpOK w (PF pb own B R) a b c s l ks) :
    Ret PR 15 [pt pb, .agg (Array.mk [I who, I 14, I a, I b, I c, .slice s l cc])] w fun r w' => r = .bool true ∧ Kp w w' := by
  refine Ret.of ((S15_eq ..).mpr ?_)
  unfold S15
  refine atW_new fun w1 n1 => ⟨_, cell_of n1.at0 1, ?_⟩
  refine ifB_eq (fun hh => by omega) fun _ => ifB_eq (fun hh => by omega) fun _ => ifB_eq (fun hh => by omega) fun _ => ifB_eq (fun hh => by omega) fun _ => ifB_eq (fun _ => ?_) fun hh => absurd rfl hh
  have h1 := h.kp n1.ext
  have hs1 := ho.hs.kp n1.ext
  have hll := ho.hl
  refine ⟨_, _, _, cell_of n1.at0 5, ?_⟩
  refine (c33 hs1 (by omega)).use ?_
  rintro _ w2 ⟨x, c', rfl, hlen, k2, hx⟩
  refine ⟨_, _, _, rfl, ?_⟩
  generalize hwd : World.drew w2 = wd
  have d2 : Kp w2 wd := hwd ▸ ext_drew w2
  have kd : Kp w1 wd := Upd.trans k2 d2
  have hd := h1.kp kd
  have hc' := hlen.1
  have cd := kd.at n1.at0
  refine ⟨_, hd.ps, _, _, _, cell_of cd 5, ⟨by omega, by omega⟩, ?_⟩
  rw [if_neg (by omega : ¬ c' = 0), show ((l : Int).toNat - 0) = l by omega, Nat.sub_zero]
  have hls : Ls wd (some ⟨x, 0, none⟩) l ks := fun i hi => by
    obtain ⟨_, g, g1, g2⟩ := hlen.kp d2
    refine ⟨_, rfl, ?_⟩
    rw [ints_cell g1 (by omega), g2 i (by omega), lentF, if_pos hi]
  show Calls PR 34 (Array.mk [pt (B .s), .slice (some ⟨x, 0, none⟩) l c']) wd _
  refine (c34 hd.i hd.s hls (by omega)).use fun w3 e3 => ⟨_, rfl, ?_⟩
  generalize hwe : World.drew w3 = we
  have d3 : Kp w3 we := hwe ▸ ext_drew w3
  have k3 : Kp wd we := Upd.trans e3 d3
  have k13 : Kp w1 we := Upd.trans kd k3
  refine ⟨_, _, _, cell_of (k13.at n1.at0) 5, ?_⟩
  refine (c35 ((hlen.kp d2).kp k3) (hs1.kp k13) (by omega)).use ?_
  rintro _ w4 ⟨rfl, u4⟩
  refine ⟨_, rfl, ifB_yes rfl ?_⟩
  have z1 := n1.sz
  have u14 : Kp w w4 := Upd.tr (Upd.trans n1.ext k13) u4 fun y hy => by simp only [one] at hy; right; omega
  have h4 := h.kp u14
  have x0 : w.heap.size ≠ x := by omega
  have c4 := u4.at (k13.at n1.at0) (fun hh => by simp only [one] at hh; omega)
  refine ⟨_, h4.pr, _, _, _, cell_of c4 5, ?_⟩
  refine (c36 h4.i h4.r (ho.hs.kp u14) (by omega) (by omega)).use fun w5 e5 => ⟨_, rfl, by simp, Upd.trans u14 e5⟩

/-- One comparison of lists of objects. -/
theorem blocks_one {w1 w2 : World} {L M : LV} (h : PI w pb own N P B R σ) (hN : N ≤ 80000) (k1 : Kp w w1) (b1 : ∀ b, L.b = some b → w.heap.size ≤ b ∧ b < w1.heap.size) (k2 : Kp w1 w2) (r1 : Rw w2 L 5 106 (obR σ (64 * σ.n))) (l1 : L.l = objN σ (64 * σ.n))
    (r2 : Rw w2 M 5 106 (obR σ (64 * σ.n))) (l2 : M.l = objN σ (64 * σ.n)) (b2 : ∀ b, M.b = some b → w1.heap.size ≤ b) (quiet : Bool) :
    Ret PR 39 [.pointer (some ⟨pb, 2, none⟩), L.val, M.val, .bool quiet] w2 fun r w' => r = .bool true ∧ Lo w w' pb (N + 8) own P B R σ := by
  have kk : Kp w w2 := Upd.trans k1 k2
  have h2 := h.kp kk
  obtain ⟨x1, x2, x3⟩ := h.x.lt
  have hn := h.n
  have hob := objN_le σ (64 * σ.n)
  have s1 := k1.sz
  have s2 := k2.sz
  have no : ∀ b, w.heap.size ≤ b → own b = .no := fun b hb => Classical.byContradiction fun hh => by have := x2 b hh; omega
  have key : ∀ {v : LV} {sz : Nat} {ty : TypeId} {F : Nat → List Value}, Rw w2 v sz ty F → (∀ b, v.b = some b → w.heap.size ≤ b) → Fre w2 pb w.heap.size own v := fun hR hb b hvb => by
    have := hb b hvb
    exact ⟨no b this, hR.lt b hvb, by omega, this⟩
  refine (c39 (B := w.heap.size) h2.x (by omega) r1 r2 (by omega) (by omega) (fun i _ => ⟨_, rfl⟩) (key r1 fun b hb => (b1 b hb).1) (key r2 fun b hb => by have := b2 b hb; omega) (fun b hb hc => ?_) (by omega) quiet).mono ?_
  · have := b1 b hc; have := b2 b hb; omega
  · rintro r w' ⟨hr, own', hx, hk⟩
    exact ⟨hr, Lo.mk' h kp0 hx ((KR.kp kk).trans hk)⟩

theorem c15_16 (h : PI w pb own N P B R σ) (hN : N ≤ 70000) {who a b c : Int} {s : Option Addr} {l cc : Nat} :
    Ret PR 15 [pt pb, .agg (Array.mk [I who, I 16, I a, I b, I c, .slice s l cc])] w fun r w' => r = .bool true ∧ Lo w w' pb (N + 16) own P B R σ := by
  refine Ret.of ((S15_eq ..).mpr ?_)
  unfold S15
  refine atW_new fun w1 n1 => ⟨_, cell_of n1.at0 1, ?_⟩
  have h1 := h.kp n1.ext
  generalize hwd : World.drew w1 = wd
  have d1 : Kp w1 wd := hwd ▸ ext_drew w1
  have kd : Kp w wd := Upd.trans n1.ext d1
  have hd := h1.kp d1
  refine ifB_eq (fun hh => by omega) fun _ => ifB_eq (fun hh => by omega) fun _ => ifB_eq (fun hh => by omega) fun _ => ifB_eq (fun hh => by omega) fun _ => ifB_eq (fun hh => by omega) fun _ => ifB_eq (fun hh => by omega) fun _ => ifB_eq (fun _ => ?_) fun hh => absurd rfl hh
  refine ⟨_, hd.ps, _, hd.pr, ?_⟩
  refine (c40 hd.i hd.s).use ?_
  rintro _ w2 ⟨L, rfl, r1, l1, k2, b1⟩
  refine ⟨_, _, _, rfl, k2.draw, ?_⟩
  refine (c41 (hd.kp k2).r).use ?_
  rintro _ w3 ⟨M, rfl, r2, l2, k3, b2⟩
  refine ⟨_, _, _, rfl, ?_⟩
  refine (blocks_one hd (by omega) k2 (fun b hb => ⟨b1 b hb, r1.lt b hb⟩) k3 (r1.upd k3 fun _ _ h => h) l1 r2 l2 b2 true).use ?_
  rintro _ w4 ⟨rfl, own4, h4, u4, f4⟩
  refine ⟨_, rfl, ifB_yes rfl ?_⟩
  refine ⟨_, h4.ps, _, h4.pr, ?_⟩
  refine (c40 h4.i h4.s).use ?_
  rintro _ w5 ⟨L', rfl, r1', l1', k5, b1'⟩
  refine ⟨_, _, _, rfl, k5.draw, ?_⟩
  refine (c41 (h4.kp k5).r).use ?_
  rintro _ w6 ⟨M', rfl, r2', l2', k6, b2'⟩
  refine ⟨_, _, _, rfl, ?_⟩
  refine (blocks_one h4 (by omega) k5 (fun b hb => ⟨b1' b hb, r1'.lt b hb⟩) k6 (r1'.upd k6 fun _ _ h => h) l1' r2' l2' b2' false).use ?_
  rintro _ w7 ⟨rfl, hlo⟩
  exact ⟨_, rfl, rfl, Lo.pre kd (Lo.trans ⟨h4, u4, f4⟩ hlo)⟩
end
end Go.Wx
end
section
/- Contracts of looked: Use and Words. Division of whole numbers in floating point. -/
set_option linter.unusedVariables false
set_option maxRecDepth 100000
namespace Go.Wx
open Go

/-- A datum that is no NaN. -/
def notNan : Ieee.Datum → Prop
  | .nan .. => False
  | _ => True
theorem read_word (f : Ieee.Format) (neg : Bool) {rung : Nat} (h : rung ≤ f.infRung) : notNan (f.read (f.word neg rung)) := by
  have hlt := Nat.lt_of_le_of_lt h f.infRung_lt
  have hm : f.word neg rung % f.signWeight = rung := by
    unfold Ieee.Format.word
    split
    · rw [Nat.add_mod_left, Nat.mod_eq_of_lt hlt]
    · rw [Nat.mod_eq_of_lt hlt]
  unfold Ieee.Format.read
  dsimp only
  rw [hm]
  by_cases h1 : rung < f.binade
  · rw [if_pos h1]; trivial
  · rw [if_neg h1]
    by_cases h2 : rung < f.infRung
    · rw [if_pos h2]; trivial
    · rw [if_neg h2, if_pos (by omega)]; trivial
theorem read_write (f : Ieee.Format) {d : Ieee.Datum} (h : notNan d) : notNan (f.read (f.write d)) := by
  cases d with
  | number neg mag place =>
    unfold Ieee.Format.write Ieee.Format.nearest
    dsimp only
    split
    · exact read_word f neg (Nat.zero_le _)
    · exact read_word f neg (Nat.min_le_right ..)
  | infinity neg => exact read_word f neg (Nat.le_refl _)
  | nan neg fr => exact h.elim
theorem order_self {d : Ieee.Datum} (h : notNan d) : d.order d = some .eq := by
  cases d with
  | number neg mag place => simp [Ieee.Datum.order]
  | infinity neg => simp [Ieee.Datum.order]
  | nan neg fr => exact h.elim
/-- A number that is not nought. -/
def someNum : Ieee.Datum → Bool
  | .number _ m _ => m != 0
  | _ => false
theorem quot_ok {digits : Nat} {d e : Ieee.Datum} (hd : notNan d) (he : someNum e = true) : ∃ q, d.quotient digits e = some q ∧ notNan q := by
  cases e with
  | number t n j =>
    have hn : n ≠ 0 := by simpa [someNum] using he
    cases d with
    | number s m i => exact ⟨.number _ _ _, by simp only [Ieee.Datum.quotient, if_neg hn]; rfl, trivial⟩
    | infinity s => exact ⟨.infinity _, rfl, trivial⟩
    | nan s fr => exact hd.elim
  | infinity t => cases he
  | nan t fr => cases he
theorem words_num : ((List.range 24).all fun k => someNum (FloatKind.f64.format.read (FloatKind.f64.nearest ((64 * (k + 1) : Nat) : Int)))) = true := by decide +kernel
theorem div_ok (x : Int) {n : Nat} (h1 : 1 ≤ n) (h2 : n ≤ 24) : ∃ r, FloatKind.f64.format.div (FloatKind.f64.nearest x) (FloatKind.f64.nearest ((64 * n : Nat) : Int)) = some r ∧ FloatKind.f64.format.order r r = some .eq := by
  have hw := List.all_eq_true.1 words_num (n - 1) (List.mem_range.2 (by omega))
  rw [show n - 1 + 1 = n by omega] at hw
  have hx : notNan (FloatKind.f64.format.read (FloatKind.f64.nearest x)) := read_write _ (d := .number (x < 0) x.natAbs 0) trivial
  obtain ⟨q, hq, hn⟩ := quot_ok (digits := FloatKind.f64.format.fractionBits + 2) hx hw
  refine ⟨FloatKind.f64.format.write q, ?_, order_self (read_write _ hn)⟩
  unfold Ieee.Format.div
  rw [hq]
  rfl

section
variable {w : World} {pb N : Nat} {own : Nat → Own} {P : Prop} {B : Sl → Nat} {R : RB} {σ : St}
theorem c45 (h : Sp w B σ) {r : Nat} (hr : FloatKind.f64.format.div (FloatKind.f64.nearest (rmS σ)) (FloatKind.f64.nearest ((64 * σ.n : Nat) : Int)) = some r) : RetE PR 45 [pt (B .s)] w (.float .f64 r) := by
  refine Ret.of ((S45_eq _ w _).mpr ?_)
  unfold S45
  generalize hwd : World.drew w = wd
  have d1 : Kp w wd := hwd ▸ ext_drew w
  have hs := d1.at h.hs
  refine ⟨_, cell_of hs 14, _, _, _, cell_of hs 0, ?_⟩
  show optx (FloatKind.f64.format.div (FloatKind.f64.nearest (rmS σ)) (FloatKind.f64.nearest ((64 * σ.n : Nat) : Int))) _
  rw [hr]
  exact ⟨rfl, d1⟩

theorem c15_19 (h : PI w pb own N P B R σ) {who a b c : Int} {s : Option Addr} {l cc : Nat} :
    RetE PR 15 [pt pb, .agg (Array.mk [I who, I 19, I a, I b, I c, .slice s l cc])] w (.bool true) := by
  refine Ret.of ((S15_eq ..).mpr ?_)
  unfold S15
  refine atW_new fun w1 n1 => ⟨_, cell_of n1.at0 1, ?_⟩
  have h1 := h.kp n1.ext
  generalize hwd : World.drew w1 = wd
  have d1 : Kp w1 wd := hwd ▸ ext_drew w1
  have kd : Kp w wd := Upd.trans n1.ext d1
  have hd := h1.kp d1
  refine ifB_eq (fun hh => by omega) fun _ => ifB_eq (fun hh => by omega) fun _ => ifB_eq (fun hh => by omega) fun _ => ifB_eq (fun hh => by omega) fun _ => ifB_eq (fun hh => by omega) fun _ => ifB_eq (fun hh => by omega) fun _ => ifB_eq (fun hh => by omega) fun _ => ifB_eq (fun hh => by omega) fun _ => ifB_eq (fun hh => by omega) fun _ => ifB_eq (fun _ => ?_) fun hh => absurd rfl hh
  obtain ⟨r, hr, hrr⟩ := div_ok (rmS σ) h.i.n1 h.n
  refine ⟨_, hd.ps, _, hd.pr, _, _, _, cell_of hd.r.hs 0, ?_⟩
  refine (c20 hd.s).use fun w2 e2 => ⟨_, rfl, e2.draw, ifB_eq (fun _ => ?_) fun hh => absurd rfl hh⟩
  have h2 := hd.kp e2
  refine ⟨_, h2.ps, _, h2.pr, _, h2.pr, _, _, _, cell_of h2.r.hs 0, ?_⟩
  refine (c45 h2.s hr).use fun w3 e3 => ⟨_, rfl, e3.draw, ?_⟩
  have h3 := h2.kp e3
  refine (c46 h3.i h3.r).use fun w4 e4 => ⟨_, rfl, e4.draw, ?_⟩
  rw [hr]
  show Value.bool (FloatKind.f64.format.order r r == some Ordering.eq) = .bool true ∧ Kp w w4
  rw [hrr]
  exact ⟨rfl, Upd.trans kd (Upd.trans e2 (Upd.trans e3 e4))⟩
end
end Go.Wx
end
section
/- Contracts of the entries, second part. -/
set_option linter.unusedVariables false
set_option maxRecDepth 100000
namespace Go.Wx
open Go

/-- The kinds 10 to 16 and 18 to 20. -/
theorem lk_most {lo hi : Int} (hr : ∀ k : Int, lo ≤ k → k ≤ hi → ¬ (1 ≤ k ∧ k ≤ 7) → 10 ≤ k ∧ k ≤ 20 ∧ k ≠ 17) : LkOK lo hi := by
  intro w pb N own B R σ who kind a b c s l cc ks h hN hl ho h1 h2 h3
  obtain ⟨r1, r2, r3⟩ := hr kind h1 h2 h3
  by_cases e14 : kind = 14
  · subst e14; exact (c15_14 h (by omega) ho).mono fun v w' hh => ⟨hh.1, Stp.none h hh.2⟩
  by_cases e16 : kind = 16
  · subst e16; exact (c15_16 h (by omega)).mono fun v w' hh => ⟨hh.1, hh.2.stp (by omega)⟩
  by_cases e19 : kind = 19
  · subst e19; exact Ret.mono (c15_19 h) fun v w' hh => ⟨hh.1, Stp.none h hh.2⟩
  by_cases e20 : kind = 20
  · subst e20; exact (c15_20 h (by omega)).mono fun v w' hh => ⟨hh.1, hh.2.stp (by omega)⟩
  exact Ret.mono (c15_ro h ho.ha kind (by omega)) fun v w' hh => ⟨hh.1, Stp.none h hh.2⟩

section
variable {w : World} {n m : Int} {s : Option Addr} {l c : Nat} {f : Nat → Nat → Int} {ad : Nat → Option Addr} {ln cc : Nat → Nat} {ks : Nat → Nat → Int}
theorem c5 (hg : GT w) (h : Scr w s l f ad ln cc ks) : RetE PR 5 [I n, I m, .slice s l c] w (.bool true) := by
  refine Ret.of ((S5_eq ..).mpr ?_)
  unfold S5
  exact (c10 (lk_most fun k h1 h2 _ => by omega) hg h).use fun w1 e1 => ⟨_, rfl, rfl, e1⟩
theorem c8 (hg : GT w) (h : Scr w s l f ad ln cc ks) : RetE PR 8 [I n, I m, .slice s l c] w (.bool true) := by
  refine Ret.of ((S8_eq ..).mpr ?_)
  unfold S8
  exact (c10 (lk_most fun k h1 h2 _ => by omega) hg h).use fun w1 e1 => ⟨_, rfl, rfl, e1⟩
end
end Go.Wx
end
