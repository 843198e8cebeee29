/- Own text, merged out of small ones: Nv Nw Nx Ny Nz Oa Ob Oc Od Oe Of Og Oh Oi Oj Ok Ol Om On Oo Op Oq Or Os Ot Ou Ov Ow: the framework, the preconditions and the contracts on which the claim rests (no conditions of its own). -/
import Derived.Test.YtagbnjkichocbaaGreatDoorLe
import Derived.Laws.FloatBits
section
/- Contracts of Dump. -/
set_option linter.unusedVariables false
set_option maxRecDepth 100000
namespace Go.Wx
open Go

def dCells (L1 L2 L3 : LV) (hh : Nat → Int) (last : Int) : List Value :=
  [L1.val, L2.val, L3.val, I (hh 0), I (hh 1), I (hh 2), I (hh 3), I (hh 4), I (hh 5), I (hh 6), I (hh 7), I last]
theorem dCells_set {L1 L2 L3 : LV} {hh : Nat → Int} {last x : Int} {i : Nat} (hi : i < 8) : setL (dCells L1 L2 L3 hh last) (3 + i) [I x] = dCells L1 L2 L3 (up hh i x) last := by
  match i, hi with
  | 0, _ | 1, _ | 2, _ | 3, _ | 4, _ | 5, _ | 6, _ | 7, _ => rfl
abbrev wR (σ : St) : Nat → List Value := fun i => [I (σ.W i)]
abbrev pR (σ : St) : Nat → List Value := fun i => (σ.P i).cells
structure Dm (w0 w : World) (σ : St) (L1 L2 L3 : LV) : Prop where
  r1 : Rw w L1 1 3 (wR σ)
  l1 : L1.l = 64 * σ.n
  r2 : Rw w L2 3 152 (pR σ)
  l2 : L2.l = σ.n
  r3 : Rw w L3 5 106 (obR σ (64 * σ.n))
  l3 : L3.l = objN σ (64 * σ.n)
  b1 : ∀ b, L1.b = some b → w0.heap.size ≤ b
  b2 : ∀ b, L2.b = some b → w0.heap.size ≤ b
  b3 : ∀ b, L3.b = some b → w0.heap.size ≤ b
theorem Dm.kp {w0 w w' : World} {σ : St} {L1 L2 L3 : LV} (h : Dm w0 w σ L1 L2 L3) (u : Kp w w') : Dm w0 w' σ L1 L2 L3 :=
  ⟨h.r1.upd u fun _ _ h => h, h.l1, h.r2.upd u fun _ _ h => h, h.l2, h.r3.upd u fun _ _ h => h, h.l3, h.b1, h.b2, h.b3⟩
theorem ints_row {m : Nat} {f : Nat → Int} {i : Nat} (hi : i < m) : (ints m f)[i]? = some (I (f i)) := by simp [ints, vals, hi]
theorem pg_leaf (p : Pg) : ∀ x ∈ p.cells, isLeaf x = true := by simp [Pg.cells, isLeaf]

theorem cp_words {w : World} {wb c l : Nat} {W : Nat → Int} (h : w.heap[wb]? = some (Bl (ints c W) 3)) (h1 : 1 ≤ l) (hl : l ≤ c) (hb : l ≤ 262144) {Q : Option Addr → Nat → World → Prop}
    (hk : ∀ c' w', Kp w w' → Rw w' ⟨some w.heap.size, l, c'⟩ 1 3 (fun i => [I (W i)]) → Q (some ⟨w.heap.size, 0, none⟩) c' w') :
    ∃ old new, rdx w none 0 old ∧ rdx w (some ⟨wb, 0, none⟩) (l * 1) new ∧ (∀ v : Value, List.Mem v new → isLeaf v = true) ∧ (0 + l) * 8 ≤ 1099511627776 ∧ canApp w none 0 0 l 1 ∧
      ∀ (b : Option Addr) (c : Nat) (w' : World), AppTo w none 0 0 l 1 old new [Value.int IntKind.i64 0] 3 b c w' → Q b c w' := by
  refine copy_at h h1 (by simp; omega) (fun v hv => ints_leaf v (List.mem_of_mem_take hv)) (by omega) fun c' w' hc n => hk c' w' n.ext ?_
  rw [ints_copy hl hc] at n
  refine ⟨hc, fun hh => (by cases hh), fun b hb => ?_⟩
  cases hb
  refine ⟨_, n.at0, by simp, ints_leaf, fun i hi j hj => ?_⟩
  have hj : j = 0 := by omega
  subst hj
  have hi : i < l := hi
  rw [show i * 1 + 0 = i by omega, ints_row (by omega), cutW, if_pos hi]; rfl
theorem rw_pgs {w : World} {b l c : Nat} {P P' : Nat → Pg} (h : w.heap[b]? = some (Bl (pgs c P) 152)) (hl : l ≤ c) (he : ∀ i, i < l → P i = P' i) : Rw w ⟨some b, l, c⟩ 3 152 (fun i => (P' i).cells) := by
  refine ⟨hl, fun hh => (by cases hh), fun b' hb' => ?_⟩
  cases hb'
  refine ⟨_, h, by simp, pgs_leaf, fun i hi j hj => ?_⟩
  have hi : i < l := hi
  rw [pgs, recs_get (g := fun i => (P i).cells) (fun _ => rfl) (by omega) hj, he i hi]

section
variable {w : World} {B : Sl → Nat} {R : RB} {σ : St}

/-- Behind the lists: what both Dumps have then. -/
def DmJ (w : World) (σ : St) (s : Value × Unit) (W : World) : Prop :=
  ∃ db L1 L2 L3, s = (.pointer (some ⟨db, 0, none⟩), ()) ∧ Kp w W ∧ Dm w W σ L1 L2 L3 ∧ W.heap[db]? = some (Bl (dCells L1 L2 L3 (fun _ => 0) σ.last) 81) ∧ w.heap.size < db ∧
    W.heap[w.heap.size]? = some (Bl (dCells LV.nil LV.nil LV.nil (fun _ => 0) 0) 81)

theorem dm_mk {W1 W2 W3 : World} {L1 L2 L3 : LV} (k : Kp w W2) (n : New W1 (Bl (dCells LV.nil LV.nil LV.nil (fun _ => 0) 0) 81) W3) (k1 : Kp w W1) (k3 : Kp W3 W2) (hD : Dm w W2 σ L1 L2 L3) (hz : W1.heap[w.heap.size]? = some (Bl (dCells LV.nil LV.nil LV.nil (fun _ => 0) 0) 81))
    {K : Value × Unit → World → Prop} (hK : ∀ s W, DmJ w σ s W → K s W) :
    stx W2 (Addr.mk W1.heap.size 0 none) [L1.val, L2.val, L3.val, I 0, I 0, I 0, I 0, I 0, I 0, I 0, I 0, I σ.last] 0 fun w' => K (Value.pointer (some (Addr.mk W1.heap.size 0 none)), ()) w' := by
  have hlt := lt_of_look hz
  refine stx_at _ (k3.at n.at0) (by simp [dCells]) rfl fun W4 p4 => hK _ _ ⟨W1.heap.size, L1, L2, L3, rfl, k.put p4 (by omega), ?_, p4.at0, hlt, p4.at (k3.at (n.ext.at hz)) (by omega)⟩
  have ne : ∀ {L : LV} {sz : Nat} {ty : TypeId} {F : Nat → List Value}, Rw W2 L sz ty F → ty ≠ 81 → ∀ b, L.b = some b → ¬ one W1.heap.size b := by
    intro L sz ty F hR hty b hb
    obtain ⟨cs, h1, _⟩ := hR.2.2 b hb
    exact ne_ty h1 (k3.at n.at0) hty
  exact ⟨hD.r1.upd p4.upd (ne hD.r1 (by decide)), hD.l1, hD.r2.upd p4.upd (ne hD.r2 (by decide)), hD.l2, hD.r3.upd p4.upd (ne hD.r3 (by decide)), hD.l3, hD.b1, hD.b2, hD.b3⟩

/-- The lists stand; the answer's block is filled. -/
theorem fin1 {wd wa wb wc wx W1 W3 : World} {L3 : LV} {x c2 c3 ls ln : Nat} (hls : ls = 64 * σ.n) (hln : ln = σ.n) {cs : List Value} {K : Value × Unit → World → Prop} (ka : Kp w wa) (_ : Kp wd wa) (hR : Rw wa ⟨some x, 64 * σ.n, c2⟩ 1 3 (wR σ)) (hx : w.heap.size ≤ x)
    (n : New wa (Bl cs 152) wb) (hc3 : σ.n ≤ c3) (hcs : Bl cs 152 = Bl (pgs c3 (cutP σ.n σ.P)) 152) (kb : Kp wb wc) (g1 : Rw wx L3 5 106 (obR σ (64 * σ.n))) (g2 : L3.l = objN σ (64 * σ.n)) (g3 : ∀ b, L3.b = some b → w.heap.size ≤ b)
    (kx : Kp wx wc) (k1 : Kp w W1) (nd : New W1 (Bl (dCells LV.nil LV.nil LV.nil (fun _ => 0) 0) 81) W3) (k3 : Kp W3 wc) (hz : W1.heap[w.heap.size]? = some (Bl (dCells LV.nil LV.nil LV.nil (fun _ => 0) 0) 81)) (hK : ∀ s W, DmJ w σ s W → K s W) :
    stx wc (Addr.mk W1.heap.size 0 none) [Value.slice (some ⟨x, 0, none⟩) ls c2, Value.slice (some ⟨wa.heap.size, 0, none⟩) ln c3, L3.val, I 0, I 0, I 0, I 0, I 0, I 0, I 0, I 0, I σ.last] 0 fun w' => K (Value.pointer (some (Addr.mk W1.heap.size 0 none)), ()) w' := by
  have e1 : Kp wa wc := n.ext.trans kb
  have hp := n.at0
  rw [hcs] at hp
  subst hls hln
  have sa := ka.sz
  have hD : Dm w wc σ ⟨some x, 64 * σ.n, c2⟩ ⟨some wa.heap.size, σ.n, c3⟩ L3 :=
    ⟨hR.upd e1 fun _ _ h => h, rfl, (rw_pgs hp hc3 fun i hi => by rw [cutP, if_pos hi]).upd kb fun _ _ h => h, rfl, g1.upd kx fun _ _ h => h, g2, fun b hb => by cases hb; exact hx, fun b hb => by cases hb; omega, g3⟩
  exact dm_mk (ka.trans e1) nd k1 k3 hD hz hK

/-- The answer of a Dump. -/
def DmR (w : World) (σ : St) (v : Value) (w' : World) : Prop := ∃ L1 L2 L3, v = .agg (Array.mk (dCells L1 L2 L3 (fun c => nfS σ c 0) σ.last)) ∧ Dm w w' σ L1 L2 L3 ∧ Kp w w'

/-- While the heads are asked. -/
structure DmL (w W : World) (σ : St) (db : Nat) (L1 L2 L3 : LV) (hh : Nat → Int) : Prop where
  k : Kp w W
  d : Dm w W σ L1 L2 L3
  b : W.heap[db]? = some (Bl (dCells L1 L2 L3 hh σ.last) 81)
  lt : w.heap.size < db
  z : W.heap[w.heap.size]? = some (Bl (dCells LV.nil LV.nil LV.nil (fun _ => 0) 0) 81)
theorem DmL.kp {W W' : World} {db : Nat} {L1 L2 L3 : LV} {hh : Nat → Int} (h : DmL w W σ db L1 L2 L3 hh) (u : Kp W W') : DmL w W' σ db L1 L2 L3 hh := ⟨h.k.trans u, h.d.kp u, u.at h.b, h.lt, u.at h.z⟩
theorem DmL.dput {W W' : World} {db x : Nat} {L1 L2 L3 : LV} {hh : Nat → Int} {cs cs' : List Value} (h : DmL w W σ db L1 L2 L3 hh) (hx : W.heap[x]? = some (Bl cs 81)) (p : Put W x (Bl cs' 81) W') : Dm w W' σ L1 L2 L3 := by
  have ne : ∀ {L : LV} {sz : Nat} {ty : TypeId} {F : Nat → List Value}, Rw W L sz ty F → ty ≠ 81 → ∀ b, L.b = some b → ¬ one x b := by
    intro L sz ty F hR hty b hb
    obtain ⟨cs, h1, _⟩ := hR.2.2 b hb
    exact ne_ty h1 hx hty
  have hD := h.d
  exact ⟨hD.r1.upd p.upd (ne hD.r1 (by decide)), hD.l1, hD.r2.upd p.upd (ne hD.r2 (by decide)), hD.l2, hD.r3.upd p.upd (ne hD.r3 (by decide)), hD.l3, hD.b1, hD.b2, hD.b3⟩
theorem DmL.set {W : World} {db : Nat} {L1 L2 L3 : LV} {hh : Nat → Int} (h : DmL w W σ db L1 L2 L3 hh) {i : Nat} (hi : i < 8) (x : Int) {K : World → Prop} (hk : ∀ W', DmL w W' σ db L1 L2 L3 (up hh i x) → K W') :
    stx W (((Addr.mk db 0 none).add 3).add ((i : Int).toNat * 1)) [I x] 0 K := by
  rw [add_mk, add_mk, Int.toNat_natCast, show 0 + 3 + i * 1 = 3 + i by omega]
  refine stx_at _ h.b (by simp [dCells]; omega) rfl fun W2 p => hk W2 ?_
  rw [Nat.add_zero, dCells_set hi] at p
  have := h.lt
  exact ⟨h.k.put p (by omega), h.dput h.b p, p.at0, h.lt, p.at h.z (by omega)⟩
end

section
variable {w : World} {B : Sl → Nat} {R : RB} {σ : St}
theorem c49 (h : Rf w R σ) : Ret PR 49 [pt R.s] w (DmR w σ) := by
  refine Ret.of ((S49_eq _ w _).mpr ?_)
  unfold S49
  have hn1 := h.n1
  have hn2 := h.n2
  have hcw := h.hcw
  refine atW_new fun w1 n1 => ⟨DmJ w σ, ?_, ?_⟩
  · rintro s W ⟨db, L1, L2, L3, rfl, kW, hD, hdb, hlt, hz⟩
    refine loop_rule (fun c : Nat => ((c : Int), ())) (fun c V => c ≤ 8 ∧ ∃ hh, DmL w V σ db L1 L2 L3 hh ∧ ∀ j, j < c → hh j = nfS σ j 0) (fun c => 8 - c) 0 rfl ⟨by omega, _, ⟨kW, hD, hdb, hlt, hz⟩, fun j hj => by omega⟩ ?_
    rintro c V K ⟨hc, hh, hV, hhh⟩ hK
    dsimp only
    refine ifB_d (fun hlt => ?_) fun hlt => ?_
    · have hc8 : c < 8 := by omega
      refine (c64 (h.kp hV.k) hc8 0 (by omega) (by omega)).use fun V2 e2 => ⟨_, rfl, ?_⟩
      dsimp only [SK.v, asA]
      refine ⟨⟨by omega, by omega⟩, (hV.kp e2).set hc8 _ fun V3 h3 => ?_⟩
      rw [wrap_id (by omega) (by omega)]
      refine hK (c + 1) V3 ⟨by omega, _, h3, fun j hj => ?_⟩ (by omega)
      by_cases hjc : j = c
      · subst hjc; rw [up_same]; rfl
      · rw [up_other _ _ hjc]; exact hhh j (by omega)
    · have hc8 : c = 8 := by omega
      subst hc8
      dsimp only [SK.v, asA]
      have hb := hV.b
      refine ⟨_, _, _, cell_of hb 0, _, _, _, cell_of hb 1, _, _, _, cell_of hb 2, _, cell_of hb 3, _, cell_of hb 4, _, cell_of hb 5, _, cell_of hb 6, _, cell_of hb 7, _, cell_of hb 8, _, cell_of hb 9, _, cell_of hb 10, _, cell_of hb 11, ?_⟩
      refine stx_at _ hV.z (by simp [dCells]) rfl fun V2 p2 => ?_
      have hb := p2.at0
      refine ⟨_, _, _, cell_of hb 0, _, _, _, cell_of hb 1, _, _, _, cell_of hb 2, _, cell_of hb 3, _, cell_of hb 4, _, cell_of hb 5, _, cell_of hb 6, _, cell_of hb 7, _, cell_of hb 8, _, cell_of hb 9, _, cell_of hb 10, _, cell_of hb 11, L1, L2, L3, ?_, hV.dput hV.z p2, hV.k.put p2 (Nat.le_refl _)⟩
      rw [dCells, ← hhh 0 (by omega), ← hhh 1 (by omega), ← hhh 2 (by omega), ← hhh 3 (by omega), ← hhh 4 (by omega), ← hhh 5 (by omega), ← hhh 6 (by omega), ← hhh 7 (by omega)]
  · generalize hwd : World.drew w1 = wd
    have d1 : Kp w1 wd := hwd ▸ ext_drew w1
    have kd := n1.ext.trans d1
    have hz1 : wd.heap[w.heap.size]? = some (Bl (dCells LV.nil LV.nil LV.nil (fun _ => 0) 0) 81) := d1.at n1.at0
    have h1 := h.kp kd
    refine ⟨_, _, _, cell_of h1.hs 0, _, cell_of h1.hs 1, _, _, _, cell_of h1.ht.h0 0, _, cell_of h1.hs 3, ?_, ?_⟩
    · refine cp_words h1.hw (by omega) (by omega) (by omega) fun c2 w2 e2 hR => ⟨e2.draw, ?_, ?_⟩
      · have h2 := h1.kp e2
        refine copy_at h2.ht.h1 hn1 (by simp; exact Nat.mul_le_mul_right 3 h2.ht.hc) (fun v hv => pgs_leaf v (List.mem_of_mem_take hv)) (by omega) fun c3 w3 hc3 n3 => ⟨n3.ext.draw, ?_, ?_⟩
        · refine (c41 (h2.kp n3.ext)).use ?_
          rintro _ w4 ⟨L3, rfl, g1, g2, e4, g3⟩
          refine ⟨_, _, _, rfl, e4.draw, atW_new fun w5 n5 => ⟨n5.ext.draw, ?_⟩⟩
          exact fin1 (Nat.zero_add _) (Nat.zero_add _) (kd.trans e2) e2 hR (by have := d1.sz; have := n1.sz; omega) n3 hc3 (by rw [pgs_copy h2.ht.hc hc3]) ((e4.trans n5.ext)) g1 g2 (by have := e2.sz; have := n3.sz; have := d1.sz; have := n1.sz; intro b hb; have := g3 b hb; omega) n5.ext (kd.trans (e2.trans (n3.ext.trans e4))) n5 kp0 (Kp.at (e2.trans (n3.ext.trans e4)) hz1) fun _ _ h => h
        · refine atW_new fun w4 n4 => ⟨n4.ext.draw, ?_⟩
          refine (c41 ((h2.kp n3.ext).kp n4.ext)).use ?_
          rintro _ w5 ⟨L3, rfl, g1, g2, e5, g3⟩
          refine ⟨_, _, _, rfl, e5.draw, ?_⟩
          exact fin1 (Nat.zero_add _) (Nat.zero_add _) (kd.trans e2) e2 hR (by have := d1.sz; have := n1.sz; omega) n3 hc3 (by rw [pgs_copy h2.ht.hc hc3]) (n4.ext.trans e5) g1 g2 (by have := e2.sz; have := n3.sz; have := n4.sz; have := d1.sz; have := n1.sz; intro b hb; have := g3 b hb; omega) kp0 (kd.trans (e2.trans n3.ext)) n4 e5 (Kp.at (e2.trans n3.ext) hz1) fun _ _ h => h
      · refine atW_new fun w3 n3 => ⟨n3.ext.draw, ?_⟩
        have h3 := h1.kp (e2.trans n3.ext)
        refine copy_at h3.ht.h1 hn1 (by simp; exact Nat.mul_le_mul_right 3 h3.ht.hc) (fun v hv => pgs_leaf v (List.mem_of_mem_take hv)) (by omega) fun c3 w4 hc3 n4 => ⟨n4.ext.draw, ?_⟩
        refine (c41 (h3.kp n4.ext)).use ?_
        rintro _ w5 ⟨L3, rfl, g1, g2, e5, g3⟩
        refine ⟨_, _, _, rfl, e5.draw, ?_⟩
        exact fin1 (Nat.zero_add _) (Nat.zero_add _) (kd.trans (e2.trans n3.ext)) (e2.trans n3.ext) (hR.upd n3.ext fun _ _ h => h) (by have := d1.sz; have := n1.sz; omega) n4 hc3 (by rw [pgs_copy h3.ht.hc hc3]) e5 g1 g2 (by have := e2.sz; have := n3.sz; have := n4.sz; have := d1.sz; have := n1.sz; intro b hb; have := g3 b hb; omega) kp0 (kd.trans e2) n3 (n4.ext.trans e5) (e2.at hz1) fun _ _ h => h
    · refine atW_new fun w2 n2 => ⟨n2.ext.draw, ?_⟩
      have h2 := h1.kp n2.ext
      refine cp_words h2.hw (by omega) (by omega) (by omega) fun c2 w3 e3 hR => ⟨e3.draw, ?_⟩
      have h3 := h2.kp e3
      refine copy_at h3.ht.h1 hn1 (by simp; exact Nat.mul_le_mul_right 3 h3.ht.hc) (fun v hv => pgs_leaf v (List.mem_of_mem_take hv)) (by omega) fun c3 w4 hc3 n4 => ⟨n4.ext.draw, ?_⟩
      refine (c41 (h3.kp n4.ext)).use ?_
      rintro _ w5 ⟨L3, rfl, g1, g2, e5, g3⟩
      refine ⟨_, _, _, rfl, e5.draw, ?_⟩
      exact fin1 (Nat.zero_add _) (Nat.zero_add _) (kd.trans (n2.ext.trans e3)) (n2.ext.trans e3) hR (by have := d1.sz; have := n1.sz; have := n2.sz; omega) n4 hc3 (by rw [pgs_copy h3.ht.hc hc3]) e5 g1 g2 (by have := e3.sz; have := n2.sz; have := n4.sz; have := d1.sz; have := n1.sz; intro b hb; have := g3 b hb; omega) kp0 kd n2 (e3.trans (n4.ext.trans e5)) hz1 fun _ _ h => h

theorem c48 (hI : Inv σ) (h : Sp w B σ) : Ret PR 48 [pt (B .s)] w (DmR w σ) := by
  refine Ret.of ((S48_eq _ w _).mpr ?_)
  unfold S48
  have hn1 := hI.n1
  have hn2 := hI.n2
  refine atW_new fun w1 n1 => ⟨DmJ w σ, ?_, ?_⟩
  · rintro s W ⟨db, L1, L2, L3, rfl, kW, hD, hdb, hlt, hz⟩
    have hW := h.kp kW
    refine ⟨_, cell_of hW.hs 3, _, cell_of hW.hs 4, _, cell_of hW.hs 5, _, cell_of hW.hs 6, _, cell_of hW.hs 7, _, cell_of hW.hs 8, _, cell_of hW.hs 9, _, cell_of hW.hs 10, ?_⟩
    refine loop_rule (fun c : Nat => ((c : Int), ())) (fun c V => c ≤ 8 ∧ ∃ hh, DmL w V σ db L1 L2 L3 hh ∧ ∀ j, j < c → hh j = nfS σ j 0) (fun c => 8 - c) 0 rfl ⟨by omega, _, ⟨kW, hD, hdb, hlt, hz⟩, fun j hj => by omega⟩ ?_
    rintro c V K ⟨hc, hh, hV, hhh⟩ hK
    dsimp only
    refine ifB_d (fun hlt => ?_) fun hlt => ?_
    · have hc8 : c < 8 := by omega
      refine ⟨B (.f c) |> fun x => some ⟨x, 0, none⟩, ⟨by omega, by omega⟩, ?_, ?_⟩
      · rw [Int.toNat_natCast]
        rcases lt8 hc8 with rfl | rfl | rfl | rfl | rfl | rfl | rfl | rfl <;> rfl
      refine (c99 (SpR.hf (h.kp hV.k) c hc8) 0).use fun V2 e2 => ⟨_, rfl, ?_⟩
      dsimp only [SK.v, asA]
      refine ⟨⟨by omega, by omega⟩, (hV.kp e2).set hc8 _ fun V3 h3 => ?_⟩
      rw [wrap_id (by omega) (by omega)]
      refine hK (c + 1) V3 ⟨by omega, _, h3, fun j hj => ?_⟩ (by omega)
      by_cases hjc : j = c
      · subst hjc; rw [up_same]; rfl
      · rw [up_other _ _ hjc]; exact hhh j (by omega)
    · have hc8 : c = 8 := by omega
      subst hc8
      dsimp only [SK.v, asA]
      have hb := hV.b
      refine ⟨_, _, _, cell_of hb 0, _, _, _, cell_of hb 1, _, _, _, cell_of hb 2, _, cell_of hb 3, _, cell_of hb 4, _, cell_of hb 5, _, cell_of hb 6, _, cell_of hb 7, _, cell_of hb 8, _, cell_of hb 9, _, cell_of hb 10, _, cell_of hb 11, ?_⟩
      refine stx_at _ hV.z (by simp [dCells]) rfl fun V2 p2 => ?_
      have hb := p2.at0
      refine ⟨_, _, _, cell_of hb 0, _, _, _, cell_of hb 1, _, _, _, cell_of hb 2, _, cell_of hb 3, _, cell_of hb 4, _, cell_of hb 5, _, cell_of hb 6, _, cell_of hb 7, _, cell_of hb 8, _, cell_of hb 9, _, cell_of hb 10, _, cell_of hb 11, L1, L2, L3, ?_, hV.dput hV.z p2, hV.k.put p2 (Nat.le_refl _)⟩
      rw [dCells, ← hhh 0 (by omega), ← hhh 1 (by omega), ← hhh 2 (by omega), ← hhh 3 (by omega), ← hhh 4 (by omega), ← hhh 5 (by omega), ← hhh 6 (by omega), ← hhh 7 (by omega)]
  · generalize hwd : World.drew w1 = wd
    have d1 : Kp w1 wd := hwd ▸ ext_drew w1
    have kd := n1.ext.trans d1
    have hz1 : wd.heap[w.heap.size]? = some (Bl (dCells LV.nil LV.nil LV.nil (fun _ => 0) 0) 81) := d1.at n1.at0
    have h1 := h.kp kd
    refine ⟨_, _, _, cell_of h1.hs 0, _, cell_of h1.hs 1, _, cell_of h1.hs 13, ?_, ?_⟩
    · refine cp_words h1.hw (by omega) (by omega) (by omega) fun c2 w2 e2 hR => ⟨e2.draw, ?_, ?_⟩
      · have h2 := h1.kp e2
        obtain ⟨low, free, ht⟩ := SpR.ht h2
        have ht : Tb _ (B .t) (B .p) σ.n σ.n σ.P low free := ht
        refine (c98 ht hn1).use ?_
        rintro _ w3 ⟨c3, hc3, rfl, n3⟩
        refine ⟨_, _, _, rfl, n3.ext.draw, ?_, ?_⟩
        · refine (c40 hI (h2.kp n3.ext)).use ?_
          rintro _ w4 ⟨L3, rfl, g1, g2, e4, g3⟩
          refine ⟨_, _, _, rfl, e4.draw, atW_new fun w5 n5 => ⟨n5.ext.draw, ?_⟩⟩
          exact fin1 (Nat.zero_add _) rfl (kd.trans e2) e2 hR (by have := d1.sz; have := n1.sz; omega) n3 hc3 rfl ((e4.trans n5.ext)) g1 g2 (by have := e2.sz; have := n3.sz; have := d1.sz; have := n1.sz; intro b hb; have := g3 b hb; omega) n5.ext (kd.trans (e2.trans (n3.ext.trans e4))) n5 kp0 (Kp.at (e2.trans (n3.ext.trans e4)) hz1) fun _ _ h => h
        · refine atW_new fun w4 n4 => ⟨n4.ext.draw, ?_⟩
          refine (c40 hI ((h2.kp n3.ext).kp n4.ext)).use ?_
          rintro _ w5 ⟨L3, rfl, g1, g2, e5, g3⟩
          refine ⟨_, _, _, rfl, e5.draw, ?_⟩
          exact fin1 (Nat.zero_add _) rfl (kd.trans e2) e2 hR (by have := d1.sz; have := n1.sz; omega) n3 hc3 rfl (n4.ext.trans e5) g1 g2 (by have := e2.sz; have := n3.sz; have := n4.sz; have := d1.sz; have := n1.sz; intro b hb; have := g3 b hb; omega) kp0 (kd.trans (e2.trans n3.ext)) n4 e5 (Kp.at (e2.trans n3.ext) hz1) fun _ _ h => h
      · refine atW_new fun w3 n3 => ⟨n3.ext.draw, ?_⟩
        have h3 := h1.kp (e2.trans n3.ext)
        obtain ⟨low, free, ht⟩ := SpR.ht h3
        have ht : Tb _ (B .t) (B .p) σ.n σ.n σ.P low free := ht
        refine (c98 ht hn1).use ?_
        rintro _ w4 ⟨c3, hc3, rfl, n4⟩
        refine ⟨_, _, _, rfl, n4.ext.draw, ?_⟩
        refine (c40 hI (h3.kp n4.ext)).use ?_
        rintro _ w5 ⟨L3, rfl, g1, g2, e5, g3⟩
        refine ⟨_, _, _, rfl, e5.draw, ?_⟩
        exact fin1 (Nat.zero_add _) rfl (kd.trans (e2.trans n3.ext)) (e2.trans n3.ext) (hR.upd n3.ext fun _ _ h => h) (by have := d1.sz; have := n1.sz; omega) n4 hc3 rfl e5 g1 g2 (by have := e2.sz; have := n3.sz; have := n4.sz; have := d1.sz; have := n1.sz; intro b hb; have := g3 b hb; omega) kp0 (kd.trans e2) n3 (n4.ext.trans e5) (e2.at hz1) fun _ _ h => h
    · refine atW_new fun w2 n2 => ⟨n2.ext.draw, ?_⟩
      have h2 := h1.kp n2.ext
      refine cp_words h2.hw (by omega) (by omega) (by omega) fun c2 w3 e3 hR => ⟨e3.draw, ?_⟩
      have h3 := h2.kp e3
      obtain ⟨low, free, ht⟩ := SpR.ht h3
      have ht : Tb _ (B .t) (B .p) σ.n σ.n σ.P low free := ht
      refine (c98 ht hn1).use ?_
      rintro _ w4 ⟨c3, hc3, rfl, n4⟩
      refine ⟨_, _, _, rfl, n4.ext.draw, ?_⟩
      refine (c40 hI (h3.kp n4.ext)).use ?_
      rintro _ w5 ⟨L3, rfl, g1, g2, e5, g3⟩
      refine ⟨_, _, _, rfl, e5.draw, ?_⟩
      exact fin1 (Nat.zero_add _) rfl (kd.trans (n2.ext.trans e3)) (n2.ext.trans e3) hR (by have := d1.sz; have := n1.sz; have := n2.sz; omega) n4 hc3 rfl e5 g1 g2 (by have := e3.sz; have := n2.sz; have := n4.sz; have := d1.sz; have := n1.sz; intro b hb; have := g3 b hb; omega) kp0 kd n2 (e3.trans (n4.ext.trans e5)) hz1 fun _ _ h => h
end
end Go.Wx
end
section
/- What a pair keeps: its lists, and who owns which block. -/
set_option linter.unusedVariables false
set_option maxRecDepth 100000
namespace Go.Wx
open Go

/-- Whose a block is: nobody's of the keep; a field's array; a list's that was left; a marked list's. -/
inductive Own where
  | no | out (k : Nat) | li (k i : Nat) | fu (T : Nat) (m : Int)
def ot : Nat → TypeId
  | 0 | 1 | 6 => 30
  | 2 | 3 | 7 => 78
  | 4 | 5 | 8 => 70
  | _ => 3
def szT : Nat → Nat
  | 0 => 1 | 1 => 3 | _ => 5
def tyT : Nat → TypeId
  | 0 => 3 | 1 => 152 | _ => 106
def mkT : Nat → Int → List Value
  | 0, m => [I m]
  | 1, m => [I m, I 0, I 0]
  | _, m => [I 0, I m, I 0, I 0, I 0]
theorem mkT_len (T : Nat) (m : Int) : (mkT T m).length = szT T := by
  match T with
  | 0 | 1 | _ + 2 => rfl
theorem mkT_leaf (T : Nat) (m : Int) : ∀ x ∈ mkT T m, isLeaf x = true := by
  match T with
  | 0 | 1 | _ + 2 => simp [mkT, isLeaf]
theorem szT_pos (T : Nat) : 0 < szT T := by
  match T with
  | 0 | 1 | _ + 2 => simp [szT]
def pCells (sv rv : Value) (O : Nat → LV) : List Value :=
  [sv, rv, (O 0).val, (O 1).val, (O 2).val, (O 3).val, (O 4).val, (O 5).val, (O 6).val, (O 7).val, (O 8).val, (O 9).val, (O 10).val, (O 11).val]
theorem pCells_set {sv rv : Value} {O : Nat → LV} {k : Nat} {v : LV} (hk : k < 12) : setL (pCells sv rv O) (2 + k) [v.val] = pCells sv rv (up O k v) := by
  match k, hk with
  | 0, _ | 1, _ | 2, _ | 3, _ | 4, _ | 5, _ | 6, _ | 7, _ | 8, _ | 9, _ | 10, _ | 11, _ => rfl
theorem pCells_get {sv rv : Value} {O : Nat → LV} {k : Nat} (hk : k < 12) : (pCells sv rv O)[2 + k]? = some (O k).val := by
  match k, hk with
  | 0, _ | 1, _ | 2, _ | 3, _ | 4, _ | 5, _ | 6, _ | 7, _ | 8, _ | 9, _ | 10, _ | 11, _ => rfl
abbrev tyPair : TypeId := 54

structure KO (w : World) (pb : Nat) (sv rv : Value) (own : Nat → Own) (O : Nat → LV) (X : Nat → Nat → List Value) : Prop where
  p : w.heap[pb]? = some (Bl (pCells sv rv O) tyPair)
  o : ∀ k, k < 12 → Rw w (O k) 1 (ot k) (X k)
  wn : ∀ k, k < 12 → ∀ b, (O k).b = some b → own b = .out k
  pb0 : own pb = .no
  lt : ∀ b, own b ≠ .no → b < w.heap.size

section
variable {w : World} {pb : Nat} {sv rv : Value} {own : Nat → Own} {O : Nat → LV} {X : Nat → Nat → List Value}
theorem KO.cell (h : KO w pb sv rv own O X) {k : Nat} (hk : k < 12) : w.cell? ((Addr.mk pb 2 none).add k) = some (.slice (O k).ad (O k).l (O k).c) := by
  rw [add_mk, cell_of h.p, pCells_get hk]
theorem KO.upd {w' : World} {G : Nat → Prop} (h : KO w pb sv rv own O X) (u : Upd G w w') (hp : ¬ G pb) (ho : ∀ b k, own b = .out k → ¬ G b) : KO w' pb sv rv own O X :=
  ⟨u.at h.p hp, fun k hk => (h.o k hk).upd u fun b hb => ho b k (h.wn k hk b hb), h.wn, h.pb0, fun b hb => Nat.lt_of_lt_of_le (h.lt b hb) u.sz⟩
theorem KO.kp {w' : World} (h : KO w pb sv rv own O X) (u : Kp w w') : KO w' pb sv rv own O X := h.upd u (fun h => h) fun _ _ _ h => h

/-- append to a field. -/
theorem KO.push (h : KO w pb sv rv own O X) {k : Nat} (hk : k < 12) {tb : Nat} {x z : Value} {tt : TypeId} (ht : w.heap[tb]? = some (Bl [x] tt)) (hx : isLeaf x = true) (hz : isLeaf z = true) {bytes : Nat} (hb : ((O k).l + 1) * bytes ≤ 1099511627776) {Q : World → Prop}
    (hQ : ∀ w' own' v', KO w' pb sv rv own' (up O k v') (up X k (up (X k) (O k).l [x])) → v'.l = (O k).l + 1 → Upd (fun b => b = pb ∨ own b = .out k) w w' → (∀ b, b < w.heap.size → own' b = own b) → (∀ b, own' b ≠ .no → own b ≠ .no ∨ w.heap.size ≤ b) → Q w') :
    ∃ old new, rdx w (O k).ad ((O k).l * 1) old ∧ rdx w (some ⟨tb, 0, none⟩) 1 new ∧ (∀ x, List.Mem x new → isLeaf x = true) ∧ ((O k).l + 1) * bytes ≤ 1099511627776 ∧ canApp w (O k).ad (O k).l (O k).c 1 1 ∧
      ∀ b c w', AppTo w (O k).ad (O k).l (O k).c 1 1 old new [z] (ot k) b c w' → stx w' ((Addr.mk pb 2 none).add k) [Value.slice b ((O k).l + 1) c] 0 Q := by
  have hpl := lt_of_look h.p
  refine app_row (row := [x]) (h.o k hk) ht rfl (by simpa using hx) rfl (by simpa using hz) hb (fun b cs w1 hvb hcap hcs p hR => ?_) fun cs c w1 n hR => ?_
  · have hbo := h.wn k hk b hvb
    have hne : pb ≠ b := fun e => by have := h.pb0; rw [e, hbo] at this; cases this
    rw [add_mk]
    refine stx_at _ (p.at h.p hne) (by simp [pCells]; omega) rfl fun w2 p2 => ?_
    rw [Nat.add_zero] at p2
    have he := pCells_set (sv := sv) (rv := rv) (O := O) (v := ⟨(O k).b, (O k).l + 1, (O k).c⟩) hk
    rw [show (Value.slice (O k).ad ((O k).l + 1) (O k).c) = (⟨(O k).b, (O k).l + 1, (O k).c⟩ : LV).val from rfl, he] at p2
    refine hQ w2 own ⟨(O k).b, (O k).l + 1, (O k).c⟩ ⟨p2.at0, fun j hj => ?_, fun j hj b' hb' => ?_, h.pb0, fun b' hb' => by have := h.lt b' hb'; have := p.sz; have := p2.sz; omega⟩ rfl ?_ (fun _ _ => rfl) fun b' hb' => .inl hb'
    · by_cases hjk : j = k
      · subst hjk
        rw [up_same, up_same]
        exact hR.upd p2.upd fun b' hb' hh => by
          have hb'' : (O j).b = some b' := hb'
          rw [hvb] at hb''
          cases hb''
          exact hne hh.symm
      · rw [up_other _ _ hjk, up_other _ _ hjk]
        refine ((h.o j hj).upd p.upd fun b' hb' hh => ?_).upd p2.upd fun b' hb' hh => ?_
        · have := h.wn j hj b' hb'
          simp only [one] at hh
          rw [hh, hbo] at this
          exact hjk (by cases this; rfl)
        · have := h.wn j hj b' hb'
          simp only [one] at hh
          rw [hh, h.pb0] at this
          cases this
    · by_cases hjk : j = k
      · subst hjk; rw [up_same] at hb'; exact h.wn j hj b' hb'
      · rw [up_other _ _ hjk] at hb'; exact h.wn j hj b' hb'
    · exact (p.upd.mono fun x hx => by simp only [one] at hx; subst hx; exact .inr hbo).trans (p2.upd.mono fun x hx => .inl hx)
  · have hno : own w.heap.size = .no := Classical.byContradiction fun hh => by have := h.lt _ hh; omega
    rw [add_mk]
    refine stx_at _ (n.ext.at h.p) (by simp [pCells]; omega) rfl fun w2 p2 => ?_
    rw [Nat.add_zero] at p2
    have he := pCells_set (sv := sv) (rv := rv) (O := O) (v := ⟨some w.heap.size, (O k).l + 1, c⟩) hk
    rw [show (Value.slice (some ⟨w.heap.size, 0, none⟩) ((O k).l + 1) c) = (⟨some w.heap.size, (O k).l + 1, c⟩ : LV).val from rfl, he] at p2
    have zn := n.sz
    have z2 := p2.sz
    refine hQ w2 (up own w.heap.size (.out k)) ⟨some w.heap.size, (O k).l + 1, c⟩ ⟨p2.at0, fun j hj => ?_, fun j hj b' hb' => ?_, ?_, fun b' hb' => ?_⟩ rfl ?_ (fun b' hb' => up_other _ _ (by omega)) fun b' hb' => ?_
    · by_cases hjk : j = k
      · subst hjk
        rw [up_same, up_same]
        exact hR.upd p2.upd fun b' hb' hh => by
          cases hb'
          simp only [one] at hh
          omega
      · rw [up_other _ _ hjk, up_other _ _ hjk]
        refine ((h.o j hj).upd n.ext fun _ _ h => h).upd p2.upd fun b' hb' hh => ?_
        have := h.wn j hj b' hb'
        simp only [one] at hh
        rw [hh, h.pb0] at this
        cases this
    · by_cases hjk : j = k
      · subst hjk; rw [up_same] at hb'; cases hb'; rw [up_same]
      · rw [up_other _ _ hjk] at hb'
        have hw := h.wn j hj b' hb'
        have := h.lt b' (by rw [hw]; simp)
        rw [up_other _ _ (by omega)]; exact hw
    · rw [up_other _ _ (by omega)]; exact h.pb0
    · by_cases hbs : b' = w.heap.size
      · omega
      · rw [up_other _ _ hbs] at hb'; have := h.lt b' hb'; omega
    · exact (Kp.upd n.ext).trans (p2.upd.mono fun x hx => .inl hx)
    · by_cases hbs : b' = w.heap.size
      · right; omega
      · rw [up_other _ _ hbs] at hb'; exact .inl hb'
end

def kX (L : Nat → Nat → LV) (S : Nat → Nat → Int) : Nat → Nat → List Value := fun k i => if k < 9 then [(L k i).val] else [I (S (k - 9) i)]
/-- The keep: its marked lists hold their marks. -/
structure KF (w : World) (pb : Nat) (sv rv : Value) (own : Nat → Own) (O : Nat → LV) (L : Nat → Nat → LV) (S : Nat → Nat → Int) : Prop where
  ko : KO w pb sv rv own O (kX L S)
  lf : ∀ T, T < 3 → ∀ i, i < (O (6 + T)).l → Rw w (L (6 + T) i) (szT T) (tyT T) (fun _ => mkT T (S T i)) ∧ ∀ b, (L (6 + T) i).b = some b → own b = .fu T (S T i)
  ls : ∀ T, T < 3 → (O (9 + T)).l = (O (6 + T)).l
  sb : ∀ T, T < 3 → ∀ i, i < (O (9 + T)).l → S T i < 1000003 + ((O (9 + T)).l : Int)
  lb : ∀ T, T < 3 → ∀ i, i < (O (6 + T)).l → (L (6 + T) i).l ≤ 100000
theorem KF.upd {w w' : World} {pb : Nat} {sv rv : Value} {own : Nat → Own} {O : Nat → LV} {L : Nat → Nat → LV} {S : Nat → Nat → Int} {G : Nat → Prop} (h : KF w pb sv rv own O L S) (u : Upd G w w') (hp : ¬ G pb) (ho : ∀ b, own b ≠ .no → ¬ G b) : KF w' pb sv rv own O L S :=
  ⟨h.ko.upd u hp fun b k hb => ho b (by rw [hb]; simp), fun T hT i hi => ⟨((h.lf T hT i hi).1).upd u fun b hb => ho b (by rw [(h.lf T hT i hi).2 b hb]; simp), (h.lf T hT i hi).2⟩, h.ls, h.sb, h.lb⟩
theorem KF.kp {w w' : World} {pb : Nat} {sv rv : Value} {own : Nat → Own} {O : Nat → LV} {L : Nat → Nat → LV} {S : Nat → Nat → Int} (h : KF w pb sv rv own O L S) (u : Kp w w') : KF w' pb sv rv own O L S := h.upd u (fun h => h) fun _ _ h => h
end Go.Wx
end
section
/- Marking a list: what holds on. -/
set_option linter.unusedVariables false
set_option maxRecDepth 100000
namespace Go.Wx
open Go

theorem kX_lo {L : Nat → Nat → LV} {S : Nat → Nat → Int} {k i : Nat} (h : k < 9) : kX L S k i = [(L k i).val] := by rw [kX, if_pos h]
theorem kX_hi {L : Nat → Nat → LV} {S : Nat → Nat → Int} {k i : Nat} (h : ¬ k < 9) : kX L S k i = [I (S (k - 9) i)] := by rw [kX, if_neg h]
section
variable {w w' : World} {pb : Nat} {sv rv : Value} {own : Nat → Own} {O : Nat → LV} {L : Nat → Nat → LV} {S : Nat → Nat → Int}

/-- A row of marks is written to a block of marks. -/
theorem Rw.row {v : LV} {sz b : Nat} {ty : TypeId} {row cs : List Value} (hsz : 0 < sz) (hr : row.length = sz) (hl : ∀ x ∈ row, isLeaf x = true) (h : Rw w v sz ty fun _ => row) (hcs : w.heap[b]? = some (Bl cs ty)) {i : Nat} (hi : i * sz + sz ≤ cs.length)
    (p : Put w b (Bl (setL cs (i * sz) row) ty) w') : Rw w' v sz ty fun _ => row := by
  by_cases hv : v.b = some b
  · obtain ⟨cs', h1, h2, _⟩ := h.2.2 b hv
    rw [hcs] at h1
    cases h1
    have hic : i < v.c := by
      rcases Nat.lt_or_ge i v.c with h | h
      · exact h
      · have := Nat.mul_le_mul_right sz h; omega
    have := h.set hv hr hl hic hcs p v.l h.1 (.inl (Nat.le_refl _))
    refine this.congr fun j _ => ?_
    unfold up
    split <;> rfl
  · exact h.upd p.upd fun b' hb' hh => hv (by simp only [one] at hh; rw [hb', hh])
theorem KF.row (h : KF w pb sv rv own O L S) {T b i : Nat} {m : Int} {cs : List Value} (hT : T < 3) (ho : own b = .fu T m) (hcs : w.heap[b]? = some (Bl cs (tyT T))) (hi : i * szT T + szT T ≤ cs.length)
    (p : Put w b (Bl (setL cs (i * szT T) (mkT T m)) (tyT T)) w') : KF w' pb sv rv own O L S := by
  refine ⟨h.ko.upd p.upd (fun hh => ?_) fun b' k hb' hh => ?_, fun T' hT' i' hi' => ⟨?_, (h.lf T' hT' i' hi').2⟩, h.ls, h.sb, h.lb⟩
  · have := h.ko.pb0; simp only [one] at hh; rw [hh, ho] at this; cases this
  · simp only [one] at hh; rw [hh, ho] at hb'; cases hb'
  · obtain ⟨h1, h2⟩ := h.lf T' hT' i' hi'
    by_cases hb : (L (6 + T') i').b = some b
    · have := h2 b hb
      rw [ho] at this
      injection this with e1 e2
      subst e1
      rw [← e2] at h1 ⊢
      exact Rw.row (szT_pos _) (mkT_len _ _) (mkT_leaf _ _) h1 hcs hi p
    · exact h1.upd p.upd fun b' hb' hh => hb (by simp only [one] at hh; rw [hb', hh])
theorem KF.give (h : KF w pb sv rv own O L S) {b : Nat} {o : Own} (hb : own b = .no) (hlt : b < w.heap.size) (hne : b ≠ pb) : KF w pb sv rv (up own b o) O L S := by
  have same : ∀ b', own b' ≠ .no → up own b o b' = own b' := fun b' hb' => up_other _ _ fun e => hb' (by rw [e, hb])
  refine ⟨⟨h.ko.p, h.ko.o, fun k hk b' hb' => ?_, ?_, fun b' hb' => ?_⟩, fun T hT i hi => ⟨(h.lf T hT i hi).1, fun b' hb' => ?_⟩, h.ls, h.sb, h.lb⟩
  · have := h.ko.wn k hk b' hb'
    rw [same b' (by rw [this]; simp)]; exact this
  · rw [up_other _ _ (fun e => hne e.symm)]; exact h.ko.pb0
  · by_cases e : b' = b
    · omega
    · rw [up_other _ _ e] at hb'; exact h.ko.lt b' hb'
  · have := (h.lf T hT i hi).2 b' hb'
    rw [same b' (by rw [this]; simp)]; exact this
/-- A list that was left is nobody's other. -/
theorem KF.turn (h : KF w pb sv rv own O L S) {b k i : Nat} {o : Own} (hb : own b = .li k i) : KF w pb sv rv (up own b o) O L S := by
  have hlt := h.ko.lt b (by rw [hb]; simp)
  have hne : b ≠ pb := fun e => by have := h.ko.pb0; rw [← e, hb] at this; cases this
  refine ⟨⟨h.ko.p, h.ko.o, fun k' hk b' hb' => ?_, ?_, fun b' hb' => ?_⟩, fun T hT i' hi => ⟨(h.lf T hT i' hi).1, fun b' hb' => ?_⟩, h.ls, h.sb, h.lb⟩
  · have := h.ko.wn k' hk b' hb'
    rw [up_other _ _ fun e => by rw [e, hb] at this; cases this]; exact this
  · rw [up_other _ _ (fun e => hne e.symm)]; exact h.ko.pb0
  · by_cases e : b' = b
    · omega
    · rw [up_other _ _ e] at hb'; exact h.ko.lt b' hb'
  · have := (h.lf T hT i' hi).2 b' hb'
    rw [up_other _ _ fun e => by rw [e, hb] at this; cases this]; exact this

/-- What a marking may turn: the pair's struct, the fields' arrays, the marked lists. -/
def KG (pb : Nat) (own : Nat → Own) : Nat → Prop := fun b => b = pb ∨ (∃ k, own b = .out k) ∨ ∃ T m, own b = .fu T m
structure KS (pb d : Nat) (w w' : World) (own own' : Nat → Own) (O O' : Nat → LV) (L L' : Nat → Nat → LV) : Prop where
  u : Upd (KG pb own) w w'
  oo : ∀ b, b < w.heap.size → own' b = own b
  on : ∀ b, own' b ≠ .no → own b ≠ .no ∨ w.heap.size ≤ b
  q : ∀ k, k < 6 → O' k = O k ∧ L' k = L k
  n : ∀ T, T < 3 → (O' (9 + T)).l ≤ (O (9 + T)).l + d ∧ (O (9 + T)).l ≤ (O' (9 + T)).l
theorem KS.trans {d d1 : Nat} {w1 : World} {own1 own' : Nat → Own} {O1 O' : Nat → LV} {L1 L' : Nat → Nat → LV} (h : KS pb d w w1 own own1 O O1 L L1) (h1 : KS pb d1 w1 w' own1 own' O1 O' L1 L') : KS pb (d + d1) w w' own own' O O' L L' := by
  refine ⟨h.u.tr h1.u fun b hb => ?_, fun b hb => ?_, fun b hb => ?_, fun k hk => ?_, fun T hT => ?_⟩
  · rcases Nat.lt_or_ge b w.heap.size with hlt | hge
    · left
      unfold KG at hb ⊢
      rw [h.oo b hlt] at hb; exact hb
    · exact .inr hge
  · rw [h1.oo b (Nat.lt_of_lt_of_le hb h.u.sz), h.oo b hb]
  · rcases h1.on b hb with h2 | h2
    · exact h.on b h2
    · right; exact Nat.le_trans h.u.sz h2
  · exact ⟨(h1.q k hk).1.trans (h.q k hk).1, (h1.q k hk).2.trans (h.q k hk).2⟩
  · have := h.n T hT; have := h1.n T hT; omega
theorem KS.of {G : Nat → Prop} (u : Upd G w w') (hG : ∀ b, G b → KG pb own b) : KS pb 0 w w' own own O O L L := ⟨u.mono hG, fun _ _ => rfl, fun b hb => .inl hb, fun _ _ => ⟨rfl, rfl⟩, fun _ _ => ⟨Nat.le_refl _, Nat.le_refl _⟩⟩
theorem KS.kp (u : Kp w w') : KS pb 0 w w' own own O O L L := KS.of u fun _ h => h.elim
/-- A block that is new gets an owner. -/
theorem KS.new {b : Nat} {o : Own} (u : Kp w w') (hb : w.heap.size ≤ b) : KS pb 0 w w' own (up own b o) O O L L := by
  refine ⟨Kp.upd u, fun b' hb' => up_other _ _ (by omega), fun b' hb' => ?_, fun _ _ => ⟨rfl, rfl⟩, fun _ _ => ⟨Nat.le_refl _, Nat.le_refl _⟩⟩
  by_cases e : b' = b
  · right; omega
  · rw [up_other _ _ e] at hb'; exact .inl hb'

/-- A marked list is put into the keep, and its mark. -/
theorem KF.push2 (h : KF w pb sv rv own O L S) {T : Nat} (hT : T < 3) {v : LV} {m : Int} (hv : Rw w v (szT T) (tyT T) fun _ => mkT T m) (hown : ∀ b, v.b = some b → own b = .fu T m) (hm : m < 1000003 + ((O (9 + T)).l : Int) + 1) (hN : (O (9 + T)).l < 1000000) (hvl : v.l ≤ 100000)
    {K : World → Prop} (hK : ∀ w' own' O' L' S', KF w' pb sv rv own' O' L' S' → KS pb 1 w w' own own' O O' L L' → (∀ (x : LV) (T' : Nat) (m' : Int), Rw w x (szT T') (tyT T') (fun _ => mkT T' m') → (∀ b, x.b = some b → own b = .fu T' m') → Rw w' x (szT T') (tyT T') fun _ => mkT T' m') → K w') :
    ∃ a l c, w.cell? ((Addr.mk pb 2 none).add (6 + T)) = some (Value.slice a l c) ∧ atW (w.alloc (Obj.cells (Array.mk [Value.slice v.ad v.l v.c]) (ot (6 + T)))) fun w1 =>
      ∃ old new, rdx w1 a (l * 1) old ∧ rdx w1 (some (Addr.mk w.heap.size 0 none)) 1 new ∧ (∀ x : Value, List.Mem x new → isLeaf x = true) ∧ (l + 1) * 24 ≤ 1099511627776 ∧ canApp w1 a l c 1 1 ∧
        ∀ (b : Option Addr) (c_1 : Nat) (w2 : World), AppTo w1 a l c 1 1 old new [Value.slice none 0 0] (ot (6 + T)) b c_1 w2 → stx w2 ((Addr.mk pb 2 none).add (6 + T)) [Value.slice b (l + 1) c_1] 0 fun w3 =>
          ∃ a l_2 c, w3.cell? ((Addr.mk pb 2 none).add (9 + T)) = some (Value.slice a l_2 c) ∧ atW (w3.alloc (Obj.cells (Array.mk [I m]) 3)) fun w4 =>
            ∃ old new, rdx w4 a (l_2 * 1) old ∧ rdx w4 (some (Addr.mk w3.heap.size 0 none)) 1 new ∧ (∀ x : Value, List.Mem x new → isLeaf x = true) ∧ (l_2 + 1) * 8 ≤ 1099511627776 ∧ canApp w4 a l_2 c 1 1 ∧
              ∀ (b : Option Addr) (c_2 : Nat) (w5 : World), AppTo w4 a l_2 c 1 1 old new [Value.int IntKind.i64 0] 3 b c_2 w5 → stx w5 ((Addr.mk pb 2 none).add (9 + T)) [Value.slice b (l_2 + 1) c_2] 0 K := by
  have hls := h.ls T hT
  refine ⟨_, _, _, h.ko.cell (by omega), atW_new fun w1 n1 => ?_⟩
  refine (h.ko.kp n1.ext).push (k := 6 + T) (by omega) n1.at0 rfl rfl (by omega) fun w3 own3 v3 k3 l3 u3 oo3 on3 => ?_
  have z1 := n1.sz
  have e9 : up O (6 + T) v3 (9 + T) = O (9 + T) := up_other _ _ (by omega)
  have hc := k3.cell (k := 9 + T) (by omega)
  rw [e9] at hc
  refine ⟨_, _, _, hc, atW_new fun w4 n4 => ?_⟩
  have z4 := n4.sz
  have hpush := (k3.kp n4.ext).push (k := 9 + T) (by omega) n4.at0 (x := I m) (z := I 0) rfl rfl (bytes := 8) (by rw [e9]; omega) (Q := K)
  rw [e9] at hpush
  have ho3 : ot (9 + T) = 3 := by
    match T, hT with
    | 0, _ | 1, _ | 2, _ => rfl
  rw [ho3] at hpush
  refine hpush fun w6 own6 v6 k6 l6 u6 oo6 on6 => ?_
  obtain ⟨S', hS'⟩ : ∃ S', S' = fun T' => if T' = T then up (S T) (O (9 + T)).l m else S T' := ⟨_, rfl⟩
  obtain ⟨L', hL'⟩ : ∃ L', L' = up L (6 + T) (up (L (6 + T)) (O (6 + T)).l v) := ⟨_, rfl⟩
  have hsz3 := u3.sz
  have hsz6 := u6.sz
  have oo : ∀ b, b < w.heap.size → own6 b = own b := fun b hb => by rw [oo6 b (by omega), oo3 b (by omega)]
  have hlt := h.ko.lt
  -- what a marked list has
  have keepR : ∀ {x : LV} {T' : Nat} {m' : Int}, Rw w x (szT T') (tyT T') (fun _ => mkT T' m') → (∀ b, x.b = some b → own b = .fu T' m') → Rw w6 x (szT T') (tyT T') (fun _ => mkT T' m') ∧ ∀ b, x.b = some b → own6 b = .fu T' m' := by
    intro x T' m' hx hxo
    refine ⟨(((hx.upd n1.ext fun _ _ h => h).upd u3 fun b hb hh => ?_).upd n4.ext fun _ _ h => h).upd u6 fun b hb hh => ?_, fun b hb => ?_⟩
    · have := hxo b hb
      rcases hh with hh | hh
      · rw [hh, h.ko.pb0] at this; cases this
      · rw [this] at hh; cases hh
    · have h1 := hxo b hb
      have h2 := hlt b (by rw [h1]; simp)
      rcases hh with hh | hh
      · rw [hh, h.ko.pb0] at h1; cases h1
      · rw [oo3 b (by omega), h1] at hh; cases hh
    · have h1 := hxo b hb
      rw [oo b (hlt b (by rw [h1]; simp))]; exact h1
  have hXe : ∀ k i, up (up (kX L S) (6 + T) (up (kX L S (6 + T)) (O (6 + T)).l [Value.slice v.ad v.l v.c])) (9 + T) (up (up (kX L S) (6 + T) (up (kX L S (6 + T)) (O (6 + T)).l [Value.slice v.ad v.l v.c]) (9 + T)) (O (9 + T)).l [I m]) k i = kX L' S' k i := by
    intro k i
    subst hS' hL'
    by_cases h1 : k = 9 + T
    · subst h1
      rw [up_same, up_other _ _ (by omega : 9 + T ≠ 6 + T), kX_hi (by omega)]
      by_cases hi : i = (O (9 + T)).l
      · subst hi
        rw [up_same, show 9 + T - 9 = T by omega]
        rw [if_pos rfl, up_same]
      · rw [up_other _ _ hi, kX_hi (by omega), show 9 + T - 9 = T by omega]
        rw [if_pos rfl, up_other _ _ hi]
    · rw [up_other _ _ h1]
      by_cases h2 : k = 6 + T
      · subst h2
        rw [up_same, kX_lo (by omega), up_same]
        by_cases hi : i = (O (6 + T)).l
        · subst hi; rw [up_same, up_same]
        · rw [up_other _ _ hi, up_other _ _ hi, kX_lo (by omega)]
      · rw [up_other _ _ h2]
        by_cases hk9 : k < 9
        · rw [kX_lo hk9, kX_lo hk9, up_other _ _ h2]
        · rw [kX_hi hk9, kX_hi hk9]
          rw [if_neg (by omega)]
  have k6' : KO w6 pb sv rv own6 (up (up O (6 + T) v3) (9 + T) v6) (kX L' S') :=
    ⟨k6.p, fun k hk => (k6.o k hk).congr fun i _ => hXe k i, k6.wn, k6.pb0, k6.lt⟩
  have l3' : v3.l = (O (6 + T)).l + 1 := l3
  have l6' : v6.l = (O (9 + T)).l + 1 := l6
  refine hK w6 own6 (up (up O (6 + T) v3) (9 + T) v6) L' S' ⟨k6', fun T' hT' i hi => ?_, fun T' hT' => ?_, fun T' hT' i hi => ?_, fun T' hT' i hi => ?_⟩ ⟨?_, oo, fun b hb => ?_, fun k hk => ⟨?_, ?_⟩, fun T' hT' => ?_⟩ ?_
  · rw [up_other _ _ (by omega : 6 + T' ≠ 9 + T)] at hi
    subst hS' hL'
    by_cases hTT : T' = T
    · subst hTT
      rw [up_same] at hi
      dsimp only
      rw [if_pos rfl, up_same]
      by_cases hil : i = (O (6 + T')).l
      · subst hil
        rw [hls, up_same, up_same]
        exact keepR hv hown
      · rw [hls, up_other _ _ hil, up_other _ _ hil]
        have := h.lf T' hT i (by omega)
        exact keepR this.1 this.2
    · rw [up_other _ _ (by omega : 6 + T' ≠ 6 + T)] at hi
      dsimp only
      rw [if_neg hTT, up_other _ _ (by omega : 6 + T' ≠ 6 + T)]
      have := h.lf T' hT' i hi
      exact keepR this.1 this.2
  · by_cases hTT : T' = T
    · subst hTT
      rw [up_same, up_other _ _ (by omega : 6 + T' ≠ 9 + T'), up_same, l3', l6', hls]
    · rw [up_other _ _ (by omega : 9 + T' ≠ 9 + T), up_other _ _ (by omega : 9 + T' ≠ 6 + T), up_other _ _ (by omega : 6 + T' ≠ 9 + T), up_other _ _ (by omega : 6 + T' ≠ 6 + T)]
      exact h.ls T' hT'
  · subst hS'
    dsimp only
    by_cases hTT : T' = T
    · subst hTT
      rw [up_same, l6'] at hi
      rw [if_pos rfl, up_same, l6']
      by_cases hil : i = (O (9 + T')).l
      · subst hil; rw [up_same]; omega
      · rw [up_other _ _ hil]
        have := h.sb T' hT i (by omega)
        omega
    · rw [up_other _ _ (by omega : 9 + T' ≠ 9 + T), up_other _ _ (by omega : 9 + T' ≠ 6 + T)] at hi ⊢
      rw [if_neg hTT]
      exact h.sb T' hT' i hi
  · rw [up_other _ _ (by omega : 6 + T' ≠ 9 + T)] at hi
    subst hL'
    by_cases hTT : T' = T
    · subst hTT
      rw [up_same] at hi ⊢
      by_cases hil : i = (O (6 + T')).l
      · subst hil; rw [up_same]; exact hvl
      · rw [up_other _ _ hil]; exact h.lb T' hT i (by omega)
    · rw [up_other _ _ (by omega : 6 + T' ≠ 6 + T)] at hi
      rw [up_other _ _ (by omega : 6 + T' ≠ 6 + T)]
      exact h.lb T' hT' i hi
  · refine (((Kp.upd n1.ext).tr u3 fun b hb => ?_).trans (Kp.upd n4.ext)).tr u6 fun b hb => ?_
    · left
      rcases hb with hb | hb
      · exact .inl hb
      · exact .inr (.inl ⟨_, hb⟩)
    · rcases Nat.lt_or_ge b w.heap.size with hbl | hbl
      · left
        rcases hb with hb | hb
        · exact .inl hb
        · rw [oo3 b (by omega)] at hb; exact .inr (.inl ⟨_, hb⟩)
      · exact .inr hbl
  · rcases on6 b hb with h1 | h1
    · rcases on3 b h1 with h2 | h2
      · exact .inl h2
      · right; omega
    · right; omega
  · rw [up_other _ _ (by omega), up_other _ _ (by omega)]
  · subst hL'; rw [up_other _ _ (by omega)]
  · by_cases hTT : T' = T
    · subst hTT; rw [up_same, l6']; omega
    · rw [up_other _ _ (by omega : 9 + T' ≠ 9 + T), up_other _ _ (by omega : 9 + T' ≠ 6 + T)]; omega
  · exact fun x T' m' hx hxo => (keepR hx hxo).1
end
end Go.Wx
end
section
/- Contracts of marking. -/
set_option linter.unusedVariables false
set_option maxRecDepth 100000
namespace Go.Wx
open Go

section
variable {w w' : World} {pb : Nat} {sv rv : Value} {own : Nat → Own} {O : Nat → LV} {L : Nat → Nat → LV} {S : Nat → Nat → Int}

theorem c96 (h : KF w pb sv rv own O L S) {v : LV} {F : Nat → List Value} (hv : Rw w v 1 3 F) (hown : ∀ b, v.b = some b → own b = .fu 0 (1000003 + ((O 9).l : Int))) (hN : (O 9).l ≤ 100000) (hvl : v.l ≤ 2000) :
    Ret PR 96 [.pointer (some ⟨pb, 2, none⟩), v.val] w fun r w' => r = .tuple (Array.mk []) ∧ ∃ own' O' L' S', KF w' pb sv rv own' O' L' S' ∧ KS pb 8 w w' own own' O O' L L' := by
  refine Ret.of ((S96_eq _ _ _ _ w _).mpr ?_)
  unfold S96
  refine ⟨_, _, _, h.ko.cell (k := 9) (by omega), ?_⟩
  rw [wrap_id (x := 1000003 + ((O 9).l : Int)) (by omega) (by omega)]
  obtain ⟨m, hm⟩ : ∃ m : Int, m = 1000003 + ((O 9).l : Int) := ⟨_, rfl⟩
  rw [← hm] at hown ⊢
  have hml : ∀ x ∈ mkT 0 m, isLeaf x = true := mkT_leaf _ _
  refine loop_rule (fun i : Nat => ((i : Int), ())) (fun i W => i ≤ v.l ∧ KF W pb sv rv own O L S ∧ Rw W v 1 3 (fun j => if j < i then mkT 0 m else F j) ∧ Upd (KG pb own) w W) (fun i => v.l - i) 0 rfl ⟨by omega, h, hv.congr fun j _ => by rw [if_neg (by omega)], Upd.refl⟩ ?_
  rintro i W K ⟨hi, hF, hR, u⟩ hK
  dsimp only
  refine ifB_d (fun hlt => ?_) fun hlt => ?_
  · have hlt : i < v.l := by omega
    obtain ⟨vb, vl, vc⟩ := v
    have hlc := hR.1
    cases vb with
    | none => have := hR.2.1 rfl; dsimp only at hlt hlc this; omega
    | some b =>
      obtain ⟨cs, h1, h2, h3, h4⟩ := hR.2.2 b rfl
      dsimp only at hlt hlc h2
      refine ⟨⟨by omega, by omega⟩, ?_⟩
      show stx W ((Addr.mk b 0 none).add _) _ 0 _
      rw [add_mk, Int.toNat_natCast, Nat.zero_add]
      have hlen : i * 1 + 1 ≤ cs.length := by omega
      refine stx_at (mkT 0 m) h1 (by rw [mkT_len]; exact hlen) rfl fun W2 p2 => ?_
      rw [Nat.add_zero] at p2
      rw [wrap_id (by omega) (by omega)]
      refine hK (i + 1) W2 ⟨by dsimp only; omega, hF.row (T := 0) (by omega) (hown b rfl) h1 hlen p2, ?_, u.trans (p2.upd.mono fun x hx => by simp only [one] at hx; subst hx; exact .inr (.inr ⟨_, _, hown x rfl⟩))⟩ (by dsimp only; omega)
      refine (hR.set (sz := 1) (F := fun j => if j < i then mkT 0 m else F j) rfl (mkT_len 0 m) hml (by show i < vc; omega) h1 p2 vl hlc (.inl (Nat.le_refl _))).congr fun j hj => ?_
      unfold up
      by_cases hji : j = i
      · rw [if_pos hji, if_pos (by omega)]
      · rw [if_neg hji]
        dsimp only
        by_cases hjl : j < i
        · rw [if_pos hjl, if_pos (by omega)]
        · rw [if_neg hjl, if_neg (by omega)]
  have hR : Rw W v 1 3 fun _ => mkT 0 m := hR.congr fun j hj => by rw [if_pos (by omega)]
  refine hF.push2 (T := 0) (by omega) hR hown (by show m < 1000003 + ((O 9).l : Int) + 1; omega) (by show (O 9).l < 1000000; omega) (by omega) fun W2 own2 O2 L2 S2 f2 s2 k2 => ?_
  have sW : KS pb 0 w W own own O O L L := KS.of u fun _ h => h
  have hvo : ∀ b, v.b = some b → own b = .fu 0 m ∧ b < w.heap.size := fun b hb => ⟨hown b hb, h.ko.lt b (by rw [hown b hb]; simp)⟩
  have pw : ∀ e : Nat, e ≤ 7 → (2 ^ e ≤ 80 ↔ e ≤ 6) ∧ 1 ≤ 2 ^ e ∧ 2 ^ e ≤ 128 := by
    intro e he
    match e, he with
    | 0, _ | 1, _ | 2, _ | 3, _ | 4, _ | 5, _ | 6, _ | 7, _ => simp
  have hR2 : Rw W2 v 1 3 fun _ => mkT 0 m := k2 v 0 m hR hown
  refine loop_rule (fun g : Nat × (Nat → Own) × (Nat → LV) × (Nat → Nat → LV) × (Nat → Nat → Int) => (((2 ^ g.1 : Nat) : Int), ())) (fun g V => g.1 ≤ 7 ∧ KF V pb sv rv g.2.1 g.2.2.1 g.2.2.2.1 g.2.2.2.2 ∧ KS pb (1 + g.1) w V own g.2.1 O g.2.2.1 L g.2.2.2.1 ∧ Rw V v 1 3 fun _ => mkT 0 m) (fun g => 8 - g.1) (0, own2, O2, L2, S2) rfl ⟨by dsimp only; omega, f2, by have := sW.trans s2; rw [Nat.zero_add] at this; exact this, hR2⟩ ?_
  rintro ⟨e, own3, O3, L3, S3⟩ V K3 ⟨he, f3, s3, hR3⟩ hK3
  dsimp only at he f3 s3 hR3 hK3 ⊢
  obtain ⟨pw1, pw2, pw3⟩ := pw e he
  refine ifB_d (fun hle => ?_) fun hle => ?_
  · have he6 : e ≤ 6 := pw1.1 (by omega)
    have hvo3 : ∀ b, v.b = some b → own3 b = .fu 0 m ∧ b < V.heap.size := fun b hb => ⟨by rw [s3.oo b (hvo b hb).2]; exact (hvo b hb).1, Nat.lt_of_lt_of_le (hvo b hb).2 s3.u.sz⟩
    refine loop_rule (fun g : Nat × LV × (Nat → Own) => ((g.2.1.ad, g.2.1.l, g.2.1.c), (g.1 : Int), ())) (fun g U => g.1 ≤ 2 ^ e ∧ KF U pb sv rv g.2.2 O3 L3 S3 ∧ KS pb 0 V U own3 g.2.2 O3 O3 L3 L3 ∧ Rw U v 1 3 (fun _ => mkT 0 m) ∧ Rw U g.2.1 1 3 (fun _ => mkT 0 m) ∧ (∀ b, g.2.1.b = some b → g.2.2 b = .fu 0 m ∧ b < U.heap.size) ∧ g.2.1.l = v.l + g.1) (fun g => 2 ^ e - g.1) (0, v, own3) rfl ⟨by dsimp only; omega, f3, KS.kp kp0, hR3, hR3, hvo3, rfl⟩ ?_
    rintro ⟨j, far, own4⟩ U K4 ⟨hj, f4, s4, hR4, hfar, hfo, hfl⟩ hK4
    dsimp only at hj f4 s4 hR4 hfar hfo hfl hK4 ⊢
    refine ifB_d (fun hlt4 => ?_) fun hlt4 => ?_
    · refine atW_new fun U1 n1 => ?_
      have f5 := f4.kp n1.ext
      have z1 := n1.sz
      rw [wrap_id (x := (j : Int) + 1) (by omega) (by omega)]
      refine app_row (row := mkT 0 m) (hfar.upd n1.ext fun _ _ h => h) n1.at0 (mkT_len _ _) hml (z := [I 0]) rfl (by simp [isLeaf]) (by omega) (fun b cs U2 hvb hcap hcs p hR' => ?_) fun cs cc U2 n2 hR' => ?_
      · obtain ⟨o1, o2⟩ := hfo b hvb
        have hlen : far.l * 1 + 1 ≤ cs.length := by
          obtain ⟨cs', g1, g2, _⟩ := (hfar.upd n1.ext fun _ _ h => h).2.2 b hvb
          rw [hcs] at g1
          cases g1
          omega
        refine hK4 (j + 1, ⟨far.b, far.l + 1, far.c⟩, own4) U2 ⟨by dsimp only; omega, f5.row (T := 0) (by omega) o1 hcs hlen p, ?_, (hR4.upd n1.ext fun _ _ h => h).row (by omega) (mkT_len 0 m) hml hcs hlen p, ?_, fun b' hb' => ?_, by dsimp only; omega⟩ (by dsimp only; omega)
        · exact s4.trans ((KS.kp n1.ext).trans (KS.of p.upd fun x hx => by simp only [one] at hx; subst hx; exact .inr (.inr ⟨_, _, o1⟩)))
        · exact hR'.congr fun i _ => by unfold up; split <;> rfl
        · have := hfo b' hb'; have := p.sz; exact ⟨(hfo b' hb').1, by omega⟩
      · have z2 := n2.sz
        have hno : own4 U1.heap.size = .no := Classical.byContradiction fun hh => by have := f5.ko.lt _ hh; omega
        have hpl := lt_of_look f5.ko.p
        refine hK4 (j + 1, ⟨some U1.heap.size, far.l + 1, cc⟩, up own4 U1.heap.size (.fu 0 m)) U2 ⟨by dsimp only; omega, (f5.kp n2.ext).give hno (by omega) (by omega), ?_, (hR4.upd n1.ext fun _ _ h => h).upd n2.ext fun _ _ h => h, ?_, fun b' hb' => ?_, by dsimp only; omega⟩ (by dsimp only; omega)
        · exact s4.trans (KS.new (n1.ext.trans n2.ext) (by omega))
        · exact hR'.congr fun i _ => by unfold up; split <;> rfl
        · cases hb'; exact ⟨up_same _ _ _, by omega⟩
    · have hje : j = 2 ^ e := by omega
      have hls9 : (O3 9).l ≤ (O 9).l + (1 + e) := (s3.n 0 (by omega)).1
      -- the mark is no more than what is next
      have hge : (O 9).l ≤ (O3 9).l := (s3.n 0 (by omega)).2
      refine f4.push2 (T := 0) (by omega) hfar (fun b hb => (hfo b hb).1) (by show m < 1000003 + ((O3 9).l : Int) + 1; omega) (by show (O3 9).l < 1000000; omega) (by omega) fun U2 own6 O6 L6 S6 f6 s6 k6 => ?_
      have hw2 : IntKind.i64.wrap (((2 ^ e : Nat) : Int) + ((2 ^ e : Nat) : Int)) = ((2 ^ (e + 1) : Nat) : Int) := by
        rw [wrap_id (by omega) (by omega), Nat.pow_succ]; omega
      rw [hw2]
      refine hK3 (e + 1, own6, O6, L6, S6) U2 ⟨by dsimp only; omega, f6, ?_, ?_⟩ (by dsimp only; omega)
      · have := (s3.trans s4).trans s6
        rw [show 1 + e + 0 + 1 = 1 + (e + 1) by omega] at this
        exact this
      · exact k6 v 0 m hR4 fun b hb => by rw [s4.oo b (hvo3 b hb).2]; exact (hvo3 b hb).1
  · have he7 : e = 7 := by
      rcases Nat.lt_or_ge e 7 with h7 | h7
      · exact absurd (pw1.2 (by omega)) (by omega)
      · omega
    subst he7
    exact ⟨rfl, own3, O3, L3, S3, f3, s3⟩

theorem c97 (h : KF w pb sv rv own O L S) {v : LV} {F : Nat → List Value} (hv : Rw w v 3 152 F) (hown : ∀ b, v.b = some b → own b = .fu 1 (1000003 + ((O 10).l : Int))) (hN : (O 10).l ≤ 100000) (hvl : v.l ≤ 2000) :
    Ret PR 97 [.pointer (some ⟨pb, 2, none⟩), v.val] w fun r w' => r = .tuple (Array.mk []) ∧ ∃ own' O' L' S', KF w' pb sv rv own' O' L' S' ∧ KS pb 8 w w' own own' O O' L L' := by
  refine Ret.of ((S97_eq _ _ _ _ w _).mpr ?_)
  unfold S97
  refine ⟨_, _, _, h.ko.cell (k := 10) (by omega), ?_⟩
  rw [wrap_id (x := 1000003 + ((O 10).l : Int)) (by omega) (by omega)]
  obtain ⟨m, hm⟩ : ∃ m : Int, m = 1000003 + ((O 10).l : Int) := ⟨_, rfl⟩
  rw [← hm] at hown ⊢
  have hml : ∀ x ∈ mkT 1 m, isLeaf x = true := mkT_leaf _ _
  refine loop_rule (fun i : Nat => ((i : Int), ())) (fun i W => i ≤ v.l ∧ KF W pb sv rv own O L S ∧ Rw W v 3 152 (fun j => if j < i then mkT 1 m else F j) ∧ Upd (KG pb own) w W) (fun i => v.l - i) 0 rfl ⟨by omega, h, hv.congr fun j _ => by rw [if_neg (by omega)], Upd.refl⟩ ?_
  rintro i W K ⟨hi, hF, hR, u⟩ hK
  dsimp only
  refine ifB_d (fun hlt => ?_) fun hlt => ?_
  · have hlt : i < v.l := by omega
    obtain ⟨vb, vl, vc⟩ := v
    have hlc := hR.1
    cases vb with
    | none => have := hR.2.1 rfl; dsimp only at hlt hlc this; omega
    | some b =>
      obtain ⟨cs, h1, h2, h3, h4⟩ := hR.2.2 b rfl
      dsimp only at hlt hlc h2
      refine ⟨⟨by omega, by omega⟩, ?_⟩
      show stx W ((Addr.mk b 0 none).add _) _ 0 _
      rw [add_mk, Int.toNat_natCast, Nat.zero_add]
      have hlen : i * 3 + 3 ≤ cs.length := by omega
      refine stx_at (mkT 1 m) h1 (by rw [mkT_len]; exact hlen) rfl fun W2 p2 => ?_
      rw [Nat.add_zero] at p2
      rw [wrap_id (by omega) (by omega)]
      refine hK (i + 1) W2 ⟨by dsimp only; omega, hF.row (T := 1) (by omega) (hown b rfl) h1 hlen p2, ?_, u.trans (p2.upd.mono fun x hx => by simp only [one] at hx; subst hx; exact .inr (.inr ⟨_, _, hown x rfl⟩))⟩ (by dsimp only; omega)
      refine (hR.set (sz := 3) (F := fun j => if j < i then mkT 1 m else F j) rfl (mkT_len 1 m) hml (by show i < vc; omega) h1 p2 vl hlc (.inl (Nat.le_refl _))).congr fun j hj => ?_
      unfold up
      by_cases hji : j = i
      · rw [if_pos hji, if_pos (by omega)]
      · rw [if_neg hji]
        dsimp only
        by_cases hjl : j < i
        · rw [if_pos hjl, if_pos (by omega)]
        · rw [if_neg hjl, if_neg (by omega)]
  have hR : Rw W v 3 152 fun _ => mkT 1 m := hR.congr fun j hj => by rw [if_pos (by omega)]
  refine hF.push2 (T := 1) (by omega) hR hown (by show m < 1000003 + ((O 10).l : Int) + 1; omega) (by show (O 10).l < 1000000; omega) (by omega) fun W2 own2 O2 L2 S2 f2 s2 k2 => ?_
  have sW : KS pb 0 w W own own O O L L := KS.of u fun _ h => h
  have hvo : ∀ b, v.b = some b → own b = .fu 1 m ∧ b < w.heap.size := fun b hb => ⟨hown b hb, h.ko.lt b (by rw [hown b hb]; simp)⟩
  have pw : ∀ e : Nat, e ≤ 7 → (2 ^ e ≤ 80 ↔ e ≤ 6) ∧ 1 ≤ 2 ^ e ∧ 2 ^ e ≤ 128 := by
    intro e he
    match e, he with
    | 0, _ | 1, _ | 2, _ | 3, _ | 4, _ | 5, _ | 6, _ | 7, _ => simp
  have hR2 : Rw W2 v 3 152 fun _ => mkT 1 m := k2 v 1 m hR hown
  refine loop_rule (fun g : Nat × (Nat → Own) × (Nat → LV) × (Nat → Nat → LV) × (Nat → Nat → Int) => (((2 ^ g.1 : Nat) : Int), ())) (fun g V => g.1 ≤ 7 ∧ KF V pb sv rv g.2.1 g.2.2.1 g.2.2.2.1 g.2.2.2.2 ∧ KS pb (1 + g.1) w V own g.2.1 O g.2.2.1 L g.2.2.2.1 ∧ Rw V v 3 152 fun _ => mkT 1 m) (fun g => 8 - g.1) (0, own2, O2, L2, S2) rfl ⟨by dsimp only; omega, f2, by have := sW.trans s2; rw [Nat.zero_add] at this; exact this, hR2⟩ ?_
  rintro ⟨e, own3, O3, L3, S3⟩ V K3 ⟨he, f3, s3, hR3⟩ hK3
  dsimp only at he f3 s3 hR3 hK3 ⊢
  obtain ⟨pw1, pw2, pw3⟩ := pw e he
  refine ifB_d (fun hle => ?_) fun hle => ?_
  · have he6 : e ≤ 6 := pw1.1 (by omega)
    have hvo3 : ∀ b, v.b = some b → own3 b = .fu 1 m ∧ b < V.heap.size := fun b hb => ⟨by rw [s3.oo b (hvo b hb).2]; exact (hvo b hb).1, Nat.lt_of_lt_of_le (hvo b hb).2 s3.u.sz⟩
    refine loop_rule (fun g : Nat × LV × (Nat → Own) => ((g.2.1.ad, g.2.1.l, g.2.1.c), (g.1 : Int), ())) (fun g U => g.1 ≤ 2 ^ e ∧ KF U pb sv rv g.2.2 O3 L3 S3 ∧ KS pb 0 V U own3 g.2.2 O3 O3 L3 L3 ∧ Rw U v 3 152 (fun _ => mkT 1 m) ∧ Rw U g.2.1 3 152 (fun _ => mkT 1 m) ∧ (∀ b, g.2.1.b = some b → g.2.2 b = .fu 1 m ∧ b < U.heap.size) ∧ g.2.1.l = v.l + g.1) (fun g => 2 ^ e - g.1) (0, v, own3) rfl ⟨by dsimp only; omega, f3, KS.kp kp0, hR3, hR3, hvo3, rfl⟩ ?_
    rintro ⟨j, far, own4⟩ U K4 ⟨hj, f4, s4, hR4, hfar, hfo, hfl⟩ hK4
    dsimp only at hj f4 s4 hR4 hfar hfo hfl hK4 ⊢
    refine ifB_d (fun hlt4 => ?_) fun hlt4 => ?_
    · refine atW_new fun U1 n1 => ?_
      have f5 := f4.kp n1.ext
      have z1 := n1.sz
      rw [wrap_id (x := (j : Int) + 1) (by omega) (by omega)]
      refine app_row (row := mkT 1 m) (hfar.upd n1.ext fun _ _ h => h) n1.at0 (mkT_len _ _) hml (z := [I 0, I 0, I 0]) rfl (by simp [isLeaf]) (by omega) (fun b cs U2 hvb hcap hcs p hR' => ?_) fun cs cc U2 n2 hR' => ?_
      · obtain ⟨o1, o2⟩ := hfo b hvb
        have hlen : far.l * 3 + 3 ≤ cs.length := by
          obtain ⟨cs', g1, g2, _⟩ := (hfar.upd n1.ext fun _ _ h => h).2.2 b hvb
          rw [hcs] at g1
          cases g1
          omega
        refine hK4 (j + 1, ⟨far.b, far.l + 1, far.c⟩, own4) U2 ⟨by dsimp only; omega, f5.row (T := 1) (by omega) o1 hcs hlen p, ?_, (hR4.upd n1.ext fun _ _ h => h).row (by omega) (mkT_len 1 m) hml hcs hlen p, ?_, fun b' hb' => ?_, by dsimp only; omega⟩ (by dsimp only; omega)
        · exact s4.trans ((KS.kp n1.ext).trans (KS.of p.upd fun x hx => by simp only [one] at hx; subst hx; exact .inr (.inr ⟨_, _, o1⟩)))
        · exact hR'.congr fun i _ => by unfold up; split <;> rfl
        · have := hfo b' hb'; have := p.sz; exact ⟨(hfo b' hb').1, by omega⟩
      · have z2 := n2.sz
        have hno : own4 U1.heap.size = .no := Classical.byContradiction fun hh => by have := f5.ko.lt _ hh; omega
        have hpl := lt_of_look f5.ko.p
        refine hK4 (j + 1, ⟨some U1.heap.size, far.l + 1, cc⟩, up own4 U1.heap.size (.fu 1 m)) U2 ⟨by dsimp only; omega, (f5.kp n2.ext).give hno (by omega) (by omega), ?_, (hR4.upd n1.ext fun _ _ h => h).upd n2.ext fun _ _ h => h, ?_, fun b' hb' => ?_, by dsimp only; omega⟩ (by dsimp only; omega)
        · exact s4.trans (KS.new (n1.ext.trans n2.ext) (by omega))
        · exact hR'.congr fun i _ => by unfold up; split <;> rfl
        · cases hb'; exact ⟨up_same _ _ _, by omega⟩
    · have hje : j = 2 ^ e := by omega
      have hls9 : (O3 10).l ≤ (O 10).l + (1 + e) := (s3.n 1 (by omega)).1
      -- the mark is no more than what is next
      have hge : (O 10).l ≤ (O3 10).l := (s3.n 1 (by omega)).2
      refine f4.push2 (T := 1) (by omega) hfar (fun b hb => (hfo b hb).1) (by show m < 1000003 + ((O3 10).l : Int) + 1; omega) (by show (O3 10).l < 1000000; omega) (by omega) fun U2 own6 O6 L6 S6 f6 s6 k6 => ?_
      have hw2 : IntKind.i64.wrap (((2 ^ e : Nat) : Int) + ((2 ^ e : Nat) : Int)) = ((2 ^ (e + 1) : Nat) : Int) := by
        rw [wrap_id (by omega) (by omega), Nat.pow_succ]; omega
      rw [hw2]
      refine hK3 (e + 1, own6, O6, L6, S6) U2 ⟨by dsimp only; omega, f6, ?_, ?_⟩ (by dsimp only; omega)
      · have := (s3.trans s4).trans s6
        rw [show 1 + e + 0 + 1 = 1 + (e + 1) by omega] at this
        exact this
      · exact k6 v 1 m hR4 fun b hb => by rw [s4.oo b (hvo3 b hb).2]; exact (hvo3 b hb).1
  · have he7 : e = 7 := by
      rcases Nat.lt_or_ge e 7 with h7 | h7
      · exact absurd (pw1.2 (by omega)) (by omega)
      · omega
    subst he7
    exact ⟨rfl, own3, O3, L3, S3, f3, s3⟩

theorem c87 (h : KF w pb sv rv own O L S) {v : LV} {F : Nat → List Value} (hv : Rw w v 5 106 F) (hown : ∀ b, v.b = some b → own b = .fu 2 (1000003 + ((O 11).l : Int))) (hN : (O 11).l ≤ 100000) (hvl : v.l ≤ 2000) :
    Ret PR 87 [.pointer (some ⟨pb, 2, none⟩), v.val] w fun r w' => r = .tuple (Array.mk []) ∧ ∃ own' O' L' S', KF w' pb sv rv own' O' L' S' ∧ KS pb 8 w w' own own' O O' L L' := by
  refine Ret.of ((S87_eq _ _ _ _ w _).mpr ?_)
  unfold S87
  refine ⟨_, _, _, h.ko.cell (k := 11) (by omega), ?_⟩
  rw [wrap_id (x := 1000003 + ((O 11).l : Int)) (by omega) (by omega)]
  obtain ⟨m, hm⟩ : ∃ m : Int, m = 1000003 + ((O 11).l : Int) := ⟨_, rfl⟩
  rw [← hm] at hown ⊢
  have hml : ∀ x ∈ mkT 2 m, isLeaf x = true := mkT_leaf _ _
  refine loop_rule (fun i : Nat => ((i : Int), ())) (fun i W => i ≤ v.l ∧ KF W pb sv rv own O L S ∧ Rw W v 5 106 (fun j => if j < i then mkT 2 m else F j) ∧ Upd (KG pb own) w W) (fun i => v.l - i) 0 rfl ⟨by omega, h, hv.congr fun j _ => by rw [if_neg (by omega)], Upd.refl⟩ ?_
  rintro i W K ⟨hi, hF, hR, u⟩ hK
  dsimp only
  refine ifB_d (fun hlt => ?_) fun hlt => ?_
  · have hlt : i < v.l := by omega
    obtain ⟨vb, vl, vc⟩ := v
    have hlc := hR.1
    cases vb with
    | none => have := hR.2.1 rfl; dsimp only at hlt hlc this; omega
    | some b =>
      obtain ⟨cs, h1, h2, h3, h4⟩ := hR.2.2 b rfl
      dsimp only at hlt hlc h2
      refine ⟨⟨by omega, by omega⟩, ?_⟩
      show stx W ((Addr.mk b 0 none).add _) _ 0 _
      rw [add_mk, Int.toNat_natCast, Nat.zero_add]
      have hlen : i * 5 + 5 ≤ cs.length := by omega
      refine stx_at (mkT 2 m) h1 (by rw [mkT_len]; exact hlen) rfl fun W2 p2 => ?_
      rw [Nat.add_zero] at p2
      rw [wrap_id (by omega) (by omega)]
      refine hK (i + 1) W2 ⟨by dsimp only; omega, hF.row (T := 2) (by omega) (hown b rfl) h1 hlen p2, ?_, u.trans (p2.upd.mono fun x hx => by simp only [one] at hx; subst hx; exact .inr (.inr ⟨_, _, hown x rfl⟩))⟩ (by dsimp only; omega)
      refine (hR.set (sz := 5) (F := fun j => if j < i then mkT 2 m else F j) rfl (mkT_len 2 m) hml (by show i < vc; omega) h1 p2 vl hlc (.inl (Nat.le_refl _))).congr fun j hj => ?_
      unfold up
      by_cases hji : j = i
      · rw [if_pos hji, if_pos (by omega)]
      · rw [if_neg hji]
        dsimp only
        by_cases hjl : j < i
        · rw [if_pos hjl, if_pos (by omega)]
        · rw [if_neg hjl, if_neg (by omega)]
  have hR : Rw W v 5 106 fun _ => mkT 2 m := hR.congr fun j hj => by rw [if_pos (by omega)]
  refine hF.push2 (T := 2) (by omega) hR hown (by show m < 1000003 + ((O 11).l : Int) + 1; omega) (by show (O 11).l < 1000000; omega) (by omega) fun W2 own2 O2 L2 S2 f2 s2 k2 => ?_
  have sW : KS pb 0 w W own own O O L L := KS.of u fun _ h => h
  have hvo : ∀ b, v.b = some b → own b = .fu 2 m ∧ b < w.heap.size := fun b hb => ⟨hown b hb, h.ko.lt b (by rw [hown b hb]; simp)⟩
  have pw : ∀ e : Nat, e ≤ 7 → (2 ^ e ≤ 80 ↔ e ≤ 6) ∧ 1 ≤ 2 ^ e ∧ 2 ^ e ≤ 128 := by
    intro e he
    match e, he with
    | 0, _ | 1, _ | 2, _ | 3, _ | 4, _ | 5, _ | 6, _ | 7, _ => simp
  have hR2 : Rw W2 v 5 106 fun _ => mkT 2 m := k2 v 2 m hR hown
  refine loop_rule (fun g : Nat × (Nat → Own) × (Nat → LV) × (Nat → Nat → LV) × (Nat → Nat → Int) => (((2 ^ g.1 : Nat) : Int), ())) (fun g V => g.1 ≤ 7 ∧ KF V pb sv rv g.2.1 g.2.2.1 g.2.2.2.1 g.2.2.2.2 ∧ KS pb (1 + g.1) w V own g.2.1 O g.2.2.1 L g.2.2.2.1 ∧ Rw V v 5 106 fun _ => mkT 2 m) (fun g => 8 - g.1) (0, own2, O2, L2, S2) rfl ⟨by dsimp only; omega, f2, by have := sW.trans s2; rw [Nat.zero_add] at this; exact this, hR2⟩ ?_
  rintro ⟨e, own3, O3, L3, S3⟩ V K3 ⟨he, f3, s3, hR3⟩ hK3
  dsimp only at he f3 s3 hR3 hK3 ⊢
  obtain ⟨pw1, pw2, pw3⟩ := pw e he
  refine ifB_d (fun hle => ?_) fun hle => ?_
  · have he6 : e ≤ 6 := pw1.1 (by omega)
    have hvo3 : ∀ b, v.b = some b → own3 b = .fu 2 m ∧ b < V.heap.size := fun b hb => ⟨by rw [s3.oo b (hvo b hb).2]; exact (hvo b hb).1, Nat.lt_of_lt_of_le (hvo b hb).2 s3.u.sz⟩
    refine loop_rule (fun g : Nat × LV × (Nat → Own) => ((g.2.1.ad, g.2.1.l, g.2.1.c), (g.1 : Int), ())) (fun g U => g.1 ≤ 2 ^ e ∧ KF U pb sv rv g.2.2 O3 L3 S3 ∧ KS pb 0 V U own3 g.2.2 O3 O3 L3 L3 ∧ Rw U v 5 106 (fun _ => mkT 2 m) ∧ Rw U g.2.1 5 106 (fun _ => mkT 2 m) ∧ (∀ b, g.2.1.b = some b → g.2.2 b = .fu 2 m ∧ b < U.heap.size) ∧ g.2.1.l = v.l + g.1) (fun g => 2 ^ e - g.1) (0, v, own3) rfl ⟨by dsimp only; omega, f3, KS.kp kp0, hR3, hR3, hvo3, rfl⟩ ?_
    rintro ⟨j, far, own4⟩ U K4 ⟨hj, f4, s4, hR4, hfar, hfo, hfl⟩ hK4
    dsimp only at hj f4 s4 hR4 hfar hfo hfl hK4 ⊢
    refine ifB_d (fun hlt4 => ?_) fun hlt4 => ?_
    · refine atW_new fun U1 n1 => ?_
      have f5 := f4.kp n1.ext
      have z1 := n1.sz
      rw [wrap_id (x := (j : Int) + 1) (by omega) (by omega)]
      refine app_row (row := mkT 2 m) (hfar.upd n1.ext fun _ _ h => h) n1.at0 (mkT_len _ _) hml (z := [I 0, I 0, I 0, I 0, I 0]) rfl (by simp [isLeaf]) (by omega) (fun b cs U2 hvb hcap hcs p hR' => ?_) fun cs cc U2 n2 hR' => ?_
      · obtain ⟨o1, o2⟩ := hfo b hvb
        have hlen : far.l * 5 + 5 ≤ cs.length := by
          obtain ⟨cs', g1, g2, _⟩ := (hfar.upd n1.ext fun _ _ h => h).2.2 b hvb
          rw [hcs] at g1
          cases g1
          omega
        refine hK4 (j + 1, ⟨far.b, far.l + 1, far.c⟩, own4) U2 ⟨by dsimp only; omega, f5.row (T := 2) (by omega) o1 hcs hlen p, ?_, (hR4.upd n1.ext fun _ _ h => h).row (by omega) (mkT_len 2 m) hml hcs hlen p, ?_, fun b' hb' => ?_, by dsimp only; omega⟩ (by dsimp only; omega)
        · exact s4.trans ((KS.kp n1.ext).trans (KS.of p.upd fun x hx => by simp only [one] at hx; subst hx; exact .inr (.inr ⟨_, _, o1⟩)))
        · exact hR'.congr fun i _ => by unfold up; split <;> rfl
        · have := hfo b' hb'; have := p.sz; exact ⟨(hfo b' hb').1, by omega⟩
      · have z2 := n2.sz
        have hno : own4 U1.heap.size = .no := Classical.byContradiction fun hh => by have := f5.ko.lt _ hh; omega
        have hpl := lt_of_look f5.ko.p
        refine hK4 (j + 1, ⟨some U1.heap.size, far.l + 1, cc⟩, up own4 U1.heap.size (.fu 2 m)) U2 ⟨by dsimp only; omega, (f5.kp n2.ext).give hno (by omega) (by omega), ?_, (hR4.upd n1.ext fun _ _ h => h).upd n2.ext fun _ _ h => h, ?_, fun b' hb' => ?_, by dsimp only; omega⟩ (by dsimp only; omega)
        · exact s4.trans (KS.new (n1.ext.trans n2.ext) (by omega))
        · exact hR'.congr fun i _ => by unfold up; split <;> rfl
        · cases hb'; exact ⟨up_same _ _ _, by omega⟩
    · have hje : j = 2 ^ e := by omega
      have hls9 : (O3 11).l ≤ (O 11).l + (1 + e) := (s3.n 2 (by omega)).1
      -- the mark is no more than what is next
      have hge : (O 11).l ≤ (O3 11).l := (s3.n 2 (by omega)).2
      refine f4.push2 (T := 2) (by omega) hfar (fun b hb => (hfo b hb).1) (by show m < 1000003 + ((O3 11).l : Int) + 1; omega) (by show (O3 11).l < 1000000; omega) (by omega) fun U2 own6 O6 L6 S6 f6 s6 k6 => ?_
      have hw2 : IntKind.i64.wrap (((2 ^ e : Nat) : Int) + ((2 ^ e : Nat) : Int)) = ((2 ^ (e + 1) : Nat) : Int) := by
        rw [wrap_id (by omega) (by omega), Nat.pow_succ]; omega
      rw [hw2]
      refine hK3 (e + 1, own6, O6, L6, S6) U2 ⟨by dsimp only; omega, f6, ?_, ?_⟩ (by dsimp only; omega)
      · have := (s3.trans s4).trans s6
        rw [show 1 + e + 0 + 1 = 1 + (e + 1) by omega] at this
        exact this
      · exact k6 v 2 m hR4 fun b hb => by rw [s4.oo b (hvo3 b hb).2]; exact (hvo3 b hb).1
  · have he7 : e = 7 := by
      rcases Nat.lt_or_ge e 7 with h7 | h7
      · exact absurd (pw1.2 (by omega)) (by omega)
      · omega
    subst he7
    exact ⟨rfl, own3, O3, L3, S3, f3, s3⟩
end
end Go.Wx
end
section
/- Contracts of looking at lists; the lists that were left. -/
set_option linter.unusedVariables false
set_option maxRecDepth 100000
namespace Go.Wx
open Go

theorem Rw.at {w : World} {v : LV} {sz : Nat} {ty : TypeId} {F : Nat → List Value} (h : Rw w v sz ty F) {i : Nat} (hi : i < v.l) : ∃ b, v.ad = some ⟨b, 0, none⟩ ∧ ∀ j, j < sz → w.cell? (((Addr.mk b 0 none).add ((i : Int).toNat * sz)).add j) = (F i)[j]? := by
  obtain ⟨vb, vl, vc⟩ := v
  cases vb with
  | none => have h1 := h.1; have h2 := h.2.1 rfl; dsimp only at h1 h2 hi; omega
  | some b =>
    obtain ⟨cs, h1, h2, h3, h4⟩ := h.2.2 b rfl
    refine ⟨b, rfl, fun j hj => ?_⟩
    rw [add_mk, add_mk, Int.toNat_natCast, cell_of h1, Nat.zero_add]
    exact h4 i hi j hj
theorem Rw.at1 {w : World} {v : LV} {ty : TypeId} {F : Nat → List Value} (h : Rw w v 1 ty F) {i : Nat} (hi : i < v.l) : ∃ b, v.ad = some ⟨b, 0, none⟩ ∧ w.cell? ((Addr.mk b 0 none).add ((i : Int).toNat * 1)) = (F i)[0]? := by
  obtain ⟨b, h1, h2⟩ := h.at hi
  refine ⟨b, h1, ?_⟩
  have := h2 0 (by omega)
  rw [add_mk, add_mk, Nat.add_zero] at this
  rw [add_mk]
  exact this

theorem c94 {w : World} {a b : LV} {F : Nat → List Value} (ha : Rw w a 1 3 F) (hb : Rw w b 1 3 F) (he : a.l = b.l) (hx : ∀ i, i < a.l → ∃ x : Int, F i = [I x]) (hl : a.l ≤ 100000) : RetE PR 94 [a.val, b.val] w (.bool true) := by
  refine Ret.of ((S94_eq _ _ _ _ _ _ w _).mpr ?_)
  unfold S94
  refine ifB_ne (fun hh => by omega) fun _ => ?_
  refine loop_rule (fun i : Nat => (false, (i : Int), ())) (fun i W => i ≤ a.l ∧ Kp w W) (fun i => a.l - i) 0 rfl ⟨by omega, kp0⟩ ?_
  rintro i W K ⟨hi, kW⟩ hK
  dsimp only
  refine ifB_d (fun hlt => ?_) fun hlt => ⟨rfl, kW⟩
  have hlt : i < a.l := by omega
  generalize hwd : World.drew W = wd
  have d1 : Kp W wd := hwd ▸ ext_drew W
  have kd := kW.trans d1
  obtain ⟨ab, hab, hac⟩ := (ha.upd kd fun _ _ h => h).at1 hlt
  obtain ⟨bb, hbb, hbc⟩ := (hb.upd kd fun _ _ h => h).at1 (i := i) (by omega)
  obtain ⟨x, hxx⟩ := hx i hlt
  rw [hxx] at hac hbc
  rw [hab, hbb, wrap_id (by omega) (by omega)]
  refine ⟨⟨by omega, by omega⟩, _, hac, ⟨by omega, by omega⟩, _, hbc, ifB_ne (fun hh => absurd rfl hh) fun _ => ?_⟩
  exact hK (i + 1) wd ⟨by omega, kd⟩ (by omega)

theorem c95 {w : World} {a b : LV} {F : Nat → List Value} (ha : Rw w a 3 152 F) (hb : Rw w b 3 152 F) (he : a.l = b.l) (hx : ∀ i, i < a.l → ∃ p : Pg, F i = p.cells) (hl : a.l ≤ 100000) : RetE PR 95 [a.val, b.val] w (.bool true) := by
  refine Ret.of ((S95_eq _ _ _ _ _ _ w _).mpr ?_)
  unfold S95
  refine ifB_ne (fun hh => by omega) fun _ => ?_
  refine loop_rule (fun i : Nat => (false, (i : Int), ())) (fun i W => i ≤ a.l ∧ Kp w W) (fun i => a.l - i) 0 rfl ⟨by omega, kp0⟩ ?_
  rintro i W K ⟨hi, kW⟩ hK
  dsimp only
  refine ifB_d (fun hlt => ?_) fun hlt => ⟨rfl, kW⟩
  have hlt : i < a.l := by omega
  generalize hwd : World.drew W = wd
  have d1 : Kp W wd := hwd ▸ ext_drew W
  have kd := kW.trans d1
  obtain ⟨ab, hab, hac⟩ := (ha.upd kd fun _ _ h => h).at hlt
  obtain ⟨bb, hbb, hbc⟩ := (hb.upd kd fun _ _ h => h).at (i := i) (by omega)
  obtain ⟨x, hxx⟩ := hx i hlt
  rw [hxx] at hac hbc
  rw [hab, hbb, wrap_id (by omega) (by omega)]
  refine ⟨⟨by omega, by omega⟩, _, hac 0 (by omega), _, hac 1 (by omega), _, hac 2 (by omega), ⟨by omega, by omega⟩, _, hbc 0 (by omega), _, hbc 1 (by omega), _, hbc 2 (by omega), ?_⟩
  rw [beq_self_eq_true, beq_self_eq_true, beq_self_eq_true]
  exact hK (i + 1) wd ⟨by omega, kd⟩ (by omega)

theorem c85 {w : World} {a b : LV} {F : Nat → List Value} (ha : Rw w a 5 106 F) (hb : Rw w b 5 106 F) (he : a.l = b.l) (hx : ∀ i, i < a.l → ∃ b : Bk, F i = b.cells) (hl : a.l ≤ 100000) : RetE PR 85 [a.val, b.val] w (.bool true) := by
  refine Ret.of ((S85_eq _ _ _ _ _ _ w _).mpr ?_)
  unfold S85
  refine ifB_ne (fun hh => by omega) fun _ => ?_
  refine loop_rule (fun i : Nat => (false, (i : Int), ())) (fun i W => i ≤ a.l ∧ Kp w W) (fun i => a.l - i) 0 rfl ⟨by omega, kp0⟩ ?_
  rintro i W K ⟨hi, kW⟩ hK
  dsimp only
  refine ifB_d (fun hlt => ?_) fun hlt => ⟨rfl, kW⟩
  have hlt : i < a.l := by omega
  generalize hwd : World.drew W = wd
  have d1 : Kp W wd := hwd ▸ ext_drew W
  have kd := kW.trans d1
  obtain ⟨ab, hab, hac⟩ := (ha.upd kd fun _ _ h => h).at hlt
  obtain ⟨bb, hbb, hbc⟩ := (hb.upd kd fun _ _ h => h).at (i := i) (by omega)
  obtain ⟨x, hxx⟩ := hx i hlt
  rw [hxx] at hac hbc
  rw [hab, hbb, wrap_id (by omega) (by omega)]
  refine ⟨⟨by omega, by omega⟩, _, hac 0 (by omega), _, hac 1 (by omega), _, hac 2 (by omega), _, hac 3 (by omega), _, hac 4 (by omega), ⟨by omega, by omega⟩, _, hbc 0 (by omega), _, hbc 1 (by omega), _, hbc 2 (by omega), _, hbc 3 (by omega), _, hbc 4 (by omega), ?_⟩
  rw [beq_self_eq_true, beq_self_eq_true, beq_self_eq_true, beq_self_eq_true, beq_self_eq_true]
  exact hK (i + 1) wd ⟨by omega, kd⟩ (by omega)

section
variable {w w' : World} {pb : Nat} {sv rv : Value} {own : Nat → Own} {O : Nat → LV} {L : Nat → Nat → LV} {S : Nat → Nat → Int}

theorem c86 (h : KF w pb sv rv own O L S) (h0 : (O 0).l ≤ 100000) (h4 : (O 4).l ≤ 100000) : RetE PR 86 [.pointer (some ⟨pb, 2, none⟩)] w (.bool (decide ((O 0).l + (O 4).l > 30))) := by
  refine Ret.of ((S86_eq _ w _).mpr ?_)
  unfold S86
  generalize hwd : World.drew w = wd
  have d1 : Kp w wd := hwd ▸ ext_drew w
  have h1 := h.kp d1
  refine ⟨_, _, _, h1.ko.cell (k := 0) (by omega), _, _, _, h1.ko.cell (k := 4) (by omega), ?_, d1⟩
  rw [wrap_id (by omega) (by omega)]
  refine congrArg Value.bool (decide_eq_decide.2 ?_)
  omega

theorem KF.list (h : KF w pb sv rv own O L S) {k i : Nat} (hk : k < 9) (hi : i < (O k).l) : ∃ b, (O k).ad = some ⟨b, 0, none⟩ ∧ w.cell? ((Addr.mk b 0 none).add ((i : Int).toNat * 1)) = some (.slice (L k i).ad (L k i).l (L k i).c) := by
  obtain ⟨b, h1, h2⟩ := (h.ko.o k (by omega)).at1 hi
  rw [kX_lo hk] at h2
  exact ⟨b, h1, h2⟩
theorem KF.sign (h : KF w pb sv rv own O L S) {T i : Nat} (hT : T < 3) (hi : i < (O (9 + T)).l) : ∃ b, (O (9 + T)).ad = some ⟨b, 0, none⟩ ∧ w.cell? ((Addr.mk b 0 none).add ((i : Int).toNat * 1)) = some (I (S T i)) := by
  obtain ⟨b, h1, h2⟩ := (h.ko.o (9 + T) (by omega)).at1 hi
  rw [kX_hi (by omega), show 9 + T - 9 = T by omega] at h2
  exact ⟨b, h1, h2⟩

theorem c100 (h : KF w pb sv rv own O L S) (hN : ∀ k, 6 ≤ k → k < 9 → (O k).l ≤ 100000) : RetE PR 100 [.pointer (some ⟨pb, 2, none⟩)] w (.bool true) := by
  refine Ret.of ((S100_eq _ w _).mpr ?_)
  unfold S100
  refine loop_rule (fun i : Nat => (false, (i : Int), ())) (fun i W => i ≤ (O 6).l ∧ Kp w W) (fun i => (O 6).l - i) 0 rfl ⟨by omega, kp0⟩ ?_
  rintro i0 W0 K0 ⟨hi, k0⟩ hK0
  dsimp only
  refine ⟨_, _, _, (h.kp k0).ko.cell (k := 6) (by omega), ifB_d (fun hlt => ?_) fun _ => ?_⟩
  · have hlt : i0 < (O 6).l := by omega
    have hNk := hN 6 (by omega) (by omega)
    have hLk : (L 6 i0).l ≤ 100000 := h.lb 0 (by omega) i0 hlt
    have hls : (O 9).l = (O 6).l := h.ls 0 (by omega)
    refine loop_rule (fun j : Nat => (false, (j : Int), ())) (fun j W => j ≤ (L 6 i0).l ∧ Kp w W) (fun j => (L 6 i0).l - j) 0 rfl ⟨by omega, k0⟩ ?_
    rintro j W K ⟨hj, kW⟩ hK
    dsimp only
    have hW := h.kp kW
    obtain ⟨ob, ho1, ho2⟩ := hW.list (k := 6) (by omega) hlt
    refine ⟨_, _, _, hW.ko.cell (k := 6) (by omega), ?_⟩
    rw [ho1]
    refine ⟨⟨by omega, by omega⟩, _, _, _, ho2, ifB_d (fun hlj => ?_) fun hlj => ?_⟩
    · have hlj : j < (L 6 i0).l := by omega
      generalize hwd : World.drew W = wd
      have d1 : Kp W wd := hwd ▸ ext_drew W
      have hd := hW.kp d1
      obtain ⟨ob', ho1', ho2'⟩ := hd.list (k := 6) (by omega) hlt
      refine ⟨_, _, _, hd.ko.cell (k := 6) (by omega), ?_⟩
      rw [ho1']
      refine ⟨⟨by omega, by omega⟩, _, _, _, ho2', ?_⟩
      obtain ⟨lb, hl1, hl2⟩ := ((hd.lf 0 (by omega) i0 hlt).1).at1 hlj
      rw [hl1]
      refine ⟨⟨by omega, by omega⟩, S 0 i0, hl2, _, _, _, hd.ko.cell (k := 9) (by omega), ?_⟩
      obtain ⟨sb, hs1, hs2⟩ := hd.sign (T := 0) (i := i0) (by omega) (by show i0 < (O 9).l; omega)
      have hs1 : (O 9).ad = some ⟨sb, 0, none⟩ := hs1
      rw [hs1, wrap_id (by omega) (by omega)]
      refine ⟨⟨by omega, by omega⟩, _, hs2, ifB_ne (fun hh => absurd rfl hh) fun _ => ?_⟩
      exact hK (j + 1) wd ⟨by omega, kW.trans d1⟩ (by omega)
    · rw [wrap_id (by omega) (by omega)]
      exact hK0 (i0 + 1) W ⟨by omega, kW⟩ (by omega)
  refine loop_rule (fun i : Nat => (false, (i : Int), ())) (fun i W => i ≤ (O 7).l ∧ Kp w W) (fun i => (O 7).l - i) 0 rfl ⟨by omega, k0⟩ ?_
  rintro i1 W1 K1 ⟨hi, k1⟩ hK1
  dsimp only
  refine ⟨_, _, _, (h.kp k1).ko.cell (k := 7) (by omega), ifB_d (fun hlt => ?_) fun _ => ?_⟩
  · have hlt : i1 < (O 7).l := by omega
    have hNk := hN 7 (by omega) (by omega)
    have hLk : (L 7 i1).l ≤ 100000 := h.lb 1 (by omega) i1 hlt
    have hls : (O 10).l = (O 7).l := h.ls 1 (by omega)
    refine loop_rule (fun j : Nat => (false, (j : Int), ())) (fun j W => j ≤ (L 7 i1).l ∧ Kp w W) (fun j => (L 7 i1).l - j) 0 rfl ⟨by omega, k1⟩ ?_
    rintro j W K ⟨hj, kW⟩ hK
    dsimp only
    have hW := h.kp kW
    obtain ⟨ob, ho1, ho2⟩ := hW.list (k := 7) (by omega) hlt
    refine ⟨_, _, _, hW.ko.cell (k := 7) (by omega), ?_⟩
    rw [ho1]
    refine ⟨⟨by omega, by omega⟩, _, _, _, ho2, ifB_d (fun hlj => ?_) fun hlj => ?_⟩
    · have hlj : j < (L 7 i1).l := by omega
      generalize hwd : World.drew W = wd
      have d1 : Kp W wd := hwd ▸ ext_drew W
      have hd := hW.kp d1
      obtain ⟨ob', ho1', ho2'⟩ := hd.list (k := 7) (by omega) hlt
      refine ⟨_, _, _, hd.ko.cell (k := 7) (by omega), ?_⟩
      rw [ho1']
      refine ⟨⟨by omega, by omega⟩, _, _, _, ho2', ?_⟩
      obtain ⟨lb, hl1, hl2⟩ := ((hd.lf 1 (by omega) i1 hlt).1).at hlj
      rw [hl1]
      refine ⟨⟨by omega, by omega⟩, S 1 i1, hl2 0 (by simp [szT]), _, _, _, hd.ko.cell (k := 10) (by omega), ?_⟩
      obtain ⟨sb, hs1, hs2⟩ := hd.sign (T := 1) (i := i1) (by omega) (by show i1 < (O 10).l; omega)
      have hs1 : (O 10).ad = some ⟨sb, 0, none⟩ := hs1
      rw [hs1, wrap_id (by omega) (by omega)]
      refine ⟨⟨by omega, by omega⟩, _, hs2, ifB_ne (fun hh => absurd rfl hh) fun _ => ?_⟩
      exact hK (j + 1) wd ⟨by omega, kW.trans d1⟩ (by omega)
    · rw [wrap_id (by omega) (by omega)]
      exact hK1 (i1 + 1) W ⟨by omega, kW⟩ (by omega)
  refine loop_rule (fun i : Nat => (false, (i : Int), ())) (fun i W => i ≤ (O 8).l ∧ Kp w W) (fun i => (O 8).l - i) 0 rfl ⟨by omega, k1⟩ ?_
  rintro i2 W2 K2 ⟨hi, k2⟩ hK2
  dsimp only
  refine ⟨_, _, _, (h.kp k2).ko.cell (k := 8) (by omega), ifB_d (fun hlt => ?_) fun _ => ?_⟩
  · have hlt : i2 < (O 8).l := by omega
    have hNk := hN 8 (by omega) (by omega)
    have hLk : (L 8 i2).l ≤ 100000 := h.lb 2 (by omega) i2 hlt
    have hls : (O 11).l = (O 8).l := h.ls 2 (by omega)
    refine loop_rule (fun j : Nat => (false, (j : Int), ())) (fun j W => j ≤ (L 8 i2).l ∧ Kp w W) (fun j => (L 8 i2).l - j) 0 rfl ⟨by omega, k2⟩ ?_
    rintro j W K ⟨hj, kW⟩ hK
    dsimp only
    have hW := h.kp kW
    obtain ⟨ob, ho1, ho2⟩ := hW.list (k := 8) (by omega) hlt
    refine ⟨_, _, _, hW.ko.cell (k := 8) (by omega), ?_⟩
    rw [ho1]
    refine ⟨⟨by omega, by omega⟩, _, _, _, ho2, ifB_d (fun hlj => ?_) fun hlj => ?_⟩
    · have hlj : j < (L 8 i2).l := by omega
      generalize hwd : World.drew W = wd
      have d1 : Kp W wd := hwd ▸ ext_drew W
      have hd := hW.kp d1
      obtain ⟨ob', ho1', ho2'⟩ := hd.list (k := 8) (by omega) hlt
      refine ⟨_, _, _, hd.ko.cell (k := 8) (by omega), ?_⟩
      rw [ho1']
      refine ⟨⟨by omega, by omega⟩, _, _, _, ho2', ?_⟩
      obtain ⟨lb, hl1, hl2⟩ := ((hd.lf 2 (by omega) i2 hlt).1).at hlj
      rw [hl1]
      refine ⟨⟨by omega, by omega⟩, S 2 i2, hl2 1 (by simp [szT]), _, _, _, hd.ko.cell (k := 11) (by omega), ?_⟩
      obtain ⟨sb, hs1, hs2⟩ := hd.sign (T := 2) (i := i2) (by omega) (by show i2 < (O 11).l; omega)
      have hs1 : (O 11).ad = some ⟨sb, 0, none⟩ := hs1
      rw [hs1, wrap_id (by omega) (by omega)]
      refine ⟨⟨by omega, by omega⟩, _, hs2, ifB_ne (fun hh => absurd rfl hh) fun _ => ?_⟩
      exact hK (j + 1) wd ⟨by omega, kW.trans d1⟩ (by omega)
    · rw [wrap_id (by omega) (by omega)]
      exact hK2 (i2 + 1) W ⟨by omega, kW⟩ (by omega)
  exact ⟨rfl, k2⟩
end
end Go.Wx
end
section
/- The lists that were left; contracts of the keep's blocks and dump. -/
set_option linter.unusedVariables false
set_option maxRecDepth 100000
namespace Go.Wx
open Go

/-- What a call on the keep may turn, seen from a time at which all blocks were below B. -/
structure KR (pb B : Nat) (w w' : World) (own own' : Nat → Own) : Prop where
  u : Upd (fun b => KG pb own b ∨ B ≤ b) w w'
  oo : ∀ b, b < B → own' b = own b
  on : ∀ b, own' b ≠ .no → own b ≠ .no ∨ B ≤ b
theorem KR.trans {pb B : Nat} {w w1 w' : World} {own own1 own' : Nat → Own} (h : KR pb B w w1 own own1) (h1 : KR pb B w1 w' own1 own') : KR pb B w w' own own' := by
  refine ⟨h.u.trans (h1.u.mono fun b hb => ?_), fun b hb => by rw [h1.oo b hb, h.oo b hb], fun b hb => ?_⟩
  · rcases hb with hb | hb
    · rcases Nat.lt_or_ge b B with hlt | hge
      · left
        unfold KG at hb ⊢
        rw [h.oo b hlt] at hb; exact hb
      · exact .inr hge
    · exact .inr hb
  · rcases h1.on b hb with h2 | h2
    · exact h.on b h2
    · exact .inr h2
theorem KS.kr {pb d B : Nat} {w w' : World} {own own' : Nat → Own} {O O' : Nat → LV} {L L' : Nat → Nat → LV} (h : KS pb d w w' own own' O O' L L') (hB : B ≤ w.heap.size) : KR pb B w w' own own' :=
  ⟨h.u.mono fun b hb => .inl hb, fun b hb => h.oo b (by omega), fun b hb => (h.on b hb).elim .inl fun hh => .inr (by omega)⟩
theorem KR.kp {pb B : Nat} {w w' : World} {own : Nat → Own} (u : Kp w w') : KR pb B w w' own own := ⟨Kp.upd u, fun _ _ => rfl, fun _ h => .inl h⟩
/-- A list's block gets an owner. -/
def cl (own : Nat → Own) (v : LV) (o : Own) : Nat → Own := match v.b with
  | none => own
  | some b => up own b o
theorem cl_self {own : Nat → Own} {v : LV} {o : Own} : ∀ b, v.b = some b → cl own v o b = o := by
  intro b hb
  unfold cl; rw [hb]; exact up_same _ _ _
theorem cl_other {own : Nat → Own} {v : LV} {o : Own} {b : Nat} (h : v.b ≠ some b) : cl own v o b = own b := by
  unfold cl
  cases hv : v.b with
  | none => rfl
  | some b' => exact up_other _ _ fun e => h (by rw [hv, e])
theorem KR.cl {pb B : Nat} {w : World} {own : Nat → Own} {v : LV} {o : Own} (h : ∀ b, v.b = some b → B ≤ b) : KR pb B w w own (cl own v o) := by
  refine ⟨Upd.refl, fun b hb => cl_other fun e => by have := h b e; omega, fun b hb => ?_⟩
  by_cases e : v.b = some b
  · exact .inr (h b e)
  · rw [cl_other e] at hb; exact .inl hb

def KQ1 (w : World) (own : Nat → Own) (v : LV) (k i : Nat) (F : Nat → List Value) : Prop := Rw w v (szT (k / 2)) (tyT (k / 2)) F ∧ (∀ b, v.b = some b → own b = .li k i) ∧ v.l ≤ 1600

section
variable {w w' : World} {pb : Nat} {sv rv : Value} {own : Nat → Own} {O : Nat → LV} {L : Nat → Nat → LV} {S : Nat → Nat → Int}
theorem KF.cl (h : KF w pb sv rv own O L S) {v : LV} {o : Own} (hv : ∀ b, v.b = some b → own b = .no ∧ b < w.heap.size ∧ b ≠ pb) : KF w pb sv rv (cl own v o) O L S := by
  unfold Go.Wx.cl
  cases hb : v.b with
  | none => exact h
  | some b => exact h.give (hv b hb).1 (hv b hb).2.1 (hv b hb).2.2
theorem KF.clt (h : KF w pb sv rv own O L S) {v : LV} {o : Own} {k i : Nat} (hv : ∀ b, v.b = some b → own b = .li k i) : KF w pb sv rv (Go.Wx.cl own v o) O L S := by
  unfold Go.Wx.cl
  cases hb : v.b with
  | none => exact h
  | some b => exact h.turn (hv b hb)
theorem KQ1.cl {x v : LV} {k i : Nat} {F : Nat → List Value} {o : Own} (h : KQ1 w own x k i F) (hv : ∀ b, v.b = some b → own b ≠ .li k i) : KQ1 w (cl own v o) x k i F :=
  ⟨h.1, fun b hb => by rw [cl_other fun e => hv b e (h.2.1 b hb)]; exact h.2.1 b hb, h.2.2⟩
theorem KQ1.ks {d : Nat} {own' : Nat → Own} {O' : Nat → LV} {L' : Nat → Nat → LV} {x : LV} {k i : Nat} {F : Nat → List Value} (h : KQ1 w own x k i F) (hf : KF w pb sv rv own O L S) (s : KS pb d w w' own own' O O' L L') : KQ1 w' own' x k i F := by
  refine ⟨h.1.upd s.u fun b hb hh => ?_, fun b hb => ?_, h.2.2⟩
  · have := h.2.1 b hb
    rcases hh with hh | ⟨_, hh⟩ | ⟨_, _, hh⟩
    · rw [hh, hf.ko.pb0] at this; cases this
    · rw [this] at hh; cases hh
    · rw [this] at hh; cases hh
  · have := h.2.1 b hb
    rw [s.oo b (hf.ko.lt b (by rw [this]; simp))]; exact this
theorem KQ1.upd {x : LV} {k i : Nat} {F : Nat → List Value} {G : Nat → Prop} (h : KQ1 w own x k i F) (u : Upd G w w') (hG : ∀ b, own b = .li k i → ¬ G b) : KQ1 w' own x k i F :=
  ⟨h.1.upd u fun b hb => hG b (h.2.1 b hb), h.2.1, h.2.2⟩

/-- A list is put away as it is. -/
theorem KF.pushq (h : KF w pb sv rv own O L S) {k : Nat} (hk : k < 6) {v : LV} (hN : (O k).l ≤ 1000) {tb : Nat} {tt : TypeId} (ht : w.heap[tb]? = some (Bl [Value.slice v.ad v.l v.c] tt)) {Q : World → Prop}
    (hQ : ∀ w' own' v', KF w' pb sv rv own' (up O k v') (up L k (up (L k) (O k).l v)) S → v'.l = (O k).l + 1 → Upd (KG pb own) w w' → (∀ b, b < w.heap.size → own' b = own b) → (∀ b, own' b ≠ .no → own b ≠ .no ∨ w.heap.size ≤ b) → (∀ x k' i' F', KQ1 w own x k' i' F' → KQ1 w' own' x k' i' F') → Q w') :
    ∃ old new, rdx w (O k).ad ((O k).l * 1) old ∧ rdx w (some ⟨tb, 0, none⟩) 1 new ∧ (∀ x, List.Mem x new → isLeaf x = true) ∧ ((O k).l + 1) * 24 ≤ 1099511627776 ∧ canApp w (O k).ad (O k).l (O k).c 1 1 ∧
      ∀ b c w', AppTo w (O k).ad (O k).l (O k).c 1 1 old new [Value.slice none 0 0] (ot k) b c w' → stx w' ((Addr.mk pb 2 none).add k) [Value.slice b ((O k).l + 1) c] 0 Q := by
  refine h.ko.push (k := k) (by omega) ht rfl rfl (by omega) fun w2 own2 v2 k2 l2 u2 oo on => ?_
  have hX : ∀ j i, up (kX L S) k (up (kX L S k) (O k).l [Value.slice v.ad v.l v.c]) j i = kX (up L k (up (L k) (O k).l v)) S j i := by
    intro j i
    by_cases hjk : j = k
    · subst hjk
      rw [up_same, kX_lo (by omega), up_same]
      by_cases hi : i = (O j).l
      · subst hi; rw [up_same, up_same]
      · rw [up_other _ _ hi, up_other _ _ hi, kX_lo (by omega)]
    · rw [up_other _ _ hjk]
      by_cases hj9 : j < 9
      · rw [kX_lo hj9, kX_lo hj9, up_other _ _ hjk]
      · rw [kX_hi hj9, kX_hi hj9]
  have pres : ∀ {x : LV} {sz : Nat} {ty : TypeId} {F : Nat → List Value}, Rw w x sz ty F → (∀ b, x.b = some b → own b ≠ .no ∧ own b ≠ .out k) → Rw w2 x sz ty F := fun hx ho => hx.upd u2 fun b hb hh => by
    obtain ⟨o1, o2⟩ := ho b hb
    rcases hh with hh | hh
    · rw [hh] at o1; exact o1 h.ko.pb0
    · exact o2 hh
  have hlt := h.ko.lt
  refine hQ w2 own2 v2 ⟨⟨k2.p, fun j hj => (k2.o j hj).congr fun i _ => hX j i, k2.wn, k2.pb0, k2.lt⟩, fun T hT i hi => ?_, fun T hT => ?_, fun T hT i hi => ?_, fun T hT i hi => ?_⟩ l2 (u2.mono fun b hb => hb.elim .inl fun hh => .inr (.inl ⟨_, hh⟩)) oo on fun x k' i' F' hx => ⟨pres hx.1 fun b hb => by rw [hx.2.1 b hb]; simp, fun b hb => ?_, hx.2.2⟩
  · rw [up_other _ _ (by omega : 6 + T ≠ k)] at hi
    rw [up_other _ _ (by omega : 6 + T ≠ k)]
    obtain ⟨g1, g2⟩ := h.lf T hT i hi
    exact ⟨pres g1 fun b hb => by rw [g2 b hb]; simp, fun b hb => by rw [oo b (hlt b (by rw [g2 b hb]; simp))]; exact g2 b hb⟩
  · rw [up_other _ _ (by omega : 9 + T ≠ k), up_other _ _ (by omega : 6 + T ≠ k)]; exact h.ls T hT
  · rw [up_other _ _ (by omega : 9 + T ≠ k)] at hi ⊢; exact h.sb T hT i hi
  · rw [up_other _ _ (by omega : 6 + T ≠ k)] at hi
    rw [up_other _ _ (by omega : 6 + T ≠ k)]
    exact h.lb T hT i hi
  · have := hx.2.1 b hb
    rw [oo b (hlt b (by rw [this]; simp))]; exact this
end

def rowOK : Nat → List Value → Prop
  | 0, r => ∃ x : Int, r = [I x]
  | 1, r => ∃ p : Pg, r = p.cells
  | _, r => ∃ b : Bk, r = b.cells
/-- The keep, all of it. N: no more marked lists than that of a kind. -/
structure KI (w : World) (pb : Nat) (sv rv : Value) (own : Nat → Own) (O : Nat → LV) (L : Nat → Nat → LV) (S : Nat → Nat → Int) (Cn : Nat → Nat → Nat → List Value) (N : Nat) (P : Prop) : Prop where
  f : KF w pb sv rv own O L S
  q : P → ∀ k, k < 6 → ∀ i, i < (O k).l → KQ1 w own (L k i) k i (Cn (k / 2) i)
  e : (O 1).l = (O 0).l ∧ (O 2).l = (O 0).l ∧ (O 3).l = (O 0).l ∧ (O 5).l = (O 4).l ∧ (O 0).l + (O 4).l ≤ 32
  el : P → ∀ T, T < 3 → ∀ i, i < (O (2 * T)).l → (L (2 * T) i).l = (L (2 * T + 1) i).l
  ok : P → ∀ T, T < 3 → ∀ i, i < (O (2 * T)).l → ∀ j, j < (L (2 * T) i).l → rowOK T (Cn T i j)
  n : ∀ T, T < 3 → (O (9 + T)).l ≤ N
theorem KI.ks {w w' : World} {P : Prop} {pb d N : Nat} {sv rv : Value} {own own' : Nat → Own} {O O' : Nat → LV} {L L' : Nat → Nat → LV} {S S' : Nat → Nat → Int} {Cn : Nat → Nat → Nat → List Value} (h : KI w pb sv rv own O L S Cn N P) (hf : KF w' pb sv rv own' O' L' S') (s : KS pb d w w' own own' O O' L L') : KI w' pb sv rv own' O' L' S' Cn (N + d) P := by
  have e0 := (s.q 0 (by omega)).1
  have e1 := (s.q 1 (by omega)).1
  have e2 := (s.q 2 (by omega)).1
  have e3 := (s.q 3 (by omega)).1
  have e4 := (s.q 4 (by omega)).1
  have e5 := (s.q 5 (by omega)).1
  refine ⟨hf, fun hP k hk i hi => ?_, by rw [e0, e1, e2, e3, e4, e5]; exact h.e, fun hP T hT i hi => ?_, fun hP T hT i hi j hj => ?_, fun T hT => ?_⟩
  · obtain ⟨q1, q2⟩ := s.q k hk
    rw [q1] at hi
    rw [q2]
    exact (h.q hP k hk i hi).ks h.f s
  · rw [(s.q (2 * T) (by omega)).1] at hi
    rw [(s.q (2 * T) (by omega)).2, (s.q (2 * T + 1) (by omega)).2]
    exact h.el hP T hT i hi
  · rw [(s.q (2 * T) (by omega)).1] at hi
    rw [(s.q (2 * T) (by omega)).2] at hj
    exact h.ok hP T hT i hi j hj
  · have := s.n T hT; have := h.n T hT; omega
theorem KI.cl {P : Prop} {w : World} {pb N : Nat} {sv rv : Value} {own : Nat → Own} {O : Nat → LV} {L : Nat → Nat → LV} {S : Nat → Nat → Int} {Cn : Nat → Nat → Nat → List Value} (h : KI w pb sv rv own O L S Cn N P) {v : LV} {o : Own} (hv : ∀ b, v.b = some b → own b = .no ∧ b < w.heap.size ∧ b ≠ pb) : KI w pb sv rv (cl own v o) O L S Cn N P :=
  ⟨h.f.cl hv, fun hP k hk i hi => (h.q hP k hk i hi).cl fun b hb => by rw [(hv b hb).1]; simp, h.e, h.el, h.ok, h.n⟩
theorem KI.kp {P : Prop} {w w' : World} {pb N : Nat} {sv rv : Value} {own : Nat → Own} {O : Nat → LV} {L : Nat → Nat → LV} {S : Nat → Nat → Int} {Cn : Nat → Nat → Nat → List Value} (h : KI w pb sv rv own O L S Cn N P) (u : Kp w w') : KI w' pb sv rv own O L S Cn N P :=
  ⟨h.f.kp u, fun hP k hk i hi => (h.q hP k hk i hi).upd u fun _ _ h => h, h.e, h.el, h.ok, h.n⟩
theorem KI.upd {P : Prop} {w w' : World} {pb N : Nat} {sv rv : Value} {own : Nat → Own} {O : Nat → LV} {L : Nat → Nat → LV} {S : Nat → Nat → Int} {Cn : Nat → Nat → Nat → List Value} {G : Nat → Prop} (h : KI w pb sv rv own O L S Cn N P) (u : Upd G w w') (hp : ¬ G pb) (ho : ∀ b, own b ≠ .no → ¬ G b) : KI w' pb sv rv own O L S Cn N P :=
  ⟨h.f.upd u hp ho, fun hP k hk i hi => (h.q hP k hk i hi).upd u fun b hb => ho b (by rw [hb]; simp), h.e, h.el, h.ok, h.n⟩
/-- There is a keep in such order. -/
def KX (w : World) (pb : Nat) (sv rv : Value) (own : Nat → Own) (N : Nat) (P : Prop) : Prop := ∃ O L S Cn, KI w pb sv rv own O L S Cn N P
/-- A list that is nobody's. -/
def Fre (w : World) (pb B : Nat) (own : Nat → Own) (v : LV) : Prop := ∀ b, v.b = some b → own b = .no ∧ b < w.heap.size ∧ b ≠ pb ∧ B ≤ b

section
variable {P : Prop} {w w' : World} {pb B N : Nat} {sv rv : Value} {own : Nat → Own}
theorem Fre.kr {own' : Nat → Own} {d : Nat} {O O' : Nat → LV} {L L' : Nat → Nat → LV} {v : LV} (h : Fre w pb B own v) (s : KS pb d w w' own own' O O' L L') : Fre w' pb B own' v := fun b hb => by
  obtain ⟨h1, h2, h3, h4⟩ := h b hb
  exact ⟨by rw [s.oo b h2]; exact h1, Nat.lt_of_lt_of_le h2 s.u.sz, h3, h4⟩
theorem Fre.rw {own' : Nat → Own} {d sz : Nat} {ty : TypeId} {F : Nat → List Value} {O O' : Nat → LV} {L L' : Nat → Nat → LV} {v : LV} (h : Fre w pb B own v) (hR : Rw w v sz ty F) (s : KS pb d w w' own own' O O' L L') : Rw w' v sz ty F := hR.upd s.u fun b hb hh => by
  obtain ⟨h1, h2, h3, h4⟩ := h b hb
  rcases hh with hh | ⟨_, hh⟩ | ⟨_, _, hh⟩
  · exact h3 hh
  · rw [h1] at hh; cases hh
  · rw [h1] at hh; cases hh
theorem Fre.cl {v x : LV} {o : Own} (h : Fre w pb B own v) (hne : ∀ b, v.b = some b → x.b ≠ some b) : Fre w pb B (Go.Wx.cl own x o) v := fun b hb => by
  rw [cl_other (hne b hb)]; exact h b hb
theorem Fre.kp {v : LV} (h : Fre w pb B own v) (u : Kp w w') : Fre w' pb B own v := fun b hb => by
  obtain ⟨h1, h2, h3, h4⟩ := h b hb
  exact ⟨h1, Nat.lt_of_lt_of_le h2 u.sz, h3, h4⟩

/-- A fresh list is marked. -/
theorem mark_of {T : Nat} {f : FuncId} {v : LV} {F : Nat → List Value} (h : KX w pb sv rv own N P) (hT : T < 3)
    (c : ∀ {own : Nat → Own} {O : Nat → LV} {L : Nat → Nat → LV} {S : Nat → Nat → Int}, KF w pb sv rv own O L S → (∀ b, v.b = some b → own b = .fu T (1000003 + ((O (9 + T)).l : Int))) → (O (9 + T)).l ≤ 100000 →
      Ret PR f [.pointer (some ⟨pb, 2, none⟩), v.val] w fun r w' => r = .tuple (Array.mk []) ∧ ∃ own' O' L' S', KF w' pb sv rv own' O' L' S' ∧ KS pb 8 w w' own own' O O' L L')
    (hN : N ≤ 100000) (hv : Fre w pb B own v) (hB : B ≤ w.heap.size) :
    Ret PR f [.pointer (some ⟨pb, 2, none⟩), v.val] w fun r w' => r = .tuple (Array.mk []) ∧ ∃ own', KX w' pb sv rv own' (N + 8) P ∧ KR pb B w w' own own' ∧
      (∀ x : LV, Fre w pb B own x → (∀ b, x.b = some b → v.b ≠ some b) → Fre w' pb B own' x ∧ ∀ sz ty F, Rw w x sz ty F → Rw w' x sz ty F) ∧ (∀ b o, own b = .no → b ≠ pb → v.b ≠ some b → w.heap[b]? = some o → w'.heap[b]? = some o ∧ own' b = .no) := by
  obtain ⟨O, L, S, Cn, h⟩ := h
  have h1 := h.cl (v := v) (o := .fu T (1000003 + ((O (9 + T)).l : Int))) fun b hb => ⟨(hv b hb).1, (hv b hb).2.1, (hv b hb).2.2.1⟩
  refine (c h1.f cl_self (Nat.le_trans (h.n T hT) hN)).mono ?_
  rintro r w' ⟨hr, own', O', L', S', f', s⟩
  refine ⟨hr, own', ⟨O', L', S', Cn, h1.ks f' s⟩, (KR.cl fun b hb => (hv b hb).2.2.2).trans (s.kr hB), fun x hx hne => ?_, fun b o hbo hbp hbv hbw => ?_⟩
  · have hx1 := hx.cl (x := v) (o := .fu T (1000003 + ((O (9 + T)).l : Int))) hne
    exact ⟨hx1.kr s, fun sz ty F hR => hx1.rw hR s⟩
  · have ho := cl_other (own := own) (o := .fu T (1000003 + ((O (9 + T)).l : Int))) hbv
    rw [hbo] at ho
    refine ⟨s.u.at hbw ?_, by rw [s.oo b (lt_of_look hbw)]; exact ho⟩
    rintro (hh | ⟨_, hh⟩ | ⟨_, _, hh⟩)
    · exact hbp hh
    · rw [ho] at hh; cases hh
    · rw [ho] at hh; cases hh
end
end Go.Wx
end
section
/- Contracts of the keep's blocks and dump. -/
set_option linter.unusedVariables false
set_option maxRecDepth 100000
namespace Go.Wx
open Go

/-- Lists are being put away: of the fields from lo on, those below j have theirs. -/
structure DQ (P : Prop) (pb B : Nat) (sv rv : Value) (lo : Nat) (vs : Nat → LV) (base : Nat → Nat) (Cn : Nat → Nat → Nat → List Value) (O0 : Nat → LV) (L0 : Nat → Nat → LV) (S : Nat → Nat → Int) (w0 : World) (own0 : Nat → Own) (j : Nat) (w : World) (own : Nat → Own) (O : Nat → LV) (L : Nat → Nat → LV) : Prop where
  f : KF w pb sv rv own O L S
  q : P → ∀ k, k < 6 → ∀ i, i < (O k).l → KQ1 w own (L k i) k i (Cn (k / 2) i)
  l : ∀ k, k < 6 → (O k).l = base k + if lo ≤ k ∧ k < j then 1 else 0
  v : ∀ k, lo ≤ k → k < j → k < 6 → L k (base k) = vs k
  o : ∀ k, k < 6 → ∀ i, i < base k → L k i = L0 k i
  s : ∀ T, T < 3 → (O (9 + T)).l = (O0 (9 + T)).l
  r : ∀ k, j ≤ k → k < 6 → KQ1 w own (vs k) k (base k) (Cn (k / 2) (base k))
  k : KR pb B w0 w own0 own

section
variable {P : Prop} {pb B lo j : Nat} {sv rv : Value} {vs : Nat → LV} {base : Nat → Nat} {Cn : Nat → Nat → Nat → List Value} {O0 : Nat → LV} {L0 : Nat → Nat → LV} {S : Nat → Nat → Int} {w0 w : World} {own0 own : Nat → Own} {O : Nat → LV} {L : Nat → Nat → LV}
theorem DQ.kp {w' : World} (h : DQ P pb B sv rv lo vs base Cn O0 L0 S w0 own0 j w own O L) (u : Kp w w') : DQ P pb B sv rv lo vs base Cn O0 L0 S w0 own0 j w' own O L :=
  ⟨h.f.kp u, fun hP k hk i hi => (h.q hP k hk i hi).upd u fun _ _ h => h, h.l, h.v, h.o, h.s, fun k hk hk6 => (h.r k hk hk6).upd u fun _ _ h => h, h.k.trans (KR.kp u)⟩
theorem DQ.push (h : DQ P pb B sv rv lo vs base Cn O0 L0 S w0 own0 j w own O L) (hj : j < 6) (hlo : lo ≤ j) (hN : base j ≤ 999) (hB : B ≤ w.heap.size) {tb : Nat} {tt : TypeId} (ht : w.heap[tb]? = some (Bl [Value.slice (vs j).ad (vs j).l (vs j).c] tt)) {Q : World → Prop}
    (hQ : ∀ w' own' O' L', DQ P pb B sv rv lo vs base Cn O0 L0 S w0 own0 (j + 1) w' own' O' L' → Upd (KG pb own) w w' → (∀ b, b < w.heap.size → own' b = own b) → Q w') :
    ∃ old new, rdx w (O j).ad ((O j).l * 1) old ∧ rdx w (some ⟨tb, 0, none⟩) 1 new ∧ (∀ x, List.Mem x new → isLeaf x = true) ∧ ((O j).l + 1) * 24 ≤ 1099511627776 ∧ canApp w (O j).ad (O j).l (O j).c 1 1 ∧
      ∀ b c w', AppTo w (O j).ad (O j).l (O j).c 1 1 old new [Value.slice none 0 0] (ot j) b c w' → stx w' ((Addr.mk pb 2 none).add j) [Value.slice b ((O j).l + 1) c] 0 Q := by
  have hlj : (O j).l = base j := by rw [h.l j hj, if_neg (by omega)]; rfl
  refine h.f.pushq (v := vs j) hj (by omega) ht fun w2 own2 v2 f2 l2 u2 oo on pres => hQ w2 own2 (up O j v2) (up L j (up (L j) (O j).l (vs j))) ⟨f2, fun hP k hk i hi => ?_, fun k hk => ?_, fun k hk1 hk2 hk6 => ?_, fun k hk i hi => ?_, fun T hT => ?_, fun k hk hk6 => pres _ _ _ _ (h.r k (by omega) hk6), h.k.trans ⟨u2.mono fun b hb => .inl hb, fun b hb => oo b (by omega), fun b hb => (on b hb).elim .inl fun hh => .inr (by omega)⟩⟩ u2 oo
  · by_cases hkj : k = j
    · subst hkj
      rw [up_same] at hi ⊢
      by_cases hil : i = (O k).l
      · subst hil
        rw [up_same, hlj]
        exact pres _ _ _ _ (h.r k (Nat.le_refl _) hk)
      · rw [up_other _ _ hil]; exact pres _ _ _ _ (h.q hP k hk i (by omega))
    · rw [up_other _ _ hkj] at hi ⊢
      exact pres _ _ _ _ (h.q hP k hk i hi)
  · by_cases hkj : k = j
    · subst hkj; rw [up_same, l2, hlj, if_pos ⟨hlo, by omega⟩]
    · rw [up_other _ _ hkj, h.l k hk]
      by_cases hh : lo ≤ k ∧ k < j
      · rw [if_pos hh, if_pos ⟨hh.1, by omega⟩]
      · rw [if_neg hh, if_neg fun h2 => hh ⟨h2.1, by omega⟩]
  · by_cases hkj : k = j
    · subst hkj; rw [up_same, ← hlj, up_same]
    · rw [up_other _ _ hkj]; exact h.v k hk1 (by omega) hk6
  · by_cases hkj : k = j
    · subst hkj; rw [up_same, up_other _ _ (by omega)]; exact h.o k hk i hi
    · rw [up_other _ _ hkj]; exact h.o k hk i hi
  · rw [up_other _ _ (by omega : 9 + T ≠ j)]; exact h.s T hT

/-- One of a dump's lists is put away. -/
theorem DQ.step (h : DQ P pb B sv rv lo vs base Cn O0 L0 S w0 own0 j w own O L) (hj : j < 6) (hlo : lo ≤ j) (hN : base j ≤ 999) (hB : B ≤ w.heap.size) {bb x : Nat} {cs : List Value} (hb : w.heap[bb]? = some (Bl cs 81)) (hx : cs[x]? = some (vs j).val) {Q : World → Prop}
    (hQ : ∀ w' own' O' L', DQ P pb B sv rv lo vs base Cn O0 L0 S w0 own0 (j + 1) w' own' O' L' → (∀ b cs, b ≠ pb → own b = .no → b < w.heap.size → w.heap[b]? = some (Bl cs 81) → w'.heap[b]? = some (Bl cs 81) ∧ own' b = .no ∧ b < w'.heap.size) → w.heap.size ≤ w'.heap.size → Q w') :
    ∃ a l c, (World.drew w).cell? ((Addr.mk bb 0 none).add x) = some (Value.slice a l c) ∧ ∃ a_1 l_1 c_1, (World.drew w).cell? ((Addr.mk pb 2 none).add j) = some (Value.slice a_1 l_1 c_1) ∧
      atW ((World.drew w).alloc (Obj.cells (Array.mk [Value.slice a l c]) (ot j))) fun w3 => (∀ (b : Nat) (o : Obj), (World.drew w).heap[b]? = some o → w3.heap[b]? = some o) ∧
        ∃ old new, rdx w3 a_1 (l_1 * 1) old ∧ rdx w3 (some (Addr.mk (World.drew w).heap.size 0 none)) 1 new ∧ (∀ v : Value, List.Mem v new → isLeaf v = true) ∧ (l_1 + 1) * 24 ≤ 1099511627776 ∧ canApp w3 a_1 l_1 c_1 1 1 ∧
          ∀ (b : Option Addr) (c : Nat) (w4 : World), AppTo w3 a_1 l_1 c_1 1 1 old new [Value.slice none 0 0] (ot j) b c w4 → stx w4 ((Addr.mk pb 2 none).add j) [Value.slice b (l_1 + 1) c] 0 Q := by
  generalize hwd : World.drew w = wd
  have d1 : Kp w wd := hwd ▸ ext_drew w
  have h1 := h.kp d1
  refine ⟨_, _, _, by rw [add_mk, cell_of (d1.at hb), Nat.zero_add]; exact hx, _, _, _, h1.f.ko.cell (k := j) (by omega), atW_new fun w3 n3 => ⟨n3.ext.draw, ?_⟩⟩
  have h3 := h1.kp n3.ext
  have s1 := d1.sz
  have s3 := n3.sz
  refine h3.push hj hlo hN (by omega) n3.at0 fun w' own' O' L' hD u oo => hQ w' own' O' L' hD (fun b cs hbp hbo hbl hbc => ?_) (by have := u.sz; omega)
  have hbg : ¬ KG pb own b := by
    rintro (hh | ⟨_, hh⟩ | ⟨_, _, hh⟩)
    · exact hbp hh
    · rw [hbo] at hh; cases hh
    · rw [hbo] at hh; cases hh
  have hk := u.at (n3.ext.at (d1.at hbc)) hbg
  exact ⟨hk, by rw [oo b (by omega)]; exact hbo, lt_of_look hk⟩

/-- All are put away. -/
theorem DQ.done {N : Nat} (h : DQ P pb B sv rv lo vs base Cn O0 L0 S w0 own0 6 w own O L) (hlo : lo = 0 ∨ lo = 4) (he : base 1 = base 0 ∧ base 2 = base 0 ∧ base 3 = base 0 ∧ base 5 = base 4 ∧ base 0 + base 4 ≤ 30)
    (hel : P → ∀ T, T < 3 → ∀ i, i < base (2 * T) → (L0 (2 * T) i).l = (L0 (2 * T + 1) i).l) (hok : P → ∀ T, T < 3 → ∀ i, i < base (2 * T) → ∀ j, j < (L0 (2 * T) i).l → rowOK T (Cn T i j))
    (hvl : ∀ T, lo ≤ 2 * T → T < 3 → (vs (2 * T)).l = (vs (2 * T + 1)).l) (hvo : ∀ T, lo ≤ 2 * T → T < 3 → ∀ j, j < (vs (2 * T)).l → rowOK T (Cn T (base (2 * T)) j)) (hn : ∀ T, T < 3 → (O0 (9 + T)).l ≤ N) : KI w pb sv rv own O L S Cn N P := by
  have l0 := h.l 0 (by omega)
  have l1 := h.l 1 (by omega)
  have l2 := h.l 2 (by omega)
  have l3 := h.l 3 (by omega)
  have l4 := h.l 4 (by omega)
  have l5 := h.l 5 (by omega)
  obtain ⟨b1, b2, b3, b5, b6⟩ := he
  have hpair : ∀ T, T < 3 → base (2 * T + 1) = base (2 * T) := fun T hT => by
    match T, hT with
    | 0, _ => exact b1
    | 1, _ => show base 3 = base 2; omega
    | 2, _ => exact b5
  refine ⟨h.f, h.q, ?_, fun hP T hT i hi => ?_, fun hP T hT i hi j hj => ?_, fun T hT => by rw [h.s T hT]; exact hn T hT⟩
  · rcases hlo with rfl | rfl
    · rw [if_pos (by omega)] at l0 l1 l2 l3 l4 l5; omega
    · rw [if_neg (by omega)] at l0 l1 l2 l3
      rw [if_pos (by omega)] at l4 l5
      omega
  · rw [h.l (2 * T) (by omega)] at hi
    by_cases hib : i < base (2 * T)
    · rw [h.o (2 * T) (by omega) i hib, h.o (2 * T + 1) (by omega) i (by rw [hpair T hT]; exact hib)]
      exact hel hP T hT i hib
    · by_cases hl : lo ≤ 2 * T ∧ 2 * T < 6
      · rw [if_pos hl] at hi
        have : i = base (2 * T) := by omega
        subst this
        have e2 := h.v (2 * T + 1) (by omega) (by omega) (by omega)
        rw [hpair T hT] at e2
        rw [h.v (2 * T) hl.1 (by omega) (by omega), e2]
        exact hvl T hl.1 hT
      · rw [if_neg hl] at hi; omega
  · rw [h.l (2 * T) (by omega)] at hi
    by_cases hib : i < base (2 * T)
    · rw [h.o (2 * T) (by omega) i hib] at hj
      exact hok hP T hT i hib j hj
    · by_cases hl : lo ≤ 2 * T ∧ 2 * T < 6
      · rw [if_pos hl] at hi
        have : i = base (2 * T) := by omega
        subst this
        rw [h.v (2 * T) hl.1 (by omega) (by omega)] at hj
        exact hvo T hl.1 hT j hj
      · rw [if_neg hl] at hi; omega

theorem KI.setC {N : Nat} {Cn' : Nat → Nat → Nat → List Value} (h : KI w pb sv rv own O L S Cn N P) (hc : ∀ T, T < 3 → ∀ i, i < (O (2 * T)).l → Cn' T i = Cn T i) : KI w pb sv rv own O L S Cn' N P := by
  obtain ⟨e1, e2, e3, e5, _⟩ := h.e
  refine ⟨h.f, fun hP k hk i hi => ?_, h.e, h.el, fun hP T hT i hi j hj => by rw [hc T hT i hi]; exact h.ok hP T hT i hi j hj, h.n⟩
  have hl : (O k).l = (O (2 * (k / 2))).l := by
    match k, hk with
    | 0, _ => rfl
    | 1, _ => exact e1
    | 2, _ => rfl
    | 3, _ => show (O 3).l = (O 2).l; omega
    | 4, _ => rfl
    | 5, _ => exact e5
  rw [hc (k / 2) (by omega) i (by rw [← hl]; exact hi)]
  exact h.q hP k hk i hi

/-- The blocks of lists that are to be put away are theirs. -/
theorem DQ.start {N : Nat} (h : KI w pb sv rv own O L S Cn N P) (hlo : lo = 0 ∨ lo = 4) (hF : ∀ k, lo ≤ k → k < 6 → Fre w pb B own (vs k)) (hne : ∀ i k, lo ≤ i → i < k → k < 6 → ∀ b, (vs k).b = some b → (vs i).b ≠ some b)
    (hR : ∀ k, lo ≤ k → k < 6 → Rw w (vs k) (szT (k / 2)) (tyT (k / 2)) (Cn (k / 2) (O k).l) ∧ (vs k).l ≤ 1600) :
    ∃ own1, DQ P pb B sv rv lo vs (fun k => (O k).l) Cn O L S w own lo w own1 O L ∧ ∀ b, (∀ k, lo ≤ k → k < 6 → (vs k).b ≠ some b) → own1 b = own b := by
  have main : ∀ m, lo + m ≤ 6 → ∃ own1, KI w pb sv rv own1 O L S Cn N P ∧ KR pb B w w own own1 ∧ (∀ k, lo ≤ k → k < lo + m → ∀ b, (vs k).b = some b → own1 b = .li k (O k).l) ∧ (∀ k, lo + m ≤ k → k < 6 → Fre w pb B own1 (vs k)) ∧ ∀ b, (∀ k, lo ≤ k → k < 6 → (vs k).b ≠ some b) → own1 b = own b := by
    intro m
    induction m with
    | zero => intro _; exact ⟨own, h, KR.kp kp0, fun k h1 h2 => by omega, fun k h1 h2 => hF k (by omega) h2, fun _ _ => rfl⟩
    | succ m ih =>
      intro hm
      obtain ⟨own1, g1, g2, g3, g4, g5⟩ := ih (by omega)
      have hv := g4 (lo + m) (Nat.le_refl _) (by omega)
      refine ⟨cl own1 (vs (lo + m)) (.li (lo + m) (O (lo + m)).l), g1.cl fun b hb => ⟨(hv b hb).1, (hv b hb).2.1, (hv b hb).2.2.1⟩, g2.trans (KR.cl fun b hb => (hv b hb).2.2.2), fun k h1 h2 b hb => ?_, fun k h1 h2 => ?_, fun b hb => ?_⟩
      · by_cases hk : k = lo + m
        · subst hk; exact cl_self b hb
        · rw [cl_other fun e => hne k (lo + m) h1 (by omega) (by omega) b e hb]
          exact g3 k h1 (by omega) b hb
      · exact (g4 k (by omega) h2).cl fun b hb => hne (lo + m) k (by omega) (by omega) h2 b hb
      · rw [cl_other (hb (lo + m) (by omega) (by omega))]; exact g5 b hb
  obtain ⟨own1, g1, g2, g3, g4, g5⟩ := main (6 - lo) (by omega)
  refine ⟨own1, ⟨g1.f, g1.q, fun k hk => by rw [if_neg (by omega)]; rfl, fun k h1 h2 _ => by omega, fun _ _ _ _ => rfl, fun _ _ => rfl, fun k h1 h2 => ⟨(hR k h1 h2).1, g3 k h1 (by omega), (hR k h1 h2).2⟩, g2⟩, g5⟩
end

theorem KX.mono {P : Prop} {w : World} {pb N N' : Nat} {sv rv : Value} {own : Nat → Own} (h : KX w pb sv rv own N P) (hN : N ≤ N') : KX w pb sv rv own N' P := by
  obtain ⟨O, L, S, Cn, h⟩ := h
  exact ⟨O, L, S, Cn, h.f, h.q, h.e, h.el, h.ok, fun T hT => Nat.le_trans (h.n T hT) hN⟩

section
variable {P : Prop} {w : World} {pb B N : Nat} {sv rv : Value} {own : Nat → Own}
theorem c39 (h : KX w pb sv rv own N P) (hN : N ≤ 90000) {l want : LV} {F : Nat → List Value} (hl : Rw w l 5 106 F) (hw : Rw w want 5 106 F) (he : l.l = want.l) (hlen : l.l ≤ 1600) (hok : ∀ i, i < l.l → ∃ b : Bk, F i = b.cells)
    (fl : Fre w pb B own l) (fw : Fre w pb B own want) (hne : ∀ b, want.b = some b → l.b ≠ some b) (hB : B ≤ w.heap.size) (quiet : Bool) :
    Ret PR 39 [.pointer (some ⟨pb, 2, none⟩), l.val, want.val, .bool quiet] w fun r w' => r = .bool true ∧ ∃ own', KX w' pb sv rv own' (N + 8) P ∧ KR pb B w w' own own' := by
  refine Ret.of ((S39_eq _ _ _ _ _ _ _ _ w _).mpr ?_)
  unfold S39
  refine (c85 hl hw he hok (by omega)).use fun w1 e1 => ⟨true, rfl, ifB_nb (fun hh => by cases hh) fun _ => ?_⟩
  obtain ⟨O, L, S, Cn, h⟩ := h
  have h1 := h.kp e1
  obtain ⟨q1, q2, q3, q5, qs⟩ := h.e
  refine (c86 h1.f (by omega) (by omega)).use fun w2 e2 => ⟨_, rfl, ifB_d (fun _ => ⟨rfl, own, ⟨O, L, S, Cn, (h1.kp e2).f, (h1.kp e2).q, h.e, h.el, h.ok, fun T hT => by have := h.n T hT; omega⟩, KR.kp (e1.trans e2)⟩) fun hmany => ?_⟩
  have k2 : Kp w w2 := e1.trans e2
  have h2 := h.kp k2
  have z2 := k2.sz
  refine ifB_b (fun hq => ?_) fun hq => ?_
  · obtain ⟨Cn', hCn⟩ : ∃ Cn', Cn' = up Cn 2 (up (Cn 2) (O 4).l F) := ⟨_, rfl⟩
    have hC2 : Cn' 2 (O 4).l = F := by rw [hCn, up_same, up_same]
    have h3 := h2.setC (Cn' := Cn') fun T hT i hi => by
      rw [hCn]
      by_cases hT2 : T = 2
      · subst hT2; rw [up_same, up_other _ _ (by have hi : i < (O 4).l := hi; omega)]
      · rw [up_other _ _ hT2]
    obtain ⟨own1, hD, _⟩ := DQ.start (B := B) (lo := 4) (vs := fun k => if k = 4 then l else want) h3 (.inr rfl) (fun k h1 h2 => by
        by_cases hk : k = 4
        · subst hk; exact fl.kp k2
        · rw [if_neg hk]; exact fw.kp k2) (fun i k h1 h2 h3 => by
        have hi : i = 4 := by omega
        have hk : k = 5 := by omega
        subst hi hk
        exact hne) (fun k h1 h2 => by
        by_cases hk : k = 4
        · subst hk; rw [show (4 : Nat) / 2 = 2 from rfl, hC2]; exact ⟨hl.upd k2 fun _ _ h => h, hlen⟩
        · have : k = 5 := by omega
          subst this; rw [show (5 : Nat) / 2 = 2 from rfl, q5, hC2]; exact ⟨hw.upd k2 fun _ _ h => h, by show want.l ≤ 1600; omega⟩)
    refine ⟨_, _, _, hD.f.ko.cell (k := 4) (by omega), atW_new fun w3 n3 => ?_⟩
    have z3 := n3.sz
    refine (hD.kp n3.ext).push (j := 4) (by omega) (by omega) (by omega) (by omega) n3.at0 fun w4 own4 O4 L4 hD4 u4 oo4 => ?_
    refine ⟨_, _, _, hD4.f.ko.cell (k := 5) (by omega), atW_new fun w5 n5 => ?_⟩
    have z4 := u4.sz
    have z5 := n5.sz
    refine (hD4.kp n5.ext).push (j := 5) (by omega) (by omega) (by omega) (by omega) n5.at0 fun w6 own6 O6 L6 hD6 u6 oo6 => ?_
    refine ⟨rfl, own6, ⟨O6, L6, S, Cn', hD6.done (.inr rfl) (by omega) h3.el h3.ok (fun T h1 h2 => ?_) (fun T h1 h2 j hj => ?_) fun T hT => by have := h.n T hT; omega⟩, (KR.kp k2).trans hD6.k⟩
    · have : T = 2 := by omega
      subst this; exact he
    · have : T = 2 := by omega
      subst this
      show rowOK 2 (Cn' 2 (O 4).l j)
      rw [hC2]
      exact hok j hj
  · have hm := mark_of (f := 87) (T := 2) (v := l) (F := F) ⟨O, L, S, Cn, h2⟩ (by omega) (fun f o n => c87 f (hl.upd k2 fun _ _ h => h) o n (by omega)) (by omega) (fl.kp k2) (by omega)
    refine hm.use ?_
    rintro r w3 ⟨rfl, own', g1, g2, _⟩
    exact ⟨rfl, rfl, own', g1, (KR.kp k2).trans g2⟩

/-- Six lists, as a dump's and the document's. -/
def six (L1 M1 L2 M2 L3 M3 : LV) : Nat → LV
  | 0 => L1 | 1 => M1 | 2 => L2 | 3 => M2 | 4 => L3 | _ => M3
theorem lt6 {k : Nat} (h : k < 6) : k = 0 ∨ k = 1 ∨ k = 2 ∨ k = 3 ∨ k = 4 ∨ k = 5 := by omega
theorem Rw.ne {v x : LV} {sz sz' : Nat} {ty ty' : TypeId} {F G : Nat → List Value} (h : Rw w v sz ty F) (h' : Rw w x sz' ty' G) (ht : ty ≠ ty') : ∀ b, x.b = some b → v.b ≠ some b := fun b h1 h2 => by
  obtain ⟨cs, g1, _⟩ := h.2.2 b h2
  obtain ⟨cs', g2, _⟩ := h'.2.2 b h1
  exact ne_ty g1 g2 ht rfl

theorem c47 (h : KX w pb sv rv own N P) (hN : N ≤ 80000) {L1 M1 L2 M2 L3 M3 : LV} {F1 F2 F3 : Nat → List Value} {hh : Nat → Int} {last : Int} (r1 : Rw w L1 1 3 F1) (m1 : Rw w M1 1 3 F1) (r2 : Rw w L2 3 152 F2) (m2 : Rw w M2 3 152 F2) (r3 : Rw w L3 5 106 F3) (m3 : Rw w M3 5 106 F3)
    (e1 : L1.l = M1.l) (e2 : L2.l = M2.l) (e3 : L3.l = M3.l) (b1 : L1.l ≤ 1600) (b2 : L2.l ≤ 1600) (b3 : L3.l ≤ 1600) (o1 : ∀ i, i < L1.l → ∃ x : Int, F1 i = [I x]) (o2 : ∀ i, i < L2.l → ∃ p : Pg, F2 i = p.cells) (o3 : ∀ i, i < L3.l → ∃ b : Bk, F3 i = b.cells)
    (hF : ∀ k, k < 6 → Fre w pb B own (six L1 M1 L2 M2 L3 M3 k)) (n1 : ∀ b, M1.b = some b → L1.b ≠ some b) (n2 : ∀ b, M2.b = some b → L2.b ≠ some b) (n3 : ∀ b, M3.b = some b → L3.b ≠ some b) (hB : B ≤ w.heap.size) (quiet : Bool) :
    Ret PR 47 [.pointer (some ⟨pb, 2, none⟩), .agg (Array.mk (dCells L1 L2 L3 hh last)), .agg (Array.mk (dCells M1 M2 M3 hh last)), .bool quiet] w fun r w' => r = .bool true ∧ ∃ own', KX w' pb sv rv own' (N + 24) P ∧ KR pb B w w' own own' := by
  refine Ret.of ((S47_eq ..).mpr ?_)
  unfold S47
  refine atW_new fun w1 p1 => atW_new fun w2 p2 => join_two ?_
  have hb1 : w2.heap[w.heap.size]? = some (Bl (dCells L1 L2 L3 hh last) 81) := p2.ext.at p1.at0
  have hb2 : w2.heap[w1.heap.size]? = some (Bl (dCells M1 M2 M3 hh last) 81) := p2.at0
  have k2 : Kp w w2 := p1.ext.trans p2.ext
  refine ⟨_, _, _, cell_of hb1 0, _, _, _, cell_of hb2 0, ?_⟩
  refine (c94 (r1.upd k2 fun _ _ h => h) (m1.upd k2 fun _ _ h => h) e1 o1 (by omega)).use fun w3 x3 => ⟨true, rfl, ifB_nb (fun hh => by cases hh) fun _ => ?_⟩
  have k3 : Kp w w3 := Upd.trans k2 x3
  refine ⟨_, _, _, cell_of (x3.at hb1) 1, _, _, _, cell_of (x3.at hb2) 1, ?_⟩
  refine (c95 (r2.upd k3 fun _ _ h => h) (m2.upd k3 fun _ _ h => h) e2 o2 (by omega)).use fun w4 x4 => ⟨true, rfl, ifB_nb (fun hh => by cases hh) fun _ => ?_⟩
  have k4 : Kp w w4 := Upd.trans k3 x4
  have y4 : Kp w2 w4 := Upd.trans x3 x4
  refine ⟨_, _, _, cell_of (y4.at hb1) 2, _, _, _, cell_of (y4.at hb2) 2, ?_⟩
  refine (c85 (r3.upd k4 fun _ _ h => h) (m3.upd k4 fun _ _ h => h) e3 o3 (by omega)).use fun w5 x5 => ⟨true, rfl, ifB_nb (fun hh => by cases hh) fun _ => ?_⟩
  have k5 : Kp w w5 := Upd.trans k4 x5
  have y5 : Kp w2 w5 := Upd.trans y4 x5
  have c1 := y5.at hb1
  have c2 := y5.at hb2
  refine ⟨_, cell_of c1 3, _, cell_of c1 4, _, cell_of c1 5, _, cell_of c1 6, _, cell_of c1 7, _, cell_of c1 8, _, cell_of c1 9, _, cell_of c1 10, _, cell_of c2 3, _, cell_of c2 4, _, cell_of c2 5, _, cell_of c2 6, _, cell_of c2 7, _, cell_of c2 8, _, cell_of c2 9, _, cell_of c2 10, ifB_nb (fun hh => by simp at hh) fun _ => ?_⟩
  refine ⟨_, cell_of c1 11, _, cell_of c2 11, ifB_ne (fun hh => absurd rfl hh) fun _ => ?_⟩
  dsimp only
  obtain ⟨O, L, S, Cn, h⟩ := h
  have h5 := h.kp k5
  obtain ⟨q1, q2, q3, q5, qs⟩ := h.e
  refine (c86 h5.f (by omega) (by omega)).use fun w6 x6 => ⟨_, rfl, ifB_d (fun _ => ⟨rfl, own, ⟨O, L, S, Cn, (h5.kp x6).f, (h5.kp x6).q, h.e, h.el, h.ok, fun T hT => by have := h.n T hT; omega⟩, KR.kp (Upd.trans k5 x6)⟩) fun hmany => ?_⟩
  have k6 : Kp w w6 := Upd.trans k5 x6
  have h6 := h.kp k6
  have z6 := k6.sz
  have d1 := x6.at c1
  have d2 := x6.at c2
  have s1 := p1.sz
  have hpl := lt_of_look h.f.ko.p
  have no1 : own w.heap.size = .no := Classical.byContradiction fun hh => by have := h.f.ko.lt _ hh; omega
  have no2 : own w1.heap.size = .no := Classical.byContradiction fun hh => by have := h.f.ko.lt _ hh; omega
  have hne : ∀ i k, 0 ≤ i → i < k → k < 6 → ∀ b, (six L1 M1 L2 M2 L3 M3 k).b = some b → (six L1 M1 L2 M2 L3 M3 i).b ≠ some b := by
    intro i k _ hik hk
    have t1 := r1.ne r2 (by decide)
    have t2 := r1.ne m2 (by decide)
    have t3 := r1.ne r3 (by decide)
    have t4 := r1.ne m3 (by decide)
    have t5 := m1.ne r2 (by decide)
    have t6 := m1.ne m2 (by decide)
    have t7 := m1.ne r3 (by decide)
    have t8 := m1.ne m3 (by decide)
    have t9 := r2.ne r3 (by decide)
    have ta := r2.ne m3 (by decide)
    have tb := m2.ne r3 (by decide)
    have tc := m2.ne m3 (by decide)
    rcases lt6 hk with rfl | rfl | rfl | rfl | rfl | rfl <;> rcases lt6 (k := i) (by omega) with rfl | rfl | rfl | rfl | rfl | rfl <;> first
      | (exfalso; omega) | exact n1 | exact n2 | exact n3 | exact t1 | exact t2 | exact t3 | exact t4 | exact t5 | exact t6 | exact t7 | exact t8 | exact t9 | exact ta | exact tb | exact tc
  refine ifB_b (fun hq => ?_) fun hq => ?_
  · obtain ⟨Cn', hCn⟩ : ∃ Cn', Cn' = up (up (up Cn 0 (up (Cn 0) (O 0).l F1)) 1 (up (Cn 1) (O 0).l F2)) 2 (up (Cn 2) (O 4).l F3) := ⟨_, rfl⟩
    have hC0 : Cn' 0 (O 0).l = F1 := by rw [hCn, up_other _ _ (by omega), up_other _ _ (by omega), up_same, up_same]
    have hC1 : Cn' 1 (O 0).l = F2 := by rw [hCn, up_other _ _ (by omega), up_same, up_same]
    have hC2 : Cn' 2 (O 4).l = F3 := by rw [hCn, up_same, up_same]
    have h7 := h6.setC (Cn' := Cn') fun T hT i hi => by
      rw [hCn]
      match T, hT with
      | 0, _ => rw [up_other _ _ (by omega), up_other _ _ (by omega), up_same, up_other _ _ (by have hi : i < (O 0).l := hi; omega)]
      | 1, _ => rw [up_other _ _ (by omega), up_same, up_other _ _ (by have hi : i < (O 2).l := hi; omega)]
      | 2, _ => rw [up_same, up_other _ _ (by have hi : i < (O 4).l := hi; omega)]
    obtain ⟨own1, hD, hown1⟩ := DQ.start (B := B) (lo := 0) (vs := six L1 M1 L2 M2 L3 M3) h7 (.inl rfl) (fun k _ h2 => (hF k h2).kp k6) hne (fun k _ h2 => by
        rcases lt6 h2 with rfl | rfl | rfl | rfl | rfl | rfl
        · show Rw w6 L1 1 3 (Cn' 0 (O 0).l) ∧ L1.l ≤ 1600; rw [hC0]; exact ⟨r1.upd k6 fun _ _ h => h, b1⟩
        · show Rw w6 M1 1 3 (Cn' 0 (O 1).l) ∧ M1.l ≤ 1600; rw [q1, hC0]; exact ⟨m1.upd k6 fun _ _ h => h, by omega⟩
        · show Rw w6 L2 3 152 (Cn' 1 (O 2).l) ∧ L2.l ≤ 1600; rw [q2, hC1]; exact ⟨r2.upd k6 fun _ _ h => h, b2⟩
        · show Rw w6 M2 3 152 (Cn' 1 (O 3).l) ∧ M2.l ≤ 1600; rw [q3, hC1]; exact ⟨m2.upd k6 fun _ _ h => h, by omega⟩
        · show Rw w6 L3 5 106 (Cn' 2 (O 4).l) ∧ L3.l ≤ 1600; rw [hC2]; exact ⟨r3.upd k6 fun _ _ h => h, b3⟩
        · show Rw w6 M3 5 106 (Cn' 2 (O 5).l) ∧ M3.l ≤ 1600; rw [q5, hC2]; exact ⟨m3.upd k6 fun _ _ h => h, by omega⟩)
    have hbs : ∀ k, k < 6 → (O k).l ≤ 999 := fun k hk => by rcases lt6 hk with rfl | rfl | rfl | rfl | rfl | rfl <;> omega
    have g1 : own1 w.heap.size = .no := by
      rw [hown1 _ fun k _ h2 hb => by have := (hF k h2 _ hb).2.1; omega]; exact no1
    have g2 : own1 w1.heap.size = .no := by
      rw [hown1 _ fun k _ h2 hb => by have := (hF k h2 _ hb).2.1; omega]; exact no2
    have pne1 : w.heap.size ≠ pb := by omega
    have pne2 : w1.heap.size ≠ pb := by omega
    refine hD.step (x := 0) (by omega) (by omega) (hbs _ (by omega)) (by omega) d1 rfl fun wa owa Oa La Da fa sa => ?_
    obtain ⟨a1, a2, a3⟩ := fa _ _ pne1 g1 (lt_of_look d1) d1
    obtain ⟨a4, a5, a6⟩ := fa _ _ pne2 g2 (lt_of_look d2) d2
    refine Da.step (x := 0) (by omega) (by omega) (hbs _ (by omega)) (by omega) a4 rfl fun wb owb Ob Lb Db fb sb => ?_
    obtain ⟨a1, a2, a3⟩ := fb _ _ pne1 a2 a3 a1
    obtain ⟨a4, a5, a6⟩ := fb _ _ pne2 a5 a6 a4
    refine Db.step (x := 1) (by omega) (by omega) (hbs _ (by omega)) (by omega) a1 rfl fun wc owc Oc Lc Dc fc sc => ?_
    obtain ⟨a1, a2, a3⟩ := fc _ _ pne1 a2 a3 a1
    obtain ⟨a4, a5, a6⟩ := fc _ _ pne2 a5 a6 a4
    refine Dc.step (x := 1) (by omega) (by omega) (hbs _ (by omega)) (by omega) a4 rfl fun wd owd Od Ld Dd fd sd => ?_
    obtain ⟨a1, a2, a3⟩ := fd _ _ pne1 a2 a3 a1
    obtain ⟨a4, a5, a6⟩ := fd _ _ pne2 a5 a6 a4
    refine Dd.step (x := 2) (by omega) (by omega) (hbs _ (by omega)) (by omega) a1 rfl fun we owe Oe Le De fe se => ?_
    obtain ⟨a1, a2, a3⟩ := fe _ _ pne1 a2 a3 a1
    obtain ⟨a4, a5, a6⟩ := fe _ _ pne2 a5 a6 a4
    refine De.step (x := 2) (by omega) (by omega) (hbs _ (by omega)) (by omega) a4 rfl fun wf owf Of Lf Df ff sf => ?_
    refine ⟨rfl, owf, ⟨Of, Lf, S, Cn', Df.done (.inl rfl) (by omega) h7.el h7.ok (fun T _ hT => ?_) (fun T _ hT j hj => ?_) fun T hT => by have := h.n T hT; omega⟩, (KR.kp k6).trans Df.k⟩
    · match T, hT with
      | 0, _ => exact e1
      | 1, _ => exact e2
      | 2, _ => exact e3
    · match T, hT with
      | 0, _ => show rowOK 0 (Cn' 0 (O 0).l j); rw [hC0]; exact o1 j hj
      | 1, _ => show rowOK 1 (Cn' 1 (O 2).l j); rw [q2, hC1]; exact o2 j hj
      | 2, _ => show rowOK 2 (Cn' 2 (O 4).l j); rw [hC2]; exact o3 j hj
  · have f1 : Fre w6 pb B own L1 := (hF 0 (by omega)).kp k6
    have f2 : Fre w6 pb B own L2 := (hF 2 (by omega)).kp k6
    have f3 : Fre w6 pb B own L3 := (hF 4 (by omega)).kp k6
    have pne1 : w.heap.size ≠ pb := by omega
    have fz : ∀ {v : LV} {k : Nat}, k < 6 → six L1 M1 L2 M2 L3 M3 k = v → v.b ≠ some w.heap.size := fun {v k} hk hv hb => by
      have := (hF k hk w.heap.size (by rw [hv]; exact hb)).2.1
      omega
    refine ⟨_, _, _, cell_of d1 0, ?_⟩
    refine (mark_of (f := 96) (T := 0) (v := L1) (F := F1) ⟨O, L, S, Cn, h6⟩ (by omega) (fun f o n => c96 f (r1.upd k6 fun _ _ h => h) o n (by omega)) (by omega) f1 (by omega)).use ?_
    rintro _ w7 ⟨rfl, own7, x7, kr7, fr7, bl7⟩
    obtain ⟨i1, i2⟩ := bl7 _ _ no1 pne1 (fz (k := 0) (by omega) rfl) d1
    obtain ⟨j2, j2'⟩ := fr7 L2 f2 (fun b hb => hne 0 2 (by omega) (by omega) (by omega) b hb)
    obtain ⟨j3, j3'⟩ := fr7 L3 f3 (fun b hb => hne 0 4 (by omega) (by omega) (by omega) b hb)
    have s7 := kr7.u.sz
    refine ⟨rfl, _, _, _, cell_of i1 1, ?_⟩
    refine (mark_of (f := 97) (T := 1) (v := L2) (F := F2) x7 (by omega) (fun f o n => c97 f (j2' _ _ _ (r2.upd k6 fun _ _ h => h)) o n (by omega)) (by omega) j2 (by omega)).use ?_
    rintro _ w8 ⟨rfl, own8, x8, kr8, fr8, bl8⟩
    obtain ⟨i3, i4⟩ := bl8 _ _ i2 pne1 (fz (k := 2) (by omega) rfl) i1
    obtain ⟨j4, j4'⟩ := fr8 L3 j3 (fun b hb => hne 2 4 (by omega) (by omega) (by omega) b hb)
    have s8 := kr8.u.sz
    refine ⟨rfl, _, _, _, cell_of i3 2, ?_⟩
    refine (mark_of (f := 87) (T := 2) (v := L3) (F := F3) x8 (by omega) (fun f o n => c87 f (j4' _ _ _ (j3' _ _ _ (r3.upd k6 fun _ _ h => h))) o n (by omega)) (by omega) j4 (by omega)).use ?_
    rintro _ w9 ⟨rfl, own9, x9, kr9, _⟩
    exact ⟨rfl, rfl, own9, x9, (KR.kp k6).trans (kr7.trans (kr8.trans kr9))⟩
end
end Go.Wx
end
section
/- Contract of the keep's apart. -/
set_option linter.unusedVariables false
set_option maxRecDepth 100000
namespace Go.Wx
open Go

/-- What a call may turn of the keep; who owned nothing, owns nothing. -/
structure KW (pb B : Nat) (w w' : World) (own own' : Nat → Own) : Prop where
  u : Upd (fun b => b = pb ∨ own b ≠ .no ∨ B ≤ b) w w'
  on : ∀ b, own' b ≠ .no → own b ≠ .no ∨ B ≤ b
theorem KW.trans {pb B : Nat} {w w1 w' : World} {own own1 own' : Nat → Own} (h : KW pb B w w1 own own1) (h1 : KW pb B w1 w' own1 own') : KW pb B w w' own own' := by
  refine ⟨h.u.trans (h1.u.mono fun b hb => ?_), fun b hb => ?_⟩
  · rcases hb with hb | hb | hb
    · exact .inl hb
    · exact .inr (h.on b hb)
    · exact .inr (.inr hb)
  · rcases h1.on b hb with h2 | h2
    · exact h.on b h2
    · exact .inr h2
theorem KR.kw {pb B : Nat} {w w' : World} {own own' : Nat → Own} (h : KR pb B w w' own own') : KW pb B w w' own own' := by
  refine ⟨h.u.mono fun b hb => ?_, h.on⟩
  rcases hb with (hb | ⟨_, hb⟩ | ⟨_, _, hb⟩) | hb
  · exact .inl hb
  · exact .inr (.inl (by rw [hb]; simp))
  · exact .inr (.inl (by rw [hb]; simp))
  · exact .inr (.inr hb)
theorem KW.kp {pb B : Nat} {w w' : World} {own : Nat → Own} (u : Kp w w') : KW pb B w w' own own := ⟨Kp.upd u, fun _ h => .inl h⟩
theorem KW.low {pb B B' : Nat} {w w' : World} {own own' : Nat → Own} (h : KW pb B w w' own own') (hB : B' ≤ B) : KW pb B' w w' own own' :=
  ⟨h.u.mono fun b hb => hb.elim .inl fun hh => .inr (hh.elim .inl fun h3 => .inr (by omega)), fun b hb => (h.on b hb).elim .inl fun hh => .inr (by omega)⟩

section
variable {w : World} {pb N : Nat} {sv rv : Value} {own : Nat → Own}

/-- A list that was left is marked. -/
theorem mark_li {w w0 : World} {own own0 : Nat → Own} {O : Nat → LV} {L : Nat → Nat → LV} {S : Nat → Nat → Int} {T i : Nat} {f : FuncId} (hT : T < 3) {v : LV} {F : Nat → List Value} (h : KF w pb sv rv own O L S) (hv : KQ1 w own v (2 * T) i F)
    (c : ∀ {own : Nat → Own}, KF w pb sv rv own O L S → (∀ b, v.b = some b → own b = .fu T (1000003 + ((O (9 + T)).l : Int))) →
      Ret PR f [.pointer (some ⟨pb, 2, none⟩), v.val] w fun r w' => r = .tuple (Array.mk []) ∧ ∃ own' O' L' S', KF w' pb sv rv own' O' L' S' ∧ KS pb 8 w w' own own' O O' L L') (hk : KW pb w0.heap.size w0 w own0 own) (hs : w0.heap.size ≤ w.heap.size) :
    Ret PR f [.pointer (some ⟨pb, 2, none⟩), v.val] w fun r w' => r = .tuple (Array.mk []) ∧ ∃ own' O' L' S', KF w' pb sv rv own' O' L' S' ∧ KW pb w0.heap.size w0 w' own0 own' ∧ w0.heap.size ≤ w'.heap.size ∧ (∀ k, k < 6 → O' k = O k ∧ L' k = L k) ∧ (∀ T, T < 3 → (O' (9 + T)).l ≤ (O (9 + T)).l + 8) ∧
      ∀ x k j G, KQ1 w own x k j G → ¬ (k = 2 * T ∧ j = i) → KQ1 w' own' x k j G := by
  have h1 := h.clt (o := .fu T (1000003 + ((O (9 + T)).l : Int))) hv.2.1
  refine (c h1 cl_self).mono ?_
  rintro r w' ⟨hr, own', O', L', S', f', s⟩
  refine ⟨hr, own', O', L', S', f', hk.trans ⟨?_, fun b hb => ?_⟩, Nat.le_trans hs s.u.sz, s.q, fun T hT => (s.n T hT).1, fun x k j G hx hne => ?_⟩
  · refine s.u.mono fun b hb => ?_
    have key : ∀ {o : Own}, o ≠ .no → Go.Wx.cl own v (.fu T (1000003 + ((O (9 + T)).l : Int))) b = o → own b ≠ .no := by
      intro o ho he
      by_cases hvb : v.b = some b
      · rw [hv.2.1 b hvb]; simp
      · rw [cl_other hvb] at he; rw [he]; exact ho
    rcases hb with hb | ⟨_, hb⟩ | ⟨_, _, hb⟩
    · exact .inl hb
    · exact .inr (.inl (key (by simp) hb))
    · exact .inr (.inl (key (by simp) hb))
  · rcases s.on b hb with h2 | h2
    · left
      by_cases hvb : v.b = some b
      · rw [hv.2.1 b hvb]; simp
      · rw [cl_other hvb] at h2; exact h2
    · exact .inr (by omega)
  · exact (hx.cl fun b hb => by
      rw [hv.2.1 b hb]
      intro e
      injection e with e1 e2
      exact hne ⟨e1.symm, e2.symm⟩).ks h1 s

theorem c50 (h : KX w pb sv rv own N True) (hN : N ≤ 50000) : Ret PR 50 [.pointer (some ⟨pb, 2, none⟩)] w fun r w' => r = .bool true ∧ ∃ own', KX w' pb sv rv own' (N + 2000) False ∧ KW pb w.heap.size w w' own own' := by
  refine Ret.of ((S50_eq _ w _).mpr ?_)
  unfold S50
  obtain ⟨O, L, S, Cn, h⟩ := h
  obtain ⟨e1, e2, e3, e5, es⟩ := h.e
  refine loop_rule (fun i : Nat => (false, (i : Int), ())) (fun i W => i ≤ (O 0).l ∧ Kp w W) (fun i => (O 0).l - i) 0 rfl ⟨by omega, kp0⟩ ?_
  rintro i W K ⟨hi, kW⟩ hK
  dsimp only
  have hW := h.kp kW
  refine ⟨_, _, _, hW.f.ko.cell (k := 0) (by omega), ifB_d (fun hlt => ?_) fun _ => ?_⟩
  · have hlt : i < (O 0).l := by omega
    generalize hwd : World.drew W = wd
    have d1 : Kp W wd := hwd ▸ ext_drew W
    have hd := hW.kp d1
    obtain ⟨x0, a0, b0⟩ := hd.f.list (k := 0) (i := i) (by omega) hlt
    obtain ⟨x1, a1, b1⟩ := hd.f.list (k := 1) (i := i) (by omega) (by omega)
    obtain ⟨g0, _, l0⟩ := hd.q trivial 0 (by omega) i hlt
    obtain ⟨g1, _, l1⟩ := hd.q trivial 1 (by omega) i (by omega)
    refine ⟨_, _, _, hd.f.ko.cell (k := 0) (by omega), ?_⟩
    rw [a0]
    refine ⟨⟨by omega, by omega⟩, _, _, _, b0, _, _, _, hd.f.ko.cell (k := 1) (by omega), ?_⟩
    rw [a1]
    refine ⟨⟨by omega, by omega⟩, _, _, _, b1, ?_⟩
    refine (c94 (F := Cn 0 i) g0 g1 (h.el trivial 0 (by omega) i hlt) (h.ok trivial 0 (by omega) i hlt) (by omega)).use fun w2 k2 => ⟨true, rfl, ifB_nb (fun hh => by cases hh) fun _ => ?_⟩
    have h2 := hd.kp k2
    obtain ⟨x2, a2, b2⟩ := h2.f.list (k := 2) (i := i) (by omega) (by omega)
    obtain ⟨x3, a3, b3⟩ := h2.f.list (k := 3) (i := i) (by omega) (by omega)
    obtain ⟨g2, _, l2⟩ := h2.q trivial 2 (by omega) i (by omega)
    obtain ⟨g3, _, l3⟩ := h2.q trivial 3 (by omega) i (by omega)
    refine ⟨_, _, _, h2.f.ko.cell (k := 2) (by omega), ?_⟩
    rw [a2]
    refine ⟨⟨by omega, by omega⟩, _, _, _, b2, _, _, _, h2.f.ko.cell (k := 3) (by omega), ?_⟩
    rw [a3]
    refine ⟨⟨by omega, by omega⟩, _, _, _, b3, ?_⟩
    refine (c95 (F := Cn 1 i) g2 g3 (h.el trivial 1 (by omega) i (by show i < (O 2).l; omega)) (h.ok trivial 1 (by omega) i (by show i < (O 2).l; omega)) (by omega)).use fun w3 k3 => ⟨true, rfl, ifB_nb (fun hh => by cases hh) fun _ => ?_⟩
    rw [wrap_id (by omega) (by omega)]
    exact hK (i + 1) w3 ⟨hlt, ((kW.trans d1).trans k2).trans k3⟩ (by omega)
  refine loop_rule (fun i : Nat => (false, (i : Int), ())) (fun i W => i ≤ (O 4).l ∧ Kp w W) (fun i => (O 4).l - i) 0 rfl ⟨by omega, kW⟩ ?_
  clear hW kW hi hK K
  rintro i2 W2 K ⟨hi, kW⟩ hK
  dsimp only
  have hW := h.kp kW
  refine ⟨_, _, _, hW.f.ko.cell (k := 4) (by omega), ifB_d (fun hlt => ?_) fun _ => ?_⟩
  · have hlt : i2 < (O 4).l := by omega
    generalize hwd : World.drew W2 = wd
    have d1 : Kp W2 wd := hwd ▸ ext_drew W2
    have hd := hW.kp d1
    obtain ⟨x0, a0, b0⟩ := hd.f.list (k := 4) (i := i2) (by omega) hlt
    obtain ⟨x1, a1, b1⟩ := hd.f.list (k := 5) (i := i2) (by omega) (by omega)
    obtain ⟨g0, _, l0⟩ := hd.q trivial 4 (by omega) i2 hlt
    obtain ⟨g1, _, l1⟩ := hd.q trivial 5 (by omega) i2 (by omega)
    refine ⟨_, _, _, hd.f.ko.cell (k := 4) (by omega), ?_⟩
    rw [a0]
    refine ⟨⟨by omega, by omega⟩, _, _, _, b0, _, _, _, hd.f.ko.cell (k := 5) (by omega), ?_⟩
    rw [a1]
    refine ⟨⟨by omega, by omega⟩, _, _, _, b1, ?_⟩
    refine (c85 (F := Cn 2 i2) g0 g1 (h.el trivial 2 (by omega) i2 hlt) (h.ok trivial 2 (by omega) i2 hlt) (by omega)).use fun w2 k2 => ⟨true, rfl, ifB_nb (fun hh => by cases hh) fun _ => ?_⟩
    rw [wrap_id (by omega) (by omega)]
    exact hK (i2 + 1) w2 ⟨hlt, (kW.trans d1).trans k2⟩ (by omega)
  -- the lists are marked
  refine loop_rule (fun g : Nat × (Nat → Own) × (Nat → LV) × (Nat → Nat → LV) × (Nat → Nat → Int) => ((g.1 : Int), ())) (fun g V => g.1 ≤ (O 0).l ∧ KF V pb sv rv g.2.1 g.2.2.1 g.2.2.2.1 g.2.2.2.2 ∧ KW pb w.heap.size w V own g.2.1 ∧ w.heap.size ≤ V.heap.size ∧ (∀ k, k < 6 → g.2.2.1 k = O k ∧ g.2.2.2.1 k = L k) ∧ (∀ T, T < 3 → (g.2.2.1 (9 + T)).l ≤ N + 16 * g.1) ∧
      (∀ j, g.1 ≤ j → j < (O 0).l → KQ1 V g.2.1 (L 0 j) 0 j (Cn 0 j) ∧ KQ1 V g.2.1 (L 2 j) 2 j (Cn 1 j)) ∧ ∀ j, j < (O 4).l → KQ1 V g.2.1 (L 4 j) 4 j (Cn 2 j)) (fun g => (O 0).l - g.1) (0, own, O, L, S) rfl ⟨by dsimp only; omega, hW.f, KW.kp kW, kW.sz, fun _ _ => ⟨rfl, rfl⟩, fun T hT => by have := h.n T hT; dsimp only; omega, fun j _ hj => ⟨hW.q trivial 0 (by omega) j hj, hW.q trivial 2 (by omega) j (by omega)⟩, fun j hj => hW.q trivial 4 (by omega) j hj⟩ ?_
  clear hW kW hi hK K
  rintro ⟨i3, own3, O3, L3, S3⟩ V K ⟨hi, hF, hKW, hsz, hsame, hn, hq, hq4⟩ hK
  dsimp only at hi hF hKW hsz hsame hn hq hq4 hK ⊢
  have s0 := hsame 0 (by omega)
  have s2 := hsame 2 (by omega)
  have s4 := hsame 4 (by omega)
  refine ⟨_, _, _, hF.ko.cell (k := 0) (by omega), ?_⟩
  rw [s0.1]
  refine ifB_d (fun hlt => ?_) fun _ => ?_
  · have hlt : i3 < (O 0).l := by omega
    obtain ⟨x0, a0, b0⟩ := hF.list (k := 0) (i := i3) (by omega) (by rw [s0.1]; exact hlt)
    rw [s0.1] at a0
    rw [s0.2] at b0
    have n0 := hn 0 (by omega)
    have n1 := hn 1 (by omega)
    obtain ⟨q0, q2⟩ := hq i3 (Nat.le_refl _) hlt
    refine ⟨_, _, _, by have := hF.ko.cell (k := 0) (by omega); rw [s0.1] at this; exact this, ?_⟩
    rw [a0]
    refine ⟨⟨by omega, by omega⟩, _, _, _, b0, ?_⟩
    refine (mark_li (f := 96) (T := 0) (i := i3) (by omega) hF q0 (fun f o => c96 f q0.1 o (by show (O3 9).l ≤ 100000; have n0 : (O3 9).l ≤ N + 16 * i3 := n0; omega) (by have := q0.2.2; omega)) hKW hsz).use ?_
    rintro _ V1 ⟨rfl, own4, O4, L4, S4, f4, kw4, sz4, sm4, n4, pr4⟩
    have t2 := sm4 2 (by omega)
    rw [s2.1, s2.2] at t2
    obtain ⟨x2, a2, b2⟩ := f4.list (k := 2) (i := i3) (by omega) (by rw [t2.1]; omega)
    rw [t2.1] at a2
    rw [t2.2] at b2
    have q2' := pr4 _ _ _ _ q2 (by omega)
    refine ⟨rfl, _, _, _, by have := f4.ko.cell (k := 2) (by omega); rw [t2.1] at this; exact this, ?_⟩
    rw [a2]
    refine ⟨⟨by omega, by omega⟩, _, _, _, b2, ?_⟩
    have m1 := n4 1 (by omega)
    refine (mark_li (f := 97) (T := 1) (i := i3) (by omega) f4 q2' (fun f o => c97 f q2'.1 o (by show (O4 10).l ≤ 100000; have m1 : (O4 10).l ≤ (O3 10).l + 8 := m1; have n1 : (O3 10).l ≤ N + 16 * i3 := n1; omega) (by have := q2'.2.2; omega)) kw4 sz4).use ?_
    rintro _ V2 ⟨rfl, own5, O5, L5, S5, f5, kw5, sz5, sm5, n5, pr5⟩
    rw [wrap_id (by omega) (by omega)]
    refine ⟨rfl, hK (i3 + 1, own5, O5, L5, S5) V2 ⟨hlt, f5, kw5, sz5, fun k hk => ?_, fun T hT => ?_, fun j hj hjl => ?_, fun j hj => ?_⟩ (by dsimp only; omega)⟩
    · dsimp only
      rw [(sm5 k hk).1, (sm5 k hk).2, (sm4 k hk).1, (sm4 k hk).2]; exact hsame k hk
    · have := hn T hT; have := n4 T hT; have := n5 T hT; dsimp only; omega
    · have hj : i3 + 1 ≤ j := hj
      obtain ⟨r0, r2⟩ := hq j (by omega) hjl
      exact ⟨pr5 _ _ _ _ (pr4 _ _ _ _ r0 (by omega)) (by omega), pr5 _ _ _ _ (pr4 _ _ _ _ r2 (by omega)) (by omega)⟩
    · exact pr5 _ _ _ _ (pr4 _ _ _ _ (hq4 j hj) (by omega)) (by omega)
  refine loop_rule (fun g : Nat × (Nat → Own) × (Nat → LV) × (Nat → Nat → LV) × (Nat → Nat → Int) => ((g.1 : Int), ())) (fun g V => g.1 ≤ (O 4).l ∧ KF V pb sv rv g.2.1 g.2.2.1 g.2.2.2.1 g.2.2.2.2 ∧ KW pb w.heap.size w V own g.2.1 ∧ w.heap.size ≤ V.heap.size ∧ (∀ k, k < 6 → g.2.2.1 k = O k ∧ g.2.2.2.1 k = L k) ∧ (∀ T, T < 3 → (g.2.2.1 (9 + T)).l ≤ N + 600 + 16 * g.1) ∧
      ∀ j, g.1 ≤ j → j < (O 4).l → KQ1 V g.2.1 (L 4 j) 4 j (Cn 2 j)) (fun g => (O 4).l - g.1) (0, own3, O3, L3, S3) rfl ⟨by dsimp only; omega, hF, hKW, hsz, hsame, fun T hT => by have := hn T hT; dsimp only; omega, fun j _ hj => hq4 j hj⟩ ?_
  clear hF hKW hsz hsame hn hq hq4 hK K s0 s2 s4
  rintro ⟨i4, own4, O4, L4, S4⟩ V4 K ⟨hi4, hF, hKW, hsz, hsame, hn, hq⟩ hK
  dsimp only at hi4 hF hKW hsz hsame hn hq hK ⊢
  have s4 := hsame 4 (by omega)
  refine ⟨_, _, _, hF.ko.cell (k := 4) (by omega), ?_⟩
  rw [s4.1]
  refine ifB_d (fun hlt => ?_) fun _ => ?_
  · have hlt : i4 < (O 4).l := by omega
    obtain ⟨x0, a0, b0⟩ := hF.list (k := 4) (i := i4) (by omega) (by rw [s4.1]; exact hlt)
    rw [s4.1] at a0
    rw [s4.2] at b0
    have n2 := hn 2 (by omega)
    have q0 := hq i4 (Nat.le_refl _) hlt
    refine ⟨_, _, _, by have := hF.ko.cell (k := 4) (by omega); rw [s4.1] at this; exact this, ?_⟩
    rw [a0]
    refine ⟨⟨by omega, by omega⟩, _, _, _, b0, ?_⟩
    refine (mark_li (f := 87) (T := 2) (i := i4) (by omega) hF q0 (fun f o => c87 f q0.1 o (by show (O4 11).l ≤ 100000; have n2 : (O4 11).l ≤ N + 600 + 16 * i4 := n2; omega) (by have := q0.2.2; omega)) hKW hsz).use ?_
    rintro _ V1 ⟨rfl, own5, O5, L5, S5, f5, kw5, sz5, sm5, n5, pr5⟩
    rw [wrap_id (by omega) (by omega)]
    refine ⟨rfl, hK (i4 + 1, own5, O5, L5, S5) V1 ⟨hlt, f5, kw5, sz5, fun k hk => ?_, fun T hT => ?_, fun j hj hjl => ?_⟩ (by dsimp only; omega)⟩
    · dsimp only
      rw [(sm5 k hk).1, (sm5 k hk).2]; exact hsame k hk
    · have := hn T hT; have := n5 T hT; dsimp only; omega
    · have hj : i4 + 1 ≤ j := hj
      exact pr5 _ _ _ _ (hq j (by omega) hjl) (by omega)
  have hnn : ∀ T, T < 3 → (O4 (9 + T)).l ≤ N + 2000 := fun T hT => by have := hn T hT; omega
  refine (c100 hF fun k h1 h2 => ?_).use fun w5 e5 => ⟨_, rfl, rfl, own4, ⟨O4, L4, S4, Cn, hF.kp e5, fun hh => hh.elim, ?_, fun hh => hh.elim, fun hh => hh.elim, hnn⟩, hKW.trans (KW.kp e5)⟩
  · have h9 := hF.ls (k - 6) (by omega)
    have h9' := hnn (k - 6) (by omega)
    rw [show 6 + (k - 6) = k by omega] at h9
    omega
  · rw [(hsame 0 (by omega)).1, (hsame 1 (by omega)).1, (hsame 2 (by omega)).1, (hsame 3 (by omega)).1, (hsame 4 (by omega)).1, (hsame 5 (by omega)).1]
    exact h.e
end
end Go.Wx
end
section
/- The pair: a space and the document's, and the keep. -/
set_option linter.unusedVariables false
set_option maxRecDepth 100000
namespace Go.Wx
open Go

structure PI (w : World) (pb : Nat) (own : Nat → Own) (N : Nat) (P : Prop) (B : Sl → Nat) (R : RB) (σ : St) : Prop where
  x : KX w pb (pt (B .s)) (pt R.s) own N P
  s : Sp w B σ
  r : Rf w R σ
  i : Inv σ
  c : R.cw = 64 * σ.n ∧ R.cp = σ.n ∧ R.co = 64 * σ.n
  ds : ∀ b, spF B b → own b = .no ∧ b ≠ pb ∧ ¬ R.F b
  dr : ∀ b, R.F b → own b = .no ∧ b ≠ pb
  z : own 0 = .no ∧ pb ≠ 0 ∧ ¬ R.F 0
  n : σ.n ≤ 24
def PF (pb : Nat) (own : Nat → Own) (B : Sl → Nat) (R : RB) : Nat → Prop := fun b => b = pb ∨ own b ≠ .no ∨ spF B b ∨ R.F b

section
variable {w w' : World} {pb N : Nat} {own : Nat → Own} {P : Prop} {B : Sl → Nat} {R : RB} {σ : St}
theorem KX.upd {sv rv : Value} {G : Nat → Prop} (h : KX w pb sv rv own N P) (u : Upd G w w') (hp : ¬ G pb) (ho : ∀ b, own b ≠ .no → ¬ G b) : KX w' pb sv rv own N P := by
  obtain ⟨O, L, S, Cn, h⟩ := h
  exact ⟨O, L, S, Cn, h.upd u hp ho⟩
theorem KX.p {sv rv : Value} (h : KX w pb sv rv own N P) : ∃ O, w.heap[pb]? = some (Bl (pCells sv rv O) 54) := by
  obtain ⟨O, L, S, Cn, h⟩ := h
  exact ⟨O, h.f.ko.p⟩
theorem KX.lt {sv rv : Value} (h : KX w pb sv rv own N P) : own pb = .no ∧ (∀ b, own b ≠ .no → b < w.heap.size) ∧ pb < w.heap.size := by
  obtain ⟨O, L, S, Cn, h⟩ := h
  exact ⟨h.f.ko.pb0, h.f.ko.lt, lt_of_look h.f.ko.p⟩
theorem PI.ps (h : PI w pb own N P B R σ) : w.cell? ⟨pb, 0, none⟩ = some (pt (B .s)) := by
  obtain ⟨O, hp⟩ := h.x.p
  exact cell_of hp 0
theorem PI.pr (h : PI w pb own N P B R σ) : w.cell? ⟨pb, 1, none⟩ = some (pt R.s) := by
  obtain ⟨O, hp⟩ := h.x.p
  exact cell_of hp 1
theorem PI.kp (h : PI w pb own N P B R σ) (u : Kp w w') : PI w' pb own N P B R σ :=
  ⟨h.x.upd u (fun h => h) (fun _ _ h => h), Sp.kp h.s u, h.r.kp u, h.i, h.c, h.ds, h.dr, h.z, h.n⟩
theorem PI.upd {G : Nat → Prop} (h : PI w pb own N P B R σ) (u : Upd G w w') (hG : ∀ b, PF pb own B R b → ¬ G b) (h0 : ¬ G 0) : PI w' pb own N P B R σ :=
  ⟨h.x.upd u (hG _ (.inl rfl)) fun b hb => hG b (.inr (.inl hb)), SpR.upd h.s u (fun x hx => hG _ (.inr (.inr (.inl ⟨x, hx, rfl⟩)))) h0, h.r.upd u fun b hb => hG b (.inr (.inr (.inr hb))), h.i, h.c, h.ds, h.dr, h.z, h.n⟩
theorem PI.sp0 (h : PI w pb own N P B R σ) : ¬ spF B 0 := fun ⟨x, hx, e⟩ => SpR.ne0 h.s hx e.symm
theorem PI.lt (h : PI w pb own N P B R σ) {b : Nat} (hb : PF pb own B R b) : b < w.heap.size := by
  obtain ⟨h1, h2, h3⟩ := h.x.lt
  rcases hb with rfl | hb | ⟨x, hx, rfl⟩ | hb
  · exact h3
  · exact h2 b hb
  · exact SpR.lt h.s hx
  · exact h.r.lt hb
/-- The program has turned its space. -/
theorem PI.s1 (h : PI w pb own N P B R σ) (u : Upd (spF B) w w') : KX w' pb (pt (B .s)) (pt R.s) own N P ∧ Rf w' R σ :=
  ⟨h.x.upd u (fun hh => (h.ds _ hh).2.1 rfl) fun b hb hh => hb (h.ds b hh).1, h.r.upd u fun b hb hh => (h.ds b hh).2.2 hb⟩
/-- Both have turned theirs, alike. -/
theorem PI.both (h : PI w pb own N P B R σ) {w1 : World} {σ' : St} (u1 : Upd (spF B) w w1) (hs : Sp w1 B σ') (u2 : Upd R.F w1 w') (hr : Rf w' R σ') (hi : Inv σ') (hn : σ'.n = σ.n) : PI w' pb own N P B R σ' ∧ Upd (PF pb own B R) w w' := by
  obtain ⟨k1, _⟩ := h.s1 u1
  refine ⟨⟨k1.upd u2 (fun hh => (h.dr _ hh).2 rfl) fun b hb hh => hb (h.dr b hh).1, SpR.upd hs u2 (fun x hx hh => (h.ds _ ⟨x, hx, rfl⟩).2.2 hh) h.z.2.2, hr, hi, by rw [hn]; exact h.c, h.ds, h.dr, h.z, by rw [hn]; exact h.n⟩, (u1.mono fun b hb => .inr (.inr (.inl hb))).trans (u2.mono fun b hb => .inr (.inr (.inr hb)))⟩
/-- The keep has been turned. -/
theorem PI.keep (h : PI w pb own N P B R σ) {own' : Nat → Own} {N' : Nat} {P' : Prop} (hx : KX w' pb (pt (B .s)) (pt R.s) own' N' P') (k : KW pb w.heap.size w w' own own') : PI w' pb own' N' P' B R σ ∧ Upd (PF pb own B R) w w' ∧ ∀ b, PF pb own' B R b → PF pb own B R b ∨ w.heap.size ≤ b := by
  have nok : ∀ b, own b = .no → b < w.heap.size → own' b = .no := fun b hb hl => Classical.byContradiction fun hh => by
    rcases k.on b hh with h1 | h1
    · exact h1 hb
    · omega
  have hsl : ∀ b, spF B b → b < w.heap.size := fun b hb => h.lt (.inr (.inr (.inl hb)))
  have hrl : ∀ b, R.F b → b < w.heap.size := fun b hb => h.lt (.inr (.inr (.inr hb)))
  have hn0 : ∀ b, own b = .no → b ≠ pb → b < w.heap.size → ¬ (b = pb ∨ own b ≠ .no ∨ w.heap.size ≤ b) := fun b h1 h2 h3 hh => by
    rcases hh with hh | hh | hh
    · exact h2 hh
    · exact hh h1
    · omega
  have hpos : 0 < w.heap.size := by have := h.x.lt.2.2; omega
  refine ⟨⟨hx, SpR.upd h.s k.u (fun x hx' => hn0 _ (h.ds _ ⟨x, hx', rfl⟩).1 (h.ds _ ⟨x, hx', rfl⟩).2.1 (hsl _ ⟨x, hx', rfl⟩)) (hn0 0 h.z.1 (fun e => h.z.2.1 e.symm) hpos), h.r.upd k.u fun b hb => hn0 b (h.dr b hb).1 (h.dr b hb).2 (hrl b hb), h.i, h.c, fun b hb => ⟨nok b (h.ds b hb).1 (hsl b hb), (h.ds b hb).2⟩, fun b hb => ⟨nok b (h.dr b hb).1 (hrl b hb), (h.dr b hb).2⟩, ⟨nok 0 h.z.1 hpos, h.z.2⟩, h.n⟩, ?_, fun b hb => ?_⟩
  · exact Upd.tr (w1 := w) Upd.refl k.u fun b hb => by
      rcases hb with hb | hb | hb
      · exact .inl (.inl hb)
      · exact .inl (.inr (.inl hb))
      · exact .inr hb
  · rcases hb with hb | hb | hb | hb
    · exact .inl (.inl hb)
    · rcases k.on b hb with h1 | h1
      · exact .inl (.inr (.inl h1))
      · exact .inr h1
    · exact .inl (.inr (.inr (.inl hb)))
    · exact .inl (.inr (.inr (.inr hb)))
end

/-- A pair, seen from outside: its blocks, its state. -/
def Pr (w : World) (F : Nat → Prop) (pb N : Nat) (P : Prop) (σ : St) : Prop := ∃ own B R, PI w pb own N P B R σ ∧ ∀ b, F b ↔ PF pb own B R b
structure PS (w w' : World) (F F' : Nat → Prop) : Prop where
  u : Upd F w w'
  f : ∀ b, F' b → F b ∨ w.heap.size ≤ b
theorem PS.trans {w w1 w' : World} {F F1 F' : Nat → Prop} (h : PS w w1 F F1) (h1 : PS w1 w' F1 F') : PS w w' F F' := by
  refine ⟨h.u.tr h1.u h.f, fun b hb => ?_⟩
  rcases h1.f b hb with h2 | h2
  · exact h.f b h2
  · right; exact Nat.le_trans h.u.sz h2
theorem PS.kp {w w' : World} {F : Nat → Prop} (u : Kp w w') : PS w w' F F := ⟨Kp.upd u, fun _ h => .inl h⟩
section
variable {w w' : World} {pb N : Nat} {P : Prop} {σ : St} {F : Nat → Prop}
theorem Pr.kp (h : Pr w F pb N P σ) (u : Kp w w') : Pr w' F pb N P σ := by
  obtain ⟨own, B, R, h1, h2⟩ := h
  exact ⟨own, B, R, h1.kp u, h2⟩
theorem Pr.upd {G : Nat → Prop} (h : Pr w F pb N P σ) (u : Upd G w w') (hG : ∀ b, F b → ¬ G b) (h0 : ¬ G 0) : Pr w' F pb N P σ := by
  obtain ⟨own, B, R, h1, h2⟩ := h
  exact ⟨own, B, R, h1.upd u (fun b hb => hG b ((h2 b).2 hb)) h0, h2⟩
theorem Pr.lt (h : Pr w F pb N P σ) : (∀ b, F b → b < w.heap.size) ∧ ¬ F 0 := by
  obtain ⟨own, B, R, h1, h2⟩ := h
  refine ⟨fun b hb => h1.lt ((h2 b).1 hb), fun hh => ?_⟩
  rcases (h2 0).1 hh with h3 | h3 | h3 | h3
  · exact h1.z.2.1 h3.symm
  · exact h3 h1.z.1
  · exact h1.sp0 h3
  · exact h1.z.2.2 h3

theorem c23 (w : World) (a b : Int × Int) : RetE PR 23 [V2 a, V2 b] w (.bool (decide (a = b))) := by
  refine Ret.of ((S23_eq _ _ _ _ w _).mpr ?_)
  unfold S23
  refine atW_new fun w1 n1 => atW_new fun w2 n2 => ⟨_, cell_of (n2.ext.at n1.at0) 0, _, cell_of n2.at0 0, ifB_eq (fun h1 => ⟨_, cell_of (n2.ext.at n1.at0) 1, _, cell_of n2.at0 1, ?_, n1.ext.trans n2.ext⟩) fun h1 => ⟨?_, n1.ext.trans n2.ext⟩⟩
  · refine congrArg Value.bool ?_
    by_cases h2 : a.2 = b.2
    · rw [decide_eq_true (Prod.ext h1 h2)]; simpa using h2
    · rw [decide_eq_false fun hh => h2 (by rw [hh])]; simpa using h2
  · rw [decide_eq_false fun hh => h1 (by rw [hh])]

/-- The place of the n-th object. -/
def nthS (σ : St) (n : Int) : Int := if objN σ (64 * σ.n) = 0 then -1 else (obF σ (64 * σ.n) (wiS n (objN σ (64 * σ.n))).toNat).at_
theorem nthS_rng {σ : St} (hI : Inv σ) (n : Int) : nthS σ n = -1 ∨ ∃ j : Nat, nthS σ n = j ∧ j < 64 * σ.n ∧ (σ.O j).kind ≠ 0 := by
  unfold nthS
  by_cases h0 : objN σ (64 * σ.n) = 0
  · rw [if_pos h0]; exact .inl rfl
  · rw [if_neg h0]
    have hw := wiS_rng (x := n) (n := (objN σ (64 * σ.n) : Int)) (by omega)
    obtain ⟨j, h1, h2, h3⟩ := obF_spec σ (64 * σ.n) (wiS n (objN σ (64 * σ.n))).toNat (by omega)
    rw [h3]
    exact .inr ⟨j, (hI.ob j h1 h2).at_, h1, h2⟩
theorem nthS_64 {σ : St} (hI : Inv σ) (n : Int) : In64 (nthS σ n) ∧ -1 ≤ nthS σ n ∧ nthS σ n < 262144 := by
  have := hI.n2
  rcases nthS_rng hI n with h | ⟨j, h, h1, _⟩ <;> rw [h] <;> exact ⟨⟨by omega, by omega⟩, by omega, by omega⟩

theorem c26 {own : Nat → Own} {B : Sl → Nat} {R : RB} (h : PI w pb own N P B R σ) {n : Int} (hn : In64 n) : RetE PR 26 [pt pb, I n] w (I (nthS σ n)) := by
  refine Ret.of ((S26_eq _ _ w _).mpr ?_)
  unfold S26
  have hn2 := h.i.n2
  refine ⟨_, h.pr, ?_⟩
  refine (c41 h.r).use ?_
  rintro _ w1 ⟨L, rfl, hR, hl, e1, _⟩
  refine ⟨_, _, _, rfl, ifB_eq (fun h0 => ⟨?_, e1⟩) fun h0 => ?_⟩
  · rw [nthS, if_pos (by omega)]
  · have hle := objN_le σ (64 * σ.n)
    refine (c29 w1 n L.l hn (by omega) (by omega)).use fun w2 e2 => ?_
    have hw := wiS_rng (x := n) (n := (L.l : Int)) (by omega)
    obtain ⟨i, hi⟩ : ∃ i : Nat, wiS n L.l = i := ⟨(wiS n L.l).toNat, by omega⟩
    rw [hi] at hw ⊢
    obtain ⟨b, hb, hc⟩ := (hR.upd e2 fun _ _ h => h).at (i := i) (by omega)
    refine ⟨_, rfl, ?_⟩
    rw [hb]
    refine ⟨⟨by omega, by omega⟩, (obF σ (64 * σ.n) i).at_, hc 0 (by omega), ?_, e1.trans e2⟩
    rw [nthS, if_neg (by omega), ← hl, hi, Int.toNat_natCast]
end
end Go.Wx
end
section
/- Contracts of lent, kept, keeps. -/
set_option linter.unusedVariables false
set_option maxRecDepth 100000
namespace Go.Wx
open Go

def lentF (ks : Nat → Int) (l i : Nat) : Int := if i < l then ks i else -71 - (i : Int)
/-- A list that is lent. -/
def Len (w : World) (b c l : Nat) (ks : Nat → Int) : Prop := l + 20 ≤ c ∧ ∃ g : Nat → Int, w.heap[b]? = some (Bl (ints c g) 3) ∧ ∀ i, i < l + 20 → g i = lentF ks l i
theorem Len.kp {w w' : World} {b c l : Nat} {ks : Nat → Int} (h : Len w b c l ks) (u : Kp w w') : Len w' b c l ks := by
  obtain ⟨h1, g, h2, h3⟩ := h
  exact ⟨h1, g, u.at h2, h3⟩
theorem Len.upd {w w' : World} {b c l : Nat} {ks : Nat → Int} {G : Nat → Prop} (h : Len w b c l ks) (u : Upd G w w') (hb : ¬ G b) : Len w' b c l ks := by
  obtain ⟨h1, g, h2, h3⟩ := h
  exact ⟨h1, g, u.at h2 hb, h3⟩
theorem rdx_ls {w : World} {s : Option Addr} {l : Nat} {ks : Nat → Int} (h : Ls w s l ks) : rdx w s (l * 1) (ints l ks) := by
  refine ⟨by simp, ?_⟩
  cases s with
  | none =>
    dsimp only
    rcases Nat.eq_zero_or_pos l with h0 | h0
    · rw [h0]
    · obtain ⟨a, ha, _⟩ := h 0 h0; cases ha
  | some a =>
    intro i hi
    obtain ⟨a', ha, hc⟩ := h i (by omega)
    cases ha
    rw [show i * 1 = i by omega] at hc
    rw [hc, ints_row (by omega)]

/-- Behind both appends. -/
theorem lent_two {w : World} {b : Option Addr} {c l : Nat} {ks : Nat → Int} (hb : (b = none ∧ l = 0 ∧ c = 0) ∨ ∃ x, b = some ⟨x, 0, none⟩ ∧ l ≤ c ∧ 1 ≤ l ∧ w.heap[x]? = some (Bl (ints c (cutW l ks)) 3)) (hl : l ≤ 100000) {Q : Option Addr → Nat → World → Prop}
    (hQ : ∀ x c' g w', (∀ y : Nat, b = some ⟨y, 0, none⟩ → x = y ∧ Upd (one x) w w' ∨ Kp w w' ∧ x = w.heap.size) → (b = none → Kp w w' ∧ x = w.heap.size) → l + 20 ≤ c' → w'.heap[x]? = some (Bl (ints c' g) 3) → (∀ i, i < l → g i = ks i) → Q (some ⟨x, 0, none⟩) c' w') :
    ∃ old, rdx w b ((0 + l) * 1) old ∧ ((1 : Int) ≤ 20 ∧ (((0 + l : Nat) : Int) + 20) * 8 ≤ 1099511627776) ∧ canApp w b (0 + l) c 20 1 ∧
      ∀ (b_1 : Option Addr) (c_1 : Nat) (w_1 : World), AppTo w b (0 + l) c 20 1 old (ints 20 fun _ => 0) [Value.int IntKind.i64 0] 3 b_1 c_1 w_1 → Q b_1 c_1 w_1 := by
  rw [Nat.zero_add]
  have hz : ∀ k, (ints 20 fun _ => 0) ++ zcells [Value.int IntKind.i64 0] k = zcells [Value.int IntKind.i64 0] (k + 20) := fun k => rfl
  rcases hb with ⟨rfl, rfl, rfl⟩ | ⟨x, rfl, hlc, h1, hx⟩
  · refine ⟨[], rdx_nil, ⟨by omega, by omega⟩, fun hh => by omega, ?_⟩
    rintro b1 c1 w1 (⟨h1, _⟩ | ⟨_, h2, rfl, rfl⟩)
    · omega
    · have n := new_drew (new_alloc w.drew (Bl ([] ++ ((ints 20 fun _ => 0) ++ zcells [Value.int IntKind.i64 0] (c1 - (0 + 20)))) 3))
      refine hQ w.heap.size c1 (fun _ => 0) _ (fun y hy => by cases hy) (fun _ => ⟨n.ext, rfl⟩) h2 ?_ fun i hi => by omega
      rw [n.at0]
      refine bl_eq ?_
      rw [List.nil_append, hz, show c1 - (0 + 20) + 20 = c1 by omega, zc1]
  · refine ⟨(ints c (cutW l ks)).take (l * 1), ?_, ⟨by omega, by omega⟩, fun hh => ?_, ?_⟩
    · have := rdx_at hx (o := 0) (n := l * 1) (by simp; omega)
      rw [List.drop_zero] at this
      exact this
    · show canWr w ((Addr.mk x 0 none).add (l * 1)) (20 * 1)
      rw [add_mk]
      exact canWr_of hx (by simp; omega)
    rintro b1 c1 w1 (⟨g1, rfl, rfl, rfl⟩ | ⟨_, h2, rfl, rfl⟩)
    · have p := wrx_put (ints 20 fun _ => 0) (l * 1) 0 hx
      rw [Nat.add_zero] at p
      rw [ints, ints, setL_vals (by omega)] at p
      show Q _ _ (wrx w ((Addr.mk x 0 none).add (l * 1)) (ints 20 fun _ => 0) 0)
      rw [add_mk, Nat.zero_add]
      refine hQ x c1 (fun j => if l * 1 ≤ j ∧ j < l * 1 + 20 then 0 else cutW l ks j) _ (fun y hy => by cases hy; exact .inl ⟨rfl, p.upd⟩) (fun hh => by cases hh) g1 ?_ fun i hi => ?_
      · rw [ints, p.at0]
        refine bl_eq (vals_congr fun j hj => ?_)
        dsimp only
        split <;> rfl
      · rw [if_neg (by omega), cutW, if_pos hi]
    · have n := new_drew (new_alloc w.drew (Bl ((ints c (cutW l ks)).take (l * 1) ++ ((ints 20 fun _ => 0) ++ zcells [Value.int IntKind.i64 0] (c1 - (l + 20)))) 3))
      refine hQ w.heap.size c1 (cutW l (cutW l ks)) _ (fun y hy => .inr ⟨n.ext, rfl⟩) (fun hh => by cases hh) h2 ?_ fun i hi => by rw [cutW, if_pos hi, cutW, if_pos hi]
      rw [n.at0]
      refine bl_eq ?_
      rw [hz, show c1 - (l + 20) + 20 = c1 - l by omega, ints_copy hlc (by omega)]

theorem c33 {w : World} {s : Option Addr} {l c : Nat} {ks : Nat → Int} (hs : Ls w s l ks) (hl : l ≤ 100000) : Ret PR 33 [.slice s l c] w fun v w' => ∃ b c', v = .slice (some ⟨b, 0, none⟩) (l + 20) c' ∧ Len w' b c' l ks ∧ Kp w w' ∧ w.heap.size ≤ b := by
  refine Ret.of ((S33_eq _ _ _ w _).mpr ?_)
  unfold S33
  refine ⟨[], ints l ks, rdx_nil, rdx_ls hs, fun v hv => ints_leaf v hv, by omega, fun _ => trivial, ?_⟩
  intro b c1 w1 happ
  have key : Kp w w1 ∧ ((b = none ∧ l = 0 ∧ c1 = 0) ∨ ∃ x, b = some ⟨x, 0, none⟩ ∧ l ≤ c1 ∧ 1 ≤ l ∧ w1.heap[x]? = some (Bl (ints c1 (cutW l ks)) 3)) ∧ ∀ y : Nat, b = some ⟨y, 0, none⟩ → w.heap.size ≤ y := by
    rcases happ with ⟨h1, rfl, rfl, rfl⟩ | ⟨h1, h2, rfl, rfl⟩
    · exact ⟨kp0, .inl ⟨rfl, by omega, rfl⟩, fun y hy => by cases hy⟩
    · have n := new_drew (new_alloc w.drew (Bl ([] ++ (ints l ks ++ zcells [Value.int IntKind.i64 0] (c1 - (0 + l)))) 3))
      refine ⟨n.ext, .inr ⟨w.heap.size, rfl, by omega, by omega, ?_⟩, fun y hy => by cases hy; exact Nat.le_refl _⟩
      rw [n.at0]
      refine bl_eq ?_
      have := ints_copy (n := l) (c := l) (c' := c1) (W := ks) (Nat.le_refl _) (by omega)
      rw [List.take_of_length_le (by simp)] at this
      rw [List.nil_append, Nat.zero_add]; exact this
  obtain ⟨k1, hb, hge⟩ := key
  refine lent_two hb hl fun x c' g w2 hx hxn hc' hx2 hg => ?_
  have s1 := k1.sz
  have k2 : Kp w w2 ∧ w.heap.size ≤ x := by
    cases b with
    | none => obtain ⟨h1, h2⟩ := hxn rfl; exact ⟨k1.trans h1, by omega⟩
    | some a =>
      rcases hb with ⟨hh, _⟩ | ⟨y, hy, _⟩
      · cases hh
      · have hgy := hge y hy
        rcases hx y hy with ⟨rfl, u⟩ | ⟨h1, h2⟩
        · exact ⟨k1.tr u fun z hz => .inr (by simp only [one] at hz; omega), hgy⟩
        · exact ⟨k1.trans h1, by omega⟩
  refine loop_rule (fun i : Nat => ((i : Int), ())) (fun i W => l ≤ i ∧ i ≤ l + 20 ∧ Kp w W ∧ ∃ g : Nat → Int, W.heap[x]? = some (Bl (ints c' g) 3) ∧ ∀ j, j < i → g j = lentF ks l j) (fun i => l + 20 - i) l rfl ⟨Nat.le_refl _, by omega, k2.1, g, hx2, fun j hj => by rw [lentF, if_pos hj]; exact hg j hj⟩ ?_
  rintro i W K ⟨hi1, hi2, kW, g', hW, hg'⟩ hK
  dsimp only
  refine ifB_d (fun hlt => ?_) fun hlt => ?_
  · refine ⟨⟨by omega, by omega⟩, ?_⟩
    rw [add_mk, Int.toNat_natCast, Nat.zero_add, Nat.mul_one]
    refine stx_at _ hW (by simp; omega) rfl fun W2 p2 => ?_
    rw [Nat.add_zero, wrap_id (by omega) (by omega), ints_set] at p2
    rw [wrap_id (by omega) (by omega)]
    refine hK (i + 1) W2 ⟨by omega, by omega, kW.put p2 k2.2, _, p2.at0, fun j hj => ?_⟩ (by omega)
    by_cases hji : j = i
    · subst hji; rw [up_same, lentF, if_neg (by omega)]
    · rw [up_other _ _ hji]; exact hg' j (by omega)
  · have : i = l + 20 := by omega
    subst this
    exact ⟨x, c', by rw [Nat.zero_add], ⟨hc', g', hW, hg'⟩, kW, k2.2⟩

theorem c35 {w : World} {b c l cs : Nat} {s : Option Addr} {ks : Nat → Int} (h : Len w b c l ks) (hs : Ls w s l ks) (hl : l ≤ 100000) : Ret PR 35 [.slice (some ⟨b, 0, none⟩) (l + 20) c, .slice s l cs] w fun v w' => v = .bool true ∧ Upd (one b) w w' := by
  refine Ret.of ((S35_eq _ _ _ _ _ _ w _).mpr ?_)
  unfold S35
  obtain ⟨hc, g, hb, hg⟩ := h
  refine ⟨fun s W => s = (true, ()) ∧ Kp w W, ?_, ?_⟩
  · rintro s W ⟨rfl, kW⟩
    refine loop_rule (fun i : Nat => ((i : Int), ())) (fun i V => i ≤ l + 20 ∧ Upd (one b) w V ∧ ∃ g : Nat → Int, V.heap[b]? = some (Bl (ints c g) 3)) (fun i => l + 20 - i) 0 rfl ⟨by omega, Kp.upd kW, g, kW.at hb⟩ ?_
    rintro i V K ⟨hi, uV, g', hV⟩ hK
    dsimp only
    refine ifB_d (fun hlt => ?_) fun hlt => ⟨rfl, uV⟩
    refine ⟨⟨by omega, by omega⟩, ?_⟩
    rw [add_mk, Int.toNat_natCast, Nat.zero_add, Nat.mul_one]
    refine stx_at _ hV (by simp; omega) rfl fun W2 p2 => ?_
    rw [Nat.add_zero, ints_set] at p2
    rw [wrap_id (by omega) (by omega)]
    exact hK (i + 1) W2 ⟨by omega, uV.trans p2.upd, _, p2.at0⟩ (by omega)
  · refine loop_rule (fun i : Nat => (true, (i : Int), ())) (fun i V => i ≤ l + 20 ∧ Kp w V) (fun i => l + 20 - i) 0 ?_ ⟨by omega, kp0⟩ ?_
    · rw [wrap_id (by omega) (by omega)]
      refine congrArg (fun z => (z, (0 : Int), ())) ?_
      symm
      simp
    rintro i V K ⟨hi, kV⟩ hK
    dsimp only
    refine join_two (ifB_d (fun hlt => ifB_b (fun _ => ?_) fun hh => by cases hh) fun hlt => ⟨rfl, kV⟩)
    dsimp only
    have hlt : i < l + 20 := by omega
    generalize hwd : World.drew V = wd
    have d1 : Kp V wd := hwd ▸ ext_drew V
    have kd : Kp w wd := Upd.trans kV d1
    have cb := ints_cell (i := i) (kd.at hb) (by omega)
    rw [hg i hlt] at cb
    have nx := hK (i + 1) wd ⟨by omega, kd⟩ (by omega)
    rw [wrap_id (x := (i : Int) + 1) (by omega) (by omega)]
    refine ifB_d (fun hlt2 => ?_) fun hlt2 => ?_
    · obtain ⟨a, ha, hc2⟩ := hs i (by omega)
      have e : lentF ks l i = ks i := by rw [lentF, if_pos (by omega)]
      refine ⟨⟨by omega, by omega⟩, _, cb, ?_⟩
      rw [ha]
      refine ⟨⟨by omega, by omega⟩, _, cell_kp kd hc2, ifB_eq (fun _ => nx) fun hh => absurd e hh⟩
    · refine ifB_d (fun _ => ⟨⟨by omega, by omega⟩, _, cb, ?_⟩) fun hh => absurd (by omega) hh
      have e : lentF ks l i = -71 - (i : Int) := by rw [lentF, if_neg (by omega)]
      rw [e, wrap_id (by omega) (by omega), beq_self_eq_true]
      exact nx
end Go.Wx
end
section
/- Contracts of keeps and turned. -/
set_option linter.unusedVariables false
set_option maxRecDepth 100000
namespace Go.Wx
open Go

theorem Inv.setW {σ : St} (h : Inv σ) (W : Nat → Int) : Inv { σ with W := W } := by
  refine ⟨h.n1, h.n2, h.pg, fun i hi hk => ?_, h.oz, h.ser, h.hd, h.last0⟩
  have := h.ob i hi hk
  exact ⟨this.fit, this.at_, this.ser, this.ser0, this.pl⟩
theorem poS_ok {σ : St} (h : Inv σ) (x v : Int) : Inv (poS σ x v) ∧ (poS σ x v).n = σ.n ∧ (poS σ x v).last = σ.last := by
  unfold poS
  split
  · exact ⟨h.setW _, rfl, rfl⟩
  · exact ⟨h, rfl, rfl⟩
theorem wrS_ok {σ : St} (h : Inv σ) (x i v : Int) : Inv (wrS σ x i v) ∧ (wrS σ x i v).n = σ.n ∧ (wrS σ x i v).last = σ.last := by
  unfold wrS
  split
  · exact ⟨h, rfl, rfl⟩
  · exact ⟨h.setW _, rfl, rfl⟩

section
variable {w : World} {pb N : Nat} {own : Nat → Own} {P : Prop} {B : Sl → Nat} {R : RB} {σ : St}

/-- What a step that changes comes to. -/
def Tn (w w' : World) (pb N : Nat) (own : Nat → Own) (P : Prop) (B : Sl → Nat) (R : RB) (σ : St) : Prop := ∃ σ', PI w' pb own N P B R σ' ∧ Upd (PF pb own B R) w w' ∧ σ'.last ≤ σ.last + 1 ∧ σ'.n = σ.n
theorem Tn.mk' {w0 w1 w' : World} {σ' : St} (h : PI w pb own N P B R σ) (k : Kp w0 w) (u1 : Upd (spF B) w w1) (hs : Sp w1 B σ') (u2 : Upd R.F w1 w') (hr : Rf w' R σ') (hi : Inv σ') (hn : σ'.n = σ.n) (hl : σ'.last ≤ σ.last + 1) : Tn w0 w' pb N own P B R σ := by
  obtain ⟨h1, h2⟩ := h.both u1 hs u2 hr hi hn
  exact ⟨σ', h1, (Kp.upd k).trans h2, hl, hn⟩
theorem Tn.kp {w1 w2 : World} (h : Tn w w1 pb N own P B R σ) (k : Kp w1 w2) : Tn w w2 pb N own P B R σ := by
  obtain ⟨σ', h1, h2, h3, h4⟩ := h
  exact ⟨σ', h1.kp k, h2.trans (Kp.upd k), h3, h4⟩

theorem c30 (h : PI w pb own N P B R σ) {s : Option Addr} {l c : Nat} {ks : Nat → Int} (hs : Ls w s l ks) (hl : l ≤ 100000) (h64 : ∀ i, i < l → In64 (ks i)) (hsep : ∀ (w1 : World), Upd (PF pb own B R) w w1 → Ls w1 s l ks) :
    Ret PR 30 [pt pb, .slice s l c] w fun v w' => v = .bool true ∧ Tn w w' pb N own P B R σ := by
  refine Ret.of ((S30_eq _ _ _ _ w _).mpr ?_)
  unfold S30
  refine (c33 hs hl).use ?_
  rintro _ w1 ⟨b, c', rfl, hlen, k1, hb⟩
  refine ⟨_, _, _, rfl, ?_⟩
  generalize hwd : World.drew w1 = wd
  have d1 : Kp w1 wd := hwd ▸ ext_drew w1
  have kd := k1.trans d1
  have hd := h.kp kd
  have hc' := hlen.1
  refine ⟨_, hd.ps, ⟨by omega, by omega⟩, ?_⟩
  rw [if_neg (by omega : ¬ c' = 0), show ((l : Int).toNat - 0) = l by omega, Nat.sub_zero]
  have hls : Ls wd (some ⟨b, 0, none⟩) l ks := fun i hi => by
    obtain ⟨_, g, g1, g2⟩ := hlen.kp d1
    refine ⟨_, rfl, ?_⟩
    rw [ints_cell g1 (by omega), g2 i (by omega), lentF, if_pos hi]
  show Calls PR 68 (Array.mk [pt (B .s), .slice (some ⟨b, 0, none⟩) l c']) wd _
  refine (c68 h.i hd.s hls (by omega) h64).use ?_
  rintro _ w2 ⟨rfl, hs2, u2⟩
  obtain ⟨hx2, hr2⟩ := hd.s1 u2
  obtain ⟨O2, hp2⟩ := hx2.p
  refine ⟨_, _, rfl, _, cell_of hp2 1, ?_⟩
  have hls2 : Ls w2 s l ks := hsep w2 ((Kp.upd kd).trans (u2.mono fun b hb => .inr (.inr (.inl hb))))
  refine (c69 h.i hr2 h.c hls2 (by omega)).use ?_
  rintro _ w3 ⟨rfl, hr3, u3⟩
  have hT := Tn.mk' hd kd u2 hs2 u3 hr3 (h.i.kpT ks l) (kpT_n σ ks l).1 (by rw [(kpT_n σ ks l).2]; omega)
  obtain ⟨σ', t1, t2, t3, t4⟩ := hT
  have hlen3 : Len w3 b c' l ks := ((hlen.kp d1).upd u2 fun hh => by have := h.lt (.inr (.inr (.inl hh))); omega).upd u3 fun hh => by have := h.lt (.inr (.inr (.inr hh))); omega
  refine ⟨_, _, rfl, ?_⟩
  refine (c35 hlen3 (hsep w3 t2) hl).use ?_
  rintro _ w4 ⟨rfl, u4⟩
  refine ⟨_, rfl, ifB_b (fun _ => ifB_eq (fun _ => ⟨by simp, σ', ?_, t2.tr u4 fun x hx => .inr (by simp only [one] at hx; omega), t3, t4⟩) fun hh => absurd rfl hh) fun hh => by cases hh⟩
  have hpos : 0 < w.heap.size := by have := h.x.lt.2.2; omega
  exact t1.upd u4 (fun x hx hh => by have := h.lt hx; simp only [one] at hh; omega) (by simp only [one]; omega)

theorem alT_ok {σ : St} (h : Inv σ) (kind size tag : Int) : Inv (alT σ kind size tag) ∧ (alT σ kind size tag).n = σ.n ∧ (alT σ kind size tag).last ≤ σ.last + 1 :=
  ⟨h.alT kind size tag, (alT_last σ kind size tag h.last0).2.2, (alT_last σ kind size tag h.last0).2.1⟩
theorem kp_fr {F : Nat → Prop} {w w' : World} {b : Nat} {o : Obj} (u : Upd F w w') (hF : ∀ x, F x → x < b) (h : w.heap[b]? = some o) : w'.heap[b]? = some o := u.at h fun hh => by have := hF b hh; omega

/-- An operation's numbers are in range; its list stays, whatever the pair turns. -/
structure OpOK (w : World) (F : Nat → Prop) (a b c : Int) (s : Option Addr) (l : Nat) (ks : Nat → Int) : Prop where
  ha : In64 a
  hb : In64 b
  hc : In64 c
  hs : Ls w s l ks
  hl : l ≤ 1000
  hk : ∀ i, i < l → In64 (ks i)
  ht : ∀ w0 w1 : World, Kp w w0 → Upd F w0 w1 → Ls w1 s l ks

theorem PI.cells (h : PI w pb own N P B R σ) : w.cell? ((Addr.mk pb 0 none).add 0) = some (pt (B .s)) ∧ w.cell? ((Addr.mk pb 0 none).add 1) = some (pt R.s) := ⟨h.ps, h.pr⟩

theorem c14_2 (h : PI w pb own N P B R σ) {who a b c : Int} {s : Option Addr} {l cc : Nat} {ks : Nat → Int} (ho : OpOK w (PF pb own B R) a b c s l ks) (kind : Int) (hk : kind = 2 ∨ kind = 3 ∨ kind = 4 ∨ kind = 5 ∨ kind = 6) :
    Ret PR 14 [pt pb, .agg (Array.mk [I who, I kind, I a, I b, I c, .slice s l cc])] w fun v w' => v = .bool true ∧ Tn w w' pb N own P B R σ := by
  refine Ret.of ((S14_eq ..).mpr ?_)
  unfold S14
  have hn2 := h.i.n2
  refine atW_new fun w1 n1 => ⟨_, cell_of n1.at0 1, ifB_eq (fun hh => by omega) fun _ => ?_⟩
  have h1 := h.kp n1.ext
  have hfl : ∀ x, PF pb own B R x → x < w.heap.size := fun x hx => h.lt hx
  have hsB : ∀ x, spF B x → x < w.heap.size := fun x hx => hfl x (.inr (.inr (.inl hx)))
  have gpb : spF B pb → False := fun hh => (h.ds _ hh).2.1 rfl
  have gop : spF B w.heap.size → False := fun hh => Nat.lt_irrefl _ (hsB _ hh)
  -- two writes
  have wr : ∀ {wa : World} (x i v : Int), Kp w wa → In64 x → Calls PR 24 (Array.mk [pt (B .s), I x, I i, I v]) wa fun y y_2 => ∃ n_5 n_6, y = Ending.returned (Value.agg (Array.mk [Value.int IntKind.i64 n_5, Value.int IntKind.i64 n_6])) ∧ (∀ (b : Nat) (o : Obj), ¬ spF B b → wa.heap[b]? = some o → y_2.heap[b]? = some o) ∧
      Calls PR 25 (Array.mk [pt R.s, I x, I i, I v]) y_2 fun y y_3 => ∃ n n_7, y = Ending.returned (Value.agg (Array.mk [Value.int IntKind.i64 n, Value.int IntKind.i64 n_7])) ∧
        Calls PR 23 (Array.mk [Value.agg (Array.mk [Value.int IntKind.i64 n_5, Value.int IntKind.i64 n_6]), Value.agg (Array.mk [Value.int IntKind.i64 n, Value.int IntKind.i64 n_7])]) y_3 fun y y_4 => ∃ b, y = Ending.returned (Value.bool b) ∧ Value.bool b = .bool true ∧ Tn w y_4 pb N own P B R σ := by
    intro wa x i v ka hx
    have ha := h.kp ka
    refine (c24 ha.i ha.s x i v hx).use ?_
    rintro _ w2 ⟨rfl, hs2, u2⟩
    refine ⟨_, _, rfl, fun b o hb ho => u2.at ho hb, ?_⟩
    refine (c25 ha.i (ha.s1 u2).2 x i v).use ?_
    rintro _ w3 ⟨rfl, hr3, u3⟩
    refine ⟨_, _, rfl, ?_⟩
    obtain ⟨q1, q2, q3⟩ := wrS_ok h.i x i v
    refine (c23 w3 (wrdS σ x i) (wrdS σ x i)).use fun w4 e4 => ⟨_, rfl, by simp, (Tn.mk' ha ka u2 hs2 u3 hr3 q1 q2 (by omega)).kp e4⟩
  -- two pokes
  have po : ∀ {wa : World} (x v : Int), Kp w wa → Calls PR 27 (Array.mk [pt (B .s), I x, I v]) wa fun y y_1 => ∃ b, y = Ending.returned (Value.bool b) ∧ (∀ (b : Nat) (o : Obj), ¬ spF B b → wa.heap[b]? = some o → y_1.heap[b]? = some o) ∧
      Calls PR 28 (Array.mk [pt R.s, I x, I v]) y_1 fun y y_2 => ∃ b_1, y = Ending.returned (Value.bool b_1) ∧ Value.bool (b == b_1) = .bool true ∧ Tn w y_2 pb N own P B R σ := by
    intro wa x v ka
    have ha := h.kp ka
    refine (c27 ha.s x v).use ?_
    rintro _ w2 ⟨rfl, hs2, u2⟩
    refine ⟨_, rfl, fun b o hb ho => u2.at ho hb, ?_⟩
    refine (c28 (ha.s1 u2).2 x v).use ?_
    rintro _ w3 ⟨rfl, hr3, u3⟩
    obtain ⟨q1, q2, q3⟩ := poS_ok h.i x v
    exact ⟨_, rfl, by simp, Tn.mk' ha ka u2 hs2 u3 hr3 q1 q2 (by omega)⟩
  generalize hwd : World.drew w1 = wd
  have d1 : Kp w1 wd := hwd ▸ ext_drew w1
  have hd := h1.kp d1
  have kd : Kp w wd := Upd.trans n1.ext d1
  have cd := d1.at n1.at0
  refine ifB_eq (fun hk2 => ?_) fun hk2 => ifB_eq (fun hk3 => ?_) fun hk3 => ifB_eq (fun hk4 => ?_) fun hk4 => ifB_eq (fun hk5 => ?_) fun hk5 => ifB_eq (fun hk6 => ?_) fun hk6 => by omega
  · exact ⟨spF B, gpb, _, hd.ps, gop, _, cell_of cd 2, gop, _, cell_of cd 3, gop, _, cell_of cd 4, gpb, _, hd.pr, gop, _, cell_of cd 2, gop, _, cell_of cd 3, gop, _, cell_of cd 4, wr a b c kd ho.ha⟩
  · refine ⟨_, cell_of n1.at0 2, ?_⟩
    refine (c26 h1 ho.ha).use fun w2 e2 => ⟨_, rfl, ?_⟩
    generalize hwe : World.drew w2 = we
    have d2 : Kp w2 we := hwe ▸ ext_drew w2
    have ke : Kp w1 we := Upd.trans e2 d2
    have he := h1.kp ke
    have ce := ke.at n1.at0
    exact ⟨spF B, gpb, _, he.ps, gop, _, cell_of ce 3, gop, _, cell_of ce 4, gpb, _, he.pr, gop, _, cell_of ce 3, gop, _, cell_of ce 4, wr (nthS σ a) b c (Upd.trans n1.ext ke) (nthS_64 h.i a).1⟩
  · exact ⟨spF B, gpb, _, hd.ps, gop, _, cell_of cd 2, gop, _, cell_of cd 3, gpb, _, hd.pr, gop, _, cell_of cd 2, gop, _, cell_of cd 3, po a b kd⟩
  · refine ⟨spF B, gop, _, cell_of cd 2, gop, _, cell_of cd 3, ?_⟩
    refine (c26 hd ho.ha).use fun w2 e2 => ⟨_, rfl, fun b o _ hb => e2.at hb, ?_⟩
    refine (c29 w2 b 40 ho.hb (by omega) (by omega)).use fun w3 e3 => ⟨_, rfl, ?_⟩
    generalize hwe : World.drew w3 = we
    have d2 : Kp w3 we := hwe ▸ ext_drew w3
    have ke : Kp wd we := Upd.trans e2 (Upd.trans e3 d2)
    have he := hd.kp ke
    have ce := ke.at cd
    exact ⟨spF B, gpb, _, he.ps, gop, _, cell_of ce 4, gpb, _, he.pr, gop, _, cell_of ce 4, po _ c (Upd.trans kd ke)⟩
  · refine ⟨_, _, _, cell_of n1.at0 5, ?_⟩
    have hll := ho.hl
    refine (c30 h1 (ho.hs.kp n1.ext) (by omega) ho.hk fun w2 u2 => ho.ht w1 w2 n1.ext u2).use ?_
    rintro _ w2 ⟨rfl, σ', t1, t2, t3, t4⟩
    exact ⟨_, rfl, rfl, σ', t1, (Kp.upd n1.ext).trans t2, t3, t4⟩

theorem c14_1 (h : PI w pb own N P B R σ) {who a b c : Int} {s : Option Addr} {l cc : Nat} {ks : Nat → Int} (ho : OpOK w (PF pb own B R) a b c s l ks) (hlast : σ.last < 1000000) :
    Ret PR 14 [pt pb, .agg (Array.mk [I who, I 1, I a, I b, I c, .slice s l cc])] w fun v w' => v = .bool true ∧ Tn w w' pb N own P B R σ := by
  refine Ret.of ((S14_eq ..).mpr ?_)
  unfold S14
  refine atW_new fun w1 n1 => ⟨_, cell_of n1.at0 1, ifB_eq (fun _ => ?_) fun hh => absurd rfl hh⟩
  have h1 := h.kp n1.ext
  have hsB : ∀ x, spF B x → x < w.heap.size := fun x hx => h.lt (.inr (.inr (.inl hx)))
  have hsR : ∀ x, R.F x → x < w.heap.size := fun x hx => h.lt (.inr (.inr (.inr hx)))
  have z1 := n1.sz
  generalize hwd : World.drew w1 = wd
  have d1 : Kp w1 wd := hwd ▸ ext_drew w1
  have hd := h1.kp d1
  have cd := d1.at n1.at0
  have zd := d1.sz
  have hlt : ∀ x : Sl, x.ok → B x < w.heap.size := fun x hx => hsB _ ⟨x, hx, rfl⟩
  have gno : ∀ {q : Prop}, ((fun _ : Nat => False) 0 → q) := fun hh => hh.elim
  obtain ⟨q1, q2, q3⟩ := alT_ok h.i a b c
  refine ⟨fun s W => ∃ fb, s = (.pointer (some ⟨fb, 0, none⟩), (alR σ a b).1, ()) ∧ Sp W B (alT σ a b c) ∧ Upd (spF B) wd W ∧ W.heap[fb]? = some (Bl [I (alR σ a b).2.1, I (alR σ a b).2.2] 39) ∧ wd.heap.size ≤ fb, ?_, ?_⟩
  rotate_left
  · refine ⟨fun _ => False, fun hh => hh, _, hd.ps, fun hh => hh, _, cell_of cd 2, fun hh => hh, _, cell_of cd 3, fun hh => hh, _, cell_of cd 4, ?_, ?_⟩
    · refine (c18 hd.i hd.s a b c ho.hb (by omega)).use ?_
      rintro _ w2 ⟨rfl, hs2, u2⟩
      have z2 := u2.sz
      refine ⟨_, _, _, rfl, atW_new fun w3 n3 => ⟨fun _ _ _ hh => n3.ext.at hh, stx_at _ n3.at0 (by simp) rfl fun w4 p4 => ⟨w2.heap.size, rfl, ?_, ?_, p4.at0, z2⟩⟩⟩
      · exact (Sp.kp hs2 n3.ext).putNew p4 fun x hx => by have := hlt x hx; omega
      · exact (u2.new n3).put p4 z2
    · refine atW_new fun w2 n2 => ⟨fun _ _ _ hh => n2.ext.at hh, ?_⟩
      have h2 := hd.kp n2.ext
      refine (c18 h2.i h2.s a b c ho.hb (by omega)).use ?_
      rintro _ w3 ⟨rfl, hs3, u3⟩
      refine ⟨_, _, _, rfl, stx_at _ (u3.at n2.at0 fun hh => by have := hsB _ hh; omega) (by simp) rfl fun w4 p4 => ⟨wd.heap.size, rfl, ?_, ?_, p4.at0, Nat.le_refl _⟩⟩
      · exact SpR.putNew hs3 p4 fun x hx => by have := hlt x hx; omega
      · exact ((Kp.upd n2.ext).trans u3).put p4 (Nat.le_refl _)
  rintro _ W ⟨fb, rfl, hs, uW, hfb, hfl⟩
  dsimp only
  have cW := uW.at cd fun hh => by have := hsB _ hh; omega
  generalize hwe : World.drew W = we
  have d2 : Kp W we := hwe ▸ ext_drew W
  have ue := uW.trans (Kp.upd d2)
  obtain ⟨hx, hr⟩ := hd.s1 ue
  obtain ⟨O, hp⟩ := hx.p
  have ce := d2.at cW
  have fe := d2.at hfb
  have zW := uW.sz
  have ze := d2.sz
  refine ⟨fun s V => ∃ gb, s = (.pointer (some ⟨gb, 0, none⟩), (alR σ a b).1, ()) ∧ Rf V R (alT σ a b c) ∧ Upd R.F we V ∧ V.heap[gb]? = some (Bl [I (alR σ a b).2.1, I (alR σ a b).2.2] 56), ?_, ?_⟩
  rotate_left
  · refine ⟨fun _ => False, fun hh => hh, _, cell_of hp 1, fun hh => hh, _, cell_of ce 2, fun hh => hh, _, cell_of ce 3, fun hh => hh, _, cell_of ce 4, ?_, ?_⟩
    · refine (c22 h.i hr a b c ho.hb (by omega)).use ?_
      rintro _ w2 ⟨rfl, hs2, u2⟩
      have z2 := u2.sz
      refine ⟨_, _, _, rfl, atW_new fun w3 n3 => ⟨fun _ _ _ hh => n3.ext.at hh, stx_at _ n3.at0 (by simp) rfl fun w4 p4 => ⟨w2.heap.size, rfl, ?_, ?_, p4.at0⟩⟩⟩
      · exact (hs2.kp n3.ext).upd p4.upd fun x hx hh => by have := hsR x hx; simp only [one] at hh; omega
      · exact (u2.new n3).put p4 z2
    · refine atW_new fun w2 n2 => ⟨fun _ _ _ hh => n2.ext.at hh, ?_⟩
      refine (c22 h.i (hr.kp n2.ext) a b c ho.hb (by omega)).use ?_
      rintro _ w3 ⟨rfl, hs3, u3⟩
      refine ⟨_, _, _, rfl, stx_at _ (u3.at n2.at0 fun hh => by have := hsR _ hh; omega) (by simp) rfl fun w4 p4 => ⟨we.heap.size, rfl, ?_, ?_, p4.at0⟩⟩
      · exact hs3.upd p4.upd fun x hx hh => by have := hsR x hx; simp only [one] at hh; omega
      · exact ((Kp.upd n2.ext).trans u3).put p4 (Nat.le_refl _)
  rintro _ V ⟨gb, rfl, hrV, uV, hgb⟩
  dsimp only [SK.v, asA]
  have fV := uV.at fe fun hh => by have := hsR _ hh; omega
  refine ifB_eq (fun _ => ?_) fun hh => absurd rfl hh
  refine ⟨_, cell_of fV 0, _, cell_of fV 1, _, cell_of hgb 0, _, cell_of hgb 1, ?_⟩
  refine (c23 V (alR σ a b).2 (alR σ a b).2).use fun w4 e4 => ⟨_, rfl, by simp, (Tn.mk' hd (Upd.trans n1.ext d1) ue (Sp.kp hs d2) uV hrV q1 q2 q3).kp e4⟩
end
end Go.Wx
end
section
/- Contract of turned. -/
set_option linter.unusedVariables false
set_option maxRecDepth 100000
namespace Go.Wx
open Go

section
variable {w : World} {pb N : Nat} {own : Nat → Own} {P : Prop} {B : Sl → Nat} {R : RB} {σ : St}
theorem Rw.ls {w : World} {v : LV} {g : Nat → Int} (h : Rw w v 1 3 fun i => [I (g i)]) : Ls w v.ad v.l g := fun i hi => by
  obtain ⟨b, h1, h2⟩ := h.at1 hi
  rw [Int.toNat_natCast] at h2
  exact ⟨_, h1, h2⟩

theorem c14_7 (h : PI w pb own N P B R σ) {who a b c : Int} {s : Option Addr} {l cc : Nat} {ks : Nat → Int} (ho : OpOK w (PF pb own B R) a b c s l ks) :
    Ret PR 14 [pt pb, .agg (Array.mk [I who, I 7, I a, I b, I c, .slice s l cc])] w fun v w' => v = .bool true ∧ Tn w w' pb N own P B R σ := by
  refine Ret.of ((S14_eq ..).mpr ?_)
  unfold S14
  have hl := ho.hl
  refine atW_new fun w1 n1 => ⟨_, cell_of n1.at0 1, ifB_eq (fun hh => by omega) fun _ => ifB_eq (fun hh => by omega) fun _ => ifB_eq (fun hh => by omega) fun _ => ifB_eq (fun hh => by omega) fun _ => ifB_eq (fun hh => by omega) fun _ => ifB_eq (fun hh => by omega) fun _ => ?_⟩
  refine loop_rule (fun g : Nat × LV => ((g.2.ad, g.2.l, g.2.c), (g.1 : Int), ())) (fun g W => g.1 ≤ l ∧ Kp w1 W ∧ g.2.l ≤ g.1 ∧ (∀ b, g.2.b = some b → w1.heap.size ≤ b) ∧ ∃ f : Nat → Int, Rw W g.2 1 3 (fun i => [I (f i)]) ∧ ∀ i, i < g.2.l → In64 (f i)) (fun g => l - g.1) (0, LV.nil) rfl ⟨by dsimp only; omega, kp0, Nat.le_refl _, fun b hb => by simp [LV.nil] at hb, fun _ => 0, rw_nil, fun i hi => by simp [LV.nil] at hi⟩ ?_
  rintro ⟨i, L⟩ W K ⟨hi, kW, hLi, hb, f, hR, h64⟩ hK
  dsimp only at hi hLi hb hR h64 hK ⊢
  have k0 : Kp w W := Upd.trans n1.ext kW
  have hW := h.kp k0
  have cW := kW.at n1.at0
  refine ⟨_, _, _, cell_of cW 5, ifB_d (fun hlt => ?_) fun hlt => ?_⟩
  · have hlt : i < l := by omega
    obtain ⟨ad, had, hc⟩ := ho.hs i hlt
    refine ⟨_, _, _, cell_of cW 5, ?_⟩
    rw [had]
    refine ⟨⟨by omega, by omega⟩, _, cell_kp k0 hc, ?_⟩
    refine (c26 hW (ho.hk i hlt)).use fun w2 e2 => ⟨_, rfl, ?_⟩
    have hn := nthS_64 h.i (ks i)
    rw [wrap_id (x := (i : Int) + 1) (by omega) (by omega)]
    refine ifB_d (fun _ => ?_) fun _ => ?_
    · have k2 : Kp w w2 := Upd.trans k0 e2
      refine ⟨_, _, _, cell_of (e2.at cW) 5, ?_⟩
      rw [had]
      refine ⟨⟨by omega, by omega⟩, _, cell_kp k2 hc, ?_⟩
      refine (c26 (h.kp k2) (ho.hk i hlt)).use fun w3 e3 => ⟨_, rfl, atW_new fun w4 n4 => ?_⟩
      have k4 : Kp W w4 := Upd.trans e2 (Upd.trans e3 n4.ext)
      have z4 : w1.heap.size ≤ w4.heap.size := Nat.le_trans kW.sz k4.sz
      refine app_row (row := [I (nthS σ (ks i))]) (hR.upd k4 fun _ _ h => h) n4.at0 rfl (by simp [isLeaf]) rfl (by simp [isLeaf]) (by omega) (fun b cs w5 hvb hcap hcs p hR' => ?_) fun cs c' w5 n5 hR' => ?_
      · refine hK (i + 1, ⟨L.b, L.l + 1, L.c⟩) w5 ⟨by dsimp only; omega, (Upd.trans kW k4 : Kp w1 w4).tr p.upd fun x hx => .inr (by have := hb b hvb; simp only [one] at hx; omega), by dsimp only; omega, hb, up f L.l (nthS σ (ks i)), hR'.congr fun j _ => ?_, fun j hj => ?_⟩ (by dsimp only; omega)
        · unfold up; split <;> rfl
        · have hj : j < L.l + 1 := hj
          by_cases hjl : j = L.l
          · subst hjl; rw [up_same]; exact hn.1
          · rw [up_other _ _ hjl]; exact h64 j (by omega)
      · refine hK (i + 1, ⟨some w4.heap.size, L.l + 1, c'⟩) w5 ⟨by dsimp only; omega, Upd.trans (Upd.trans kW k4) n5.ext, by dsimp only; omega, fun b hb' => by cases hb'; exact z4, up f L.l (nthS σ (ks i)), hR'.congr fun j _ => ?_, fun j hj => ?_⟩ (by dsimp only; omega)
        · unfold up; split <;> rfl
        · have hj : j < L.l + 1 := hj
          by_cases hjl : j = L.l
          · subst hjl; rw [up_same]; exact hn.1
          · rw [up_other _ _ hjl]; exact h64 j (by omega)
    · exact hK (i + 1, L) w2 ⟨by dsimp only; omega, Upd.trans kW e2, by dsimp only; omega, hb, f, hR.upd e2 fun _ _ h => h, h64⟩ (by dsimp only; omega)
  · refine (c30 hW hR.ls (by omega) h64 fun w2 u2 => ?_).use ?_
    · exact (hR.upd u2 fun x hx hh => by have := h.lt hh; have := hb x hx; have := n1.sz; omega).ls
    rintro _ w2 ⟨rfl, σ', t1, t2, t3, t4⟩
    exact ⟨_, rfl, rfl, σ', t1, (Kp.upd k0).trans t2, t3, t4⟩
end
end Go.Wx
end
section
/- Contract of seen. -/
set_option linter.unusedVariables false
set_option maxRecDepth 100000
namespace Go.Wx
open Go

section
variable {w : World} {pb N : Nat} {own : Nat → Own} {P : Prop} {B : Sl → Nat} {R : RB} {σ : St}
theorem ifB_yes {b : Bool} {A C : Prop} (hb : b = true) (h : A) : ifB b A C := by rw [hb]; exact h
theorem c32 (h : PI w pb own N P B R σ) {x : Int} (hx : In64 x) (i : Int) : RetE PR 32 [pt pb, I x, I i] w (.bool true) := by
  refine Ret.of ((S32_eq _ _ _ w _).mpr ?_)
  unfold S32
  refine ⟨_, h.ps, ?_⟩
  refine (c70 h.i h.s x hx).use fun w1 e1 => ⟨_, _, _, _, _, _, rfl, atW_new fun w2 n2 => stx_at _ n2.at0 (by simp) rfl fun w3 p3 => ?_⟩
  have k3 : Kp w w3 := (Upd.trans e1 n2.ext : Kp w w2).put p3 e1.sz
  refine ⟨_, (h.kp k3).pr, ?_⟩
  refine (c71 (h.kp k3).r x).use fun w4 e4 => ⟨_, _, _, _, _, _, rfl, atW_new fun w5 n5 => stx_at _ n5.at0 (by simp) rfl fun w6 p6 => ?_⟩
  have k36 : Kp w3 w6 := (Upd.trans e4 n5.ext : Kp w3 w5).put p6 e4.sz
  have k6 : Kp w w6 := Upd.trans k3 k36
  refine ⟨_, (h.kp k6).ps, ?_⟩
  refine (c72 h.i (h.kp k6).s x i hx).use fun w7 e7 => ⟨_, _, _, rfl, atW_new fun w8 n8 => stx_at _ n8.at0 (by simp) rfl fun w9 p9 => ?_⟩
  have k69 : Kp w6 w9 := (Upd.trans e7 n8.ext : Kp w6 w8).put p9 e7.sz
  have k9 : Kp w w9 := Upd.trans k6 k69
  refine ⟨_, (h.kp k9).pr, ?_⟩
  refine (c73 h.i (h.kp k9).r x i).use fun wa ea => ⟨_, _, _, rfl, atW_new fun wb nb => stx_at _ nb.at0 (by simp) rfl fun wc pc => ?_⟩
  have k9c : Kp w9 wc := (Upd.trans ea nb.ext : Kp w9 wb).put pc ea.sz
  have kc : Kp w wc := Upd.trans k9 k9c
  generalize hwd : World.drew wc = wd
  have dd : Kp wc wd := hwd ▸ ext_drew wc
  have kd : Kp w wd := Upd.trans kc dd
  have b1 : wd.heap[w1.heap.size]? = _ := Kp.at (Upd.trans k36 (Upd.trans k69 (Upd.trans k9c dd)) : Kp w3 wd) p3.at0
  have b2 : wd.heap[w4.heap.size]? = _ := Kp.at (Upd.trans k69 (Upd.trans k9c dd) : Kp w6 wd) p6.at0
  have b3 : wd.heap[w7.heap.size]? = _ := Kp.at (Upd.trans k9c dd : Kp w9 wd) p9.at0
  have b4 : wd.heap[wa.heap.size]? = _ := dd.at pc.at0
  refine ⟨_, cell_of b1 0, _, cell_of b1 1, _, cell_of b1 2, _, cell_of b1 3, _, cell_of b1 4, _, cell_of b2 0, _, cell_of b2 1, _, cell_of b2 2, _, cell_of b2 3, _, cell_of b2 4, ifB_yes (by simp) (ifB_yes (by simp) ?_)⟩
  have hd := h.kp kd
  refine ⟨_, hd.ps, _, hd.pr, ?_⟩
  refine (c74 hd.s x hx).use fun we ee => ⟨_, _, rfl, ee.draw, ?_⟩
  refine (c75 (hd.kp ee).r x).use fun wf ef => ⟨_, _, rfl, ?_⟩
  refine (c23 wf (chkS σ x) (chkS σ x)).use fun wg eg => ⟨_, rfl, ifB_yes (by simp) (ifB_yes (by simp) ?_)⟩
  have kg : Kp wd wg := Upd.trans ee (Upd.trans ef eg)
  refine ⟨_, cell_of (kg.at b3) 0, _, cell_of (kg.at b3) 1, _, cell_of (kg.at b4) 0, _, cell_of (kg.at b4) 1, ?_⟩
  refine (c23 wg (wrdS σ x i) (wrdS σ x i)).use fun wh eh => ⟨_, rfl, by simp, Upd.trans kd (Upd.trans kg eh)⟩
end
end Go.Wx
end
section
/- Contracts of looked, for the steps that only read. -/
set_option linter.unusedVariables false
set_option maxRecDepth 100000
namespace Go.Wx
open Go

section
variable {w : World} {pb N : Nat} {own : Nat → Own} {P : Prop} {B : Sl → Nat} {R : RB} {σ : St}
theorem c15_ro (h : PI w pb own N P B R σ) {who a b c : Int} (ha : In64 a) {s : Option Addr} {l cc : Nat} (kind : Int) (hk : kind = 10 ∨ kind = 11 ∨ kind = 12 ∨ kind = 13 ∨ kind = 15 ∨ kind = 18) :
    RetE PR 15 [pt pb, .agg (Array.mk [I who, I kind, I a, I b, I c, .slice s l cc])] w (.bool true) := by
  refine Ret.of ((S15_eq ..).mpr ?_)
  unfold S15
  refine atW_new fun w1 n1 => ⟨_, cell_of n1.at0 1, ?_⟩
  have h1 := h.kp n1.ext
  generalize hwd : World.drew w1 = wd
  have d1 : Kp w1 wd := hwd ▸ ext_drew w1
  have kd : Kp w wd := Upd.trans n1.ext d1
  have hd := h1.kp d1
  have cd := d1.at n1.at0
  refine ifB_eq (fun hk10 => ?_) fun hk10 => ifB_eq (fun hk11 => ?_) fun hk11 => ifB_eq (fun hk12 => ?_) fun hk12 => ifB_eq (fun hk13 => ?_) fun hk13 => ifB_eq (fun hk14 => by omega) fun hk14 => ifB_eq (fun hk15 => ?_) fun hk15 => ifB_eq (fun hk16 => by omega) fun hk16 => ifB_eq (fun hk17 => by omega) fun hk17 => ifB_eq (fun hk18 => ?_) fun hk18 => by omega
  · refine ⟨_, hd.ps, _, cell_of cd 2, ?_⟩
    refine (c19 hd.s a).use fun w2 e2 => ⟨_, _, rfl, ?_⟩
    generalize hwe : World.drew w2 = we
    have d2 : Kp w2 we := hwe ▸ ext_drew w2
    have ke : Kp wd we := Upd.trans e2 d2
    refine ⟨_, (hd.kp ke).pr, _, cell_of (ke.at cd) 2, ?_⟩
    refine (c31 (hd.kp ke).r a).use fun w3 e3 => ⟨_, _, rfl, ifB_yes (by simp) ⟨by simp, Upd.trans kd (Upd.trans ke e3)⟩⟩
  · refine ⟨_, cell_of n1.at0 2, ?_⟩
    exact (c32 h1 ha 1).use fun w2 e2 => ⟨_, rfl, rfl, Upd.trans n1.ext e2⟩
  · refine ⟨_, cell_of cd 2, _, cell_of cd 3, ?_⟩
    refine (c26 hd ha).use fun w2 e2 => ⟨_, rfl, e2.draw, ?_⟩
    exact (c32 (hd.kp e2) (nthS_64 h.i a).1 b).use fun w3 e3 => ⟨_, rfl, rfl, Upd.trans kd (Upd.trans e2 e3)⟩
  · refine ⟨_, cell_of n1.at0 2, _, cell_of n1.at0 3, ?_⟩
    exact (c32 h1 ha b).use fun w2 e2 => ⟨_, rfl, rfl, Upd.trans n1.ext e2⟩
  · refine ⟨_, hd.ps, _, cell_of cd 2, ?_⟩
    refine (c37 hd.s a).use fun w2 e2 => ⟨_, _, rfl, ?_⟩
    generalize hwe : World.drew w2 = we
    have d2 : Kp w2 we := hwe ▸ ext_drew w2
    have ke : Kp wd we := Upd.trans e2 d2
    refine ⟨_, (hd.kp ke).pr, _, cell_of (ke.at cd) 2, ?_⟩
    refine (c38 (hd.kp ke).r a).use fun w3 e3 => ⟨_, _, rfl, ifB_yes (by simp) ⟨by simp, Upd.trans kd (Upd.trans ke e3)⟩⟩
  · refine ⟨_, hd.ps, _, hd.pr, ?_⟩
    refine (c43 hd.s).use fun w2 e2 => ⟨_, rfl, e2.draw, ?_⟩
    refine (c44 (hd.kp e2).r).use fun w3 e3 => ⟨_, rfl, by simp, Upd.trans kd (Upd.trans e2 e3)⟩

/-- What a look comes to, that the keep may remember. -/
def Lo (w w' : World) (pb N' : Nat) (own : Nat → Own) (P : Prop) (B : Sl → Nat) (R : RB) (σ : St) : Prop := ∃ own', PI w' pb own' N' P B R σ ∧ Upd (PF pb own B R) w w' ∧ ∀ b, PF pb own' B R b → PF pb own B R b ∨ w.heap.size ≤ b
end
end Go.Wx
end
section
/- Contracts of looked: Dump. -/
set_option linter.unusedVariables false
set_option maxRecDepth 100000
namespace Go.Wx
open Go

section
variable {w : World} {pb N : Nat} {own : Nat → Own} {P : Prop} {B : Sl → Nat} {R : RB} {σ : St}
theorem Rw.lt {v : LV} {sz : Nat} {ty : TypeId} {F : Nat → List Value} (h : Rw w v sz ty F) : ∀ b, v.b = some b → b < w.heap.size := fun b hb => by
  obtain ⟨cs, h1, _⟩ := h.2.2 b hb
  exact lt_of_look h1
theorem Lo.mk' {w0 w' : World} {own' : Nat → Own} {N' : Nat} (h : PI w pb own N P B R σ) (k : Kp w0 w) (hx : KX w' pb (pt (B .s)) (pt R.s) own' N' P) (r : KR pb w.heap.size w w' own own') : Lo w0 w' pb N' own P B R σ := by
  obtain ⟨h1, h2, h3⟩ := h.keep hx r.kw
  have := k.sz
  exact ⟨own', h1, (Kp.upd k).trans h2, fun b hb => (h3 b hb).elim .inl fun hh => .inr (by omega)⟩

/-- One comparison of dumps. -/
theorem dump_one {w1 w2 : World} {L1 L2 L3 M1 M2 M3 : LV} (h : PI w pb own N P B R σ) (hN : N ≤ 80000) (d1 : Dm w w1 σ L1 L2 L3) (k1 : Kp w w1) (d2 : Dm w1 w2 σ M1 M2 M3) (k2 : Kp w1 w2) (quiet : Bool) :
    Ret PR 47 [.pointer (some ⟨pb, 2, none⟩), .agg (Array.mk (dCells L1 L2 L3 (fun c => nfS σ c 0) σ.last)), .agg (Array.mk (dCells M1 M2 M3 (fun c => nfS σ c 0) σ.last)), .bool quiet] w2 fun r w' => r = .bool true ∧ Lo w w' pb (N + 24) own P B R σ := by
  have kk : Kp w w2 := Upd.trans k1 k2
  have h2 := h.kp kk
  obtain ⟨x1, x2, x3⟩ := h.x.lt
  have hn := h.n
  have hob := objN_le σ (64 * σ.n)
  have s1 := k1.sz
  have s2 := k2.sz
  have d1' := d1.kp k2
  have no : ∀ b, w.heap.size ≤ b → own b = .no := fun b hb => Classical.byContradiction fun hh => by have := x2 b hh; omega
  have key : ∀ {v : LV} {sz : Nat} {ty : TypeId} {F : Nat → List Value}, Rw w2 v sz ty F → (∀ b, v.b = some b → w.heap.size ≤ b) → Fre w2 pb w.heap.size own v := fun hR hb b hvb => by
    have := hb b hvb
    exact ⟨no b this, hR.lt b hvb, by omega, this⟩
  refine (c47 (B := w.heap.size) h2.x hN d1'.r1 d2.r1 d1'.r2 d2.r2 d1'.r3 d2.r3 (by rw [d1.l1, d2.l1]) (by rw [d1.l2, d2.l2]) (by rw [d1.l3, d2.l3]) (by rw [d1.l1]; omega) (by rw [d1.l2]; omega) (by rw [d1.l3]; omega) (fun i _ => ⟨_, rfl⟩) (fun i _ => ⟨_, rfl⟩) (fun i _ => ⟨_, rfl⟩) (fun k hk => ?_) (fun b hb hc => ?_) (fun b hb hc => ?_) (fun b hb hc => ?_) (by omega) quiet).mono ?_
  · rcases lt6 hk with rfl | rfl | rfl | rfl | rfl | rfl
    · exact key d1'.r1 d1.b1
    · exact key d2.r1 fun b hb => by have := d2.b1 b hb; omega
    · exact key d1'.r2 d1.b2
    · exact key d2.r2 fun b hb => by have := d2.b2 b hb; omega
    · exact key d1'.r3 d1.b3
    · exact key d2.r3 fun b hb => by have := d2.b3 b hb; omega
  · have := d1.r1.lt b hc; have := d2.b1 b hb; omega
  · have := d1.r2.lt b hc; have := d2.b2 b hb; omega
  · have := d1.r3.lt b hc; have := d2.b3 b hb; omega
  · rintro r w' ⟨hr, own', hx, hk⟩
    exact ⟨hr, Lo.mk' h kp0 hx ((KR.kp kk).trans hk)⟩

theorem Lo.trans {w1 w' : World} {own1 : Nat → Own} {N1 N2 : Nat} (h : PI w1 pb own1 N1 P B R σ ∧ Upd (PF pb own B R) w w1 ∧ ∀ b, PF pb own1 B R b → PF pb own B R b ∨ w.heap.size ≤ b) (h2 : Lo w1 w' pb N2 own1 P B R σ) : Lo w w' pb N2 own P B R σ := by
  obtain ⟨own2, g1, g2, g3⟩ := h2
  obtain ⟨f1, f2, f3⟩ := h
  refine ⟨own2, g1, f2.tr g2 f3, fun b hb => ?_⟩
  rcases g3 b hb with hh | hh
  · exact f3 b hh
  · right; exact Nat.le_trans f2.sz hh
theorem Lo.pre {w0 w' : World} {N2 : Nat} (k : Kp w0 w) (h2 : Lo w w' pb N2 own P B R σ) : Lo w0 w' pb N2 own P B R σ := by
  obtain ⟨own2, g1, g2, g3⟩ := h2
  have := k.sz
  exact ⟨own2, g1, (Kp.upd k).trans g2, fun b hb => (g3 b hb).elim .inl fun hh => .inr (by omega)⟩

theorem c15_20 (h : PI w pb own N P B R σ) (hN : N ≤ 50000) {who a b c : Int} {s : Option Addr} {l cc : Nat} :
    Ret PR 15 [pt pb, .agg (Array.mk [I who, I 20, I a, I b, I c, .slice s l cc])] w fun r w' => r = .bool true ∧ Lo w w' pb (N + 48) own P B R σ := by
  refine Ret.of ((S15_eq ..).mpr ?_)
  unfold S15
  refine atW_new fun w1 n1 => ⟨_, cell_of n1.at0 1, ?_⟩
  have h1 := h.kp n1.ext
  generalize hwd : World.drew w1 = wd
  have d1 : Kp w1 wd := hwd ▸ ext_drew w1
  have kd : Kp w wd := Upd.trans n1.ext d1
  have hd := h1.kp d1
  refine ifB_eq (fun hh => by omega) fun _ => ifB_eq (fun hh => by omega) fun _ => ifB_eq (fun hh => by omega) fun _ => ifB_eq (fun hh => by omega) fun _ => ifB_eq (fun hh => by omega) fun _ => ifB_eq (fun hh => by omega) fun _ => ifB_eq (fun hh => by omega) fun _ => ifB_eq (fun hh => by omega) fun _ => ifB_eq (fun hh => by omega) fun _ => ifB_eq (fun hh => by omega) fun _ => ifB_eq (fun _ => ?_) fun hh => absurd rfl hh
  refine ⟨_, hd.ps, _, hd.pr, ?_⟩
  refine (c48 hd.i hd.s).use ?_
  rintro _ w2 ⟨L1, L2, L3, rfl, dL, k2⟩
  refine ⟨_, _, _, _, _, _, _, _, _, _, _, _, _, _, _, _, _, _, rfl, k2.draw, ?_⟩
  refine (c49 (hd.kp k2).r).use ?_
  rintro _ w3 ⟨M1, M2, M3, rfl, dM, k3⟩
  refine ⟨_, _, _, _, _, _, _, _, _, _, _, _, _, _, _, _, _, _, rfl, ?_⟩
  refine (dump_one hd (by omega) dL k2 dM k3 true).use ?_
  rintro _ w4 ⟨rfl, own4, h4, u4, f4⟩
  refine ⟨_, rfl, ifB_yes rfl ?_⟩
  refine ⟨_, h4.ps, _, h4.pr, ?_⟩
  refine (c48 h4.i h4.s).use ?_
  rintro _ w5 ⟨L1', L2', L3', rfl, dL', k5⟩
  refine ⟨_, _, _, _, _, _, _, _, _, _, _, _, _, _, _, _, _, _, rfl, k5.draw, ?_⟩
  refine (c49 (h4.kp k5).r).use ?_
  rintro _ w6 ⟨M1', M2', M3', rfl, dM', k6⟩
  refine ⟨_, _, _, _, _, _, _, _, _, _, _, _, _, _, _, _, _, _, rfl, ?_⟩
  refine (dump_one h4 (by omega) dL' k5 dM' k6 false).use ?_
  rintro _ w7 ⟨rfl, h7⟩
  exact ⟨_, rfl, rfl, Lo.pre kd (Lo.trans ⟨h4, u4, f4⟩ h7)⟩
end
end Go.Wx
end
section
/- Contracts of looked: Fits, Blocks; whole. -/
set_option linter.unusedVariables false
set_option maxRecDepth 100000
namespace Go.Wx
open Go

section
variable {w : World} {pb N : Nat} {own : Nat → Own} {P : Prop} {B : Sl → Nat} {R : RB} {σ : St}

theorem c16 (h : PI w pb own N True B R σ) (hN : N ≤ 40000) : Ret PR 16 [pt pb] w fun r w' => r = .bool true ∧ Lo w w' pb (N + 2096) own False B R σ := by
  refine Ret.of ((S16_eq _ w _).mpr ?_)
  unfold S16
  refine (c15_ro h (a := 0) ⟨by omega, by omega⟩ 18 (by omega)).use fun w1 e1 => ⟨_, rfl, ifB_yes rfl ?_⟩
  have h1 := h.kp e1
  refine (c15_20 h1 (by omega)).use ?_
  rintro _ w2 ⟨rfl, own2, h2, u2, f2⟩
  refine ⟨_, rfl, ifB_yes rfl ?_⟩
  refine (c50 h2.x (by omega)).use ?_
  rintro _ w3 ⟨rfl, own3, hx3, k3⟩
  refine ⟨_, rfl, ifB_yes rfl ?_⟩
  obtain ⟨h3, u3, f3⟩ := h2.keep hx3 k3
  refine (c15_20 h3 (by omega)).use ?_
  rintro _ w4 ⟨rfl, own4, h4, u4, f4⟩
  refine ⟨_, rfl, rfl, Lo.pre e1 ?_⟩
  have s2 := u2.sz
  have s3 := u3.sz
  refine ⟨own4, ⟨h4.x.mono (by omega), h4.s, h4.r, h4.i, h4.c, h4.ds, h4.dr, h4.z, h4.n⟩, ((u2.tr u3 f2).tr u4 fun b hb => ?_), fun b hb => ?_⟩
  · rcases f3 b hb with hh | hh
    · exact f2 b hh
    · right; omega
  · rcases f4 b hb with hh | hh
    · rcases f3 b hh with hg | hg
      · exact f2 b hg
      · right; omega
    · right; omega
end
end Go.Wx
end
section
/- Contracts of made. -/
set_option linter.unusedVariables false
set_option maxRecDepth 100000
namespace Go.Wx
open Go

theorem c13 {w : World} (hg : GT w) {n : Nat} (n1 : 1 ≤ n) (n2 : n ≤ 24) : Ret PR 13 [I n] w fun v w' => ∃ pb own B R, v = .tuple (Array.mk [pt pb, .bool true]) ∧ PI w' pb own 0 True B R (newS n) ∧ Kp w w' ∧ ∀ b, PF pb own B R b → w.heap.size ≤ b := by
  refine Ret.of ((S13_eq _ w _).mpr ?_)
  unfold S13
  refine (c17 hg n1 (by omega)).use ?_
  rintro _ w1 ⟨B, rfl, hs, k1, hB⟩
  refine ⟨_, _, rfl, join_two (join_two (ifB_d (fun hh => by omega) fun _ => ?_))⟩
  refine ifB_b (fun hh => by cases hh) fun _ => ?_
  dsimp only
  refine (c21 w1 n1 (by omega)).use ?_
  rintro _ w2 ⟨R, rfl, hr, k2, hR, r1, r2, r3⟩
  have z1 := k1.sz
  have z2 := k2.sz
  refine ⟨_, _, rfl, join_two (ifB_ne (fun hh => absurd rfl hh) fun _ => ?_)⟩
  refine ifB_b (fun hh => by cases hh) fun _ => ?_
  dsimp only
  refine ifB_b (fun hh => by cases hh) fun _ => atW_new fun w3 n3 => ?_
  have hs2 := Sp.kp hs k2
  have hI := newS_inv n1 (by omega : n ≤ 4096)
  have h0 : 0 < w.heap.size := by
    obtain ⟨cs, t, fr, g1, _⟩ := hg
    exact lt_of_look g1
  have hBl : ∀ b, spF B b → b < w1.heap.size := fun b ⟨x, hx, e⟩ => by rw [e]; exact SpR.lt hs hx
  refine ⟨w2.heap.size, fun _ => .no, B, R, rfl, ⟨⟨fun _ => LV.nil, fun _ _ => LV.nil, fun _ _ => 0, fun _ _ _ => [], ?_⟩, Sp.kp hs2 n3.ext, hr.kp n3.ext, hI, ⟨r1, r2, r3⟩, fun b hb => ⟨rfl, ?_, fun hh => ?_⟩, fun b hb => ⟨rfl, ?_⟩, ⟨rfl, by omega, fun hh => ?_⟩, n2⟩, (k1.trans k2).trans n3.ext, fun b hb => ?_⟩
  · refine ⟨⟨⟨n3.at0, fun k _ => rw_nil, fun k _ b hb => by simp [LV.nil] at hb, rfl, fun b hb => absurd rfl hb⟩, fun T _ i hi => by simp [LV.nil] at hi, fun _ _ => rfl, fun T _ i hi => by simp [LV.nil] at hi, fun T _ i hi => by simp [LV.nil] at hi⟩, fun _ k _ i hi => by simp [LV.nil] at hi, by simp [LV.nil], fun _ T _ i hi => by simp [LV.nil] at hi, fun _ T _ i hi => by simp [LV.nil] at hi, fun T _ => by simp [LV.nil]⟩
  · have := hBl b hb; omega
  · have := hBl b hb; have := hR b hh; omega
  · have := hr.lt hb; omega
  · have := hR 0 hh; omega
  · rcases hb with hb | hb | hb | hb
    · omega
    · exact absurd rfl hb
    · exact hB b hb
    · have := hR b hb; omega

theorem c13_no {w : World} (hg : GT w) {n : Int} (hn : n < 1 ∨ n > 24) : RetE PR 13 [I n] w (.tuple (Array.mk [.pointer none, .bool true])) := by
  refine Ret.of ((S13_eq _ w _).mpr ?_)
  unfold S13
  by_cases hb : n < 1 ∨ n > 4096
  · refine (c17_bad w hb).use fun w1 e1 => ⟨_, _, rfl, join_two (join_two ?_)⟩
    have h2 := c21_bad w1 hb
    refine ifB_d (fun h24 => ?_) fun h24 => ?_
    · dsimp only
      rw [decide_eq_false (by omega : ¬ n ≤ 4096)]
      refine ifB_b (fun hh => by cases hh) fun _ => ?_
      refine h2.use fun w2 e2 => ⟨_, _, rfl, join_two (ifB_ne (fun hh => absurd rfl hh) fun _ => ?_)⟩
      refine ifB_b (fun hh => by cases hh) fun _ => ?_
      dsimp only
      exact ifB_yes rfl ⟨rfl, Upd.trans e1 e2⟩
    · dsimp only
      refine ifB_b (fun hh => by cases hh) fun _ => ?_
      refine h2.use fun w2 e2 => ⟨_, _, rfl, join_two (ifB_ne (fun hh => absurd rfl hh) fun _ => ?_)⟩
      refine ifB_b (fun hh => by cases hh) fun _ => ?_
      dsimp only
      exact ifB_yes rfl ⟨rfl, Upd.trans e1 e2⟩
  · obtain ⟨m, rfl⟩ : ∃ m : Nat, n = m := ⟨n.toNat, by omega⟩
    refine (c17 hg (n := m) (by omega) (by omega)).use ?_
    rintro _ w1 ⟨B, rfl, hs, k1, hB⟩
    refine ⟨_, _, rfl, join_two (join_two (ifB_d (fun h24 => ?_) fun hh => by omega))⟩
    dsimp only
    rw [decide_eq_true (by omega : (m : Int) ≤ 4096)]
    refine ifB_yes rfl (ifB_eq (fun _ => ifB_yes rfl ?_) fun hh => absurd rfl hh)
    refine (c20 hs).use fun w2 e2 => ⟨_, rfl, ?_, Upd.trans k1 e2⟩
    rw [wrap_id (by omega) (by omega)]
    show Value.tuple (Array.mk [.pointer none, .bool (((64 * m : Nat) : Int) == 64 * (m : Int))]) = _
    rw [show ((64 * m : Nat) : Int) = 64 * (m : Int) by omega, beq_self_eq_true]
end Go.Wx
end
section
/- Contracts of small. -/
set_option linter.unusedVariables false
set_option maxRecDepth 100000
namespace Go.Wx
open Go

/-- A script: its operations' lists. -/
def Sm (w : World) (s : Option Addr) (l : Nat) (ln : Nat → Nat) : Prop := ∀ i, i < l → ∃ a, s = some a ∧ ∃ ad c, w.cell? ((a.add (i * 6)).add 5) = some (.slice ad (ln i) c)

theorem c12 {w : World} {s : Option Addr} {l c : Nat} {ln : Nat → Nat} (h : Sm w s l ln) :
    Ret PR 12 [.slice s l c] w fun v w' => Kp w w' ∧ ∃ b, v = .bool b ∧ (b = true → ∀ i, i < l → i < 120 → ln i ≤ 400) := by
  refine Ret.of ((S12_eq _ _ _ w _).mpr ?_)
  unfold S12
  refine loop_rule (fun g : Nat × Nat => (false, (g.2 : Int), (g.1 : Int), ())) (fun g W => g.1 ≤ l ∧ g.1 ≤ 120 ∧ Kp w W ∧ g.2 ≤ 400 * g.1 ∧ ∀ i, i < g.1 → ln i ≤ 400) (fun g => l - g.1) (0, 0) rfl ⟨by dsimp only; omega, by dsimp only; omega, kp0, by dsimp only; omega, fun i hi => by dsimp only at hi; omega⟩ ?_
  rintro ⟨i, m⟩ W K ⟨hi, hi2, kW, hm, hle⟩ hK
  dsimp only at hi hi2 hm hle hK ⊢
  refine join_two (ifB_d (fun h1 => ifB_d (fun h2 => ifB_d (fun h3 => ?_) fun h3 => ⟨kW, _, rfl, fun hb => absurd (of_decide_eq_true hb) h3⟩) fun h2 => ⟨kW, _, rfl, fun _ j hj hj2 => hle j (by omega)⟩) fun h1 => ⟨kW, _, rfl, fun _ j hj hj2 => hle j (by omega)⟩)
  have hlt : i < l := by omega
  obtain ⟨a, rfl, ad, cc, hc⟩ := h i hlt
  have hc' : W.cell? ((a.add ((i : Int).toNat * 6)).add 5) = some (.slice ad (ln i) cc) := by rw [Int.toNat_natCast]; exact cell_kp kW hc
  refine ⟨⟨by omega, by omega⟩, _, _, _, hc', ⟨by omega, by omega⟩, _, _, _, hc', ifB_d (fun hbig => ⟨kW, _, rfl, fun hb => by cases hb⟩) fun hbig => ?_⟩
  rw [wrap_id (by omega) (by omega), wrap_id (by omega) (by omega)]
  exact hK (i + 1, m + ln i) W ⟨hlt, by omega, kW, by omega, fun j hj => by
    by_cases hji : j = i
    · subst hji; omega
    · exact hle j (by omega)⟩ (by omega)
end Go.Wx
end
section
/- Contracts of alive. -/
set_option linter.unusedVariables false
set_option maxRecDepth 100000
namespace Go.Wx
open Go

theorem al1 : alR (newS 1) 1 3 = (0, (0, 0)) := by decide
theorem al2 : alR (alT (newS 1) 1 3 0) 1 3 = (4, (0, 0)) := by decide
theorem al3 : pkS (alT (alT (newS 1) 1 3 0) 1 3 0) 8 = 100 := by decide
theorem al4 : inS (alT (alT (newS 1) 1 3 0) 1 3 0) 8 = true := by decide
theorem al5 : eqV PR 9 39 (V2 (0, 0)) (V2 (0, 0)) = some true := by
  have p1 : partV PR 35 #[I 0, I 0] 0 = some (I 0) := by rfl
  have p2 : partV PR 3 #[I 0, I 0] 1 = some (I 0) := by rfl
  have e1 : eqV PR 8 35 (I 0) (I 0) = some true := by unfold eqV; simp
  have e2 : eqV PR 8 3 (I 0) (I 0) = some true := by unfold eqV; simp
  unfold eqV
  simp only [V2]
  simp [eqStep, p1, p2, e1, e2, andO]

theorem c11 {w : World} (hg : GT w) : RetE PR 11 [] w (.bool true) := by
  refine Ret.of ((S11_eq w _).mpr ?_)
  unfold S11
  refine (c17 hg (n := 1) (by omega) (by omega)).use ?_
  rintro _ w1 ⟨B, rfl, hs, k1, hB⟩
  refine ⟨_, _, rfl, join_two (ifB_b (fun hh => by cases hh) fun _ => ifB_ne (fun hh => absurd rfl hh) fun _ => ?_)⟩
  have i1 := newS_inv (n := 1) (by omega) (by omega)
  have z1 := k1.sz
  have i2 := (i1.alT 1 3 0)
  have hlt : ∀ x : Sl, x.ok → B x < w1.heap.size := fun x hx => SpR.lt hs hx
  have hlb : ∀ b, spF B b → b < w1.heap.size := fun b ⟨x, hx, e⟩ => by rw [e]; exact hlt x hx
  refine (c18 i1 hs 1 3 0 ⟨by omega, by omega⟩ (by decide)).use ?_
  rintro _ w2 ⟨rfl, hs2, u2⟩
  have z2 := u2.sz
  rw [al1]
  refine ⟨_, _, _, rfl, atW_new fun w3 n3 => stx_at _ n3.at0 (by simp) rfl fun w4 p4 => ?_⟩
  have hs4 := (Sp.kp hs2 n3.ext).putNew p4 fun x hx => by have := hlt x hx; omega
  have u4 : Upd (spF B) w1 w4 := (u2.new n3).put p4 z2
  have z4 := u4.sz
  have z3 := n3.sz
  have z34 := p4.upd.sz
  refine (c18 i2 hs4 1 3 0 ⟨by omega, by omega⟩ (by decide)).use ?_
  rintro _ w5 ⟨rfl, hs5, u5⟩
  have z5 := u5.sz
  rw [al2]
  refine ⟨_, _, _, rfl, atW_new fun w6 n6 => stx_at _ n6.at0 (by simp) rfl fun w7 p7 => ?_⟩
  have hs7 := (Sp.kp hs5 n6.ext).putNew p7 fun x hx => by have := hlt x hx; omega
  have u7 : Upd (spF B) w4 w7 := (u5.new n6).put p7 z5
  refine (c19 hs7 8).use fun w8 e8 => ⟨_, _, rfl, ?_⟩
  rw [al3, al4]
  have c4 : w8.heap[w2.heap.size]? = _ := e8.at (u7.at p4.at0 fun hh => by have := hlb _ hh; omega)
  have c7 : w8.heap[w5.heap.size]? = _ := e8.at p7.at0
  refine ifB_yes rfl (ifB_yes rfl ⟨_, cell_of c4 0, _, cell_of c4 1, ?_⟩)
  have q5 := al5
  simp only [V2] at q5
  dsimp only
  rw [q5]
  dsimp only [optx]
  refine ifB_yes rfl ?_
  refine ⟨_, cell_of c7 0, _, cell_of c7 1, ?_⟩
  rw [q5]
  dsimp only
  refine ifB_yes rfl (ifB_yes rfl ⟨rfl, ?_⟩)
  have ue : Upd (spF B) w1 w8 := (u4.trans u7).trans (Kp.upd e8)
  exact ((Kp.upd k1).tr ue fun b hb => .inr (hB b hb))
end Go.Wx
end
section
/- Contracts of plays. -/
set_option linter.unusedVariables false
set_option maxRecDepth 100000
namespace Go.Wx
open Go

/-- A script, as it lies in memory. -/
structure Scr (w : World) (s : Option Addr) (l : Nat) (f : Nat → Nat → Int) (ad : Nat → Option Addr) (ln cc : Nat → Nat) (ks : Nat → Nat → Int) : Prop where
  at_ : ∀ i, i < l → ∃ a, s = some a ∧ (∀ k, k < 5 → w.cell? ((a.add (i * 6)).add k) = some (I (f i k))) ∧ w.cell? ((a.add (i * 6)).add 5) = some (.slice (ad i) (ln i) (cc i))
  f64 : ∀ i, i < l → ∀ k, k < 5 → In64 (f i k)
  ls : ∀ i, i < l → Ls w (ad i) (ln i) (ks i)
  k64 : ∀ i, i < l → ∀ j, j < ln i → In64 (ks i j)
theorem Scr.kp {w w' : World} {s : Option Addr} {l : Nat} {f : Nat → Nat → Int} {ad : Nat → Option Addr} {ln cc : Nat → Nat} {ks : Nat → Nat → Int} (h : Scr w s l f ad ln cc ks) (u : Kp w w') : Scr w' s l f ad ln cc ks := by
  refine ⟨fun i hi => ?_, h.f64, fun i hi => (h.ls i hi).kp u, h.k64⟩
  obtain ⟨a, h1, h2, h3⟩ := h.at_ i hi
  exact ⟨a, h1, fun k hk => cell_kp u (h2 k hk), cell_kp u h3⟩

/-- What a step comes to. -/
def Stp (w w' : World) (pb N : Nat) (own : Nat → Own) (B : Sl → Nat) (R : RB) (σ : St) : Prop :=
  ∃ own' N' σ', PI w' pb own' N' True B R σ' ∧ Upd (PF pb own B R) w w' ∧ (∀ b, PF pb own' B R b → PF pb own B R b ∨ w.heap.size ≤ b) ∧ N' ≤ N + 200 ∧ σ'.last ≤ σ.last + 2
theorem Stp.none {w w' : World} {pb N : Nat} {own : Nat → Own} {B : Sl → Nat} {R : RB} {σ : St} (h : PI w pb own N True B R σ) (k : Kp w w') : Stp w w' pb N own B R σ :=
  ⟨own, N, σ, h.kp k, Kp.upd k, fun _ h => .inl h, by omega, by omega⟩
theorem Stp.pre {w w1 w' : World} {pb N : Nat} {own : Nat → Own} {B : Sl → Nat} {R : RB} {σ : St} (k : Kp w w1) (h : Stp w1 w' pb N own B R σ) : Stp w w' pb N own B R σ := by
  obtain ⟨own', N', σ', h1, h2, h3, h4, h5⟩ := h
  refine ⟨own', N', σ', h1, (Kp.upd k).trans h2, fun b hb => ?_, h4, h5⟩
  have := k.sz
  rcases h3 b hb with h | h
  · exact .inl h
  · right; omega
theorem Tn.stp {w w' : World} {pb N : Nat} {own : Nat → Own} {B : Sl → Nat} {R : RB} {σ : St} (h : Tn w w' pb N own True B R σ) : Stp w w' pb N own B R σ := by
  obtain ⟨σ', h1, h2, h3, _⟩ := h
  exact ⟨own, N, σ', h1, h2, fun _ h => .inl h, by omega, by omega⟩
theorem Lo.stp {w w' : World} {pb N N' : Nat} {own : Nat → Own} {B : Sl → Nat} {R : RB} {σ : St} (h : Lo w w' pb N' own True B R σ) (hN : N' ≤ N + 200) : Stp w w' pb N own B R σ := by
  obtain ⟨own', h1, h2, h3⟩ := h
  exact ⟨own', N', σ, h1, h2, h3, hN, by omega⟩

/-- What the looks of the kinds from lo to hi do. -/
def LkOK (lo hi : Int) : Prop := ∀ (w : World) (pb N : Nat) (own : Nat → Own) (B : Sl → Nat) (R : RB) (σ : St) (who kind a b c : Int) (s : Option Addr) (l cc : Nat) (ks : Nat → Int),
  PI w pb own N True B R σ → N ≤ 30000 → σ.last < 100000 → OpOK w (PF pb own B R) a b c s l ks → lo ≤ kind → kind ≤ hi → ¬ (1 ≤ kind ∧ kind ≤ 7) →
  Ret PR 15 [pt pb, .agg (Array.mk [I who, I kind, I a, I b, I c, .slice s l cc])] w fun v w' => v = .bool true ∧ Stp w w' pb N own B R σ

theorem c14 {w : World} {pb N : Nat} {own : Nat → Own} {B : Sl → Nat} {R : RB} {σ : St} (h : PI w pb own N True B R σ) {who a b c : Int} {s : Option Addr} {l cc : Nat} {ks : Nat → Int} (ho : OpOK w (PF pb own B R) a b c s l ks) (hlast : σ.last < 1000000) (kind : Int) (h1 : 1 ≤ kind) (h2 : kind ≤ 7) :
    Ret PR 14 [pt pb, .agg (Array.mk [I who, I kind, I a, I b, I c, .slice s l cc])] w fun v w' => v = .bool true ∧ Stp w w' pb N own B R σ := by
  by_cases k1 : kind = 1
  · subst k1; exact (c14_1 h ho hlast).mono fun v w' hh => ⟨hh.1, hh.2.stp⟩
  by_cases k7 : kind = 7
  · subst k7; exact (c14_7 h ho).mono fun v w' hh => ⟨hh.1, hh.2.stp⟩
  exact (c14_2 h ho kind (by omega)).mono fun v w' hh => ⟨hh.1, hh.2.stp⟩

/-- Both pairs, behind i steps. -/
def PlI (w0 W : World) (pa pb : Nat) (BA BB : Sl → Nat) (RA RB' : RB) (i : Nat) : Prop :=
  ∃ oa na σa ob nb σb, PI W pa oa na True BA RA σa ∧ PI W pb ob nb True BB RB' σb ∧ Kp w0 W ∧ (∀ b, PF pa oa BA RA b → w0.heap.size ≤ b ∧ ¬ PF pb ob BB RB' b) ∧ (∀ b, PF pb ob BB RB' b → w0.heap.size ≤ b) ∧ na ≤ 200 * i ∧ nb ≤ 200 * i ∧ σa.last ≤ 2 * i ∧ σb.last ≤ 2 * i
section
variable {w0 W : World} {pa pb : Nat} {BA BB : Sl → Nat} {RA RB' : RB} {i : Nat}
theorem PlI.kp (h : PlI w0 W pa pb BA BB RA RB' i) {W' : World} (u : Kp W W') : PlI w0 W' pa pb BA BB RA RB' i := by
  obtain ⟨oa, na, σa, ob, nb, σb, h1, h2, h3, h4⟩ := h
  exact ⟨oa, na, σa, ob, nb, σb, h1.kp u, h2.kp u, Upd.trans h3 u, h4⟩
theorem PlI.swap (h : PlI w0 W pa pb BA BB RA RB' i) : PlI w0 W pb pa BB BA RB' RA i := by
  obtain ⟨oa, na, σa, ob, nb, σb, h1, h2, h3, h4, h5, h6, h7, h8, h9⟩ := h
  exact ⟨ob, nb, σb, oa, na, σa, h2, h1, h3, fun b hb => ⟨h5 b hb, fun hh => (h4 b hh).2 hb⟩, fun b hb => (h4 b hb).1, h7, h6, h9, h8⟩
theorem PlI.step (h0 : 0 < w0.heap.size) (h : PlI w0 W pa pb BA BB RA RB' i) : ∃ own N σ, PI W pa own N True BA RA σ ∧ (∀ b, PF pa own BA RA b → w0.heap.size ≤ b) ∧ N ≤ 200 * i ∧ σ.last ≤ 2 * i ∧ ∀ w', Stp W w' pa N own BA RA σ → PlI w0 w' pa pb BA BB RA RB' (i + 1) := by
  obtain ⟨oa, na, σa, ob, nb, σb, h1, h2, h3, h4, h5, h6, h7, h8, h9⟩ := h
  refine ⟨oa, na, σa, h1, fun b hb => (h4 b hb).1, h6, h8, fun w' hs => ?_⟩
  obtain ⟨oa', na', σa', s1, s2, s3, s4, s5⟩ := hs
  refine ⟨oa', na', σa', ob, nb, σb, s1, h2.upd s2 (fun b hb hh => (h4 b hh).2 hb) (fun hh => by have := (h4 0 hh).1; omega), h3.tr s2 fun b hb => .inr (h4 b hb).1, fun b hb => ?_, h5, by omega, by omega, by omega, by omega⟩
  rcases s3 b hb with hh | hh
  · exact h4 b hh
  · have := h3.sz
    exact ⟨by omega, fun h6 => by have := h2.lt h6; omega⟩
theorem PlI.whole (h0 : 0 < w0.heap.size) (h : PlI w0 W pa pb BA BB RA RB' i) (hi : i ≤ 120) : Ret PR 16 [pt pa] W fun r w' => r = .bool true ∧ Kp w0 w' ∧ Ret PR 16 [pt pb] w' fun r w'' => r = .bool true ∧ Kp w0 w'' := by
  obtain ⟨oa, na, σa, ob, nb, σb, h1, h2, h3, h4, h5, h6, h7, h8, h9⟩ := h
  refine (c16 h1 (by omega)).mono fun v w' hh => ⟨hh.1, ?_⟩
  obtain ⟨own', s1, s2, s3⟩ := hh.2
  have k1 : Kp w0 w' := h3.tr s2 fun b hb => .inr (h4 b hb).1
  refine ⟨k1, (c16 (h2.upd s2 (fun b hb hh => (h4 b hh).2 hb) (fun hh => by have := (h4 0 hh).1; omega)) (by omega)).mono fun v w'' hh => ⟨hh.1, ?_⟩⟩
  obtain ⟨own', s1, s2, s3⟩ := hh.2
  exact k1.tr s2 fun b hb => .inr (h5 b hb)
end

theorem c13_all {w : World} (hg : GT w) (n : Int) : Ret PR 13 [I n] w fun v w' => Kp w w' ∧ (v = .tuple (Array.mk [.pointer none, .bool true]) ∨ ∃ pb own B R k, v = .tuple (Array.mk [pt pb, .bool true]) ∧ PI w' pb own 0 True B R (newS k) ∧ ∀ b, PF pb own B R b → w.heap.size ≤ b) := by
  by_cases hn : n < 1 ∨ n > 24
  · exact Ret.mono (c13_no hg hn) fun v w' hh => ⟨hh.2, .inl hh.1⟩
  · obtain ⟨k, rfl⟩ : ∃ k : Nat, n = k := ⟨n.toNat, by omega⟩
    refine (c13 hg (n := k) (by omega) (by omega)).mono ?_
    rintro _ w1 ⟨pb, own, B, R, rfl, h1, h2, h3⟩
    exact ⟨h2, .inr ⟨pb, own, B, R, k, rfl, h1, h3⟩⟩

theorem c10 {lo hi : Int} (hL : LkOK lo hi) {w : World} (hg : GT w) {n m : Int} {s : Option Addr} {l c : Nat} {f : Nat → Nat → Int} {ad : Nat → Option Addr} {ln cc : Nat → Nat} {ks : Nat → Nat → Int} (h : Scr w s l f ad ln cc ks) :
    RetE PR 10 [I n, I m, .slice s l c, I lo, I hi] w (.bool true) := by
  refine Ret.of ((S10_eq ..).mpr ?_)
  unfold S10
  refine join_two ((c11 hg).use fun w1 e1 => ⟨_, rfl, ifB_nb (fun hh => by cases hh) fun _ => ?_⟩)
  have hsm : Sm w1 s l ln := fun i hi => by
    obtain ⟨a, ha, _, h2⟩ := (h.kp e1).at_ i hi
    exact ⟨a, ha, _, _, h2⟩
  refine (c12 hsm).use ?_
  rintro _ w2 ⟨e2, b, rfl, hb⟩
  refine ⟨_, rfl, ifB_nb (fun hh => ?_) fun hh => ?_⟩
  · exact (c11 ((hg.kp e1).kp e2)).use fun w3 e3 => ⟨_, rfl, rfl, Upd.trans e1 (Upd.trans e2 e3)⟩
  subst hh
  have hsmall := hb rfl
  have k2 : Kp w w2 := Upd.trans e1 e2
  refine (c13_all (hg.kp k2) n).use ?_
  rintro _ w3 ⟨e3, (rfl | ⟨pa, oa, BA, RA, ka, rfl, hpa, hga⟩)⟩
  · refine ⟨_, _, rfl, ?_⟩
    have k3 : Kp w w3 := Upd.trans k2 e3
    refine (c13_all (hg.kp k3) m).use ?_
    rintro _ w4 ⟨e4, (rfl | ⟨pa, oa, BA, RA, ka, rfl, hpa, hga⟩)⟩
    · exact ⟨_, _, rfl, join_two (ifB_nb (fun hh => by cases hh) fun _ => ifB_nb (fun hh => by cases hh) fun _ => ifB_yes rfl (ifB_yes rfl ⟨rfl, Upd.trans k3 e4⟩))⟩
    · exact ⟨_, _, rfl, join_two (ifB_nb (fun hh => by cases hh) fun _ => ifB_nb (fun hh => by cases hh) fun _ => ifB_yes rfl (ifB_yes rfl ⟨rfl, Upd.trans k3 e4⟩))⟩
  refine ⟨_, _, rfl, ?_⟩
  have k3 : Kp w w3 := Upd.trans k2 e3
  refine (c13_all (hg.kp k3) m).use ?_
  rintro _ w4 ⟨e4, (rfl | ⟨pb, ob, BB, RB', kb, rfl, hpb, hgb⟩)⟩
  · exact ⟨_, _, rfl, join_two (ifB_nb (fun hh => by cases hh) fun _ => ifB_nb (fun hh => by cases hh) fun _ => ifB_b (fun hh => by cases hh) fun _ => ifB_yes rfl (ifB_yes rfl ⟨rfl, Upd.trans k3 e4⟩))⟩
  refine ⟨_, _, rfl, join_two (ifB_nb (fun hh => by cases hh) fun _ => ifB_nb (fun hh => by cases hh) fun _ => ifB_b (fun hh => by cases hh) fun _ => ifB_b (fun hh => by cases hh) fun _ => ?_)⟩
  have k4 : Kp w w4 := Upd.trans k3 e4
  have h0 : 0 < w.heap.size := by
    obtain ⟨cs, t, fr, g1, _⟩ := hg
    exact lt_of_look g1
  have s2 := k2.sz
  have s3 := k3.sz
  have P0 : PlI w w4 pa pb BA BB RA RB' 0 := ⟨oa, 0, newS ka, ob, 0, newS kb, hpa.kp e4, hpb, k4, fun b hb => ⟨by have := hga b hb; omega, fun hh => by have := hpa.lt hb; have := hgb b hh; omega⟩, fun b hb => by have := hgb b hb; omega, by omega, by omega, by show (0 : Int) ≤ _; omega, by show (0 : Int) ≤ _; omega⟩
  have fin : ∀ {i : Nat} {W : World}, PlI w W pa pb BA BB RA RB' i → i ≤ 120 → Calls PR 16 (Array.mk [.pointer (some ⟨pa, 0, none⟩)]) W fun y y_3 => ∃ b, y = Ending.returned (Value.bool b) ∧
      ifB b (Calls PR 16 (Array.mk [.pointer (some ⟨pb, 0, none⟩)]) y_3 fun y y_4 => ∃ b, y = Ending.returned (Value.bool b) ∧ (Value.bool b = .bool true ∧ Kp w y_4)) (Value.bool false = .bool true ∧ Kp w y_3) := by
    intro i W hP hi
    refine (hP.whole h0 hi).use ?_
    rintro _ w5 ⟨rfl, k5, r⟩
    refine ⟨_, rfl, ifB_yes rfl (r.use ?_)⟩
    rintro _ w6 ⟨rfl, k6⟩
    exact ⟨_, rfl, rfl, k6⟩
  dsimp only
  refine loop_rule (fun i : Nat => (false, (i : Int), ())) (fun i W => i ≤ l ∧ i ≤ 120 ∧ PlI w W pa pb BA BB RA RB' i) (fun i => l - i) 0 rfl ⟨by omega, by omega, P0⟩ ?_
  rintro i W K ⟨i1, i2, hP⟩ hK
  dsimp only at i1 i2 hP hK ⊢
  refine join_two (ifB_d (fun c1 => ifB_d (fun c2 => ?_) fun c2 => fin hP i2) fun c1 => fin hP i2)
  have hlt : i < l := by omega
  have kW : Kp w W := by obtain ⟨_, _, _, _, _, _, _, _, k, _⟩ := hP; exact k
  have hS := h.kp kW
  obtain ⟨a, rfl, a1, a2⟩ := hS.at_ i hlt
  rw [Int.toNat_natCast]
  refine ⟨⟨by omega, by omega⟩, _, a1 0 (by omega), _, a1 1 (by omega), _, a1 2 (by omega), _, a1 3 (by omega), _, a1 4 (by omega), _, _, _, a2, ?_⟩
  refine atW_new fun w5 n5 => stx_at _ n5.at0 (by simp) rfl fun w6 p6 => ?_
  have e6 : Kp W w6 := (Upd.refl.new n5).put p6 (Nat.le_refl _)
  have cb := p6.at0
  have hP6 := hP.kp e6
  have hc0 : w6.cell? ⟨W.heap.size, 0, none⟩ = some (I (f i 0)) := cell_of cb 0
  have hc1 : w6.cell? ⟨W.heap.size, 1, none⟩ = some (I (f i 1)) := cell_of cb 1
  have hc2 : w6.cell? ⟨W.heap.size, 2, none⟩ = some (I (f i 2)) := cell_of cb 2
  have hc3 : w6.cell? ⟨W.heap.size, 3, none⟩ = some (I (f i 3)) := cell_of cb 3
  have hc4 : w6.cell? ⟨W.heap.size, 4, none⟩ = some (I (f i 4)) := cell_of cb 4
  have hc5 : w6.cell? ⟨W.heap.size, 5, none⟩ = some (.slice (ad i) (ln i) (cc i)) := cell_of cb 5
  have k6 : Kp w w6 := Upd.trans kW e6
  have hl := hsmall i hlt (by omega)
  have h64 := h.f64 i hlt
  refine ⟨fun s V => w6 = V ∧ ∃ pc own N B R σ, s = (some ⟨pc, 0, none⟩, ()) ∧ PI w6 pc own N True B R σ ∧ (∀ b, PF pc own B R b → w.heap.size ≤ b) ∧ N ≤ 200 * i ∧ σ.last ≤ 2 * i ∧ ∀ w', Stp w6 w' pc N own B R σ → PlI w w' pa pb BA BB RA RB' (i + 1), ?_, ?_⟩
  rotate_left
  · obtain ⟨own, N, σ, q⟩ := hP6.step h0
    obtain ⟨own', N', σ', q'⟩ := hP6.swap.step h0
    exact ⟨_, hc0, ifB_b (fun _ => ⟨rfl, pb, own', N', BB, RB', σ', rfl, q'.1, q'.2.1, q'.2.2.1, q'.2.2.2.1, fun w' hw => (q'.2.2.2.2 w' hw).swap⟩) fun _ => ⟨rfl, pa, own, N, BA, RA, σ, rfl, q⟩⟩
  rintro _ _ ⟨rfl, pc, own, N, B, R, σ, rfl, q1, q2, q3, q4, q5⟩
  have ho : OpOK w6 (PF pc own B R) (f i 2) (f i 3) (f i 4) (ad i) (ln i) (ks i) := by
    refine ⟨h64 2 (by omega), h64 3 (by omega), h64 4 (by omega), (h.ls i hlt).kp k6, by omega, h.k64 i hlt, fun wa wb ka ub => (h.ls i hlt).kp ?_⟩
    exact Upd.tr (Upd.trans k6 ka) ub fun b hb => .inr (q2 b hb)
  have hw1 : IntKind.i64.wrap ((i : Int) + 1) = ((i + 1 : Nat) : Int) := by rw [wrap_id (by omega) (by omega)]; omega
  rw [hw1]
  have nx : ∀ w', Stp w6 w' pc N own B R σ → K (false, ((i + 1 : Nat) : Int), ()) w' := fun w' hw => hK (i + 1) w' ⟨by omega, by omega, q5 w' hw⟩ (by omega)
  have no := nx w6 (Stp.none q1 kp0)
  have tn : 1 ≤ f i 1 → f i 1 ≤ 7 → Calls PR 14 (Array.mk [.pointer (some ⟨pc, 0, none⟩), .agg (Array.mk [I (f i 0), I (f i 1), I (f i 2), I (f i 3), I (f i 4), .slice (ad i) (ln i) (cc i)])]) w6 fun y y_3 => ∃ b, y = Ending.returned (Value.bool b) ∧ ifB (!b) (Value.bool false = .bool true ∧ Kp w y_3) (K (false, ((i + 1 : Nat) : Int), ()) y_3) := by
    intro r1 r2
    refine (c14 q1 ho (by omega) (f i 1) r1 r2).use ?_
    rintro _ w7 ⟨rfl, st⟩
    exact ⟨_, rfl, ifB_nb (fun hh => by cases hh) fun _ => nx w7 st⟩
  have lk : lo ≤ f i 1 → f i 1 ≤ hi → ¬ (1 ≤ f i 1 ∧ f i 1 ≤ 7) → Calls PR 15 (Array.mk [.pointer (some ⟨pc, 0, none⟩), .agg (Array.mk [I (f i 0), I (f i 1), I (f i 2), I (f i 3), I (f i 4), .slice (ad i) (ln i) (cc i)])]) w6 fun y y_3 => ∃ b, y = Ending.returned (Value.bool b) ∧ ifB (!b) (Value.bool false = .bool true ∧ Kp w y_3) (K (false, ((i + 1 : Nat) : Int), ()) y_3) := by
    intro r1 r2 r3
    refine (hL w6 pc N own B R σ (f i 0) (f i 1) (f i 2) (f i 3) (f i 4) (ad i) (ln i) (cc i) (ks i) q1 (by omega) (by omega) ho r1 r2 r3).use ?_
    rintro _ w7 ⟨rfl, st⟩
    exact ⟨_, rfl, ifB_nb (fun hh => by cases hh) fun _ => nx w7 st⟩
  have tail : ¬ (1 ≤ f i 1 ∧ f i 1 ≤ 7) → ifB (decide (f i 1 ≥ lo)) (∃ n, w6.cell? ⟨W.heap.size, 1, none⟩ = some (I n) ∧ ifB (decide (n ≤ hi)) (∃ n, w6.cell? ⟨W.heap.size, 0, none⟩ = some (I n) ∧ ∃ n_5, w6.cell? ⟨W.heap.size, 1, none⟩ = some (I n_5) ∧ ∃ n_6, w6.cell? ⟨W.heap.size, 2, none⟩ = some (I n_6) ∧ ∃ n_7, w6.cell? ⟨W.heap.size, 3, none⟩ = some (I n_7) ∧ ∃ n_8, w6.cell? ⟨W.heap.size, 4, none⟩ = some (I n_8) ∧ ∃ a l c, w6.cell? ⟨W.heap.size, 5, none⟩ = some (.slice a l c) ∧ Calls PR 15 (Array.mk [.pointer (some ⟨pc, 0, none⟩), .agg (Array.mk [I n, I n_5, I n_6, I n_7, I n_8, .slice a l c])]) w6 fun y y_3 => ∃ b, y = Ending.returned (Value.bool b) ∧ ifB (!b) (Value.bool false = .bool true ∧ Kp w y_3) (K (false, ((i + 1 : Nat) : Int), ()) y_3)) (K (false, ((i + 1 : Nat) : Int), ()) w6)) (K (false, ((i + 1 : Nat) : Int), ()) w6) := by
    intro r3
    exact ifB_d (fun r1 => ⟨_, hc1, ifB_d (fun r2 => ⟨_, hc0, _, hc1, _, hc2, _, hc3, _, hc4, _, _, _, hc5, lk r1 r2 r3⟩) fun _ => no⟩) fun _ => no
  refine join_two ⟨_, hc1, ifB_d (fun r1 => ⟨_, hc1, ifB_d (fun r2 => ⟨_, hc0, _, hc1, _, hc2, _, hc3, _, hc4, _, _, _, hc5, tn r1 r2⟩) fun r2 => ⟨_, hc1, tail fun hh => r2 hh.2⟩⟩) fun r1 => ifB_b (fun hh => by cases hh) fun _ => ⟨_, hc1, tail fun hh => r1 hh.1⟩⟩
end Go.Wx
end
section
/- Contracts of the entries. -/
set_option linter.unusedVariables false
set_option maxRecDepth 100000
namespace Go.Wx
open Go

section
variable {w : World} {n m : Int} {s : Option Addr} {l c : Nat} {f : Nat → Nat → Int} {ad : Nat → Option Addr} {ln cc : Nat → Nat} {ks : Nat → Nat → Int}
theorem lk_ro {lo hi : Int} (hr : ∀ k : Int, lo ≤ k → k ≤ hi → ¬ (1 ≤ k ∧ k ≤ 7) → k = 10 ∨ k = 11 ∨ k = 12 ∨ k = 13 ∨ k = 15 ∨ k = 18) : LkOK lo hi := by
  intro w pb N own B R σ who kind a b c s l cc ks h hN hl ho h1 h2 h3
  exact Ret.mono (c15_ro h ho.ha kind (hr kind h1 h2 h3)) fun v w' hh => ⟨hh.1, Stp.none h hh.2⟩
theorem c3 (hg : GT w) (h : Scr w s l f ad ln cc ks) : RetE PR 3 [I n, I m, .slice s l c] w (.bool true) := by
  refine Ret.of ((S3_eq ..).mpr ?_)
  unfold S3
  exact (c10 (lk_ro fun k h1 h2 _ => by omega) hg h).use fun w1 e1 => ⟨_, rfl, rfl, e1⟩
theorem c4 (hg : GT w) (h : Scr w s l f ad ln cc ks) : RetE PR 4 [I n, I m, .slice s l c] w (.bool true) := by
  refine Ret.of ((S4_eq ..).mpr ?_)
  unfold S4
  exact (c10 (lk_ro fun k h1 h2 _ => by omega) hg h).use fun w1 e1 => ⟨_, rfl, rfl, e1⟩
theorem c7 (hg : GT w) (h : Scr w s l f ad ln cc ks) : RetE PR 7 [I n, I m, .slice s l c] w (.bool true) := by
  refine Ret.of ((S7_eq ..).mpr ?_)
  unfold S7
  exact (c10 (lk_ro fun k h1 h2 _ => by omega) hg h).use fun w1 e1 => ⟨_, rfl, rfl, e1⟩
end
end Go.Wx
end
section
/- Contracts of looked: Fits, Blocks. -/
set_option linter.unusedVariables false
set_option maxRecDepth 100000
namespace Go.Wx
open Go

section
variable {w : World} {pb N : Nat} {own : Nat → Own} {P : Prop} {B : Sl → Nat} {R : RB} {σ : St}
theorem c15_14 (h : PI w pb own N P B R σ) (hlast : σ.last < 1000000) {who a b c : Int} {s : Option Addr} {l cc : Nat} {ks : Nat → Int} (ho : OpOK w (PF pb own B R) a b c s l ks) :
    Ret PR 15 [pt pb, .agg (Array.mk [I who, I 14, I a, I b, I c, .slice s l cc])] w fun r w' => r = .bool true ∧ Kp w w' := by
  refine Ret.of ((S15_eq ..).mpr ?_)
  unfold S15
  refine atW_new fun w1 n1 => ⟨_, cell_of n1.at0 1, ?_⟩
  refine ifB_eq (fun hh => by omega) fun _ => ifB_eq (fun hh => by omega) fun _ => ifB_eq (fun hh => by omega) fun _ => ifB_eq (fun hh => by omega) fun _ => ifB_eq (fun _ => ?_) fun hh => absurd rfl hh
  have h1 := h.kp n1.ext
  have hs1 := ho.hs.kp n1.ext
  have hll := ho.hl
  refine ⟨_, _, _, cell_of n1.at0 5, ?_⟩
  refine (c33 hs1 (by omega)).use ?_
  rintro _ w2 ⟨x, c', rfl, hlen, k2, hx⟩
  refine ⟨_, _, _, rfl, ?_⟩
  generalize hwd : World.drew w2 = wd
  have d2 : Kp w2 wd := hwd ▸ ext_drew w2
  have kd : Kp w1 wd := Upd.trans k2 d2
  have hd := h1.kp kd
  have hc' := hlen.1
  have cd := kd.at n1.at0
  refine ⟨_, hd.ps, _, _, _, cell_of cd 5, ⟨by omega, by omega⟩, ?_⟩
  rw [if_neg (by omega : ¬ c' = 0), show ((l : Int).toNat - 0) = l by omega, Nat.sub_zero]
  have hls : Ls wd (some ⟨x, 0, none⟩) l ks := fun i hi => by
    obtain ⟨_, g, g1, g2⟩ := hlen.kp d2
    refine ⟨_, rfl, ?_⟩
    rw [ints_cell g1 (by omega), g2 i (by omega), lentF, if_pos hi]
  show Calls PR 34 (Array.mk [pt (B .s), .slice (some ⟨x, 0, none⟩) l c']) wd _
  refine (c34 hd.i hd.s hls (by omega)).use fun w3 e3 => ⟨_, rfl, ?_⟩
  generalize hwe : World.drew w3 = we
  have d3 : Kp w3 we := hwe ▸ ext_drew w3
  have k3 : Kp wd we := Upd.trans e3 d3
  have k13 : Kp w1 we := Upd.trans kd k3
  refine ⟨_, _, _, cell_of (k13.at n1.at0) 5, ?_⟩
  refine (c35 ((hlen.kp d2).kp k3) (hs1.kp k13) (by omega)).use ?_
  rintro _ w4 ⟨rfl, u4⟩
  refine ⟨_, rfl, ifB_yes rfl ?_⟩
  have z1 := n1.sz
  have u14 : Kp w w4 := Upd.tr (Upd.trans n1.ext k13) u4 fun y hy => by simp only [one] at hy; right; omega
  have h4 := h.kp u14
  have x0 : w.heap.size ≠ x := by omega
  have c4 := u4.at (k13.at n1.at0) (fun hh => by simp only [one] at hh; omega)
  refine ⟨_, h4.pr, _, _, _, cell_of c4 5, ?_⟩
  refine (c36 h4.i h4.r (ho.hs.kp u14) (by omega) (by omega)).use fun w5 e5 => ⟨_, rfl, by simp, Upd.trans u14 e5⟩

/-- One comparison of lists of objects. -/
theorem blocks_one {w1 w2 : World} {L M : LV} (h : PI w pb own N P B R σ) (hN : N ≤ 80000) (k1 : Kp w w1) (b1 : ∀ b, L.b = some b → w.heap.size ≤ b ∧ b < w1.heap.size) (k2 : Kp w1 w2) (r1 : Rw w2 L 5 106 (obR σ (64 * σ.n))) (l1 : L.l = objN σ (64 * σ.n))
    (r2 : Rw w2 M 5 106 (obR σ (64 * σ.n))) (l2 : M.l = objN σ (64 * σ.n)) (b2 : ∀ b, M.b = some b → w1.heap.size ≤ b) (quiet : Bool) :
    Ret PR 39 [.pointer (some ⟨pb, 2, none⟩), L.val, M.val, .bool quiet] w2 fun r w' => r = .bool true ∧ Lo w w' pb (N + 8) own P B R σ := by
  have kk : Kp w w2 := Upd.trans k1 k2
  have h2 := h.kp kk
  obtain ⟨x1, x2, x3⟩ := h.x.lt
  have hn := h.n
  have hob := objN_le σ (64 * σ.n)
  have s1 := k1.sz
  have s2 := k2.sz
  have no : ∀ b, w.heap.size ≤ b → own b = .no := fun b hb => Classical.byContradiction fun hh => by have := x2 b hh; omega
  have key : ∀ {v : LV} {sz : Nat} {ty : TypeId} {F : Nat → List Value}, Rw w2 v sz ty F → (∀ b, v.b = some b → w.heap.size ≤ b) → Fre w2 pb w.heap.size own v := fun hR hb b hvb => by
    have := hb b hvb
    exact ⟨no b this, hR.lt b hvb, by omega, this⟩
  refine (c39 (B := w.heap.size) h2.x (by omega) r1 r2 (by omega) (by omega) (fun i _ => ⟨_, rfl⟩) (key r1 fun b hb => (b1 b hb).1) (key r2 fun b hb => by have := b2 b hb; omega) (fun b hb hc => ?_) (by omega) quiet).mono ?_
  · have := b1 b hc; have := b2 b hb; omega
  · rintro r w' ⟨hr, own', hx, hk⟩
    exact ⟨hr, Lo.mk' h kp0 hx ((KR.kp kk).trans hk)⟩

theorem c15_16 (h : PI w pb own N P B R σ) (hN : N ≤ 70000) {who a b c : Int} {s : Option Addr} {l cc : Nat} :
    Ret PR 15 [pt pb, .agg (Array.mk [I who, I 16, I a, I b, I c, .slice s l cc])] w fun r w' => r = .bool true ∧ Lo w w' pb (N + 16) own P B R σ := by
  refine Ret.of ((S15_eq ..).mpr ?_)
  unfold S15
  refine atW_new fun w1 n1 => ⟨_, cell_of n1.at0 1, ?_⟩
  have h1 := h.kp n1.ext
  generalize hwd : World.drew w1 = wd
  have d1 : Kp w1 wd := hwd ▸ ext_drew w1
  have kd : Kp w wd := Upd.trans n1.ext d1
  have hd := h1.kp d1
  refine ifB_eq (fun hh => by omega) fun _ => ifB_eq (fun hh => by omega) fun _ => ifB_eq (fun hh => by omega) fun _ => ifB_eq (fun hh => by omega) fun _ => ifB_eq (fun hh => by omega) fun _ => ifB_eq (fun hh => by omega) fun _ => ifB_eq (fun _ => ?_) fun hh => absurd rfl hh
  refine ⟨_, hd.ps, _, hd.pr, ?_⟩
  refine (c40 hd.i hd.s).use ?_
  rintro _ w2 ⟨L, rfl, r1, l1, k2, b1⟩
  refine ⟨_, _, _, rfl, k2.draw, ?_⟩
  refine (c41 (hd.kp k2).r).use ?_
  rintro _ w3 ⟨M, rfl, r2, l2, k3, b2⟩
  refine ⟨_, _, _, rfl, ?_⟩
  refine (blocks_one hd (by omega) k2 (fun b hb => ⟨b1 b hb, r1.lt b hb⟩) k3 (r1.upd k3 fun _ _ h => h) l1 r2 l2 b2 true).use ?_
  rintro _ w4 ⟨rfl, own4, h4, u4, f4⟩
  refine ⟨_, rfl, ifB_yes rfl ?_⟩
  refine ⟨_, h4.ps, _, h4.pr, ?_⟩
  refine (c40 h4.i h4.s).use ?_
  rintro _ w5 ⟨L', rfl, r1', l1', k5, b1'⟩
  refine ⟨_, _, _, rfl, k5.draw, ?_⟩
  refine (c41 (h4.kp k5).r).use ?_
  rintro _ w6 ⟨M', rfl, r2', l2', k6, b2'⟩
  refine ⟨_, _, _, rfl, ?_⟩
  refine (blocks_one h4 (by omega) k5 (fun b hb => ⟨b1' b hb, r1'.lt b hb⟩) k6 (r1'.upd k6 fun _ _ h => h) l1' r2' l2' b2' false).use ?_
  rintro _ w7 ⟨rfl, hlo⟩
  exact ⟨_, rfl, rfl, Lo.pre kd (Lo.trans ⟨h4, u4, f4⟩ hlo)⟩
end
end Go.Wx
end
section
/- Contracts of looked: Use and Words. Division of whole numbers in floating point. -/
set_option linter.unusedVariables false
set_option maxRecDepth 100000
namespace Go.Wx
open Go

/-- A datum that is no NaN. -/
def notNan : Ieee.Datum → Prop
  | .nan .. => False
  | _ => True
theorem read_word (f : Ieee.Format) (neg : Bool) {rung : Nat} (h : rung ≤ f.infRung) : notNan (f.read (f.word neg rung)) := by
  have hlt := Nat.lt_of_le_of_lt h f.infRung_lt
  have hm : f.word neg rung % f.signWeight = rung := by
    unfold Ieee.Format.word
    split
    · rw [Nat.add_mod_left, Nat.mod_eq_of_lt hlt]
    · rw [Nat.mod_eq_of_lt hlt]
  unfold Ieee.Format.read
  dsimp only
  rw [hm]
  by_cases h1 : rung < f.binade
  · rw [if_pos h1]; trivial
  · rw [if_neg h1]
    by_cases h2 : rung < f.infRung
    · rw [if_pos h2]; trivial
    · rw [if_neg h2, if_pos (by omega)]; trivial
theorem read_write (f : Ieee.Format) {d : Ieee.Datum} (h : notNan d) : notNan (f.read (f.write d)) := by
  cases d with
  | number neg mag place =>
    unfold Ieee.Format.write Ieee.Format.nearest
    dsimp only
    split
    · exact read_word f neg (Nat.zero_le _)
    · exact read_word f neg (Nat.min_le_right ..)
  | infinity neg => exact read_word f neg (Nat.le_refl _)
  | nan neg fr => exact h.elim
theorem order_self {d : Ieee.Datum} (h : notNan d) : d.order d = some .eq := by
  cases d with
  | number neg mag place => simp [Ieee.Datum.order]
  | infinity neg => simp [Ieee.Datum.order]
  | nan neg fr => exact h.elim
/-- A number that is not nought. -/
def someNum : Ieee.Datum → Bool
  | .number _ m _ => m != 0
  | _ => false
theorem quot_ok {digits : Nat} {d e : Ieee.Datum} (hd : notNan d) (he : someNum e = true) : ∃ q, d.quotient digits e = some q ∧ notNan q := by
  cases e with
  | number t n j =>
    have hn : n ≠ 0 := by simpa [someNum] using he
    cases d with
    | number s m i => exact ⟨.number _ _ _, by simp only [Ieee.Datum.quotient, if_neg hn]; rfl, trivial⟩
    | infinity s => exact ⟨.infinity _, rfl, trivial⟩
    | nan s fr => exact hd.elim
  | infinity t => cases he
  | nan t fr => cases he
theorem words_num : ((List.range 24).all fun k => someNum (FloatKind.f64.format.read (FloatKind.f64.nearest ((64 * (k + 1) : Nat) : Int)))) = true := by decide +kernel
theorem div_ok (x : Int) {n : Nat} (h1 : 1 ≤ n) (h2 : n ≤ 24) : ∃ r, FloatKind.f64.format.div (FloatKind.f64.nearest x) (FloatKind.f64.nearest ((64 * n : Nat) : Int)) = some r ∧ FloatKind.f64.format.order r r = some .eq := by
  have hw := List.all_eq_true.1 words_num (n - 1) (List.mem_range.2 (by omega))
  rw [show n - 1 + 1 = n by omega] at hw
  have hx : notNan (FloatKind.f64.format.read (FloatKind.f64.nearest x)) := read_write _ (d := .number (x < 0) x.natAbs 0) trivial
  obtain ⟨q, hq, hn⟩ := quot_ok (digits := FloatKind.f64.format.fractionBits + 2) hx hw
  refine ⟨FloatKind.f64.format.write q, ?_, order_self (read_write _ hn)⟩
  unfold Ieee.Format.div
  rw [hq]
  rfl

section
variable {w : World} {pb N : Nat} {own : Nat → Own} {P : Prop} {B : Sl → Nat} {R : RB} {σ : St}
theorem c45 (h : Sp w B σ) {r : Nat} (hr : FloatKind.f64.format.div (FloatKind.f64.nearest (rmS σ)) (FloatKind.f64.nearest ((64 * σ.n : Nat) : Int)) = some r) : RetE PR 45 [pt (B .s)] w (.float .f64 r) := by
  refine Ret.of ((S45_eq _ w _).mpr ?_)
  unfold S45
  generalize hwd : World.drew w = wd
  have d1 : Kp w wd := hwd ▸ ext_drew w
  have hs := d1.at h.hs
  refine ⟨_, cell_of hs 14, _, _, _, cell_of hs 0, ?_⟩
  show optx (FloatKind.f64.format.div (FloatKind.f64.nearest (rmS σ)) (FloatKind.f64.nearest ((64 * σ.n : Nat) : Int))) _
  rw [hr]
  exact ⟨rfl, d1⟩

theorem c15_19 (h : PI w pb own N P B R σ) {who a b c : Int} {s : Option Addr} {l cc : Nat} :
    RetE PR 15 [pt pb, .agg (Array.mk [I who, I 19, I a, I b, I c, .slice s l cc])] w (.bool true) := by
  refine Ret.of ((S15_eq ..).mpr ?_)
  unfold S15
  refine atW_new fun w1 n1 => ⟨_, cell_of n1.at0 1, ?_⟩
  have h1 := h.kp n1.ext
  generalize hwd : World.drew w1 = wd
  have d1 : Kp w1 wd := hwd ▸ ext_drew w1
  have kd : Kp w wd := Upd.trans n1.ext d1
  have hd := h1.kp d1
  refine ifB_eq (fun hh => by omega) fun _ => ifB_eq (fun hh => by omega) fun _ => ifB_eq (fun hh => by omega) fun _ => ifB_eq (fun hh => by omega) fun _ => ifB_eq (fun hh => by omega) fun _ => ifB_eq (fun hh => by omega) fun _ => ifB_eq (fun hh => by omega) fun _ => ifB_eq (fun hh => by omega) fun _ => ifB_eq (fun hh => by omega) fun _ => ifB_eq (fun _ => ?_) fun hh => absurd rfl hh
  obtain ⟨r, hr, hrr⟩ := div_ok (rmS σ) h.i.n1 h.n
  refine ⟨_, hd.ps, _, hd.pr, _, _, _, cell_of hd.r.hs 0, ?_⟩
  refine (c20 hd.s).use fun w2 e2 => ⟨_, rfl, e2.draw, ifB_eq (fun _ => ?_) fun hh => absurd rfl hh⟩
  have h2 := hd.kp e2
  refine ⟨_, h2.ps, _, h2.pr, _, h2.pr, _, _, _, cell_of h2.r.hs 0, ?_⟩
  refine (c45 h2.s hr).use fun w3 e3 => ⟨_, rfl, e3.draw, ?_⟩
  have h3 := h2.kp e3
  refine (c46 h3.i h3.r).use fun w4 e4 => ⟨_, rfl, e4.draw, ?_⟩
  rw [hr]
  show Value.bool (FloatKind.f64.format.order r r == some Ordering.eq) = .bool true ∧ Kp w w4
  rw [hrr]
  exact ⟨rfl, Upd.trans kd (Upd.trans e2 (Upd.trans e3 e4))⟩
end
end Go.Wx
end
section
/- Contracts of the entries, second part. -/
set_option linter.unusedVariables false
set_option maxRecDepth 100000
namespace Go.Wx
open Go

/-- The kinds 10 to 16 and 18 to 20. -/
theorem lk_most {lo hi : Int} (hr : ∀ k : Int, lo ≤ k → k ≤ hi → ¬ (1 ≤ k ∧ k ≤ 7) → 10 ≤ k ∧ k ≤ 20 ∧ k ≠ 17) : LkOK lo hi := by
  intro w pb N own B R σ who kind a b c s l cc ks h hN hl ho h1 h2 h3
  obtain ⟨r1, r2, r3⟩ := hr kind h1 h2 h3
  by_cases e14 : kind = 14
  · subst e14; exact (c15_14 h (by omega) ho).mono fun v w' hh => ⟨hh.1, Stp.none h hh.2⟩
  by_cases e16 : kind = 16
  · subst e16; exact (c15_16 h (by omega)).mono fun v w' hh => ⟨hh.1, hh.2.stp (by omega)⟩
  by_cases e19 : kind = 19
  · subst e19; exact Ret.mono (c15_19 h) fun v w' hh => ⟨hh.1, Stp.none h hh.2⟩
  by_cases e20 : kind = 20
  · subst e20; exact (c15_20 h (by omega)).mono fun v w' hh => ⟨hh.1, hh.2.stp (by omega)⟩
  exact Ret.mono (c15_ro h ho.ha kind (by omega)) fun v w' hh => ⟨hh.1, Stp.none h hh.2⟩

section
variable {w : World} {n m : Int} {s : Option Addr} {l c : Nat} {f : Nat → Nat → Int} {ad : Nat → Option Addr} {ln cc : Nat → Nat} {ks : Nat → Nat → Int}
theorem c5 (hg : GT w) (h : Scr w s l f ad ln cc ks) : RetE PR 5 [I n, I m, .slice s l c] w (.bool true) := by
  refine Ret.of ((S5_eq ..).mpr ?_)
  unfold S5
  exact (c10 (lk_most fun k h1 h2 _ => by omega) hg h).use fun w1 e1 => ⟨_, rfl, rfl, e1⟩
theorem c8 (hg : GT w) (h : Scr w s l f ad ln cc ks) : RetE PR 8 [I n, I m, .slice s l c] w (.bool true) := by
  refine Ret.of ((S8_eq ..).mpr ?_)
  unfold S8
  exact (c10 (lk_most fun k h1 h2 _ => by omega) hg h).use fun w1 e1 => ⟨_, rfl, rfl, e1⟩
end
end Go.Wx
end
section
/- Contracts of after, and of the function that gone hands to All. -/
set_option linter.unusedVariables false
set_option maxRecDepth 100000
namespace Go.Wx
open Go

/-- The first object from a place on. -/
def afS (σ : St) (i : Nat) : Bk × Bool := if nxt (isO σ) (64 * σ.n) i < 0 then (Bk.z, false) else (σ.O (nxt (isO σ) (64 * σ.n) i).toNat, true)
theorem afS_none {σ : St} {i : Nat} (h : ∀ j, i ≤ j → j < 64 * σ.n → isO σ j = false) : afS σ i = (Bk.z, false) := by
  rw [afS, nxt_none h, if_pos (by omega)]
theorem afS_some {σ : St} {i j : Nat} (h1 : i ≤ j) (h2 : j < 64 * σ.n) (h3 : isO σ j = true) (h4 : ∀ k, i ≤ k → k < j → isO σ k = false) : afS σ i = (σ.O j, true) := by
  rw [afS, nxt_some h1 h2 h3 h4, if_neg (by omega), Int.toNat_natCast]

section
variable {w : World} {pb N : Nat} {own : Nat → Own} {P : Prop} {B : Sl → Nat} {R : RB} {σ : St}
theorem c89 (h : PI w pb own N P B R σ) {x : Int} (hx1 : -1 ≤ x) (hx2 : x < ((64 * σ.n : Nat) : Int)) : RetE PR 89 [pt pb, I x] w (.tuple (Array.mk [VB (afS σ (x + 1).toNat).1, .bool (afS σ (x + 1).toNat).2])) := by
  refine Ret.of ((S89_eq _ _ w _).mpr ?_)
  unfold S89
  have hn := h.n
  obtain ⟨i0, hi0⟩ : ∃ i : Nat, x + 1 = i := ⟨(x + 1).toNat, by omega⟩
  rw [hi0, wrap_id (by omega) (by omega), Int.toNat_natCast]
  refine atW_new fun w1 n1 => ?_
  refine loop_rule (fun i : Nat => ((i : Int), false, ())) (fun i W => W = w1 ∧ i ≤ 64 * σ.n ∧ i0 ≤ i ∧ ∀ j, i0 ≤ j → j < i → isO σ j = false) (fun i => 64 * σ.n - i) i0 rfl ⟨rfl, by omega, by omega, fun j h1 h2 => by omega⟩ ?_
  rintro i W K ⟨rfl, hi, hi2, hno⟩ hK
  have h1 := h.kp n1.ext
  have hco := h1.r.hco
  dsimp only
  refine ⟨_, h1.cells.2, _, _, _, cell_of h1.r.hs 2, ifB_d (fun hlt => ?_) fun hlt => ?_⟩
  · have hlt : i < 64 * σ.n := by omega
    refine ⟨_, h1.cells.2, _, _, _, cell_of h1.r.hs 2, ⟨by omega, by omega⟩, _, bks_cell (i := i) h1.r.ho (by omega) (by omega), ifB_ne (fun hk => ?_) fun hk => ?_⟩
    · refine ⟨_, h1.cells.2, _, _, _, cell_of h1.r.hs 2, ⟨by omega, by omega⟩, _, bks_cell (i := i) h1.r.ho (by omega) (by omega), _, bks_cell (i := i) h1.r.ho (by omega) (by omega), _, bks_cell (i := i) h1.r.ho (by omega) (by omega), _, bks_cell (i := i) h1.r.ho (by omega) (by omega), _, bks_cell (i := i) h1.r.ho (by omega) (by omega), ?_⟩
      refine stx_at _ n1.at0 (by simp) rfl fun w2 p2 => ?_
      refine ⟨_, cell_of p2.at0 0, _, cell_of p2.at0 1, _, cell_of p2.at0 2, _, cell_of p2.at0 3, _, cell_of p2.at0 4, ?_, (Upd.refl.new n1).put p2 (Nat.le_refl _)⟩
      rw [afS_some hi2 hlt (decide_eq_true hk) hno]
      rfl
    · rw [wrap_id (by omega) (by omega)]
      refine hK (i + 1) W ⟨rfl, hlt, by omega, fun j h1 h2 => ?_⟩ (by omega)
      by_cases hj : j = i
      · subst hj; exact decide_eq_false fun hh => hh hk
      · exact hno j h1 (by omega)
  · refine stx_at _ n1.at0 (by simp) rfl fun w2 p2 => ?_
    refine ⟨_, cell_of p2.at0 0, _, cell_of p2.at0 1, _, cell_of p2.at0 2, _, cell_of p2.at0 3, _, cell_of p2.at0 4, ?_, (Upd.refl.new n1).put p2 (Nat.le_refl _)⟩
    rw [afS_none fun j h1 h2 => hno j h1 (by omega)]
    rfl
end

/-- What gone's function shares with gone. -/
structure Gn (W : World) (pb p1 p2 p3 p4 p5 p6 : Nat) (A E C : Int) (more : Bool) (b : Bk) (told : Nat) : Prop where
  h1 : W.heap[p1]? = some (Bl [.bool true] 4)
  h2 : W.heap[p2]? = some (Bl [.bool more] 4)
  h3 : W.heap[p3]? = some (Bl b.cells 106)
  h4 : ∃ x y s l c, W.heap[p4]? = some (Bl [x, y, I A, I E, I C, .slice s l c] 32)
  h5 : W.heap[p5]? = some (Bl [I told] 3)
  h6 : W.heap[p6]? = some (Bl [pt pb] 27)
theorem Gn.upd {W W' : World} {pb p1 p2 p3 p4 p5 p6 : Nat} {A E C : Int} {more : Bool} {b : Bk} {told : Nat} {G : Nat → Prop} (h : Gn W pb p1 p2 p3 p4 p5 p6 A E C more b told) (u : Upd G W W') (g : ∀ x, G x → x ≠ p1 ∧ x ≠ p2 ∧ x ≠ p3 ∧ x ≠ p4 ∧ x ≠ p5 ∧ x ≠ p6) : Gn W' pb p1 p2 p3 p4 p5 p6 A E C more b told := by
  obtain ⟨h1, h2, h3, ⟨x, y, s, l, c, h4⟩, h5, h6⟩ := h
  exact ⟨u.at h1 fun hh => (g _ hh).1 rfl, u.at h2 fun hh => (g _ hh).2.1 rfl, u.at h3 fun hh => (g _ hh).2.2.1 rfl, ⟨x, y, s, l, c, u.at h4 fun hh => (g _ hh).2.2.2.1 rfl⟩, u.at h5 fun hh => (g _ hh).2.2.2.2.1 rfl, u.at h6 fun hh => (g _ hh).2.2.2.2.2 rfl⟩
/-- The six blocks lie above the pair, each by itself. -/
structure Gp (F : Nat → Prop) (p1 p2 p3 p4 p5 p6 : Nat) : Prop where
  f : ∀ x, F x → x < p6
  o : p6 < p4 ∧ p4 < p3 ∧ p3 < p2 ∧ p2 < p5 ∧ p5 < p1

section
variable {w : World} {pb N : Nat} {own : Nat → Own} {B : Sl → Nat} {R : RB} {σ : St}
theorem okOp0 (F : Nat → Prop) (a b c : Int) (ha : In64 a) (hb : In64 b) (hc : In64 c) (w : World) : OpOK w F a b c none 0 fun _ => 0 :=
  ⟨ha, hb, hc, fun i hi => by omega, by omega, fun i hi => by omega, fun _ _ _ _ i hi => by omega⟩

theorem Gn.told {W W' : World} {pb p1 p2 p3 p4 p5 p6 : Nat} {A E C : Int} {more : Bool} {b : Bk} {told t' : Nat} {F : Nat → Prop} (h : Gn W pb p1 p2 p3 p4 p5 p6 A E C more b told) (hp : Gp F p1 p2 p3 p4 p5 p6) (u : Put W p5 (Bl [I t'] 3) W') : Gn W' pb p1 p2 p3 p4 p5 p6 A E C more b t' := by
  obtain ⟨o1, o2, o3, o4, o5⟩ := hp.o
  obtain ⟨h1, h2, h3, ⟨x, y, s, l, c, h4⟩, h5, h6⟩ := h
  exact ⟨u.at h1 (by omega), u.at h2 (by omega), u.at h3 (by omega), ⟨x, y, s, l, c, u.at h4 (by omega)⟩, u.at0, u.at h6 (by omega)⟩
theorem Gn.good {W W' : World} {pb p1 p2 p3 p4 p5 p6 : Nat} {A E C : Int} {more : Bool} {b : Bk} {told : Nat} {F : Nat → Prop} (h : Gn W pb p1 p2 p3 p4 p5 p6 A E C more b told) (hp : Gp F p1 p2 p3 p4 p5 p6) (u : Put W p1 (Bl [.bool true] 4) W') : Gn W' pb p1 p2 p3 p4 p5 p6 A E C more b told := by
  obtain ⟨o1, o2, o3, o4, o5⟩ := hp.o
  obtain ⟨h1, h2, h3, ⟨x, y, s, l, c, h4⟩, h5, h6⟩ := h
  exact ⟨u.at0, u.at h2 (by omega), u.at h3 (by omega), ⟨x, y, s, l, c, u.at h4 (by omega)⟩, u.at h5 (by omega), u.at h6 (by omega)⟩
theorem Gn.want {W W' : World} {pb p1 p2 p3 p4 p5 p6 : Nat} {A E C : Int} {more : Bool} {b b' : Bk} {told : Nat} {F : Nat → Prop} (h : Gn W pb p1 p2 p3 p4 p5 p6 A E C more b told) (hp : Gp F p1 p2 p3 p4 p5 p6) (u : Put W p3 (Bl b'.cells 106) W') : Gn W' pb p1 p2 p3 p4 p5 p6 A E C more b' told := by
  obtain ⟨o1, o2, o3, o4, o5⟩ := hp.o
  obtain ⟨h1, h2, h3, ⟨x, y, s, l, c, h4⟩, h5, h6⟩ := h
  exact ⟨u.at h1 (by omega), u.at h2 (by omega), u.at0, ⟨x, y, s, l, c, u.at h4 (by omega)⟩, u.at h5 (by omega), u.at h6 (by omega)⟩
theorem Gn.more {W W' : World} {pb p1 p2 p3 p4 p5 p6 : Nat} {A E C : Int} {more m' : Bool} {b : Bk} {told : Nat} {F : Nat → Prop} (h : Gn W pb p1 p2 p3 p4 p5 p6 A E C more b told) (hp : Gp F p1 p2 p3 p4 p5 p6) (u : Put W p2 (Bl [.bool m'] 4) W') : Gn W' pb p1 p2 p3 p4 p5 p6 A E C m' b told := by
  obtain ⟨o1, o2, o3, o4, o5⟩ := hp.o
  obtain ⟨h1, h2, h3, ⟨x, y, s, l, c, h4⟩, h5, h6⟩ := h
  exact ⟨u.at h1 (by omega), u.at0, u.at h3 (by omega), ⟨x, y, s, l, c, u.at h4 (by omega)⟩, u.at h5 (by omega), u.at h6 (by omega)⟩

theorem c90 (h : PI w pb own N True B R σ) {p1 p2 p3 p4 p5 p6 : Nat} {A E C : Int} {told j : Nat} (hg : Gn w pb p1 p2 p3 p4 p5 p6 A E C true (σ.O j) told) (hp : Gp (PF pb own B R) p1 p2 p3 p4 p5 p6) (hj : j < 64 * σ.n) (hjo : (σ.O j).kind ≠ 0) (hA : A < 1 ∨ told < A) (ht : told ≤ 100000) (hlast : σ.last < 900000) :
    Ret PR 90 [VB (σ.O j), pt p1, pt p2, pt p3, pt p4, pt p5, pt p6] w fun v w' => ∃ σ', v = .bool (decide (A < 1 ∨ ((told + 1 : Nat) : Int) < A)) ∧ PI w' pb own N True B R σ' ∧ Gn w' pb p1 p2 p3 p4 p5 p6 A E C (afS σ' (j + 1)).2 (afS σ' (j + 1)).1 (told + 1) ∧
      Upd (fun x => PF pb own B R x ∨ x = p1 ∨ x = p2 ∨ x = p3 ∨ x = p5) w w' ∧ σ'.last ≤ σ.last + (if ((told + 1 : Nat) : Int) = E then 1 else 0) ∧ σ'.n = σ.n := by
  refine Ret.of ((S90_eq ..).mpr ?_)
  unfold S90
  obtain ⟨o1, o2, o3, o4, o5⟩ := hp.o
  have hpf := hp.f
  have hat := (h.i.ob j hj hjo).at_
  have hn := h.n
  refine atW_new fun w1 n1 => ?_
  have g1 := hg.upd n1.ext fun _ hh => hh.elim
  have h1 := h.kp n1.ext
  have lt1 := lt_of_look hg.h1
  have z1 := n1.sz
  obtain ⟨x4, y4, s4, l4, c4, q4⟩ := g1.h4
  have h00 : 0 < p6 := Nat.lt_of_le_of_lt (Nat.zero_le _) (hpf pb (.inl rfl))
  refine ⟨fun s W => w1 = W, ?_, ?_⟩
  rotate_left
  · refine ⟨_, cell_of g1.h1 0, ifB_nb (fun hh => by cases hh) fun _ => ⟨_, cell_of g1.h2 0, ifB_nb (fun hh => by cases hh) fun _ => ?_⟩⟩
    refine ⟨_, cell_of n1.at0 0, _, cell_of n1.at0 1, _, cell_of n1.at0 2, _, cell_of n1.at0 3, _, cell_of n1.at0 4, _, cell_of g1.h3 0, _, cell_of g1.h3 1, _, cell_of g1.h3 2, _, cell_of g1.h3 3, _, cell_of g1.h3 4, ifB_nb (fun hh => ?_) fun _ => ?_⟩
    · simp at hh
    · exact ⟨_, cell_of q4 2, ifB_d (fun ha => ⟨_, cell_of g1.h5 0, _, cell_of q4 2, ifB_d (fun hb => by omega) fun _ => rfl⟩) fun _ => rfl⟩
  rintro s _ rfl
  refine ⟨_, cell_of g1.h5 0, ?_⟩
  rw [wrap_id (x := (told : Int) + 1) (by omega) (by omega), show (told : Int) + 1 = ((told + 1 : Nat) : Int) by omega]
  refine stx_at _ g1.h5 (by simp) rfl fun w2 pu2 => ?_
  have g2 := g1.told hp pu2
  have h2 : PI w2 pb own N True B R σ := h1.upd pu2.upd (fun x hx hh => by have := hpf x hx; simp only [one] at hh; omega) (by simp only [one]; omega)
  have u2 : Upd (fun x => PF pb own B R x ∨ x = p1 ∨ x = p2 ∨ x = p3 ∨ x = p5) w w2 := (Kp.upd n1.ext).trans (pu2.upd.mono fun x hx => by simp only [one] at hx; exact .inr (.inr (.inr (.inr hx))))
  have b2 := pu2.at n1.at0 (by omega)
  obtain ⟨xb, hxb⟩ : ∃ xb, IntKind.i64.wrap ((BitVec.ofInt 64 C &&& BitVec.ofInt 64 1).toNat : Int) = xb := ⟨_, rfl⟩
  have far : ∀ {W W' : World}, Upd (PF pb own B R) W W' → Gn W pb p1 p2 p3 p4 p5 p6 A E C true (σ.O j) (told + 1) → Gn W' pb p1 p2 p3 p4 p5 p6 A E C true (σ.O j) (told + 1) := fun u g => g.upd u fun x hx => by have := hpf x hx; omega
  refine ⟨fun _ W => ∃ σ', PI W pb own N True B R σ' ∧ Gn W pb p1 p2 p3 p4 p5 p6 A E C true (σ.O j) (told + 1) ∧ Upd (fun x => PF pb own B R x ∨ x = p1 ∨ x = p2 ∨ x = p3 ∨ x = p5) w W ∧ (σ'.last ≤ σ.last + (if ((told + 1 : Nat) : Int) = E ∧ xb = 0 then 1 else 0)) ∧ σ'.n = σ.n ∧ W.heap[w.heap.size]? = some (Bl (σ.O j).cells 106), ?_, ?_⟩
  rotate_left
  · obtain ⟨x4', y4', s4', l4', c4', q4'⟩ := g2.h4
    have no : ∃ σ', PI w2 pb own N True B R σ' ∧ Gn w2 pb p1 p2 p3 p4 p5 p6 A E C true (σ.O j) (told + 1) ∧ Upd (fun x => PF pb own B R x ∨ x = p1 ∨ x = p2 ∨ x = p3 ∨ x = p5) w w2 ∧ (σ'.last ≤ σ.last + (if ((told + 1 : Nat) : Int) = E ∧ xb = 0 then 1 else 0)) ∧ σ'.n = σ.n ∧ w2.heap[w.heap.size]? = some (Bl (σ.O j).cells 106) := ⟨σ, h2, g2, u2, by split <;> omega, rfl, b2⟩
    refine ⟨_, cell_of g2.h5 0, _, cell_of q4' 3, ifB_eq (fun hE => ⟨_, cell_of q4' 4, ?_⟩) fun _ => no⟩
    rw [hxb]
    refine ifB_eq (fun hx => ?_) fun _ => no
    refine ⟨_, cell_of g2.h6 0, ?_⟩
    refine (c14_1 h2 (who := 0) (a := 1) (b := 3) (c := 0) (s := none) (l := 0) (cc := 0) (okOp0 _ _ _ _ ⟨by omega, by omega⟩ ⟨by omega, by omega⟩ ⟨by omega, by omega⟩ _) (by omega)).use ?_
    rintro _ w3 ⟨rfl, σ', t1, t2, t3, t4⟩
    have g3 := far t2 g2
    refine ⟨_, rfl, stx_at _ g3.h1 (by simp) rfl fun w4 p4' => ⟨σ', ?_, g3.good hp p4', ?_, ?_, t4, ?_⟩⟩
    · exact t1.upd p4'.upd (fun x hx hh => by have := hpf x hx; simp only [one] at hh; omega) (by simp only [one]; omega)
    · exact (u2.trans (t2.mono fun x hx => .inl hx)).trans (p4'.upd.mono fun x hx => .inr (.inl hx))
    · rw [if_pos ⟨hE, hx⟩]; omega
    · exact p4'.at (t2.at b2 fun hh => by have := hpf _ hh; omega) (by omega)
  rintro _ w3 ⟨σ1, h3, g3, u3, l3, s3, b3⟩
  refine ⟨fun _ W => ∃ σ', PI W pb own N True B R σ' ∧ Gn W pb p1 p2 p3 p4 p5 p6 A E C true (σ.O j) (told + 1) ∧ Upd (fun x => PF pb own B R x ∨ x = p1 ∨ x = p2 ∨ x = p3 ∨ x = p5) w W ∧ (σ'.last ≤ σ.last + (if ((told + 1 : Nat) : Int) = E then 1 else 0)) ∧ σ'.n = σ.n ∧ W.heap[w.heap.size]? = some (Bl (σ.O j).cells 106), ?_, ?_⟩
  rotate_left
  · obtain ⟨x4', y4', s4', l4', c4', q4'⟩ := g3.h4
    have le3 : σ1.last ≤ σ.last + (if ((told + 1 : Nat) : Int) = E then 1 else 0) := by
      refine Int.le_trans l3 ?_
      by_cases hE : ((told + 1 : Nat) : Int) = E
      · rw [if_pos hE]; split <;> omega
      · rw [if_neg hE, if_neg fun hh => hE hh.1]; omega
    have no : ∃ σ', PI w3 pb own N True B R σ' ∧ Gn w3 pb p1 p2 p3 p4 p5 p6 A E C true (σ.O j) (told + 1) ∧ Upd (fun x => PF pb own B R x ∨ x = p1 ∨ x = p2 ∨ x = p3 ∨ x = p5) w w3 ∧ (σ'.last ≤ σ.last + (if ((told + 1 : Nat) : Int) = E then 1 else 0)) ∧ σ'.n = σ.n ∧ w3.heap[w.heap.size]? = some (Bl (σ.O j).cells 106) := ⟨σ1, h3, g3, u3, le3, s3, b3⟩
    refine ⟨_, cell_of g3.h5 0, _, cell_of q4' 3, ifB_eq (fun hE => ⟨_, cell_of q4' 4, ?_⟩) fun _ => no⟩
    rw [hxb]
    refine ifB_eq (fun hx => ?_) fun _ => no
    refine ⟨_, cell_of g3.h6 0, _, cell_of b3 0, atW_new fun w4 n4 => ?_⟩
    have h4 := h3.kp n4.ext
    have g4 := g3.upd n4.ext fun _ hh => hh.elim
    have ls : ∀ {W : World}, W.heap[w3.heap.size]? = some (Bl [I (σ.O j).at_] 3) → Ls W (some ⟨w3.heap.size, 0, none⟩) 1 fun _ => (σ.O j).at_ := by
      intro W hW i hi
      obtain rfl : i = 0 := by omega
      exact ⟨_, rfl, cell_of hW 0⟩
    have z3 := u3.sz
    refine (c30 h4 (ls n4.at0) (by omega) (fun i _ => by rw [hat]; exact ⟨by omega, by omega⟩) fun wz uz => ls (uz.at n4.at0 fun hh => by have := hpf _ hh; omega)).use ?_
    rintro _ w5 ⟨rfl, σ', t1, t2, t3, t4⟩
    have g5 := far t2 g4
    have l3' : σ1.last ≤ σ.last := by rw [if_neg (fun hh => by omega)] at l3; omega
    refine ⟨_, rfl, stx_at _ g5.h1 (by simp) rfl fun w6 p6' => ⟨σ', ?_, g5.good hp p6', ?_, ?_, by omega, ?_⟩⟩
    · exact t1.upd p6'.upd (fun x hx hh => by have := hpf x hx; simp only [one] at hh; omega) (by simp only [one]; omega)
    · exact ((u3.trans (Kp.upd n4.ext)).trans (t2.mono fun x hx => .inl hx)).trans (p6'.upd.mono fun x hx => .inr (.inl hx))
    · rw [if_pos hE]; omega
    · exact p6'.at (t2.at (n4.ext.at b3) fun hh => by have := hpf _ hh; omega) (by omega)
  rintro _ w4 ⟨σ2, h4, g4, u4, l4, s4', b4⟩
  have hat2 : ((σ.O j).at_ + 1).toNat = j + 1 := by rw [hat]; omega
  refine ⟨_, cell_of g4.h6 0, _, cell_of b4 0, ?_⟩
  refine (c89 h4 (x := (σ.O j).at_) (by omega) (by rw [hat, s4']; omega)).use fun w5 e5 => ?_
  rw [hat2]
  have g5 := g4.upd e5 fun _ hh => hh.elim
  refine ⟨_, _, _, _, _, _, rfl, stx_at _ g5.h3 (by simp) rfl fun w6 p6' => ?_⟩
  have g6 : Gn w6 pb p1 p2 p3 p4 p5 p6 A E C true (afS σ2 (j + 1)).1 (told + 1) := g5.want hp p6'
  refine stx_at _ g6.h2 (by simp) rfl fun w7 p7 => ?_
  have g7 : Gn w7 pb p1 p2 p3 p4 p5 p6 A E C (afS σ2 (j + 1)).2 (afS σ2 (j + 1)).1 (told + 1) := g6.more hp p7
  have h7 : PI w7 pb own N True B R σ2 := ((h4.kp e5).upd p6'.upd (fun x hx hh => by have := hpf x hx; simp only [one] at hh; omega) (by simp only [one]; omega)).upd p7.upd (fun x hx hh => by have := hpf x hx; simp only [one] at hh; omega) (by simp only [one]; omega)
  have u7 : Upd (fun x => PF pb own B R x ∨ x = p1 ∨ x = p2 ∨ x = p3 ∨ x = p5) w w7 := ((u4.trans (Kp.upd e5)).trans (p6'.upd.mono fun x hx => .inr (.inr (.inr (.inl hx))))).trans (p7.upd.mono fun x hx => .inr (.inr (.inl hx)))
  obtain ⟨x4', y4', s4'', l4', c4', q4'⟩ := g7.h4
  refine ⟨_, cell_of q4' 2, ifB_d (fun ha => ⟨σ2, ?_, h7, g7, u7, l4, s4'⟩) fun ha => ⟨_, cell_of g7.h5 0, _, cell_of q4' 2, σ2, ?_, h7, g7, u7, l4, s4'⟩⟩
  · rw [decide_eq_true (Or.inl ha)]
  · refine congrArg Value.bool (decide_eq_decide.mpr ⟨fun hh => .inr hh, fun hh => hh.resolve_left ha⟩)
end
end Go.Wx
end
section
/- Contract of All's function, handed gone's function; gone. -/
set_option linter.unusedVariables false
set_option maxRecDepth 100000
namespace Go.Wx
open Go

theorem ok90 : okCallee PR 90 = true := by kernel_rfl
theorem rk90 : resKs PR 90 = [VK.leaf LK.bool] := by kernel_rfl
theorem ok133' : okCallee PR 133 = true := by kernel_rfl
theorem rk133 : resKs PR 133 = [] := by kernel_rfl

section
variable {w : World} {pb N : Nat} {own : Nat → Own} {B : Sl → Nat} {R : RB} {σ : St}

/-- Where All stands, behind i places. -/
def Gi (w U : World) (pb N : Nat) (own : Nat → Own) (B : Sl → Nat) (R : RB) (σ : St) (p1 p2 p3 p4 p5 p6 : Nat) (A E C : Int) (sb i : Nat) (σ' : St) (told : Nat) : Prop :=
  PI U pb own N True B R σ' ∧ Gn U pb p1 p2 p3 p4 p5 p6 A E C (afS σ' i).2 (afS σ' i).1 told ∧ told ≤ i ∧ i ≤ 64 * σ.n ∧ σ'.last ≤ σ.last + (if (told : Int) < E then 0 else 1) ∧ σ'.n = σ.n ∧ Upd (fun x => PF pb own B R x ∨ x = p1 ∨ x = p2 ∨ x = p3 ∨ x = p5) w U ∧ U.heap[sb]? = some (Bl [pt (B .s)] 34)
theorem Gi.upd {U U' : World} {p1 p2 p3 p4 p5 p6 : Nat} {A E C : Int} {sb i : Nat} {σ' : St} {told : Nat} {G : Nat → Prop} (h : Gi w U pb N own B R σ p1 p2 p3 p4 p5 p6 A E C sb i σ' told) (hp : Gp (PF pb own B R) p1 p2 p3 p4 p5 p6) (hs : p1 < sb) (hsw : sb < w.heap.size) (u : Upd G U U') (hG : ∀ x, G x → w.heap.size ≤ x) : Gi w U' pb N own B R σ p1 p2 p3 p4 p5 p6 A E C sb i σ' told := by
  obtain ⟨h1, h2, h3, h4, h5, h6, h7, h8⟩ := h
  obtain ⟨o1, o2, o3, o4, o5⟩ := hp.o
  have hpf := hp.f
  have h00 : 0 < p6 := Nat.lt_of_le_of_lt (Nat.zero_le _) (hpf pb (.inl rfl))
  exact ⟨h1.upd u (fun x hx hh => by have := hpf x hx; have := hG x hh; omega) (fun hh => by have := hG 0 hh; omega), h2.upd u fun x hx => by have := hG x hx; omega, h3, h4, h5, h6, h7.tr u fun x hx => .inr (hG x hx), u.at h8 fun hh => by have := hG _ hh; omega⟩

theorem c133F (h : PI w pb own N True B R σ) {p1 p2 p3 p4 p5 p6 sb : Nat} {A E C : Int} (hg : Gn w pb p1 p2 p3 p4 p5 p6 A E C (afS σ 0).2 (afS σ 0).1 0) (hp : Gp (PF pb own B R) p1 p2 p3 p4 p5 p6) (hs : p1 < sb) (hsb : w.heap[sb]? = some (Bl [pt (B .s)] 34)) (hlast : σ.last < 800000) :
    Ret PR 133 [.func (.func 90) #[] #[pt p1, pt p2, pt p3, pt p4, pt p5, pt p6], pt sb] w fun v w' => v = .tuple (Array.mk []) ∧ ∃ i σ' told, Gi w w' pb N own B R σ p1 p2 p3 p4 p5 p6 A E C sb i σ' told ∧ ((afS σ' i).2 = false ∨ (1 ≤ A ∧ (told : Int) = A)) := by
  refine Ret.of ((S133F_eq ..).mpr ?_)
  unfold S133F
  obtain ⟨o1, o2, o3, o4, o5⟩ := hp.o
  have hpf := hp.f
  have hsw := lt_of_look hsb
  have hn := h.n
  refine atW_new fun w1 n1 => ?_
  obtain ⟨d, hd⟩ : ∃ d, d = w.heap.size := ⟨_, rfl⟩
  have z1 := n1.sz
  have h1 := h.kp n1.ext
  refine ⟨_, cell_of (n1.ext.at hsb) 0, _, cell_of (SpR.hs h1.s) 2, ?_⟩
  refine (c91 w1 (B .k)).use ?_
  rintro _ w2 ⟨rfl, n2⟩
  refine ⟨_, rfl, ?_⟩
  have z2 := n2.sz
  have k2 : Kp w w2 := Upd.trans n1.ext n2.ext
  have hF : w2.heap[w.heap.size]? = some (Bl [.func (.func 90) #[] #[pt p1, pt p2, pt p3, pt p4, pt p5, pt p6]] 126) := n2.ext.at n1.at0
  have hc := n2.at0
  have G0 : Gi w w2 pb N own B R σ p1 p2 p3 p4 p5 p6 A E C sb 0 σ 0 := ⟨h.kp k2, hg.upd k2 fun _ hh => hh.elim, Nat.le_refl _, Nat.zero_le _, by split <;> omega, rfl, Kp.upd k2, k2.at hsb⟩
  -- what comes of it
  have fin : ∀ {i : Nat} {U : World} {σ' : St} {told : Nat}, Gi w U pb N own B R σ p1 p2 p3 p4 p5 p6 A E C sb i σ' told → U.heap[w2.heap.size]? = some (.deferred (some [])) → ((afS σ' i).2 = false ∨ (1 ≤ A ∧ (told : Int) = A)) →
      U.heap[w2.heap.size]? = some (Obj.deferred (some [])) ∧ (Value.tuple (Array.mk []) = .tuple (Array.mk []) ∧ ∃ i σ' told, Gi w (U.putObj w2.heap.size (Obj.deferred none)) pb N own B R σ p1 p2 p3 p4 p5 p6 A E C sb i σ' told ∧ ((afS σ' i).2 = false ∨ (1 ≤ A ∧ (told : Int) = A))) := by
    intro i U σ' told hG hD hq
    exact ⟨hD, rfl, i, σ', told, hG.upd hp hs hsw (put_putObj _ (lt_of_look hD)).upd (fun x hx => by simp only [one] at hx; omega), hq⟩
  refine range_bits (fun i => (i, ())) (fun i => rfl) (fun e Qe hh => by simp only [List.mem_singleton, Prod.mk.injEq] at hh; rw [hh.1]; rfl)
    (fun i bit U => ∃ σ' told, bit = isO σ' ∧ Gi w U pb N own B R σ p1 p2 p3 p4 p5 p6 A E C sb i σ' told ∧ (A < 1 ∨ (told : Int) < A) ∧ U.heap[w.heap.size]? = some (Bl [.func (.func 90) #[] #[pt p1, pt p2, pt p3, pt p4, pt p5, pt p6]] 126) ∧ U.heap[w1.heap.size]? = some (Bl [pt (B .k)] 88) ∧ U.heap[w2.heap.size]? = some (.deferred (some [])))
    (cb := w1.heap.size) (b := B .k) (rb := B .kr) (r := σ.n) ?_ ?_ (isO σ) ?_ ?_ ?_
  · rintro i bit U ⟨σ', told, rfl, q1, q2, q3, q4, q5⟩
    have := q1.1.s.hk
    have hn' : (rawOf σ').n = σ.n := q1.2.2.2.2.2.1
    rw [hn'] at this
    exact ⟨q4, this⟩
  · rintro i bit U U' ⟨σ', told, rfl, q1, q2, q3, q4, q5⟩ u
    exact ⟨σ', told, rfl, q1.upd hp hs hsw u (fun x hx => by simp only [one] at hx; omega), q2, u.at q3 (by simp only [one]; omega), u.at q4 (by simp only [one]; omega), u.at q5 (by simp only [one]; omega)⟩
  · intro U kU hDU hsz
    exact ⟨σ, 0, rfl, G0.upd hp hs hsw kU (fun _ hh => hh.elim), by omega, kU.at hF, kU.at hc, hDU⟩
  · rintro i bit j U rc K ⟨σ', told, rfl, q1, q2, q3, q4, q5⟩ hij hj hbit hno hl hnorm hexit
    dsimp only
    have q1' := q1
    obtain ⟨r1, r2, r3, r4, r5, r6, r7, r8⟩ := q1
    refine ⟨hl, atW_putO (lt_of_look hl) fun U2 pU => ?_⟩
    have hj' : j < 64 * σ'.n := by rw [r6]; exact hj
    have hbj := of_decide_eq_true hbit
    have haf : afS σ' i = (σ'.O j, true) := afS_some hij hj' hbit hno
    have G2 : Gi w U2 pb N own B R σ p1 p2 p3 p4 p5 p6 A E C sb i σ' told := q1'.upd hp hs hsw pU.upd fun x hx => by simp only [one] at hx; omega
    refine ⟨_, cell_of G2.2.2.2.2.2.2.2 0, ?_⟩
    have hI := G2.1.i
    have hn2 := hI.n2
    refine (c70 hI G2.1.s j ⟨by omega, by omega⟩).use fun U3 e3 => ?_
    have hbl : blkS σ' j = σ'.O j := by rw [blkS, if_pos (okI_iff.2 ⟨j, rfl, hj', hbj⟩), Int.toNat_natCast]
    rw [hbl]
    refine ⟨_, _, _, _, _, _, rfl, atW_new fun U4 n5 => stx_at _ n5.at0 (by simp) rfl fun U5 p5' => ?_⟩
    have k5 : Kp U2 U5 := (e3.trans n5.ext).put p5' e3.sz
    have G5 := G2.upd hp hs hsw k5 fun _ hh => hh.elim
    have f5 := k5.at (pU.at q3 (by omega))
    refine ⟨_, cell_of f5 0, _, cell_of p5'.at0 0, _, cell_of p5'.at0 1, _, cell_of p5'.at0 2, _, cell_of p5'.at0 3, _, cell_of p5'.at0 4, ?_⟩
    dsimp only
    rw [ok90]
    obtain ⟨g1, g2, _, _, g5, g6, g7, g8⟩ := G5
    rw [haf] at g2
    have hb5 := k5.at pU.at0
    have hc5 := k5.at (pU.at q4 (by omega))
    have hd5 := k5.at (pU.at q5 (by omega))
    have lt7 := g7.sz
    show Calls PR 90 (Array.mk [VB (σ'.O j), pt p1, pt p2, pt p3, pt p4, pt p5, pt p6]) U5 _
    have l5 : (if (told : Int) < E then (0 : Int) else 1) ≤ 1 := by split <;> omega
    refine (c90 g1 g2 hp hj' hbj q2 (by omega) (by omega)).use ?_
    rintro _ U6 ⟨σ'', rfl, t1, t2, t3, t4, t5⟩
    rw [rk90]
    have big : ∀ x, w.heap.size ≤ x → ¬ (PF pb own B R x ∨ x = p1 ∨ x = p2 ∨ x = p3 ∨ x = p5) := fun x hx hh => by
      rcases hh with hh | hh
      · have := hpf x hh; omega
      · omega
    have l6 : σ''.last ≤ σ.last + (if ((told + 1 : Nat) : Int) < E then 0 else 1) := by
      by_cases c1 : ((told + 1 : Nat) : Int) = E
      · rw [if_pos c1] at t4; rw [if_pos (by omega)] at g5; rw [if_neg (by omega)]; omega
      · rw [if_neg c1] at t4
        by_cases c2 : ((told + 1 : Nat) : Int) < E
        · rw [if_pos (by omega)] at g5; rw [if_pos c2]; omega
        · rw [if_neg (by omega)] at g5; rw [if_neg c2]; omega
    have G6 : Gi w U6 pb N own B R σ p1 p2 p3 p4 p5 p6 A E C sb (j + 1) σ'' (told + 1) := ⟨t1, t2, by omega, by omega, l6, by omega, g7.trans t3, t3.at g8 fun hh => by
      rcases hh with hh | hh
      · have := hpf _ hh; omega
      · omega⟩
    have hb6 := t3.at hb5 (big _ (by omega))
    have hd6 := t3.at hd5 (big _ (by omega))
    refine ⟨_, rfl, ifB_nb (fun hh => ?_) fun hh => ?_⟩
    · have hh := of_decide_eq_false hh
      refine hexit .ret _ U6 (List.mem_singleton.2 rfl) hb6 fun U7 u7 => ?_
      exact fin (G6.upd hp hs hsw u7 fun x hx => by simp only [one] at hx; omega) (u7.at hd6 (by simp only [one]; omega)) (.inr ⟨by omega, by omega⟩)
    · have hh := of_decide_eq_true hh
      exact hnorm (isO σ'') U6 ⟨σ'', told + 1, rfl, G6, hh, t3.at f5 (big _ (by omega)), t3.at hc5 (big _ (by omega)), hd6⟩ hb6
  · rintro i bit U ⟨σ', told, rfl, q1, q2, q3, q4, q5⟩ hno
    refine fin q1 q5 (.inl ?_)
    have h6 := q1.2.2.2.2.2.1
    rw [afS_none fun j a b => hno j a (by omega)]
end
end Go.Wx
end
section
/- Contracts of gone, of looked 17. -/
set_option linter.unusedVariables false
set_option maxRecDepth 100000
namespace Go.Wx
open Go

section
variable {w : World} {pb N : Nat} {own : Nat → Own} {B : Sl → Nat} {R : RB} {σ : St}
theorem c42 (h : PI w pb own N True B R σ) (hlast : σ.last < 800000) {x0 x1 A E C : Int} {s : Option Addr} {l cc : Nat} :
    Ret PR 42 [pt pb, .agg (Array.mk [I x0, I x1, I A, I E, I C, .slice s l cc])] w fun v w' => v = .bool true ∧ Stp w w' pb N own B R σ := by
  refine Ret.of ((S42_eq ..).mpr ?_)
  unfold S42
  have hn := h.n
  have hn1 := h.i.n1
  have hpl : ∀ x, PF pb own B R x → x < w.heap.size := fun x hx => h.lt hx
  have h00 : 0 < w.heap.size := Nat.lt_of_le_of_lt (Nat.zero_le _) (hpl pb (.inl rfl))
  refine atW_new fun w1 n1 => atW_new fun w2 n2 => ?_
  have z1 := n1.sz
  have z2 := n2.sz
  have k2 : Kp w w2 := Upd.trans n1.ext n2.ext
  have a6 := n2.ext.at n1.at0
  refine ⟨_, cell_of a6 0, ?_⟩
  refine (c89 (h.kp k2) (x := -1) (by omega) (by omega)).use fun w3 e3 => ?_
  rw [show ((-1 : Int) + 1).toNat = 0 from rfl]
  refine ⟨_, _, _, _, _, _, rfl, atW_new fun w4 n4 => atW_new fun w5 n5 => stx_at _ (n5.ext.at n4.at0) (by simp) rfl fun w6 q6 => ?_⟩
  have z3 := e3.sz
  have z4 := n4.sz
  have z5 := n5.sz
  have z6 := q6.sz
  refine stx_at _ (q6.at n5.at0 (by omega)) (by simp) rfl fun w7 q7 => atW_new fun w8 n8 => stx_at _ n8.at0 (by simp) rfl fun w9 q9 => atW_new fun w10 n10 => stx_at _ n10.at0 (by simp) rfl fun w11 q11 => ?_
  have z7 := q7.sz
  have z8 := n8.sz
  have z9 := q9.sz
  have z10 := n10.sz
  have z11 := q11.sz
  have k3 : Kp w w3 := Upd.trans k2 e3
  have k11 : Kp w w11 := (((((((k3.new n4).new n5).put q6 (by omega)).put q7 (by omega)).new n8).put q9 (by omega)).new n10).put q11 (by omega)
  have c6 := q11.at (n10.ext.at (q9.at (n8.ext.at (q7.at (q6.at (n5.ext.at (n4.ext.at (e3.at a6))) (by omega)) (by omega))) (by omega))) (by omega)
  have c4 := q11.at (n10.ext.at (q9.at (n8.ext.at (q7.at (q6.at (n5.ext.at (n4.ext.at (e3.at n2.at0))) (by omega)) (by omega))) (by omega))) (by omega)
  have c3 := q11.at (n10.ext.at (q9.at (n8.ext.at (q7.at q6.at0 (by omega))) (by omega))) (by omega)
  have c2 := q11.at (n10.ext.at (q9.at (n8.ext.at q7.at0) (by omega))) (by omega)
  have c5 := q11.at (n10.ext.at q9.at0) (by omega)
  have c1 := q11.at0
  have g11 : Gn w11 pb w9.heap.size w4.heap.size w3.heap.size w1.heap.size w7.heap.size w.heap.size A E C (afS σ 0).2 (afS σ 0).1 0 := ⟨c1, c2, c3, ⟨_, _, _, _, _, c4⟩, c5, c6⟩
  have hp : Gp (PF pb own B R) w9.heap.size w4.heap.size w3.heap.size w1.heap.size w7.heap.size w.heap.size := ⟨hpl, by omega⟩
  have h11 := h.kp k11
  refine ⟨_, cell_of c6 0, ?_⟩
  refine ⟨_, h11.cells.1, ?_⟩
  refine (c88 w11 (B .s)).use ?_
  rintro _ w12 ⟨rfl, n12⟩
  have z12 := n12.sz
  refine ⟨_, rfl, ?_⟩
  dsimp only [Value.nilFunc]
  rw [ok133']
  show Calls PR 133 (Array.mk [.func (.func 90) #[] #[pt w9.heap.size, pt w4.heap.size, pt w3.heap.size, pt w1.heap.size, pt w7.heap.size, pt w.heap.size], pt w11.heap.size]) w12 _
  refine (c133F (h11.kp n12.ext) (g11.upd n12.ext fun _ hh => hh.elim) hp (by omega) n12.at0 (by omega)).use ?_
  rintro _ w13 ⟨rfl, i, σ', told, ⟨r1, r2, r3, r4, r5, r6, r7, r8⟩, hq⟩
  rw [rk133]
  have st : Stp w w13 pb N own B R σ := by
    refine ⟨own, N, σ', r1, ((Kp.upd k11).trans (Kp.upd n12.ext)).tr r7 fun x hx => ?_, fun _ h => .inl h, by omega, ?_⟩
    · rcases hx with hx | hx
      · exact .inl hx
      · right; omega
    · have : (if (told : Int) < E then (0 : Int) else 1) ≤ 1 := by split <;> omega
      omega
  obtain ⟨x4, y4, s4, l4, cc4, q4⟩ := r2.h4
  refine ⟨rfl, _, cell_of r2.h1 0, ifB_yes rfl ⟨_, cell_of r2.h2 0, ifB_nb (fun hh => ⟨rfl, st⟩) fun hh => ?_⟩⟩
  rcases hq with hq | ⟨hq1, hq2⟩
  · rw [hq] at hh; cases hh
  · refine ⟨_, cell_of q4 2, ifB_d (fun _ => ⟨_, cell_of r2.h5 0, _, cell_of q4 2, ?_, st⟩) fun hh => by omega⟩
    rw [hq2, beq_self_eq_true]

theorem c15_17 (h : PI w pb own N True B R σ) (hlast : σ.last < 800000) {who a b c : Int} {s : Option Addr} {l cc : Nat} :
    Ret PR 15 [pt pb, .agg (Array.mk [I who, I 17, I a, I b, I c, .slice s l cc])] w fun r w' => r = .bool true ∧ Stp w w' pb N own B R σ := by
  refine Ret.of ((S15_eq ..).mpr ?_)
  unfold S15
  refine atW_new fun w1 n1 => ⟨_, cell_of n1.at0 1, ?_⟩
  have h1 := h.kp n1.ext
  refine ifB_eq (fun hh => by omega) fun _ => ifB_eq (fun hh => by omega) fun _ => ifB_eq (fun hh => by omega) fun _ => ifB_eq (fun hh => by omega) fun _ => ifB_eq (fun hh => by omega) fun _ => ifB_eq (fun hh => by omega) fun _ => ifB_eq (fun hh => by omega) fun _ => ifB_eq (fun _ => ?_) fun hh => absurd rfl hh
  refine ⟨_, cell_of n1.at0 0, _, cell_of n1.at0 1, _, cell_of n1.at0 2, _, cell_of n1.at0 3, _, cell_of n1.at0 4, _, _, _, cell_of n1.at0 5, ?_⟩
  refine (c42 h1 hlast).use ?_
  rintro _ w2 ⟨rfl, st⟩
  exact ⟨_, rfl, rfl, st.pre n1.ext⟩
end
end Go.Wx
end
section
/- Contracts of the entries, third part. -/
set_option linter.unusedVariables false
set_option maxRecDepth 100000
namespace Go.Wx
open Go

theorem lk_all {lo hi : Int} (hr : ∀ k : Int, lo ≤ k → k ≤ hi → 10 ≤ k ∧ k ≤ 20) : LkOK lo hi := by
  intro w pb N own B R σ who kind a b c s l cc ks h hN hl ho h1 h2 h3
  obtain ⟨r1, r2⟩ := hr kind h1 h2
  by_cases e17 : kind = 17
  · subst e17; exact c15_17 h (by omega)
  exact lk_most (lo := kind) (hi := kind) (fun k _ _ _ => ⟨by omega, by omega, by omega⟩) w pb N own B R σ who kind a b c s l cc ks h hN hl ho (by omega) (by omega) h3

section
variable {w : World} {n m : Int} {s : Option Addr} {l c : Nat} {f : Nat → Nat → Int} {ad : Nat → Option Addr} {ln cc : Nat → Nat} {ks : Nat → Nat → Int}
theorem c6 (hg : GT w) (h : Scr w s l f ad ln cc ks) : RetE PR 6 [I n, I m, .slice s l c] w (.bool true) := by
  refine Ret.of ((S6_eq ..).mpr ?_)
  unfold S6
  exact (c10 (lk_all fun k h1 h2 => by omega) hg h).use fun w1 e1 => ⟨_, rfl, rfl, e1⟩
theorem c9 (hg : GT w) (h : Scr w s l f ad ln cc ks) : RetE PR 9 [I n, I m, .slice s l c] w (.bool true) := by
  refine Ret.of ((S9_eq ..).mpr ?_)
  unfold S9
  exact (c10 (lk_all fun k h1 h2 => by omega) hg h).use fun w1 e1 => ⟨_, rfl, rfl, e1⟩
end
end Go.Wx
end
