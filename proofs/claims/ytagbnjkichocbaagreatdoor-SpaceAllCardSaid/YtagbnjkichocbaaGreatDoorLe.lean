/- Own text, merged out of small ones: Ng Nh Ni Nj Nk Nl Nm Nn No Nq Nr Ns Nt Nu: the framework, the preconditions and the contracts on which the claim rests (no conditions of its own). -/
import Derived.Test.YtagbnjkichocbaaGreatDoorLd
section
/- Contracts of the reference's Alloc, and of the program's cut and take. -/
set_option linter.unusedVariables false
set_option maxRecDepth 100000
namespace Go.Wx
open Go

/-- The word of the block where an object would stand is wrong. -/
def alBad (σ : St) (size : Int) : Prop := ofS size < 8 ∧ (plS σ size).2 = false ∧ σ.W (plS σ size).1.toNat ≠ lkS (nfS σ (ofS size).toNat ((plS σ size).1.toNat + 1))
instance (σ : St) (size : Int) : Decidable (alBad σ size) := by unfold alBad; infer_instance
/-- Alloc: its answer. -/
def alR (σ : St) (kind size : Int) : Int × (Int × Int) :=
  if fitS kind size = false then (0, (24, 0)) else if (plS σ size).1 < 0 then (0, (20, 0)) else if alBad σ size then (0, (21, (plS σ size).1)) else ((plS σ size).1, (0, 0))
/-- Alloc: what the space is then. -/
def alT (σ : St) (kind size tag : Int) : St :=
  if fitS kind size = false then σ else if (plS σ size).1 < 0 then σ else if alBad σ size then σ else takeS σ (plS σ size).1.toNat (plS σ size).2 kind size tag

theorem plc_of {σ : St} {size : Int} {a : Nat} {f : Bool} (s1 : 1 ≤ size) (s2 : size ≤ 1024) (hp : plS σ size = ((a : Int), f)) : PlcOK σ size a f := by
  rcases plS_cases σ s1 s2 with h1 | ⟨a', f', h1, h2⟩
  · rw [hp] at h1; injection h1 with h1; omega
  · rw [hp] at h1; injection h1 with h1 h3; obtain rfl : a = a' := by omega
    rw [h3]; exact h2
theorem Inv.alT {σ : St} (hI : Inv σ) (kind size tag : Int) : Inv (alT σ kind size tag) := by
  unfold Go.Wx.alT
  split
  · exact hI
  · rename_i hf
    have hf : fitS kind size = true := by simpa using hf
    obtain ⟨k1, k2, s1, s2⟩ := fitS_rng hf
    split
    · exact hI
    · split
      · exact hI
      · rcases plS_cases σ s1 s2 with h1 | ⟨a, f, h1, h2⟩
        · exact absurd (show (plS σ size).1 < 0 by rw [h1]; decide) (by assumption)
        · rw [h1]; exact hI.take hf h2
theorem alT_last (σ : St) (kind size tag : Int) (h : 0 ≤ σ.last) : σ.last ≤ (alT σ kind size tag).last ∧ (alT σ kind size tag).last ≤ σ.last + 1 ∧ (alT σ kind size tag).n = σ.n := by
  unfold alT
  split
  · exact ⟨by omega, by omega, rfl⟩
  · split
    · exact ⟨by omega, by omega, rfl⟩
    · split
      · exact ⟨by omega, by omega, rfl⟩
      · refine ⟨?_, ?_, rfl⟩
        · show σ.last ≤ if numS kind then σ.last + 1 else σ.last
          split <;> omega
        · show (if numS kind then σ.last + 1 else σ.last) ≤ σ.last + 1
          split <;> omega

section
variable {w : World} {R : RB} {σ : St}

theorem c22 (hI : Inv σ) (h : Rf w R σ) (kind size tag : Int) (hsz : In64 size) (hlast : σ.last < 1000000000000) : Ret PR 22 [pt R.s, I kind, I size, I tag] w fun v w' => v = .tuple (Array.mk [I (alR σ kind size).1, V2 (alR σ kind size).2]) ∧ Rf w' R (alT σ kind size tag) ∧ Upd R.F w w' := by
  refine Ret.of ((S22_eq _ _ _ _ w _).mpr ?_)
  unfold S22
  have hn2 := h.n2
  have hcw := h.hcw
  refine atW_new fun w1 n1 => ?_
  have h1 := h.kp n1.ext
  refine (c60 w1 kind size hsz).use fun w2 e2 => ⟨_, rfl, ?_⟩
  have k2 := n1.ext.trans e2
  have h2 := h.kp k2
  have hb2 := e2.at n1.at0
  refine ifB_nb (fun hf => ret2 (R := fun a b w' => _) hb2 fun w3 p3 => ⟨?_, ?_, (Kp.upd k2).put p3 (Nat.le_refl _)⟩) fun hf => ?_
  · rw [alR, if_pos hf]
  · rw [alT, if_pos hf]; exact h.kp (k2.put p3 (Nat.le_refl _))
  obtain ⟨q1, q2, s1, s2⟩ := fitS_rng hf
  refine (c61 h2 size).use fun w3 e3 => ⟨_, _, rfl, ?_⟩
  have k3 := k2.trans e3
  have h3 := h.kp k3
  have hb3 := e3.at hb2
  refine ifB_d (fun hneg => ret2 (R := fun a b w' => _) hb3 fun w4 p4 => ⟨?_, ?_, (Kp.upd k3).put p4 (Nat.le_refl _)⟩) fun hneg => ?_
  · rw [alR, if_neg (by rw [hf]; simp), if_pos hneg]
  · rw [alT, if_neg (by rw [hf]; simp), if_pos hneg]; exact h.kp (k3.put p4 (Nat.le_refl _))
  refine (c62 w3 size).use fun w4 e4 => ⟨_, rfl, ?_⟩
  have k4 := k3.trans e4
  have h4 := h.kp k4
  have hb4 := e4.at hb3
  obtain ⟨a, f, hp, hplc⟩ : ∃ (a : Nat) (f : Bool), plS σ size = ((a : Int), f) ∧ PlcOK σ size a f := by
    rcases plS_cases σ s1 s2 with h1 | h1
    · rw [h1] at hneg; simp at hneg
    · exact h1
  obtain ⟨ha, hroom⟩ := hplc.lt s1 s2
  have hsr := size_room s1 s2
  have hgood : ¬ alBad σ size → alR σ kind size = ((a : Int), (0, 0)) ∧ alT σ kind size tag = takeS σ a f kind size tag := fun hb => by
    rw [alR, alT, if_neg (by rw [hf]; simp), if_neg hneg, if_neg hb, if_neg (by rw [hf]; simp), if_neg hneg, if_neg hb, hp]
    exact ⟨rfl, by rw [Int.toNat_natCast]⟩
  have hbad : alBad σ size → alR σ kind size = (0, (21, (a : Int))) ∧ alT σ kind size tag = σ := fun hb => by
    rw [alR, alT, if_neg (by rw [hf]; simp), if_neg hneg, if_pos hb, if_neg (by rw [hf]; simp), if_neg hneg, if_pos hb, hp]
    exact ⟨rfl, rfl⟩
  have hor := ofS_in s1 s2
  rw [hp]
  dsimp only
  refine ⟨fun _ w' => Kp w w' ∧ w'.heap[w.heap.size]? = some (Bl [I 0, I 0] 56) ∧ ¬ alBad σ size, ?_, ?_⟩
  · rintro s w5 ⟨k5, hb5, hnb⟩
    obtain ⟨g1, g2⟩ := hgood hnb
    refine (c65 hI (h.kp k5) hf hp hlast).use ?_
    rintro _ w6 ⟨rfl, h6, u6⟩
    have hbl : ¬ R.F w.heap.size := fun hh => by have := h.lt hh; omega
    refine ⟨rfl, ret2 (R := fun a b w' => _) (u6.at hb5 hbl) fun w7 p7 => ⟨?_, ?_, ((Kp.upd k5).trans u6).put p7 (Nat.le_refl _)⟩⟩
    · rw [g1]
    · rw [g2]
      exact h6.putNew (w0 := w) p7 fun c hc => h.lt hc
  · generalize hwd : World.drew w4 = wd
    have d4 : Kp w4 wd := hwd ▸ ext_drew w4
    have k5 := k4.trans d4
    have h5 := h.kp k5
    refine ifB_d (fun hlt => ifB_nb (fun hff => ?_) fun hff => ⟨fun _ _ h => h, fun _ _ h => h, k5, d4.at hb4, ?_⟩) fun hlt => ⟨fun _ _ h => h, fun _ _ h => h, k5, d4.at hb4, fun hh => hlt hh.1⟩
    · obtain ⟨c, hc⟩ : ∃ c : Nat, ofS size = c := ⟨(ofS size).toNat, by omega⟩
      have hc8 : c < 8 := by omega
      refine ⟨_, _, _, cell_of h5.hs 0, ⟨by omega, by omega⟩, _, ints_cell (i := a) h5.hw (by omega), ?_⟩
      rw [hc, wrap_id (by omega) (by omega)]
      refine (c64 h5 hc8 ((a : Int) + 1) (by omega) (by omega)).use fun w6 e6 => ⟨_, rfl, e6.draw, ?_⟩
      rw [show ((a : Int) + 1).toNat = a + 1 by omega]
      have hr : -1 ≤ nfS σ c (a + 1) ∧ nfS σ c (a + 1) < 262144 := by
        rcases nxt_cases (frB σ c) (64 * σ.n) (a + 1) with ⟨h1, _⟩ | ⟨j, h1, _, h2, _⟩ <;> rw [nfS, h1] <;> omega
      refine (c63 w6 _ hr.1 hr.2).use fun w7 e7 => ⟨_, rfl, e7.draw, ?_⟩
      have k7 := (k5.trans e6).trans e7
      have hb7 := e7.at (e6.at (d4.at hb4))
      have hiff : σ.W a ≠ lkS (nfS σ c (a + 1)) ↔ alBad σ size := by
        unfold alBad
        rw [hp, hc, Int.toNat_natCast, Int.toNat_natCast]
        exact ⟨fun hh => ⟨by omega, hff, hh⟩, fun hh => hh.2.2⟩
      refine ifB_ne (fun hne => ret2 (R := fun a b w' => _) hb7 fun w8 p8 => ⟨?_, ?_, (Kp.upd k7).put p8 (Nat.le_refl _)⟩) fun heq => ⟨k7, hb7, fun hh => (hiff.2 hh) heq⟩
      · rw [(hbad (hiff.1 hne)).1]
      · rw [(hbad (hiff.1 hne)).2]; exact h.kp (k7.put p8 (Nat.le_refl _))
    · intro hh
      have := hh.2.1
      rw [hp] at this
      rw [hff] at this; cases this
end

/-! The program's -/
theorem SpR.congr {w : World} {B : Sl → Nat} {ρ ρ' : Raw} (h : SpR w B ρ) (hn : ρ'.n = ρ.n) (hW : ∀ i, i < 64 * ρ.n → ρ.W i = ρ'.W i) (hP : ∀ i, i < ρ.n → ρ.P i = ρ'.P i) (hk : ∀ i, i < 64 * ρ.n → ρ.tk i = ρ'.tk i) (hf : ∀ c i, c < 8 → i < 64 * ρ.n → ρ.fr c i = ρ'.fr c i)
    (hsh : ρ'.sh = ρ.sh) (hpl : ρ'.pl = ρ.pl) (hl : ρ'.last = ρ.last) (hr : ρ'.room = ρ.room) : SpR w B ρ' := by
  obtain ⟨n', W', P', tk', fr', sh', pl', last', room'⟩ := ρ'
  simp only at hn hW hP hk hf hsh hpl hl hr
  subst hn hsh hpl hl hr
  obtain ⟨low, free, ht⟩ := h.ht
  exact ⟨h.hs, by have := h.hw; rw [ints_congr hW] at this; exact this,
    ⟨low, free, ht.h0, by have := ht.h1; rw [pgs_congr hP] at this; exact this, ht.hlow, fun i hi => by show (P' i).kind ≠ 0; have := ht.hlow; rw [← hP i (by omega)]; exact ht.low_no i hi, ht.hc, ht.hn, fun i hi => by show (P' i).kind = 0 → P' i = Pg.z; rw [← hP i hi]; exact ht.hz i hi⟩,
    h.hk.congr hk, fun c hc => (h.hf c hc).congr fun i hi => hf c i hc hi, h.hsh, h.hpl, h.n1, h.inj⟩

theorem SpR.lt {w : World} {B : Sl → Nat} {ρ : Raw} (h : SpR w B ρ) {x : Sl} (hx : x.ok) : B x < w.heap.size := by
  obtain ⟨low, free, ht⟩ := h.ht
  obtain ⟨es, ck, g1, g2⟩ := h.hsh
  obtain ⟨es', ck', g3, g4⟩ := h.hpl
  cases x with
  | s => exact lt_of_look h.hs
  | w => exact lt_of_look h.hw
  | t => exact lt_of_look ht.h0
  | p => exact lt_of_look ht.h1
  | k => exact lt_of_look h.hk.h0
  | kr => exact lt_of_look h.hk.h1
  | sh => exact lt_of_look g1
  | pl => exact lt_of_look g3
  | f c => exact lt_of_look (h.hf c hx).h0
  | fr c => exact lt_of_look (h.hf c hx).h1
theorem SpR.putNew {w w' : World} {B : Sl → Nat} {ρ : Raw} (h : SpR w B ρ) {b : Nat} {o : Obj} (p : Put w b o w') (hb : ∀ x : Sl, x.ok → B x < b) : SpR w' B ρ :=
  h.upd p.upd (fun x hx he => by have := hb x hx; simp only [one] at he; omega) (fun he => by have := hb .s trivial; simp only [one] at he; omega)

/-- The free blocks of a page that is cut. -/
def frc (c k m : Nat) : Nat → Bool := fun i => decide (64 * k ≤ i ∧ i < 64 * k + 64 ∧ (i % 64) % wdN c = 0 ∧ (i % 64) / wdN c < m)
theorem frc_at {c k m i : Nat} (hc : c < 8) (hi : i < m) (hm : m ≤ bkN c) : frc c k m (64 * k + i * wdN c) = true := by
  obtain ⟨v1, v2, v3, v4, v5, v6, v7⟩ := wdN_pos hc
  have hle : (i + 1) * wdN c ≤ 64 := Nat.le_trans (Nat.mul_le_mul_right _ (by omega)) v5
  rw [Nat.add_mul, Nat.one_mul] at hle
  refine decide_eq_true ⟨by omega, by omega, ?_, ?_⟩
  · rw [show (64 * k + i * wdN c) % 64 = wdN c * i by rw [Nat.mul_comm (wdN c)]; omega, Nat.mul_mod_right]
  · rw [show (64 * k + i * wdN c) % 64 = wdN c * i by rw [Nat.mul_comm (wdN c)]; omega, Nat.mul_div_cancel_left _ (by omega)]; exact hi
theorem frc_form {c k m j : Nat} (hc : c < 8) (h : frc c k m j = true) : ∃ q, q < m ∧ j = 64 * k + q * wdN c := by
  obtain ⟨h1, h2, h3, h4⟩ := of_decide_eq_true h
  refine ⟨_, h4, ?_⟩
  have := Nat.div_add_mod (j % 64) (wdN c)
  rw [h3, Nat.mul_comm] at this
  omega
theorem frc_nxt {c k n i : Nat} (hc : c < 8) (hk : k < n) (hi : i < bkN c) : nxt (frc c k (bkN c)) (64 * n) (64 * k + i * wdN c + 1) = if i + 1 < bkN c then ((64 * k + (i + 1) * wdN c : Nat) : Int) else -1 := by
  obtain ⟨v1, v2, v3, v4, v5, v6, v7⟩ := wdN_pos hc
  have hbt : ∀ j, 64 * k + i * wdN c + 1 ≤ j → j < 64 * k + (i + 1) * wdN c → frc c k (bkN c) j = false := by
    intro j h1 h2
    cases hf : frc c k (bkN c) j with
    | false => rfl
    | true =>
      obtain ⟨q, hq, rfl⟩ := frc_form hc hf
      have : i < q := by
        rcases Nat.lt_or_ge i q with h | h
        · exact h
        · have := Nat.mul_le_mul_right (wdN c) h; omega
      have := Nat.mul_le_mul_right (wdN c) (show i + 1 ≤ q by omega)
      omega
  by_cases h : i + 1 < bkN c
  · rw [if_pos h]
    have hle : (i + 2) * wdN c ≤ 64 := Nat.le_trans (Nat.mul_le_mul_right _ (by omega)) v5
    rw [show i + 2 = (i + 1) + 1 by omega, Nat.add_mul (i + 1) 1, Nat.one_mul] at hle
    have hm : i * wdN c + wdN c = (i + 1) * wdN c := by rw [Nat.add_mul, Nat.one_mul]
    exact nxt_some (by omega) (by omega) (frc_at hc h (Nat.le_refl _)) hbt
  · rw [if_neg h]
    refine nxt_none fun j h1 h2 => ?_
    cases hf : frc c k (bkN c) j with
    | false => rfl
    | true =>
      obtain ⟨q, hq, rfl⟩ := frc_form hc hf
      have := Nat.mul_le_mul_right (wdN c) (show q ≤ i by omega)
      omega

section
variable {w : World} {B : Sl → Nat} {ρ : Raw}

def cutWd (W : Nat → Int) (c k : Nat) : Nat → Int := fun i => if 64 * k ≤ i ∧ i < 64 * k + 64 then lkW c (64 * k) i else W i

theorem c103 (h : SpR w B ρ) {c k : Nat} (hc : c < 8) (hk : k < ρ.n) (hno : ∀ i, i < 64 * ρ.n → ρ.fr c i = false) : Ret PR 103 [pt (B .s), I k, I c] w fun v w' => v = .tuple (Array.mk []) ∧ SpR w' B { ρ with W := cutWd ρ.W c k, fr := up ρ.fr c (frc c k (bkN c)) } ∧ Upd (spF B) w w' := by
  refine Ret.of ((S103_eq _ _ _ w _).mpr ?_)
  unfold S103
  have hn2 := h.n2
  obtain ⟨v1, v2, v3, v4, v5, v6, v7⟩ := wdN_pos hc
  have e0 : IntKind.i64.wrap ((k : Int) * 64) = ((64 * k : Nat) : Int) := by rw [wrap_id (by omega) (by omega)]; simp; omega
  have e1 : IntKind.i64.wrap (((64 * k : Nat) : Int) + 64) = ((64 * k + 64 : Nat) : Int) := by rw [wrap_id (by omega) (by omega)]; simp
  rw [e0, e1]
  refine ⟨_, _, _, cell_of h.hs 0, ⟨by omega, by omega⟩, ⟨by omega, by omega⟩, ?_⟩
  rw [if_neg (by omega)]
  simp only [Option.map_some, add_mk, Int.toNat_natCast, Nat.zero_add, Nat.mul_one, show 64 * k + 64 - 64 * k = 64 by omega]
  refine ⟨canWr_of h.hw (by simp; omega), atW_wrx h.hw fun w1 p1 => ?_⟩
  rw [ints_clear (by omega)] at p1
  have h1 := h.putW p1
  have u1 : Upd (spF B) w w1 := p1.upd.mono (one_F (x := .w) trivial)
  refine (c83 w1 c).use fun w2 e2 => ⟨_, rfl, ?_⟩
  rw [bkS_nat hc]
  have h2 := h1.kp e2
  refine loop_rule (fun i : Nat => ((i : Int), ())) (fun i w' => i ≤ bkN c ∧ SpR w' B { ρ with W := (fun j => if 64 * k ≤ j ∧ j < 64 * k + 64 then 0 else ρ.W j), fr := up ρ.fr c (frc c k i) } ∧ Upd (spF B) w w') (fun i => 64 - i) 0 rfl ⟨by omega, ?_, u1.trans (Kp.upd e2)⟩ ?_
  · refine h2.congr rfl (fun _ _ => rfl) (fun _ _ => rfl) (fun _ _ => rfl) (fun d i hd hi => ?_) rfl rfl rfl rfl
    by_cases hdc : d = c
    · subst hdc
      show ρ.fr d i = up ρ.fr d (frc d k 0) d i
      rw [up_same, hno i hi]
      exact (decide_eq_false fun hh => Nat.not_lt_zero _ hh.2.2.2).symm
    · show ρ.fr d i = up ρ.fr c (frc c k 0) d i
      rw [up_other _ _ hdc]
  rintro i w3 K ⟨hi, h3, u3⟩ hK
  refine ifB_d (fun hlt => ?_) fun hlt => ?_
  · have hlt : i < bkN c := by simp only at hlt; omega
    have hle : (i + 1) * wdN c ≤ 64 := Nat.le_trans (Nat.mul_le_mul_right _ (by omega)) v5
    rw [Nat.add_mul, Nat.one_mul] at hle
    refine ⟨⟨by omega, by omega⟩, ?_⟩
    generalize hwd : World.drew w3 = wd
    have d3 : Kp w3 wd := hwd ▸ ext_drew w3
    have h4 := h3.kp d3
    refine ⟨_, by have := cell_f (c := c) h4 hc; simpa using this, ?_⟩
    refine (c138 wd c i (by omega)).use fun w5 e5 => ⟨_, rfl, e5.draw, ?_⟩
    rw [stS_nat hc hlt, wrap_id (x := ((64 * k : Nat) : Int) + ((i * wdN c : Nat) : Int)) (by omega) (by omega), show ((64 * k : Nat) : Int) + ((i * wdN c : Nat) : Int) = ((64 * k + i * wdN c : Nat) : Int) by simp]
    have h5 := h4.kp e5
    have hb := h5.hf c hc
    have hnn : i * wdN c + wdN c ≤ 64 := hle
    refine (c58 hb (i := 64 * k + i * wdN c) (by show 64 * k + i * wdN c < 64 * ρ.n; omega)).use ?_
    rintro _ w6 ⟨rfl, hb6, u6⟩
    refine ⟨_, rfl, ?_⟩
    have h6 := h5.putF hc hb6 u6
    rw [wrap_id (by dsimp only; omega) (by dsimp only; omega)]
    refine hK (i + 1) w6 ⟨hlt, ?_, ((u3.trans (Kp.upd (d3.trans e5))).trans (u6.mono (one_F (x := .fr c) hc)))⟩ (by omega)
    refine h6.congr rfl (fun _ _ => rfl) (fun _ _ => rfl) (fun _ _ => rfl) (fun d j hd hj => ?_) rfl rfl rfl rfl
    by_cases hdc : d = c
    · subst hdc
      show up (up ρ.fr d (frc d k i)) d (up (up ρ.fr d (frc d k i) d) (64 * k + i * wdN d) true) d j = up ρ.fr d (frc d k (i + 1)) d j
      rw [up_same, up_same, up_same]
      by_cases hji : j = 64 * k + i * wdN d
      · subst hji; rw [up_same, frc_at hd (by omega) (by omega)]
      · rw [up_other _ _ hji]
        cases hf1 : frc d k i j with
        | true =>
          obtain ⟨q, hq, rfl⟩ := frc_form hd hf1
          rw [frc_at hd (by omega) (by omega)]
        | false =>
          cases hf2 : frc d k (i + 1) j with
          | false => rfl
          | true =>
            obtain ⟨q, hq, rfl⟩ := frc_form hd hf2
            by_cases hqi : q = i
            · subst hqi; exact absurd rfl hji
            · rw [frc_at hd (by omega) (by omega)] at hf1; cases hf1
    · show up (up ρ.fr c (frc c k i)) c _ d j = up ρ.fr c (frc c k (i + 1)) d j
      rw [up_other _ _ hdc, up_other _ _ hdc, up_other _ _ hdc]
  · have : i = bkN c := by simp only at hlt; omega
    subst this
    refine (c83 w3 c).use fun w4 e4 => ⟨_, rfl, ?_⟩
    rw [bkS_nat hc]
    refine loop_rule (fun i : Nat => ((i : Int), ())) (fun i w' => i ≤ bkN c ∧ SpR w' B { ρ with W := (fun j => if 64 * k ≤ j ∧ j < 64 * k + 64 then (if (j - 64 * k) % wdN c = 0 ∧ (j - 64 * k) / wdN c < i then lkS (if (j - 64 * k) / wdN c + 1 < bkN c then ((j + wdN c : Nat) : Int) else -1) else 0) else ρ.W j), fr := up ρ.fr c (frc c k (bkN c)) } ∧ Upd (spF B) w w') (fun i => 64 - i) 0 rfl ⟨by omega, ?_, u3.trans (Kp.upd e4)⟩ ?_
    · refine (h3.kp e4).congr rfl (fun j hj => ?_) (fun _ _ => rfl) (fun _ _ => rfl) (fun d i hd hi => rfl) rfl rfl rfl rfl
      dsimp only
      by_cases hj2 : 64 * k ≤ j ∧ j < 64 * k + 64
      · rw [if_pos hj2, if_pos hj2, if_neg (fun hh => Nat.not_lt_zero _ hh.2)]
      · rw [if_neg hj2, if_neg hj2]
    rintro i w5 K ⟨hi, h5, u5⟩ hK
    refine ifB_d (fun hlt => ?_) fun hlt => ?_
    · have hlt : i < bkN c := by simp only at hlt; omega
      have hle : (i + 1) * wdN c ≤ 64 := Nat.le_trans (Nat.mul_le_mul_right _ (by omega)) v5
      rw [Nat.add_mul, Nat.one_mul] at hle
      refine (c138 w5 c i (by omega)).use fun w6 e6 => ⟨_, rfl, ?_⟩
      generalize hwd : World.drew w6 = wd
      have d6 : Kp w6 wd := hwd ▸ ext_drew w6
      have h7 := (h5.kp e6).kp d6
      rw [stS_nat hc hlt, wrap_id (x := ((64 * k : Nat) : Int) + ((i * wdN c : Nat) : Int)) (by omega) (by omega), show ((64 * k : Nat) : Int) + ((i * wdN c : Nat) : Int) = ((64 * k + i * wdN c : Nat) : Int) by simp]
      refine ⟨_, _, _, cell_of h7.hs 0, ?_⟩
      refine (c92 h7 (c := c) (a := 64 * k + i * wdN c) hc (by show 64 * k + i * wdN c < 64 * ρ.n; omega)).use fun w8 e8 => ⟨_, rfl, e8.draw, ⟨by omega, by show ((64 * k + i * wdN c : Nat) : Int) < ((64 * ρ.n : Nat) : Int); omega⟩, ?_⟩
      have h8 := h7.kp e8
      rw [add_mk, Int.toNat_natCast, Nat.zero_add]
      refine stx_at _ h8.hw (by simp; omega) rfl fun w9 p9 => ?_
      rw [Nat.add_zero (64 * k + i * wdN c), ints_set] at p9
      have h9 := h8.putW p9
      rw [wrap_id (by dsimp only; omega) (by dsimp only; omega)]
      refine hK (i + 1) w9 ⟨hlt, ?_, (((u5.trans (Kp.upd e6)).trans (Kp.upd (d6.trans e8))).trans (p9.upd.mono (one_F (x := .w) trivial)))⟩ (by omega)
      refine h9.congr rfl (fun j hj => ?_) (fun _ _ => rfl) (fun _ _ => rfl) (fun d i hd hi => rfl) rfl rfl rfl rfl
      show up _ (64 * k + i * wdN c) (lkS (nxt (up ρ.fr c (frc c k (bkN c)) c) (64 * ρ.n) (64 * k + i * wdN c + 1))) j = _
      rw [up_same, frc_nxt hc hk hlt]
      unfold up
      dsimp only
      by_cases hji : j = 64 * k + i * wdN c
      · rw [if_pos hji]
        subst hji
        rw [show 64 * k + i * wdN c - 64 * k = wdN c * i by rw [Nat.mul_comm (wdN c)]; omega, if_pos (show 64 * k ≤ 64 * k + i * wdN c ∧ 64 * k + i * wdN c < 64 * k + 64 from ⟨by omega, by omega⟩), Nat.mul_mod_right, Nat.mul_div_cancel_left _ (by omega), if_pos (show (0 : Nat) = 0 ∧ i < i + 1 from ⟨rfl, by omega⟩)]
        rw [Nat.add_mul, Nat.one_mul, Nat.add_assoc]
      · rw [if_neg hji]
        by_cases hj2 : 64 * k ≤ j ∧ j < 64 * k + 64
        · rw [if_pos hj2, if_pos hj2]
          by_cases hq : (j - 64 * k) % wdN c = 0 ∧ (j - 64 * k) / wdN c < i
          · rw [if_pos hq, if_pos (show (j - 64 * k) % wdN c = 0 ∧ (j - 64 * k) / wdN c < i + 1 from ⟨hq.1, by omega⟩)]
          · rw [if_neg hq, if_neg]
            rintro ⟨g1, g2⟩
            apply hq
            refine ⟨g1, ?_⟩
            have hdm := Nat.div_add_mod (j - 64 * k) (wdN c)
            rw [g1] at hdm
            rcases Nat.lt_or_ge ((j - 64 * k) / wdN c) i with h | h
            · exact h
            · exfalso
              have : (j - 64 * k) / wdN c = i := by omega
              rw [this, Nat.mul_comm] at hdm
              omega
        · rw [if_neg hj2, if_neg hj2]
    · have : i = bkN c := by simp only at hlt; omega
      subst this
      exact ⟨trivial, h5, u5⟩
end
end Go.Wx
end
section
/- Contracts of the program's take and Alloc. -/
set_option linter.unusedVariables false
set_option maxRecDepth 100000
namespace Go.Wx
open Go

def tkR (σ : St) (size : Int) : Int × (Int × Int) := if (plS σ size).1 < 0 then (0, (20, 0)) else if alBad σ size then (0, (21, (plS σ size).1)) else ((plS σ size).1, (0, 0))
/-- What the program keeps behind take. -/
def tkRaw (σ : St) (size : Int) (a : Nat) (f : Bool) : Raw :=
  { rawOf σ with P := takP σ.P a f size, W := if f then cutWd σ.W (ofS size).toNat (a / 64) else σ.W, fr := if ofS size < 8 then up (frB σ) (ofS size).toNat (up (if f then frc (ofS size).toNat (a / 64) (bkN (ofS size).toNat) else frB σ (ofS size).toNat) a false) else frB σ }

section
variable {w : World} {B : Sl → Nat} {σ : St}

theorem c54 (hI : Inv σ) (h : Sp w B σ) {size : Int} (s1 : 1 ≤ size) (s2 : size ≤ 1024) : Ret PR 54 [pt (B .s), I size] w fun v w' =>
    v = .tuple (Array.mk [I (tkR σ size).1, V2 (tkR σ size).2]) ∧ Upd (spF B) w w' ∧
    (((plS σ size).1 < 0 ∨ alBad σ size) ∧ Sp w' B σ ∨ ¬ (plS σ size).1 < 0 ∧ ¬ alBad σ size ∧ SpR w' B (tkRaw σ size (plS σ size).1.toNat (plS σ size).2)) := by
  refine Ret.of ((S54_eq _ _ w _).mpr ?_)
  unfold S54
  have hn2 := hI.n2
  have hor := ofS_in s1 s2
  have Ft : ∀ b, two (B .t) (B .p) b → spF B b := fun b hb => hb.elim (fun e => ⟨.t, trivial, e⟩) (fun e => ⟨.p, trivial, e⟩)
  have hlt0 : ∀ x : Sl, x.ok → B x < w.heap.size := fun x hx => SpR.lt h hx
  have hbx : ¬ spF B w.heap.size := fun ⟨x, hx, e⟩ => by have := hlt0 x hx; omega
  refine atW_new fun w1 n1 => ?_
  have h1 := Sp.kp h n1.ext
  refine (c78 w1 size).use fun w2 e2 => ⟨_, rfl, ?_⟩
  have k2 := n1.ext.trans e2
  have h2 := Sp.kp h k2
  have hb2 := e2.at n1.at0
  refine ifB_eq (fun h8 => ?_) fun h8 => ?_
  · -- a run
    have hnb : ¬ alBad σ size := fun hh => by have := hh.1; omega
    generalize hwd : World.drew w2 = wd
    have d2 : Kp w2 wd := hwd ▸ ext_drew w2
    have h3 := Sp.kp h2 d2
    refine ⟨_, cell_of h3.hs 1, ?_⟩
    refine (c80 wd size).use fun w4 e4 => ⟨_, rfl, e4.draw, ?_⟩
    have k4 := (k2.trans d2).trans e4
    have h4 := Sp.kp h k4
    have hp8 := pgS_8 h8
    have hpr := pgS_rng size
    rw [show pgS size = (((pgS size).toNat : Nat) : Int) by omega]
    obtain ⟨low, free, ht⟩ := h4.ht
    have ht : Tb w4 (B .t) (B .p) σ.n σ.n σ.P low free := ht
    refine (c79 ht (m := (pgS size).toNat) (by omega) (by omega)).use ?_
    rintro v w5 ⟨hv, u5⟩
    have u5' : Upd (spF B) w w5 := (Kp.upd k4).trans (u5.mono Ft)
    have hb5 : w5.heap[w.heap.size]? = some (Bl [I 0, I 0] 39) := u5.at (e4.at (d2.at hb2)) fun hh => hbx (Ft _ hh)
    rcases hv with ⟨hn, rfl, ht5⟩ | ⟨k, hn, hle, rfl, ht5⟩
    · have hpl : plS σ size = (-1, false) := by rw [plS, if_neg (by omega), if_pos h8, hn, if_pos (by omega)]
      refine ⟨_, _, rfl, ret2 (R := fun a b w' => _) hb5 fun w6 p6 => ⟨?_, u5'.put p6 (Nat.le_refl _), .inl ⟨.inl (by rw [hpl]; decide), ?_⟩⟩⟩
      · rw [tkR, hpl, if_pos (by decide)]; rfl
      · exact (SpR.putP h4 ht5 u5).putNew p6 hlt0
    · have hpl : plS σ size = (((64 * k : Nat) : Int), false) := by rw [plS, if_neg (by omega), if_pos h8, hn, if_neg (by omega)]; simp; omega
      refine ⟨_, _, rfl, ret2 (R := fun a b w' => _) hb5 fun w6 p6 => ⟨?_, u5'.put p6 (Nat.le_refl _), .inr ⟨by rw [hpl]; omega, hnb, ?_⟩⟩⟩
      · rw [tkR, hpl, if_neg (by omega), if_neg hnb, wrap_id (by omega) (by omega)]
        rw [show (k : Int) * 64 = ((64 * k : Nat) : Int) by simp; omega]
      · have := (SpR.putP h4 ht5 u5).putNew p6 hlt0
        rw [hpl, Int.toNat_natCast]
        refine this.congr rfl (fun _ _ => rfl) (fun i hi => ?_) (fun _ _ => rfl) (fun c i hc hi => ?_) rfl rfl rfl rfl
        · show runP σ.P k (pgS size).toNat i = takP σ.P (64 * k) false size i
          rw [takP, if_pos h8, show 64 * k / 64 = k by omega]
        · show frB σ c i = (if ofS size < 8 then _ else frB σ) c i
          rw [if_neg (by omega)]
  · -- a block of a class
    obtain ⟨c, hc⟩ : ∃ c : Nat, ofS size = c := ⟨(ofS size).toNat, by omega⟩
    have hc8 : c < 8 := by omega
    obtain ⟨v1, v2, v3, v4, v5, v6, v7⟩ := wdN_pos hc8
    rw [hc]
    refine ⟨⟨by omega, by omega⟩, _, cell_f (c := c) h2 hc8, ?_⟩
    refine (c99 (SpR.hf h2 c hc8) 0).use fun w3 e3 => ⟨_, rfl, ?_⟩
    have k3 := k2.trans e3
    have h3 := Sp.kp h k3
    have hb3 := e3.at hb2
    show JoinX _ (fun K => ifB (decide (nfS σ c 0 < 0)) _ _) _
    -- behind the choice
    refine ⟨fun s w' => ∃ (a : Nat) (f : Bool), s = ((0 : Int), (a : Int), ()) ∧ plS σ size = ((a : Int), f) ∧ (f = true → σ.n ≤ 4096) ∧ Upd (spF B) w w' ∧ w'.heap[w.heap.size]? = some (Bl [I 0, I 0] 39) ∧
      SpR w' B { rawOf σ with P := takP σ.P a f size, W := if f then cutWd σ.W c (a / 64) else σ.W, fr := up (frB σ) c (if f then frc c (a / 64) (bkN c) else frB σ c) }, ?_, ?_⟩
    · rintro s w4 ⟨a, f, rfl, hp, _, u4, hb4, h4⟩
      have hplc := plc_of s1 s2 hp
      obtain ⟨ha, hroom⟩ := hplc.lt s1 s2
      dsimp only
      generalize hwd : World.drew w4 = wd
      have d4 : Kp w4 wd := hwd ▸ ext_drew w4
      have h5 := h4.kp d4
      refine ⟨_, _, _, cell_of h5.hs 0, ⟨by omega, by show (a : Int) < ((64 * σ.n : Nat) : Int); omega⟩, _, ints_cell (i := a) h5.hw (by show a < 64 * σ.n; omega), ?_⟩
      refine (c92 h5 (c := c) (a := a) hc8 (by show a < 64 * σ.n; omega)).use fun w6 e6 => ⟨_, rfl, e6.draw, ?_⟩
      have h6 := h5.kp e6
      have u6 : Upd (spF B) w w6 := u4.trans (Kp.upd (d4.trans e6))
      have hb6 := e6.at (d4.at hb4)
      show ifB ((if f then cutWd σ.W c (a / 64) else σ.W) a != lkS (nxt (up (frB σ) c (if f then frc c (a / 64) (bkN c) else frB σ c) c) (64 * σ.n) (a + 1))) _ _
      rw [up_same]
      have hneg : ¬ (plS σ size).1 < 0 := by rw [hp]; omega
      refine ifB_ne (fun hne => ?_) fun heq => ?_
      · have hf : f = false := by
          cases f with
          | false => rfl
          | true =>
            exfalso
            apply hne
            rcases hplc with ⟨c', hc', h3', hf', _, _⟩ | ⟨c', hc', h3', hf', _, k, hk, hak, h6'⟩ | ⟨h8', hf', _⟩
            · cases hf'
            · subst hak
              rw [if_pos rfl, if_pos rfl, show 64 * k / 64 = k by omega, cutWd, if_pos (by omega), lkW, Nat.sub_self, Nat.zero_mod, Nat.zero_div, if_pos ⟨rfl, by omega⟩]
              have := frc_nxt (i := 0) hc8 hk (by omega)
              rw [Nat.zero_mul, Nat.add_zero] at this
              rw [this]
              simp
            · cases hf'
        subst hf
        have hb : alBad σ size := by
          unfold alBad
          rw [hp, hc]
          refine ⟨by omega, rfl, ?_⟩
          rw [Int.toNat_natCast, Int.toNat_natCast]
          exact hne
        refine ret2 (R := fun a b w' => _) hb6 fun w7 p7 => ⟨?_, u6.put p7 (Nat.le_refl _), .inl ⟨.inr hb, ?_⟩⟩
        · rw [tkR, if_neg hneg, if_pos hb, hp]
        · refine (h6.putNew p7 hlt0).congr rfl (fun _ _ => rfl) (fun i hi => ?_) (fun _ _ => rfl) (fun d i hd hi => ?_) rfl rfl rfl rfl
          · show takP σ.P a false size i = σ.P i
            rw [takP, if_neg h8, if_neg (by simp)]
          · show up (frB σ) c (if false = true then frc c (a / 64) (bkN c) else frB σ c) d i = frB σ d i
            rw [if_neg (by simp)]
            by_cases hdc : d = c
            · subst hdc; rw [up_same]
            · rw [up_other _ _ hdc]
      · have hb : ¬ alBad σ size := by
          unfold alBad
          rw [hp, hc]
          rintro ⟨_, hf, hne⟩
          have hf : f = false := hf
          subst hf
          rw [Int.toNat_natCast, Int.toNat_natCast] at hne
          exact hne heq
        refine ⟨⟨by omega, by omega⟩, _, cell_f (c := c) h6 hc8, ?_⟩
        refine (c104 (h6.hf c hc8) (i := a) (by show a < 64 * σ.n; omega)).use ?_
        rintro _ w7 ⟨rfl, hb7, u7⟩
        have h7 := h6.putF hc8 hb7 u7
        have hx : w.heap.size ≠ B (.fr c) := by have := hlt0 (.fr c) hc8; omega
        refine ⟨_, rfl, ret2 (R := fun a b w' => _) (u7.at hb6 hx) fun w8 p8 => ⟨?_, (u6.trans (u7.mono (one_F (x := .fr c) hc8))).put p8 (Nat.le_refl _), .inr ⟨hneg, hb, ?_⟩⟩⟩
        · rw [tkR, if_neg hneg, if_neg hb, hp]
        · rw [hp, Int.toNat_natCast]
          refine (h7.putNew p8 hlt0).congr rfl (fun i hi => ?_) (fun i hi => rfl) (fun _ _ => rfl) (fun d i hd hi => ?_) rfl rfl rfl rfl
          · show (if f then cutWd σ.W c (a / 64) else σ.W) i = (if f then cutWd σ.W (ofS size).toNat (a / 64) else σ.W) i
            rw [hc, Int.toNat_natCast]
          · show up (up (frB σ) c (if f then frc c (a / 64) (bkN c) else frB σ c)) c (up (up (frB σ) c (if f then frc c (a / 64) (bkN c) else frB σ c) c) a false) d i = (if ofS size < 8 then up (frB σ) (ofS size).toNat (up (if f then frc (ofS size).toNat (a / 64) (bkN (ofS size).toNat) else frB σ (ofS size).toNat) a false) else frB σ) d i
            rw [if_pos (show ofS size < 8 by omega), hc, Int.toNat_natCast, up_same]
            by_cases hdc : d = c
            · subst hdc; rw [up_same, up_same]
            · rw [up_other _ _ hdc, up_other _ _ hdc, up_other _ _ hdc]
    · refine ifB_d (fun hneg => ?_) fun hge => ?_
      · refine ⟨_, cell_of h3.hs 1, ?_⟩
        obtain ⟨low, free, ht⟩ := h3.ht
        have ht : Tb w3 (B .t) (B .p) σ.n σ.n σ.P low free := ht
        refine (c82 ht hc8).use ?_
        rintro v w4 ⟨hv, u4⟩
        have u4' : Upd (spF B) w w4 := (Kp.upd k3).trans (u4.mono Ft)
        have hb4 : w4.heap[w.heap.size]? = some (Bl [I 0, I 0] 39) := u4.at hb3 fun hh => hbx (Ft _ hh)
        have hpl0 : plS σ size = if nxt (fp σ.P) σ.n 0 < 0 then (-1, false) else (nxt (fp σ.P) σ.n 0 * 64, true) := by
          rw [plS, if_neg (by omega), if_neg h8, hc, Int.toNat_natCast, if_neg (by omega)]
        rcases hv with ⟨hn, rfl, ht4⟩ | ⟨k, hn, hkn, rfl, ht4⟩
        · rw [hn, if_pos (by omega)] at hpl0
          refine ⟨_, _, rfl, ifB_ne (fun _ => ret2 (R := fun a b w' => _) hb4 fun w5 p5 => ⟨?_, u4'.put p5 (Nat.le_refl _), .inl ⟨.inl (by rw [hpl0]; decide), ?_⟩⟩) fun hh => by omega⟩
          · rw [tkR, hpl0, if_pos (by decide)]
          · exact (SpR.putP h3 ht4 u4).putNew p5 hlt0
        · rw [hn, if_neg (by omega)] at hpl0
          refine ⟨_, _, rfl, ifB_ne (fun hh => by omega) fun _ => ?_⟩
          have h4 := SpR.putP h3 ht4 u4
          have hnone : ∀ i, i < 64 * σ.n → frB σ c i = false := by
            rcases nxt_cases (frB σ c) (64 * σ.n) 0 with ⟨_, h5⟩ | ⟨j, h5, _⟩
            · exact fun i hi => h5 i (by omega) hi
            · rw [nfS, h5] at hneg; omega
          refine (c103 h4 hc8 (k := k) hkn hnone).use ?_
          rintro _ w5 ⟨rfl, h5, u5⟩
          refine ⟨rfl, 64 * k, true, ?_, ?_, fun _ => hn2, u4'.trans u5, u5.at hb4 hbx, ?_⟩
          · rw [wrap_id (by omega) (by omega)]
            rw [show (k : Int) * 64 = ((64 * k : Nat) : Int) by simp; omega]
          · rw [hpl0]; simp; omega
          · refine h5.congr rfl (fun i hi => ?_) (fun i hi => ?_) (fun _ _ => rfl) (fun d i hd hi => ?_) rfl rfl rfl rfl
            · show cutWd σ.W c k i = (if true = true then cutWd σ.W c (64 * k / 64) else σ.W) i
              rw [if_pos rfl, show 64 * k / 64 = k by omega]
            · show up σ.P k ⟨1, c, 0⟩ i = takP σ.P (64 * k) true size i
              rw [takP, if_neg h8, if_pos rfl, show 64 * k / 64 = k by omega, hc]
            · show up (frB σ) c (frc c k (bkN c)) d i = up (frB σ) c (if true = true then frc c (64 * k / 64) (bkN c) else frB σ c) d i
              rw [if_pos rfl, show 64 * k / 64 = k by omega]
      · rcases nxt_cases (frB σ c) (64 * σ.n) 0 with ⟨h5, _⟩ | ⟨a, h5, _, ha, _⟩
        · rw [nfS, h5] at hge; omega
        · have h5 : nfS σ c 0 = a := h5
          have hpl : plS σ size = ((a : Int), false) := by rw [plS, if_neg (by omega), if_neg h8, hc, Int.toNat_natCast, h5, if_pos (by omega)]
          refine ⟨a, false, ?_, hpl, fun hh => (by cases hh), Kp.upd k3, hb3, ?_⟩
          · show ((0 : Int), nfS σ c 0, ()) = _
            rw [h5]
          · refine SpR.congr h3 rfl (fun i hi => rfl) (fun i hi => ?_) (fun _ _ => rfl) (fun d i hd hi => ?_) rfl rfl rfl rfl
            · show σ.P i = takP σ.P a false size i
              rw [takP, if_neg h8, if_neg (by simp)]
            · show frB σ d i = up (frB σ) c (if false = true then frc c (a / 64) (bkN c) else frB σ c) d i
              rw [if_neg (by simp)]
              by_cases hdc : d = c
              · subst hdc; rw [up_same]
              · rw [up_other _ _ hdc]
end
end Go.Wx
end
section
/- The contract of the program's Alloc. -/
set_option linter.unusedVariables false
set_option maxRecDepth 100000
namespace Go.Wx
open Go

section
variable {w : World} {B : Sl → Nat} {σ : St}

theorem takW_eq (hI : Inv σ) {size kind : Int} (s1 : 1 ≤ size) (s2 : size ≤ 1024) {a : Nat} {f : Bool} (hplc : PlcOK σ size a f) {m : Nat} (hm : roomS size = m) (j : Nat) :
    up (fun i => if a ≤ i ∧ i < a + m then 0 else (if f then cutWd σ.W (ofS size).toNat (a / 64) else σ.W) i) a (hdS a kind size) j = takW σ.W a f kind size j := by
  unfold up takW
  dsimp only
  by_cases hj : j = a
  · rw [if_pos hj, if_pos hj]
  · rw [if_neg hj, if_neg hj]
    by_cases hj2 : a ≤ j ∧ j < a + m
    · rw [if_pos hj2, if_pos (by omega)]
    · rw [if_neg hj2, if_neg (show ¬ (a < j ∧ (j : Int) < a + roomS size) by omega)]
      cases f with
      | false => simp
      | true =>
        rcases hplc with ⟨c, hc, h3, hf', _, _⟩ | ⟨c, hc, h3, hf', _, k, hk, hak, h6'⟩ | ⟨h8, hf', _⟩
        · cases hf'
        · rw [if_pos rfl, cutWd]
          have e : 64 * (a / 64) = a := by omega
          rw [e]
          by_cases hj3 : a ≤ j ∧ j < a + 64
          · rw [if_pos hj3, if_pos ⟨rfl, hj3⟩]
          · rw [if_neg hj3, if_neg (fun hh => hj3 hh.2)]
        · cases hf'

theorem c18 (hI : Inv σ) (h : Sp w B σ) (kind size tag : Int) (hsz : In64 size) (hlast : σ.last < 1000000000000) : Ret PR 18 [pt (B .s), I kind, I size, I tag] w fun v w' => v = .tuple (Array.mk [I (alR σ kind size).1, V2 (alR σ kind size).2]) ∧ Sp w' B (alT σ kind size tag) ∧ Upd (spF B) w w' := by
  refine Ret.of ((S18_eq _ _ _ _ w _).mpr ?_)
  unfold S18
  have hn2 := hI.n2
  have hl0 := hI.last0
  have hlt0 : ∀ x : Sl, x.ok → B x < w.heap.size := fun x hx => SpR.lt h hx
  have hbx : ∀ b, w.heap.size ≤ b → ¬ spF B b := fun b hb ⟨x, hx, e⟩ => by have := hlt0 x hx; omega
  refine atW_new fun w1 n1 => ?_
  have h1 := Sp.kp h n1.ext
  refine (c53 w1 kind size hsz).use fun w2 e2 => ⟨_, rfl, ?_⟩
  have k2 := n1.ext.trans e2
  have h2 := Sp.kp h k2
  have hb2 := e2.at n1.at0
  refine ifB_nb (fun hf => ret2 (R := fun a b w' => _) hb2 fun w3 p3 => ⟨?_, ?_, (Kp.upd k2).put p3 (Nat.le_refl _)⟩) fun hf => ?_
  · rw [alR, if_pos hf]
  · rw [alT, if_pos hf]; exact Sp.kp h (k2.put p3 (Nat.le_refl _))
  obtain ⟨q1, q2, s1, s2⟩ := fitS_rng hf
  have hnf : ¬ fitS kind size = false := by rw [hf]; simp
  refine (c54 hI h2 s1 s2).use ?_
  rintro _ w3 ⟨rfl, u3', hcase⟩
  have u3 : Upd (spF B) w w3 := (Kp.upd k2).trans u3'
  have hb3 := u3'.at hb2 (hbx _ (Nat.le_refl _))
  refine ⟨_, _, _, rfl, atW_new fun w4 n4 => stx_at _ n4.at0 (by simp) rfl fun w5 p5 => ⟨_, cell_of p5.at0 0, ?_⟩⟩
  have hsz3 : w.heap.size < w3.heap.size := lt_of_look hb3
  have u5 : Upd (spF B) w w5 := (u3.new n4).put p5 (by omega)
  have hb5 := p5.at (n4.ext.at hb3) (by omega)
  generalize hwd : World.drew w5 = wd
  have d5 : Kp w5 wd := hwd ▸ ext_drew w5
  have hlt3 : ∀ x : Sl, x.ok → B x < w3.heap.size := fun x hx => by have := hlt0 x hx; omega
  refine ifB_ne (fun hne => ?_) fun heq => ?_
  · -- a fault
    have hbad : (plS σ size).1 < 0 ∨ alBad σ size := by
      rcases hcase with ⟨hc, _⟩ | ⟨hc1, hc2, _⟩
      · exact hc
      · rw [tkR, if_neg hc1, if_neg hc2] at hne; exact absurd rfl hne
    have hsp : Sp w3 B σ := by
      rcases hcase with ⟨_, hs⟩ | ⟨hc1, hc2, _⟩
      · exact hs
      · exact absurd hbad (by simp [hc1, hc2])
    have h5 : Sp w5 B σ := (Sp.kp hsp n4.ext).putNew p5 hlt3
    refine ⟨_, cell_of (d5.at p5.at0) 0, _, cell_of (d5.at p5.at0) 1, ret2 (R := fun a b w' => _) (d5.at hb5) fun w6 p6 => ⟨?_, ?_, (u5.trans (Kp.upd d5)).put p6 (Nat.le_refl _)⟩⟩
    · rw [alR, if_neg hnf, tkR]
      by_cases hneg : (plS σ size).1 < 0
      · rw [if_pos hneg]
      · have hb : alBad σ size := by rcases hbad with hh | hh; exact absurd hh hneg; exact hh
        rw [if_neg hneg, if_pos hb]
    · have h6 : Sp w6 B σ := (Sp.kp h5 d5).putNew p6 hlt0
      rw [alT, if_neg hnf]
      by_cases hneg : (plS σ size).1 < 0
      · rw [if_pos hneg]; exact h6
      · have hb : alBad σ size := by rcases hbad with hh | hh; exact absurd hh hneg; exact hh
        rw [if_neg hneg, if_pos hb]; exact h6
  -- taken
  obtain ⟨hneg, hnb, hr⟩ : ¬ (plS σ size).1 < 0 ∧ ¬ alBad σ size ∧ SpR w3 B (tkRaw σ size (plS σ size).1.toNat (plS σ size).2) := by
    rcases hcase with ⟨hc, _⟩ | hc
    · exfalso
      unfold tkR at heq
      by_cases hneg : (plS σ size).1 < 0
      · rw [if_pos hneg] at heq; simp at heq
      · rw [if_neg hneg] at heq
        rcases hc with hh | hh
        · exact hneg hh
        · rw [if_pos hh] at heq; simp at heq
    · exact hc
  obtain ⟨a, f, hp, hplc⟩ : ∃ (a : Nat) (f : Bool), plS σ size = ((a : Int), f) ∧ PlcOK σ size a f := by
    rcases plS_cases σ s1 s2 with h1 | h1
    · rw [h1] at hneg; simp at hneg
    · exact h1
  obtain ⟨ha, hroom⟩ := hplc.lt s1 s2
  have hsr := size_room s1 s2
  have htk : tkR σ size = ((a : Int), (0, 0)) := by rw [tkR, if_neg hneg, if_neg hnb, hp]
  have hal : alR σ kind size = ((a : Int), (0, 0)) := by rw [alR, if_neg hnf, if_neg hneg, if_neg hnb, hp]
  have halT : alT σ kind size tag = takeS σ a f kind size tag := by rw [alT, if_neg hnf, if_neg hneg, if_neg hnb, hp, Int.toNat_natCast]
  rw [hp, Int.toNat_natCast] at hr
  rw [htk, hal, halT]
  dsimp only
  have h5 : SpR w5 B (tkRaw σ size a f) := (hr.kp n4.ext).putNew p5 hlt3
  have h6 := h5.kp d5
  have hb6 := d5.at hb5
  have u6 : Upd (spF B) w wd := u5.trans (Kp.upd d5)
  refine ⟨_, _, _, cell_of h6.hs 0, ?_⟩
  refine (c55 wd size).use fun w7 e7 => ⟨_, rfl, e7.draw, ?_⟩
  have h7 := h6.kp e7
  obtain ⟨m, hm⟩ : ∃ m : Nat, roomS size = m := ⟨(roomS size).toNat, by omega⟩
  rw [hm, wrap_id (x := (a : Int) + (m : Int)) (by omega) (by omega), show (a : Int) + (m : Int) = ((a + m : Nat) : Int) by simp]
  refine ⟨⟨by omega, by show ((a + m : Nat) : Int) ≤ ((64 * σ.n : Nat) : Int); omega⟩, ⟨by omega, by omega⟩, ?_⟩
  rw [if_neg (show ¬ 64 * (tkRaw σ size a f).n = (a : Int).toNat by show ¬ 64 * σ.n = _; omega)]
  have haddr : Option.map (fun x : Addr => x.add ((a : Int).toNat * 1)) (some (⟨B .w, 0, none⟩ : Addr)) = some ⟨B .w, a, none⟩ := by
    rw [Option.map_some, add_mk, Int.toNat_natCast, Nat.zero_add, Nat.mul_one]
  rw [haddr]
  dsimp only
  have hw7 : w7.heap[B .w]? = some (Bl (ints (64 * σ.n) (if f then cutWd σ.W (ofS size).toNat (a / 64) else σ.W)) 3) := h7.hw
  refine ⟨canWr_of hw7 (by simp only [ints_length]; omega), ?_⟩
  rw [show (((a + m : Nat) : Int).toNat - (a : Int).toNat) = m by omega]
  refine atW_wrx hw7 fun w8 p8 => ?_
  rw [ints_clear (by omega)] at p8
  have h8 := h7.putW p8
  have u8 : Upd (spF B) w w8 := (u6.trans (Kp.upd e7)).trans (p8.upd.mono (one_F (x := .w) trivial))
  have hwx : ∀ x : Sl, x.ok → w.heap.size ≠ B x := fun x hx e => by have := hlt0 x hx; omega
  have hb8 := p8.at (e7.at hb6) (hwx .w trivial)
  generalize hwd2 : World.drew w8 = wd2
  have d8 : Kp w8 wd2 := hwd2 ▸ ext_drew w8
  have h9 := h8.kp d8
  refine ⟨_, _, _, cell_of h9.hs 0, ?_⟩
  refine (c56 wd2 a kind size).use fun w10 e10 => ⟨_, rfl, e10.draw, ⟨by omega, by show (a : Int) < ((64 * σ.n : Nat) : Int); omega⟩, ?_⟩
  have h10 := h9.kp e10
  rw [add_mk, show ∀ x : Nat, 0 + x * 1 = x from fun x => by omega]
  refine stx_at _ h10.hw (by simp; show a < 64 * σ.n; omega) rfl fun w11 p11 => ?_
  rw [Nat.add_zero, ints_set] at p11
  have h11 := h10.putW p11
  have u11 : Upd (spF B) w w11 := (u8.trans (Kp.upd (d8.trans e10))).trans (p11.upd.mono (one_F (x := .w) trivial))
  have hb11 := p11.at (e10.at (d8.at hb8)) (hwx .w trivial)
  have hsz11 : w.heap.size < w11.heap.size := lt_of_look hb11
  refine atW_new fun w12 n12 => stx_at _ n12.at0 (by simp) rfl fun w13 p13 => ?_
  have h13 := (h11.kp n12.ext).putNew p13 fun x hx => by have := hlt0 x hx; omega
  have u13 : Upd (spF B) w w13 := (u11.new n12).put p13 (by omega)
  have hb13 := p13.at (n12.ext.at hb11) (by omega)
  -- the numbers of the object
  refine ⟨fun _ w' => Upd (spF B) w w' ∧ w'.heap[w.heap.size]? = some (Bl [I 0, I 0] 39) ∧ w'.heap[w11.heap.size]? = some (Bl [I kind, I size, I (if numS kind then σ.last + 1 else 0), I tag] 97) ∧
    SpR w' B { rawOf σ with W := takW σ.W a f kind size, P := takP σ.P a f size, fr := (tkRaw σ size a f).fr, last := (if numS kind then σ.last + 1 else σ.last), pl := (if numS kind then (fun j => if j = σ.last + 1 then some (I a) else plL σ j) else plL σ) }, ?_, ?_⟩
  rotate_left
  · refine (c57 w13 kind).use fun w14 e14 => ⟨_, rfl, ifB_b (fun hn => ?_) fun hn => ⟨u13.trans (Kp.upd e14), e14.at hb13, ?_, ?_⟩⟩
    · have h14 := h13.kp e14
      have hlx : ∀ x : Sl, x.ok → B x < w11.heap.size := fun x hx => by have := hlt0 x hx; omega
      refine ⟨_, cell_of h14.hs 13, ?_⟩
      rw [add_mk, wrap_id (by show -9223372036854775808 ≤ σ.last + 1; omega) (by show σ.last + 1 < _; omega)]
      refine stx_at _ h14.hs (by simp [sCells]) rfl fun w15 p15 => ?_
      have h15 := h14.putS (x := σ.last + 1) (y := rmS σ) p15
      refine ⟨_, cell_of p15.at0 13, ?_⟩
      rw [add_mk]
      refine stx_at _ (p15.at (e14.at p13.at0) (by have := hlx .s trivial; omega)) (by simp [setL]) rfl fun w16 p16 => ?_
      have h16 := h15.putNew p16 hlx
      generalize hwd3 : World.drew w16 = wd3
      have d16 : Kp w16 wd3 := hwd3 ▸ ext_drew w16
      have h17 := h16.kp d16
      refine ⟨_, cell_of h17.hs 12, _, cell_of (d16.at p16.at0) 2, ?_⟩
      obtain ⟨es, ck, g1, g2⟩ := h17.hpl
      obtain ⟨res, g3, g4⟩ := g2.find (σ.last + 1)
      obtain ⟨es', ck', g5, g6⟩ := g2.put g3 ck (I a)
      refine ⟨es, ck, res, ⟨g1, g3⟩, ?_⟩
      show atW (World.putB wd3 (B .pl) (mput es ck res (I (σ.last + 1)) (I (a : Int)))) _
      rw [g5]
      refine atW_put (lt_of_look g1) fun w18 p18 => ?_
      have h18 := h17.putL p18 g6
      have u18 : Upd (spF B) w w18 := (((((u13.trans (Kp.upd e14)).trans (p15.upd.mono (one_F (x := .s) trivial))).put p16 (by omega)).trans (Kp.upd d16)).trans (p18.upd.mono (one_F (x := .pl) trivial)))
      refine ⟨u18, p18.at (d16.at (p16.at (p15.at (e14.at hb13) (hwx .s trivial)) (by omega))) (hwx .pl trivial), ?_, ?_⟩
      · have := p18.at (d16.at p16.at0) (by have := hlx .pl trivial; omega)
        rw [this, hn]; rfl
      · refine h18.congr rfl (fun j hj => ?_) (fun _ _ => rfl) (fun _ _ => rfl) (fun _ _ _ _ => rfl) rfl ?_ ?_ rfl
        · exact takW_eq hI s1 s2 hplc hm j
        · show (if numS kind then (fun j => if j = σ.last + 1 then some (I a) else plL σ j) else plL σ) = _
          rw [if_pos hn]; rfl
        · show (if numS kind then σ.last + 1 else σ.last) = _
          rw [if_pos hn]
    · rw [e14.at p13.at0, hn]; rfl
    · refine (h13.kp e14).congr rfl (fun j hj => ?_) (fun _ _ => rfl) (fun _ _ => rfl) (fun _ _ _ _ => rfl) rfl ?_ ?_ rfl
      · exact takW_eq hI s1 s2 hplc hm j
      · show (if numS kind then (fun j => if j = σ.last + 1 then some (I a) else plL σ j) else plL σ) = _
        rw [hn]; rfl
      · show (if numS kind then σ.last + 1 else σ.last) = _
        rw [hn]; rfl
  rintro _ w14 ⟨u14, hb14, hx14, h14⟩
  generalize hwd4 : World.drew w14 = wd4
  have d14 : Kp w14 wd4 := hwd4 ▸ ext_drew w14
  have h15 := h14.kp d14
  have hx15 := d14.at hx14
  refine ⟨_, cell_of h15.hs 11, _, cell_of hx15 0, _, cell_of hx15 1, _, cell_of hx15 2, _, cell_of hx15 3, ?_⟩
  obtain ⟨es, ck, g1, g2⟩ := h15.hsh
  obtain ⟨res, g3, g4⟩ := g2.find a
  obtain ⟨es', ck', g5, g6⟩ := g2.put g3 ck (shV (takB σ a kind size tag))
  refine ⟨es, ck, res, ⟨g1, g3⟩, ?_⟩
  show atW (World.putB wd4 (B .sh) (mput es ck res (I (a : Int)) (shV (takB σ a kind size tag)))) _
  rw [g5]
  refine atW_put (lt_of_look g1) fun w16 p16 => ?_
  have h16 := h15.putH p16 g6
  have u16 : Upd (spF B) w w16 := (u14.trans (Kp.upd d14)).trans (p16.upd.mono (one_F (x := .sh) trivial))
  have hb16 := p16.at (d14.at hb14) (hwx .sh trivial)
  refine ⟨_, cell_of h16.hs 2, ?_⟩
  refine (c58 h16.hk (i := a) (by show a < 64 * σ.n; omega)).use ?_
  rintro _ w17 ⟨rfl, hbm, u17'⟩
  refine ⟨_, rfl, ?_⟩
  have h17 := h16.putK hbm u17'
  have u17 : Upd (spF B) w w17 := u16.trans (u17'.mono (one_F (x := .kr) trivial))
  have hb17 := u17'.at hb16 (hwx .kr trivial)
  generalize hwd5 : World.drew w17 = wd5
  have d17 : Kp w17 wd5 := hwd5 ▸ ext_drew w17
  have h18 := h17.kp d17
  refine ⟨_, cell_of h18.hs 14, ?_⟩
  refine (c55 wd5 size).use fun w19 e19 => ⟨_, rfl, e19.draw, ?_⟩
  have h19 := h18.kp e19
  have hrm := takeS_rm (tag := tag) hI hf hplc
  have hrng : -9223372036854775808 ≤ rmS σ + roomS size ∧ rmS σ + roomS size < 9223372036854775808 := by
    have bnd : ∀ n : Nat, n ≤ 64 * σ.n → 0 ≤ sumI (roomAt σ.O) n ∧ sumI (roomAt σ.O) n ≤ 1024 * n := by
      intro n
      induction n with
      | zero => intro _; exact ⟨Int.le_refl _, Int.le_refl _⟩
      | succ n ih =>
        intro hn
        have := ih (by omega)
        rw [sumI]
        have hr : 0 ≤ roomAt σ.O n ∧ roomAt σ.O n ≤ 1024 := by
          unfold roomAt
          split
          · rename_i hk
            obtain ⟨r1, r2, _⟩ := hI.room (i := n) (by omega) hk
            have := size_room r1 r2
            omega
          · omega
        omega
    have := bnd (64 * σ.n) (Nat.le_refl _)
    unfold rmS; omega
  rw [add_mk, wrap_id (by show -9223372036854775808 ≤ rmS σ + roomS size; omega) (by show rmS σ + roomS size < _; omega)]
  refine stx_at _ h19.hs (by simp [sCells]) rfl fun w20 p20 => ?_
  have h20 := h19.putS (x := (if numS kind then σ.last + 1 else σ.last)) (y := rmS σ + roomS size) p20
  have hb20 := p20.at (e19.at (d17.at hb17)) (hwx .s trivial)
  have u20 : Upd (spF B) w w20 := (u17.trans (Kp.upd (d17.trans e19))).trans (p20.upd.mono (one_F (x := .s) trivial))
  refine ret2 (R := fun a b w' => _) hb20 fun w21 p21 => ⟨rfl, ?_, u20.put p21 (Nat.le_refl _)⟩
  refine (h20.putNew p21 hlt0).congr rfl (fun j hj => rfl) (fun _ _ => rfl) (fun j hj => ?_) (fun d j hd hj => ?_) ?_ ?_ rfl ?_
  · show up (isO σ) a true j = decide ((up σ.O a (takB σ a kind size tag) j).kind ≠ 0)
    by_cases hja : j = a
    · subst hja; rw [up_same, up_same]; exact (decide_eq_true (shB_pos hf)).symm
    · rw [up_other _ _ hja, up_other _ _ hja]
  · show (tkRaw σ size a f).fr d j = frB (takeS σ a f kind size tag) d j
    have hor := ofS_in s1 s2
    rw [takeS_fr hI hf hplc hd (show j < 64 * σ.n from hj)]
    show (if ofS size < 8 then up (frB σ) (ofS size).toNat (up (if f then frc (ofS size).toNat (a / 64) (bkN (ofS size).toNat) else frB σ (ofS size).toNat) a false) else frB σ) d j = _
    by_cases h8 : ofS size < 8
    · rw [if_pos h8]
      by_cases hdc : ofS size = d
      · rw [if_pos hdc, hdc, Int.toNat_natCast, up_same]
        cases f with
        | false => rfl
        | true =>
          rw [if_pos rfl, if_pos rfl]
          have hak : 64 * (a / 64) = a := by
            rcases hplc with ⟨c, hc, h3, hf', _, _⟩ | ⟨c, hc, h3, hf', _, k, hk, hak, h6'⟩ | ⟨h8, hf', _⟩
            · cases hf'
            · omega
            · cases hf'
          unfold up frc
          by_cases hja : j = a
          · rw [if_pos hja]; exact (decide_eq_false (fun hh => hh.2.2.1 hja)).symm
          · rw [if_neg hja, hak, decide_eq_decide]
            exact ⟨fun hh => ⟨hh.1, hh.2.1, hja, hh.2.2⟩, fun hh => ⟨hh.1, hh.2.1, hh.2.2.2⟩⟩
      · rw [if_neg hdc, up_other _ _ (by omega)]
    · rw [if_neg h8, if_neg (by omega)]
  · funext j; exact (takeS_sh (tag := tag) (f := f) hf ha j)
  · funext j
    show plL (takeS σ a f kind size tag) j = (if numS kind then (fun j => if j = σ.last + 1 then some (I a) else plL σ j) else plL σ) j
    rw [takeS_pl (tag := tag) hI hf hplc j]
    cases hn : numS kind with
    | true =>
      rw [if_pos rfl]
      by_cases hj : j = σ.last + 1
      · rw [if_pos ⟨rfl, hj⟩, if_pos hj]
      · rw [if_neg (fun hh => hj hh.2), if_neg hj]
    | false => rw [if_neg (fun hh => by cases hh.1), if_neg (by simp)]
  · exact hrm
end
end Go.Wx
end
section
/- Keeping objects, in plain terms: what the space is then; what always holds goes on to hold. -/
set_option linter.unusedVariables false
set_option maxRecDepth 100000
namespace Go.Wx
open Go
open Classical

/-- The pages, those given back that begin at these. -/
noncomputable def gvP (P : Nat → Pg) (gv : Nat → Prop) : Nat → Pg := fun q => if ∃ h, gv h ∧ h ≤ q ∧ q < h + pgM (P h) then Pg.z else P q
noncomputable def dropO (O : Nat → Bk) (stay : Nat → Bool) : Nat → Bk := fun i => if (O i).kind ≠ 0 ∧ stay i = false then Bk.z else O i
/-- The pages that are given back, when these objects are left. -/
def goneG (σ : St) (O' : Nat → Bk) (p : Nat) : Prop := p < σ.n ∧ ((σ.P p).kind = 1 ∧ (∀ i, i / 64 = p → (O' i).kind = 0) ∨ (σ.P p).kind = 2 ∧ (O' (64 * p)).kind = 0)
noncomputable def leftS (σ : St) (stay : Nat → Bool) : St := { σ with O := dropO σ.O stay, P := gvP σ.P (goneG σ (dropO σ.O stay)) }
/-- Does a word lie in an object's room? -/
def ins (σ : St) (i : Nat) : Prop := ∃ j, j < 64 * σ.n ∧ (σ.O j).kind ≠ 0 ∧ j ≤ i ∧ (i : Int) < j + roomS (σ.O j).size
noncomputable def clW (σ : St) (i : Nat) : Int := if ins σ i then σ.W i else 0
abbrev clsN (σ : St) (i : Nat) : Nat := (σ.P (i / 64)).cls.toNat
noncomputable def lnW (σ : St) (c a : Nat) (i : Nat) : Int := if (clsN σ i < c ∨ clsN σ i = c ∧ i < a) ∧ clsN σ i < 8 ∧ frB σ (clsN σ i) i = true then lkS (nfS σ (clsN σ i) (i + 1)) else clW σ i
noncomputable def tdS (σ : St) : St := { σ with W := lnW σ 8 0 }
/-- How many objects go. -/
def goes (σ : St) (stay : Nat → Bool) (m : Nat) : Nat := cnt (fun i => decide ((σ.O i).kind ≠ 0) && !stay i) 0 m

theorem pgM_1 {p : Pg} (h : p.kind = 1) : pgM p = 1 := by rw [pgM, if_neg (by omega)]
theorem gvP_congr {P : Nat → Pg} {g1 g2 : Nat → Prop} (h : ∀ p, g1 p ↔ g2 p) : gvP P g1 = gvP P g2 := by
  funext q
  have : (∃ h, g1 h ∧ h ≤ q ∧ q < h + pgM (P h)) ↔ (∃ h, g2 h ∧ h ≤ q ∧ q < h + pgM (P h)) := by
    constructor
    · rintro ⟨x, h1, h2⟩; exact ⟨x, (h x).1 h1, h2⟩
    · rintro ⟨x, h1, h2⟩; exact ⟨x, (h x).2 h1, h2⟩
  unfold gvP
  by_cases hx : ∃ h, g1 h ∧ h ≤ q ∧ q < h + pgM (P h)
  · rw [if_pos hx, if_pos (this.1 hx)]
  · rw [if_neg hx, if_neg (fun hh => hx (this.2 hh))]

section
variable {σ : St}
/-- The pages of a head, and of a class's page, are of no other. -/
theorem Inv.range (hI : Inv σ) {h q : Nat} (hh : h < σ.n) (hk : (σ.P h).kind = 1 ∨ (σ.P h).kind = 2) (h1 : h ≤ q) (h2 : q < h + pgM (σ.P h)) : q = h ∨ (σ.P q = ⟨3, 0, 0⟩ ∧ q < σ.n ∧ (σ.P h).kind = 2) := by
  rcases hk with hk | hk
  · rw [pgM_1 hk] at h2; left; omega
  · obtain ⟨r, r1, r2, r3, r4, r5⟩ := (hI.pg h hh).head hk
    by_cases hq : q = h
    · exact .inl hq
    · right
      rw [r3] at h2
      simp [pgM] at h2
      have := r5 (q - h) (by omega) (by omega)
      rw [show h + (q - h) = q by omega] at this
      exact ⟨this, by omega, hk⟩
def gvOK (σ : St) (gv : Nat → Prop) : Prop := ∀ h, gv h → h < σ.n ∧ ((σ.P h).kind = 1 ∨ (σ.P h).kind = 2)
theorem goneG_ok (O' : Nat → Bk) : gvOK σ (goneG σ O') := fun h ⟨h1, h2⟩ => ⟨h1, by rcases h2 with ⟨h2, _⟩ | ⟨h2, _⟩; exact .inl h2; exact .inr h2⟩
/-- A page that is its own, and was not given back, is as it was. -/
theorem gvP_own (hI : Inv σ) {gv : Nat → Prop} (hg : gvOK σ gv) {p : Nat} (hk : (σ.P p).kind = 1 ∨ (σ.P p).kind = 2) (hn : ¬ gv p) : gvP σ.P gv p = σ.P p := by
  unfold gvP
  rw [if_neg]
  rintro ⟨h, h1, h2, h3⟩
  obtain ⟨g1, g2⟩ := hg h h1
  rcases hI.range g1 g2 h2 h3 with rfl | ⟨h4, _⟩
  · exact hn h1
  · rw [h4] at hk; simp at hk
theorem gvP_give {gv : Nat → Prop} {p : Nat} (hp : gvP σ.P gv p = σ.P p) : giveP (gvP σ.P gv) p = gvP σ.P (fun q => gv q ∨ q = p) := by
  funext q
  unfold giveP
  rw [hp]
  by_cases hq : p ≤ q ∧ q < p + pgM (σ.P p)
  · rw [if_pos hq, gvP, if_pos ⟨p, .inr rfl, hq⟩]
  · rw [if_neg hq]
    unfold gvP
    by_cases hx : ∃ h, gv h ∧ h ≤ q ∧ q < h + pgM (σ.P h)
    · obtain ⟨h, h1, h2⟩ := hx
      rw [if_pos ⟨h, h1, h2⟩, if_pos ⟨h, .inl h1, h2⟩]
    · rw [if_neg hx, if_neg]
      rintro ⟨h, h1 | rfl, h2⟩
      · exact hx ⟨h, h1, h2⟩
      · exact hq h2
theorem gvP_kind (hI : Inv σ) {gv : Nat → Prop} {p : Nat} (hp : p < σ.n) : gvP σ.P gv p = σ.P p ∨ gvP σ.P gv p = Pg.z := by
  unfold gvP; split
  · exact .inr rfl
  · exact .inl rfl

theorem dropO_kind {O : Nat → Bk} {stay : Nat → Bool} {i : Nat} (h : (dropO O stay i).kind ≠ 0) : dropO O stay i = O i ∧ (O i).kind ≠ 0 ∧ stay i = true := by
  unfold dropO at h ⊢
  split at h
  · simp [Bk.z] at h
  · rename_i hx
    rw [if_neg hx]
    refine ⟨rfl, h, ?_⟩
    cases hs : stay i with
    | true => rfl
    | false => exact absurd ⟨h, hs⟩ hx

theorem Inv.left (hI : Inv σ) (stay : Nat → Bool) : Inv (leftS σ stay) := by
  have hgo := goneG_ok (σ := σ) (dropO σ.O stay)
  have hP : ∀ p, (leftS σ stay).P p = gvP σ.P (goneG σ (dropO σ.O stay)) p := fun _ => rfl
  have hO : ∀ i, (leftS σ stay).O i = dropO σ.O stay i := fun _ => rfl
  -- an object that is left: its page is as it was
  have page : ∀ i, i < 64 * σ.n → (dropO σ.O stay i).kind ≠ 0 → gvP σ.P (goneG σ (dropO σ.O stay)) (i / 64) = σ.P (i / 64) := by
    intro i hi hk
    obtain ⟨h1, h2, h3⟩ := dropO_kind hk
    rcases hI.page hi h2 with hp | ⟨hp, hm⟩
    · refine gvP_own hI hgo (.inl hp) ?_
      rintro ⟨_, ⟨_, g⟩ | ⟨g, _⟩⟩
      · exact hk (g i rfl)
      · omega
    · refine gvP_own hI hgo (.inr hp) ?_
      rintro ⟨_, ⟨g, _⟩ | ⟨_, g⟩⟩
      · omega
      · rw [show 64 * (i / 64) = i by omega] at g; exact hk g
  -- the pages of a head that is left are as they were
  have rests : ∀ h r : Nat, h < σ.n → σ.P h = ⟨2, 0, r⟩ → ¬ goneG σ (dropO σ.O stay) h → ∀ q, h ≤ q → q < h + r → gvP σ.P (goneG σ (dropO σ.O stay)) q = σ.P q := by
    intro h r hh hP' hn q h1 h2
    unfold gvP
    rw [if_neg]
    rintro ⟨h', g1, g2, g3⟩
    obtain ⟨g4, g5⟩ := hgo h' g1
    have e1 := hI.range (h := h) (q := q) hh (.inr (by rw [hP'])) h1 (by rw [hP', pgM, if_pos rfl]; simpa using h2)
    have e2 := hI.range g4 g5 g2 g3
    rcases e1 with rfl | ⟨e1, _, _⟩
    · rcases e2 with rfl | ⟨e2, _, _⟩
      · exact hn g1
      · rw [hP'] at e2; simp at e2
    · rcases e2 with rfl | ⟨_, _, e2⟩
      · rw [e1] at g5; simp at g5
      · -- both heads reach q
        obtain ⟨r', q1, q2, q3, q4, q5⟩ := (hI.pg h' g4).head e2
        rw [q3] at g3
        simp [pgM] at g3
        obtain ⟨r2, q1', q2', q3', q4', q5'⟩ := (hI.pg h hh).head (by rw [hP'])
        rw [hP'] at q3'
        injection q3' with _ _ q3'
        rcases Nat.lt_trichotomy h h' with hlt | heq | hgt
        · have := q5' (h' - h) (by omega) (by omega)
          rw [show h + (h' - h) = h' by omega, q3] at this
          simp at this
        · subst heq; exact hn g1
        · have := q5 (h - h') (by omega) (by omega)
          rw [show h' + (h - h') = h by omega, hP'] at this
          simp at this
  refine ⟨hI.n1, hI.n2, fun p hp => ?_, fun i hi hk => ?_, fun i hi hk => ?_, fun i j hi hj hki hkj hs he => ?_, fun p hp hk => ?_, hI.last0⟩
  · have hp : p < σ.n := hp
    rcases gvP_kind hI (gv := goneG σ (dropO σ.O stay)) hp with hs | hz
    · have hpg := hI.pg p hp
      show gvP _ _ p = Pg.z ∨ (∃ c : Nat, c < 8 ∧ gvP _ _ p = ⟨1, c, 0⟩) ∨ (∃ r : Nat, 1 ≤ r ∧ r ≤ 16 ∧ gvP _ _ p = ⟨2, 0, r⟩ ∧ p + r ≤ σ.n ∧ ∀ j, 1 ≤ j → j < r → gvP σ.P (goneG σ (dropO σ.O stay)) (p + j) = ⟨3, 0, 0⟩) ∨ (gvP _ _ p = ⟨3, 0, 0⟩ ∧ ∃ h r : Nat, h < p ∧ p < h + r ∧ gvP σ.P (goneG σ (dropO σ.O stay)) h = ⟨2, 0, r⟩)
      rw [hs]
      rcases hpg with h0 | h1 | ⟨r, r1, r2, r3, r4, r5⟩ | ⟨r1, hh, r, r2, r3, r4⟩
      · exact .inl h0
      · exact .inr (.inl h1)
      · refine .inr (.inr (.inl ⟨r, r1, r2, r3, r4, fun j hj1 hj2 => ?_⟩))
        have hng : ¬ goneG σ (dropO σ.O stay) p := by
          intro hg
          have : gvP σ.P (goneG σ (dropO σ.O stay)) p = Pg.z := by
            rw [gvP, if_pos ⟨p, hg, Nat.le_refl _, by rw [r3, pgM, if_pos rfl]; simp; omega⟩]
          rw [hs, r3] at this; simp [Pg.z] at this
        rw [rests p r hp r3 hng (p + j) (by omega) (by omega), r5 j hj1 hj2]
      · have hng : ¬ goneG σ (dropO σ.O stay) hh := by
          intro hg
          have : gvP σ.P (goneG σ (dropO σ.O stay)) p = Pg.z := by
            rw [gvP, if_pos ⟨hh, hg, by omega, by rw [r4, pgM, if_pos rfl]; simpa using r3⟩]
          rw [hs, r1] at this; simp [Pg.z] at this
        exact .inr (.inr (.inr ⟨r1, hh, r, r2, r3, by rw [rests hh r (by omega) r4 hng hh (Nat.le_refl _) (by omega), r4]⟩))
    · exact .inl hz
  · have hk : (dropO σ.O stay i).kind ≠ 0 := hk
    obtain ⟨h1, h2, h3⟩ := dropO_kind hk
    have ho := hI.ob i hi h2
    have hp := page i hi hk
    refine ⟨?_, ?_, ?_, ?_, ?_⟩ <;> rw [hO, h1]
    · exact ho.fit
    · exact ho.at_
    · exact ho.ser
    · exact ho.ser0
    · show (∃ c : Nat, c < 8 ∧ ofS (σ.O i).size = c ∧ gvP σ.P (goneG σ (dropO σ.O stay)) (i / 64) = ⟨1, c, 0⟩ ∧ (i % 64) % wdN c = 0 ∧ (i % 64) / wdN c < bkN c) ∨ (ofS (σ.O i).size = 8 ∧ i % 64 = 0 ∧ gvP σ.P (goneG σ (dropO σ.O stay)) (i / 64) = ⟨2, 0, pgS (σ.O i).size⟩)
      rw [hp]; exact ho.pl
  · have hk : (dropO σ.O stay i).kind = 0 := hk
    show dropO σ.O stay i = Bk.z
    unfold dropO at hk ⊢
    split at hk
    · rename_i hx; rw [if_pos hx]
    · rename_i hx; rw [if_neg hx]; exact hI.oz i hi hk
  · obtain ⟨a1, a2, _⟩ := dropO_kind (show (dropO σ.O stay i).kind ≠ 0 from hki)
    obtain ⟨b1, b2, _⟩ := dropO_kind (show (dropO σ.O stay j).kind ≠ 0 from hkj)
    rw [hO, a1] at hs he
    rw [hO, b1] at he
    exact hI.ser i j hi hj a2 b2 hs he
  · have hk : (gvP σ.P (goneG σ (dropO σ.O stay)) p).kind = 2 := hk
    show (dropO σ.O stay (64 * p)).kind ≠ 0
    rcases gvP_kind hI (gv := goneG σ (dropO σ.O stay)) hp with hs | hz
    · rw [hs] at hk
      intro h0
      obtain ⟨r, r1, r2, r3, _⟩ := (hI.pg p hp).head hk
      have : gvP σ.P (goneG σ (dropO σ.O stay)) p = Pg.z := by
        rw [gvP, if_pos ⟨p, ⟨hp, .inr ⟨hk, h0⟩⟩, Nat.le_refl _, by rw [r3, pgM, if_pos rfl]; simp; omega⟩]
      rw [hs, r3] at this; simp [Pg.z] at this
    · rw [hz] at hk; simp [Pg.z] at hk

theorem Inv.td (hI : Inv σ) : Inv (tdS σ) := ⟨hI.n1, hI.n2, hI.pg, fun i hi hk => by have h := hI.ob i hi hk; exact ⟨h.fit, h.at_, h.ser, h.ser0, h.pl⟩, hI.oz, hI.ser, hI.hd, hI.last0⟩

/-! Writing the links -/
theorem frB_cls {c i : Nat} (h : frB σ c i = true) : clsN σ i = c := by
  have := (frB_iff.1 h).2.1
  show (σ.P (i / 64)).cls.toNat = c
  rw [this, Int.toNat_natCast]
theorem lnW_zero (i : Nat) : lnW σ 0 0 i = clW σ i := by rw [lnW, if_neg]; rintro ⟨h1, _⟩; omega
theorem lnW_step {c a : Nat} (hc : c < 8) (h : frB σ c a = true) : up (lnW σ c a) a (lkS (nfS σ c (a + 1))) = lnW σ c (a + 1) := by
  have hcl := frB_cls h
  funext i
  unfold up
  by_cases hi : i = a
  · subst hi
    rw [if_pos rfl, lnW, hcl, if_pos ⟨.inr ⟨rfl, by omega⟩, hc, h⟩]
  · rw [if_neg hi]
    unfold lnW
    by_cases hx : (clsN σ i < c ∨ clsN σ i = c ∧ i < a) ∧ clsN σ i < 8 ∧ frB σ (clsN σ i) i = true
    · rw [if_pos hx, if_pos ⟨by omega, hx.2⟩]
    · rw [if_neg hx, if_neg]
      rintro ⟨h1, h2⟩
      exact hx ⟨by omega, h2⟩
theorem lnW_skip {c a b : Nat} (hab : a ≤ b) (h : ∀ j, a ≤ j → j < b → j < 64 * σ.n → frB σ c j = false) {i : Nat} (hi : i < 64 * σ.n) : lnW σ c a i = lnW σ c b i := by
  unfold lnW
  by_cases hx : (clsN σ i < c ∨ clsN σ i = c ∧ i < a) ∧ clsN σ i < 8 ∧ frB σ (clsN σ i) i = true
  · rw [if_pos hx, if_pos ⟨by omega, hx.2⟩]
  · rw [if_neg hx, if_neg]
    rintro ⟨h1, h2, h3⟩
    apply hx
    refine ⟨?_, h2, h3⟩
    rcases h1 with h1 | ⟨h1, h4⟩
    · exact .inl h1
    · by_cases hia : i < a
      · exact .inr ⟨h1, hia⟩
      · rw [h1] at h3
        rw [h i (by omega) h4 hi] at h3; cases h3
theorem lnW_next {c a : Nat} (h : ∀ j, a ≤ j → j < 64 * σ.n → frB σ c j = false) {i : Nat} (hi : i < 64 * σ.n) : lnW σ c a i = lnW σ (c + 1) 0 i := by
  unfold lnW
  by_cases hx : (clsN σ i < c ∨ clsN σ i = c ∧ i < a) ∧ clsN σ i < 8 ∧ frB σ (clsN σ i) i = true
  · rw [if_pos hx, if_pos ⟨by omega, hx.2⟩]
  · rw [if_neg hx, if_neg]
    rintro ⟨h1, h2, h3⟩
    apply hx
    refine ⟨?_, h2, h3⟩
    by_cases hc : clsN σ i = c
    · right
      refine ⟨hc, ?_⟩
      rcases Nat.lt_or_ge i a with h' | h'
      · exact h'
      · rw [hc] at h3; rw [h i h' hi] at h3; cases h3
    · left; omega
end
end Go.Wx
end
section
/- Contracts of the reference's tidy and Keep. -/
set_option linter.unusedVariables false
set_option maxRecDepth 100000
namespace Go.Wx
open Go
open Classical

/-- The words that are known to lie in rooms: of the objects below a; of that at a the first m. -/
def mkI (σ : St) (a m i : Nat) : Prop := ∃ j, j < 64 * σ.n ∧ (σ.O j).kind ≠ 0 ∧ j ≤ i ∧ (j < a ∧ (i : Int) < j + roomS (σ.O j).size ∨ j = a ∧ i < a + m)
noncomputable def bd (p : Prop) : Bool := @decide p (propDecidable p)
theorem bd_true {p : Prop} (h : p) : bd p = true := @decide_eq_true p (propDecidable p) h
theorem bd_false {p : Prop} (h : ¬ p) : bd p = false := @decide_eq_false p (propDecidable p) h
theorem of_bd {p : Prop} (h : bd p = true) : p := @of_decide_eq_true p (propDecidable p) h
theorem of_bd_not {p : Prop} (h : bd p = false) : ¬ p := @of_decide_eq_false p (propDecidable p) h
theorem bd_congr {p q : Prop} (h : p ↔ q) : bd p = bd q := by rw [propext h]
noncomputable def bools (m : Nat) (f : Nat → Prop) : List Value := vals m fun i => .bool (bd (f i))
@[simp] theorem bools_length (m : Nat) (f : Nat → Prop) : (bools m f).length = m := by simp [bools]
theorem bools_congr {m : Nat} {f g : Nat → Prop} (h : ∀ i, i < m → (f i ↔ g i)) : bools m f = bools m g := vals_congr fun i hi => by rw [bd_congr (h i hi)]
theorem bools_set {m i : Nat} {f : Nat → Prop} : setL (bools m f) i [.bool true] = bools m (fun j => j = i ∨ f j) := by
  rw [setL_one, bools, vals_set]
  refine vals_congr fun j _ => ?_
  unfold up
  by_cases h : j = i
  · rw [if_pos h, bd_true (.inl h)]
  · rw [if_neg h, bd_congr (p := j = i ∨ f j) (q := f j) ⟨fun hh => hh.resolve_left h, .inr⟩]
theorem bools_cell {w : World} {b m : Nat} {f : Nat → Prop} {t : TypeId} (h : w.heap[b]? = some (Bl (bools m f) t)) {i : Nat} (hi : i < m) : w.cell? (Addr.add ⟨b, 0, none⟩ (i * 1)) = some (.bool (bd (f i))) := by
  rw [add_mk, cell_of h, Nat.zero_add, Nat.mul_one, bools, vals_lt hi]

section
variable {w : World} {R : RB} {σ : St}

theorem c127 (hI : Inv σ) (h : Rf w R σ) (hcx : R.cw = 64 * σ.n) : Ret PR 127 [pt R.s] w fun v w' => v = .tuple (Array.mk []) ∧ Rf w' R (tdS σ) ∧ Upd R.F w w' := by
  refine Ret.of ((S127_eq _ w _).mpr ?_)
  unfold S127
  have hn2 := h.n2
  have hco := h.hco
  have Fw : ∀ b, one R.wb b → R.F b := fun b hb => .inr (.inl hb)
  refine ⟨_, _, _, cell_of h.hs 0, ⟨by omega, by omega, by omega⟩, ?_⟩
  rw [Int.toNat_natCast]
  have n1 := new_alloc w (Obj.cells (Array.mk (zcells [Value.bool false] (64 * σ.n))) 4)
  generalize w.alloc (Obj.cells (Array.mk (zcells [Value.bool false] (64 * σ.n))) 4) = w1 at n1 ⊢
  have hfl : ∀ b, R.F b → b < w.heap.size := fun b hb => h.lt hb
  have hb1 : w1.heap[w.heap.size]? = some (Bl (bools (64 * σ.n) (mkI σ 0 0)) 4) := by
    rw [n1.at0]
    refine bl_eq ?_
    rw [zcells_one]
    refine vals_congr fun i _ => ?_
    rw [bd_false]
    rintro ⟨j, _, _, h1, h2 | h2⟩ <;> omega
  refine loop_rule (fun a : Nat => ((a : Int), ())) (fun a w' => a ≤ 64 * σ.n ∧ Kp w w' ∧ w'.heap[w.heap.size]? = some (Bl (bools (64 * σ.n) (mkI σ a 0)) 4)) (fun a => 64 * σ.n - a) 0 rfl ⟨by omega, n1.ext, hb1⟩ ?_
  rintro a w2 K ⟨ha, k2, hb2⟩ hK
  have h2 := h.kp k2
  refine ⟨_, _, _, cell_of h2.hs 2, ifB_d (fun hlt => ?_) fun hlt => ?_⟩
  · have hlt : a < 64 * σ.n := by simp only at hlt; omega
    refine loop_rule (fun m : Nat => ((m : Int), ())) (fun m w' => (m = 0 ∨ (σ.O a).kind ≠ 0 ∧ (m : Int) ≤ roomS (σ.O a).size) ∧ Kp w w' ∧ w'.heap[w.heap.size]? = some (Bl (bools (64 * σ.n) (mkI σ a m)) 4)) (fun m => 2000 - m) 0 rfl ⟨.inl rfl, k2, hb2⟩ ?_
    rintro m w3 K1 ⟨hm, k3, hb3⟩ hK1
    have h3 := h.kp k3
    dsimp only
    have next : ∀ w4, Kp w w4 → w4.heap[w.heap.size]? = some (Bl (bools (64 * σ.n) (mkI σ (a + 1) 0)) 4) → K (IntKind.i64.wrap ((a : Int) + 1), ()) w4 := by
      intro w4 k4 hb4
      rw [wrap_id (by omega) (by omega)]
      exact hK (a + 1) w4 ⟨hlt, k4, hb4⟩ (by omega)
    refine join_two ⟨_, _, _, cell_of h3.hs 2, ⟨by omega, by omega⟩, _, bks_cell (i := a) h3.ho (by omega) (by omega), ifB_ne (fun hk => ?_) fun hk => next w3 k3 ?_⟩
    · obtain ⟨s1, s2, s3, s4⟩ := hI.room hlt hk
      have hsr := size_room s1 s2
      refine ⟨_, _, _, cell_of h3.hs 2, ⟨by omega, by omega⟩, _, bks_cell (i := a) h3.ho (by omega) (by omega), ?_⟩
      refine (c93 w3 _).use fun w4 e4 => ⟨_, rfl, ifB_d (fun hlt2 => ?_) fun hlt2 => next w4 (k3.trans e4) ?_⟩
      · dsimp only
        have e : IntKind.i64.wrap ((a : Int) + (m : Int)) = ((a + m : Nat) : Int) := by rw [wrap_id (by omega) (by omega)]; simp
        rw [e, Int.toNat_natCast]
        refine ⟨⟨by omega, by omega⟩, ?_⟩
        rw [add_mk, show ∀ x : Nat, 0 + x * 1 = x from fun x => by omega]
        have hb4 := e4.at hb3
        refine stx_at _ hb4 (by simp; omega) rfl fun w5 p5 => ?_
        rw [wrap_id (by omega) (by omega)]
        refine hK1 (m + 1) w5 ⟨.inr ⟨hk, by omega⟩, (k3.trans e4).put p5 (Nat.le_refl _), ?_⟩ (by omega)
        rw [p5.at0]
        refine bl_eq ?_
        rw [Nat.add_zero (a + m), bools_set]
        refine bools_congr fun i hi => ?_
        constructor
        · rintro (rfl | ⟨j, j1, j2, j3, j4 | ⟨j4, j5⟩⟩)
          · exact ⟨a, hlt, hk, by omega, .inr ⟨rfl, by omega⟩⟩
          · exact ⟨j, j1, j2, j3, .inl j4⟩
          · exact ⟨j, j1, j2, j3, .inr ⟨j4, by omega⟩⟩
        · rintro ⟨j, j1, j2, j3, j4 | ⟨j4, j5⟩⟩
          · exact .inr ⟨j, j1, j2, j3, .inl j4⟩
          · by_cases hi2 : i = a + m
            · exact .inl hi2
            · exact .inr ⟨j, j1, j2, j3, .inr ⟨j4, by omega⟩⟩
      · rw [e4.at hb3]
        refine bl_eq (bools_congr fun i hi => ?_)
        constructor
        · rintro ⟨j, j1, j2, j3, j4 | ⟨j4, j5⟩⟩
          · exact ⟨j, j1, j2, j3, .inl ⟨by omega, j4.2⟩⟩
          · subst j4; exact ⟨j, j1, j2, j3, .inl ⟨by omega, by rcases hm with hm | hm <;> omega⟩⟩
        · rintro ⟨j, j1, j2, j3, j4 | ⟨j4, j5⟩⟩
          · by_cases hja : j = a
            · subst hja
              exact ⟨j, j1, j2, j3, .inr ⟨rfl, by omega⟩⟩
            · exact ⟨j, j1, j2, j3, .inl ⟨by omega, j4.2⟩⟩
          · omega
    · have hm0 : m = 0 := by rcases hm with hm | hm; exact hm; exact absurd hk hm.1
      subst hm0
      rw [hb3]
      refine bl_eq (bools_congr fun i hi => ?_)
      constructor
      · rintro ⟨j, j1, j2, j3, j4 | ⟨j4, j5⟩⟩
        · exact ⟨j, j1, j2, j3, .inl ⟨by omega, j4.2⟩⟩
        · omega
      · rintro ⟨j, j1, j2, j3, j4 | ⟨j4, j5⟩⟩
        · by_cases hja : j = a
          · subst hja; exact absurd hk j2
          · exact ⟨j, j1, j2, j3, .inl ⟨by omega, j4.2⟩⟩
        · omega
  · have hae : a = 64 * σ.n := by simp only at hlt; omega
    subst hae
    have hins : ∀ i, i < 64 * σ.n → (mkI σ (64 * σ.n) 0 i ↔ ins σ i) := by
      intro i hi
      constructor
      · rintro ⟨j, j1, j2, j3, j4 | ⟨j4, j5⟩⟩
        · exact ⟨j, j1, j2, j3, j4.2⟩
        · omega
      · rintro ⟨j, j1, j2, j3, j4⟩; exact ⟨j, j1, j2, j3, .inl ⟨j1, j4⟩⟩
    refine loop_rule (fun i : Nat => ((i : Int), ())) (fun i w' => i ≤ 64 * σ.n ∧ Upd R.F w w' ∧ w'.heap[w.heap.size]? = some (Bl (bools (64 * σ.n) (mkI σ (64 * σ.n) 0)) 4) ∧ Rf w' R { σ with W := fun j => if j < i then clW σ j else σ.W j }) (fun i => 64 * σ.n - i) 0 rfl ⟨by omega, Kp.upd k2, hb2, ?_⟩ ?_
    · have : (fun j => if j < 0 then clW σ j else σ.W j) = σ.W := by funext j; rw [if_neg (by omega)]
      rw [this]; exact h2
    rintro i w3 K1 ⟨hi, u3, hb3, h3⟩ hK1
    refine ⟨_, _, _, cell_of h3.hs 0, ifB_d (fun hlt2 => ?_) fun hlt2 => ?_⟩
    · have hlt2 : i < 64 * σ.n := by simp only at hlt2; omega
      have next : ∀ w4, Upd R.F w w4 → w4.heap[w.heap.size]? = some (Bl (bools (64 * σ.n) (mkI σ (64 * σ.n) 0)) 4) → Rf w4 R { σ with W := up (fun j => if j < i then clW σ j else σ.W j) i (clW σ i) } → K1 (IntKind.i64.wrap ((i : Int) + 1), ()) w4 := by
        intro w4 u4 hb4 h4
        rw [wrap_id (by omega) (by omega)]
        refine hK1 (i + 1) w4 ⟨hlt2, u4, hb4, ?_⟩ (by omega)
        have : up (fun j => if j < i then clW σ j else σ.W j) i (clW σ i) = fun j => if j < i + 1 then clW σ j else σ.W j := by
          funext j
          unfold up
          dsimp only
          by_cases hj : j = i
          · rw [if_pos hj, if_pos (by omega), hj]
          · rw [if_neg hj]
            by_cases hj2 : j < i
            · rw [if_pos hj2, if_pos (by omega)]
            · rw [if_neg hj2, if_neg (by omega)]
        rw [this] at h4
        exact h4
      refine ⟨⟨by dsimp only; omega, by dsimp only; omega⟩, _, bools_cell (i := i) hb3 hlt2, ifB_nb (fun hb => ?_) fun hb => next w3 u3 hb3 ?_⟩
      · refine ⟨_, _, _, cell_of h3.hs 0, ⟨by dsimp only; omega, by dsimp only; omega⟩, ?_⟩
        dsimp only
        rw [add_mk, Int.toNat_natCast, Nat.zero_add, Nat.mul_one]
        refine stx_at _ h3.hw (by simp; omega) rfl fun w4 p4 => ?_
        rw [Nat.add_zero, ints_set] at p4
        refine next w4 (u3.trans (p4.upd.mono Fw)) (p4.at hb3 (by have := hfl _ (.inr (.inl rfl)); omega)) ?_
        have : clW σ i = 0 := by
          rw [clW, if_neg]
          rw [← hins i hlt2]
          exact of_bd_not hb
        rw [this]
        exact h3.putW p4
      · have : clW σ i = σ.W i := by
          rw [clW, if_pos]
          rw [← hins i hlt2]
          exact of_bd hb
        have hf : up (fun j => if j < i then clW σ j else σ.W j) i (clW σ i) = fun j => if j < i then clW σ j else σ.W j := by
          funext j
          unfold up
          dsimp only
          by_cases hj : j = i
          · rw [if_pos hj, hj, if_neg (by omega), this]
          · rw [if_neg hj]
        rw [hf]; exact h3
    · have hie : i = 64 * σ.n := by simp only at hlt2; omega
      subst hie
      have h4 : Rf w3 R { σ with W := lnW σ 0 0 } := h3.congr rfl rfl (fun i hi => by
        show (if i < 64 * σ.n then clW σ i else σ.W i) = lnW σ 0 0 i
        rw [if_pos (by omega), lnW_zero]) (fun _ _ => rfl) (fun _ _ => rfl)
      refine loop_rule (fun c : Nat => ((c : Int), ())) (fun c w' => c ≤ 8 ∧ Upd R.F w w' ∧ Rf w' R { σ with W := lnW σ c 0 }) (fun c => 8 - c) 0 rfl ⟨by omega, u3, h4⟩ ?_
      rintro c w4 K2 ⟨hc, u4, h4⟩ hK2
      refine ifB_d (fun hlt3 => ?_) fun hlt3 => ?_
      · have hc8 : c < 8 := by simp only at hlt3; omega
        refine (c64 h4 (c := c) hc8 0 (by omega) (by omega)).use fun w5 e5 => ⟨_, rfl, ?_⟩
        have h5 := h4.kp e5
        dsimp only
        refine loop_rule (fun a : Nat => (nfS σ c a, ())) (fun a w' => Upd R.F w w' ∧ Rf w' R { σ with W := lnW σ c a }) (fun a => 64 * σ.n + 1 - a) 0 rfl ⟨u4.trans (Kp.upd e5), h5⟩ ?_
        rintro a w6 K3 ⟨u6, h6⟩ hK3
        dsimp only
        rcases nxt_cases (frB σ c) (64 * σ.n) a with ⟨hn, hno⟩ | ⟨b, hn, hab, hb, hfb, hno⟩
        · rw [show nfS σ c a = -1 from hn]
          refine ifB_d (fun hh => by omega) fun _ => ?_
          rw [wrap_id (by omega) (by omega)]
          refine hK2 (c + 1) w6 ⟨hc8, u6, ?_⟩ (by omega)
          exact h6.congr rfl rfl (fun i hi => lnW_next (fun j h1 h2 => hno j h1 h2) (by omega)) (fun _ _ => rfl) (fun _ _ => rfl)
        · rw [show nfS σ c a = b from hn]
          refine ifB_d (fun _ => ?_) fun hh => by omega
          rw [wrap_id (by omega) (by omega)]
          refine (c64 h6 (c := c) hc8 ((b : Int) + 1) (by omega) (by omega)).use fun w7 e7 => ⟨_, rfl, ?_⟩
          rw [show ((b : Int) + 1).toNat = b + 1 by omega]
          generalize hwd : World.drew w7 = wd
          have d7 : Kp w7 wd := hwd ▸ ext_drew w7
          have h8 := (h6.kp e7).kp d7
          refine ⟨_, _, _, cell_of h8.hs 0, ?_⟩
          have hr : -1 ≤ nfS σ c (b + 1) ∧ nfS σ c (b + 1) < 262144 := by
            rcases nxt_cases (frB σ c) (64 * σ.n) (b + 1) with ⟨h1, _⟩ | ⟨j, h1, _, h2, _⟩ <;> rw [nfS, h1] <;> omega
          show Calls PR 63 (Array.mk [I (nfS σ c (b + 1))]) wd _
          refine (c63 wd _ hr.1 hr.2).use fun w9 e9 => ⟨_, rfl, e9.draw, ⟨by omega, by show (b : Int) < ((64 * σ.n : Nat) : Int); omega⟩, ?_⟩
          have h9 := h8.kp e9
          rw [add_mk, Int.toNat_natCast, Nat.zero_add, Nat.mul_one]
          refine stx_at _ h9.hw (by simp; omega) rfl fun w10 p10 => ?_
          rw [Nat.add_zero, ints_set] at p10
          refine hK3 (b + 1) w10 ⟨((u6.trans (Kp.upd (e7.trans d7))).trans (Kp.upd e9)).trans (p10.upd.mono Fw), ?_⟩ (by omega)
          refine (h9.putW p10).congr rfl rfl (fun i hi => ?_) (fun _ _ => rfl) (fun _ _ => rfl)
          show up (lnW σ c a) b (lkS (nfS σ c (b + 1))) i = lnW σ c (b + 1) i
          rw [← lnW_step hc8 hfb]
          unfold up
          by_cases hib : i = b
          · rw [if_pos hib, if_pos hib]
          · rw [if_neg hib, if_neg hib]
            exact lnW_skip hab (fun j h1 h2 h3 => hno j h1 h2) (by omega)
      · have : c = 8 := by simp only at hlt3; omega
        subst this
        exact ⟨rfl, h4, u4⟩
end
end Go.Wx
end
section
/- The contract of the reference's Keep. -/
set_option linter.unusedVariables false
set_option maxRecDepth 100000
namespace Go.Wx
open Go
open Classical

theorem cell_upd {F : Nat → Prop} {w w' : World} (u : Upd F w w') {a : Addr} {v : Value} (h : w.cell? a = some v) (hf : ¬ F a.block) : w'.cell? a = some v := by
  unfold World.cell? at h ⊢
  cases hb : w.heap[a.block]? with
  | none => rw [hb] at h; cases h
  | some o => rw [hb] at h; rw [u.at hb hf]; exact h
theorem cell_kp {w w' : World} (u : Kp w w') {a : Addr} {v : Value} (h : w.cell? a = some v) : w'.cell? a = some v := cell_upd u h fun h => h

/-- A slice of ints, by its places. -/
def Ls (w : World) (s : Option Addr) (l : Nat) (ks : Nat → Int) : Prop := ∀ i, i < l → ∃ a, s = some a ∧ w.cell? (a.add (i * 1)) = some (I (ks i))
theorem Ls.kp {w w' : World} {s : Option Addr} {l : Nat} {ks : Nat → Int} (h : Ls w s l ks) (u : Kp w w') : Ls w' s l ks := fun i hi => by obtain ⟨a, h1, h2⟩ := h i hi; exact ⟨a, h1, cell_kp u h2⟩

noncomputable def stayS (ks : Nat → Int) (l : Nat) (i : Nat) : Bool := bd (∃ m, m < l ∧ ks m = i)
def allOK (σ : St) (ks : Nat → Int) (l : Nat) : Prop := ∀ m, m < l → okI σ (ks m) = true
noncomputable def kpR (σ : St) (ks : Nat → Int) (l : Nat) : Int × Int := if allOK σ ks l then (((goes σ (stayS ks l) (64 * σ.n) : Nat) : Int), 0) else (0, 22)
noncomputable def kpT (σ : St) (ks : Nat → Int) (l : Nat) : St := if allOK σ ks l then tdS (leftS σ (stayS ks l)) else σ
theorem Inv.kpT {σ : St} (hI : Inv σ) (ks : Nat → Int) (l : Nat) : Inv (kpT σ ks l) := by
  unfold Go.Wx.kpT
  split
  · exact (hI.left _).td
  · exact hI
theorem kpT_n (σ : St) (ks : Nat → Int) (l : Nat) : (kpT σ ks l).n = σ.n ∧ (kpT σ ks l).last = σ.last := by unfold kpT; split <;> exact ⟨rfl, rfl⟩

theorem goes_step (σ : St) (stay : Nat → Bool) (m : Nat) : goes σ stay (m + 1) = goes σ stay m + (if (σ.O m).kind ≠ 0 ∧ stay m = false then 1 else 0) := by
  unfold goes
  rw [cnt_split _ (b := m) (by omega) (by omega), cnt_one]
  congr 1
  by_cases hk : (σ.O m).kind ≠ 0
  · cases hs : stay m with
    | true => simp
    | false => simp [hk]
  · rw [if_neg (fun hh => hk hh.1), decide_eq_false hk]; rfl
theorem goes_le (σ : St) (stay : Nat → Bool) (m : Nat) : goes σ stay m ≤ m := by have := cnt_le (fun i => decide ((σ.O i).kind ≠ 0) && !stay i) 0 m; unfold goes; omega

section
variable {w : World} {R : RB} {σ : St}

theorem c69 (hI : Inv σ) (h : Rf w R σ) (hcx : R.cw = 64 * σ.n ∧ R.cp = σ.n ∧ R.co = 64 * σ.n) {s : Option Addr} {l c : Nat} {ks : Nat → Int} (hs : Ls w s l ks) (hl : l < 1000000) :
    Ret PR 69 [pt R.s, .slice s l c] w fun v w' => v = .tuple (Array.mk [I (kpR σ ks l).1, I (kpR σ ks l).2]) ∧ Rf w' R (kpT σ ks l) ∧ Upd R.F w w' := by
  refine Ret.of ((S69_eq _ _ _ _ w _).mpr ?_)
  unfold S69
  have hn2 := h.n2
  obtain ⟨hcw, hcp, hco⟩ := hcx
  have Fo : ∀ b, one R.ob b → R.F b := fun b hb => .inr (.inr (.inr (.inl hb)))
  have Fp : ∀ b, one R.pb b → R.F b := fun b hb => .inr (.inr (.inl hb))
  have hfl : ∀ b, R.F b → b < w.heap.size := fun b hb => h.lt hb
  refine ⟨_, _, _, cell_of h.hs 2, ⟨by omega, by omega, by omega⟩, ?_⟩
  rw [Int.toNat_natCast]
  have n1 := new_alloc w (Obj.cells (Array.mk (zcells [Value.bool false] (64 * σ.n))) 4)
  generalize w.alloc (Obj.cells (Array.mk (zcells [Value.bool false] (64 * σ.n))) 4) = w1 at n1 ⊢
  have hb1 : w1.heap[w.heap.size]? = some (Bl (bools (64 * σ.n) (fun i => ∃ m, m < 0 ∧ ks m = i)) 4) := by
    rw [n1.at0]
    refine bl_eq ?_
    rw [zcells_one]
    refine vals_congr fun i _ => ?_
    rw [bd_false]
    rintro ⟨m, hm, _⟩; omega
  refine loop_rule (fun m : Nat => ((0 : Int), (0 : Int), (m : Int), ())) (fun m w' => m ≤ l ∧ Kp w w' ∧ w'.heap[w.heap.size]? = some (Bl (bools (64 * σ.n) (fun i => ∃ q, q < m ∧ ks q = i)) 4) ∧ ∀ q, q < m → okI σ (ks q) = true) (fun m => l - m) 0 rfl ⟨by omega, n1.ext, hb1, fun q hq => by omega⟩ ?_
  rintro m w2 K ⟨hm, k2, hb2, hok⟩ hK
  have h2 := h.kp k2
  refine ifB_d (fun hlt => ?_) fun hlt => ?_
  · have hlt : m < l := by simp only at hlt; omega
    obtain ⟨a, rfl, hcell⟩ := hs m hlt
    refine ⟨⟨by dsimp only; omega, by dsimp only; omega⟩, _, cell_kp k2 hcell, ?_⟩
    refine (c71 h2 (ks m)).use fun w3 e3 => ⟨_, _, _, _, _, _, rfl, atW_new fun w4 n4 => stx_at _ n4.at0 (by simp) rfl fun w5 p5 => ?_⟩
    have k3 := k2.trans e3
    have k5 := (k3.trans n4.ext).put p5 (by have := k3.sz; omega)
    refine ifB_nb (fun hb => ⟨?_, ?_, Kp.upd k5⟩) fun hb => ?_
    · have hno : ¬ allOK σ ks l := fun hh => by rw [hh m hlt] at hb; cases hb
      rw [kpR, if_neg hno]
    · have hno : ¬ allOK σ ks l := fun hh => by rw [hh m hlt] at hb; cases hb
      rw [kpT, if_neg hno]; exact h.kp k5
    · obtain ⟨i, hi1, hi2, hi3⟩ := okI_iff.1 hb
      refine ⟨⟨by dsimp only; omega, by dsimp only; omega⟩, _, cell_kp k5 hcell, ⟨by omega, by omega⟩, ?_⟩
      rw [hi1, add_mk, Int.toNat_natCast, Nat.zero_add, Nat.mul_one]
      have hne : w.heap.size ≠ w3.heap.size := by have := lt_of_look hb2; have := e3.sz; omega
      have hb5 := p5.at (n4.ext.at (e3.at hb2)) hne
      refine stx_at _ hb5 (by simp; omega) rfl fun w6 p6 => ?_
      rw [wrap_id (by dsimp only; omega) (by dsimp only; omega)]
      refine hK (m + 1) w6 ⟨hlt, k5.put p6 (Nat.le_refl _), ?_, fun q hq => ?_⟩ (by omega)
      · rw [p6.at0]
        refine bl_eq ?_
        rw [Nat.add_zero, bools_set]
        refine bools_congr fun j hj => ?_
        constructor
        · rintro (rfl | ⟨q, q1, q2⟩)
          · exact ⟨m, by omega, hi1⟩
          · exact ⟨q, by omega, q2⟩
        · rintro ⟨q, q1, q2⟩
          by_cases hqm : q = m
          · subst hqm; left; omega
          · exact .inr ⟨q, by omega, q2⟩
      · by_cases hqm : q = m
        · subst hqm; exact hb
        · exact hok q (by omega)
  · have hml : m = l := by simp only at hlt; omega
    subst hml
    have hall : allOK σ ks m := hok
    obtain ⟨stay, hst⟩ : ∃ stay, stay = stayS ks m := ⟨_, rfl⟩
    have hbs : w2.heap[w.heap.size]? = some (Bl (bools (64 * σ.n) (fun i => stay i = true)) 4) := by
      rw [hb2]
      refine bl_eq (bools_congr fun i hi => ?_)
      rw [hst]
      constructor
      · rintro hh; exact bd_true hh
      · intro hh; exact of_bd hh
    have hR : kpR σ ks m = (((goes σ stay (64 * σ.n) : Nat) : Int), 0) := by rw [kpR, if_pos hall, hst]
    have hT : kpT σ ks m = tdS (leftS σ stay) := by rw [kpT, if_pos hall, hst]
    rw [hR, hT]
    -- the objects that go
    refine loop_rule (fun a : Nat => (((goes σ stay a : Nat) : Int), (a : Int), ())) (fun a w' => a ≤ 64 * σ.n ∧ Upd R.F w w' ∧ w'.heap[w.heap.size]? = some (Bl (bools (64 * σ.n) (fun i => stay i = true)) 4) ∧ Rf w' R { σ with O := fun i => if i < a then dropO σ.O stay i else σ.O i }) (fun a => 64 * σ.n - a) 0 (by simp [goes, cnt_self]) ⟨by omega, Kp.upd k2, hbs, ?_⟩ ?_
    · have : (fun i => if i < 0 then dropO σ.O stay i else σ.O i) = σ.O := by funext i; rw [if_neg (by omega)]
      rw [this]; exact h2
    rintro a w3 K2 ⟨ha, u3, hb3, h3⟩ hK2
    refine ⟨_, _, _, cell_of h3.hs 2, ifB_d (fun hlt2 => ?_) fun hlt2 => ?_⟩
    · have hlt2 : a < 64 * σ.n := by simp only at hlt2; omega
      have hcell : ∀ {j : Nat}, j < 5 → w3.cell? ((Addr.add ⟨R.ob, 0, none⟩ (a * 5)).add j) = (σ.O a).cells[j]? := fun {j} hj => by
        rw [bks_cell (i := a) h3.ho (by omega) hj]
        dsimp only
        rw [if_neg (by omega)]
      have hgl := goes_le σ stay a
      refine ⟨fun s w' => w' = w3 ∧ s = (decide ((σ.O a).kind ≠ 0 ∧ stay a = false), ()), ?_, ⟨_, _, _, cell_of h3.hs 2, ⟨by dsimp only; omega, by dsimp only; omega⟩, _, hcell (by omega), ifB_ne (fun hk => ⟨⟨by dsimp only; omega, by dsimp only; omega⟩, _, bools_cell (i := a) hb3 hlt2, rfl, ?_⟩) fun hk => ⟨rfl, by rw [decide_eq_false (fun hh => hh.1 hk)]⟩⟩⟩
      · rintro s w' ⟨rfl, rfl⟩
        have drop : ∀ i, (if i < a + 1 then dropO σ.O stay i else σ.O i) = up (fun i => if i < a then dropO σ.O stay i else σ.O i) a (dropO σ.O stay a) i := fun i => by
          unfold up
          dsimp only
          by_cases hia : i = a
          · rw [if_pos (by omega), if_pos hia, hia]
          · rw [if_neg hia]
            by_cases hi2 : i < a
            · rw [if_pos hi2, if_pos (by omega)]
            · rw [if_neg hi2, if_neg (by omega)]
        refine ifB_d (fun hg => ?_) fun hg => ?_
        · refine ⟨_, _, _, cell_of h3.hs 2, ⟨by dsimp only; omega, by dsimp only; omega⟩, ?_⟩
          dsimp only
          rw [add_mk, Int.toNat_natCast, Nat.zero_add]
          refine stx_at (cs := bks R.co fun i => if i < a then dropO σ.O stay i else σ.O i) _ h3.ho (by simp; omega) rfl fun w4 p4 => ?_
          have p4' : Put w' R.ob (Bl (bks R.co (up (fun i => if i < a then dropO σ.O stay i else σ.O i) a Bk.z)) 106) w4 := by
            have := p4
            rw [Nat.add_zero, z5, bks_set _ (by omega)] at this
            exact this
          rw [wrap_id (x := ((goes σ stay a : Nat) : Int) + 1) (by omega) (by omega), wrap_id (x := (a : Int) + 1) (by omega) (by omega)]
          have := hK2 (a + 1) w4 ⟨hlt2, u3.trans (p4.upd.mono Fo), p4.at hb3 (by have := hfl _ (Fo _ rfl); omega), ?_⟩ (by omega)
          · rw [goes_step, if_pos hg] at this
            exact this
          · refine (h3.putO p4').congr rfl rfl (fun _ _ => rfl) (fun _ _ => rfl) fun i hi => ?_
            show up (fun i => if i < a then dropO σ.O stay i else σ.O i) a Bk.z i = if i < a + 1 then dropO σ.O stay i else σ.O i
            rw [drop, show dropO σ.O stay a = Bk.z by rw [dropO, if_pos hg]]
        · dsimp only
          rw [wrap_id (x := (a : Int) + 1) (by omega) (by omega)]
          have := hK2 (a + 1) w' ⟨hlt2, u3, hb3, ?_⟩ (by omega)
          · rw [goes_step, if_neg hg] at this
            exact this
          · refine h3.congr rfl rfl (fun _ _ => rfl) (fun _ _ => rfl) fun i hi => ?_
            show (if i < a then dropO σ.O stay i else σ.O i) = if i < a + 1 then dropO σ.O stay i else σ.O i
            rw [drop]
            unfold up
            dsimp only
            by_cases hia : i = a
            · rw [if_pos hia, hia, if_neg (by omega), dropO, if_neg hg]
            · rw [if_neg hia]
      · have : (!bd (stay a = true)) = decide ((σ.O a).kind ≠ 0 ∧ stay a = false) := by
          cases hsa : stay a with
          | true => rw [bd_true rfl, decide_eq_false (fun hh => by cases hh.2)]; rfl
          | false => rw [bd_false (by simp), decide_eq_true ⟨hk, rfl⟩]; rfl
        rw [this]
    · have hae : a = 64 * σ.n := by simp only at hlt2; omega
      subst hae
      obtain ⟨O', hO'⟩ : ∃ O', O' = dropO σ.O stay := ⟨_, rfl⟩
      have h4 : Rf w3 R { σ with O := O' } := h3.congr rfl rfl (fun _ _ => rfl) (fun _ _ => rfl) fun i hi => by
        show (if i < 64 * σ.n then dropO σ.O stay i else σ.O i) = O' i
        rw [if_pos (by omega), hO']
      have hgo := goneG_ok (σ := σ) O'
      -- the pages
      refine loop_rule (fun p : Nat => ((p : Int), ())) (fun p w' => p ≤ σ.n ∧ Upd R.F w w' ∧ Rf w' R { σ with O := O', P := gvP σ.P (fun q => goneG σ O' q ∧ q < p) }) (fun p => σ.n - p) 0 rfl ⟨by omega, u3, ?_⟩ ?_
      · have : gvP σ.P (fun q => goneG σ O' q ∧ q < 0) = σ.P := by funext q; rw [gvP, if_neg]; rintro ⟨x, ⟨_, hx⟩, _⟩; omega
        rw [this]; exact h4
      rintro p w5 K3 ⟨hp, u5, h5⟩ hK3
      refine ⟨_, cell_of h5.hs 1, _, _, _, cell_of h5.ht.h0 0, ifB_d (fun hlt3 => ?_) fun hlt3 => ?_⟩
      · have hpn : p < σ.n := by simp only at hlt3; omega
        obtain ⟨Pc, hPc⟩ : ∃ Pc, Pc = gvP σ.P (fun q => goneG σ O' q ∧ q < p) := ⟨_, rfl⟩
        rw [← hPc] at h5
        have hgo' : gvOK σ (fun q => goneG σ O' q ∧ q < p) := fun q hq => hgo q hq.1
        refine ⟨_, cell_of h5.hs 1, _, _, _, cell_of h5.ht.h0 0, ⟨by dsimp only; omega, by dsimp only; omega⟩, _, pgs_cell (i := p) h5.ht.h1 (by omega) (by omega), _, pgs_cell (i := p) h5.ht.h1 (by omega) (by omega), _, pgs_cell (i := p) h5.ht.h1 (by omega) (by omega), atW_new fun w6 n6 => stx_at _ n6.at0 (by simp) rfl fun w7 p7 => ?_⟩
        have hsz5 : w.heap.size ≤ w5.heap.size := u5.sz
        have u7 : Upd R.F w w7 := (u5.new n6).put p7 hsz5
        have h7 := (h5.kp n6.ext).putNew (w0 := w) p7 fun b hb => by have := hfl b hb; omega
        have hx7 : w7.heap[w5.heap.size]? = some (Bl (Pc p).cells 152) := p7.at0
        have e64 : IntKind.i64.wrap ((p : Int) * 64) = ((64 * p : Nat) : Int) := by rw [wrap_id (by omega) (by omega)]; simp; omega
        dsimp only
        rw [e64]
        refine ⟨fun s w' => w' = w7 ∧ s = (decide ((Pc p).kind = 2 ∧ (O' (64 * p)).kind ≠ 0), ()), ?_, ⟨_, cell_of hx7 0, ifB_eq (fun hk => ⟨_, _, _, cell_of h7.hs 2, ⟨by omega, by show ((64 * p : Nat) : Int) < ((64 * σ.n : Nat) : Int); omega⟩, _, bks_cell (i := 64 * p) h7.ho (by omega) (by omega), rfl, ?_⟩) fun hk => ⟨rfl, by rw [decide_eq_false (fun hh => hk hh.1)]⟩⟩⟩
        · rintro s w' ⟨rfl, rfl⟩
          refine ⟨fun s w'' => w'' = w' ∧ s = (bd ((Pc p).kind = 2 ∧ (O' (64 * p)).kind ≠ 0 ∨ (Pc p).kind = 1 ∧ ∃ j, j < 64 ∧ (O' (64 * p + j)).kind ≠ 0), ()), ?_, ?_⟩
          rotate_left
          · refine loop_rule (fun g : Nat × Bool => (g.2, (g.1 : Int), ())) (fun g w'' => w'' = w' ∧ g.1 ≤ 64 ∧ (g.1 ≠ 0 → (Pc p).kind = 1) ∧ g.2 = bd ((Pc p).kind = 2 ∧ (O' (64 * p)).kind ≠ 0 ∨ (Pc p).kind = 1 ∧ ∃ j, j < g.1 ∧ (O' (64 * p + j)).kind ≠ 0)) (fun g => 64 - g.1) (0, decide ((Pc p).kind = 2 ∧ (O' (64 * p)).kind ≠ 0)) rfl ⟨rfl, by simp, fun hh => absurd rfl hh, ?_⟩ ?_
            · by_cases hx : (Pc p).kind = 2 ∧ (O' (64 * p)).kind ≠ 0
              · rw [bd_true (.inl hx)]; exact decide_eq_true hx
              · rw [bd_false]
                · exact decide_eq_false hx
                · rintro (hh | ⟨_, j, hj, _⟩)
                  · exact hx hh
                  · simp at hj
            rintro ⟨i, u⟩ w8 K4 ⟨rfl, hi, hik, hu⟩ hK4
            dsimp only at hi hik hu hK4 ⊢
            have done : ((Pc p).kind ≠ 1 ∨ i = 64) → bd ((Pc p).kind = 2 ∧ (O' (64 * p)).kind ≠ 0 ∨ (Pc p).kind = 1 ∧ ∃ j, j < i ∧ (O' (64 * p + j)).kind ≠ 0) = bd ((Pc p).kind = 2 ∧ (O' (64 * p)).kind ≠ 0 ∨ (Pc p).kind = 1 ∧ ∃ j, j < 64 ∧ (O' (64 * p + j)).kind ≠ 0) := by
              rintro (hh | rfl)
              · refine bd_congr ⟨fun hx => ?_, fun hx => ?_⟩
                · rcases hx with hx | hx
                  · exact .inl hx
                  · exact absurd hx.1 hh
                · rcases hx with hx | hx
                  · exact .inl hx
                  · exact absurd hx.1 hh
              · rfl
            refine join_two (ifB_d (fun hlt4 => ⟨_, cell_of hx7 0, ifB_eq (fun hk1 => ?_) fun hk1 => ⟨rfl, by rw [hu, done (.inl hk1)]⟩⟩) fun hlt4 => ⟨rfl, by rw [hu, done (.inr (by omega))]⟩)
            have hk1 : (Pc p).kind = 1 := hk1
            have hi64 : i < 64 := by omega
            dsimp only
            rw [wrap_id (x := (i : Int) + 1) (by omega) (by omega)]
            refine ifB_b (fun hut => ?_) fun huf => ?_
            · refine hK4 (i + 1, true) w8 ⟨rfl, hi64, fun _ => hk1, ?_⟩ (by dsimp only; omega)
              rw [hu] at hut
              rw [bd_true]
              rcases of_bd hut with hx | ⟨hx, j, hj, hj2⟩
              · exact .inl hx
              · exact .inr ⟨hx, j, by dsimp only; omega, hj2⟩
            · have e2 : IntKind.i64.wrap (((64 * p : Nat) : Int) + (i : Int)) = ((64 * p + i : Nat) : Int) := by rw [wrap_id (by omega) (by omega)]; simp
              rw [e2]
              refine ⟨_, _, _, cell_of h7.hs 2, ⟨by omega, by show ((64 * p + i : Nat) : Int) < ((64 * σ.n : Nat) : Int); omega⟩, _, bks_cell (i := 64 * p + i) h7.ho (by omega) (by omega), ?_⟩
              refine hK4 (i + 1, _) w8 ⟨rfl, hi64, fun _ => hk1, ?_⟩ (by dsimp only; omega)
              rw [hu] at huf
              have hnf := of_bd_not huf
              by_cases hx : (O' (64 * p + i)).kind ≠ 0
              · rw [bd_true (.inr ⟨hk1, i, by dsimp only; omega, hx⟩)]; show ((O' (64 * p + i)).kind != 0) = true; exact bne_iff_ne.2 hx
              · rw [bd_false]
                · show ((O' (64 * p + i)).kind != 0) = false
                  rw [show (O' (64 * p + i)).kind = 0 from Classical.not_not.1 hx]; rfl
                · rintro (hh | ⟨_, j, hj, hj2⟩)
                  · exact hnf (.inl hh)
                  · by_cases hji : j = i
                    · subst hji; exact hx hj2
                    · exact hnf (.inr ⟨hk1, j, by dsimp only at hj; omega, hj2⟩)
          · rintro s w'' ⟨rfl, rfl⟩
            dsimp only
            rw [wrap_id (x := (p : Int) + 1) (by omega) (by omega)]
            have hsame : Pc p ≠ Pg.z → Pc p = σ.P p := fun hz => by
              rw [hPc] at hz ⊢
              rcases gvP_kind hI (gv := fun q => goneG σ O' q ∧ q < p) hpn with hh | hh
              · exact hh
              · exact absurd hh hz
            have hpg := hI.pg p hpn
            -- is this page one of those?
            have hgone : goneG σ O' p → (Pc p = σ.P p ∧ ((Pc p).kind = 1 ∧ (∀ j, j < 64 → (O' (64 * p + j)).kind = 0) ∨ (Pc p).kind = 2 ∧ (O' (64 * p)).kind = 0)) := by
              rintro ⟨_, hg⟩
              have hown : Pc p = σ.P p := by
                rw [hPc]
                exact gvP_own hI hgo' (by rcases hg with ⟨h1, _⟩ | ⟨h1, _⟩; exact .inl h1; exact .inr h1) fun hh => by omega
              refine ⟨hown, ?_⟩
              rw [hown]
              rcases hg with ⟨g1, g2⟩ | hg
              · exact .inl ⟨g1, fun j hj => g2 _ (by omega)⟩
              · exact .inr hg
            have hgone' : ((Pc p).kind = 1 ∧ (∀ j, j < 64 → (O' (64 * p + j)).kind = 0) ∨ (Pc p).kind = 2 ∧ (O' (64 * p)).kind = 0) → goneG σ O' p ∧ Pc p = σ.P p := by
              intro hh
              have hown := hsame (fun hz => by rw [hz] at hh; simp [Pg.z] at hh)
              rw [hown] at hh
              refine ⟨⟨hpn, ?_⟩, hown⟩
              rcases hh with ⟨g1, g2⟩ | hh
              · refine .inl ⟨g1, fun i hi => ?_⟩
                have := g2 (i - 64 * p) (by omega)
                rwa [show 64 * p + (i - 64 * p) = i by omega] at this
              · exact .inr hh
            have hset : ¬ goneG σ O' p → gvP σ.P (fun q => goneG σ O' q ∧ q < p + 1) = Pc := fun hng => by
              rw [hPc]
              refine gvP_congr fun q => ?_
              constructor
              · rintro ⟨h1, h2⟩
                refine ⟨h1, ?_⟩
                by_cases hqp : q = p
                · subst hqp; exact absurd h1 hng
                · omega
              · rintro ⟨h1, h2⟩; exact ⟨h1, by omega⟩
            refine ifB_nb (fun hun => ?_) fun hus => ?_
            · have hun := of_bd_not hun
              refine ⟨_, cell_of h7.hs 1, ?_⟩
              have hpM : p + pgM (Pc p) ≤ σ.n ∧ ((Pc p).kind = 2 → 0 ≤ (Pc p).run) := by
                by_cases hz : Pc p = Pg.z
                · rw [hz]; refine ⟨?_, fun hh => by simp [Pg.z] at hh⟩
                  simp [pgM, Pg.z]; omega
                · rw [hsame hz]
                  by_cases hk2 : (σ.P p).kind = 2
                  · obtain ⟨r, r1, r2, r3, r4, _⟩ := hpg.head hk2
                    rw [r3]; simp [pgM]; omega
                  · rw [pgM, if_neg hk2]; exact ⟨by omega, fun hh => absurd hh hk2⟩
              refine (c126 h7.ht (p := p) hpM.1 hpn hpM.2).use ?_
              rintro _ w8 ⟨⟨e, rfl⟩, ht8, u8⟩
              refine ⟨_, rfl, ?_⟩
              have h8 := h7.putP ht8 u8
              refine hK3 (p + 1) w8 ⟨hpn, u7.trans (u8.mono Fp), ?_⟩ (by omega)
              have hfin : gvP σ.P (fun q => goneG σ O' q ∧ q < p + 1) = if (Pc p).kind = 0 ∨ (Pc p).kind = 3 then Pc else giveP Pc p := by
                by_cases hk03 : (Pc p).kind = 0 ∨ (Pc p).kind = 3
                · rw [if_pos hk03]
                  refine hset fun hg => ?_
                  have := (hgone hg).2
                  omega
                · rw [if_neg hk03]
                  have hk12 : (Pc p).kind = 1 ∨ (Pc p).kind = 2 := by
                    have hz : Pc p ≠ Pg.z := fun hz => hk03 (by rw [hz]; exact .inl rfl)
                    have hown := hsame hz
                    rw [hown] at hk03 ⊢
                    rcases hpg with h0 | ⟨c, _, h1⟩ | ⟨r, _, _, h1, _⟩ | ⟨h1, _⟩
                    · rw [h0] at hk03; exact absurd (.inl rfl) hk03
                    · rw [h1]; exact .inl rfl
                    · rw [h1]; exact .inr rfl
                    · rw [h1] at hk03; exact absurd (.inr rfl) hk03
                  have hg : goneG σ O' p ∧ Pc p = σ.P p := hgone' (by
                    rcases hk12 with hk1 | hk2
                    · refine .inl ⟨hk1, fun j hj => ?_⟩
                      by_cases hx : (O' (64 * p + j)).kind = 0
                      · exact hx
                      · exact absurd (.inr ⟨hk1, j, hj, hx⟩) hun
                    · refine .inr ⟨hk2, ?_⟩
                      by_cases hx : (O' (64 * p)).kind = 0
                      · exact hx
                      · exact absurd (.inl ⟨hk2, hx⟩) hun)
                  have e := gvP_give (σ := σ) (gv := fun q => goneG σ O' q ∧ q < p) (p := p) (by rw [← hPc]; exact hg.2)
                  rw [← hPc] at e
                  rw [e]
                  refine gvP_congr fun q => ?_
                  constructor
                  · rintro ⟨h1, h2⟩
                    by_cases hqp : q = p
                    · exact .inr hqp
                    · exact .inl ⟨h1, by omega⟩
                  · rintro (⟨h1, h2⟩ | rfl)
                    · exact ⟨h1, by omega⟩
                    · exact ⟨hg.1, by omega⟩
              rw [hfin]
              exact h8
            · have hus := of_bd hus
              refine hK3 (p + 1) w'' ⟨hpn, u7, ?_⟩ (by omega)
              rw [hset]
              · exact h7
              · intro hg
                rcases (hgone hg).2 with ⟨g1, g2⟩ | ⟨g1, g2⟩
                · rcases hus with ⟨k1, _⟩ | ⟨_, j, hj, hj2⟩
                  · omega
                  · exact hj2 (g2 j hj)
                · rcases hus with ⟨_, k2⟩ | ⟨k1, _⟩
                  · exact k2 g2
                  · omega
        · rw [show ((O' (64 * p)).kind != 0) = decide ((Pc p).kind = 2 ∧ (O' (64 * p)).kind ≠ 0) from by
            have hk : (Pc p).kind = 2 := hk
            by_cases hx : (O' (64 * p)).kind = 0
            · rw [decide_eq_false (fun hh => hh.2 hx)]; simp [hx]
            · rw [decide_eq_true ⟨hk, hx⟩]; simpa using hx]
      · have hpe : p = σ.n := by simp only at hlt3; omega
        subst hpe
        have h6 : Rf w5 R (leftS σ stay) := by
          have : gvP σ.P (fun q => goneG σ O' q ∧ q < σ.n) = gvP σ.P (goneG σ O') := gvP_congr fun q => ⟨fun hh => hh.1, fun hh => ⟨hh, hh.1⟩⟩
          rw [this] at h5
          rw [hO'] at h5
          exact h5
        refine (c127 (hI.left stay) h6 hcw).use ?_
        rintro _ w6 ⟨rfl, h7, u7⟩
        exact ⟨rfl, rfl, h7, u5.trans u7⟩
end
end Go.Wx
end
section
/- Contracts of the program's drop and tidy. -/
set_option linter.unusedVariables false
set_option maxRecDepth 100000
namespace Go.Wx
open Go
open Classical

/-- The space when the objects below i were gone through. -/
noncomputable def partS (σ : St) (stay : Nat → Bool) (i : Nat) : St :=
  { σ with O := (fun j => if j < i then dropO σ.O stay j else σ.O j), P := gvP σ.P (fun q => goneG σ (dropO σ.O stay) q ∧ (σ.P q).kind = 2 ∧ 64 * q < i) }

section
variable {w : World} {B : Sl → Nat} {σ : St} {stay : Nat → Bool}

theorem partS_zero : partS σ stay 0 = σ := by
  unfold partS
  have h1 : (fun j => if j < 0 then dropO σ.O stay j else σ.O j) = σ.O := by funext j; rw [if_neg (by omega)]
  have h2 : gvP σ.P (fun q => goneG σ (dropO σ.O stay) q ∧ (σ.P q).kind = 2 ∧ 64 * q < 0) = σ.P := by
    funext q; rw [gvP, if_neg]; rintro ⟨x, ⟨_, _, hx⟩, _⟩; omega
  rw [h1, h2]
theorem partS_skip (hI : Inv σ) {a b : Nat} (hab : a ≤ b) (hb : b ≤ 64 * σ.n) (h : ∀ j, a ≤ j → j < b → (σ.O j).kind = 0 ∨ stay j = true) : partS σ stay a = partS σ stay b := by
  unfold partS
  have h1 : (fun j => if j < a then dropO σ.O stay j else σ.O j) = fun j => if j < b then dropO σ.O stay j else σ.O j := by
    funext j
    by_cases ha : j < a
    · rw [if_pos ha, if_pos (by omega)]
    · rw [if_neg ha]
      by_cases hb : j < b
      · rw [if_pos hb, dropO, if_neg]
        rintro ⟨h1, h2⟩
        rcases h j (by omega) hb with h3 | h3
        · exact h1 h3
        · rw [h3] at h2; cases h2
      · rw [if_neg hb]
  have h2 : gvP σ.P (fun q => goneG σ (dropO σ.O stay) q ∧ (σ.P q).kind = 2 ∧ 64 * q < a) = gvP σ.P (fun q => goneG σ (dropO σ.O stay) q ∧ (σ.P q).kind = 2 ∧ 64 * q < b) := by
    refine gvP_congr fun q => ?_
    constructor
    · rintro ⟨x, y, z⟩; exact ⟨x, y, by omega⟩
    · rintro ⟨x, y, z⟩
      refine ⟨x, y, ?_⟩
      rcases Nat.lt_or_ge (64 * q) a with hq | hq
      · exact hq
      · exfalso
        have hd := hI.hd q x.1 y
        rcases x.2 with ⟨k1, _⟩ | ⟨_, k2⟩
        · omega
        · rcases h (64 * q) hq z with h3 | h3
          · exact hd h3
          · unfold dropO at k2
            rw [if_neg (fun hh => by rw [h3] at hh; cases hh.2)] at k2
            exact hd k2
  rw [h1, h2]

theorem partS_O {a : Nat} (hk : (σ.O a).kind ≠ 0) (hs : stay a = false) : (partS σ stay (a + 1)).O = up (partS σ stay a).O a Bk.z := by
  funext j
  show (if j < a + 1 then dropO σ.O stay j else σ.O j) = up (fun j => if j < a then dropO σ.O stay j else σ.O j) a Bk.z j
  unfold up
  dsimp only
  by_cases hj : j = a
  · rw [if_pos (by omega), if_pos hj, hj, dropO, if_pos ⟨hk, hs⟩]
  · rw [if_neg hj]
    by_cases hj2 : j < a
    · rw [if_pos hj2, if_pos (by omega)]
    · rw [if_neg hj2, if_neg (by omega)]
theorem partS_at {a : Nat} : (partS σ stay a).O a = σ.O a := by show (if a < a then _ else _) = _; rw [if_neg (by omega)]
theorem partS_sub {a i : Nat} (hk : ((partS σ stay a).O i).kind ≠ 0) : (partS σ stay a).O i = σ.O i ∧ (σ.O i).kind ≠ 0 := by
  have hk : (if i < a then dropO σ.O stay i else σ.O i).kind ≠ 0 := hk
  show (if i < a then dropO σ.O stay i else σ.O i) = σ.O i ∧ _
  by_cases hi : i < a
  · rw [if_pos hi] at hk ⊢
    obtain ⟨h1, h2, _⟩ := dropO_kind hk
    exact ⟨h1, h2⟩
  · rw [if_neg hi] at hk ⊢
    exact ⟨rfl, hk⟩

theorem c122 (hI : Inv σ) {F : Nat → Nat → Bool} {a : Nat} (ha : a < 64 * σ.n) (hk : (σ.O a).kind ≠ 0) (hs : stay a = false) (h : SpR w B { rawOf (partS σ stay a) with fr := F }) :
    Ret PR 122 [pt (B .s), I a] w fun v w' => v = .tuple (Array.mk []) ∧ SpR w' B { rawOf (partS σ stay (a + 1)) with fr := F } ∧ Upd (spF B) w w' := by
  refine Ret.of ((S122_eq _ _ w _).mpr ?_)
  unfold S122
  have hn2 := hI.n2
  have ho := hI.ob a ha hk
  obtain ⟨k1, k2, s1, s2⟩ := fitS_rng ho.fit
  have hlt0 : ∀ x : Sl, x.ok → B x < w.heap.size := fun x hx => SpR.lt h hx
  have hwx : ∀ x : Sl, x.ok → w.heap.size ≠ B x := fun x hx e => by have := hlt0 x hx; omega
  have hat := partS_at (σ := σ) (stay := stay) (a := a)
  obtain ⟨es, ck, g1, g2⟩ := h.hsh
  obtain ⟨res, g3, g4⟩ := g2.find a
  have hg : ∀ z, mgot res z = shV (σ.O a) := fun z => mgot_some (by
    rw [g4]
    show shL σ.n (partS σ stay a).O a = _
    rw [shL, if_pos ⟨by omega, by omega, by rw [Int.toNat_natCast, hat]; exact hk⟩, Int.toNat_natCast, hat])
  refine ⟨_, cell_of h.hs 11, es, ck, res, ⟨g1, g3⟩, _, _, _, _, (hg _).symm, atW_new fun w1 n1 => stx_at _ n1.at0 (by simp) rfl fun w2 p2 => ?_⟩
  have h2 := (h.kp n1.ext).putNew p2 hlt0
  have k2' : Kp w w2 := n1.ext.put p2 (Nat.le_refl _)
  obtain ⟨es2, ck2, q1, q2⟩ := h2.hsh
  obtain ⟨res2, q3, q4⟩ := q2.find a
  obtain ⟨es3, q5, q6⟩ := q2.del q3 ck2
  refine ⟨_, cell_of h2.hs 11, es2, ck2, res2, ⟨q1, q3⟩, ?_⟩
  rw [q5]
  refine atW_put (lt_of_look q1) fun w3 p3 => ?_
  have h3 := h2.putH p3 q6
  have u3 : Upd (spF B) w w3 := (Kp.upd k2').trans (p3.upd.mono (one_F (x := .sh) trivial))
  have hb3 := p3.at p2.at0 (hwx .sh trivial)
  have hl0 := hI.last0
  refine ⟨fun _ w' => Upd (spF B) w w' ∧ w'.heap[w.heap.size]? = some (Bl [I (σ.O a).kind, I (σ.O a).size, I (σ.O a).serial, I (σ.O a).tag] 97) ∧
    SpR w' B { rawOf (partS σ stay a) with fr := F, sh := (fun j => if j = a then none else shL σ.n (partS σ stay a).O j), pl := plL (partS σ stay (a + 1)) }, ?_, ?_⟩
  rotate_left
  · have hser : 0 < (σ.O a).serial → ∀ s, plL (partS σ stay (a + 1)) s = if s = (σ.O a).serial then none else plL (partS σ stay a) s := by
      intro hpos s
      have hfn : fnS (partS σ stay (a + 1)) s = if s = (σ.O a).serial then -1 else fnS (partS σ stay a) s := by
        unfold fnS
        rw [partS_O hk hs]
        by_cases hs1 : s ≥ 1
        · rw [if_pos hs1, if_pos hs1]
          by_cases hsa : s = (σ.O a).serial
          · rw [if_pos hsa]
            refine nxt_none fun j _ hj => decide_eq_false ?_
            rintro ⟨c1, c2⟩
            by_cases hja : j = a
            · subst hja; rw [up_same] at c1; simp [Bk.z] at c1
            · rw [up_other _ _ hja] at c1 c2
              obtain ⟨d1, d2⟩ := partS_sub c1
              rw [d1] at c2
              exact hja (hI.ser j a hj ha d2 hk (by omega) (by omega))
          · rw [if_neg hsa]
            refine nxt_congr fun j _ hj => ?_
            rw [decide_eq_decide]
            by_cases hja : j = a
            · subst hja
              rw [up_same, hat]
              constructor
              · rintro ⟨c1, _⟩; simp [Bk.z] at c1
              · rintro ⟨_, c2⟩; exact absurd c2.symm hsa
            · rw [up_other _ _ hja]
        · rw [if_neg hs1, if_neg hs1]; split <;> rfl
      unfold plL
      rw [hfn]
      by_cases hsa : s = (σ.O a).serial
      · rw [if_pos hsa, if_pos hsa, if_pos (by omega)]
      · rw [if_neg hsa, if_neg hsa]
    have hser0 : ¬ 0 < (σ.O a).serial → plL (partS σ stay (a + 1)) = plL (partS σ stay a) := by
      intro hz
      funext s
      have hfn : fnS (partS σ stay (a + 1)) s = fnS (partS σ stay a) s := by
        unfold fnS
        rw [partS_O hk hs]
        by_cases hs1 : s ≥ 1
        · rw [if_pos hs1, if_pos hs1]
          refine nxt_congr fun j _ hj => ?_
          rw [decide_eq_decide]
          by_cases hja : j = a
          · subst hja
            rw [up_same, hat]
            constructor
            · rintro ⟨c1, _⟩; simp [Bk.z] at c1
            · rintro ⟨_, c2⟩; omega
          · rw [up_other _ _ hja]
        · rw [if_neg hs1, if_neg hs1]
      unfold plL; rw [hfn]
    refine ⟨_, cell_of hb3 2, ifB_d (fun hpos => ?_) fun hpos => ⟨u3, hb3, ?_⟩⟩
    · generalize hwd : World.drew w3 = wd
      have d3 : Kp w3 wd := hwd ▸ ext_drew w3
      have h4 := h3.kp d3
      refine ⟨_, cell_of h4.hs 12, _, cell_of (d3.at hb3) 2, ?_⟩
      obtain ⟨es4, ck4, r1, r2⟩ := h4.hpl
      obtain ⟨res4, r3, r4⟩ := r2.find (σ.O a).serial
      obtain ⟨es5, r5, r6⟩ := r2.del r3 ck4
      refine ⟨es4, ck4, res4, ⟨r1, r3⟩, ?_⟩
      rw [r5]
      refine atW_put (lt_of_look r1) fun w5 p5 => ?_
      have h5 := h4.putL p5 r6
      refine ⟨(u3.trans (Kp.upd d3)).trans (p5.upd.mono (one_F (x := .pl) trivial)), p5.at (d3.at hb3) (hwx .pl trivial), ?_⟩
      refine h5.congr rfl (fun _ _ => rfl) (fun _ _ => rfl) (fun _ _ => rfl) (fun _ _ _ _ => rfl) rfl ?_ rfl rfl
      funext s
      exact hser hpos s
    · refine h3.congr rfl (fun _ _ => rfl) (fun _ _ => rfl) (fun _ _ => rfl) (fun _ _ _ _ => rfl) rfl ?_ rfl rfl
      exact hser0 hpos
  rintro _ w4 ⟨u4, hb4, h4⟩
  refine ⟨_, cell_of h4.hs 2, ?_⟩
  refine (c104 h4.hk (i := a) ha).use ?_
  rintro _ w5 ⟨rfl, hbm, u5'⟩
  have h5 := h4.putK hbm u5'
  have u5 : Upd (spF B) w w5 := u4.trans (u5'.mono (one_F (x := .kr) trivial))
  have hb5 := u5'.at hb4 (hwx .kr trivial)
  refine ⟨_, rfl, ?_⟩
  generalize hwd : World.drew w5 = wd
  have d5 : Kp w5 wd := hwd ▸ ext_drew w5
  have h6 := h5.kp d5
  refine ⟨_, cell_of (d5.at hb5) 1, _, cell_of h6.hs 14, ?_⟩
  refine (c55 wd (σ.O a).size).use fun w7 e7 => ⟨_, rfl, e7.draw, ?_⟩
  have h7 := h6.kp e7
  have bnd : ∀ n : Nat, n ≤ 64 * σ.n → 0 ≤ sumI (roomAt (partS σ stay a).O) n ∧ sumI (roomAt (partS σ stay a).O) n ≤ 1024 * n := by
    intro n
    induction n with
    | zero => intro _; exact ⟨Int.le_refl _, Int.le_refl _⟩
    | succ n ih =>
      intro hn
      have := ih (by omega)
      rw [sumI]
      have hr : 0 ≤ roomAt (partS σ stay a).O n ∧ roomAt (partS σ stay a).O n ≤ 1024 := by
        unfold roomAt
        split
        · rename_i hk
          obtain ⟨e1, e2⟩ := partS_sub hk
          rw [e1]
          obtain ⟨r1, r2, _⟩ := hI.room (i := n) (by omega) e2
          have := size_room r1 r2
          omega
        · omega
      omega
  have hb0 := bnd (64 * σ.n) (Nat.le_refl _)
  have hsr := size_room s1 s2
  rw [add_mk, wrap_id (by show -9223372036854775808 ≤ rmS (partS σ stay a) - roomS (σ.O a).size; unfold rmS; show _ ≤ sumI (roomAt (partS σ stay a).O) (64 * σ.n) - _; omega) (by show rmS (partS σ stay a) - roomS (σ.O a).size < _; unfold rmS; show sumI (roomAt (partS σ stay a).O) (64 * σ.n) - _ < _; omega)]
  refine stx_at _ h7.hs (by simp [sCells]) rfl fun w8 p8 => ?_
  have h8 := h7.putS (x := σ.last) (y := rmS (partS σ stay a) - roomS (σ.O a).size) p8
  have u8 : Upd (spF B) w w8 := (u5.trans (Kp.upd (d5.trans e7))).trans (p8.upd.mono (one_F (x := .s) trivial))
  have hb8 := p8.at (e7.at (d5.at hb5)) (hwx .s trivial)
  refine ⟨_, cell_of hb8 1, ?_⟩
  refine (c78 w8 (σ.O a).size).use fun w9 e9 => ⟨_, rfl, ?_⟩
  have h9 := h8.kp e9
  have u9 := u8.trans (Kp.upd e9)
  have hrm : rmS (partS σ stay a) - roomS (σ.O a).size = rmS (partS σ stay (a + 1)) := by
    have : roomAt (partS σ stay (a + 1)).O = fun i => if i = a then 0 else roomAt (partS σ stay a).O i := by
      funext i
      rw [partS_O hk hs]
      unfold roomAt
      by_cases hia : i = a
      · subst hia; rw [up_same, if_pos rfl]; simp [Bk.z]
      · rw [up_other _ _ hia, if_neg hia]
    show _ = sumI (roomAt (partS σ stay (a + 1)).O) (64 * σ.n)
    rw [this, sumI_up ha, show roomAt (partS σ stay a).O a = roomS (σ.O a).size by rw [roomAt, hat, if_pos hk]]
    show sumI (roomAt (partS σ stay a).O) (64 * σ.n) - _ = _
    omega
  have hPs : ∀ q, goneG σ (dropO σ.O stay) q ∧ (σ.P q).kind = 2 ∧ 64 * q < a + 1 ↔ (goneG σ (dropO σ.O stay) q ∧ (σ.P q).kind = 2 ∧ 64 * q < a) ∨ (q = a / 64 ∧ ofS (σ.O a).size = 8) := by
    intro q
    constructor
    · rintro ⟨x, y, z⟩
      by_cases hq : 64 * q < a
      · exact .inl ⟨x, y, hq⟩
      · right
        have hqa : 64 * q = a := by omega
        refine ⟨by omega, ?_⟩
        rcases ho.pl with ⟨c, hc, t1, t2, _⟩ | ⟨t1, _⟩
        · rw [show a / 64 = q by omega] at t2; rw [t2] at y; simp at y
        · exact t1
    · rintro (⟨x, y, z⟩ | ⟨rfl, h8⟩)
      · exact ⟨x, y, by omega⟩
      · rcases ho.pl with ⟨c, hc, t1, _⟩ | ⟨_, t1, t2⟩
        · omega
        · refine ⟨⟨by omega, .inr ⟨by rw [t2], ?_⟩⟩, by rw [t2], by omega⟩
          rw [show 64 * (a / 64) = a by omega, dropO, if_pos ⟨hk, hs⟩]; rfl
  have fin : ∀ w10, Upd (spF B) w w10 → SpR w10 B { rawOf (partS σ stay a) with fr := F, sh := (fun j => if j = a then none else shL σ.n (partS σ stay a).O j), pl := plL (partS σ stay (a + 1)), tk := up (isO (partS σ stay a)) a false, last := σ.last, room := rmS (partS σ stay a) - roomS (σ.O a).size, P := (partS σ stay (a + 1)).P } →
      (Value.tuple (Array.mk []) = Value.tuple (Array.mk []) ∧ SpR w10 B { rawOf (partS σ stay (a + 1)) with fr := F } ∧ Upd (spF B) w w10) := by
    intro w10 u10 h10
    refine ⟨rfl, h10.congr rfl (fun _ _ => rfl) (fun _ _ => rfl) (fun j hj => ?_) (fun _ _ _ _ => rfl) ?_ rfl rfl ?_, u10⟩
    · show up (isO (partS σ stay a)) a false j = decide (((partS σ stay (a + 1)).O j).kind ≠ 0)
      rw [partS_O hk hs]
      by_cases hja : j = a
      · subst hja; rw [up_same, up_same]; rfl
      · rw [up_other _ _ hja, up_other _ _ hja]
    · funext j
      show shL σ.n (partS σ stay (a + 1)).O j = if j = a then none else shL σ.n (partS σ stay a).O j
      rw [partS_O hk hs]
      unfold shL
      by_cases hja : j = a
      · subst hja
        rw [if_pos rfl, if_neg]
        rintro ⟨_, _, hh⟩
        rw [Int.toNat_natCast, up_same] at hh; simp [Bk.z] at hh
      · rw [if_neg hja]
        by_cases hj0 : 0 ≤ j
        · rw [up_other _ _ (by omega)]
        · rw [if_neg (fun hh => hj0 hh.1), if_neg (fun hh => hj0 hh.1)]
    · show rmS (partS σ stay (a + 1)) = _
      rw [hrm]
  refine ifB_eq (fun h8e => ?_) fun h8e => ?_
  · have hpl : a % 64 = 0 ∧ σ.P (a / 64) = ⟨2, 0, pgS (σ.O a).size⟩ := by
      rcases ho.pl with ⟨c, hc, t1, _⟩ | ⟨_, t1, t2⟩
      · omega
      · exact ⟨t1, t2⟩
    refine ⟨_, cell_of h9.hs 1, ?_⟩
    obtain ⟨low, free, ht⟩ := h9.ht
    have ht : Tb w9 (B .t) (B .p) σ.n σ.n (partS σ stay a).P low free := ht
    have hown : (partS σ stay a).P (a / 64) = σ.P (a / 64) := gvP_own hI (fun q hq => goneG_ok _ q hq.1) (.inr (by rw [hpl.2])) (by rintro ⟨_, _, hh⟩; omega)
    obtain ⟨r, r1, r2, r3, r4, _⟩ := (hI.pg (a / 64) (by omega)).head (by rw [hpl.2])
    rw [show IntKind.i64.wrap ((a : Int).tdiv 64) = ((a / 64 : Nat) : Int) by rw [Int.tdiv_eq_ediv_of_nonneg (by omega), wrap_id (by omega) (by omega)]; simp]
    refine (c144 ht (p := a / 64) (by rw [hown, r3, pgM, if_pos rfl]; simpa using r4) (.inr (by rw [hown, r3]; exact ⟨rfl, by simp; omega⟩))).use ?_
    rintro _ w10 ⟨rfl, ht10, u10⟩
    refine ⟨_, rfl, ?_⟩
    have h10 := h9.putP ht10 u10
    refine fin w10 (u9.trans (u10.mono fun b hb => hb.elim (fun e => ⟨.t, trivial, e⟩) (fun e => ⟨.p, trivial, e⟩))) ?_
    have e : giveP (partS σ stay a).P (a / 64) = (partS σ stay (a + 1)).P := by
      show giveP (gvP σ.P _) (a / 64) = gvP σ.P _
      rw [gvP_give hown]
      exact gvP_congr fun q => ⟨fun hh => (hPs q).2 (hh.imp id fun e => ⟨e, h8e⟩), fun hh => ((hPs q).1 hh).imp id fun e => e.1⟩
    rw [← e]
    exact h10
  · refine fin w9 u9 ?_
    have e : (partS σ stay a).P = (partS σ stay (a + 1)).P := by
      show gvP σ.P _ = gvP σ.P _
      exact gvP_congr fun q => ⟨fun hh => (hPs q).2 (.inl hh), fun hh => ((hPs q).1 hh).elim id fun e => absurd e.2 h8e⟩
    rw [← e]
    exact h9
end
end Go.Wx
end
section
/- The contract of the program's tidy. -/
set_option linter.unusedVariables false
set_option maxRecDepth 100000
namespace Go.Wx
open Go
open Classical

theorem in_block {c p q j : Nat} (hc : c < 8) (hq : q < bkN c) : (64 * p + q * wdN c ≤ j ∧ j < 64 * p + q * wdN c + wdN c) ↔ (j / 64 = p ∧ (j % 64) / wdN c = q) := by
  obtain ⟨v1, v2, v3, v4, v5, v6, v7⟩ := wdN_pos hc
  have hle : (q + 1) * wdN c ≤ 64 := Nat.le_trans (Nat.mul_le_mul_right _ hq) v5
  rw [Nat.add_mul, Nat.one_mul] at hle
  constructor
  · rintro ⟨h1, h2⟩
    refine ⟨by omega, ?_⟩
    have e : j % 64 = wdN c * q + (j - 64 * p - q * wdN c) := by rw [Nat.mul_comm]; omega
    rw [e, Nat.mul_add_div (by omega), Nat.div_eq_of_lt (by omega)]; omega
  · rintro ⟨h1, h2⟩
    have h3 := Nat.div_add_mod (j % 64) (wdN c)
    have h4 := Nat.mod_lt (j % 64) (show 0 < wdN c by omega)
    rw [h2, Nat.mul_comm] at h3
    omega

section
variable {σ : St}
/-- The rooms of a class's page. -/
theorem ins_class (hI : Inv σ) {c i : Nat} (hc : c < 8) (hi : i < 64 * σ.n) (hP : σ.P (i / 64) = ⟨1, c, 0⟩) : ins σ i ↔ (i % 64) / wdN c < bkN c ∧ (σ.O (64 * (i / 64) + (i % 64) / wdN c * wdN c)).kind ≠ 0 := by
  obtain ⟨v1, v2, v3, v4, v5, v6, v7⟩ := wdN_pos hc
  constructor
  · rintro ⟨j, hj, hk, hji, hlt⟩
    have ho := hI.ob j hj hk
    rcases ho.pl with ⟨c', hc', t1, t2, t3, t4⟩ | ⟨t1, t2, t3⟩
    · rw [roomS_small hc' t1] at hlt
      have hb := blk_in hc' t3 t4
      have hpg : i / 64 = j / 64 := by omega
      rw [hpg, t2] at hP
      injection hP with _ hcc _
      have hcc : c' = c := by omega
      subst hcc
      have hjf : j = 64 * (j / 64) + (j % 64) / wdN c' * wdN c' := by
        have := Nat.div_add_mod (j % 64) (wdN c')
        rw [t3, Nat.mul_comm] at this; omega
      have := (in_block (p := j / 64) (q := (j % 64) / wdN c') (j := i) hc' t4).1 (by omega)
      rw [this.1, this.2, ← hjf]
      exact ⟨t4, hk⟩
    · exfalso
      rw [roomS_big t1] at hlt
      obtain ⟨r, r1, r2, r3, r4, r5⟩ := (hI.pg (j / 64) (by omega)).head (by rw [t3])
      rw [t3] at r3
      injection r3 with _ _ r3
      by_cases hpe : i / 64 = j / 64
      · rw [hpe, t3] at hP; simp at hP
      · have := r5 (i / 64 - j / 64) (by omega) (by omega)
        rw [show j / 64 + (i / 64 - j / 64) = i / 64 by omega, hP] at this
        simp at this
  · rintro ⟨h1, h2⟩
    have hbl := (in_block (p := i / 64) (q := (i % 64) / wdN c) (j := i) hc h1).2 ⟨rfl, rfl⟩
    have hlt : 64 * (i / 64) + (i % 64) / wdN c * wdN c < 64 * σ.n := by omega
    refine ⟨_, hlt, h2, hbl.1, ?_⟩
    have ho := hI.ob _ hlt h2
    have hpg : (64 * (i / 64) + (i % 64) / wdN c * wdN c) / 64 = i / 64 := by omega
    rcases ho.pl with ⟨c', hc', t1, t2, _⟩ | ⟨t1, t2, t3⟩
    · rw [hpg, hP] at t2
      injection t2 with _ hcc _
      have hcc : c' = c := by omega
      subst hcc
      rw [roomS_small hc' t1]; omega
    · rw [hpg, hP] at t3; simp at t3
theorem ins_kind (hI : Inv σ) {i : Nat} (h : ins σ i) : (σ.P (i / 64)).kind ≠ 0 := by
  obtain ⟨j, hj, hk, hji, hlt⟩ := h
  have ho := hI.ob j hj hk
  rcases ho.pl with ⟨c', hc', t1, t2, t3, t4⟩ | ⟨t1, t2, t3⟩
  · rw [roomS_small hc' t1] at hlt
    have hb := blk_in hc' t3 t4
    rw [show i / 64 = j / 64 by omega, t2]; simp
  · rw [roomS_big t1] at hlt
    obtain ⟨r, r1, r2, r3, r4, r5⟩ := (hI.pg (j / 64) (by omega)).head (by rw [t3])
    rw [t3] at r3
    injection r3 with _ _ r3
    by_cases hpe : i / 64 = j / 64
    · rw [hpe, t3]; simp
    · have := r5 (i / 64 - j / 64) (by omega) (by omega)
      rw [show j / 64 + (i / 64 - j / 64) = i / 64 by omega] at this
      rw [this]; simp
theorem ins_run (hI : Inv σ) {i : Nat} (hi : i < 64 * σ.n) (h : (σ.P (i / 64)).kind = 2 ∨ (σ.P (i / 64)).kind = 3) : ins σ i := by
  have key : ∀ hd r : Nat, hd < σ.n → σ.P hd = ⟨2, 0, r⟩ → hd ≤ i / 64 → i / 64 < hd + r → ins σ i := by
    intro hd r h1 h2 h3 h4
    have hk := hI.hd hd h1 (by rw [h2])
    have ho := hI.ob (64 * hd) (by omega) hk
    refine ⟨64 * hd, by omega, hk, by omega, ?_⟩
    rcases ho.pl with ⟨c', hc', t1, t2, _⟩ | ⟨t1, t2, t3⟩
    · rw [show 64 * hd / 64 = hd by omega, h2] at t2; simp at t2
    · rw [show 64 * hd / 64 = hd by omega, h2] at t3
      injection t3 with _ _ t3
      rw [roomS_big t1]; omega
  have hpg := hI.pg (i / 64) (by omega)
  rcases h with h | h
  · obtain ⟨r, r1, r2, r3, _⟩ := hpg.head h
    exact key _ r (by omega) r3 (Nat.le_refl _) (by omega)
  · rcases hpg with h0 | ⟨c, _, h1⟩ | ⟨r, _, _, h1, _⟩ | ⟨_, hh, r, r1, r2, r3⟩
    · rw [h0] at h; simp [Pg.z] at h
    · rw [h1] at h; simp at h
    · rw [h1] at h; simp at h
    · exact key hh r (by omega) r3 (by omega) r2
theorem frB_kind {c i : Nat} (h : (σ.P (i / 64)).kind ≠ 1) : frB σ c i = false := by
  cases hf : frB σ c i with
  | false => rfl
  | true => exact absurd (frB_iff.1 hf).1 h
theorem plL_congr {σ σ' : St} (hn : σ'.n = σ.n) (hO : ∀ i, i < 64 * σ.n → σ.O i = σ'.O i) : plL σ' = plL σ := by
  have : ∀ s, fnS σ' s = fnS σ s := by
    intro s
    unfold fnS
    rw [hn]
    by_cases hs : s ≥ 1
    · rw [if_pos hs, if_pos hs]
      exact nxt_congr fun j _ hj => by rw [hO j hj]
    · rw [if_neg hs, if_neg hs]
  funext s
  unfold plL
  rw [this]
theorem shL_congr {n : Nat} {O O' : Nat → Bk} (hO : ∀ i, i < 64 * n → O i = O' i) : shL n O' = shL n O := by
  funext k
  unfold shL
  by_cases hk : 0 ≤ k ∧ k < ((64 * n : Nat) : Int)
  · rw [hO k.toNat (by omega)]
  · rw [if_neg (fun hh => hk ⟨hh.1, hh.2.1⟩), if_neg (fun hh => hk ⟨hh.1, hh.2.1⟩)]
theorem rmS_congr {σ σ' : St} (hn : σ'.n = σ.n) (hO : ∀ i, i < 64 * σ.n → σ.O i = σ'.O i) : rmS σ' = rmS σ := by
  have : ∀ m, m ≤ 64 * σ.n → sumI (roomAt σ'.O) m = sumI (roomAt σ.O) m := by
    intro m
    induction m with
    | zero => intro _; rfl
    | succ m ih => intro hm; rw [sumI, sumI, ih (by omega), roomAt, roomAt, hO m (by omega)]
  unfold rmS; rw [hn]; exact this _ (Nat.le_refl _)
end

theorem SpR.words {w : World} {B : Sl → Nat} {ρ : Raw} (h : SpR w B ρ) {m : Nat} (hn : ρ.n = m) : w.cell? ((Addr.mk (B .s) 0 none).add 0) = some (.slice (some ⟨B .w, 0, none⟩) (64 * m) (64 * m)) := by
  subst hn; exact cell_of h.hs 0

section
variable {w : World} {B : Sl → Nat} {σ : St} {stay : Nat → Bool}
noncomputable def ptP (σ : St) (stay : Nat → Bool) (p : Nat) : Nat → Pg := gvP σ.P (fun q => goneG σ (dropO σ.O stay) q ∧ ((σ.P q).kind = 2 ∨ q < p))
noncomputable def trR (σ : St) (stay : Nat → Bool) (p : Nat) : Raw :=
  { rawOf (leftS σ stay) with P := ptP σ stay p, W := (fun i => if i / 64 < p then clW (leftS σ stay) i else σ.W i), fr := (fun c i => if i / 64 < p then frB (leftS σ stay) c i else false) }

theorem ptP_here (hI : Inv σ) {p : Nat} : ptP σ stay (p + 1) p = (leftS σ stay).P p := by
  show gvP σ.P _ p = gvP σ.P _ p
  unfold gvP
  have : (∃ h, (goneG σ (dropO σ.O stay) h ∧ ((σ.P h).kind = 2 ∨ h < p + 1)) ∧ h ≤ p ∧ p < h + pgM (σ.P h)) ↔ (∃ h, goneG σ (dropO σ.O stay) h ∧ h ≤ p ∧ p < h + pgM (σ.P h)) := by
    constructor
    · rintro ⟨h, ⟨h1, _⟩, h2⟩; exact ⟨h, h1, h2⟩
    · rintro ⟨h, h1, h2⟩; exact ⟨h, ⟨h1, .inr (by omega)⟩, h2⟩
  by_cases hx : ∃ h, goneG σ (dropO σ.O stay) h ∧ h ≤ p ∧ p < h + pgM (σ.P h)
  · rw [if_pos hx, if_pos (this.2 hx)]
  · rw [if_neg hx, if_neg (fun hh => hx (this.1 hh))]

theorem c125 (hI : Inv σ) {p : Nat} (hp : p < σ.n) (h : SpR w B (trR σ stay p)) : Ret PR 125 [pt (B .s), I p] w fun v w' => v = .tuple (Array.mk []) ∧ SpR w' B (trR σ stay (p + 1)) ∧ Upd (spF B) w w' := by
  refine Ret.of ((S125_eq _ _ w _).mpr ?_)
  unfold S125
  have hn2 := hI.n2
  have hIL := hI.left stay
  have hlt0 : ∀ x : Sl, x.ok → B x < w.heap.size := fun x hx => SpR.lt h hx
  have e64 : IntKind.i64.wrap ((p : Int) * 64) = ((64 * p : Nat) : Int) := by rw [wrap_id (by omega) (by omega)]; simp; omega
  have e128 : IntKind.i64.wrap (((64 * p : Nat) : Int) + 64) = ((64 * p + 64 : Nat) : Int) := by rw [wrap_id (by omega) (by omega)]; simp
  rw [e64, e128]
  refine ⟨_, cell_of h.hs 1, ?_⟩
  obtain ⟨low, free, ht⟩ := h.ht
  have ht : Tb w (B .t) (B .p) σ.n σ.n (ptP σ stay p) low free := ht
  refine (c145 ht hp).use fun w1 e1 => ⟨_, _, _, _, rfl, atW_new fun w2 n2 => stx_at _ n2.at0 (by simp) rfl fun w3 p3 => ?_⟩
  have k3 : Kp w w3 := (e1.trans n2.ext).put p3 (by have := e1.sz; omega)
  have h3 := h.kp k3
  obtain ⟨xb, hxb⟩ : ∃ xb, xb = w1.heap.size := ⟨_, rfl⟩
  rw [← hxb] at p3 ⊢
  have hxl : w.heap.size ≤ xb := by have := e1.sz; omega
  have hwx : ∀ x : Sl, x.ok → xb ≠ B x := fun x hx e => by have := hlt0 x hx; omega
  have hb3 : w3.heap[xb]? = some (Bl (ptP σ stay p p).cells 152) := p3.at0
  obtain ⟨O', hO'⟩ : ∃ O', O' = dropO σ.O stay := ⟨_, rfl⟩
  have hgo := goneG_ok (σ := σ) O'
  have hown : goneG σ O' p → (σ.P p).kind = 1 → ptP σ stay p p = σ.P p := fun hg hk => gvP_own hI (fun q hq => by rw [← hO'] at hq; exact hgo q hq.1) (.inl hk) (by rintro ⟨_, hh⟩; omega)
  have hcur : (ptP σ stay p p).kind = 1 → ptP σ stay p p = σ.P p := fun hk => by
    rcases gvP_kind hI (gv := fun q => goneG σ (dropO σ.O stay) q ∧ ((σ.P q).kind = 2 ∨ q < p)) hp with hh | hh
    · exact hh
    · have : ptP σ stay p p = Pg.z := hh
      rw [this] at hk; simp [Pg.z] at hk
  have hsame : ¬ (goneG σ O' p ∧ (σ.P p).kind = 1) → ptP σ stay (p + 1) = ptP σ stay p := fun hn => by
    show gvP σ.P _ = gvP σ.P _
    refine gvP_congr fun q => ?_
    constructor
    · rintro ⟨h1, h2⟩
      refine ⟨h1, ?_⟩
      rcases h2 with h2 | h2
      · exact .inl h2
      · by_cases hqp : q = p
        · subst hqp
          rcases (goneG_ok _ q h1).2 with hk | hk
          · exact absurd ⟨hO' ▸ h1, hk⟩ hn
          · exact .inl hk
        · exact .inr (by omega)
    · rintro ⟨h1, h2⟩; exact ⟨h1, h2.imp id fun h => by omega⟩
  -- the page given back?
  refine ⟨fun _ w' => Upd (spF B) w w' ∧ w'.heap[xb]? = some (Bl (ptP σ stay (p + 1) p).cells 152) ∧ SpR w' B { trR σ stay p with P := ptP σ stay (p + 1) }, ?_, ?_⟩
  rotate_left
  · refine ⟨fun s w' => Kp w w' ∧ w'.heap[xb]? = some (Bl (ptP σ stay p p).cells 152) ∧ s = (bd (goneG σ O' p ∧ (σ.P p).kind = 1), ()), ?_, ⟨_, cell_of hb3 0, ifB_eq (fun hk => ?_) fun hk => ⟨k3, hb3, ?_⟩⟩⟩
    · rintro s w4 ⟨k4, hb4, rfl⟩
      have h4 := h.kp k4
      refine ifB_b (fun hg => ?_) fun hg => ?_
      · obtain ⟨hg, hk⟩ := of_bd hg
        have hcurE := hown hg hk
        refine ⟨_, cell_of h4.hs 1, ?_⟩
        obtain ⟨low, free, ht⟩ := h4.ht
        have ht : Tb w4 (B .t) (B .p) σ.n σ.n (ptP σ stay p) low free := ht
        obtain ⟨c, hc, hPc⟩ := (hI.pg p hp).clsz hk
        refine (c144 ht (p := p) (by rw [hcurE, pgM_1 hk]; omega) (.inl (by rw [hcurE, hPc]; exact ⟨rfl, rfl⟩))).use ?_
        rintro _ w5 ⟨rfl, ht5, u5⟩
        refine ⟨_, rfl, ?_⟩
        have h5 := h4.putP ht5 u5
        have Ft : ∀ b, two (B .t) (B .p) b → spF B b := fun b hb => hb.elim (fun e => ⟨.t, trivial, e⟩) (fun e => ⟨.p, trivial, e⟩)
        have hb5 := u5.at hb4 fun hh => hh.elim (hwx .t trivial) (hwx .p trivial)
        refine stx_at _ hb5 (by simp [Pg.cells]) rfl fun w6 p6 => ⟨((Kp.upd k4).trans (u5.mono Ft)).put p6 hxl, ?_, ?_⟩
        · rw [p6.at0]
          refine bl_eq ?_
          have : ptP σ stay (p + 1) p = Pg.z := by
            show gvP σ.P _ p = _
            rw [gvP, if_pos ⟨p, ⟨hO' ▸ hg, .inr (by omega)⟩, Nat.le_refl _, by rw [pgM_1 hk]; omega⟩]
          rw [this]; rfl
        · have h6 := h5.putNew p6 fun x hx => by have := hlt0 x hx; omega
          have e : giveP (ptP σ stay p) p = ptP σ stay (p + 1) := by
            show giveP (gvP σ.P _) p = gvP σ.P _
            rw [gvP_give hcurE]
            refine gvP_congr fun q => ?_
            constructor
            · rintro (⟨h1, h2⟩ | rfl)
              · exact ⟨h1, h2.imp id fun h => by omega⟩
              · exact ⟨hO' ▸ hg, .inr (by omega)⟩
            · rintro ⟨h1, h2⟩
              by_cases hqp : q = p
              · exact .inr hqp
              · exact .inl ⟨h1, h2.imp id fun h => by omega⟩
          rw [← e]; exact h6
      · have hn := of_bd_not hg
        rw [hsame hn]
        exact ⟨Kp.upd k4, hb4, h4⟩
    · refine ⟨_, cell_of h3.hs 2, ?_⟩
      have hk : (ptP σ stay p p).kind = 1 := hk
      have hcurE := hcur hk
      refine (c132 h3.hk (x := 64 * p) (y := 64 * p + 64) (by omega) (by show 64 * p + 64 ≤ 64 * σ.n; omega)).use fun w4 e4 => ⟨_, rfl, k3.trans e4, e4.at hb3, ?_⟩
      have hiff : (((cnt (isO (leftS σ stay)) (64 * p) (64 * p + 64) : Nat) : Int) == 0) = bd (goneG σ O' p ∧ (σ.P p).kind = 1) := by
        by_cases hz : cnt (isO (leftS σ stay)) (64 * p) (64 * p + 64) = 0
        · rw [hz, bd_true]
          · rfl
          · refine ⟨⟨hp, .inl ⟨by rw [← hcurE]; exact hk, fun i hi => ?_⟩⟩, by rw [← hcurE]; exact hk⟩
            have := (cnt_zero_iff _).1 hz i (by omega) (by omega)
            rw [hO']
            exact Classical.not_not.1 (of_decide_eq_false this)
        · rw [bd_false]
          · simpa using hz
          · rintro ⟨⟨_, hg⟩, hk1⟩
            apply hz
            rw [cnt_zero_iff]
            intro j h1 h2
            rcases hg with ⟨_, hg⟩ | ⟨hg, _⟩
            · refine decide_eq_false fun hh => hh ?_
              have := hg j (by omega)
              rw [hO'] at this; exact this
            · omega
      show (((cnt (isO (leftS σ stay)) (64 * p) (64 * p + 64) : Nat) : Int) == 0, ()) = _
      rw [hiff]
    · rw [bd_false]
      rintro ⟨hg, hk1⟩
      exact hk (by show (ptP σ stay p p).kind = 1; rw [hown hg hk1]; exact hk1)
  rintro _ w4 ⟨u4, hb4, h4⟩
  rw [ptP_here hI] at hb4
  have hw4 : w4.heap[B .w]? = some (Bl (ints (64 * σ.n) (fun i => if i / 64 < p then clW (leftS σ stay) i else σ.W i)) 3) := h4.hw
  -- what is to be shown at the end
  have fin : ∀ w5, Upd (spF B) w w5 → ∀ ρ : Raw, SpR w5 B ρ → ρ.n = σ.n → (∀ i, i < 64 * σ.n → ρ.W i = if i / 64 < p + 1 then clW (leftS σ stay) i else σ.W i) → (∀ c i, c < 8 → i < 64 * σ.n → ρ.fr c i = if i / 64 < p + 1 then frB (leftS σ stay) c i else false) →
      ρ.P = ptP σ stay (p + 1) → ρ.tk = isO (leftS σ stay) → ρ.sh = shL σ.n (leftS σ stay).O → ρ.pl = plL (leftS σ stay) → ρ.last = σ.last → ρ.room = rmS (leftS σ stay) →
      (Value.tuple (Array.mk []) = Value.tuple (Array.mk []) ∧ SpR w5 B (trR σ stay (p + 1)) ∧ Upd (spF B) w w5) := by
    intro w5 u5 ρ h5 hn hW hf hP hk hsh hpl hl hr
    refine ⟨rfl, h5.congr hn.symm (fun i hi => ?_) (fun i hi => ?_) (fun i hi => ?_) (fun c i hc hi => ?_) hsh.symm hpl.symm hl.symm hr.symm, u5⟩
    · rw [hn] at hi; exact hW i hi
    · rw [hP]; rfl
    · rw [hk]; rfl
    · rw [hn] at hi; exact hf c i hc hi
  have other : ∀ i, ¬ i / 64 = p → (i / 64 < p ↔ i / 64 < p + 1) := fun i hi => by omega
  refine ⟨_, cell_of hb4 0, ifB_eq (fun hk0 => ?_) fun hk0 => ?_⟩
  · -- a free page
    have hk0 : ((leftS σ stay).P p).kind = 0 := hk0
    refine ⟨_, _, _, h4.words (m := σ.n) rfl, ⟨by omega, by show ((64 * p + 64 : Nat) : Int) ≤ ((64 * σ.n : Nat) : Int); omega⟩, ⟨by omega, by omega⟩, ?_⟩
    rw [if_neg (show ¬ 64 * σ.n = ((64 * p : Nat) : Int).toNat by omega)]
    have haddr : Option.map (fun x : Addr => x.add (((64 * p : Nat) : Int).toNat * 1)) (some (⟨B .w, 0, none⟩ : Addr)) = some ⟨B .w, 64 * p, none⟩ := by
      rw [Option.map_some, add_mk, Int.toNat_natCast, Nat.zero_add, Nat.mul_one]
    rw [haddr]
    dsimp only
    rw [show (((64 * p + 64 : Nat) : Int).toNat - ((64 * p : Nat) : Int).toNat) = 64 by omega]
    refine ⟨canWr_of hw4 (by simp only [ints_length]; omega), atW_wrx hw4 fun w5 p5 => ?_⟩
    rw [ints_clear (by omega)] at p5
    have h5 := h4.putW p5
    refine fin w5 (u4.trans (p5.upd.mono (one_F (x := .w) trivial))) _ h5 rfl (fun i hi => ?_) (fun c i hc hi => ?_) rfl rfl rfl rfl rfl rfl
    · show (if 64 * p ≤ i ∧ i < 64 * p + 64 then 0 else if i / 64 < p then clW (leftS σ stay) i else σ.W i) = _
      by_cases hip : i / 64 = p
      · rw [if_pos (by omega), if_pos (by omega), clW, if_neg]
        intro hins
        have := ins_kind hIL hins
        rw [hip] at this; exact this hk0
      · rw [if_neg (by omega)]
        by_cases h1 : i / 64 < p
        · rw [if_pos h1, if_pos (by omega)]
        · rw [if_neg h1, if_neg (by omega)]
    · show (if i / 64 < p then frB (leftS σ stay) c i else false) = _
      by_cases hip : i / 64 = p
      · rw [if_neg (by omega), if_pos (by omega), frB_kind (by rw [hip]; omega)]
      · by_cases h1 : i / 64 < p
        · rw [if_pos h1, if_pos (by omega)]
        · rw [if_neg h1, if_neg (by omega)]
  refine ifB_eq (fun hk1 => ?_) fun hk1 => ?_
  · -- a class's page
    have hk1 : ((leftS σ stay).P p).kind = 1 := hk1
    obtain ⟨c, hc, hPc⟩ := (hIL.pg p hp).clsz hk1
    obtain ⟨v1, v2, v3, v4, v5, v6, v7⟩ := wdN_pos hc
    rw [hPc] at hb4
    have hb4 : w4.heap[xb]? = some (Bl [I 1, I c, I 0] 152) := hb4
    refine ⟨_, cell_of hb4 1, ?_⟩
    refine (c83 w4 c).use fun w5 e5 => ⟨_, rfl, _, cell_of (e5.at hb4) 1, ?_⟩
    refine (c105 w5 c).use fun w6 e6 => ⟨_, rfl, ?_⟩
    rw [bkS_nat hc, wdS_nat hc]
    have h6 := (h4.kp e5).kp e6
    have hcl : ∀ i, i < 64 * σ.n → i / 64 = p → (ins (leftS σ stay) i ↔ (i % 64) / wdN c < bkN c ∧ ((leftS σ stay).O (64 * p + (i % 64) / wdN c * wdN c)).kind ≠ 0) := by
      intro i hi hip
      have := ins_class hIL (i := i) hc hi (by rw [hip]; exact hPc)
      rw [hip] at this; exact this
    refine loop_rule (fun q : Nat => ((q : Int), ())) (fun q w' => q ≤ bkN c ∧ Upd (spF B) w w' ∧ w'.heap[xb]? = some (Bl [I 1, I c, I 0] 152) ∧
      SpR w' B { trR σ stay p with P := ptP σ stay (p + 1), W := (fun i => if i / 64 < p ∨ i / 64 = p ∧ (i % 64) / wdN c < q then clW (leftS σ stay) i else σ.W i), fr := (fun d i => if i / 64 < p ∨ i / 64 = p ∧ (i % 64) / wdN c < q then frB (leftS σ stay) d i else false) }) (fun q => 64 - q) 0 rfl ⟨by omega, (u4.trans (Kp.upd e5)).trans (Kp.upd e6), e6.at (e5.at hb4), ?_⟩ ?_
    · refine h6.congr rfl (fun i hi => ?_) (fun _ _ => rfl) (fun _ _ => rfl) (fun d i hd hi => ?_) rfl rfl rfl rfl
      · show (if i / 64 < p then clW (leftS σ stay) i else σ.W i) = if i / 64 < p ∨ i / 64 = p ∧ (i % 64) / wdN c < 0 then clW (leftS σ stay) i else σ.W i
        by_cases h1 : i / 64 < p
        · rw [if_pos h1, if_pos (.inl h1)]
        · rw [if_neg h1, if_neg]
          rintro (h2 | ⟨_, h2⟩)
          · exact h1 h2
          · exact Nat.not_lt_zero _ h2
      · show (if i / 64 < p then frB (leftS σ stay) d i else false) = if i / 64 < p ∨ i / 64 = p ∧ (i % 64) / wdN c < 0 then frB (leftS σ stay) d i else false
        by_cases h1 : i / 64 < p
        · rw [if_pos h1, if_pos (.inl h1)]
        · rw [if_neg h1, if_neg]
          rintro (h2 | ⟨_, h2⟩)
          · exact h1 h2
          · exact Nat.not_lt_zero _ h2
    rintro q w7 K ⟨hq, u7, hb7, h7⟩ hK
    dsimp only
    refine ifB_d (fun hlt => ⟨_, cell_of hb7 1, ?_⟩) fun hlt => ?_
    · have hlt : q < bkN c := by omega
      have hle : (q + 1) * wdN c ≤ 64 := Nat.le_trans (Nat.mul_le_mul_right _ hlt) v5
      rw [Nat.add_mul, Nat.one_mul] at hle
      refine (c138 w7 c q (by omega)).use fun w8 e8 => ⟨_, rfl, ?_⟩
      have h8 := h7.kp e8
      have hb8 := e8.at hb7
      have u8 := u7.trans (Kp.upd e8)
      have eat : IntKind.i64.wrap (((64 * p : Nat) : Int) + stS c q) = ((64 * p + q * wdN c : Nat) : Int) := by rw [stS_nat hc hlt, wrap_id (by omega) (by omega)]; simp
      rw [eat]
      refine ⟨_, cell_of h8.hs 2, ?_⟩
      have hatn : 64 * p + q * wdN c < 64 * σ.n := by omega
      refine (c121 h8.hk _ ⟨by omega, by omega⟩).use fun w9 e9 => ⟨_, rfl, ?_⟩
      have h9 := h8.kp e9
      have hb9 := e9.at hb8
      have u9 := u8.trans (Kp.upd e9)
      show ifB (!(decide ((0 : Int) ≤ ((64 * p + q * wdN c : Nat) : Int) ∧ ((64 * p + q * wdN c : Nat) : Int) < ((64 * σ.n : Nat) : Int)) && isO (leftS σ stay) ((64 * p + q * wdN c : Nat) : Int).toNat)) _ _
      rw [Int.toNat_natCast, decide_eq_true (show (0 : Int) ≤ ((64 * p + q * wdN c : Nat) : Int) ∧ ((64 * p + q * wdN c : Nat) : Int) < ((64 * σ.n : Nat) : Int) from ⟨by omega, by omega⟩), Bool.true_and]
      rw [wrap_id (x := (q : Int) + 1) (by omega) (by omega)]
      -- the bits and words of a block
      have hblk : ∀ i, i / 64 < p ∨ i / 64 = p ∧ (i % 64) / wdN c < q + 1 ↔ (i / 64 < p ∨ i / 64 = p ∧ (i % 64) / wdN c < q) ∨ (64 * p + q * wdN c ≤ i ∧ i < 64 * p + q * wdN c + wdN c) := by
        intro i
        rw [in_block hc hlt]
        constructor
        · rintro (h1 | ⟨h1, h2⟩)
          · exact .inl (.inl h1)
          · rcases Nat.lt_succ_iff_lt_or_eq.1 h2 with h3 | h3
            · exact .inl (.inr ⟨h1, h3⟩)
            · exact .inr ⟨h1, h3⟩
        · rintro ((h1 | ⟨h1, h2⟩) | ⟨h1, h2⟩)
          · exact .inl h1
          · exact .inr ⟨h1, Nat.lt_succ_of_lt h2⟩
          · exact .inr ⟨h1, by rw [h2]; exact Nat.lt_succ_self _⟩
      have hnot : ∀ i, (64 * p + q * wdN c ≤ i ∧ i < 64 * p + q * wdN c + wdN c) → ¬ (i / 64 < p ∨ i / 64 = p ∧ (i % 64) / wdN c < q) := by
        intro i hi
        obtain ⟨h1, h2⟩ := (in_block hc hlt).1 hi
        rintro (h3 | ⟨_, h3⟩)
        · omega
        · rw [h2] at h3; exact Nat.lt_irrefl _ h3
      have hfrb : ∀ d i, (64 * p + q * wdN c ≤ i ∧ i < 64 * p + q * wdN c + wdN c) → frB (leftS σ stay) d i = decide (d = c ∧ i = 64 * p + q * wdN c ∧ ((leftS σ stay).O i).kind = 0) := by
        intro d i hi
        obtain ⟨h1, h2⟩ := (in_block hc hlt).1 hi
        have cong : ∀ {x y : Bool}, (x = true ↔ y = true) → x = y := by intro x y h; cases x <;> cases y <;> simp_all
        apply cong
        rw [frB_iff, h1, hPc, decide_eq_true_iff]
        have hmod := Nat.div_add_mod (i % 64) (wdN c)
        rw [h2, Nat.mul_comm] at hmod
        constructor
        · rintro ⟨_, g2, g3, g4, g5⟩
          have hdc : d = c := by have g2 : (c : Int) = d := g2; omega
          subst hdc
          exact ⟨rfl, by omega, g5⟩
        · rintro ⟨rfl, g2, g3⟩
          exact ⟨rfl, rfl, by omega, by rw [h2]; exact hlt, g3⟩
      refine ifB_nb (fun hb => ?_) fun hb => ?_
      · have hno : ((leftS σ stay).O (64 * p + q * wdN c)).kind = 0 := Classical.not_not.1 (of_decide_eq_false hb)
        generalize hwd : World.drew w9 = wd
        have d9 : Kp w9 wd := hwd ▸ ext_drew w9
        have h10 := h9.kp d9
        refine ⟨_, cell_of (d9.at hb9) 1, ⟨by omega, by omega⟩, _, cell_f (c := c) h10 hc, ?_⟩
        refine (c58 (h10.hf c hc) (i := 64 * p + q * wdN c) hatn).use ?_
        rintro _ w11 ⟨rfl, hbm, u11'⟩
        have h11 := h10.putF hc hbm u11'
        have hb11 := u11'.at (d9.at hb9) (hwx (.fr c) hc)
        have u11 := (u9.trans (Kp.upd d9)).trans (u11'.mono (one_F (x := .fr c) hc))
        have e2 : IntKind.i64.wrap (((64 * p + q * wdN c : Nat) : Int) + (wdN c : Int)) = ((64 * p + q * wdN c + wdN c : Nat) : Int) := by rw [wrap_id (by omega) (by omega)]; simp
        rw [e2]
        refine ⟨_, rfl, _, _, _, h11.words (m := σ.n) rfl, ⟨by omega, by show ((64 * p + q * wdN c + wdN c : Nat) : Int) ≤ ((64 * σ.n : Nat) : Int); omega⟩, ⟨by omega, by omega⟩, ?_⟩
        rw [if_neg (show ¬ 64 * σ.n = 64 * p + q * wdN c by omega)]
        have haddr : Option.map (fun x : Addr => x.add ((64 * p + q * wdN c) * 1)) (some (⟨B .w, 0, none⟩ : Addr)) = some ⟨B .w, 64 * p + q * wdN c, none⟩ := by
          rw [Option.map_some, add_mk, Nat.zero_add, Nat.mul_one]
        rw [haddr]
        dsimp only
        rw [show (((64 * p + q * wdN c + wdN c : Nat) : Int).toNat - (64 * p + q * wdN c)) = wdN c by omega]
        have hw11 : w11.heap[B .w]? = some (Bl (ints (64 * σ.n) (fun i => if i / 64 < p ∨ i / 64 = p ∧ (i % 64) / wdN c < q then clW (leftS σ stay) i else σ.W i)) 3) := h11.hw
        refine ⟨canWr_of hw11 (by simp only [ints_length]; omega), atW_wrx hw11 fun w12 p12 => ?_⟩
        rw [ints_clear (by omega)] at p12
        have h12 := h11.putW p12
        refine hK (q + 1) w12 ⟨hlt, u11.trans (p12.upd.mono (one_F (x := .w) trivial)), p12.at hb11 (hwx .w trivial), h12.congr rfl (fun i hi => ?_) (fun _ _ => rfl) (fun _ _ => rfl) (fun d i hd hi => ?_) rfl rfl rfl rfl⟩ (by omega)
        · show (if 64 * p + q * wdN c ≤ i ∧ i < 64 * p + q * wdN c + wdN c then 0 else if i / 64 < p ∨ i / 64 = p ∧ (i % 64) / wdN c < q then clW (leftS σ stay) i else σ.W i) = if i / 64 < p ∨ i / 64 = p ∧ (i % 64) / wdN c < q + 1 then clW (leftS σ stay) i else σ.W i
          by_cases hib : 64 * p + q * wdN c ≤ i ∧ i < 64 * p + q * wdN c + wdN c
          · rw [if_pos hib, if_pos ((hblk i).2 (.inr hib)), clW, if_neg]
            obtain ⟨g1, g2⟩ := (in_block hc hlt).1 hib
            rw [hcl i hi g1, g2]
            exact fun hh => hh.2 hno
          · rw [if_neg hib]
            by_cases hx : i / 64 < p ∨ i / 64 = p ∧ (i % 64) / wdN c < q
            · rw [if_pos hx, if_pos ((hblk i).2 (.inl hx))]
            · rw [if_neg hx, if_neg (fun hh => ((hblk i).1 hh).elim hx hib)]
        · show up (fun d i => if i / 64 < p ∨ i / 64 = p ∧ (i % 64) / wdN c < q then frB (leftS σ stay) d i else false) c (up (fun i => if i / 64 < p ∨ i / 64 = p ∧ (i % 64) / wdN c < q then frB (leftS σ stay) c i else false) (64 * p + q * wdN c) true) d i = if i / 64 < p ∨ i / 64 = p ∧ (i % 64) / wdN c < q + 1 then frB (leftS σ stay) d i else false
          have hlhs : up (fun d i => if i / 64 < p ∨ i / 64 = p ∧ (i % 64) / wdN c < q then frB (leftS σ stay) d i else false) c (up (fun i => if i / 64 < p ∨ i / 64 = p ∧ (i % 64) / wdN c < q then frB (leftS σ stay) c i else false) (64 * p + q * wdN c) true) d i = if d = c ∧ i = 64 * p + q * wdN c then true else if i / 64 < p ∨ i / 64 = p ∧ (i % 64) / wdN c < q then frB (leftS σ stay) d i else false := by
            by_cases hdc : d = c
            · subst hdc
              rw [up_same]
              by_cases hia : i = 64 * p + q * wdN d
              · rw [if_pos ⟨rfl, hia⟩, hia, up_same]
              · rw [if_neg (fun hh => hia hh.2), up_other _ _ hia]
            · rw [if_neg (fun hh => hdc hh.1), up_other _ _ hdc]
          rw [hlhs]
          by_cases hib : 64 * p + q * wdN c ≤ i ∧ i < 64 * p + q * wdN c + wdN c
          · rw [if_pos ((hblk i).2 (.inr hib)), hfrb d i hib, if_neg (hnot i hib)]
            by_cases hx : d = c ∧ i = 64 * p + q * wdN c
            · rw [if_pos hx, decide_eq_true ⟨hx.1, hx.2, by rw [hx.2]; exact hno⟩]
            · rw [if_neg hx, decide_eq_false fun hh => hx ⟨hh.1, hh.2.1⟩]
          · rw [if_neg (fun hh => hib (by omega))]
            by_cases hx : i / 64 < p ∨ i / 64 = p ∧ (i % 64) / wdN c < q
            · rw [if_pos hx, if_pos ((hblk i).2 (.inl hx))]
            · rw [if_neg hx, if_neg (fun hh => ((hblk i).1 hh).elim hx hib)]
      · have hyes : ((leftS σ stay).O (64 * p + q * wdN c)).kind ≠ 0 := of_decide_eq_true hb
        refine hK (q + 1) w9 ⟨hlt, u9, hb9, h9.congr rfl (fun i hi => ?_) (fun _ _ => rfl) (fun _ _ => rfl) (fun d i hd hi => ?_) rfl rfl rfl rfl⟩ (by omega)
        · show (if i / 64 < p ∨ i / 64 = p ∧ (i % 64) / wdN c < q then clW (leftS σ stay) i else σ.W i) = if i / 64 < p ∨ i / 64 = p ∧ (i % 64) / wdN c < q + 1 then clW (leftS σ stay) i else σ.W i
          by_cases hib : 64 * p + q * wdN c ≤ i ∧ i < 64 * p + q * wdN c + wdN c
          · rw [if_pos ((hblk i).2 (.inr hib)), if_neg (hnot i hib), clW, if_pos]
            · rfl
            · obtain ⟨g1, g2⟩ := (in_block hc hlt).1 hib
              rw [hcl i hi g1, g2]
              exact ⟨hlt, hyes⟩
          · by_cases hx : i / 64 < p ∨ i / 64 = p ∧ (i % 64) / wdN c < q
            · rw [if_pos hx, if_pos ((hblk i).2 (.inl hx))]
            · rw [if_neg hx, if_neg (fun hh => ((hblk i).1 hh).elim hx hib)]
        · show (if i / 64 < p ∨ i / 64 = p ∧ (i % 64) / wdN c < q then frB (leftS σ stay) d i else false) = if i / 64 < p ∨ i / 64 = p ∧ (i % 64) / wdN c < q + 1 then frB (leftS σ stay) d i else false
          by_cases hib : 64 * p + q * wdN c ≤ i ∧ i < 64 * p + q * wdN c + wdN c
          · rw [if_pos ((hblk i).2 (.inr hib)), if_neg (hnot i hib), hfrb d i hib, decide_eq_false]
            rintro ⟨_, g2, g3⟩
            rw [g2] at g3; exact hyes g3
          · by_cases hx : i / 64 < p ∨ i / 64 = p ∧ (i % 64) / wdN c < q
            · rw [if_pos hx, if_pos ((hblk i).2 (.inl hx))]
            · rw [if_neg hx, if_neg (fun hh => ((hblk i).1 hh).elim hx hib)]
    · have hqe : q = bkN c := by omega
      subst hqe
      have h0 : (bkN c : Int) * (wdN c : Int) = ((bkN c * wdN c : Nat) : Int) := by simp
      have e3 : IntKind.i64.wrap (((64 * p : Nat) : Int) + IntKind.i64.wrap ((bkN c : Int) * (wdN c : Int))) = ((64 * p + bkN c * wdN c : Nat) : Int) := by
        rw [h0, wrap_id (x := ((bkN c * wdN c : Nat) : Int)) (by omega) (by omega), wrap_id (by omega) (by omega)]; simp
      rw [e3]
      have hdv : ∀ i, (i % 64) / wdN c < bkN c ↔ i % 64 < bkN c * wdN c := fun i => Nat.div_lt_iff_lt_mul (by omega)
      generalize ht : bkN c * wdN c = tl at *
      have finq : ∀ w8, Upd (spF B) w w8 → ∀ Wq : Nat → Int, SpR w8 B { trR σ stay p with P := ptP σ stay (p + 1), W := Wq, fr := (fun d i => if i / 64 < p ∨ i / 64 = p ∧ (i % 64) / wdN c < bkN c then frB (leftS σ stay) d i else false) } → (∀ i, i < 64 * σ.n → Wq i = if 64 * p + tl ≤ i ∧ i < 64 * p + 64 then 0 else if i / 64 < p ∨ i / 64 = p ∧ (i % 64) / wdN c < bkN c then clW (leftS σ stay) i else σ.W i) →
          (Value.tuple (Array.mk []) = Value.tuple (Array.mk []) ∧ SpR w8 B (trR σ stay (p + 1)) ∧ Upd (spF B) w w8) := by
        intro w8 u8 Wq h8 hWq
        refine fin w8 u8 _ h8 rfl (fun i hi => ?_) (fun d i hd hi => ?_) rfl rfl rfl rfl rfl rfl
        · show Wq i = _
          rw [hWq i hi]
          by_cases hip : i / 64 = p
          · rw [if_pos (show i / 64 < p + 1 by omega)]
            by_cases hx : 64 * p + tl ≤ i ∧ i < 64 * p + 64
            · rw [if_pos hx, clW, if_neg]
              rw [hcl i hi hip, hdv]
              rintro ⟨hh, _⟩; omega
            · rw [if_neg hx, if_pos (.inr ⟨hip, (hdv i).2 (by omega)⟩)]
          · rw [if_neg (by omega)]
            by_cases h1 : i / 64 < p
            · rw [if_pos (.inl h1), if_pos (by omega)]
            · rw [if_neg (fun hh => hh.elim h1 fun hh => hip hh.1), if_neg (by omega)]
        · show (if i / 64 < p ∨ i / 64 = p ∧ (i % 64) / wdN c < bkN c then frB (leftS σ stay) d i else false) = _
          by_cases hip : i / 64 = p
          · rw [if_pos (show i / 64 < p + 1 by omega)]
            by_cases hx : (i % 64) / wdN c < bkN c
            · rw [if_pos (.inr ⟨hip, hx⟩)]
            · rw [if_neg (fun hh => hh.elim (fun h1 => by omega) fun hh => hx hh.2)]
              cases hf : frB (leftS σ stay) d i with
              | false => rfl
              | true =>
                obtain ⟨_, g2, _, g4, _⟩ := frB_iff.1 hf
                rw [hip, hPc] at g2
                have hdc : d = c := by have g2 : (c : Int) = d := g2; omega
                subst hdc
                exact absurd g4 hx
          · by_cases h1 : i / 64 < p
            · rw [if_pos (.inl h1), if_pos (by omega)]
            · rw [if_neg (fun hh => hh.elim h1 fun hh => hip hh.1), if_neg (by omega)]
      have hw7 : w7.heap[B .w]? = some (Bl (ints (64 * σ.n) (fun i => if i / 64 < p ∨ i / 64 = p ∧ (i % 64) / wdN c < bkN c then clW (leftS σ stay) i else σ.W i)) 3) := h7.hw
      refine ⟨_, _, _, h7.words (m := σ.n) rfl, ⟨by omega, by show ((64 * p + 64 : Nat) : Int) ≤ ((64 * σ.n : Nat) : Int); omega⟩, ⟨by omega, by omega⟩, ?_⟩
      have elen : (((64 * p + 64 : Nat) : Int).toNat - ((64 * p + tl : Nat) : Int).toNat) = 64 - tl := by omega
      by_cases hcap : 64 * σ.n = ((64 * p + tl : Nat) : Int).toNat
      · rw [if_pos hcap, elen]
        dsimp only
        have htz : 64 - tl = 0 := by omega
        rw [htz]
        refine ⟨fun i hi => by omega, atW_same ?_⟩
        refine finq w7 u7 _ h7 fun i hi => ?_
        rw [if_neg (show ¬ (64 * p + tl ≤ i ∧ i < 64 * p + 64) by omega)]
      · rw [if_neg hcap, elen]
        have haddr : Option.map (fun x : Addr => x.add (((64 * p + tl : Nat) : Int).toNat * 1)) (some (⟨B .w, 0, none⟩ : Addr)) = some ⟨B .w, 64 * p + tl, none⟩ := by
          rw [Option.map_some, add_mk, Int.toNat_natCast, Nat.zero_add, Nat.mul_one]
        rw [haddr]
        dsimp only
        refine ⟨canWr_of hw7 (by simp only [ints_length]; omega), atW_wrx hw7 fun w8 p8 => ?_⟩
        rw [ints_clear (by omega)] at p8
        have h8 := h7.putW p8
        refine finq w8 (u7.trans (p8.upd.mono (one_F (x := .w) trivial))) _ h8 fun i hi => ?_
        show (if 64 * p + tl ≤ i ∧ i < 64 * p + tl + (64 - tl) then 0 else _) = _
        rw [show 64 * p + tl + (64 - tl) = 64 * p + 64 by omega]
  · -- a run's page
    have hk23 : ((leftS σ stay).P p).kind = 2 ∨ ((leftS σ stay).P p).kind = 3 := by
      have hk0 : ((leftS σ stay).P p).kind ≠ 0 := hk0
      have hk1 : ((leftS σ stay).P p).kind ≠ 1 := hk1
      rcases hIL.pg p hp with h0 | ⟨c, _, h1⟩ | ⟨r, _, _, h1, _⟩ | ⟨h1, _⟩
      · rw [h0] at hk0; exact absurd rfl hk0
      · rw [h1] at hk1; exact absurd rfl hk1
      · rw [h1]; exact .inl rfl
      · rw [h1]; exact .inr rfl
    refine fin w4 u4 _ h4 rfl (fun i hi => ?_) (fun c i hc hi => ?_) rfl rfl rfl rfl rfl rfl
    · show (if i / 64 < p then clW (leftS σ stay) i else σ.W i) = _
      by_cases hip : i / 64 = p
      · rw [if_neg (by omega), if_pos (by omega), clW, if_pos]
        · rfl
        · exact ins_run hIL hi (by rw [hip]; exact hk23)
      · by_cases h1 : i / 64 < p
        · rw [if_pos h1, if_pos (by omega)]
        · rw [if_neg h1, if_neg (by omega)]
    · show (if i / 64 < p then frB (leftS σ stay) c i else false) = _
      by_cases hip : i / 64 = p
      · rw [if_neg (by omega), if_pos (by omega), frB_kind (by rw [hip]; omega)]
      · by_cases h1 : i / 64 < p
        · rw [if_pos h1, if_pos (by omega)]
        · rw [if_neg h1, if_neg (by omega)]
end
end Go.Wx
end
section
/- The contract of the program's Keep. -/
set_option linter.unusedVariables false
set_option maxRecDepth 100000
namespace Go.Wx
open Go
open Classical

theorem takeMs_intro : ∀ {ms : List Nat} {w : World} {K : World → Prop}, ms.Nodup → (∀ D, D ∈ ms → w.heap[D]? = some (.deferred (some []))) → (∀ w', Upd (· ∈ ms) w w' → K w') → takeMs ms w K
  | [], w, K, _, _, hk => hk w Upd.refl
  | D :: ms, w, K, hn, hd, hk => by
    have hD := hd D (by simp)
    have p := put_putObj (w := w) (.deferred none) (lt_of_look hD)
    refine ⟨hD, takeMs_intro (List.nodup_cons.1 hn).2 (fun E hE => p.at (hd E (by simp [hE])) (fun e => (List.nodup_cons.1 hn).1 (e ▸ hE))) fun w' u => hk w' ?_⟩
    exact (p.upd.mono fun b hb => by simp only [one] at hb; simp [hb]).trans (u.mono fun b hb => by simp [hb])

theorem goes_skip (σ : St) (stay : Nat → Bool) {a b : Nat} (hab : a ≤ b) (h : ∀ j, a ≤ j → j < b → (σ.O j).kind = 0 ∨ stay j = true) : goes σ stay b = goes σ stay a := by
  unfold goes
  rw [cnt_split _ (b := a) (by omega) hab, (cnt_zero_iff _ (a := a) (b := b)).2]
  · omega
  · intro j h1 h2
    rcases h j h1 h2 with h3 | h3
    · rw [decide_eq_false (fun hh => hh h3)]; rfl
    · rw [h3]; simp

section
variable {w : World} {B : Sl → Nat} {σ : St}

theorem c68 (hI : Inv σ) (h : Sp w B σ) {s : Option Addr} {l c : Nat} {ks : Nat → Int} (hs : Ls w s l ks) (hl : l < 1000000) (h64 : ∀ i, i < l → In64 (ks i)) :
    Ret PR 68 [pt (B .s), .slice s l c] w fun v w' => v = .tuple (Array.mk [I (kpR σ ks l).1, I (kpR σ ks l).2]) ∧ Sp w' B (kpT σ ks l) ∧ Upd (spF B) w w' := by
  refine Ret.of ((S68_eq _ _ _ _ w _).mpr ?_)
  unfold S68
  have hn2 := hI.n2
  have hlt0 : ∀ x : Sl, x.ok → B x < w.heap.size := fun x hx => SpR.lt h hx
  have hbx : ∀ b, w.heap.size ≤ b → ¬ spF B b := fun b hb ⟨x, hx, e⟩ => by have := hlt0 x hx; omega
  refine atW_new fun w1 n1 => ⟨_, cell_of n1.at0 0, ?_⟩
  have h1 := Sp.kp h n1.ext
  refine ⟨_, _, _, cell_of h1.hs 0, ?_⟩
  refine (c52 h1.gt hI.n2).use ?_
  rintro _ w2 ⟨b, rb, rfl, hbm2, k2, hb, hrb⟩
  have hsz1 := n1.sz
  refine ⟨_, _, rfl, atW_new fun w3 n3 => stx_at _ n3.at0 (by simp) rfl fun w4 p4 => ?_⟩
  obtain ⟨sb, hsb⟩ : ∃ sb, sb = w.heap.size := ⟨_, rfl⟩
  obtain ⟨yb, hyb⟩ : ∃ yb, yb = w2.heap.size := ⟨_, rfl⟩
  rw [← hyb] at p4
  have hsz2 := k2.sz
  have k4 : Kp w w4 := ((n1.ext.trans k2).trans n3.ext).put p4 (by omega)
  have hbl : b < w2.heap.size := lt_of_look hbm2.h0
  have hrbl : rb < w2.heap.size := lt_of_look hbm2.h1
  have hb4 : Bm w4 b rb σ.n (fun _ => false) := (hbm2.kp n3.ext).upd p4.upd (by simp only [one]; omega) (by simp only [one]; omega) (by simp only [one]; omega)
  have hs4 : w4.heap[sb]? = some (Bl [pt (B .s)] 34) := p4.at (n3.ext.at (k2.at (hsb ▸ n1.at0))) (by omega)
  have hy4 : w4.heap[yb]? = some (Bl [pt b] 88) := p4.at0
  rw [← hsb, ← hyb]
  -- those that stay
  refine loop_rule (fun m : Nat => ((0 : Int), (0 : Int), (m : Int), ())) (fun m w' => m ≤ l ∧ Kp w w' ∧ Bm w' b rb σ.n (fun i => bd (∃ q, q < m ∧ ks q = i)) ∧ w'.heap[sb]? = some (Bl [pt (B .s)] 34) ∧ w'.heap[yb]? = some (Bl [pt b] 88) ∧ ∀ q, q < m → okI σ (ks q) = true) (fun m => l - m) 0 rfl ⟨by omega, k4, hb4.congr fun i hi => ?_, hs4, hy4, fun q hq => by omega⟩ ?_
  · rw [bd_false]; rintro ⟨q, hq, _⟩; omega
  rintro m w5 K ⟨hm, k5, hb5, hs5, hy5, hok⟩ hK
  have h5 := Sp.kp h k5
  refine ifB_d (fun hlt => ?_) fun hlt => ?_
  · have hlt : m < l := by simp only at hlt; omega
    obtain ⟨a, rfl, hcell⟩ := hs m hlt
    refine ⟨⟨by dsimp only; omega, by dsimp only; omega⟩, _, cell_kp k5 hcell, _, cell_of hs5 0, _, cell_of h5.hs 2, ?_⟩
    refine (Sp.get h5 (ks m) (h64 m hlt)).use fun w6 e6 => ⟨_, rfl, ifB_nb (fun hbb => ⟨?_, ?_, Kp.upd (k5.trans e6)⟩) fun hbb => ?_⟩
    · have hno : ¬ allOK σ ks l := fun hh => by rw [hh m hlt] at hbb; cases hbb
      rw [kpR, if_neg hno]
    · have hno : ¬ allOK σ ks l := fun hh => by rw [hh m hlt] at hbb; cases hbb
      rw [kpT, if_neg hno]; exact Sp.kp h (k5.trans e6)
    · obtain ⟨i, hi1, hi2, hi3⟩ := okI_iff.1 hbb
      refine ⟨_, cell_of (e6.at hy5) 0, ?_⟩
      rw [hi1]
      refine (c58 (hb5.kp e6) (i := i) hi2).use ?_
      rintro _ w7 ⟨rfl, hb7, u7⟩
      refine ⟨_, rfl, ?_⟩
      rw [wrap_id (by dsimp only; omega) (by dsimp only; omega)]
      refine hK (m + 1) w7 ⟨hlt, (k5.trans e6).tr u7 fun x hx => .inr (by simp only [one] at hx; omega), hb7.congr fun j hj => ?_, u7.at (e6.at hs5) (by simp only [one]; omega), u7.at (e6.at hy5) (by simp only [one]; omega), fun q hq => ?_⟩ (by omega)
      · unfold up
        by_cases hji : j = i
        · rw [if_pos hji, bd_true ⟨m, by omega, by rw [hi1, hji]⟩]
        · rw [if_neg hji]
          refine bd_congr ⟨fun ⟨q, q1, q2⟩ => ⟨q, by omega, q2⟩, fun ⟨q, q1, q2⟩ => ?_⟩
          by_cases hqm : q = m
          · subst hqm; omega
          · exact ⟨q, by omega, q2⟩
      · by_cases hqm : q = m
        · subst hqm; exact hbb
        · exact hok q (by omega)
  have hml : m = l := by simp only at hlt; omega
  subst hml
  have hall : allOK σ ks m := hok
  obtain ⟨stay, hst⟩ : ∃ stay, stay = stayS ks m := ⟨_, rfl⟩
  have hR : kpR σ ks m = (((goes σ stay (64 * σ.n) : Nat) : Int), 0) := by rw [kpR, if_pos hall, hst]
  have hT : kpT σ ks m = tdS (leftS σ stay) := by rw [kpT, if_pos hall, hst]
  rw [hR, hT]
  have hb5 : Bm w5 b rb σ.n stay := hb5.congr fun i hi => by rw [hst]; rfl
  refine atW_new fun w6 n6 => stx_at _ n6.at0 (by simp) rfl fun w7 p7 => ?_
  obtain ⟨fb, hfb⟩ : ∃ fb, fb = w5.heap.size := ⟨_, rfl⟩
  rw [← hfb] at p7 ⊢
  have hsz5 := k5.sz
  have hsl := lt_of_look hs5
  have hyl := lt_of_look hy5
  have k7 : Kp w w7 := (k5.trans n6.ext).put p7 (by omega)
  have h7 := Sp.kp h k7
  have hs7 := p7.at (n6.ext.at hs5) (by omega)
  have hy7 := p7.at (n6.ext.at hy5) (by omega)
  have hbl5 : b < w5.heap.size := lt_of_look hb5.h0
  have hrbl5 : rb < w5.heap.size := lt_of_look hb5.h1
  have hb7 : Bm w7 b rb σ.n stay := (hb5.kp n6.ext).upd p7.upd (by simp only [one]; omega) (by simp only [one]; omega) (by simp only [one]; omega)
  have hf7 : w7.heap[fb]? = some (Bl [I 0] 3) := p7.at0
  refine ⟨_, cell_of hs7 0, _, cell_of h7.hs 2, ?_⟩
  refine (c91 w7 (B .k)).use ?_
  rintro _ w8 ⟨rfl, n8⟩
  refine ⟨_, rfl, ?_⟩
  obtain ⟨cb, hcb⟩ : ∃ cb, cb = w7.heap.size := ⟨_, rfl⟩
  have hc8 : w8.heap[cb]? = some (Bl [pt (B .k)] 88) := hcb ▸ n8.at0
  rw [← hcb]
  have hfl := lt_of_look hf7
  have hsz8 := n8.sz
  have hbl7 : b < w7.heap.size := lt_of_look hb7.h0
  have hrbl7 : rb < w7.heap.size := lt_of_look hb7.h1
  have hsl7 := lt_of_look hs7
  have hyl7 := lt_of_look hy7
  have hb0 : b ≠ 0 := hb7.ne0.1
  -- what of the local blocks stays
  have loc : ∀ {F : Nat → Prop} {W W' : World}, Upd F W W' → (∀ x, w.heap.size ≤ x → x ≤ cb → x ≠ fb → ¬ F x) → ¬ F 0 → (Bm W b rb σ.n stay ∧ W.heap[sb]? = some (Bl [pt (B .s)] 34) ∧ W.heap[yb]? = some (Bl [pt b] 88) ∧ W.heap[cb]? = some (Bl [pt (B .k)] 88)) →
      (Bm W' b rb σ.n stay ∧ W'.heap[sb]? = some (Bl [pt (B .s)] 34) ∧ W'.heap[yb]? = some (Bl [pt b] 88) ∧ W'.heap[cb]? = some (Bl [pt (B .k)] 88)) := by
    rintro F W W' u hF h0 ⟨a1, a2, a3, a4⟩
    exact ⟨a1.upd u (hF b (by omega) (by omega) (by omega)) (hF rb (by omega) (by omega) (by omega)) h0, u.at a2 (hF sb (by omega) (by omega) (by omega)), u.at a3 (hF yb (by omega) (by omega) (by omega)), u.at a4 (hF cb (by omega) (by omega) (by omega))⟩
  have h00 : ¬ spF B 0 := fun ⟨x, hx, e⟩ => h.ne0 hx e.symm
  refine range_bits (fun i => (i, ())) (fun i => rfl) (fun c Qc hh => by simp at hh)
    (fun i bit W => i ≤ 64 * σ.n ∧ bit = isO (partS σ stay i) ∧ Upd (spF B) w W ∧ SpR W B { rawOf (partS σ stay i) with fr := frB σ } ∧ (Bm W b rb σ.n stay ∧ W.heap[sb]? = some (Bl [pt (B .s)] 34) ∧ W.heap[yb]? = some (Bl [pt b] 88) ∧ W.heap[cb]? = some (Bl [pt (B .k)] 88)) ∧ W.heap[fb]? = some (Bl [I ((goes σ stay i : Nat) : Int)] 3) ∧ W.heap[w8.heap.size]? = some (.deferred (some [])) ∧ w8.heap.size + 2 ≤ W.heap.size)
    (cb := cb) (b := B .k) (rb := B .kr) (r := σ.n) ?_ ?_ (isO (partS σ stay 0)) ?_ ?_ ?_
  · rintro i bit W ⟨_, rfl, _, g1, ⟨_, _, _, g2⟩, _⟩
    exact ⟨g2, g1.hk⟩
  · rintro i bit W W' ⟨g0, g1, g2, g3, g4, g5, g6, g7⟩ u
    refine ⟨g0, g1, g2.tr u fun x hx => .inr (by simp only [one] at hx; omega), g3.upd u (fun x hx => by have := hlt0 x hx; simp only [one]; omega) (by simp only [one]; omega), loc u (fun x _ _ _ => by simp only [one]; omega) (by simp only [one]; omega) g4, u.at g5 (by simp only [one]; omega), u.at g6 (by simp only [one]; omega), by have := u.sz; omega⟩
  · intro W kW hD hsz
    have kk : Kp w W := (k7.trans n8.ext).trans kW
    refine ⟨by omega, rfl, Kp.upd kk, ?_, ?_, ?_, hD, hsz⟩
    · rw [partS_zero]; exact Sp.kp h kk
    · exact ⟨(hb7.kp n8.ext).kp kW, kW.at (n8.ext.at hs7), kW.at (n8.ext.at hy7), kW.at hc8⟩
    · rw [kW.at (n8.ext.at hf7)]
      simp [goes, cnt_self]
  · rintro i bit j W rc K2 ⟨g0, rfl, g2, g3, g4, g5, g6, g7⟩ hij hj hbit hno hl8 hnorm _
    have hjk : (σ.O j).kind ≠ 0 := by
      have := of_decide_eq_true hbit
      exact (partS_sub this).2
    have hskip : ∀ x, i ≤ x → x < j → (σ.O x).kind = 0 ∨ stay x = true := fun x h1 h2 => by
      have := of_decide_eq_false (hno x h1 h2)
      left
      have h3 : ((partS σ stay i).O x).kind = 0 := Classical.not_not.1 this
      have h4 : (if x < i then dropO σ.O stay x else σ.O x).kind = 0 := h3
      rwa [if_neg (by omega)] at h4
    have hpe := partS_skip hI (stay := stay) hij (by omega) hskip
    rw [hpe] at g3
    have hge := goes_skip σ stay hij hskip
    rw [← hge] at g5
    dsimp only
    refine ⟨hl8, atW_putO (lt_of_look hl8) fun W2 pW => ?_⟩
    have u1 : Upd (spF B) w W2 := g2.put pW (by omega)
    have q3 := g3.putNew pW fun x hx => by have := hlt0 x hx; omega
    have q4 := loc pW.upd (fun x _ _ _ => by simp only [one]; omega) (by simp only [one]; omega) g4
    have q5 := pW.at g5 (by omega)
    have q6 := pW.at g6 (by omega)
    have hgl := goes_le σ stay j
    refine ⟨_, cell_of q4.2.2.1 0, ?_⟩
    refine (c121 q4.1 j ⟨by omega, by omega⟩).use fun W3 e3 => ⟨_, rfl, ?_⟩
    rw [Int.toNat_natCast, decide_eq_true (show (0 : Int) ≤ (j : Int) ∧ (j : Int) < ((64 * σ.n : Nat) : Int) by omega), Bool.true_and]
    have r3 := q3.kp e3
    have r4 := loc e3 (fun x _ _ _ h => h) (fun h => h) q4
    have r5 := e3.at q5
    have r6 := e3.at q6
    have r7 := e3.at pW.at0
    have u3 := u1.trans (Kp.upd e3)
    refine ifB_nb (fun hstj => ?_) fun hstj => ?_
    · refine ⟨_, cell_of r4.2.1 0, ?_⟩
      refine (c122 hI hj hjk hstj r3).use ?_
      rintro _ W4 ⟨rfl, s3, uW4⟩
      have s4 := loc uW4 (fun x hx _ _ => hbx x hx) h00 r4
      have s5 := uW4.at r5 (hbx _ (by omega))
      have s6 := uW4.at r6 (hbx _ (by omega))
      have s7 := uW4.at r7 (hbx _ (by omega))
      refine ⟨rfl, _, cell_of s5 0, stx_at _ s5 (by simp) rfl fun W5 p5 => ?_⟩
      refine hnorm (isO (partS σ stay (j + 1))) W5 ⟨by omega, rfl, (u3.trans uW4).put p5 (by omega), s3.putNew p5 (fun x hx => by have := hlt0 x hx; omega), loc p5.upd (fun x _ _ hx => by simp only [one]; omega) (by simp only [one]; omega) s4, ?_, p5.at s6 (by omega), by have := p5.sz; have := uW4.sz; have := e3.sz; have := pW.sz; omega⟩ (p5.at s7 (by omega))
      rw [p5.at0, goes_step, if_pos ⟨hjk, hstj⟩, wrap_id (by omega) (by omega)]
      rfl
    · refine hnorm (isO (partS σ stay (j + 1))) W3 ⟨by omega, rfl, u3, ?_, r4, ?_, r6, by have := e3.sz; have := pW.sz; omega⟩ r7
      · rw [← partS_skip hI (stay := stay) (a := j) (b := j + 1) (by omega) (by omega) fun x h1 h2 => by
          have : x = j := by omega
          subst this; exact .inr hstj]
        exact r3
      · rw [goes_step, if_neg (fun hh => by rw [hstj] at hh; cases hh.2)]; exact r5
  -- behind the range
  rintro i bit W ⟨g0, rfl, g2, g3, g4, g5, g6, g7⟩ hno
  have hskip : ∀ x, i ≤ x → x < 64 * σ.n → (σ.O x).kind = 0 ∨ stay x = true := fun x h1 h2 => by
    have := of_decide_eq_false (hno x h1 h2)
    left
    have h3 : ((partS σ stay i).O x).kind = 0 := Classical.not_not.1 this
    have h4 : (if x < i then dropO σ.O stay x else σ.O x).kind = 0 := h3
    rwa [if_neg (by omega)] at h4
  have hpe := partS_skip hI (stay := stay) g0 (Nat.le_refl _) hskip
  rw [hpe] at g3
  have hge := goes_skip σ stay g0 hskip
  rw [← hge] at g5
  clear hno hskip hpe hge
  have hD8 : w8.heap.size < W.heap.size := by omega
  refine loop_rule (fun k : Nat => ((k : Int), ())) (fun k W' => k ≤ 8 ∧ Upd (spF B) W W' ∧ SpR W' B { rawOf (partS σ stay (64 * σ.n)) with fr := (fun c i => if c < k then false else frB σ c i) }) (fun k => 8 - k) 0 rfl ⟨by omega, Upd.refl, ?_⟩ ?_
  · refine g3.congr rfl (fun _ _ => rfl) (fun _ _ => rfl) (fun _ _ => rfl) (fun c i hc hi => ?_) rfl rfl rfl rfl
    show frB σ c i = if c < 0 then false else frB σ c i
    rw [if_neg (by omega)]
  rintro k W1 K3 ⟨hk, uW1, hW1⟩ hK3
  have hs1 := uW1.at g4.2.1 (hbx _ (by omega))
  refine ifB_d (fun hlt => ?_) fun hlt => ?_
  · have hk8 : k < 8 := by simp only at hlt; omega
    refine ⟨_, cell_of hs1 0, ⟨by dsimp only; omega, by dsimp only; omega⟩, _, cell_f (c := k) hW1 hk8, ?_⟩
    refine (c123 (hW1.hf k hk8)).use ?_
    rintro _ W2 ⟨rfl, hbm, u2⟩
    refine ⟨rfl, ?_⟩
    rw [wrap_id (by dsimp only; omega) (by dsimp only; omega)]
    refine hK3 (k + 1) W2 ⟨hk8, uW1.trans (u2.mono (one_F (x := .fr k) hk8)), (hW1.putF hk8 hbm u2).congr rfl (fun _ _ => rfl) (fun _ _ => rfl) (fun _ _ => rfl) (fun c i hc hi => ?_) rfl rfl rfl rfl⟩ (by omega)
    show up (fun c i => if c < k then false else frB σ c i) k (fun _ => false) c i = if c < k + 1 then false else frB σ c i
    by_cases hck : c = k
    · subst hck; rw [up_same, if_pos (by omega)]
    · rw [up_other _ _ hck]
      by_cases h1 : c < k
      · rw [if_pos h1, if_pos (by omega)]
      · rw [if_neg h1, if_neg (by omega)]
  have hk8 : k = 8 := by simp only at hlt; omega
  subst hk8
  have hW1 : SpR W1 B (trR σ stay 0) := by
    have hO : ∀ i, i < 64 * σ.n → (partS σ stay (64 * σ.n)).O i = (leftS σ stay).O i := fun i hi => by
      show (if i < 64 * σ.n then dropO σ.O stay i else σ.O i) = dropO σ.O stay i
      rw [if_pos hi]
    refine hW1.congr rfl (fun i hi => ?_) (fun i hi => ?_) (fun i hi => ?_) (fun c i hc hi => ?_) ?_ ?_ rfl ?_
    · show σ.W i = if i / 64 < 0 then clW (leftS σ stay) i else σ.W i
      rw [if_neg (by omega)]
    · show gvP σ.P _ i = gvP σ.P _ i
      rw [gvP_congr fun q => ?_]
      constructor
      · rintro ⟨a1, a2, _⟩; exact ⟨a1, .inl a2⟩
      · rintro ⟨a1, a2 | a2⟩
        · exact ⟨a1, a2, by have := a1.1; omega⟩
        · omega
    · show decide (((partS σ stay (64 * σ.n)).O i).kind ≠ 0) = decide (((leftS σ stay).O i).kind ≠ 0)
      rw [hO i hi]
    · show (if c < 8 then false else frB σ c i) = if i / 64 < 0 then frB (leftS σ stay) c i else false
      rw [if_pos hc, if_neg (by omega)]
    · exact shL_congr hO
    · exact plL_congr (σ := partS σ stay (64 * σ.n)) rfl hO
    · exact rmS_congr (σ := partS σ stay (64 * σ.n)) rfl hO
  refine ⟨_, cell_of hs1 0, _, cell_of hW1.hs 1, ?_⟩
  obtain ⟨low, free, ht⟩ := hW1.ht
  have ht : Tb W1 (B .t) (B .p) σ.n σ.n (ptP σ stay 0) low free := ht
  refine (c124 ht).use fun W2 e2 => ⟨_, rfl, ?_⟩
  refine loop_rule (fun p : Nat => ((p : Int), ())) (fun p W' => p ≤ σ.n ∧ Upd (spF B) W W' ∧ SpR W' B (trR σ stay p)) (fun p => σ.n - p) 0 rfl ⟨by omega, uW1.trans (Kp.upd e2), hW1.kp e2⟩ ?_
  rintro p W3 K4 ⟨hp, uW3, hW3⟩ hK4
  have hs3 := uW3.at g4.2.1 (hbx _ (by omega))
  refine ifB_d (fun hlt => ?_) fun hlt => ?_
  · have hpn : p < σ.n := by simp only at hlt; omega
    refine ⟨_, cell_of hs3 0, ?_⟩
    refine (c125 hI hpn hW3).use ?_
    rintro _ W4 ⟨rfl, hW4, u4⟩
    refine ⟨rfl, ?_⟩
    rw [wrap_id (by dsimp only; omega) (by dsimp only; omega)]
    exact hK4 (p + 1) W4 ⟨hpn, uW3.trans u4, hW4⟩ (by omega)
  have hpe : p = σ.n := by simp only at hlt; omega
  subst hpe
  obtain ⟨σL, hσL⟩ : ∃ σL, σL = leftS σ stay := ⟨_, rfl⟩
  have hnL : σL.n = σ.n := by rw [hσL]; rfl
  have hIL : Inv σL := hσL ▸ hI.left stay
  rw [← hσL]
  have hW3 : SpR W3 B { rawOf σL with W := lnW σL 0 0 } := by
    refine hW3.congr hnL (fun i hi => ?_) (fun i hi => ?_) (fun i hi => ?_) (fun c i hc hi => ?_) ?_ ?_ ?_ ?_
    · have hi : i < 64 * σ.n := hi
      show (if i / 64 < σ.n then clW (leftS σ stay) i else σ.W i) = lnW σL 0 0 i
      rw [if_pos (by omega), lnW_zero, hσL]
    · have hi : i < σ.n := hi
      rw [hσL]
      show gvP σ.P _ i = gvP σ.P _ i
      rw [gvP_congr fun q => ?_]
      constructor
      · rintro ⟨a1, _⟩; exact a1
      · intro a1; exact ⟨a1, .inr a1.1⟩
    · rw [hσL]; rfl
    · have hi : i < 64 * σ.n := hi
      show (if i / 64 < σ.n then frB (leftS σ stay) c i else false) = frB σL c i
      rw [if_pos (by omega), hσL]
    · rw [hσL]; rfl
    · rw [hσL]; rfl
    · rw [hσL]; rfl
    · rw [hσL]; rfl
  refine ⟨_, cell_of hs3 0, ?_⟩
  refine ⟨_, cell_f (c := 0) hW3 (by omega), _, cell_f (c := 1) hW3 (by omega), _, cell_f (c := 2) hW3 (by omega), _, cell_f (c := 3) hW3 (by omega), _, cell_f (c := 4) hW3 (by omega), _, cell_f (c := 5) hW3 (by omega), _, cell_f (c := 6) hW3 (by omega), _, cell_f (c := 7) hW3 (by omega), ?_⟩
  have hf3 := uW3.at g5 (hbx _ (by omega))
  have hD3 := uW3.at g6 (hbx _ (by omega))
  refine loop_rule (fun g : Nat × List Nat => (((g.1 : Int), ()), g.2)) (fun g W' => g.1 ≤ 8 ∧ Upd (spF B) w W' ∧ SpR W' B { rawOf σL with W := lnW σL g.1 0 } ∧ W'.heap[sb]? = some (Bl [pt (B .s)] 34) ∧ W'.heap[fb]? = some (Bl [I ((goes σ stay (64 * σ.n) : Nat) : Int)] 3) ∧ g.2.Nodup ∧ ∀ D, D ∈ g.2 → w.heap.size ≤ D ∧ D ≠ fb ∧ W'.heap[D]? = some (.deferred (some []))) (fun g => 8 - g.1) (0, [w8.heap.size]) rfl
    ⟨by simp, g2.trans uW3, hW3, hs3, hf3, by simp, fun D hD => by simp at hD; subst hD; exact ⟨by omega, by omega, hD3⟩⟩ ?_
  rintro ⟨k, ms⟩ W4 K5 ⟨hk, u4, hW4, hs4', hf4, hms, hmD⟩ hK5
  dsimp only at hk hW4 hms hmD hK5 ⊢
  refine ifB_d (fun hlt => ?_) fun hlt => ?_
  · have hk8 : k < 8 := by omega
    refine ⟨B (.f k) |> fun x => some ⟨x, 0, none⟩, ⟨by omega, by omega⟩, ?_, ?_⟩
    · rw [Int.toNat_natCast]
      rcases lt8 hk8 with rfl | rfl | rfl | rfl | rfl | rfl | rfl | rfl <;> rfl
    refine atW_new fun W5 n5 => stx_at _ n5.at0 (by simp) rfl fun W6 p6 => ?_
    obtain ⟨kb, hkb⟩ : ∃ kb, kb = W4.heap.size := ⟨_, rfl⟩
    rw [← hkb] at p6 ⊢
    have hsz4 := u4.sz
    have u6 : Upd (spF B) w W6 := (u4.new n5).put p6 (by omega)
    have hlk : ∀ x : Sl, x.ok → B x < kb := fun x hx => by have := hlt0 x hx; omega
    have hW6 := (hW4.kp n5.ext).putNew p6 hlk
    have hsl4 := lt_of_look hs4'
    have hfl4 := lt_of_look hf4
    have hs6 := p6.at (n5.ext.at hs4') (by omega)
    have hf6 := p6.at (n5.ext.at hf4) (by omega)
    have hk6 : W6.heap[kb]? = some (Bl [I k] 3) := p6.at0
    refine (c91 W6 (B (.f k))).use ?_
    rintro _ W7 ⟨rfl, n7⟩
    refine ⟨_, rfl, ?_⟩
    obtain ⟨cc, hcc⟩ : ∃ cc, cc = W6.heap.size := ⟨_, rfl⟩
    have hc7 : W7.heap[cc]? = some (Bl [pt (B (.f k))] 88) := hcc ▸ n7.at0
    rw [← hcc]
    have hkl := lt_of_look hk6
    have hsz7 := n7.sz
    have hsl6 := lt_of_look hs6
    have hfl6 := lt_of_look hf6
    have hmD7 : ∀ D, D ∈ ms → W7.heap[D]? = some (.deferred (some [])) ∧ D < kb := fun D hD => by
      obtain ⟨m1, m2, m3⟩ := hmD D hD
      have := lt_of_look m3
      exact ⟨n7.ext.at (p6.at (n5.ext.at m3) (by omega)), by omega⟩
    -- what of the local blocks stays
    have loc2 : ∀ {F : Nat → Prop} {V V' : World}, Upd F V V' → (∀ x, w.heap.size ≤ x → x ≤ W7.heap.size → ¬ F x) → (V.heap[sb]? = some (Bl [pt (B .s)] 34) ∧ V.heap[fb]? = some (Bl [I ((goes σ stay (64 * σ.n) : Nat) : Int)] 3) ∧ V.heap[kb]? = some (Bl [I k] 3) ∧ V.heap[cc]? = some (Bl [pt (B (.f k))] 88) ∧ V.heap[W7.heap.size]? = some (.deferred (some [])) ∧ (∀ D, D ∈ ms → V.heap[D]? = some (.deferred (some [])))) →
        (V'.heap[sb]? = some (Bl [pt (B .s)] 34) ∧ V'.heap[fb]? = some (Bl [I ((goes σ stay (64 * σ.n) : Nat) : Int)] 3) ∧ V'.heap[kb]? = some (Bl [I k] 3) ∧ V'.heap[cc]? = some (Bl [pt (B (.f k))] 88) ∧ V'.heap[W7.heap.size]? = some (.deferred (some [])) ∧ (∀ D, D ∈ ms → V'.heap[D]? = some (.deferred (some [])))) := by
      rintro F V V' u hF ⟨a1, a2, a3, a4, a5, a6⟩
      exact ⟨u.at a1 (hF _ (by omega) (by omega)), u.at a2 (hF _ (by omega) (by omega)), u.at a3 (hF _ (by omega) (by omega)), u.at a4 (hF _ (by omega) (by omega)), u.at a5 (hF _ (by omega) (by omega)), fun D hD => u.at (a6 D hD) (hF _ (hmD D hD).1 (by have := (hmD7 D hD).2; omega))⟩
    refine range_bits (fun i => (i, ())) (fun i => rfl) (fun c Qc hh => by simp at hh)
      (fun i bit V => i ≤ 64 * σ.n ∧ bit = frB σL k ∧ Upd (spF B) w V ∧ SpR V B { rawOf σL with W := lnW σL k i } ∧ (V.heap[sb]? = some (Bl [pt (B .s)] 34) ∧ V.heap[fb]? = some (Bl [I ((goes σ stay (64 * σ.n) : Nat) : Int)] 3) ∧ V.heap[kb]? = some (Bl [I k] 3) ∧ V.heap[cc]? = some (Bl [pt (B (.f k))] 88) ∧ V.heap[W7.heap.size]? = some (.deferred (some [])) ∧ (∀ D, D ∈ ms → V.heap[D]? = some (.deferred (some [])))))
      (cb := cc) (b := B (.f k)) (rb := B (.fr k)) (r := σ.n) ?_ ?_ (frB σL k) ?_ ?_ ?_
    · rintro i bit V ⟨_, rfl, _, q1, ⟨_, _, _, q2, _⟩⟩
      have := q1.hf k hk8
      refine ⟨q2, ?_⟩
      rw [← hnL]; exact this
    · rintro i bit V V' ⟨q0, q1, q2, q3, q4⟩ u
      refine ⟨q0, q1, q2.tr u fun x hx => .inr (by simp only [one] at hx; omega), q3.upd u (fun x hx => by have := hlt0 x hx; simp only [one]; omega) (by simp only [one]; omega), loc2 u (fun x _ _ => by simp only [one]; omega) q4⟩
    · intro V kV hD hsz
      refine ⟨by omega, rfl, (u6.new n7).trans (Kp.upd kV), (hW6.kp n7.ext).kp kV, kV.at (n7.ext.at hs6), kV.at (n7.ext.at hf6), kV.at (n7.ext.at hk6), kV.at hc7, hD, fun D hD => kV.at (hmD7 D hD).1⟩
    · rintro i bit j V rc K6 ⟨q0, rfl, q2, q3, q4⟩ hij hj hbit hno hl8 hnorm _
      dsimp only
      refine ⟨hl8, atW_putO (lt_of_look hl8) fun V2 pV => ?_⟩
      generalize hwd : World.drew V2 = V3
      have d3 : Kp V2 V3 := hwd ▸ ext_drew V2
      have u3 : Upd (spF B) w V3 := (q2.put pV (by omega)).trans (Kp.upd d3)
      have r3 := (q3.putNew pV fun x hx => by have := hlt0 x hx; omega).kp d3
      have r4 := loc2 d3 (fun x _ _ h => h) (loc2 pV.upd (fun x _ _ => by simp only [one]; omega) q4)
      have r7 := d3.at pV.at0
      refine ⟨_, cell_of r4.1 0, _, cell_of r4.2.2.1 0, _, cell_of r4.1 0, _, _, _, cell_of r3.hs 0, ?_⟩
      refine (c92 r3 (c := k) (a := j) hk8 (by show j < 64 * σL.n; omega)).use fun V4 e4 => ⟨_, rfl, e4.draw, ⟨by omega, by show (j : Int) < ((64 * σL.n : Nat) : Int); omega⟩, ?_⟩
      have s3 := r3.kp e4
      rw [add_mk, Int.toNat_natCast, Nat.zero_add, Nat.mul_one]
      refine stx_at _ s3.hw (by simp; show j < 64 * σL.n; omega) rfl fun V5 p5 => ?_
      rw [Nat.add_zero, ints_set] at p5
      have t3 := s3.putW p5
      have hwne : ∀ x, w.heap.size ≤ x → ¬ one (B .w) x := fun x hx => by have := hlt0 .w trivial; simp only [one]; omega
      refine hnorm (frB σL k) V5 ⟨by omega, rfl, (u3.trans (Kp.upd e4)).trans (p5.upd.mono (one_F (x := .w) trivial)), ?_, loc2 p5.upd (fun x hx _ => hwne x hx) (loc2 e4 (fun x _ _ h => h) r4)⟩ (p5.upd.at (e4.at r7) (hwne _ (by omega)))
      refine t3.congr rfl (fun x hx => ?_) (fun _ _ => rfl) (fun _ _ => rfl) (fun _ _ _ _ => rfl) rfl rfl rfl rfl
      have hx : x < 64 * σL.n := hx
      show up (lnW σL k i) j (lkS (nfS σL k (j + 1))) x = lnW σL k (j + 1) x
      rw [← lnW_step hk8 hbit]
      unfold up
      by_cases hxj : x = j
      · rw [if_pos hxj, if_pos hxj]
      · rw [if_neg hxj, if_neg hxj]
        exact lnW_skip hij (fun y h1 h2 h3 => hno y h1 h2) hx
    · rintro i bit V ⟨q0, rfl, q2, q3, q4⟩ hno
      rw [wrap_id (by omega) (by omega)]
      refine hK5 (k + 1, W7.heap.size :: ms) V ⟨hk8, q2, ?_, q4.1, q4.2.1, ?_, ?_⟩ (by dsimp only; omega)
      · refine q3.congr rfl (fun x hx => ?_) (fun _ _ => rfl) (fun _ _ => rfl) (fun _ _ _ _ => rfl) rfl rfl rfl rfl
        have hx : x < 64 * σL.n := hx
        exact lnW_next (fun y h1 h2 => hno y h1 (by omega)) hx
      · refine List.nodup_cons.2 ⟨fun hh => ?_, hms⟩
        have := (hmD7 _ hh).2
        omega
      · intro D hD
        rcases List.mem_cons.1 hD with rfl | hD
        · exact ⟨by omega, by omega, q4.2.2.2.2.1⟩
        · exact ⟨(hmD D hD).1, (hmD D hD).2.1, q4.2.2.2.2.2 D hD⟩
  · have hke : k = 8 := by omega
    subst hke
    refine ⟨_, cell_of hf4 0, takeMs_intro hms (fun D hD => (hmD D hD).2.2) fun W5 u5 => ⟨rfl, ?_, ?_⟩⟩
    · have h0m : (0 : Nat) ∉ ms := fun hh => by have := (hmD 0 hh).1; have := hlt0 .s trivial; omega
      exact hW4.upd u5 (fun x hx hh => by have := (hmD _ hh).1; have := hlt0 x hx; omega) h0m
    · exact u4.tr u5 fun x hx => .inr (hmD x hx).1
end
end Go.Wx
end
section
/- Contracts of making a space, of the reference's Copy, Fits, Room, Wrong. -/
set_option linter.unusedVariables false
set_option maxRecDepth 100000
namespace Go.Wx
open Go

def newS (n : Nat) : St := { n := n, W := fun _ => 0, P := fun _ => Pg.z, O := fun _ => Bk.z, last := 0 }
theorem newS_inv {n : Nat} (h1 : 1 ≤ n) (h2 : n ≤ 4096) : Inv (newS n) :=
  ⟨h1, h2, fun p _ => .inl rfl, fun i _ hk => absurd rfl hk, fun _ _ _ => rfl, fun i j _ _ hk => absurd rfl hk, fun p _ hk => by simp [newS, Pg.z] at hk, Int.le_refl _⟩

theorem zc5 (m : Nat) : zcells [Value.int IntKind.i64 0, Value.int IntKind.i64 0, Value.int IntKind.i64 0, Value.int IntKind.i64 0, Value.int IntKind.i64 0] m = bks m fun _ => Bk.z := by
  rw [z5, zcells_recs (z := 5) rfl]; rfl
theorem zc1 (m : Nat) : zcells [Value.int IntKind.i64 0] m = ints m fun _ => 0 := zcells_one _ _

theorem c21_bad (w : World) {n : Int} (h : n < 1 ∨ n > 4096) : RetE PR 21 [I n] w (.tuple (Array.mk [.pointer none, I 1])) := by
  refine Ret.of ((S21_eq _ w _).mpr ?_)
  unfold S21
  refine (c59_bad w h).use fun w1 e1 => ⟨_, _, rfl, ifB_ne (fun _ => ⟨rfl, e1⟩) fun hh => by omega⟩
theorem c21 (w : World) {n : Nat} (h1 : 1 ≤ n) (h2 : n ≤ 4096) : Ret PR 21 [I n] w fun v w' => ∃ R : RB, v = .tuple (Array.mk [pt R.s, I 0]) ∧ Rf w' R (newS n) ∧ Kp w w' ∧ (∀ b, R.F b → w.heap.size ≤ b) ∧ R.cw = 64 * n ∧ R.cp = n ∧ R.co = 64 * n := by
  refine Ret.of ((S21_eq _ w _).mpr ?_)
  unfold S21
  refine (c59 w h1 h2).use ?_
  rintro _ w1 ⟨tb, pb, rfl, ht, e1, htb, hpb⟩
  have e64 : IntKind.i64.wrap ((n : Int) * 64) = ((64 * n : Nat) : Int) := by rw [wrap_id (by omega) (by omega)]; simp; omega
  refine ⟨_, _, rfl, ifB_ne (fun hh => by omega) fun _ => ?_⟩
  rw [e64, Int.toNat_natCast, zc1, zc5]
  generalize hwd : World.drew w1 = wd
  have d1 : Kp w1 wd := hwd ▸ ext_drew w1
  have ht := ht.kp d1
  have hsz := e1.sz
  have hsz2 := d1.sz
  have both : ∀ {A C : Obj} {wb ob : Nat} {w2 w3 : World}, New wd A w2 → New w2 C w3 → w3.heap[wb]? = some (Bl (ints (64 * n) fun _ => 0) 3) → w3.heap[ob]? = some (Bl (bks (64 * n) fun _ => Bk.z) 106) → w.heap.size ≤ wb → w.heap.size ≤ ob →
      atW (w3.alloc (Obj.cells (Array.mk [Value.slice (some ⟨wb, 0, none⟩) (64 * n) (64 * n), pt tb, Value.slice (some ⟨ob, 0, none⟩) (64 * n) (64 * n), Value.int IntKind.i64 0]) 74)) fun w' =>
        ∃ R : RB, Value.tuple (Array.mk [pt w3.heap.size, I 0]) = .tuple (Array.mk [pt R.s, I 0]) ∧ Rf w' R (newS n) ∧ Kp w w' ∧ (∀ b, R.F b → w.heap.size ≤ b) ∧ R.cw = 64 * n ∧ R.cp = n ∧ R.co = 64 * n := by
    intro A C wb ob w2 w3 na nc hw ho hwb hob
    have := na.sz
    have := nc.sz
    refine atW_new fun w4 n4 => ⟨⟨w3.heap.size, wb, tb, pb, ob, 64 * n, n, 64 * n⟩, rfl, ⟨n4.at0, n4.ext.at hw, ((ht.kp na.ext).kp nc.ext).kp n4.ext, n4.ext.at ho, Nat.le_refl _, Nat.le_refl _, h1, h2⟩, (((e1.trans d1).trans na.ext).trans nc.ext).trans n4.ext, ?_, rfl, rfl, rfl⟩
    rintro b (rfl | rfl | rfl | rfl | rfl)
    · show w.heap.size ≤ w3.heap.size; omega
    · exact hwb
    · exact hpb
    · exact hob
    · exact htb
  refine ⟨⟨⟨by omega, by omega, by omega⟩, ⟨by omega, by omega, by omega⟩, ?_⟩, ⟨by omega, by omega, by omega⟩, ⟨by omega, by omega, by omega⟩, ?_⟩
  · have na := new_alloc wd (Obj.cells (Array.mk (ints (64 * n) fun _ => 0)) 3)
    generalize wd.alloc (Obj.cells (Array.mk (ints (64 * n) fun _ => 0)) 3) = w2 at na ⊢
    have nc := new_alloc w2 (Obj.cells (Array.mk (bks (64 * n) fun _ => Bk.z)) 106)
    generalize w2.alloc (Obj.cells (Array.mk (bks (64 * n) fun _ => Bk.z)) 106) = w3 at nc ⊢
    have := na.sz
    exact both na nc (nc.ext.at na.at0) nc.at0 (by omega) (by omega)
  · have na := new_alloc wd (Obj.cells (Array.mk (bks (64 * n) fun _ => Bk.z)) 106)
    generalize wd.alloc (Obj.cells (Array.mk (bks (64 * n) fun _ => Bk.z)) 106) = w2 at na ⊢
    have nc := new_alloc w2 (Obj.cells (Array.mk (ints (64 * n) fun _ => 0)) 3)
    generalize w2.alloc (Obj.cells (Array.mk (ints (64 * n) fun _ => 0)) 3) = w3 at nc ⊢
    have := na.sz
    exact both na nc nc.at0 (nc.ext.at na.at0) (by omega) (by omega)

def cutS (σ : St) : St := { σ with W := cutW (64 * σ.n) σ.W, P := cutP σ.n σ.P, O := cutO (64 * σ.n) σ.O }
theorem cutS_P {σ : St} {p : Nat} (h : p < σ.n) : (cutS σ).P p = σ.P p := by show cutP _ _ _ = _; rw [cutP, if_pos h]
theorem cutS_O {σ : St} {p : Nat} (h : p < 64 * σ.n) : (cutS σ).O p = σ.O p := by show cutO _ _ _ = _; rw [cutO, if_pos h]
theorem cutS_fr {σ : St} {c i : Nat} (h : i < 64 * σ.n) : frB (cutS σ) c i = frB σ c i := by unfold frB; rw [cutS_P (by omega), cutS_O h]
theorem Inv.cutS {σ : St} (hI : Inv σ) : Inv (cutS σ) := by
  have hP := fun {p : Nat} (h : p < σ.n) => cutS_P (σ := σ) h
  have hO := fun {p : Nat} (h : p < 64 * σ.n) => cutS_O (σ := σ) h
  refine ⟨hI.n1, hI.n2, fun p hp => ?_, fun i hi hk => ?_, fun i hi hk => ?_, fun i j hi hj hki hkj hs he => ?_, fun p hp hk => ?_, hI.last0⟩
  · have hp : p < σ.n := hp
    unfold PgOK
    rw [hP hp]
    rcases hI.pg p hp with h0 | h1 | ⟨r, r1, r2, r3, r4, r5⟩ | ⟨r1, hh, r, r2, r3, r4⟩
    · exact .inl h0
    · exact .inr (.inl h1)
    · exact .inr (.inr (.inl ⟨r, r1, r2, r3, r4, fun j hj1 hj2 => by rw [hP (by omega)]; exact r5 j hj1 hj2⟩))
    · exact .inr (.inr (.inr ⟨r1, hh, r, r2, r3, by rw [hP (by omega)]; exact r4⟩))
  · have hi : i < 64 * σ.n := hi
    rw [hO hi] at hk
    have h := hI.ob i hi hk
    refine ⟨by rw [hO hi]; exact h.fit, by rw [hO hi]; exact h.at_, by rw [hO hi]; exact h.ser, by rw [hO hi]; exact h.ser0, ?_⟩
    rw [hO hi]
    unfold PlOK
    rw [hP (by omega)]; exact h.pl
  · have hi : i < 64 * σ.n := hi
    rw [hO hi] at hk ⊢; exact hI.oz i hi hk
  · have hi : i < 64 * σ.n := hi
    have hj : j < 64 * σ.n := hj
    rw [hO hi] at hki hs he; rw [hO hj] at hkj he
    exact hI.ser i j hi hj hki hkj hs he
  · have hp : p < σ.n := hp
    rw [hP hp] at hk; rw [hO (by omega)]; exact hI.hd p hp hk

/-- Do these fit, from the i-th on? -/
def fitsF (ks : Nat → Int) : Nat → Nat → St → Bool
  | 0, _, _ => true
  | f + 1, i, τ => if (plS τ (ks i)).1 < 0 then false else fitsF ks f (i + 1) (takeS τ (plS τ (ks i)).1.toNat (plS τ (ks i)).2 3 (ks i) 0)
def fitsS (σ : St) (ks : Nat → Int) (l : Nat) : Bool := fitsF ks l 0 (cutS σ)
theorem fit3 {n : Int} (h1 : 1 ≤ n) (h2 : n ≤ 1024) : fitS 3 n = true := by
  unfold fitS; rw [decide_eq_true_iff]; simp [shB, shM]; omega
theorem pl_rng {τ : St} {size : Int} (h : ¬ (plS τ size).1 < 0) : 1 ≤ size ∧ size ≤ 1024 := by
  unfold plS at h
  by_cases hn : ofS size < 0
  · rw [if_pos hn] at h; simp at h
  · unfold ofS at hn
    by_cases h1 : size < 1
    · rw [if_pos h1] at hn; omega
    · rw [if_neg h1] at hn
      by_cases h2 : size > 1024
      · rw [if_pos h2] at hn; omega
      · omega

section
variable {w : World} {R : RB} {σ : St}

theorem c84 (h : Rf w R σ) : Ret PR 84 [pt R.s] w fun v w' => ∃ R' : RB, v = pt R'.s ∧ Rf w' R' (cutS σ) ∧ Kp w w' ∧ (∀ b, R'.F b → w.heap.size ≤ b) := by
  refine Ret.of ((S84_eq _ w _).mpr ?_)
  unfold S84
  have hn1 := h.n1
  have hn2 := h.n2
  have hcw := h.hcw
  have hco := h.hco
  generalize hwd : World.drew w = wd
  have d1 : Kp w wd := hwd ▸ ext_drew w
  have h1 := h.kp d1
  have hszd := d1.sz
  refine ⟨_, _, _, cell_of h1.hs 0, _, cell_of h1.hs 1, _, _, _, cell_of h1.hs 2, _, cell_of h1.hs 3, ?_⟩
  refine copy_at h1.hw (by omega) (by simp; omega) (fun v hv => ints_leaf v (List.mem_of_mem_take hv)) (by omega) fun c1 w2 hc1 n2 => ⟨n2.ext.draw, ?_⟩
  rw [ints_copy hcw hc1] at n2
  have h2 := h1.kp n2.ext
  refine (c111 h2.ht hn1).use ?_
  rintro _ w3 ⟨tb', pb', c', rfl, ht, e3, htb, hpb⟩
  refine ⟨_, rfl, e3.draw, ?_⟩
  have h3 := h2.kp e3
  refine copy_at h3.ho (by omega) (by simp; omega) (fun v hv => bks_leaf v (List.mem_of_mem_take hv)) (by omega) fun c2 w4 hc2 n4 => ⟨n4.ext.draw, ?_⟩
  rw [bks_copy hco hc2] at n4
  have hs2 := n2.sz
  have hs3 := e3.sz
  have hs4 := n4.sz
  rw [Nat.zero_add]
  refine atW_new fun w5 n5 => ⟨⟨w4.heap.size, wd.heap.size, tb', pb', w3.heap.size, c1, c', c2⟩, rfl, ⟨n5.at0, n5.ext.at (n4.ext.at (e3.at n2.at0)), (ht.kp n4.ext).kp n5.ext, n5.ext.at n4.at0, hc1, hc2, hn1, hn2⟩, ((((d1.trans n2.ext).trans e3).trans n4.ext).trans n5.ext), ?_⟩
  rintro b (hb | hb | hb | hb | hb)
  · have hb : b = w4.heap.size := hb; omega
  · have hb : b = wd.heap.size := hb; omega
  · have hb : b = pb' := hb; omega
  · have hb : b = w3.heap.size := hb; omega
  · have hb : b = tb' := hb; omega

theorem takeS_last (τ : St) (a : Nat) (f : Bool) (size : Int) : (takeS τ a f 3 size 0).last = τ.last + 1 := by
  show (if numS 3 then τ.last + 1 else τ.last) = _
  rw [show numS 3 = true from rfl, if_pos rfl]

theorem c36 (hI : Inv σ) (h : Rf w R σ) {s : Option Addr} {l c : Nat} {ks : Nat → Int} (hs : Ls w s l ks) (hl : l < 1000000) (hlast : σ.last < 100000000000) : RetE PR 36 [pt R.s, .slice s l c] w (.bool (fitsS σ ks l)) := by
  refine Ret.of ((S36_eq _ _ _ _ w _).mpr ?_)
  unfold S36
  refine (c84 h).use ?_
  rintro _ w1 ⟨R', rfl, h1, e1, hnew⟩
  refine ⟨_, rfl, ?_⟩
  refine loop_rule (fun g : Nat × St => (false, (g.1 : Int), ())) (fun g w' => g.1 ≤ l ∧ Kp w w' ∧ Rf w' R' g.2 ∧ Inv g.2 ∧ g.2.last ≤ σ.last + g.1 ∧ fitsF ks (l - g.1) g.1 g.2 = fitsS σ ks l) (fun g => l - g.1) (0, cutS σ) rfl ⟨by simp, e1, h1, hI.cutS, by simp [cutS], rfl⟩ ?_
  rintro ⟨i, τ⟩ w2 K ⟨hi, k2, h2, hIτ, hlτ, hf⟩ hK
  dsimp only at hi h2 hIτ hlτ hf hK ⊢
  refine ifB_d (fun hlt => ?_) fun hlt => ⟨?_, k2⟩
  · have hlt : i < l := by omega
    obtain ⟨a, rfl, hcell⟩ := hs i hlt
    refine ⟨⟨by omega, by omega⟩, _, cell_kp k2 hcell, ?_⟩
    refine (c61 h2 (ks i)).use fun w3 e3 => ⟨_, _, rfl, ?_⟩
    obtain ⟨f, hfe⟩ : ∃ f, l - i = f + 1 := ⟨l - i - 1, by omega⟩
    rw [hfe, fitsF] at hf
    refine ifB_d (fun hneg => ⟨?_, k2.trans e3⟩) fun hneg => ?_
    · rw [if_pos hneg] at hf; rw [← hf]
    · rw [if_neg hneg] at hf
      refine ⟨⟨by omega, by omega⟩, _, cell_kp (k2.trans e3) hcell, ?_⟩
      obtain ⟨s1, s2⟩ := pl_rng hneg
      obtain ⟨b, ff, hp, hplc⟩ : ∃ (a : Nat) (f : Bool), plS τ (ks i) = ((a : Int), f) ∧ PlcOK τ (ks i) a f := by
        rcases plS_cases τ s1 s2 with h1 | h1
        · rw [h1] at hneg; simp at hneg
        · exact h1
      rw [hp, Int.toNat_natCast] at hf
      rw [hp]
      refine (c65 hIτ (h2.kp e3) (tag := 0) (fit3 s1 s2) hp (by omega)).use ?_
      rintro _ w4 ⟨rfl, h4, u4⟩
      refine ⟨rfl, ?_⟩
      rw [wrap_id (by omega) (by omega)]
      have hsz := k2.sz
      refine hK (i + 1, takeS τ b ff 3 (ks i) 0) w4 ⟨hlt, (k2.trans e3).tr u4 fun x hx => .inr (hnew x hx), h4, hIτ.take (fit3 s1 s2) hplc, by rw [takeS_last]; dsimp only; omega, ?_⟩ (by dsimp only; omega)
      dsimp only
      rw [show l - (i + 1) = f by omega]; exact hf
  · have : i = l := by omega
    subst this
    rw [Nat.sub_self] at hf
    rw [← hf]; rfl

theorem c46 (hI : Inv σ) (h : Rf w R σ) : RetE PR 46 [pt R.s] w (I (rmS σ)) := by
  refine Ret.of ((S46_eq _ w _).mpr ?_)
  unfold S46
  have hco := h.hco
  have hn2 := h.n2
  have bnd : ∀ n : Nat, n ≤ 64 * σ.n → 0 ≤ sumI (roomAt σ.O) n ∧ sumI (roomAt σ.O) n ≤ 1024 * n := by
    intro n
    induction n with
    | zero => intro _; exact ⟨Int.le_refl _, Int.le_refl _⟩
    | succ n ih =>
      intro hn
      have := ih (by omega)
      rw [sumI]
      have hr : 0 ≤ roomAt σ.O n ∧ roomAt σ.O n ≤ 1024 := by
        unfold roomAt
        split
        · rename_i hk
          obtain ⟨r1, r2, _⟩ := hI.room (i := n) (by omega) hk
          have := size_room r1 r2
          omega
        · omega
      omega
  refine loop_rule (fun i : Nat => (sumI (roomAt σ.O) i, (i : Int), ())) (fun i w' => i ≤ 64 * σ.n ∧ Kp w w') (fun i => 64 * σ.n - i) 0 rfl ⟨by omega, kp0⟩ ?_
  rintro i w1 K ⟨hi, k1⟩ hK
  have h1 := h.kp k1
  dsimp only
  refine ⟨_, _, _, cell_of h1.hs 2, ifB_d (fun hlt => ?_) fun hlt => ⟨?_, k1⟩⟩
  · have hlt : i < 64 * σ.n := by omega
    have hb1 := bnd i (by omega)
    have hb2 := bnd (i + 1) (by omega)
    rw [sumI] at hb2
    refine ⟨_, _, _, cell_of h1.hs 2, ⟨by omega, by omega⟩, _, bks_cell (i := i) h1.ho (by omega) (by omega), ifB_ne (fun hk => ?_) fun hk => ?_⟩
    · refine ⟨_, _, _, cell_of h1.hs 2, ⟨by omega, by omega⟩, _, bks_cell (i := i) h1.ho (by omega) (by omega), ?_⟩
      refine (c93 w1 _).use fun w2 e2 => ⟨_, rfl, ?_⟩
      have hr : roomAt σ.O i = roomS (σ.O i).size := by rw [roomAt, if_pos hk]
      rw [hr] at hb2
      rw [wrap_id (by omega) (by omega), wrap_id (by omega) (by omega)]
      have := hK (i + 1) w2 ⟨hlt, k1.trans e2⟩ (by omega)
      rw [sumI, hr] at this
      exact this
    · have hr : roomAt σ.O i = 0 := by rw [roomAt, if_neg (fun hh => hh hk)]
      rw [wrap_id (by omega) (by omega)]
      have := hK (i + 1) w1 ⟨hlt, k1⟩ (by omega)
      rw [sumI, hr, Int.add_zero] at this
      exact this
  · have : i = 64 * σ.n := by omega
    rw [this]; rfl

end
end Go.Wx
end
section
/- Contracts of making a program's space. -/
set_option linter.unusedVariables false
set_option maxRecDepth 100000
namespace Go.Wx
open Go

def mkG (f : Nat → Nat) (i j : Nat) : Value := if j < i then pt (f j) else Value.pointer none
/-- The cells of a space that is being made: as many of its maps of free blocks as i stand. -/
def mkC (n wb tb kb sb lb : Nat) (f : Nat → Nat) (i : Nat) : List Value :=
  [.slice (some ⟨wb, 0, none⟩) (64 * n) (64 * n), pt tb, pt kb, mkG f i 0, mkG f i 1, mkG f i 2, mkG f i 3, mkG f i 4, mkG f i 5, mkG f i 6, mkG f i 7, .map (some sb), .map (some lb), I 0, I 0]
theorem mkC_set {n wb tb kb sb lb : Nat} {f : Nat → Nat} {i b : Nat} (hi : i < 8) :
    setL (mkC n wb tb kb sb lb f i) (3 + i) [pt b] = mkC n wb tb kb sb lb (up f i b) (i + 1) := by
  match i, hi with
  | 0, _ | 1, _ | 2, _ | 3, _ | 4, _ | 5, _ | 6, _ | 7, _ => rfl

structure MkI (w : World) (n sb wb tb pb kb kr hb lb : Nat) (i : Nat) (f fr : Nat → Nat) : Prop where
  hs : w.heap[sb]? = some (Bl (mkC n wb tb kb hb lb f i) 91)
  hw : w.heap[wb]? = some (Bl (ints (64 * n) fun _ => 0) 3)
  ht : Tb w tb pb n n (fun _ => Pg.z) 0 n
  hk : Bm w kb kr n fun _ => false
  hh : w.heap[hb]? = some (.map #[] 0)
  hl : w.heap[lb]? = some (.map #[] 0)
  hf : ∀ j, j < i → Bm w (f j) (fr j) n fun _ => false
  lo : ∀ j, j < i → sb < f j ∧ sb < fr j ∧ kb < f j ∧ kb < fr j ∧ kr < f j ∧ kr < fr j
  or : ∀ j l, j < l → l < i → f j < f l ∧ f j < fr l ∧ fr j < f l ∧ fr j < fr l
  ord : tb < wb ∧ pb < wb ∧ wb < hb ∧ hb < lb ∧ lb < sb ∧ sb < kb ∧ sb < kr

theorem Bm.lts {w : World} {b rb r : Nat} {bit : Nat → Bool} (h : Bm w b rb r bit) : b < w.heap.size ∧ rb < w.heap.size := ⟨lt_of_look h.h0, lt_of_look h.h1⟩

theorem MkI.upd {w w' : World} {n sb wb tb pb kb kr hb lb i : Nat} {f fr : Nat → Nat} (h : MkI w n sb wb tb pb kb kr hb lb i f fr) (u : Kp w w') : MkI w' n sb wb tb pb kb kr hb lb i f fr :=
  ⟨u.at h.hs, u.at h.hw, h.ht.kp u, h.hk.kp u, u.at h.hh, u.at h.hl, fun j hj => (h.hf j hj).kp u, h.lo, h.or, h.ord⟩
theorem MkI.step {w w' w2 : World} {n sb wb tb pb kb kr hb lb i b rb : Nat} {f fr : Nat → Nat} (h : MkI w n sb wb tb pb kb kr hb lb i f fr) (e : Kp w w2) (hb' : Bm w2 b rb n fun _ => false) (h1 : w.heap.size ≤ b) (h2 : w.heap.size ≤ rb)
    (p : Put w2 sb (Bl (mkC n wb tb kb hb lb (up f i b) (i + 1)) 91) w') : MkI w' n sb wb tb pb kb kr hb lb (i + 1) (up f i b) (up fr i rb) := by
  have k := h.upd e
  have hsz := lt_of_look h.hs
  obtain ⟨o1, o2, o3, o4, o5, o6, o7⟩ := h.ord
  have hkl := h.hk.lts
  have d0 : ¬ one sb 0 := fun hh => by simp only [one] at hh; omega
  refine ⟨p.at0, p.at k.hw (by omega), k.ht.upd p.upd (by simp only [one]; omega) (by simp only [one]; omega), k.hk.upd p.upd (by simp only [one]; omega) (by simp only [one]; omega) d0, p.at k.hh (by omega), p.at k.hl (by omega), fun j hj => ?_, fun j hj => ?_, fun j l hjl hl => ?_, h.ord⟩
  · by_cases hji : j = i
    · subst hji; rw [up_same, up_same]
      exact hb'.upd p.upd (by simp only [one]; omega) (by simp only [one]; omega) d0
    · rw [up_other _ _ hji, up_other _ _ hji]
      have := h.lo j (by omega)
      exact (k.hf j (by omega)).upd p.upd (by simp only [one]; omega) (by simp only [one]; omega) d0
  · by_cases hji : j = i
    · subst hji; rw [up_same, up_same]; omega
    · rw [up_other _ _ hji, up_other _ _ hji]; exact h.lo j (by omega)
  · rw [up_other _ _ (by omega : j ≠ i), up_other _ _ (by omega : j ≠ i)]
    by_cases hli : l = i
    · subst hli; rw [up_same, up_same]
      have := (h.hf j hjl).lts
      omega
    · rw [up_other _ _ hli, up_other _ _ hli]; exact h.or j l hjl (by omega)

def mkB (sb wb tb pb kb kr hb lb : Nat) (f fr : Nat → Nat) : Sl → Nat
  | .s => sb | .w => wb | .t => tb | .p => pb | .k => kb | .kr => kr | .sh => hb | .pl => lb | .f c => f c | .fr c => fr c

theorem newS_room (n : Nat) : rmS (newS n) = 0 := by
  have : ∀ m, sumI (roomAt (newS n).O) m = 0 := by
    intro m
    induction m with
    | zero => rfl
    | succ m ih => rw [sumI, ih]; rfl
  exact this _
theorem newS_sh (n : Nat) : shL (newS n).n (newS n).O = fun _ => none := by
  funext k; unfold shL; rw [if_neg (fun h => h.2.2 rfl)]
theorem newS_fn (n : Nat) (s : Int) : fnS (newS n) s = -1 := by
  unfold fnS
  by_cases h : s ≥ 1
  · rw [if_pos h]; exact nxt_none fun j _ _ => by simp [newS, Bk.z]
  · rw [if_neg h]
theorem newS_pl (n : Nat) : plL (newS n) = fun _ => none := by
  funext k; unfold plL; rw [newS_fn, if_pos (by omega)]

theorem MkI.sp {w : World} {n sb wb tb pb kb kr hb lb : Nat} {f fr : Nat → Nat} (h : MkI w n sb wb tb pb kb kr hb lb 8 f fr) (n1 : 1 ≤ n) : Sp w (mkB sb wb tb pb kb kr hb lb f fr) (newS n) := by
  have h0 : SpR w (mkB sb wb tb pb kb kr hb lb f fr) { n := n, W := fun _ => 0, P := fun _ => Pg.z, tk := fun _ => false, fr := fun _ _ => false, sh := fun _ => none, pl := fun _ => none, last := 0, room := 0 } := by
    refine ⟨h.hs, h.hw, ⟨_, _, h.ht⟩, h.hk, h.hf, ⟨_, _, h.hh, mp_nil⟩, ⟨_, _, h.hl, mp_nil⟩, n1, ?_⟩
    have htp : tb ≠ pb := ne_ty h.ht.h0 h.ht.h1 (by decide)
    have hkk := h.hk.ne
    obtain ⟨o1, o2, o3, o4, o5, o6, o7⟩ := h.ord
    have lo := h.lo
    have or := h.or
    have ne : ∀ j, j < 8 → f j ≠ fr j := fun j hj => (h.hf j hj).ne
    clear h
    intro x y hx hy e
    cases x <;> cases y <;> dsimp only [mkB, Sl.ok] at e hx hy <;> first
      | rfl
      | (exfalso; omega)
      | (exfalso; rename_i c; have := lo c (by assumption); omega)
      | (rename_i c c'
         rcases Nat.lt_trichotomy c c' with hc | hc | hc
         · have := or c c' hc hy; exfalso; omega
         · subst hc; first | rfl | (exfalso; have := ne c hx; omega)
         · have := or c' c hc hx; exfalso; omega)
  refine h0.congr rfl (fun i _ => rfl) (fun i _ => rfl) (fun i _ => ?_) (fun c i _ _ => ?_) (newS_sh n) (newS_pl n) rfl (newS_room n)
  · show false = isO (newS n) i; simp [isO, newS, Bk.z]
  · show false = frB (newS n) c i; simp [frB, newS, Pg.z]

theorem c17_bad (w : World) {n : Int} (h : n < 1 ∨ n > 4096) : RetE PR 17 [I n] w (.tuple (Array.mk [.pointer none, I 1])) := by
  refine Ret.of ((S17_eq _ w _).mpr ?_)
  unfold S17
  refine (c51_bad w h).use fun w1 e1 => ⟨_, _, rfl, ifB_ne (fun _ => ⟨rfl, e1⟩) fun hh => by omega⟩
theorem c17 {w : World} (hg : GT w) {n : Nat} (h1 : 1 ≤ n) (h2 : n ≤ 4096) : Ret PR 17 [I n] w fun v w' => ∃ B : Sl → Nat, v = .tuple (Array.mk [pt (B .s), I 0]) ∧ Sp w' B (newS n) ∧ Kp w w' ∧ (∀ b, spF B b → w.heap.size ≤ b) := by
  refine Ret.of ((S17_eq _ w _).mpr ?_)
  unfold S17
  refine (c51 w h1 h2).use ?_
  rintro _ w1 ⟨tb, pb, rfl, ht, e1, htb, hpb⟩
  have e64 : IntKind.i64.wrap ((n : Int) * 64) = ((64 * n : Nat) : Int) := by rw [wrap_id (by omega) (by omega)]; simp; omega
  refine ⟨_, _, rfl, ifB_ne (fun hh => by omega) fun _ => ?_⟩
  rw [e64, Int.toNat_natCast, zc1]
  refine ⟨⟨by omega, by omega, by omega⟩, ?_⟩
  have na := new_alloc w1 (Obj.cells (Array.mk (ints (64 * n) fun _ => 0)) 3)
  generalize w1.alloc (Obj.cells (Array.mk (ints (64 * n) fun _ => 0)) 3) = w2 at na ⊢
  refine atW_new fun w3 n3 => atW_new fun w4 n4 => atW_new fun w5 n5 => ?_
  have s1 := e1.sz
  have sa := na.sz
  have s3 := n3.sz
  have s4 := n4.sz
  have s5 := n5.sz
  have ltp := lt_of_look ht.h0
  have lpp := lt_of_look ht.h1
  rw [add_mk, Nat.zero_add]
  refine ⟨_, _, _, cell_of n5.at0 0, ?_⟩
  have k5 : Kp w1 w5 := ((na.ext.trans n3.ext).trans n4.ext).trans n5.ext
  refine (c52 (hg.kp (e1.trans k5)) h2).use ?_
  rintro _ w6 ⟨kb, kr, rfl, hk, e6, hkb, hkr⟩
  have s6 := e6.sz
  have lk := hk.lts
  refine ⟨_, _, rfl, stx_at _ (e6.at n5.at0) (by simp) rfl fun w7 p7 => ?_⟩
  have i7 : MkI w7 n w4.heap.size w1.heap.size tb pb kb kr w2.heap.size w3.heap.size 0 (fun _ => 0) (fun _ => 0) := by
    have k4 : Kp w2 w6 := ((n3.ext.trans n4.ext).trans n5.ext).trans e6
    have k3 : Kp w3 w6 := (n4.ext.trans n5.ext).trans e6
    have k4' : Kp w4 w6 := n5.ext.trans e6
    refine ⟨p7.at0, p7.at (k4.at na.at0) (by show w1.heap.size ≠ w4.heap.size; omega), (ht.kp (k5.trans e6)).upd p7.upd (by simp only [one]; omega) (by simp only [one]; omega), hk.upd p7.upd (by simp only [one]; omega) (by simp only [one]; omega) (by simp only [one]; omega), p7.at (k3.at n3.at0) (by show w2.heap.size ≠ w4.heap.size; omega), p7.at (k4'.at n4.at0) (by show w3.heap.size ≠ w4.heap.size; omega), fun j hj => by omega, fun j hj => by omega, fun j l hj hl => by omega, by omega⟩
  have k7 : Kp w w7 := ((e1.trans k5).trans e6).tr p7.upd fun b hb => .inr (by simp only [one] at hb; omega)
  refine loop_rule (fun g : Nat × (Nat → Nat) × (Nat → Nat) => ((g.1 : Int), ())) (fun g w' => g.1 ≤ 8 ∧ Kp w w' ∧ MkI w' n w4.heap.size w1.heap.size tb pb kb kr w2.heap.size w3.heap.size g.1 g.2.1 g.2.2) (fun g => 8 - g.1) (0, (fun _ => 0), fun _ => 0) rfl ⟨by omega, k7, i7⟩ ?_
  rintro ⟨i, f, fr⟩ w8 K ⟨hi, k8, i8⟩ hK
  dsimp only at hi i8 hK ⊢
  refine ifB_d (fun hlt => ?_) fun hlt => ?_
  · have hlt : i < 8 := by omega
    generalize hwd : World.drew w8 = wd
    have d8 : Kp w8 wd := hwd ▸ ext_drew w8
    have i9 := i8.upd d8
    refine ⟨_, _, _, cell_of i9.hs 0, ?_⟩
    refine (c52 (hg.kp (k8.trans d8)) h2).use ?_
    rintro _ w10 ⟨b, rb, rfl, hb, e10, hbb, hrb⟩
    refine ⟨_, _, rfl, ⟨by omega, by omega⟩, ?_⟩
    rw [add_mk, add_mk, Int.toNat_natCast, show 0 + 3 + i * 1 = 3 + i by omega]
    refine stx_at _ (e10.at i9.hs) (by simp [mkC]; omega) rfl fun w11 p11 => ?_
    rw [Nat.add_zero, mkC_set hlt] at p11
    rw [wrap_id (by omega) (by omega)]
    exact hK (i + 1, up f i b, up fr i rb) w11 ⟨by dsimp only; omega, ((k8.trans d8).trans e10).tr p11.upd fun b hb => .inr (by simp only [one] at hb; omega), i9.step e10 hb hbb hrb p11⟩ (by dsimp only; omega)
  · have hi8 : i = 8 := by omega
    subst hi8
    refine ⟨mkB w4.heap.size w1.heap.size tb pb kb kr w2.heap.size w3.heap.size f fr, rfl, i8.sp h1, k8, ?_⟩
    rintro b ⟨x, hx, rfl⟩
    have := i8.lo
    have kk := k5.sz
    cases x with
    | f c => have := this c hx; show w.heap.size ≤ f c; omega
    | fr c => have := this c hx; show w.heap.size ≤ fr c; omega
    | _ => dsimp only [mkB]; omega
end Go.Wx
end
section
/- Contracts of Wrong. -/
set_option linter.unusedVariables false
set_option maxRecDepth 100000
namespace Go.Wx
open Go

/-- Is an object's header wrong? -/
def badH (σ : St) (i : Nat) : Bool := decide ((σ.O i).kind ≠ 0 ∧ (chkS σ i).1 ≠ 0)
/-- Is the link of a free block of a class wrong? -/
def badL (σ : St) (c i : Nat) : Bool := frB σ c i && decide (σ.W i ≠ lkS (nfS σ c (i + 1)))
/-- What has been looked at: all headers, the classes below c, of c the blocks below j. -/
def qB (σ : St) (c j i : Nat) : Bool := badH σ i || ((List.range c).any fun e => badL σ e i) || (decide (i < j) && badL σ c i)
def wgS (σ : St) : Int := nxt (qB σ 8 0) (64 * σ.n) 0
theorem qB_zero (σ : St) (i : Nat) : qB σ 0 0 i = badH σ i := by simp [qB]
theorem qB_up (σ : St) {c i N : Nat} (h : i < N) : qB σ c N i = qB σ (c + 1) 0 i := by
  simp [qB, h, List.range_succ, Bool.or_assoc]
theorem qB_skip (σ : St) {c j k i : Nat} (hjk : j ≤ k) (h : ∀ l, j ≤ l → l < k → frB σ c l = false) : qB σ c j i = qB σ c k i := by
  unfold qB
  rcases Nat.lt_or_ge i j with h1 | h1
  · rw [decide_eq_true h1, decide_eq_true (by omega : i < k)]
  · rw [decide_eq_false (by omega : ¬ i < j)]
    rcases Nat.lt_or_ge i k with h2 | h2
    · rw [decide_eq_true h2, show badL σ c i = false by rw [badL, h i h1 h2]; rfl]; rfl
    · rw [decide_eq_false (by omega : ¬ i < k)]
theorem qB_add (σ : St) (c j i : Nat) : qB σ c (j + 1) i = (qB σ c j i || (decide (i = j) && badL σ c j)) := by
  unfold qB
  rcases Nat.lt_trichotomy i j with h | h | h
  · rw [decide_eq_true h, decide_eq_true (by omega : i < j + 1), decide_eq_false (by omega : ¬ i = j)]; simp
  · subst h; simp
  · rw [decide_eq_false (by omega : ¬ i < j), decide_eq_false (by omega : ¬ i < j + 1), decide_eq_false (by omega : ¬ i = j)]; simp
theorem nxt_or {p : Nat → Bool} {b : Bool} {m n : Nat} (hn : n < m) : nxt (fun i => p i || (decide (i = n) && b)) m 0 = if b then (if nxt p m 0 < 0 then (n : Int) else if (n : Int) < nxt p m 0 then (n : Int) else nxt p m 0) else nxt p m 0 := by
  cases b with
  | false => rw [if_neg (by simp)]; exact nxt_congr fun i _ _ => by simp
  | true =>
    rw [if_pos rfl]
    rcases nxt_cases p m 0 with ⟨h1, h2⟩ | ⟨k, h1, h2, h3, h4, h5⟩
    · rw [h1, if_pos (by omega)]
      exact nxt_some (by omega) hn (by simp) fun k _ hk => by rw [h2 k (by omega) (by omega)]; simp; omega
    · rw [h1, if_neg (by omega)]
      by_cases hnk : n < k
      · rw [if_pos (by omega)]
        exact nxt_some (by omega) hn (by simp) fun l _ hl => by rw [h5 l (by omega) (by omega)]; simp; omega
      · rw [if_neg (by omega)]
        exact nxt_some (by omega) h3 (by simp [h4]) fun l _ hl => by rw [h5 l (by omega) (by omega)]; simp; omega
/-- One free block more is looked at. -/
theorem qB_step (σ : St) {c j N : Nat} (hj : j < N) (hf : frB σ c j = true) : nxt (qB σ c (j + 1)) N 0 = if σ.W j ≠ lkS (nfS σ c (j + 1)) then (if nxt (qB σ c j) N 0 < 0 then (j : Int) else if (j : Int) < nxt (qB σ c j) N 0 then (j : Int) else nxt (qB σ c j) N 0) else nxt (qB σ c j) N 0 := by
  rw [nxt_congr fun i _ _ => qB_add σ c j i, nxt_or hj]
  have : badL σ c j = decide (σ.W j ≠ lkS (nfS σ c (j + 1))) := by rw [badL, hf]; rfl
  rw [this]
  by_cases h : σ.W j ≠ lkS (nfS σ c (j + 1))
  · rw [if_pos h, decide_eq_true h, if_pos rfl]
  · rw [if_neg h, decide_eq_false h, if_neg (by simp)]
theorem nf_cases (σ : St) (c j : Nat) : (nfS σ c j = -1 ∧ ∀ l, j ≤ l → l < 64 * σ.n → frB σ c l = false) ∨ ∃ k : Nat, nfS σ c j = k ∧ j ≤ k ∧ k < 64 * σ.n ∧ frB σ c k = true ∧ ∀ l, j ≤ l → l < k → frB σ c l = false := nxt_cases _ _ _
theorem qB_end (σ : St) {c j : Nat} (h : ∀ l, j ≤ l → l < 64 * σ.n → frB σ c l = false) : nxt (qB σ c j) (64 * σ.n) 0 = nxt (qB σ (c + 1) 0) (64 * σ.n) 0 := by
  refine nxt_congr fun i _ hi => ?_
  rw [← qB_up σ hi]
  rcases Nat.lt_or_ge j (64 * σ.n) with hj | hj
  · exact qB_skip σ (by omega) h
  · unfold qB; rw [decide_eq_true hi, decide_eq_true (by omega : i < j)]
theorem nxt_step {p : Nat → Bool} {m i : Nat} (hi : i < m) : nxt p m i = if p i then (i : Int) else nxt p m (i + 1) := by
  by_cases h : p i = true
  · rw [if_pos h]; exact nxt_some (Nat.le_refl _) hi h fun k _ _ => by omega
  · rw [if_neg h]; exact nxt_skip (by omega) fun k h1 h2 _ => by rw [show k = i by omega]; simpa using h

section
variable {w : World} {R : RB} {σ : St}

theorem c44 (h : Rf w R σ) : RetE PR 44 [pt R.s] w (I (wgS σ)) := by
  refine Ret.of ((S44_eq _ w _).mpr ?_)
  unfold S44
  have hco := h.hco
  have hcw := h.hcw
  have hn1 := h.n1
  have hn2 := h.n2
  refine ⟨_, _, _, cell_of h.hs 2, ?_⟩
  refine loop_rule (fun i : Nat => (nxt (badH σ) (64 * σ.n) i, (i : Int) - 1, ())) (fun i w' => i ≤ 64 * σ.n ∧ Kp w w') (fun i => i) (64 * σ.n) ?_ ⟨Nat.le_refl _, kp0⟩ ?_
  · rw [wrap_id (by omega) (by omega), nxt_none fun j h1 h2 => by omega]
  rintro i w1 K ⟨hi, k1⟩ hK
  have h1 := h.kp k1
  dsimp only
  refine ifB_d (fun hge => ?_) fun hge => ?_
  · obtain ⟨j, rfl⟩ : ∃ j, i = j + 1 := ⟨i - 1, by omega⟩
    rw [show ((j + 1 : Nat) : Int) - 1 = (j : Int) by omega]
    have st := nxt_step (p := badH σ) (m := 64 * σ.n) (i := j) (by omega)
    refine ⟨_, _, _, cell_of h1.hs 2, ⟨by omega, by omega⟩, _, bks_cell (i := j) h1.ho (by omega) (by omega), ?_⟩
    rw [wrap_id (by omega) (by omega)]
    refine ifB_ne (fun hk => ?_) fun hk => ?_
    · refine (c75 h1 j).use fun w2 e2 => ⟨_, _, rfl, ?_⟩
      refine ifB_ne (fun hb => ?_) fun hb => ?_
      · rw [if_pos (by rw [badH]; simp [hk, hb])] at st
        have := hK j w2 ⟨by omega, k1.trans e2⟩ (by omega)
        rw [st] at this; exact this
      · rw [if_neg (by rw [badH]; simp [hk, hb])] at st
        have := hK j w2 ⟨by omega, k1.trans e2⟩ (by omega)
        rw [st] at this; exact this
    · rw [if_neg (by rw [badH]; simp [hk])] at st
      have := hK j w1 ⟨by omega, k1⟩ (by omega)
      rw [st] at this; exact this
  · have hi0 : i = 0 := by omega
    subst hi0
    refine loop_rule (fun c : Nat => (nxt (qB σ c 0) (64 * σ.n) 0, (c : Int), ())) (fun c w' => c ≤ 8 ∧ Kp w w') (fun c => 8 - c) 0 ?_ ⟨by omega, k1⟩ ?_
    · rw [nxt_congr fun i _ _ => qB_zero σ i]; rfl
    rintro c w2 K2 ⟨hc, k2⟩ hK2
    dsimp only
    refine ifB_d (fun hlt => ?_) fun hlt => ⟨?_, k2⟩
    · have hlt : c < 8 := by omega
      refine (c64 (h.kp k2) hlt 0 (by omega) (by omega)).use fun w3 e3 => ⟨_, rfl, ?_⟩
      refine loop_rule (fun j : Nat => (nxt (qB σ c j) (64 * σ.n) 0, nfS σ c j, ())) (fun j w' => j ≤ 64 * σ.n ∧ Kp w w') (fun j => 64 * σ.n - j) 0 rfl ⟨by omega, k2.trans e3⟩ ?_
      rintro j w4 K4 ⟨hj, k4⟩ hK4
      dsimp only
      rcases nf_cases σ c j with ⟨hn, hno⟩ | ⟨k, hk, hjk, hkn, hfk, hno⟩
      · rw [hn]
        refine ifB_d (fun hh => by omega) fun _ => ?_
        rw [wrap_id (by omega) (by omega), qB_end σ hno]
        exact hK2 (c + 1) w4 ⟨hlt, k4⟩ (by omega)
      · rw [hk]
        refine ifB_d (fun _ => ?_) fun hh => by omega
        rw [wrap_id (by omega) (by omega)]
        refine (c64 (h.kp k4) hlt ((k : Int) + 1) (by omega) (by omega)).use fun w5 e5 => ⟨_, rfl, ?_⟩
        generalize hwd : World.drew w5 = wd
        have d5 : Kp w5 wd := hwd ▸ ext_drew w5
        have k6 := (k4.trans e5).trans d5
        have h6 := h.kp k6
        refine ⟨_, _, _, cell_of h6.hs 0, ⟨by omega, by omega⟩, σ.W k, ?_, ?_⟩
        · have := ints_cell (i := k) h6.hw (by omega)
          exact this
        · rw [show (((k : Int) + 1).toNat) = k + 1 by omega]
          have hrng : -1 ≤ nfS σ c (k + 1) ∧ nfS σ c (k + 1) < 262144 := by
            rcases nf_cases σ c (k + 1) with ⟨hn, _⟩ | ⟨k', hk', _, hk2, _⟩ <;> omega
          refine (c63 wd _ hrng.1 hrng.2).use fun w7 e7 => ⟨_, rfl, e7.draw, ?_⟩
          have st := qB_step σ (c := c) hkn hfk
          have ek : nxt (qB σ c j) (64 * σ.n) 0 = nxt (qB σ c k) (64 * σ.n) 0 := nxt_congr fun i _ _ => qB_skip σ hjk hno
          rw [ek]
          have fin := hK4 (k + 1) w7 ⟨by omega, k6.trans e7⟩ (by omega)
          refine ifB_ne (fun hb => ?_) fun hb => ?_
          · rw [if_pos hb] at st
            refine ifB_d (fun hlt0 => ?_) fun hlt0 => ?_
            · rw [if_pos hlt0] at st; rw [st] at fin; exact fin
            · rw [if_neg hlt0] at st
              refine ifB_d (fun hlt1 => ?_) fun hlt1 => ?_
              · rw [if_pos hlt1] at st; rw [st] at fin; exact fin
              · rw [if_neg hlt1] at st; rw [st] at fin; exact fin
          · rw [if_neg (fun hh => hh hb)] at st
            rw [st] at fin; exact fin
    · have : c = 8 := by omega
      subst this; rfl
end

/-- The first of what has been looked at; the end: none. -/
def fL (σ : St) (c j : Nat) : Int := if nxt (qB σ c j) (64 * σ.n) 0 < 0 then ((64 * σ.n : Nat) : Int) else nxt (qB σ c j) (64 * σ.n) 0
theorem fL_skip (σ : St) {c j k : Nat} (hjk : j ≤ k) (h : ∀ l, j ≤ l → l < k → frB σ c l = false) : fL σ c j = fL σ c k := by
  unfold fL; rw [nxt_congr fun i _ _ => qB_skip σ hjk h]
theorem fL_end (σ : St) {c j : Nat} (h : ∀ l, j ≤ l → l < 64 * σ.n → frB σ c l = false) : fL σ c j = fL σ (c + 1) 0 := by
  unfold fL; rw [qB_end σ h]
theorem fL_le (σ : St) {c j : Nat} (h : fL σ c j ≤ j) (hj : j < 64 * σ.n) : fL σ c j = fL σ (c + 1) 0 := by
  unfold fL at h ⊢
  rcases nxt_cases (qB σ c j) (64 * σ.n) 0 with ⟨h1, _⟩ | ⟨k, h1, _, h3, h4, h5⟩
  · rw [h1, if_pos (by omega)] at h; omega
  · rw [h1, if_neg (by omega)] at h
    have key : ∀ i, i < j → qB σ c j i = qB σ (c + 1) 0 i := fun i hi => by
      rw [← qB_up σ (N := 64 * σ.n) (by omega)]
      unfold qB; rw [decide_eq_true hi, decide_eq_true (by omega : i < 64 * σ.n)]
    have hk : qB σ (c + 1) 0 k = true := by
      rw [← qB_up σ h3]
      unfold qB at h4 ⊢
      simp only [Bool.or_eq_true, Bool.and_eq_true, decide_eq_true_eq] at h4 ⊢
      rcases h4 with h4 | ⟨_, h4⟩
      · exact .inl h4
      · exact .inr ⟨h3, h4⟩
    rw [h1, nxt_some (Nat.zero_le _) h3 hk fun l _ hl => by rw [← key l (by omega)]; exact h5 l (by omega) hl]
theorem fL_step (σ : St) {c j : Nat} (hj : j < 64 * σ.n) (hf : frB σ c j = true) (hlt : (j : Int) < fL σ c j) : fL σ c (j + 1) = if σ.W j ≠ lkS (nfS σ c (j + 1)) then (j : Int) else fL σ c j := by
  unfold fL at hlt ⊢
  rw [qB_step σ hj hf]
  by_cases h : σ.W j ≠ lkS (nfS σ c (j + 1))
  · rw [if_pos h, if_pos h]
    by_cases h1 : nxt (qB σ c j) (64 * σ.n) 0 < 0
    · rw [if_pos h1, if_neg (by omega)]
    · rw [if_neg h1] at hlt
      rw [if_neg h1, if_pos hlt, if_neg (by omega)]
  · rw [if_neg h, if_neg h]
theorem fL_wg (σ : St) : (if fL σ 8 0 = ((64 * σ.n : Nat) : Int) then (-1 : Int) else fL σ 8 0) = wgS σ := by
  unfold fL wgS
  rcases nxt_cases (qB σ 8 0) (64 * σ.n) 0 with ⟨h1, _⟩ | ⟨k, h1, _, h3, _⟩
  · rw [h1]; simp
  · rw [h1, if_neg (by omega), if_neg (by omega)]
theorem fL_head {σ : St} {i : Nat} (h : ∀ l, l < i → badH σ l = false) (hi : i < 64 * σ.n) (hb : badH σ i = true) : fL σ 0 0 = i := by
  unfold fL
  rw [nxt_congr fun i _ _ => qB_zero σ i, nxt_some (Nat.zero_le _) hi hb fun l _ hl => h l hl, if_neg (by omega)]
theorem fL_none {σ : St} (h : ∀ l, l < 64 * σ.n → badH σ l = false) : fL σ 0 0 = ((64 * σ.n : Nat) : Int) := by
  unfold fL
  rw [nxt_congr fun i _ _ => qB_zero σ i, nxt_none fun l _ hl => h l hl, if_pos (by omega)]

/-- While the program looks: its two local blocks. -/
structure Lk (w0 : World) (B : Sl → Nat) (sb fb : Nat) (W : World) (x : Int) : Prop where
  k : Kp w0 W
  s : W.heap[sb]? = some (Bl [pt (B .s)] 34)
  f : W.heap[fb]? = some (Bl [I x] 3)
  lo : w0.heap.size ≤ sb ∧ sb < fb
theorem Lk.upd {w0 W W' : World} {B : Sl → Nat} {sb fb : Nat} {x : Int} {F : Nat → Prop} (h : Lk w0 B sb fb W x) (u : Upd F W W') (hF : ∀ b, F b → fb < b) : Lk w0 B sb fb W' x := by
  obtain ⟨l1, l2⟩ := h.lo
  exact ⟨h.k.tr u fun b hb => .inr (by have := hF b hb; omega), u.at h.s fun hh => by have := hF _ hh; omega, u.at h.f fun hh => by have := hF _ hh; omega, h.lo⟩
theorem Lk.kp {w0 W W' : World} {B : Sl → Nat} {sb fb : Nat} {x : Int} (h : Lk w0 B sb fb W x) (u : Kp W W') : Lk w0 B sb fb W' x := h.upd u fun b hb => hb.elim
theorem Lk.put {w0 W W' : World} {B : Sl → Nat} {sb fb b : Nat} {x : Int} {o : Obj} (h : Lk w0 B sb fb W x) (p : Put W b o W') (hb : fb < b) : Lk w0 B sb fb W' x := h.upd p.upd fun c hc => by simp only [one] at hc; omega
theorem Lk.set {w0 W W' : World} {B : Sl → Nat} {sb fb : Nat} {x y : Int} (h : Lk w0 B sb fb W x) (p : Put W fb (Bl [I y] 3) W') : Lk w0 B sb fb W' y := by
  obtain ⟨l1, l2⟩ := h.lo
  exact ⟨h.k.put p (by omega), p.at h.s (by omega), p.at0, h.lo⟩

theorem c43 {w : World} {B : Sl → Nat} {σ : St} (h : Sp w B σ) : RetE PR 43 [pt (B .s)] w (I (wgS σ)) := by
  refine Ret.of ((S43_eq _ w _).mpr ?_)
  unfold S43
  have hn1 := SpR.n1 h
  have hn2 := SpR.n2 h
  have hn1 : 1 ≤ σ.n := hn1
  have hn2 : σ.n ≤ 4096 := hn2
  refine atW_new fun w1 m1 => ⟨_, cell_of m1.at0 0, _, _, _, cell_of (h.kp m1.ext).hs 0, atW_new fun w2 m2 => stx_at _ m2.at0 (by simp) rfl fun w3 p3 => ?_⟩
  obtain ⟨sb, hsb⟩ : ∃ sb, sb = w.heap.size := ⟨_, rfl⟩
  obtain ⟨fb, hfb⟩ : ∃ fb, fb = w1.heap.size := ⟨_, rfl⟩
  rw [← hfb] at p3
  rw [← hsb, ← hfb]
  have z1 := m1.sz
  have z2 := m2.sz
  have g3 : Lk w B sb fb w3 ((64 * σ.n : Nat) : Int) := by
    refine ⟨(m1.ext.trans m2.ext).put p3 (by omega), p3.at (m2.ext.at (hsb ▸ m1.at0)) (by omega), p3.at0, by omega⟩
  refine ⟨fun s W => ∃ D, s = ((), [D]) ∧ fb < D ∧ W.heap[D]? = some (.deferred (some [])) ∧ Lk w B sb fb W (fL σ 0 0), ?_, ?_⟩
  · rintro ⟨⟨⟩, ms⟩ W ⟨D, hD, hfD, hDd, g⟩
    cases hD
    dsimp only
    have hW := h.kp g.k
    refine ⟨_, cell_of g.s 0, _, cell_of hW.hs 3, _, cell_of hW.hs 4, _, cell_of hW.hs 5, _, cell_of hW.hs 6, _, cell_of hW.hs 7, _, cell_of hW.hs 8, _, cell_of hW.hs 9, _, cell_of hW.hs 10, ?_⟩
    refine loop_rule (fun q : Nat × List Nat => (((q.1 : Int), ()), q.2)) (fun q V => q.1 ≤ 8 ∧ Lk w B sb fb V (fL σ q.1 0) ∧ q.2.Nodup ∧ ∀ D, D ∈ q.2 → fb < D ∧ V.heap[D]? = some (.deferred (some []))) (fun q => 8 - q.1) (0, [D]) rfl ⟨by omega, g, by simp, fun E hE => by rw [List.mem_singleton.1 hE]; exact ⟨hfD, hDd⟩⟩ ?_
    rintro ⟨c, ms⟩ V K ⟨hc, gV, hms, hmD⟩ hK
    dsimp only at hc gV hms hmD hK ⊢
    refine ifB_d (fun hlt => ?_) fun hlt => ?_
    · have hc8 : c < 8 := by omega
      refine ⟨B (.f c) |> fun x => some ⟨x, 0, none⟩, ⟨by omega, by omega⟩, ?_, ?_⟩
      · rw [Int.toNat_natCast]
        rcases lt8 hc8 with rfl | rfl | rfl | rfl | rfl | rfl | rfl | rfl <;> rfl
      refine atW_new fun V5 n5 => stx_at _ n5.at0 (by simp) rfl fun V6 p6 => ?_
      obtain ⟨kb, hkb⟩ : ∃ kb, kb = V.heap.size := ⟨_, rfl⟩
      rw [← hkb] at p6 ⊢
      have hfl := lt_of_look gV.f
      have g6 := (gV.kp n5.ext).put p6 (by omega)
      have hmD6 : ∀ D, D ∈ ms → fb < D ∧ D < kb ∧ V6.heap[D]? = some (.deferred (some [])) := fun D hD => by
        obtain ⟨a1, a2⟩ := hmD D hD
        have := lt_of_look a2
        exact ⟨a1, by omega, p6.at (n5.ext.at a2) (by omega)⟩
      have hk6 : V6.heap[kb]? = some (Bl [I c] 3) := p6.at0
      refine (c91 V6 (B (.f c))).use ?_
      rintro _ V7 ⟨rfl, n7⟩
      refine ⟨_, rfl, ?_⟩
      obtain ⟨cc, hcc⟩ : ∃ cc, cc = V6.heap.size := ⟨_, rfl⟩
      have hc7 : V7.heap[cc]? = some (Bl [pt (B (.f c))] 88) := hcc ▸ n7.at0
      rw [← hcc]
      have hkl := lt_of_look hk6
      have z7 := n7.sz
      have hnext : ∀ U, Lk w B sb fb U (fL σ (c + 1) 0) → U.heap[V7.heap.size]? = some (.deferred (some [])) → (∀ D, D ∈ ms → U.heap[D]? = some (.deferred (some []))) → K (((((c + 1 : Nat) : Int)), ()), V7.heap.size :: ms) U := by
        intro U gU hD hDs
        refine hK (c + 1, V7.heap.size :: ms) U ⟨hc8, gU, List.nodup_cons.2 ⟨fun hh => ?_, hms⟩, fun D hD' => ?_⟩ (by dsimp only; omega)
        · have := (hmD6 _ hh).2.1; omega
        · rcases List.mem_cons.1 hD' with rfl | hD'
          · exact ⟨by omega, hD⟩
          · exact ⟨(hmD6 D hD').1, hDs D hD'⟩
      rw [wrap_id (by omega) (by omega)]
      refine range_bits (fun i => (i, ())) (fun i => rfl) (fun e Qe hh => by simp only [List.mem_singleton, Prod.mk.injEq] at hh; rw [hh.1]; rfl)
        (fun i bit U => i ≤ 64 * σ.n ∧ bit = frB σ c ∧ Lk w B sb fb U (fL σ c i) ∧ U.heap[kb]? = some (Bl [I c] 3) ∧ U.heap[cc]? = some (Bl [pt (B (.f c))] 88) ∧ U.heap[V7.heap.size]? = some (.deferred (some [])) ∧ (∀ D, D ∈ ms → U.heap[D]? = some (.deferred (some []))))
        (cb := cc) (b := B (.f c)) (rb := B (.fr c)) (r := σ.n) ?_ ?_ (frB σ c) ?_ ?_ ?_
      · rintro i bit U ⟨_, rfl, gU, _, q2, _⟩
        exact ⟨q2, (h.kp gU.k).hf c hc8⟩
      · rintro i bit U U' ⟨q0, q1, q2, q3, q4, q5, q6⟩ u
        refine ⟨q0, q1, q2.upd u fun x hx => by simp only [one] at hx; omega, u.at q3 (by simp only [one]; omega), u.at q4 (by simp only [one]; omega), u.at q5 (by simp only [one]; omega), fun D hD => u.at (q6 D hD) (by have := (hmD6 D hD).2.1; simp only [one]; omega)⟩
      · intro U kU hD hsz
        exact ⟨by omega, rfl, (g6.kp n7.ext).kp kU, kU.at (n7.ext.at hk6), kU.at hc7, hD, fun D hD => kU.at (n7.ext.at (hmD6 D hD).2.2)⟩
      · rintro i bit j U rc K6 ⟨q0, rfl, q2, q3, q4, q5, q6⟩ hij hj hbit hno hl8 hnorm hexit
        dsimp only
        refine ⟨hl8, atW_putO (lt_of_look hl8) fun U2 pU => ?_⟩
        have g2 := q2.put pU (by omega)
        have r3 := pU.at q3 (by omega)
        have r4 := pU.at q4 (by omega)
        have r5 := pU.at q5 (by omega)
        have r6 : ∀ D, D ∈ ms → U2.heap[D]? = some (.deferred (some [])) := fun D hD => pU.at (q6 D hD) (by have := (hmD6 D hD).2.1; omega)
        rw [fL_skip σ hij hno] at g2
        refine ⟨_, cell_of g2.f 0, ifB_d (fun hge => ?_) fun hge => ?_⟩
        · refine hexit (.exit 4) _ U2 (List.mem_singleton.2 rfl) pU.at0 fun U3 u3 => ?_
          rw [fL_le σ hge hj] at g2
          exact hnext U3 (g2.upd u3 fun x hx => by simp only [one] at hx; omega) (u3.at r5 (by simp only [one]; omega)) fun D hD => u3.at (r6 D hD) (by have := (hmD6 D hD).2.1; simp only [one]; omega)
        · generalize hwd : World.drew U2 = U3
          have d3 : Kp U2 U3 := hwd ▸ ext_drew U2
          have g3 := g2.kp d3
          have h3 := h.kp g3.k
          refine ⟨_, cell_of g3.s 0, _, cell_of (d3.at r3) 0, _, cell_of g3.s 0, _, _, _, cell_of h3.hs 0, ⟨by omega, by omega⟩, σ.W j, ?_, ?_⟩
          · exact ints_cell (i := j) h3.hw (by omega)
          refine (c92 h3 (c := c) (a := j) hc8 hj).use fun U4 e4 => ⟨_, rfl, e4.draw, ?_⟩
          have g4 := g3.kp e4
          have kU : Kp U2 U4 := Upd.trans d3 e4
          have st := fL_step σ hj hbit (by omega)
          have hlk : lkS (nxt ((rawOf σ).fr c) (64 * (rawOf σ).n) (j + 1)) = lkS (nfS σ c (j + 1)) := rfl
          rw [hlk]
          have hl4 := kU.at pU.at0
          refine ifB_ne (fun hb => stx_at _ g4.f (by simp) rfl fun U5 p5 => ?_) fun hb => ?_
          · rw [if_pos hb] at st
            refine hnorm (frB σ c) U5 ⟨by omega, rfl, by rw [st]; exact g4.set p5, p5.at (kU.at r3) (by omega), p5.at (kU.at r4) (by omega), p5.at (kU.at r5) (by omega), fun D hD => p5.at (kU.at (r6 D hD)) (by have := (hmD6 D hD).1; omega)⟩ (p5.at hl4 (by omega))
          · rw [if_neg (fun hh => hh hb)] at st
            exact hnorm (frB σ c) U4 ⟨by omega, rfl, by rw [st]; exact g4, kU.at r3, kU.at r4, kU.at r5, fun D hD => kU.at (r6 D hD)⟩ hl4
      · rintro i bit U ⟨q0, rfl, q2, q3, q4, q5, q6⟩ hno
        rw [fL_end σ hno] at q2
        exact hnext U q2 q5 q6
    · have hc8 : c = 8 := by omega
      subst hc8
      generalize hwd : World.drew V = V3
      have d3 : Kp V V3 := hwd ▸ ext_drew V
      have g3 := gV.kp d3
      have h3 := h.kp g3.k
      have hD3 : ∀ D, D ∈ ms → V3.heap[D]? = some (.deferred (some [])) := fun D hD => d3.at (hmD D hD).2
      have hlo := g3.lo
      have fin : ∀ U, Upd (· ∈ ms) V3 U → Kp w U := fun U u => g3.k.tr u fun b hb => .inr (by have := (hmD b hb).1; omega)
      have e := fL_wg σ
      refine ⟨_, cell_of g3.f 0, _, cell_of g3.s 0, _, _, _, cell_of h3.hs 0, ifB_eq (fun he => ?_) fun he => ?_⟩
      · rw [if_pos he] at e
        exact takeMs_intro hms hD3 fun U u => ⟨by rw [← e], fin U u⟩
      · rw [if_neg he] at e
        exact ⟨_, cell_of g3.f 0, takeMs_intro hms hD3 fun U u => ⟨by rw [← e], fin U u⟩⟩
  · have h3 := h.kp g3.k
    refine ⟨_, cell_of g3.s 0, _, cell_of h3.hs 2, ?_⟩
    refine (c91 w3 (B .k)).use ?_
    rintro _ w8 ⟨rfl, n8⟩
    refine ⟨_, rfl, ?_⟩
    obtain ⟨cb, hcb⟩ : ∃ cb, cb = w3.heap.size := ⟨_, rfl⟩
    have hc8 : w8.heap[cb]? = some (Bl [pt (B .k)] 88) := hcb ▸ n8.at0
    rw [← hcb]
    have hfl := lt_of_look g3.f
    have z8 := n8.sz
    refine range_bits (fun i => (i, ())) (fun i => rfl) (fun e Qe hh => by simp only [List.mem_singleton, Prod.mk.injEq] at hh; rw [hh.1]; rfl)
      (fun i bit U => i ≤ 64 * σ.n ∧ bit = isO σ ∧ Lk w B sb fb U ((64 * σ.n : Nat) : Int) ∧ U.heap[cb]? = some (Bl [pt (B .k)] 88) ∧ U.heap[w8.heap.size]? = some (.deferred (some [])) ∧ ∀ l, l < i → badH σ l = false)
      (cb := cb) (b := B .k) (rb := B .kr) (r := σ.n) ?_ ?_ (isO σ) ?_ ?_ ?_
    · rintro i bit U ⟨_, rfl, gU, q2, _⟩
      exact ⟨q2, (h.kp gU.k).hk⟩
    · rintro i bit U U' ⟨q0, q1, q2, q3, q4, q5⟩ u
      exact ⟨q0, q1, q2.upd u fun x hx => by simp only [one] at hx; omega, u.at q3 (by simp only [one]; omega), u.at q4 (by simp only [one]; omega), q5⟩
    · intro U kU hD hsz
      exact ⟨by omega, rfl, (g3.kp n8.ext).kp kU, kU.at hc8, hD, fun l hl => by omega⟩
    · rintro i bit j U rc K6 ⟨q0, rfl, q2, q3, q4, q5⟩ hij hj hbit hno hl8 hnorm hexit
      dsimp only
      refine ⟨hl8, atW_putO (lt_of_look hl8) fun U2 pU => ?_⟩
      have g2 := q2.put pU (by omega)
      have h2 := h.kp g2.k
      have hpre : ∀ l, l < j → badH σ l = false := fun l hl => by
        rcases Nat.lt_or_ge l i with hli | hli
        · exact q5 l hli
        · have := of_decide_eq_false (hno l hli hl)
          unfold badH; exact decide_eq_false fun hh => this hh.1
      have hbj := of_decide_eq_true hbit
      refine ⟨_, cell_of g2.s 0, ?_⟩
      refine (c74 h2 j ⟨by omega, by omega⟩).use fun U3 e3 => ⟨_, _, rfl, ?_⟩
      have g3' := g2.kp e3
      refine ifB_ne (fun hb => stx_at _ g3'.f (by simp) rfl fun U4 p4 => ?_) fun hb => ?_
      · have hbd : badH σ j = true := decide_eq_true ⟨hbj, hb⟩
        refine hexit (.exit 0) _ U4 (List.mem_singleton.2 rfl) (p4.at (e3.at pU.at0) (by omega)) fun U5 u5 => ⟨_, rfl, by omega, u5.at (p4.at (e3.at (pU.at q4 (by omega))) (by omega)) (by simp only [one]; omega), ?_⟩
        rw [fL_head hpre hj hbd]
        exact (g3'.set p4).upd u5 fun x hx => by simp only [one] at hx; omega
      · refine hnorm (isO σ) U3 ⟨by omega, rfl, g3', e3.at (pU.at q3 (by omega)), e3.at (pU.at q4 (by omega)), fun l hl => ?_⟩ (e3.at pU.at0)
        by_cases hlj : l = j
        · subst hlj; unfold badH; exact decide_eq_false fun hh => hh.2 hb
        · exact hpre l (by omega)
    · rintro i bit U ⟨q0, rfl, q2, q3, q4, q5⟩ hno
      refine ⟨_, rfl, by omega, q4, ?_⟩
      rw [fL_none fun l hl => ?_]
      · exact q2
      · rcases Nat.lt_or_ge l i with hli | hli
        · exact q5 l hli
        · have := of_decide_eq_false (hno l hli hl)
          unfold badH; exact decide_eq_false fun hh => this hh.1
end Go.Wx
end
section
/- Contracts of the program's Fits. -/
set_option linter.unusedVariables false
set_option maxRecDepth 100000
namespace Go.Wx
open Go

theorem cnt_drop {p : Nat → Bool} {a m : Nat} (ha : a < m) (hp : p a = true) : cnt (up p a false) 0 m + 1 = cnt p 0 m := by
  rw [cnt_split (up p a false) (Nat.zero_le a) (Nat.le_of_lt ha), cnt_split p (Nat.zero_le a) (Nat.le_of_lt ha), cnt_split (up p a false) (Nat.le_succ a) ha, cnt_split p (Nat.le_succ a) ha, cnt_one, cnt_one, up_same, hp]
  have e1 : cnt (up p a false) 0 a = cnt p 0 a := cnt_congr fun j _ hj => up_other _ _ (by omega)
  have e2 : cnt (up p a false) (a + 1) m = cnt p (a + 1) m := cnt_congr fun j hj _ => up_other _ _ (by omega)
  show cnt (up p a false) 0 a + (false.toNat + cnt (up p a false) (a + 1) m) + 1 = cnt p 0 a + (true.toNat + cnt p (a + 1) m)
  rw [e1, e2]
  simp; omega
theorem cnt_page {c : Nat} (hc : c < 8) : cnt (fun i => decide (i ≠ 0 ∧ i % wdN c = 0 ∧ i / wdN c < bkN c)) 0 64 = bkN c - 1 := by
  rcases lt8 hc with rfl | rfl | rfl | rfl | rfl | rfl | rfl | rfl <;> rfl
theorem cnt_fresh {c k n : Nat} (hc : c < 8) (hk : k < n) : cnt (fun i => decide (64 * k ≤ i ∧ i < 64 * k + 64 ∧ i ≠ 64 * k ∧ (i % 64) % wdN c = 0 ∧ (i % 64) / wdN c < bkN c)) 0 (64 * n) = bkN c - 1 := by
  rw [cnt_split _ (Nat.zero_le (64 * k)) (by omega : 64 * k ≤ 64 * n), cnt_split _ (by omega : 64 * k ≤ 64 * k + 64) (by omega : 64 * k + 64 ≤ 64 * n)]
  rw [(cnt_zero_iff _ (a := 0) (b := 64 * k)).2 fun j _ hj => decide_eq_false (by omega), (cnt_zero_iff _ (a := 64 * k + 64) (b := 64 * n)).2 fun j hj _ => decide_eq_false (by omega)]
  rw [Nat.zero_add, Nat.add_zero, ← cnt_page hc]
  refine cnt_shift (by omega) fun j hj => ?_
  have hj : j < 64 := by omega
  rw [show (64 * k + j) % 64 = j by omega, show 0 + j = j by omega]
  by_cases h : j ≠ 0 ∧ j % wdN c = 0 ∧ j / wdN c < bkN c
  · rw [decide_eq_true h, decide_eq_true ⟨by omega, by omega, by omega, h.2.1, h.2.2⟩]
  · rw [decide_eq_false h, decide_eq_false fun hh => h ⟨by omega, hh.2.2.2.1, hh.2.2.2.2⟩]

structure FtW (w0 W : World) (n : Nat) (P : Nat → Pg) (lb tk bk : Nat) (g : Nat → Int) (b : Bool) : Prop where
  k : Kp w0 W
  l : W.heap[lb]? = some (Bl (ints 8 g) 79)
  t : ∃ tb pb c P' low free, W.heap[tk]? = some (Bl [pt tb] 83) ∧ Tb W tb pb n c P' low free ∧ (∀ p, p < n → P' p = P p) ∧ (b = true → bk < tb ∧ bk < pb)
  bo : W.heap[bk]? = some (Bl [.bool b] 4)
  lo : w0.heap.size ≤ lb ∧ lb < tk ∧ tk < bk

section
variable {w0 W : World} {n : Nat} {P : Nat → Pg} {lb tk bk : Nat} {g : Nat → Int} {b : Bool}
theorem FtW.kp {W' : World} (h : FtW w0 W n P lb tk bk g b) (u : Kp W W') : FtW w0 W' n P lb tk bk g b := by
  obtain ⟨tb, pb, c, P', low, free, t1, t2, t3, t4⟩ := h.t
  exact ⟨h.k.trans u, u.at h.l, ⟨tb, pb, c, P', low, free, u.at t1, t2.kp u, t3, t4⟩, u.at h.bo, h.lo⟩
theorem FtW.set {W' : World} (h : FtW w0 W n P lb tk bk g b) {i : Nat} {x : Int} (p : Put W lb (Bl (setL (ints 8 g) (i + 0) [I x]) 79) W') : FtW w0 W' n P lb tk bk (up g i x) b := by
  obtain ⟨tb, pb, c, P', low, free, t1, t2, t3, t4⟩ := h.t
  obtain ⟨l1, l2, l3⟩ := h.lo
  rw [Nat.add_zero, ints_set] at p
  exact ⟨h.k.put p l1, p.at0, ⟨tb, pb, c, P', low, free, p.at t1 (by omega), t2.upd p.upd (ne_ty t2.h0 h.l (by decide)) (ne_ty t2.h1 h.l (by decide)), t3, t4⟩, p.at h.bo (by omega), h.lo⟩
theorem FtW.congr {P2 : Nat → Pg} (h : FtW w0 W n P lb tk bk g b) (hp : ∀ p, p < n → P p = P2 p) : FtW w0 W n P2 lb tk bk g b := by
  obtain ⟨tb, pb, c, P', low, free, t1, t2, t3, t4⟩ := h.t
  exact ⟨h.k, h.l, ⟨tb, pb, c, P', low, free, t1, t2, fun p hp' => by rw [t3 p hp', hp p hp'], t4⟩, h.bo, h.lo⟩

theorem c76 (h : FtW w0 W n P lb tk bk g b) (hn : 1 ≤ n) : Ret PR 76 [pt bk, pt tk] W fun v W' => v = .tuple (Array.mk []) ∧ FtW w0 W' n P lb tk bk g true := by
  refine Ret.of ((S76_eq _ _ W _).mpr ?_)
  unfold S76
  obtain ⟨tb, pb, c, P', low, free, t1, t2, t3, t4⟩ := h.t
  obtain ⟨l1, l2, l3⟩ := h.lo
  have hlb := lt_of_look h.bo
  refine ⟨b, cell_of h.bo 0, ifB_nb (fun hb => ?_) fun hb => ⟨rfl, by rw [← hb]; exact h⟩⟩
  refine ⟨_, cell_of t1 0, ?_⟩
  refine (c77 t2 hn).use ?_
  rintro _ W1 ⟨tb', pb', c', rfl, ht, e1, htb, hpb⟩
  have a1 := lt_of_look ht.h0
  have a2 := lt_of_look ht.h1
  refine ⟨_, rfl, stx_at _ (e1.at t1) (by simp) rfl fun W2 p2 => stx_at _ (p2.at (e1.at h.bo) (by omega)) (by simp) rfl fun W3 p3 => ⟨rfl, ?_⟩⟩
  refine ⟨((h.k.trans e1).put p2 (by omega)).put p3 (by omega), p3.at (p2.at (e1.at h.l) (by omega)) (by omega), ⟨tb', pb', c', cutP n P', low, free, p3.at p2.at0 (by omega), (ht.upd p2.upd (by simp only [one]; omega) (by simp only [one]; omega)).upd p3.upd (by simp only [one]; omega) (by simp only [one]; omega), fun p hp => by rw [cutP, if_pos hp]; exact t3 p hp, fun _ => by omega⟩, p3.at0, h.lo⟩
end

/-- What the counts say. -/
structure FtS (σ τ : St) (g : Nat → Int) : Prop where
  n : τ.n = σ.n
  inv : Inv τ
  cn : ∀ d, d < 8 → g d = -1 ∧ (∀ j, j < 64 * σ.n → frB τ d j = frB σ d j) ∨ g d = (cnt (frB τ d) 0 (64 * σ.n) : Nat)

theorem plS_run {τ : St} {size : Int} (h8 : ofS size = 8) : plS τ size = (if nxt (rowB τ.P τ.n (pgS size).toNat) τ.n 0 < 0 then (-1, false) else (nxt (rowB τ.P τ.n (pgS size).toNat) τ.n 0 * 64, false)) := by
  rw [plS, if_neg (by omega), if_pos h8]
section
variable {w : World} {B : Sl → Nat} {σ : St}

theorem c34 (hI : Inv σ) (h : Sp w B σ) {s : Option Addr} {l c : Nat} {ks : Nat → Int} (hs : Ls w s l ks) (hl : l < 1000000) : RetE PR 34 [pt (B .s), .slice s l c] w (.bool (fitsS σ ks l)) := by
  refine Ret.of ((S34_eq _ _ _ _ w _).mpr ?_)
  unfold S34
  have hn1 := hI.n1
  have hn2 := hI.n2
  refine atW_new fun w1 m1 => ?_
  obtain ⟨lb, hlb⟩ : ∃ lb, lb = w.heap.size := ⟨_, rfl⟩
  have z1 := m1.sz
  have hl1 : w1.heap[lb]? = some (Bl (ints 8 fun _ => 0) 79) := hlb ▸ m1.at0
  rw [← hlb]
  refine loop_rule (fun i : Nat => ((i : Int), ())) (fun i W => i ≤ 8 ∧ Kp w W ∧ ∃ g, W.heap[lb]? = some (Bl (ints 8 g) 79) ∧ ∀ j, j < i → g j = -1) (fun i => 8 - i) 0 rfl ⟨by omega, m1.ext, _, hl1, fun j hj => by omega⟩ ?_
  rintro i W K ⟨hi, kW, g, hg, hg1⟩ hK
  dsimp only
  refine ifB_d (fun hlt => ?_) fun hlt => ?_
  · refine ⟨⟨by omega, by omega⟩, ?_⟩
    rw [add_mk, Int.toNat_natCast, Nat.zero_add, Nat.mul_one]
    refine stx_at _ hg (by simp; omega) rfl fun W2 p2 => ?_
    rw [Nat.add_zero, ints_set] at p2
    rw [wrap_id (by omega) (by omega)]
    refine hK (i + 1) W2 ⟨by omega, kW.put p2 (by omega), _, p2.at0, fun j hj => ?_⟩ (by omega)
    by_cases hji : j = i
    · subst hji; rw [up_same]
    · rw [up_other _ _ hji]; exact hg1 j (by omega)
  have hi8 : i = 8 := by omega
  subst hi8
  have hW := h.kp kW
  have hll := lt_of_look hg
  refine ⟨_, cell_of hW.hs 1, atW_new fun W2 m2 => ?_⟩
  obtain ⟨tk, htk⟩ : ∃ tk, tk = W.heap.size := ⟨_, rfl⟩
  have t2 : W2.heap[tk]? = some (Bl [.pointer none] 83) := htk ▸ m2.at0
  rw [← htk]
  have z2 := m2.sz
  refine stx_at _ t2 (by simp) rfl fun W3 p3 => atW_new fun W4 m4 => ?_
  obtain ⟨bk, hbk⟩ : ∃ bk, bk = W3.heap.size := ⟨_, rfl⟩
  have b4 : W4.heap[bk]? = some (Bl [.bool false] 4) := hbk ▸ m4.at0
  rw [← hbk]
  have z3 := p3.sz
  refine stx_at _ b4 (by simp) rfl fun W5 p5 => ?_
  have f5 : FtW w W5 σ.n (cutS σ).P lb tk bk g false := by
    have kk : Kp w W5 := (((kW.trans m2.ext).put p3 (by omega)).trans m4.ext).put p5 (by omega)
    obtain ⟨low, free, ht⟩ := (h.kp kk).ht
    refine ⟨kk, p5.at (m4.ext.at (p3.at (m2.ext.at hg) (by omega))) (by omega), ⟨_, _, _, _, _, _, p5.at (m4.ext.at p3.at0) (by omega), ht, fun p hp => (cutS_P hp).symm, fun hh => by cases hh⟩, p5.at0, by omega⟩
  have s5 : FtS σ (cutS σ) g := ⟨rfl, hI.cutS, fun d hd => .inl ⟨hg1 d hd, fun j hj => cutS_fr hj⟩⟩
  clear p5 p3 m4 m2 b4 t2 m1 hl1
  refine loop_rule (fun q : Nat × St × (Nat → Int) × Bool => (false, (q.1 : Int), ())) (fun q V => q.1 ≤ l ∧ FtW w V σ.n q.2.1.P lb tk bk q.2.2.1 q.2.2.2 ∧ FtS σ q.2.1 q.2.2.1 ∧ fitsF ks (l - q.1) q.1 q.2.1 = fitsS σ ks l) (fun q => l - q.1) (0, cutS σ, g, false) rfl ⟨by dsimp only; omega, f5, s5, rfl⟩ ?_
  rintro ⟨i, τ, g, b⟩ V K2 ⟨hi, fV, sV, hf⟩ hK2
  dsimp only at hi fV sV hf hK2 ⊢
  refine ifB_d (fun hlt => ?_) fun hlt => ⟨?_, fV.k⟩
  rotate_left
  · have : i = l := by omega
    subst this
    rw [Nat.sub_self] at hf
    rw [← hf]; rfl
  have hlt : i < l := by omega
  obtain ⟨a, rfl, hcell⟩ := hs i hlt
  refine ⟨⟨by omega, by omega⟩, _, cell_kp fV.k hcell, ?_⟩
  obtain ⟨f, hfe⟩ : ∃ f, l - i = f + 1 := ⟨l - i - 1, by omega⟩
  rw [hfe, fitsF] at hf
  refine (c78 V (ks i)).use fun V1 e1 => ⟨_, rfl, ?_⟩
  have f1 := fV.kp e1
  have hnτ := sV.n
  refine ifB_d (fun hneg => ⟨?_, f1.k⟩) fun hneg => ?_
  · rw [← hf, if_pos (by rw [plS, if_pos hneg]; decide)]
  obtain ⟨s1, s2⟩ : 1 ≤ ks i ∧ ks i ≤ 1024 := by
    unfold ofS at hneg
    by_cases h1 : ks i < 1
    · rw [if_pos h1] at hneg; omega
    · rw [if_neg h1] at hneg
      by_cases h2 : ks i > 1024
      · rw [if_pos h2] at hneg; omega
      · omega
  have hor := ofS_in s1 s2
  rw [wrap_id (x := (i : Int) + 1) (by omega) (by omega)]
  -- one more of them fits
  have next : ∀ {a : Nat} {ff : Bool} {g' : Nat → Int} {b' : Bool} {U : World}, plS τ (ks i) = ((a : Int), ff) → FtW w U σ.n (takP τ.P a ff (ks i)) lb tk bk g' b' →
      (∀ d, d < 8 → g' d = -1 ∧ (∀ j, j < 64 * σ.n → frB (takeS τ a ff 3 (ks i) 0) d j = frB σ d j) ∨ g' d = (cnt (frB (takeS τ a ff 3 (ks i) 0) d) 0 (64 * σ.n) : Nat)) → K2 (false, ((i + 1 : Nat) : Int), ()) U := by
    intro a ff g' b' U hp fU hcn
    have hplc := plc_of s1 s2 hp
    refine hK2 (i + 1, takeS τ a ff 3 (ks i) 0, g', b') U ⟨hlt, fU, ⟨hnτ, sV.inv.take (fit3 s1 s2) hplc, hcn⟩, ?_⟩ (by dsimp only; omega)
    rw [hp, if_neg (by dsimp only; omega), Int.toNat_natCast] at hf
    dsimp only
    rw [show l - (i + 1) = f by omega]; exact hf
  refine ifB_eq (fun h8 => ?_) fun h8 => ?_
  · -- a run of pages
    refine (c76 f1 hn1).use ?_
    rintro _ V2 ⟨rfl, f2⟩
    refine ⟨rfl, ?_⟩
    generalize hwd : World.drew V2 = V3
    have d3 : Kp V2 V3 := hwd ▸ ext_drew V2
    obtain ⟨tb, pb, cc, P', low, free, t1, t2, t3, t4⟩ := (f2.kp d3).t
    refine ⟨_, cell_of t1 0, ?_⟩
    have hp8 := pgS_8 h8
    have hpr := pgS_rng (ks i)
    refine (c80 V3 (ks i)).use fun V4 e4 => ⟨_, rfl, e4.draw, ?_⟩
    have f4 := (f2.kp d3).kp e4
    rw [show pgS (ks i) = (((pgS (ks i)).toNat : Nat) : Int) by omega]
    obtain ⟨t41, t42⟩ := t4 rfl
    have lo := f4.lo
    refine (c79 (t2.kp e4) (m := (pgS (ks i)).toNat) (by omega) (by omega)).use ?_
    rintro v V5 ⟨hv, u5⟩
    have hrow : nxt (rowB P' σ.n (pgS (ks i)).toNat) σ.n 0 = nxt (rowB τ.P τ.n (pgS (ks i)).toNat) τ.n 0 := by
      rw [hnτ]; exact nxt_congr fun j _ _ => rowB_congr t3 j
    have hpl := plS_run (τ := τ) h8
    rw [← hrow] at hpl
    have k5 : Kp w V5 := f4.k.tr u5 fun x hx => .inr (by rcases hx with rfl | rfl <;> omega)
    rcases hv with ⟨hn, rfl, ht5⟩ | ⟨k, hn, hle, rfl, low', free', ht5⟩
    · rw [hn, if_pos (by omega)] at hpl
      refine ⟨_, _, rfl, ifB_ne (fun _ => ⟨?_, k5⟩) fun hh => by omega⟩
      rw [← hf, if_pos (by rw [hpl]; decide)]
    · rw [hn, if_neg (by omega), show (k : Int) * 64 = ((64 * k : Nat) : Int) by simp; omega] at hpl
      refine ⟨_, _, rfl, ifB_ne (fun hh => by omega) fun _ => ?_⟩
      refine next (a := 64 * k) (ff := false) (g' := g) (b' := true) hpl ⟨k5, u5.at f4.l (fun hx => by rcases hx with hx | hx <;> omega), ⟨tb, pb, cc, _, low', free', u5.at (e4.at t1) (fun hx => by rcases hx with hx | hx <;> omega), ht5, fun p hp => ?_, fun _ => ⟨t41, t42⟩⟩, u5.at f4.bo (fun hx => by rcases hx with hx | hx <;> omega), f4.lo⟩ fun d hd => ?_
      · rw [takP, if_pos h8, show 64 * k / 64 = k by omega]
        unfold runP
        rw [t3 p hp]
      · have hfr : ∀ j, j < 64 * σ.n → frB (takeS τ (64 * k) false 3 (ks i) 0) d j = frB τ d j := fun j hj => by
          rw [takeS_fr sV.inv (fit3 s1 s2) (plc_of s1 s2 hpl) hd (by rw [hnτ]; exact hj), if_neg (by omega)]
        rcases sV.cn d hd with ⟨c1, c2⟩ | c1
        · exact .inl ⟨c1, fun j hj => by rw [hfr j hj]; exact c2 j hj⟩
        · exact .inr (by rw [c1, cnt_congr fun j _ hj => hfr j hj])
  · -- a block of a class
    obtain ⟨c, hc⟩ : ∃ c : Nat, ofS (ks i) = c := ⟨(ofS (ks i)).toNat, by omega⟩
    have hc8 : c < 8 := by omega
    obtain ⟨v1, v2, v3, v4, v5, v6, v7⟩ := wdN_pos hc8
    rw [hc]
    have cellL : ∀ {U : World} {g : Nat → Int}, U.heap[lb]? = some (Bl (ints 8 g) 79) → U.cell? ((Addr.mk lb 0 none).add ((c : Int).toNat * 1)) = some (I (g c)) := fun hh => by rw [Int.toNat_natCast]; exact ints_cell hh hc8
    have cl := cnt_le (frB τ c) 0 (64 * σ.n)
    refine ⟨fun _ U => ∃ g', FtW w U σ.n τ.P lb tk bk g' b ∧ FtS σ τ g' ∧ g' c = (cnt (frB τ c) 0 (64 * σ.n) : Nat), ?_, ?_⟩
    · rintro ⟨⟩ U ⟨g', fU, sU, hg'⟩
      refine ⟨⟨by omega, by omega⟩, _, cellL fU.l, ifB_eq (fun h0 => ?_) fun h0 => ?_⟩
      · -- no block of the class is free: a page is cut
        have hz : cnt (frB τ c) 0 (64 * σ.n) = 0 := by omega
        have hnone : ∀ j, j < 64 * σ.n → frB τ c j = false := fun j hj => (cnt_zero_iff _).1 hz j (by omega) hj
        refine (c76 fU hn1).use ?_
        rintro _ U2 ⟨rfl, f2⟩
        refine ⟨rfl, ?_⟩
        obtain ⟨tb, pb, cc, P', low, free, t1, t2, t3, t4⟩ := f2.t
        obtain ⟨t41, t42⟩ := t4 rfl
        have lo := f2.lo
        refine ⟨_, cell_of t1 0, ?_⟩
        refine (c82 t2 hc8).use ?_
        rintro v U3 ⟨hv, u3⟩
        have k3 : Kp w U3 := f2.k.tr u3 fun x hx => .inr (by rcases hx with rfl | rfl <;> omega)
        have hl3 := u3.at f2.l (fun hx => by rcases hx with hx | hx <;> omega)
        have ht3 := u3.at t1 (fun hx => by rcases hx with hx | hx <;> omega)
        have hb3 := u3.at f2.bo (fun hx => by rcases hx with hx | hx <;> omega)
        have hfp : nxt (fp P') σ.n 0 = nxt (fp τ.P) τ.n 0 := by
          rw [hnτ]; exact nxt_congr fun j _ hj => by unfold fp; rw [t3 j hj]
        have hpl : plS τ (ks i) = if nxt (fp τ.P) τ.n 0 < 0 then (-1, false) else (nxt (fp τ.P) τ.n 0 * 64, true) := by
          rw [plS, if_neg (by omega), if_neg h8, hc, Int.toNat_natCast, if_neg]
          rw [nfS, nxt_none fun j _ hj => hnone j (by rw [← hnτ]; exact hj)]; decide
        rw [← hfp] at hpl
        -- the rest, whichever the answer
        have rest : ∀ {P2 : Nat → Pg} {n1 n2 : Int}, FtW w U3 σ.n P2 lb tk bk g' true → (∀ U', FtW w U' σ.n P2 lb tk bk (up (up g' c (bkN c : Nat)) c ((bkN c : Nat) - 1)) true → ifB (n2 != 0) (Value.bool false = Value.bool (fitsS σ ks l) ∧ Kp w U') (K2 (false, ((i + 1 : Nat) : Int), ()) U')) →
            Calls PR 83 (Array.mk [I c]) U3 fun y y_4 => ∃ n, y = Ending.returned (Value.int IntKind.i64 n) ∧ (0 ≤ (c : Int) ∧ (c : Int) < 8) ∧
              stx y_4 ((Addr.mk lb 0 none).add ((c : Int).toNat * 1)) [Value.int IntKind.i64 n] 0 fun w' => (0 ≤ (c : Int) ∧ (c : Int) < 8) ∧ ∃ n, w'.cell? ((Addr.mk lb 0 none).add ((c : Int).toNat * 1)) = some (Value.int IntKind.i64 n) ∧ (0 ≤ (c : Int) ∧ (c : Int) < 8) ∧
                stx w' ((Addr.mk lb 0 none).add ((c : Int).toNat * 1)) [Value.int IntKind.i64 (IntKind.i64.wrap (n - 1))] 0 fun w' => ifB (n2 != 0) (Value.bool false = Value.bool (fitsS σ ks l) ∧ Kp w w') (K2 (false, ((i + 1 : Nat) : Int), ()) w') := by
          intro P2 n1 n2 f3 hfin
          refine (c83 U3 c).use fun U4 e4 => ⟨_, rfl, ⟨by omega, by omega⟩, ?_⟩
          have f4 := f3.kp e4
          have hbk : bkS (c : Int) = (bkN c : Nat) := bkS_nat hc8
          rw [hbk]
          have hst : ∀ {X : World} {gg : Nat → Int} {x : Int} {Q : World → Prop}, X.heap[lb]? = some (Bl (ints 8 gg) 79) → (∀ X', Put X lb (Bl (setL (ints 8 gg) (c + 0) [I x]) 79) X' → Q X') → stx X ((Addr.mk lb 0 none).add ((c : Int).toNat * 1)) [I x] 0 Q := fun hX hQ => by
            rw [add_mk, Int.toNat_natCast, Nat.zero_add, Nat.mul_one]
            exact stx_at _ hX (by simp; omega) rfl hQ
          refine hst f4.l fun U5 p5 => ?_
          have f5 := f4.set p5
          refine ⟨⟨by omega, by omega⟩, _, cellL f5.l, ⟨by omega, by omega⟩, ?_⟩
          rw [up_same, wrap_id (x := ((bkN c : Nat) : Int) - 1) (by omega) (by omega)]
          exact hst f5.l fun U6 p6 => hfin U6 (f5.set p6)
        rcases hv with ⟨hn, rfl, low', free', ht5⟩ | ⟨k, hn, hkn, rfl, low', free', ht5⟩
        · rw [hn, if_pos (by omega)] at hpl
          refine ⟨_, _, rfl, rest (n1 := 0) (P2 := τ.P) ⟨k3, hl3, ⟨tb, pb, cc, _, low', free', ht3, ht5, t3, fun _ => ⟨t41, t42⟩⟩, hb3, lo⟩ fun U' fU' => ifB_ne (fun _ => ⟨?_, fU'.k⟩) fun hh => by omega⟩
          rw [← hf, if_pos (by rw [hpl]; decide)]
        · rw [hn, if_neg (by omega), show (k : Int) * 64 = ((64 * k : Nat) : Int) by simp; omega] at hpl
          refine ⟨_, _, rfl, rest (n1 := 0) (P2 := takP τ.P (64 * k) true (ks i)) ⟨k3, hl3, ⟨tb, pb, cc, _, low', free', ht3, ht5, fun p hp => ?_, fun _ => ⟨t41, t42⟩⟩, hb3, lo⟩ fun U' fU' => ifB_ne (fun hh => by omega) fun _ => next hpl fU' fun d hd => ?_⟩
          · rw [takP, if_neg h8, if_pos rfl, show 64 * k / 64 = k by omega, hc]
            unfold up
            by_cases hpk : p = k
            · rw [if_pos hpk, if_pos hpk]
            · rw [if_neg hpk, if_neg hpk]; exact t3 p hp
          · have hfr : ∀ j, j < 64 * σ.n → frB (takeS τ (64 * k) true 3 (ks i) 0) d j = if ofS (ks i) = d then decide (64 * k ≤ j ∧ j < 64 * k + 64 ∧ j ≠ 64 * k ∧ (j % 64) % wdN d = 0 ∧ (j % 64) / wdN d < bkN d) else frB τ d j := fun j hj => by
              rw [takeS_fr sV.inv (fit3 s1 s2) (plc_of s1 s2 hpl) hd (by rw [hnτ]; exact hj)]; rfl
            by_cases hcd : d = c
            · subst hcd
              right
              rw [up_same, cnt_congr fun j _ hj => by rw [hfr j hj, if_pos hc], cnt_fresh hd hkn]
              omega
            · rw [up_other _ _ hcd, up_other _ _ hcd]
              have hfr' : ∀ j, j < 64 * σ.n → frB (takeS τ (64 * k) true 3 (ks i) 0) d j = frB τ d j := fun j hj => by rw [hfr j hj, if_neg (by omega)]
              rcases sU.cn d hd with ⟨c1, c2⟩ | c1
              · exact .inl ⟨c1, fun j hj => by rw [hfr' j hj]; exact c2 j hj⟩
              · exact .inr (by rw [c1, cnt_congr fun j _ hj => hfr' j hj])
      · -- a free block of the class
        refine ⟨⟨by omega, by omega⟩, _, cellL fU.l, ⟨by omega, by omega⟩, ?_⟩
        rw [hg', wrap_id (x := ((cnt (frB τ c) 0 (64 * σ.n) : Nat) : Int) - 1) (by omega) (by omega), add_mk, Int.toNat_natCast, Nat.zero_add, Nat.mul_one]
        refine stx_at _ fU.l (by simp; omega) rfl fun U2 p2 => ?_
        have f2 := fU.set p2
        obtain ⟨a, ha, _, ha2, ha3, _⟩ : ∃ a : Nat, nxt (frB τ c) (64 * τ.n) 0 = a ∧ 0 ≤ a ∧ a < 64 * τ.n ∧ frB τ c a = true ∧ True := by
          rcases nxt_cases (frB τ c) (64 * τ.n) 0 with ⟨_, hno⟩ | ⟨a, h1, h2, h3, h4, _⟩
          · exact absurd ((cnt_zero_iff (frB τ c) (a := 0) (b := 64 * σ.n)).2 fun j hj1 hj2 => hno j hj1 (by rw [hnτ]; exact hj2)) (by omega)
          · exact ⟨a, h1, h2, h3, h4, trivial⟩
        have hpl : plS τ (ks i) = ((a : Int), false) := by
          rw [plS, if_neg (by omega), if_neg h8, hc, Int.toNat_natCast, nfS, ha, if_pos (by omega)]
        have hdr := cnt_drop (p := frB τ c) (m := 64 * σ.n) (by rw [← hnτ]; exact ha2) ha3
        refine next hpl (f2.congr fun p _ => ?_) fun d hd => ?_
        · rw [takP, if_neg h8, if_neg (by simp)]
        · have hfr : ∀ j, j < 64 * σ.n → frB (takeS τ a false 3 (ks i) 0) d j = if ofS (ks i) = d then up (frB τ d) a false j else frB τ d j := fun j hj => by
            rw [takeS_fr sV.inv (fit3 s1 s2) (plc_of s1 s2 hpl) hd (by rw [hnτ]; exact hj)]; rfl
          by_cases hcd : d = c
          · subst hcd
            right
            have e : cnt (frB (takeS τ a false 3 (ks i) 0) d) 0 (64 * σ.n) = cnt (up (frB τ d) a false) 0 (64 * σ.n) := cnt_congr fun j _ hj => by rw [hfr j hj, if_pos hc]
            rw [up_same, e]
            omega
          · rw [up_other _ _ hcd]
            have hfr' : ∀ j, j < 64 * σ.n → frB (takeS τ a false 3 (ks i) 0) d j = frB τ d j := fun j hj => by rw [hfr j hj, if_neg (by omega)]
            rcases sU.cn d hd with ⟨c1, c2⟩ | c1
            · exact .inl ⟨c1, fun j hj => by rw [hfr' j hj]; exact c2 j hj⟩
            · exact .inr (by rw [c1, cnt_congr fun j _ hj => hfr' j hj])
    · refine ⟨⟨by omega, by omega⟩, _, cellL f1.l, ifB_d (fun hn => ?_) fun hn => ⟨g, f1, sV, ?_⟩⟩
      · obtain ⟨c1, c2⟩ : g c = -1 ∧ ∀ j, j < 64 * σ.n → frB τ c j = frB σ c j := by
          rcases sV.cn c hc8 with h1 | h1
          · exact h1
          · omega
        have h1 := h.kp f1.k
        refine ⟨⟨by omega, by omega⟩, _, cell_f (c := c) h1 hc8, ?_⟩
        refine (c81 (SpR.hf h1 c hc8)).use fun U e => ⟨_, rfl, ⟨by omega, by omega⟩, ?_⟩
        have fU := f1.kp e
        have hcn : cnt ((rawOf σ).fr c) 0 (64 * (rawOf σ).n) = cnt (frB τ c) 0 (64 * σ.n) := cnt_congr fun j _ hj => (c2 j hj).symm
        rw [hcn, add_mk, Int.toNat_natCast, Nat.zero_add, Nat.mul_one]
        refine stx_at _ fU.l (by simp; omega) rfl fun U2 p2 => ⟨_, fU.set p2, ⟨hnτ, sV.inv, fun d hd => ?_⟩, by rw [up_same]⟩
        by_cases hdc : d = c
        · subst hdc; right; rw [up_same]
        · rw [up_other _ _ hdc]; exact sV.cn d hd
      · rcases sV.cn c hc8 with h1 | h1
        · omega
        · exact h1
end
end Go.Wx
end
section
/- Lists of rows in their own blocks; contracts of Blocks. -/
set_option linter.unusedVariables false
set_option maxRecDepth 100000
namespace Go.Wx
open Go

/-- A list: its block (none: no list), how long, how long it can be. -/
structure LV where
  b : Option Nat
  l : Nat
  c : Nat
def LV.ad (v : LV) : Option Addr := v.b.map fun b => ⟨b, 0, none⟩
abbrev LV.val (v : LV) : Value := .slice v.ad v.l v.c
def LV.nil : LV := ⟨none, 0, 0⟩
/-- Its rows. -/
def Rw (w : World) (v : LV) (sz : Nat) (ty : TypeId) (F : Nat → List Value) : Prop :=
  v.l ≤ v.c ∧ (v.b = none → v.c = 0) ∧ ∀ b, v.b = some b → ∃ cs, w.heap[b]? = some (Bl cs ty) ∧ cs.length = v.c * sz ∧ (∀ x ∈ cs, isLeaf x = true) ∧ ∀ i, i < v.l → ∀ j, j < sz → cs[i * sz + j]? = (F i)[j]?
theorem Rw.upd {w w' : World} {v : LV} {sz : Nat} {ty : TypeId} {F : Nat → List Value} {G : Nat → Prop} (h : Rw w v sz ty F) (u : Upd G w w') (hb : ∀ b, v.b = some b → ¬ G b) : Rw w' v sz ty F := by
  refine ⟨h.1, h.2.1, fun b hv => ?_⟩
  obtain ⟨cs, h1, h2⟩ := h.2.2 b hv
  exact ⟨cs, u.at h1 (hb b hv), h2⟩
theorem Rw.congr {w : World} {v : LV} {sz : Nat} {ty : TypeId} {F F' : Nat → List Value} (h : Rw w v sz ty F) (he : ∀ i, i < v.l → F i = F' i) : Rw w v sz ty F' := by
  refine ⟨h.1, h.2.1, fun b hv => ?_⟩
  obtain ⟨cs, h1, h2, h3, h4⟩ := h.2.2 b hv
  exact ⟨cs, h1, h2, h3, fun i hi j hj => by rw [← he i hi]; exact h4 i hi j hj⟩
theorem rw_nil {w : World} {sz : Nat} {ty : TypeId} {F : Nat → List Value} : Rw w LV.nil sz ty F := ⟨Nat.le_refl _, fun _ => rfl, fun b h => by simp [LV.nil] at h⟩
theorem mem_setL {vs cs : List Value} {i : Nat} (h1 : ∀ x ∈ cs, isLeaf x = true) (h2 : ∀ x ∈ vs, isLeaf x = true) : ∀ x ∈ setL cs i vs, isLeaf x = true := by
  induction vs generalizing cs i with
  | nil => exact h1
  | cons v vs ih =>
    refine ih (fun x hx => ?_) fun x hx => h2 x (List.mem_cons_of_mem _ hx)
    rcases List.mem_or_eq_of_mem_set hx with h | rfl
    · exact h1 x h
    · exact h2 _ List.mem_cons_self
theorem row_lt {i m sz j : Nat} (hi : i < m) (hj : j < sz) : i * sz + j < m * sz := by
  have : (i + 1) * sz ≤ m * sz := Nat.mul_le_mul_right sz hi
  rw [Nat.add_mul, Nat.one_mul] at this
  omega
/-- A row is set. -/
theorem Rw.set {w w' : World} {v : LV} {sz : Nat} {ty : TypeId} {F : Nat → List Value} (h : Rw w v sz ty F) {b : Nat} (hv : v.b = some b) {row : List Value} (hr : row.length = sz) (hl : ∀ x ∈ row, isLeaf x = true) {i : Nat} (hi : i < v.c) {cs : List Value} (hcs : w.heap[b]? = some (Bl cs ty))
    (p : Put w b (Bl (setL cs (i * sz) row) ty) w') (l' : Nat) (hl' : l' ≤ v.c) (hll : l' ≤ v.l ∨ (i = v.l ∧ l' = v.l + 1)) : Rw w' ⟨v.b, l', v.c⟩ sz ty (up F i row) := by
  refine ⟨hl', h.2.1, fun b' hv' => ?_⟩
  rw [hv] at hv'
  cases hv'
  obtain ⟨cs', h1, h2, h3, h4⟩ := h.2.2 b hv
  rw [hcs] at h1
  cases h1
  have hlen : i * sz + row.length ≤ cs.length := by
    have : (i + 1) * sz ≤ v.c * sz := Nat.mul_le_mul_right sz hi
    rw [Nat.add_mul, Nat.one_mul] at this
    omega
  refine ⟨_, p.at0, by rw [setL_length]; exact h2, mem_setL h3 hl, fun k hk j hj => ?_⟩
  rw [setL_get _ _ _ _ hlen, hr]
  by_cases hki : k = i
  · subst hki
    rw [if_pos ⟨by omega, by omega⟩, up_same, show k * sz + j - k * sz = j by omega]
  · rw [up_other _ _ hki]
    have hk' : k < v.l := by
      have hk : k < l' := hk
      omega
    rw [if_neg]
    · exact h4 k hk' j hj
    · rintro ⟨a1, a2⟩
      rcases Nat.lt_or_gt_of_ne hki with hlt | hgt
      · have := row_lt hlt hj; omega
      · have : (i + 1) * sz ≤ k * sz := Nat.mul_le_mul_right sz hgt
        rw [Nat.add_mul, Nat.one_mul] at this
        omega

/-- append of one row. -/
theorem app_row {w : World} {v : LV} {sz : Nat} {ty tt : TypeId} {F : Nat → List Value} (h : Rw w v sz ty F) {tb : Nat} {row z : List Value} (ht : w.heap[tb]? = some (Bl row tt)) (hr : row.length = sz) (hl : ∀ x ∈ row, isLeaf x = true)
    (hz : z.length = sz) (hzl : ∀ x ∈ z, isLeaf x = true) {bytes : Nat} (hb : (v.l + 1) * bytes ≤ 1099511627776) {Q : Option Addr → Nat → World → Prop}
    (hin : ∀ b cs w', v.b = some b → v.l + 1 ≤ v.c → w.heap[b]? = some (Bl cs ty) → Put w b (Bl (setL cs (v.l * sz) row) ty) w' → Rw w' ⟨v.b, v.l + 1, v.c⟩ sz ty (up F v.l row) → Q v.ad v.c w')
    (hnew : ∀ cs c w', New w (Bl cs ty) w' → Rw w' ⟨some w.heap.size, v.l + 1, c⟩ sz ty (up F v.l row) → Q (some ⟨w.heap.size, 0, none⟩) c w') :
    ∃ old new, rdx w v.ad (v.l * sz) old ∧ rdx w (some ⟨tb, 0, none⟩) sz new ∧ (∀ x, List.Mem x new → isLeaf x = true) ∧ (v.l + 1) * bytes ≤ 1099511627776 ∧ canApp w v.ad v.l v.c 1 sz ∧
      ∀ b c w', AppTo w v.ad v.l v.c 1 sz old new z ty b c w' → Q b c w' := by
  have hnr : rdx w (some ⟨tb, 0, none⟩) sz row := by
    have := rdx_at ht (o := 0) (n := sz) (by omega)
    rw [List.drop_zero, List.take_of_length_le (by omega)] at this
    exact this
  obtain ⟨hlc, hnone, hsome⟩ := h
  have h : Rw w v sz ty F := ⟨hlc, hnone, hsome⟩
  obtain ⟨b, l, c⟩ := v
  cases b with
  | none =>
    have hc : c = 0 := hnone rfl
    subst hc
    have hl0 : l = 0 := by have hlc : l ≤ 0 := hlc; omega
    subst hl0
    refine ⟨[], row, by show rdx w none (0 * sz) []; rw [Nat.zero_mul]; exact rdx_nil, hnr, hl, hb, fun hh => by simp at hh, ?_⟩
    rintro b c w' (⟨a1, _⟩ | ⟨a1, a2, rfl, rfl⟩)
    · simp at a1
    · simp only [List.nil_append]
      refine hnew _ c _ (new_drew (new_alloc _ _)) ⟨by dsimp only; omega, fun hh => (by cases hh), fun b' hb' => ?_⟩
      cases hb'
      refine ⟨_, (new_drew (new_alloc w.drew (Bl (row ++ zcells z (c - (0 + 1))) ty))).at0, ?_, fun x hx => ?_, fun i hi j hj => ?_⟩
      · rw [List.length_append, zcells_length, hr, hz, Nat.sub_mul]
        have : (0 + 1) * sz ≤ c * sz := Nat.mul_le_mul_right sz a2
        show sz + (c * sz - (0 + 1) * sz) = c * sz
        omega
      · rcases List.mem_append.1 hx with hx | hx
        · exact hl x hx
        · exact zcells_leaf hzl x hx
      · have hi : i = 0 := by have hi : i < 0 + 1 := hi; omega
        subst hi
        rw [show up F (0 : Nat) row 0 = row from up_same _ _ _, List.getElem?_append_left (by omega)]
        congr 1; omega
  | some ab =>
    obtain ⟨cs, h1, h2, h3, h4⟩ := hsome ab rfl
    have hlc : l ≤ c := hlc
    have h2 : cs.length = c * sz := h2
    have hle : l * sz ≤ c * sz := Nat.mul_le_mul_right sz hlc
    have hold := rdx_at h1 (o := 0) (n := l * sz) (by omega)
    rw [List.drop_zero] at hold
    refine ⟨cs.take (l * sz), row, hold, hnr, hl, hb, fun hh => ?_, ?_⟩
    · show canWr w ((Addr.mk ab 0 none).add (l * sz)) (1 * sz)
      rw [add_mk]
      refine canWr_of h1 ?_
      have : (l + 1) * sz ≤ c * sz := Nat.mul_le_mul_right sz hh
      rw [Nat.add_mul] at this
      omega
    rintro b c' w' (⟨a1, rfl, rfl, rfl⟩ | ⟨a1, a2, rfl, rfl⟩)
    · show Q _ _ (wrx w ((Addr.mk ab 0 none).add (l * sz)) row 0)
      rw [add_mk, Nat.zero_add]
      have p := wrx_put row (l * sz) 0 h1
      rw [Nat.add_zero] at p
      exact hin ab cs _ rfl a1 h1 p (h.set rfl hr hl (by show l < c'; exact a1) h1 p (l + 1) a1 (.inr ⟨rfl, rfl⟩))
    · refine hnew _ c' _ (new_drew (new_alloc _ _)) ⟨by dsimp only; omega, fun hh => (by cases hh), fun b' hb' => ?_⟩
      cases hb'
      have hsub : (l + 1) * sz ≤ c' * sz := Nat.mul_le_mul_right sz a2
      rw [Nat.add_mul, Nat.one_mul] at hsub
      refine ⟨_, (new_drew (new_alloc w.drew (Bl (cs.take (l * sz) ++ (row ++ zcells z (c' - (l + 1)))) ty))).at0, ?_, fun x hx => ?_, fun i hi j hj => ?_⟩
      · rw [List.length_append, List.length_append, List.length_take, zcells_length, hr, hz, Nat.sub_mul, Nat.add_mul, Nat.one_mul, Nat.min_eq_left (by omega)]
        dsimp only
        omega
      · rcases List.mem_append.1 hx with hx | hx
        · exact h3 x (List.mem_of_mem_take hx)
        · rcases List.mem_append.1 hx with hx | hx
          · exact hl x hx
          · exact zcells_leaf hzl x hx
      · have hi : i < l + 1 := hi
        by_cases hil : i = l
        · subst hil
          rw [show up F (i : Nat) row i = row from up_same _ _ _, List.getElem?_append_right (by rw [List.length_take]; omega), List.length_take, Nat.min_eq_left (by omega), List.getElem?_append_left (by omega)]
          congr 1; omega
        · have hlt : i < l := by omega
          have := row_lt hlt hj
          rw [show up F l row i = F i from up_other _ _ hil, List.getElem?_append_left (by rw [List.length_take]; omega), List.getElem?_take_of_lt this]
          exact h4 i hlt j hj

/-! A range over a space's objects -/
theorem ok133 : okCallee PR 133 = true := by kernel_rfl
theorem range_all {α : Type} {ar : α → List Value} {round : Nat → Loop → α → World → (Exit → World → Prop) → Prop} {w : World} {Q : World → Prop} {sb : Nat} {B : Sl → Nat} {σ : St} (hIσ : Inv σ) (S : Bk → α)
    (has : ∀ b, ar (S b) = [VB b]) (Iv : Nat → World → Prop)
    (hI0 : w.heap[sb]? = some (Bl [pt (B .s)] 34) ∧ Sp w B σ)
    (hI : ∀ i W, Iv i W → W.heap[sb]? = some (Bl [pt (B .s)] 34) ∧ Sp W B σ)
    (hst : ∀ i W W', Iv i W → Upd (fun x => w.heap.size + 1 ≤ x ∧ x ≤ w.heap.size + 5) W W' → Iv i W')
    (h0 : ∀ W, Kp w W → W.heap[w.heap.size]? = some (.deferred (some [])) → w.heap.size + 6 ≤ W.heap.size → Iv 0 W)
    (step : ∀ i (j : Nat) W rc K, Iv i W → i ≤ j → j < 64 * σ.n → (σ.O j).kind ≠ 0 → (∀ k, i ≤ k → k < j → (σ.O k).kind = 0) → W.heap[w.heap.size + 1]? = some (.loop rc) →
      (∀ W', Iv (j + 1) W' → Upd (fun x => x = w.heap.size + 1 ∨ x < w.heap.size ∨ w.heap.size + 6 ≤ x) W W' → W'.heap[w.heap.size + 1]? = some (recOf rc .busy none) → K .normal W') →
      round (w.heap.size + 1) rc (S (σ.O j)) W K)
    (hend : ∀ i W, Iv i W → (∀ j, i ≤ j → j < 64 * σ.n → (σ.O j).kind = 0) → Q W) :
    RangeX α PR (.func (.func 133) (Array.mk []) (Array.mk [pt sb])) ar round w [] Q := by
  intro rc hr1 hr2 hr3 hround
  obtain ⟨st, pe, fn, tmps, params, assign, body, defers⟩ := rc
  simp only at hr1 hr2 hr3
  subst hr1 hr2
  refine callF_of ok133 ?_
  have n1 := new_alloc w (.deferred (some []))
  generalize w.alloc (.deferred (some [])) = w1 at n1 ⊢
  have n2 := new_alloc w1 (.loop { state := .ready, pending := none, fn := fn, tmps := tmps, params := params, assign := assign, body := body, defers := defers })
  generalize w1.alloc (.loop { state := .ready, pending := none, fn := fn, tmps := tmps, params := params, assign := assign, body := body, defers := defers }) = w2 at n2 ⊢
  have hl := n2.at0
  rw [n1.sz] at hl
  have hD := n2.ext.at n1.at0
  have z1 := n1.sz
  have z2 := n2.sz
  obtain ⟨rc, hrc⟩ : ∃ rc : Loop, rc = { state := .ready, pending := none, fn := fn, tmps := tmps, params := params, assign := assign, body := body, defers := defers } := ⟨_, rfl⟩
  have hready : recOf rc .ready none = .loop rc := by rw [hrc]; rfl
  rw [← hrc] at hround hl ⊢
  obtain ⟨d, hd⟩ : ∃ d, d = w.heap.size := ⟨_, rfl⟩
  rw [← hd] at hround hl hD h0 step hst ⊢
  refine Ret.use (Ret.of ((S133_eq (d + 1) ⟨sb, 0, none⟩ w2 (fun v W => (W.heap[d + 1]? = some (.loop rc) ∧ Q (W.putObj (d + 1) (recOf rc .exhausted none))) ∨
       orL (fun j Q => W.heap[d + 1]? = some (recOf rc .done (some j)) ∧ Q (W.putObj (d + 1) (recOf rc .exhausted (some j)))) [])).mpr ?_)) ?_
  rotate_left
  · intro v W h
    exact ⟨⟨v, rfl⟩, h⟩
  unfold S133
  refine atW_new fun w3 n3 => ?_
  have z3 := n3.sz
  have k3 : Kp w w3 := (n1.ext.trans n2.ext).trans n3.ext
  have hb3 : w3.heap[d + 2]? = some (Bl [.func (.yield (d + 1)) #[] #[]] 126) := by
    have := n3.at0; rw [show w2.heap.size = d + 2 by omega] at this; exact this
  obtain ⟨hs3, hp3⟩ : w3.heap[sb]? = some (Bl [pt (B .s)] 34) ∧ Sp w3 B σ := ⟨k3.at hI0.1, Sp.kp hI0.2 k3⟩
  refine ⟨_, cell_of hs3 0, _, cell_of (SpR.hs hp3) 2, ?_⟩
  refine (c91 w3 (B .k)).use ?_
  rintro _ w4 ⟨rfl, n4⟩
  refine ⟨_, rfl, ?_⟩
  have z4 := n4.sz
  have hc4 : w4.heap[d + 3]? = some (Bl [pt (B .k)] 88) := by
    have := n4.at0; rw [show w3.heap.size = d + 3 by omega] at this; exact this
  rw [show w3.heap.size = d + 3 by omega, show w2.heap.size = d + 2 by omega, show w4.heap.size = d + 4 by omega]
  have e4 : w4.heap.size = d + 4 := by omega
  rw [← e4]
  have far : ∀ {W W' : World} {G : Nat → Prop}, Upd G W W' → (∀ x, d + 1 ≤ x → x ≤ d + 4 → ¬ G x) → (W.heap[d + 2]? = some (Bl [.func (.yield (d + 1)) #[] #[]] 126) ∧ W.heap[d + 3]? = some (Bl [pt (B .k)] 88) ∧ W.heap[d + 1]? = some (.loop rc) ∧ W.heap[d + 4]? = some (.deferred (some [])) ∧ d + 6 ≤ W.heap.size) →
      (W'.heap[d + 2]? = some (Bl [.func (.yield (d + 1)) #[] #[]] 126) ∧ W'.heap[d + 3]? = some (Bl [pt (B .k)] 88) ∧ W'.heap[d + 1]? = some (.loop rc) ∧ W'.heap[d + 4]? = some (.deferred (some [])) ∧ d + 6 ≤ W'.heap.size) := by
    rintro W W' G u hG ⟨a1, a2, a3, a4, a5⟩
    exact ⟨u.at a1 (hG _ (by omega) (by omega)), u.at a2 (hG _ (by omega) (by omega)), u.at a3 (hG _ (by omega) (by omega)), u.at a4 (hG _ (by omega) (by omega)), by have := u.sz; omega⟩
  refine range_bits (fun i => (i, ())) (fun i => rfl) (fun e Qe hh => by simp only [List.mem_singleton, Prod.mk.injEq] at hh; rw [hh.1]; rfl)
    (fun i bit U => bit = isO σ ∧ Iv i U ∧ (U.heap[d + 2]? = some (Bl [.func (.yield (d + 1)) #[] #[]] 126) ∧ U.heap[d + 3]? = some (Bl [pt (B .k)] 88) ∧ U.heap[d + 1]? = some (.loop rc) ∧ U.heap[d + 4]? = some (.deferred (some [])) ∧ d + 6 ≤ U.heap.size))
    (cb := d + 3) (b := B .k) (rb := B .kr) (r := σ.n) ?_ ?_ (isO σ) ?_ ?_ ?_
  · rintro i bit U ⟨rfl, q1, q2⟩
    exact ⟨q2.2.1, (hI i U q1).2.hk⟩
  · rintro i bit U U' ⟨q0, q1, q2⟩ u
    exact ⟨q0, hst i U U' q1 (u.mono fun x hx => by simp only [one] at hx; omega), far u (fun x _ _ => by simp only [one]; omega) q2⟩
  · intro U kU hDU hsz
    rw [e4] at hDU hsz
    have k4 : Kp w3 U := n4.ext.trans kU
    have kk : Kp w2 U := Upd.trans n3.ext k4
    exact ⟨rfl, h0 U (k3.trans k4) (kk.at hD) (by omega), k4.at hb3, kU.at hc4, kk.at hl, hDU, by omega⟩
  · rintro i bit j U rc' K ⟨rfl, q1, q2⟩ hij hj hbit hno hl8 hnorm _
    dsimp only
    rw [e4] at hl8 hnorm ⊢
    refine ⟨hl8, atW_putO (lt_of_look hl8) fun U2 pU => ?_⟩
    have r1 := hst i U U2 q1 (pU.upd.mono fun x hx => by simp only [one] at hx; omega)
    have r2 := far pU.upd (fun x _ _ => by simp only [one]; omega) q2
    obtain ⟨s1, s2⟩ := hI i U2 r1
    have hn2 := hIσ.n2
    have hbj := of_decide_eq_true hbit
    refine ⟨_, cell_of s1 0, ?_⟩
    refine (c70 hIσ s2 j ⟨by omega, by omega⟩).use fun U3 e3 => ?_
    have hbl : blkS σ j = σ.O j := by rw [blkS, if_pos (okI_iff.2 ⟨j, rfl, hj, hbj⟩), Int.toNat_natCast]
    rw [hbl]
    refine ⟨_, _, _, _, _, _, rfl, atW_new fun U4 n5 => stx_at _ n5.at0 (by simp) rfl fun U5 p5 => ?_⟩
    have k5 : Kp U2 U5 := (e3.trans n5.ext).put p5 e3.sz
    have r5 := far k5 (fun x _ _ hh => hh) r2
    have i5 := hst i U2 U5 r1 (Kp.upd k5)
    refine ⟨_, cell_of r5.1 0, _, cell_of p5.at0 0, _, cell_of p5.at0 1, _, cell_of p5.at0 2, _, cell_of p5.at0 3, _, cell_of p5.at0 4, ?_⟩
    have key := hround (S (σ.O j)) U5 (fun y y_3 => ∃ b, y = Ending.returned (Value.bool b) ∧ ifB (!b) (K Exit.ret y_3) (K Exit.normal y_3)) r5.2.2.1
    rw [has] at key
    refine key (step i j U5 rc _ i5 hij hj hbj (fun k h1 h2 => by have := of_decide_eq_false (hno k h1 h2); exact Classical.not_not.1 this) r5.2.2.1 ?_)
    intro W' hiv u hb
    refine ⟨hb, true, rfl, ?_⟩
    show K Exit.normal _
    rw [hready]
    have p := put_putObj (.loop rc) (lt_of_look hb)
    generalize W'.putObj (d + 1) (.loop rc) = W2 at p ⊢
    have f2 : W2.heap[d + 2]? = some (Bl [.func (.yield (d + 1)) #[] #[]] 126) ∧ W2.heap[d + 3]? = some (Bl [pt (B .k)] 88) ∧ W2.heap[d + 1]? = some (.loop rc) ∧ W2.heap[d + 4]? = some (.deferred (some [])) ∧ d + 6 ≤ W2.heap.size :=
      ⟨p.at (u.at r5.1 (by omega)) (by omega), p.at (u.at r5.2.1 (by omega)) (by omega), p.at0, p.at (u.at r5.2.2.2.1 (by omega)) (by omega), by have := p.sz; have := u.sz; omega⟩
    refine hnorm (isO σ) W2 ⟨rfl, hst (j + 1) W' W2 hiv (p.upd.mono fun x hx => by simp only [one] at hx; omega), f2⟩ ?_
    exact p.at (u.at (k5.at pU.at0) (by omega)) (by omega)
  · rintro i bit U ⟨rfl, q1, q2⟩ hno
    rw [e4]
    have p := put_putObj (.deferred none) (lt_of_look q2.2.2.2.1)
    generalize U.putObj (d + 4) (.deferred none) = U2 at p ⊢
    have hl2 := p.at q2.2.2.1 (by omega)
    refine ⟨q2.2.2.2.1, .inl ⟨hl2, ?_⟩⟩
    have p' := put_putObj (recOf rc .exhausted none) (lt_of_look hl2)
    generalize U2.putObj (d + 1) (recOf rc .exhausted none) = U3 at p' ⊢
    refine hend i U3 (hst i U2 U3 (hst i U U2 q1 (p.upd.mono fun x hx => by simp only [one] at hx; omega)) (p'.upd.mono fun x hx => by simp only [one] at hx; omega)) fun j h1 h2 => ?_
    have := of_decide_eq_false (hno j h1 h2)
    exact Classical.not_not.1 this

/-! Blocks -/
def objN (σ : St) : Nat → Nat
  | 0 => 0
  | m + 1 => if (σ.O m).kind ≠ 0 then objN σ m + 1 else objN σ m
def obF (σ : St) : Nat → Nat → Bk
  | 0 => fun _ => Bk.z
  | m + 1 => if (σ.O m).kind ≠ 0 then up (obF σ m) (objN σ m) (σ.O m) else obF σ m
theorem objN_le (σ : St) : ∀ m, objN σ m ≤ m
  | 0 => Nat.le_refl _
  | m + 1 => by have := objN_le σ m; rw [objN]; split <;> omega
theorem obF_spec (σ : St) : ∀ m i, i < objN σ m → ∃ j, j < m ∧ (σ.O j).kind ≠ 0 ∧ obF σ m i = σ.O j
  | 0, i, h => by simp [objN] at h
  | m + 1, i, h => by
    rw [objN] at h
    rw [obF]
    by_cases hk : (σ.O m).kind ≠ 0
    · rw [if_pos hk] at h ⊢
      by_cases hi : i = objN σ m
      · subst hi; rw [up_same]; exact ⟨m, by omega, hk, rfl⟩
      · rw [up_other _ _ hi]
        obtain ⟨j, h1, h2, h3⟩ := obF_spec σ m i (by omega)
        exact ⟨j, by omega, h2, h3⟩
    · rw [if_neg hk] at h ⊢
      obtain ⟨j, h1, h2, h3⟩ := obF_spec σ m i h
      exact ⟨j, by omega, h2, h3⟩
theorem obj_skip {σ : St} {i j : Nat} (hij : i ≤ j) (h : ∀ k, i ≤ k → k < j → (σ.O k).kind = 0) : objN σ i = objN σ j ∧ obF σ i = obF σ j := by
  induction j with
  | zero => have : i = 0 := by omega
            subst this; exact ⟨rfl, rfl⟩
  | succ j ih =>
    by_cases hi : i = j + 1
    · subst hi; exact ⟨rfl, rfl⟩
    · obtain ⟨h1, h2⟩ := ih (by omega) fun k a b => h k a (by omega)
      have hz : ¬ (σ.O j).kind ≠ 0 := fun hh => hh (h j (by omega) (by omega))
      rw [objN, obF, if_neg hz, if_neg hz]
      exact ⟨h1, h2⟩
def obR (σ : St) (m : Nat) : Nat → List Value := fun i => (obF σ m i).cells
theorem obR_up (σ : St) {m : Nat} (h : (σ.O m).kind ≠ 0) : up (obR σ m) (objN σ m) (σ.O m).cells = obR σ (m + 1) := by
  funext i
  unfold obR
  rw [obF, if_pos h]
  unfold up
  split <;> rfl
theorem objN_up (σ : St) {m : Nat} (h : (σ.O m).kind ≠ 0) : objN σ (m + 1) = objN σ m + 1 := by rw [objN, if_pos h]
theorem bk_leaf (b : Bk) : ∀ x ∈ b.cells, isLeaf x = true := by simp [Bk.cells, isLeaf]

section
variable {w : World} {B : Sl → Nat} {R : RB} {σ : St}

theorem c41 (h : Rf w R σ) : Ret PR 41 [pt R.s] w fun v w' => ∃ L : LV, v = L.val ∧ Rw w' L 5 106 (obR σ (64 * σ.n)) ∧ L.l = objN σ (64 * σ.n) ∧ Kp w w' ∧ ∀ b, L.b = some b → w.heap.size ≤ b := by
  refine Ret.of ((S41_eq _ w _).mpr ?_)
  unfold S41
  have hco := h.hco
  have hn2 := h.n2
  refine loop_rule (fun g : Nat × LV => ((g.2.ad, g.2.l, g.2.c), (g.1 : Int), ())) (fun g W => g.1 ≤ 64 * σ.n ∧ Kp w W ∧ Rw W g.2 5 106 (obR σ g.1) ∧ g.2.l = objN σ g.1 ∧ ∀ b, g.2.b = some b → w.heap.size ≤ b) (fun g => 64 * σ.n - g.1) (0, LV.nil) rfl ⟨by dsimp only; omega, kp0, rw_nil, rfl, fun b hb => by simp [LV.nil] at hb⟩ ?_
  rintro ⟨i, L⟩ W K ⟨hi, kW, hL, hl, hb⟩ hK
  dsimp only at hi hL hl hb hK ⊢
  have hW := h.kp kW
  have hle := objN_le σ i
  refine ⟨_, _, _, cell_of hW.hs 2, ifB_d (fun hlt => ?_) fun hlt => ?_⟩
  · have hlt : i < 64 * σ.n := by omega
    have ec : ∀ j, j < 5 → W.cell? ((Addr.add ⟨R.ob, 0, none⟩ ((i : Int).toNat * 5)).add j) = (σ.O i).cells[j]? := fun j hj => by rw [Int.toNat_natCast]; exact bks_cell hW.ho (by omega) hj
    rw [wrap_id (by omega) (by omega)]
    refine ⟨_, _, _, cell_of hW.hs 2, ⟨by omega, by omega⟩, _, ec 1 (by omega), ifB_ne (fun hk => ?_) fun hk => ?_⟩
    · refine ⟨_, _, _, cell_of hW.hs 2, ⟨by omega, by omega⟩, _, ec 0 (by omega), _, ec 1 (by omega), _, ec 2 (by omega), _, ec 3 (by omega), _, ec 4 (by omega), atW_new fun W2 n2 => ?_⟩
      have hL2 := hL.upd n2.ext fun b _ hh => hh
      have hz : ∀ x ∈ ([Value.int IntKind.i64 0, Value.int IntKind.i64 0, Value.int IntKind.i64 0, Value.int IntKind.i64 0, Value.int IntKind.i64 0] : List Value), isLeaf x = true := by simp [isLeaf]
      have z2 := n2.sz
      have zW := kW.sz
      have e1 := objN_up σ hk
      have e2 := obR_up σ hk
      refine app_row (row := (σ.O i).cells) hL2 n2.at0 rfl (bk_leaf _) rfl hz (by omega) (fun b cs W3 hvb hcap hcs p hR => ?_) fun cs c W3 n3 hR => ?_
      · refine hK (i + 1, ⟨L.b, L.l + 1, L.c⟩) W3 ⟨by dsimp only; omega, (kW.trans n2.ext).put p (hb b hvb), ?_, by dsimp only; omega, hb⟩ (by dsimp only; omega)
        rw [hl, e2] at hR
        rw [hl]; exact hR
      · refine hK (i + 1, ⟨some W2.heap.size, L.l + 1, c⟩) W3 ⟨by dsimp only; omega, (kW.trans n2.ext).trans n3.ext, ?_, by dsimp only; omega, fun b hb' => by cases hb'; omega⟩ (by dsimp only; omega)
        rw [hl, e2] at hR
        rw [hl]; exact hR
    · obtain ⟨s1, s2⟩ := obj_skip (σ := σ) (i := i) (j := i + 1) (by omega) fun k h1 h2 => by rw [show k = i by omega]; exact hk
      refine hK (i + 1, L) W ⟨by dsimp only; omega, kW, ?_, by dsimp only; omega, hb⟩ (by dsimp only; omega)
      unfold obR at hL ⊢
      rw [← s2]; exact hL
  · have : i = 64 * σ.n := by omega
    subst this
    exact ⟨L, rfl, hL, hl, kW, hb⟩

theorem c88 (w : World) (b : Nat) : Ret PR 88 [pt b] w fun v w' => v = .func (.func 133) (Array.mk []) (Array.mk [pt w.heap.size]) ∧ New w (Bl [pt b] 34) w' := by
  refine Ret.of ((S88_eq _ w _).mpr ?_)
  unfold S88
  exact atW_new fun w1 n1 => ⟨rfl, n1⟩

theorem c40 (hI : Inv σ) (h : Sp w B σ) : Ret PR 40 [pt (B .s)] w fun v w' => ∃ L : LV, v = L.val ∧ Rw w' L 5 106 (obR σ (64 * σ.n)) ∧ L.l = objN σ (64 * σ.n) ∧ Kp w w' ∧ ∀ b, L.b = some b → w.heap.size ≤ b := by
  refine Ret.of ((S40_eq _ w _).mpr ?_)
  unfold S40
  have hn2 := hI.n2
  refine atW_new fun w1 n1 => ?_
  refine (c88 w1 (B .s)).use ?_
  rintro _ w2 ⟨rfl, m2⟩
  refine ⟨_, rfl, ?_⟩
  obtain ⟨vb, hvb⟩ : ∃ vb, vb = w.heap.size := ⟨_, rfl⟩
  obtain ⟨sb, hsb⟩ : ∃ sb, sb = w1.heap.size := ⟨_, rfl⟩
  obtain ⟨d, hd⟩ : ∃ d, d = w2.heap.size := ⟨_, rfl⟩
  have hv1 : w1.heap[vb]? = some (Bl [.slice none 0 0] 70) := hvb ▸ n1.at0
  have hs2 : w2.heap[sb]? = some (Bl [pt (B .s)] 34) := hsb ▸ m2.at0
  have z1 := n1.sz
  have z2 := m2.sz
  rw [← hvb, ← hsb]
  refine range_all hI (w := w2) (fun b : Bk => ((b.at_, b.kind, b.size, b.serial, b.tag, ()), ())) (fun b => rfl)
    (fun i W => i ≤ 64 * σ.n ∧ Kp w W ∧ W.heap[sb]? = some (Bl [pt (B .s)] 34) ∧ W.heap[d]? = some (.deferred (some [])) ∧ d + 6 ≤ W.heap.size ∧ ∃ L : LV, W.heap[vb]? = some (Bl [L.val] 70) ∧ Rw W L 5 106 (obR σ i) ∧ L.l = objN σ i ∧ ∀ b, L.b = some b → d + 6 ≤ b)
    ⟨hs2, Sp.kp h (n1.ext.trans m2.ext)⟩ ?_ ?_ ?_ ?_ ?_
  · rintro i W ⟨_, kW, q2, _⟩
    exact ⟨q2, Sp.kp h kW⟩
  · rintro i W W' ⟨q0, q1, q2, q3, q4, L, q5, q6, q7, q8⟩ u
    rw [← hd] at u
    refine ⟨q0, q1.tr u fun x hx => .inr (by omega), u.at q2 (by omega), u.at q3 (by omega), by have := u.sz; omega, L, u.at q5 (by omega), q6.upd u fun b hb => by have := q8 b hb; omega, q7, q8⟩
  · intro W kW hD hsz
    rw [← hd] at hD hsz
    exact ⟨by omega, (n1.ext.trans m2.ext).trans kW, kW.at hs2, hD, hsz, LV.nil, kW.at (m2.ext.at hv1), rw_nil, rfl, fun b hb => by simp [LV.nil] at hb⟩
  · rintro i j W rc K ⟨q0, q1, q2, q3, q4, L, q5, q6, q7, q8⟩ hij hj hk hno hl hnorm
    rw [← hd] at hl hnorm ⊢
    dsimp only
    obtain ⟨s1, s2⟩ := obj_skip hij hno
    have q6 : Rw W L 5 106 (obR σ j) := by unfold obR at q6 ⊢; rw [← s2]; exact q6
    rw [s1] at q7
    have hle := objN_le σ j
    have e1 := objN_up σ hk
    have e2 := obR_up σ hk
    refine atW_new fun W2 n2 => stx_at _ n2.at0 (by simp) rfl fun W3 p3 => ?_
    have k3 : Kp W W3 := n2.ext.put p3 (Nat.le_refl _)
    refine ⟨k3.at hl, atW_putO (lt_of_look (k3.at hl)) fun W4 p4 => ?_⟩
    have z2' := n2.sz
    have z3 := p3.sz
    have z4 := p4.sz
    have hr4 := p4.at p3.at0 (by omega)
    refine ⟨_, _, _, cell_of (p4.at (k3.at q5) (by omega)) 0, _, cell_of hr4 0, _, cell_of hr4 1, _, cell_of hr4 2, _, cell_of hr4 3, _, cell_of hr4 4, atW_new fun W5 n5 => ?_⟩
    have u5 : Upd (one (d + 1)) W W5 := ((Kp.upd k3).trans p4.upd).trans (Kp.upd n5.ext)
    have hL5 := q6.upd u5 fun b hb => by have := q8 b hb; simp only [one]; omega
    have hz : ∀ x ∈ ([Value.int IntKind.i64 0, Value.int IntKind.i64 0, Value.int IntKind.i64 0, Value.int IntKind.i64 0, Value.int IntKind.i64 0] : List Value), isLeaf x = true := by simp [isLeaf]
    have z5 := n5.sz
    have hv5 := u5.at q5 (by simp only [one]; omega)
    have hs5 := u5.at q2 (by simp only [one]; omega)
    have hD5 := u5.at q3 (by simp only [one]; omega)
    have hb5 := n5.ext.at p4.at0
    have k5 : Kp w W5 := q1.tr u5 fun x hx => .inr (by simp only [one] at hx; omega)
    refine app_row (row := (σ.O j).cells) hL5 n5.at0 rfl (bk_leaf _) rfl hz (by omega) (fun b cs W6 hvb' hcap hcs p hR => ?_) fun cs c W6 n6 hR => ?_
    · have hbb := q8 b hvb'
      refine stx_at _ (p.at hv5 (by omega)) (by simp) rfl fun W7 p7 => ?_
      refine hnorm W7 ⟨by omega, (k5.put p (by omega)).put p7 (by omega), p7.at (p.at hs5 (by omega)) (by omega), p7.at (p.at hD5 (by omega)) (by omega), by have := p.sz; have := p7.sz; omega, ⟨L.b, L.l + 1, L.c⟩, p7.at0, ?_, by dsimp only; omega, q8⟩ (((u5.mono fun x hx => .inl hx).tr p.upd fun x hx => .inl (.inr (.inr (by simp only [one] at hx; omega)))).tr p7.upd fun x hx => .inl (.inr (.inl (by simp only [one] at hx; omega)))) (p7.at (p.at hb5 (by omega)) (by omega))
      rw [q7, e2] at hR
      rw [q7]
      exact hR.upd p7.upd fun b' hb' => by have := q8 b' hb'; simp only [one]; omega
    · refine stx_at _ (n6.ext.at hv5) (by simp) rfl fun W7 p7 => ?_
      have z6 := n6.sz
      refine hnorm W7 ⟨by omega, (k5.trans n6.ext).put p7 (by omega), p7.at (n6.ext.at hs5) (by omega), p7.at (n6.ext.at hD5) (by omega), by have := p7.sz; omega, ⟨some W5.heap.size, L.l + 1, c⟩, p7.at0, ?_, by dsimp only; omega, fun b hb => by cases hb; omega⟩ (((u5.mono fun x hx => .inl hx).trans (Kp.upd n6.ext)).tr p7.upd fun x hx => .inl (.inr (.inl (by simp only [one] at hx; omega)))) (p7.at (n6.ext.at hb5) (by omega))
      rw [q7, e2] at hR
      rw [q7]
      exact hR.upd p7.upd fun b' hb' => by cases hb'; simp only [one]; omega
  · rintro i W ⟨q0, q1, q2, q3, q4, L, q5, q6, q7, q8⟩ hno
    rw [← hd]
    obtain ⟨s1, s2⟩ := obj_skip q0 hno
    have q6 : Rw W L 5 106 (obR σ (64 * σ.n)) := by unfold obR at q6 ⊢; rw [← s2]; exact q6
    rw [s1] at q7
    have p := put_putObj (.deferred none) (lt_of_look q3)
    generalize W.putObj d (.deferred none) = W2 at p ⊢
    exact ⟨_, _, _, cell_of q5 0, q3, L, rfl, q6.upd p.upd fun b hb => by have := q8 b hb; simp only [one]; omega, q7, q1.put p (by omega), fun b hb => by have := q8 b hb; omega⟩
end
end Go.Wx
end
