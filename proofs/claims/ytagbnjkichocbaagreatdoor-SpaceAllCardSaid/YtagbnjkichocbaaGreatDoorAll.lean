/- hearthlaw8.SpaceAll returns true at every input, and leaves its arguments as they read: the tied card (conditions: the row's own: the table math/bits.deBruijn64tab reads as listed, which the card ties to the program's text). -/
import Derived.Test.YtagbnjkichocbaaGreatDoorLg
import Derived.Test.YtagbnjkichocbaaGreatDoorTie
import Derived.Test.YtagbnjkichocbaaGreatDoorCards
set_option linter.unusedVariables false
namespace Go.Proofs.YtagbnjkichocbaaGreatDoor
open Go Go.ChangeShapes Go.WideShapes Go.ChangeAt Go.RowKit

set_option maxRecDepth 100000 in
theorem spaceAll_lifted (os : Os) (started : os.Started) (H : Type) (enc : TypeId × Value → H) :
    ReturnsInHanded {} Tryz.checked os 9 .any (fun w args => (Rows.spaceAllSpec.pre enc Tryz.prog Tryz.f9 Rows.spaceAllRow.domain false w args ∧ laidMetH Tryz.prog Go.Wx.laid1 w) ∧ sizedMet enc Tryz.prog Tryz.f9 (OpenSpec.ofChange Rows.spaceAllSpec) false w args)
      (Rows.spaceAllSpec.post enc Tryz.prog Tryz.f9 false true false false) := by
  refine returnsInHanded_of_change_and (C := Tryz.checked) (X := fun w _ => laidMetH Tryz.prog Go.Wx.laid1 w) (fun _ _ _ hh h => h.of_heap hh) Go.Wx.own_ started (by kernel_rfl) Tryz.func9
    (ChangeSpec.witness_shaped (enc := enc) (C := Tryz.checked) (os := os) (X := fun w _ => laidMetH Tryz.prog Go.Wx.laid1 w) false (World.laidAll Tryz.prog os Go.Wx.laid1) #[.int .i64 0, .int .i64 0, .slice .none 0 0] 8 (World.laidAll_os _ _ _)
      (World.shaped_of_ZipB (by kernel_rfl) (by kernel_rfl)) (by kernel_rfl) (by kernel_rfl) (by kernel_rfl)
      (by rw [MakeChecks.laidMetH_plain _ _ _ (by kernel_rfl)]; exact laidMet_laidAll _ (by kernel_rfl) (by kernel_rfl))) ?_
  intro W base args ds gs before hval0 hW hc _ hL _
  have hval : ∀ (j : Nat) t v, Tryz.f9.params[j]? = some t → args[j]? = some v → Value.okWide Tryz.prog W .any base t v := hval0
  have hW' := hW
  obtain ⟨p, q, hA0, hV, rfl, _, _⟩ := hW
  have hA : DataW.TrodAll enc Tryz.prog W 0 (fun _ => true) true Tryz.f9.params.toList args.toList ds p := hA0
  rw [Tryz.params9] at hA hval
  obtain ⟨v0, v1, v2, d0, d1, d2, p0, p1, p2, rfl, rfl, rfl, h0, h1, h2⟩ := trodAll_three hA
  obtain ⟨rfl, rfl⟩ := trodVars_none hV
  obtain ⟨n, rfl, rfl, rfl, wn⟩ := open_int Tryz.underlying3 (hval 0 3 v0 rfl rfl) h0
  obtain ⟨m, rfl, rfl, rfl, wm⟩ := open_int Tryz.underlying3 (hval 1 3 v1 rfl rfl) h1
  obtain ⟨s, l, c, f, ad, ln, cc, ks, rfl, hs⟩ := Go.Wx.scr_of (hval 2 22 v2 rfl rfl) h2
  refine (Go.Wx.c9 (n := n) (m := m) (c := c) (Go.Wx.gt_of hL) hs).use fun w1 e1 => ⟨_, rfl, ?_⟩
  exact Go.Wx.post_kp rfl Tryz.params9 (by kernel_rfl) rfl hW' e1

theorem spaceAll_holds : Rows.SpaceAllSaid :=
  OpenClaim.holds_of_wide 9 Tryz.f9 rfl rfl rfl rfl rfl rfl rfl ⟨rfl, rfl, rfl, rfl, rfl⟩ rfl rfl rfl rfl rfl (by kernel_rfl) Tryz.func9 (by kernel_rfl)
    (of_decide_eq_true (by kernel_rfl)) (by unfold Func.isWrapper; first | (rw [if_pos (by decide +kernel)]; kernel_rfl) | (rw [if_neg (by decide +kernel)]; exact ⟨rfl, rfl⟩))
    (fun os started H enc _ => spaceAll_lifted os started H enc)

theorem spaceAll_card : Rows.SpaceAllCardSaid :=
  Claim7.holds_tied_plain_at .later [] [.data] true (true, "c09906c83057d1068948576bc479be4184240fcfb5f1ffc77a08b7eda5a6eaeb") false spaceAll_holds (fun _ h => by cases h) (by kernel_rfl) (fun _ h => by cases h) spaceAll_row_tie rfl ⟨rfl, rfl⟩ (by kernel_rfl) rfl
    (fun f fn hf hfn => by
      obtain rfl : f = 9 := Option.some.inj ((show Tryz.prog.funcNamed "hearth/hearthlaw8.SpaceAll" = some 9 by kernel_rfl).symm.trans hf) |>.symm
      obtain rfl : fn = Tryz.f9 := (Option.some.inj (Tryz.func9.symm.trans hfn)).symm
      exact ⟨by kernel_rfl, fun j t ht => by
        rw [Tryz.params9] at ht
        have hm : t ∈ [3, 3, 22] := by simpa using Array.mem_of_getElem? ht
        have hall : ([3, 22].all fun u => !Tryz.prog.wantsStandIn u) = true := by kernel_rfl
        have hm2 : t ∈ [3, 22] := by simpa using hm
        exact (show Tryz.prog.wantsStandIn t = false by simpa using List.all_eq_true.1 hall t hm2)⟩)
    (by kernel_rfl)
#print axioms spaceAll_card
end Go.Proofs.YtagbnjkichocbaaGreatDoor
