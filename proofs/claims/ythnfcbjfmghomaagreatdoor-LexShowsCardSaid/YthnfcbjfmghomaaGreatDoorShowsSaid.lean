/- LexShows: the row, for every input; the card. -/
import Derived.Test.YthnfcbjfmghomaaGreatDoorWrapL
import Derived.Test.YthnfcbjfmghomaaGreatDoorShowsW
import Derived.Test.YthnfcbjfmghomaaGreatDoorWrap
import Derived.Test.YthnfcbjfmghomaaGreatDoorOpenT
import Derived.Test.YthnfcbjfmghomaaGreatDoorTie
import Derived.Test.YthnfcbjfmghomaaGreatDoorCards
import Derived.SizedLaws
import Derived.JoinedOf
import Derived.JoinedCond
import Derived.SevenTiedAt
namespace Go.Proofs.YthnfcbjfmghomaaGreatDoor.lexShows
open Go.Lift Go.ChangeShapes Go.WideShapes Go.ChangeAt Go.RowKit
theorem params : Tryz.f5.params = #[24] := by kernel_rfl
theorem witness_row (os : Os) {H : Type} (enc : TypeId × Value → H) :
    (OpenSpec.ofChange Rows.lexShowsSpec).preRow enc Tryz.prog Tryz.f5 Rows.lexShowsRow.domain false Rows.lexShowsRow.laid ((doorWorld os).forCall (fun _ _ => 0) ⟨#[], #[.slice none 0 0], []⟩).memory #[.slice none 0 0] := by
  have hw : (DataW.whole enc Tryz.prog ((doorWorld os).forCall (fun _ _ => 0) ⟨#[], #[.slice none 0 0], []⟩).memory Tryz.f5.params.toList (OpenSpec.ofChange Rows.lexShowsSpec).vars false #[Value.slice none 0 0].toList 8).map (fun x => (x.1, x.2.1)) =
      some ([.nil], []) := by kernel_rfl
  obtain ⟨⟨x1, x2, x3⟩, hx, hx1⟩ := Option.map_eq_some_iff.1 hw
  simp only [Prod.mk.injEq] at hx1
  obtain ⟨rfl, rfl⟩ := hx1
  exact OpenSpec.preRow_of_cond 8 hx (by kernel_rfl) (fun k hk => by cases hk) (by kernel_rfl) (door_met os _)
theorem witness (os : Os) {H : Type} (enc : TypeId × Value → H) : ∃ (w : World) (tape : Tape) (i : Input), w.os = os ∧ (w.forCall tape i).Shaped Tryz.checked.prog ∧ i.vars = [] ∧ Input.okWide Tryz.checked.prog (w.forCall tape i) .any w.heap.size 5 i ∧
      (OpenSpec.ofChange Rows.lexShowsSpec).preRow enc Tryz.checked.prog Tryz.f5 Rows.lexShowsRow.domain false Rows.lexShowsRow.laid (w.forCall tape i).memory i.args ∧ ({} : Assume).holds Tryz.checked.prog (lone (Frame.enter Tryz.checked.prog 5 i.args .normal) [] (w.forCall tape i)) := by
  have hok : Input.okWideB Tryz.prog ((doorWorld os).forCall (fun _ _ => 0) ⟨#[], #[.slice none 0 0], []⟩) 5 ⟨#[], #[.slice none 0 0], []⟩ = true := by kernel_rfl
  refine ⟨doorWorld os, fun _ _ => 0, ⟨#[], #[.slice none 0 0], []⟩, rfl, World.shaped_of_RefB (by kernel_rfl) (by kernel_rfl), rfl, (Input.okWide_of_okWideB hok).2, witness_row os enc, ?_⟩
  simp only [Assume.holds]
  exact ⟨by simp, by simp, (fun h => by cases h), by simp, by simp⟩
set_option maxRecDepth 100000 in
theorem lifted (os : Os) (started : os.Started) (H : Type) (enc : TypeId × Value → H) (F : Stop.Interp) :
    ReturnsInHanded {} Tryz.checked os 5 .any ((OpenSpec.ofChange Rows.lexShowsSpec).preRow enc Tryz.prog Tryz.f5 Rows.lexShowsRow.domain false Rows.lexShowsRow.laid) (((OpenSpec.ofChange Rows.lexShowsSpec).at F).post enc Tryz.prog Tryz.f5 false true false false) := by
  refine returnsInHanded_of_row (C := Tryz.checked) (s := OpenSpec.ofChange Rows.lexShowsSpec) own started (by kernel_rfl) Tryz.func5 (witness os enc) ?_
  intro W base args ds gs before hval0 hW _ _ _ hL hS _
  have hval : ∀ (j : Nat) t v, Tryz.f5.params[j]? = some t → args[j]? = some v → Value.okWide Tryz.prog W .any base t v := hval0
  have hW' := hW
  obtain ⟨p, q, hA0, hV0, rfl, _, _⟩ := hW
  have hA : DataW.TrodAll enc Tryz.prog W 0 (fun _ => true) true Tryz.f5.params.toList args.toList ds p := hA0
  rw [params] at hA hval
  obtain ⟨v0, d0, rfl, rfl, h0⟩ := trodAll_one hA
  obtain ⟨rfl, rfl⟩ := trodVars_none hV0
  obtain ⟨sl, l, rfl, hR, hl⟩ := open_toks (hval 0 24 v0 rfl rfl) h0
  refine (LexShows_ok hR hl (globs hL hS)).mono ?_
  rintro e W' ⟨rfl, F1⟩
  exact ⟨_, rfl, post_true (s := Rows.lexShowsSpec) rfl hW' rfl kids full (by rw [params]; decide) F1 (tb := 4) (by kernel_rfl) (by kernel_rfl)⟩
theorem row_holds : Rows.LexShowsSaid :=
  OpenClaim.holds_of_cond 5 Tryz.f5 rfl rfl rfl rfl rfl rfl rfl ⟨rfl, rfl, rfl, rfl, rfl⟩ rfl rfl rfl rfl rfl (by kernel_rfl) Tryz.func5 (by kernel_rfl)
    (of_decide_eq_true (by kernel_rfl)) (by unfold Func.isWrapper; rw [if_neg (of_decide_eq_false (by kernel_rfl))]; exact ⟨rfl, rfl⟩)
    (fun os started H enc _ F0 => by rw [OpenClaim.pre_eq_preRow]; exact lifted os started H enc F0)
end Go.Proofs.YthnfcbjfmghomaaGreatDoor.lexShows
