/- LexScans: the row, for every input; the card. -/
import Derived.Test.YthnfcbjfmghomaaGreatDoorWrapL
import Derived.Test.YthnfcbjfmghomaaGreatDoorScansW
import Derived.Test.YthnfcbjfmghomaaGreatDoorWrap
import Derived.Test.YthnfcbjfmghomaaGreatDoorTie
import Derived.Test.YthnfcbjfmghomaaGreatDoorCards
import Derived.SizedLaws
import Derived.JoinedOf
import Derived.JoinedCond
import Derived.SevenTiedAt
namespace Go.Proofs.YthnfcbjfmghomaaGreatDoor.lexScans
open Go.Lift Go.ChangeShapes Go.WideShapes Go.ChangeAt Go.RowKit
theorem params : Tryz.f4.params = #[9] := by kernel_rfl
theorem witness_row (os : Os) {H : Type} (enc : TypeId × Value → H) :
    (OpenSpec.ofChange Rows.lexScansSpec).preRow enc Tryz.prog Tryz.f4 Rows.lexScansRow.domain false Rows.lexScansRow.laid ((doorWorld os).forCall (fun _ _ => 0) ⟨#[], #[.string ⟨#[]⟩], []⟩).memory #[.string ⟨#[]⟩] := by
  have hw : (DataW.whole enc Tryz.prog ((doorWorld os).forCall (fun _ _ => 0) ⟨#[], #[.string ⟨#[]⟩], []⟩).memory Tryz.f4.params.toList (OpenSpec.ofChange Rows.lexScansSpec).vars false #[Value.string ⟨#[]⟩].toList 8).map (fun x => (x.1, x.2.1)) =
      some ([.lit (.string [])], []) := by kernel_rfl
  obtain ⟨⟨x1, x2, x3⟩, hx, hx1⟩ := Option.map_eq_some_iff.1 hw
  simp only [Prod.mk.injEq] at hx1
  obtain ⟨rfl, rfl⟩ := hx1
  exact OpenSpec.preRow_of_cond 8 hx (by kernel_rfl) (fun k hk => by cases hk) (by kernel_rfl) (door_met os _)
theorem witness (os : Os) {H : Type} (enc : TypeId × Value → H) : ∃ (w : World) (tape : Tape) (i : Input), w.os = os ∧ (w.forCall tape i).Shaped Tryz.checked.prog ∧ i.vars = [] ∧ Input.okWide Tryz.checked.prog (w.forCall tape i) .any w.heap.size 4 i ∧
      (OpenSpec.ofChange Rows.lexScansSpec).preRow enc Tryz.checked.prog Tryz.f4 Rows.lexScansRow.domain false Rows.lexScansRow.laid (w.forCall tape i).memory i.args ∧ ({} : Assume).holds Tryz.checked.prog (lone (Frame.enter Tryz.checked.prog 4 i.args .normal) [] (w.forCall tape i)) := by
  have hok : Input.okWideB Tryz.prog ((doorWorld os).forCall (fun _ _ => 0) ⟨#[], #[.string ⟨#[]⟩], []⟩) 4 ⟨#[], #[.string ⟨#[]⟩], []⟩ = true := by kernel_rfl
  refine ⟨doorWorld os, fun _ _ => 0, ⟨#[], #[.string ⟨#[]⟩], []⟩, rfl, World.shaped_of_RefB (by kernel_rfl) (by kernel_rfl), rfl, (Input.okWide_of_okWideB hok).2, witness_row os enc, ?_⟩
  simp only [Assume.holds]
  exact ⟨by simp, by simp, (fun h => by cases h), by simp, by simp⟩
set_option maxRecDepth 100000 in
theorem lifted (os : Os) (started : os.Started) (H : Type) (enc : TypeId × Value → H) (F : Stop.Interp) :
    ReturnsInHanded {} Tryz.checked os 4 .any ((OpenSpec.ofChange Rows.lexScansSpec).preRow enc Tryz.prog Tryz.f4 Rows.lexScansRow.domain false Rows.lexScansRow.laid) (((OpenSpec.ofChange Rows.lexScansSpec).at F).post enc Tryz.prog Tryz.f4 false true false false) := by
  refine returnsInHanded_of_row (C := Tryz.checked) (s := OpenSpec.ofChange Rows.lexScansSpec) own started (by kernel_rfl) Tryz.func4 (witness os enc) ?_
  intro W base args ds gs before hval0 hW _ _ hsz hL hS _
  have hval : ∀ (j : Nat) t v, Tryz.f4.params[j]? = some t → args[j]? = some v → Value.okWide Tryz.prog W .any base t v := hval0
  have hW' := hW
  obtain ⟨p, q, hA0, hV0, rfl, _, _⟩ := hW
  have hA : DataW.TrodAll enc Tryz.prog W 0 (fun _ => true) true Tryz.f4.params.toList args.toList ds p := hA0
  rw [params] at hA hval
  obtain ⟨v0, d0, rfl, rfl, h0⟩ := trodAll_one hA
  obtain ⟨rfl, rfl⟩ := trodVars_none hV0
  obtain ⟨s, rfl, rfl, rfl, ws⟩ := Go.ChangeMaps.open_string us (hval 0 9 v0 rfl rfl) h0
  have hs47 : s.size < 4611686018427387904 := by
    rw [params] at hsz
    have h1 := List.all_eq_true.1 hsz s.data.toList.length (by simp [DataW.weightsEach, DataW.weights])
    have h2 : s.data.toList.length ≤ reachBytes := of_decide_eq_true h1
    have h3 : s.data.toList.length = s.size := Array.length_toList
    unfold reachBytes at h2
    omega
  refine (LexScans_ok s hs47 (globs hL hS)).mono ?_
  rintro e W' ⟨rfl, F1⟩
  exact ⟨_, rfl, post_true (s := Rows.lexScansSpec) rfl hW' rfl kids full (by rw [params]; decide) F1 (tb := 4) (by kernel_rfl) (by kernel_rfl)⟩
theorem row_holds : Rows.LexScansSaid :=
  OpenClaim.holds_of_cond 4 Tryz.f4 rfl rfl rfl rfl rfl rfl rfl ⟨rfl, rfl, rfl, rfl, rfl⟩ rfl rfl rfl rfl rfl (by kernel_rfl) Tryz.func4 (by kernel_rfl)
    (of_decide_eq_true (by kernel_rfl)) (by unfold Func.isWrapper; rw [if_neg (of_decide_eq_false (by kernel_rfl))]; exact ⟨rfl, rfl⟩)
    (fun os started H enc _ F0 => by rw [OpenClaim.pre_eq_preRow]; exact lifted os started H enc F0)
end Go.Proofs.YthnfcbjfmghomaaGreatDoor.lexScans
