/- The law: VTextsCard: one part of its proof (joined by program out of my own texts). No condition. -/
import Derived.Test.YtngfnokbdcjoeaaGreatDoorVatBA
import Derived.SizedLaws
import Derived.JoinedOf
import Derived.JoinedCond
import Derived.SevenTiedAt
import Derived.Test.YtngfnokbdcjoeaaGreatDoorTie
import Derived.Test.YtngfnokbdcjoeaaGreatDoorCards
import Derived.Test.YtngfnokbdcjoeaaGreatDoorVatYVTextsCard
section
namespace Go.Proofs.YtngfnokbdcjoeaaGreatDoor.valueTexts
open Go.Lift Go.ChangeShapes Go.WideShapes Go.ChangeAt Go.RowKit
theorem params : Tryz.f7.params = #[25, 25] := by kernel_rfl
theorem witness_row (os : Os) {H : Type} (enc : TypeId × Value → H) :
  (OpenSpec.ofChange Rows.valueTextsSpec).preRow enc Tryz.prog Tryz.f7 Rows.valueTextsRow.domain false Rows.valueTextsRow.laid ((doorWorld os).forCall (fun _ _ => 0) ⟨#[], #[(.agg #[.int .i64 0, .int .i64 0, .string ⟨#[]⟩, .string ⟨#[]⟩, .slice none 0 0, .slice none 0 0] : Value), .agg #[.int .i64 0, .int .i64 0, .string ⟨#[]⟩, .string ⟨#[]⟩, .slice none 0 0, .slice none 0 0]], []⟩).memory #[(.agg #[.int .i64 0, .int .i64 0, .string ⟨#[]⟩, .string ⟨#[]⟩, .slice none 0 0, .slice none 0 0] : Value), .agg #[.int .i64 0, .int .i64 0, .string ⟨#[]⟩, .string ⟨#[]⟩, .slice none 0 0, .slice none 0 0]] := by
 have hw : (DataW.whole enc Tryz.prog ((doorWorld os).forCall (fun _ _ => 0) ⟨#[], #[(.agg #[.int .i64 0, .int .i64 0, .string ⟨#[]⟩, .string ⟨#[]⟩, .slice none 0 0, .slice none 0 0] : Value), .agg #[.int .i64 0, .int .i64 0, .string ⟨#[]⟩, .string ⟨#[]⟩, .slice none 0 0, .slice none 0 0]], []⟩).memory Tryz.f7.params.toList (OpenSpec.ofChange Rows.valueTextsSpec).vars false #[(.agg #[.int .i64 0, .int .i64 0, .string ⟨#[]⟩, .string ⟨#[]⟩, .slice none 0 0, .slice none 0 0] : Value), .agg #[.int .i64 0, .int .i64 0, .string ⟨#[]⟩, .string ⟨#[]⟩, .slice none 0 0, .slice none 0 0]].toList 8).map (fun x => (x.1, x.2.1)) =
   some ([.agg [.lit (.int .i64 0), .lit (.int .i64 0), .lit (.string []), .lit (.string []), .nil, .nil], .agg [.lit (.int .i64 0), .lit (.int .i64 0), .lit (.string []), .lit (.string []), .nil, .nil]], []) := by kernel_rfl
 obtain ⟨⟨x1, x2, x3⟩, hx, hx1⟩ := Option.map_eq_some_iff.1 hw
 simp only [Prod.mk.injEq] at hx1
 obtain ⟨rfl, rfl⟩ := hx1
 exact OpenSpec.preRow_of_cond 8 hx (by kernel_rfl) (fun k hk => by cases hk) (by kernel_rfl) (door_met os _)
theorem witness (os : Os) {H : Type} (enc : TypeId × Value → H) : ∃ (w : World) (tape : Tape) (i : Input), w.os = os ∧ (w.forCall tape i).Shaped Tryz.checked.prog ∧ i.vars = [] ∧ Input.okWide Tryz.checked.prog (w.forCall tape i) .any w.heap.size 7 i ∧
   (OpenSpec.ofChange Rows.valueTextsSpec).preRow enc Tryz.checked.prog Tryz.f7 Rows.valueTextsRow.domain false Rows.valueTextsRow.laid (w.forCall tape i).memory i.args ∧ ({} : Assume).holds Tryz.checked.prog (lone (Frame.enter Tryz.checked.prog 7 i.args .normal) [] (w.forCall tape i)) := by
 have hok : Input.okWideB Tryz.prog ((doorWorld os).forCall (fun _ _ => 0) ⟨#[], #[(.agg #[.int .i64 0, .int .i64 0, .string ⟨#[]⟩, .string ⟨#[]⟩, .slice none 0 0, .slice none 0 0] : Value), .agg #[.int .i64 0, .int .i64 0, .string ⟨#[]⟩, .string ⟨#[]⟩, .slice none 0 0, .slice none 0 0]], []⟩) 7 ⟨#[], #[(.agg #[.int .i64 0, .int .i64 0, .string ⟨#[]⟩, .string ⟨#[]⟩, .slice none 0 0, .slice none 0 0] : Value), .agg #[.int .i64 0, .int .i64 0, .string ⟨#[]⟩, .string ⟨#[]⟩, .slice none 0 0, .slice none 0 0]], []⟩ = true := by kernel_rfl
 refine ⟨doorWorld os, fun _ _ => 0, ⟨#[], #[(.agg #[.int .i64 0, .int .i64 0, .string ⟨#[]⟩, .string ⟨#[]⟩, .slice none 0 0, .slice none 0 0] : Value), .agg #[.int .i64 0, .int .i64 0, .string ⟨#[]⟩, .string ⟨#[]⟩, .slice none 0 0, .slice none 0 0]], []⟩, rfl, World.shaped_of_RefB (by kernel_rfl) (by kernel_rfl), rfl, (Input.okWide_of_okWideB hok).2, witness_row os enc, ?_⟩
 simp only [Assume.holds]
 exact ⟨by simp, by simp, (fun h => by cases h), by simp, by simp⟩
set_option maxRecDepth 100000 in
theorem lifted (os : Os) (started : os.Started) (H : Type) (enc : TypeId × Value → H) (F : Stop.Interp) :
  ReturnsInHanded {} Tryz.checked os 7 .any ((OpenSpec.ofChange Rows.valueTextsSpec).preRow enc Tryz.prog Tryz.f7 Rows.valueTextsRow.domain false Rows.valueTextsRow.laid) (((OpenSpec.ofChange Rows.valueTextsSpec).at F).post enc Tryz.prog Tryz.f7 false true false false) := by
 refine returnsInHanded_of_row (C := Tryz.checked) (s := OpenSpec.ofChange Rows.valueTextsSpec) own started (by kernel_rfl) Tryz.func7 (witness os enc) ?_
 intro W base args ds gs before hval0 hW _ _ hsz hL hS _
 have hval : ∀ (j : Nat) t v, Tryz.f7.params[j]? = some t → args[j]? = some v → Value.okWide Tryz.prog W .any base t v := hval0
 have hW' := hW
 obtain ⟨p, q, hA0, hV0, rfl, _, _⟩ := hW
 have hA : DataW.TrodAll enc Tryz.prog W 0 (fun _ => true) true Tryz.f7.params.toList args.toList ds p := hA0
 rw [params] at hA hsz
 obtain ⟨al0⟩ := args
 change DataW.TrodAll enc Tryz.prog W 0 (fun _ => true) true _ al0 ds p at hA
 obtain ⟨v0, al, d0, dl, p0, q0, rfl, rfl, _, h0, hA⟩ := trodAll_cons hA
 obtain ⟨v1, al, d1, dl, p1, q1, rfl, rfl, _, h1, hA⟩ := trodAll_cons hA
 obtain ⟨rfl, rfl⟩ := trodAll_nil hA
 obtain ⟨k0, z0, o0, n0, ns0, ps0, s0, rfl, hv0, ht0⟩ := open_valueT h0 (fun y hy => by
  have hy2 : y ∈ DataW.weights Tryz.checked.prog 25 d0 := hy
  have h1 := List.all_eq_true.1 hsz y (by simp [DataW.weightsEach, hy2])
  exact of_decide_eq_true h1)
 obtain ⟨k1, z1, o1, n1, ns1, ps1, s1, rfl, hv1, ht1⟩ := open_valueT h1 (fun y hy => by
  have hy2 : y ∈ DataW.weights Tryz.checked.prog 25 d1 := hy
  have h1 := List.all_eq_true.1 hsz y (by simp [DataW.weightsEach, hy2])
  exact of_decide_eq_true h1)
 obtain ⟨rfl, rfl⟩ := trodVars_none hV0
 refine (ValueTexts_ok (fun h => awake_ok h) (globs hL hS) hv0 ht0 hv1 ht1).mono ?_
 rintro e W' ⟨rfl, F1⟩
 exact ⟨_, rfl, post_true (s := Rows.valueTextsSpec) rfl hW' rfl kids full (by rw [params]; decide) F1 (tb := 4) (by kernel_rfl) (by kernel_rfl)⟩
theorem row_holds : Rows.ValueTextsSaid :=
 OpenClaim.holds_of_cond 7 Tryz.f7 rfl rfl rfl rfl rfl rfl rfl ⟨rfl, rfl, rfl, rfl, rfl⟩ rfl rfl rfl rfl rfl (by kernel_rfl) Tryz.func7 closed
  (of_decide_eq_true (by kernel_rfl)) (by unfold Func.isWrapper; rw [if_neg (of_decide_eq_false (by kernel_rfl))]; exact ⟨rfl, rfl⟩)
  (fun os started H enc _ F0 => by rw [OpenClaim.pre_eq_preRow]; exact lifted os started H enc F0)
end Go.Proofs.YtngfnokbdcjoeaaGreatDoor.valueTexts
end
section
namespace Go.Proofs.YtngfnokbdcjoeaaGreatDoor.valueTexts
open Go
theorem proved : Rows.ValueTextsCardSaid :=
 Claim7.holds_tied_plain_at .later [] [.data, .data, .data, .data, .sentinel, .sentinel, .pinned] true (true, "c833078518e75261bc0657e0ef1786af70f6b7084a0ab0d9452f5c6d4ac5a72d") true
  row_holds (fun _ h => by cases h) (by kernel_rfl) (fun _ h => by cases h) valueTexts_row_tie rfl ⟨rfl, rfl⟩ (by kernel_rfl) rfl
  (fun f fn hf hfn => by
   obtain rfl : f = 7 := Option.some.inj ((show Tryz.prog.funcNamed "pandect/pandectlaw29.ValueTexts" = some 7 by kernel_rfl).symm.trans hf) |>.symm
   obtain rfl : fn = Tryz.f7 := (Option.some.inj (Tryz.func7.symm.trans hfn)).symm
   exact ⟨by kernel_rfl, fun j t ht => by
    rw [params] at ht
    rcases j with _ | _ | j
    ·obtain rfl : t = 25 := by simpa using ht.symm
     exact (show Tryz.prog.wantsStandIn 25 = false by kernel_rfl)
    ·obtain rfl : t = 25 := by simpa using ht.symm
     exact (show Tryz.prog.wantsStandIn 25 = false by kernel_rfl)
    ·simp at ht⟩)
  (by kernel_rfl)
end Go.Proofs.YtngfnokbdcjoeaaGreatDoor.valueTexts
end
