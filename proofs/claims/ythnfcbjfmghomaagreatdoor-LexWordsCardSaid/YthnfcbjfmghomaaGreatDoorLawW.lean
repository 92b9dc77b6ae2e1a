/- LexWords: the walk. No condition. -/
import Derived.Test.YthnfcbjfmghomaaGreatDoorLexO
namespace Go.Proofs.YthnfcbjfmghomaaGreatDoor
open Go.Lift Go.Lex
theorem LexWords_ok {w : World} (s : ByteArray) (hs : s.size < 4611686018427387904) (hg : Glob w) : AnsB 3 #[.string s] w true := by
  apply c3
  unfold t3
  refine join1_ok (c := .bool) (fun (b : Bool) w' => b = true ∧ Fr noB w w') (fun k hk => ?_) (fun b w' h => done_b h)
  refine callB_ok (Word_ok s) fun w1 F1 => callB_ok (rWord_ok s) fun w2 F2 => ite_yes (beq_self_eq_true _) ?_
  refine callB_ok (Sign_ok s) fun w3 F3 => callB_ok (rSign_ok s) fun w4 F4 => ite_yes (beq_self_eq_true _) ?_
  refine callB_ok (Name_ok s hs) fun w5 F5 => callB_ok (rName_ok s hs) fun w6 F6 => ite_yes (beq_self_eq_true _) ?_
  refine callB_ok (Upper_ok s hs) fun w7 F7 => callB_ok (rUpper_ok s hs) fun w8 F8 => ite_yes (beq_self_eq_true _) ?_
  have F := ((((((F1.tr F2).tr F3).tr F4).tr F5).tr F6).tr F7).tr F8
  exact callB_ok (awake_ok (hg.fr F)) fun w9 F9 => hk _ _ ⟨rfl, F.tr F9⟩
end Go.Proofs.YthnfcbjfmghomaaGreatDoor
