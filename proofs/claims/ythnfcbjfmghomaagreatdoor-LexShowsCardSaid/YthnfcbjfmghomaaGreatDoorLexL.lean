/- A token written. No condition. -/
import Derived.Test.YthnfcbjfmghomaaGreatDoorReplD
import Derived.Test.YthnfcbjfmghomaaGreatDoorLexK
import Derived.Test.YthnfcbjfmghomaaGreatDoorShow
namespace Go.Proofs.YthnfcbjfmghomaaGreatDoor
open Go.Lift Go.Lex
section
variable {w : World}
theorem shown_ok (k : Int) (t : ByteArray) (x : Int) (ht : t.size ≤ 1000000) : Calls Tryz.prog 39 #[.agg #[.int .i64 k, .string t, .int .i64 x]] w fun e w' => e = .returned (.string (bs (Lex.written k (bl t)))) ∧ Fr noB w w' := by
  have htl := bl_length t
  have hql := quote_len (bl t)
  have hcp : (bl t).countP isKey ≤ (bl t).length := List.countP_le_length
  apply c39
  unfold t39
  refine new_ok fun w1 m3 hm3 hs1 B1 F1 => B1.ld (c := .int .i64) (x := k) (o := 0) rfl (ite_ok (fun h => B1.ld (c := .str) (x := t) (o := 1) rfl ⟨?_, F1⟩) fun h => ?_)
  · have h : ¬ k = 4 := by simpa using h
    unfold Lex.written
    rw [if_neg h, bs_bl]
  have h : k = 4 := by simpa using h
  refine drew_ok fun w2 F2 z2 => (B1.fr F2 (fun h => h)).ld (c := .str) (x := t) (o := 1) rfl (new_ok fun w3 m7 hm7 hs3 B7 F3 => ?_)
  have B13 := (B1.fr F2 (fun h => h)).fr F3 (fun h => h)
  refine keep_cons (B13.held1 (o := 1) rfl) (keep_nil (call_ok (newRepl_ok (m7 := m7) B7) ?_))
  rintro _ w4 ⟨b, l, rfl, B4, hown, F4, hb⟩
  refine ⟨((some ⟨b, 0, none⟩, ()), ()), rfl, ?_⟩
  have B14 := B13.fr F4 (fun h => h)
  refine keep_cons (B14.held1 (o := 1) rfl) (keep_nil (callS_ok (replace_ok B4 hown t ht) fun w5 F5 => ?_))
  have hrs := bs_size ((bl t).flatMap quoteB)
  refine cat_ok (by rw [hrs]; show 1 + _ ≤ _; omega) (cat_ok (by rw [ByteArray.size_append, hrs]; show 1 + _ + 1 ≤ _; omega) ⟨?_, ?_⟩)
  · unfold Lex.written
    rw [if_pos h]
    congr 2
  · refine (((F1.tr F2).tr F3).tr F4).then F5 fun y hy h => ?_
    have := F1.size
    have := F2.size
    have := F3.size
    unfold oneB at h
    omega
end
end Go.Proofs.YthnfcbjfmghomaaGreatDoor
