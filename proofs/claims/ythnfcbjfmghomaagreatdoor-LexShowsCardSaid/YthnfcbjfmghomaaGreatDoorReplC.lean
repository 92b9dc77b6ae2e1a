/- The Replacer of a quoted text: made, built once, used. No condition. -/
import Derived.Test.YthnfcbjfmghomaaGreatDoorReplB
namespace Go.Lift
theorem callA_ok {P : Program} {R : Ending → World → Prop} {w : World} {f : FuncId} {args : Array Value} {A : Type} {v : A → Value} {Y : A → World → Prop} (hc : Calls P f args w fun e w' => ∃ a, e = .returned (v a) ∧ Y a w') (_ : ∀ a, CT.any.val (v a) = v a) {k : Value → G} (h : ∀ a w', Y a w' → k (v a) R w') : callG P f args [.one .any] k R w :=
  call_ok hc fun _ w' ⟨a, he, hy⟩ => ⟨((v a, ()), ()), he, h a w' hy⟩
end Go.Lift
namespace Go.Proofs.YthnfcbjfmghomaaGreatDoor
open Go.Lift Go.Lex
section
variable {w : World}
theorem newRepl_ok {m7 : Nat} (B : Blk w m7 9 (oldnew.map Value.string)) : Calls Tryz.prog 57 #[.slice (some ⟨m7, 0, none⟩) 8 8] w fun e w' =>
    ∃ (b : Nat) (l : Sl), e = .returned (.pointer (some ⟨b, 0, none⟩)) ∧ Blk w' b 122 [.int .u32 0, .int .i32 0, .int .u32 0, .nilIface, .slice l.a l.n l.c] ∧ w'.ownsRow 0 9 1 (.slice l.a l.n l.c) 8 (oldnew.map Value.string) ∧ Fr noB w w' ∧ w.heap.size ≤ b := by
  refine c57 ⟨some ⟨m7, 0, none⟩, 8, 8⟩ ?_
  unfold t57
  refine join_in (ite_no (show (((8 : Nat) : Int).tmod 2 == 1) = false by decide) ?_)
  obtain ⟨ti, z, hi, hz0, h1, h2, h3⟩ := rStr
  refine appendC_ok (base := w.heap.size) uStrs hi hz0 h1 h2 (by rw [h3]; rfl) (by omega) (s := ⟨none, 0, 0⟩) (n := 0) (xs := []) ⟨rfl, .inl ⟨rfl, rfl⟩⟩ (m := 8) (news := oldnew.map Value.string) rfl (B.held fun j v hj => by rw [Nat.zero_add]; exact hj)
    (fun u hu => by simp only [List.mem_map] at hu; obtain ⟨y, _, rfl⟩ := hu; rfl) (by unfold maxLen; omega) (by omega) (Nat.le_refl _) fun l2 w2 hown2 F2 => new_ok fun w3 b hb hs3 B3 F3 => ?_
  have F2' : Fr noB w w2 := F2.mono fun _ _ h => by cases h
  exact ⟨b, l2, rfl, B3, own_base (own_fr0 hown2 F3), F2'.tr F3, by have := F2.size; omega⟩

def BuiltQ (w0 : World) (b : Nat) (x : Int) (w' : World) : Prop := ∃ m L base, Tab base w' m kset L ∧ Blk w' b 122 [.int .u32 0, .int .i32 x, .int .u32 0, .iface 164 (.pointer (some ⟨m, 0, none⟩)), .slice none 0 0] ∧ m ≠ b ∧ Fr (oneB b) w0 w'
theorem buildOnce_ok {b : Nat} {l : Sl} {x : Int} (B : Blk w b 122 [.int .u32 0, .int .i32 x, .int .u32 0, .nilIface, .slice l.a l.n l.c]) (hown : w.ownsRow 0 9 1 (.slice l.a l.n l.c) 8 (oldnew.map Value.string)) :
    Calls Tryz.prog 82 #[.pointer (some ⟨b, 0, none⟩)] w fun e w' => e = .returned (.tuple #[]) ∧ BuiltQ w b x w' := by
  apply c82
  unfold t82
  refine callA_ok (v := fun m : Nat => Value.iface 164 (.pointer (some ⟨m, 0, none⟩))) (Y := fun m w' => ∃ L, Tab w.heap.size w' m kset L ∧ w.heap.size ≤ m ∧ Fr noB w w') ((build_ok B hown).mono fun e w' ⟨m, L, he, h⟩ => ⟨m, he, L, h⟩) (fun _ => rfl) fun m w1 ⟨L, T1, hm, F1⟩ => ?_
  have B1 := B.fr F1 (fun h => h)
  have hbw := B.lt
  have hmb : m ≠ b := by omega
  refine nn_ok (B1.st (o := 3) rfl (by simp) fun w2 B2 F2 => nn_ok (B2.st (o := 4) rfl (by simp) fun w3 B3 F3 => ⟨rfl, m, L, w.heap.size, ?_, B3, hmb, (F1.mono fun _ _ h => h.elim).sq (F2.sq F3)⟩))
  exact T1.frS (F2.sq F3) hmb (fun g cs fz hg => cell_of_u8 hg B1 (by decide)) fun l hl k hk e => own_ne hl B1 (by decide) k hk e.symm
end
end Go.Proofs.YthnfcbjfmghomaaGreatDoor
