/- The Replacer of a quoted text: Do, Replace. No condition. -/
import Derived.Test.YthnfcbjfmghomaaGreatDoorReplC
namespace Go.Proofs.YthnfcbjfmghomaaGreatDoor
open Go.Lift Go.Lex
def Used (w0 : World) (b : Nat) (w' : World) : Prop := ∃ m L base, Tab base w' m kset L ∧ Blk w' b 122 [.int .u32 1, .int .i32 0, .int .u32 0, .iface 164 (.pointer (some ⟨m, 0, none⟩)), .slice none 0 0] ∧ m ≠ b ∧ Fr (oneB b) w0 w'
section
variable {w : World}
theorem do_ok {b : Nat} {l : Sl} (B : Blk w b 122 [.int .u32 0, .int .i32 0, .int .u32 0, .nilIface, .slice l.a l.n l.c]) (hown : w.ownsRow 0 9 1 (.slice l.a l.n l.c) 8 (oldnew.map Value.string)) :
    Calls Tryz.prog 81 #[.pointer (some ⟨b, 0, none⟩), .func (.func 82) #[.pointer (some ⟨b, 0, none⟩)] #[]] w fun e w' => e = .returned (.tuple #[]) ∧ Used w b w' := by
  apply c81
  unfold t81
  refine nn_ok (callB_ok (b := false) (Y := fun w' => w' = w) (load_ok ⟨b, 0, none⟩ 0 w (B.cell rfl)) fun w1 hw => join_in (ite_yes rfl ?_))
  subst hw
  have B1 := B.set 1 (.int .i32 1)
  have F1 := fr_setCell w1 ⟨b, 1, none⟩ (.int .i32 1)
  have hown1 := own_fr hown F1 fun k hk e => own_ne hown B (by decide) k hk e.symm
  refine callU_ok (Y := Used w1 b) ((slow_ok (Q := BuiltQ (w1.setCell ⟨b, 1, none⟩ (.int .i32 1)) b 1) b 0 w1 (B.cell rfl) (B.cell rfl) (B.frozen _) (buildOnce_ok B1 hown1) fun w' ⟨m, L, base, T, B', hmb, F⟩ => ⟨B'.cell rfl, B'.cell rfl, B'.frozen _, B'.frozen _⟩).mono ?_) fun w' h => ⟨rfl, h⟩
  rintro e w' ⟨rfl, w2, ⟨m, L, base, T, B', hmb, F⟩, rfl⟩
  have Fd := fr_drew w2
  have B3 := B'.fr Fd (fun h => h)
  have B4 := B3.set 0 (.int .u32 1)
  have F4 := fr_setCell w2.drew ⟨b, 0, none⟩ (.int .u32 1)
  have B5 := B4.set 1 (.int .i32 0)
  have F5 := fr_setCell (w2.drew.setCell ⟨b, 0, none⟩ (.int .u32 1)) ⟨b, 1, none⟩ (.int .i32 0)
  refine ⟨rfl, m, L, base, ?_, B5, hmb, ((((F1 : Fr (oneB b) _ _).sq F).sq (Fd.mono fun _ _ h => h.elim)).sq F4).sq F5⟩
  exact (T.fr Fd).frS (Fr.sq (S := oneB b) F4 F5) hmb (fun g cs fz hg => cell_of_u8 hg B3 (by decide)) fun l hl k hk e => own_ne hl B3 (by decide) k hk e.symm
set_option maxRecDepth 100000 in
set_option maxHeartbeats 1600000 in
theorem replace_ok {b : Nat} {l : Sl} (B : Blk w b 122 [.int .u32 0, .int .i32 0, .int .u32 0, .nilIface, .slice l.a l.n l.c]) (hown : w.ownsRow 0 9 1 (.slice l.a l.n l.c) 8 (oldnew.map Value.string)) (s : ByteArray) (hs : s.size ≤ 1000000) :
    Calls Tryz.prog 58 #[.pointer (some ⟨b, 0, none⟩), .string s] w fun e w' => e = .returned (.string (bs ((bl s).flatMap quoteB))) ∧ Fr (oneB b) w w' := by
  have hmf : ∀ (fn : Fn) (first cap : Array Value) (w : World), (Instr.makeFunc fn first cap).run Tryz.prog w = .ok (.func fn first cap) w := fun _ _ _ _ => rfl
  have hdo := do_ok B hown
  have hme : ∀ (n : Nat) (a : Addr) (w : World), (method (n + 1) 164 (.pointer (some a)) "Replace").run Tryz.prog w = .ok (199, .pointer (some a)) w := fun _ _ _ => by kernel_rfl
  go_enter Tryz.func58, Tryz.ntmps58
  go_wp2_with (go_at_call 81; refine hdo.mono ?_; rintro e w1 ⟨rfl, m, L, base, T, B1, hmb, F1⟩; have c3 : w1.cell? ⟨b, 1 + 2, none⟩ = _ := B1.cell (o := 3) rfl; have c3' : w1.cell? ⟨b, 3, none⟩ = _ := B1.cell (o := 3) rfl)
  refine (rep_ok T s hs).mono ?_
  rintro e w2 ⟨rfl, F2⟩
  go_wp2
  go_ret
  exact ⟨rfl, F1.then F2 fun _ _ h => h.elim⟩
end
end Go.Proofs.YthnfcbjfmghomaaGreatDoor
