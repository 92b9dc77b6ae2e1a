/- awake; puts. -/
import Derived.Test.YtmklfedlifcoiaaDiskF
namespace Go.Lift
section
variable {P : Program} {R : Ending → World → Prop} {w : World} {f : FuncId} {args : Array Value} {Y : World → Prop}
theorem callI_ok {n : Int} (hc : Calls P f args w fun e w' => e = .returned (.int .i64 n) ∧ Y w') {k : Int → G} (h : ∀ w', Y w' → k n R w') : callG P f args [.one (.int .i64)] k R w :=
  call_ok hc fun _ w' ⟨he, hy⟩ => ⟨((n, ()), ()), he, h w' hy⟩
theorem callB_ok {b : Bool} (hc : Calls P f args w fun e w' => e = .returned (.bool b) ∧ Y w') {k : Bool → G} (h : ∀ w', Y w' → k b R w') : callG P f args [.one .bool] k R w :=
  call_ok hc fun _ w' ⟨he, hy⟩ => ⟨((b, ()), ()), he, h w' hy⟩
theorem callS_ok {s : ByteArray} (hc : Calls P f args w fun e w' => e = .returned (.string s) ∧ Y w') {k : ByteArray → G} (h : ∀ w', Y w' → k s R w') : callG P f args [.one .str] k R w :=
  call_ok hc fun _ w' ⟨he, hy⟩ => ⟨((s, ()), ()), he, h w' hy⟩
theorem callSI_ok {s : ByteArray} {n : Int} (hc : Calls P f args w fun e w' => e = .returned (.tuple #[.string s, .int .i64 n]) ∧ Y w') {k : ByteArray → Int → G} (h : ∀ w', Y w' → k s n R w') : callG P f args [.one .str, .one (.int .i64)] k R w :=
  call_ok hc fun _ w' ⟨he, hy⟩ => ⟨((s, ()), ((n, ()), ())), he, h w' hy⟩
theorem callPI_ok {A : Type} {q : A → Option Addr} {n : Int} {Y : A → World → Prop} (hc : Calls P f args w fun e w' => ∃ a, e = .returned (.tuple #[.pointer (q a), .int .i64 n]) ∧ Y a w') {k : Option Addr → Int → G} (h : ∀ a w', Y a w' → k (q a) n R w') : callG P f args [.one .ptr, .one (.int .i64)] k R w :=
  call_ok hc fun _ w' ⟨a, he, hy⟩ => ⟨((q a, ()), ((n, ()), ())), he, h a w' hy⟩
theorem callU_ok (hc : Calls P f args w fun e w' => e = .returned (.tuple #[]) ∧ Y w') {k : G} (h : ∀ w', Y w' → k R w') : callG P f args [] k R w :=
  call_ok hc fun _ w' ⟨he, hy⟩ => ⟨(), he, h w' hy⟩
end
end Go.Lift
namespace Go.Proofs.Ytmklfedlifcoiaa
open Go.Lift

theorem calls_and {f : FuncId} {args : Array Value} {w : World} {v : Ending} {Y : World → Prop} {S : Prop} (hc : Calls Try.prog f args w fun e w' => e = v ∧ Y w') (h : S) : Calls Try.prog f args w fun e w' => e = v ∧ (Y w' ∧ S) :=
  hc.mono fun _ _ ⟨a, b⟩ => ⟨a, b, h⟩
theorem Sep.sector {w0 w : World} {p : Nat} {d : DM} {X : (Nat → Prop) → World → Prop} (hX : Stable X) (O : Sep w0 w p d X) (s : ByteArray) :
    Calls Try.prog 13 #[.string s] w fun e w' => e = .returned (.string (pad s)) ∧ Sep w0 w' p d X :=
  (sector_ok s).mono fun _ _ ⟨h1, h2⟩ => ⟨h1, O.fr hX h2⟩

def xyz : ByteArray := ByteArray.mk #[120, 121, 122]
def xy : ByteArray := ByteArray.mk #[120, 121]
def aw1 : DM := ((DM.new 2).write 0 (pad xyz).data.toList).1
def aw2 : DM := aw1.dropped [] 1 2
def aw3 : DM := { aw2 with dead := false }

set_option maxRecDepth 100000 in
theorem awake_ok {w : World} : Calls Try.prog 9 #[] w fun e w' => e = .returned (.bool true) ∧ Fr noB w w' := by
  apply c9
  unfold t9
  refine callPI_ok (new_lone (Fr.refl noB w) 2 (by omega) (by omega)) fun p w1 O1 => ?_
  refine join1_ok (c := .bool) (fun (b : Bool) w' => b = false ∧ Sep w w' p aw3 Lone) (fun k hk => ?_) ?_
  · refine ite_no rfl (ite_no rfl ?_)
    refine callI_ok (O1.sectors stable_lone) fun w2 O2 => ?_
    refine ite_no rfl ?_
    refine callS_ok (O2.sector stable_lone xyz) fun w3 O3 => ?_
    refine callI_ok (O3.write stable_lone 0 (pad xyz) (by decide) (by decide)) fun w4 O4 => ?_
    refine ite_no (by kernel_rfl) ?_
    refine callI_ok (O4.crash stable_lone ⟨none, 0, 0⟩ [] 1 2 ⟨rfl, fun h => absurd rfl h⟩ (fun h => absurd rfl h)) fun w5 O5 => ?_
    refine ite_no (by kernel_rfl) ?_
    have O5 : Sep w w5 p aw2 Lone := O5
    refine callB_ok (O5.dead stable_lone) fun w6 O6 => ?_
    refine ite_no (by kernel_rfl) ?_
    exact callI_ok (O6.boot stable_lone) fun w7 O7 => hk _ _ ⟨by rfl, O7⟩
  · rintro _ w8 ⟨rfl, O8⟩
    refine ite_no rfl ?_
    refine callSI_ok (O8.read stable_lone 0) fun w9 O9 => ?_
    refine join1_ok (c := .bool) (fun (b : Bool) w' => b = true ∧ Fr noB w w') (fun k hk => ?_) ?_
    · refine callS_ok (O9.sector stable_lone xy) fun w10 O10 => ?_
      refine ite_yes (by kernel_rfl) (ite_yes (by kernel_rfl) ?_)
      refine callI_ok (O10.opsN stable_lone) fun w11 O11 => ?_
      refine ite_yes (by kernel_rfl) ?_
      refine callI_ok (O11.write stable_lone 2 _ (by decide) (by decide)) fun w12 O12 => ?_
      exact hk _ _ ⟨by kernel_rfl, O12.fr0⟩
    · rintro _ w13 ⟨rfl, F⟩
      exact ⟨rfl, F⟩
end Go.Proofs.Ytmklfedlifcoiaa
