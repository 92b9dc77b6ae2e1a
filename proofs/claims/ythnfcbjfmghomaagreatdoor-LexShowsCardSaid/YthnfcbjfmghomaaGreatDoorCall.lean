/- Calls by their contracts. No condition. -/
import Derived.Test.YthnfcbjfmghomaaGreatDoorOwn
namespace Go.Lift
section
variable {P : Program} {R : Ending → World → Prop} {w : World} {f : FuncId} {args : Array Value} {Y : World → Prop}
theorem callI_ok {n : Int} (hc : Calls P f args w fun e w' => e = .returned (.int .i64 n) ∧ Y w') {k : Int → G} (h : ∀ w', Y w' → k n R w') : callG P f args [.one (.int .i64)] k R w :=
  call_ok hc fun _ w' ⟨he, hy⟩ => ⟨((n, ()), ()), he, h w' hy⟩
theorem callB_ok {b : Bool} (hc : Calls P f args w fun e w' => e = .returned (.bool b) ∧ Y w') {k : Bool → G} (h : ∀ w', Y w' → k b R w') : callG P f args [.one .bool] k R w :=
  call_ok hc fun _ w' ⟨he, hy⟩ => ⟨((b, ()), ()), he, h w' hy⟩
theorem callS_ok {s : ByteArray} (hc : Calls P f args w fun e w' => e = .returned (.string s) ∧ Y w') {k : ByteArray → G} (h : ∀ w', Y w' → k s R w') : callG P f args [.one .str] k R w :=
  call_ok hc fun _ w' ⟨he, hy⟩ => ⟨((s, ()), ()), he, h w' hy⟩
theorem callSI_ok {s : ByteArray} {n : Int} (hc : Calls P f args w fun e w' => e = .returned (.tuple #[.string s, .int .i64 n]) ∧ Y w') {k : ByteArray → Int → G} (h : ∀ w', Y w' → k s n R w') : callG P f args [.one .str, .one (.int .i64)] k R w :=
  call_ok hc fun _ w' ⟨he, hy⟩ => ⟨((s, ()), ((n, ()), ())), he, h w' hy⟩
theorem callPI_ok {A : Type} {q : A → Option Addr} {n : Int} {Y : A → World → Prop} (hc : Calls P f args w fun e w' => ∃ a, e = .returned (.tuple #[.pointer (q a), .int .i64 n]) ∧ Y a w') {k : Option Addr → Int → G} (h : ∀ a w', Y a w' → k (q a) n R w') : callG P f args [.one .ptr, .one (.int .i64)] k R w :=
  call_ok hc fun _ w' ⟨a, he, hy⟩ => ⟨((q a, ()), ((n, ()), ())), he, h a w' hy⟩
theorem callU_ok (hc : Calls P f args w fun e w' => e = .returned (.tuple #[]) ∧ Y w') {k : G} (h : ∀ w', Y w' → k R w') : callG P f args [] k R w :=
  call_ok hc fun _ w' ⟨he, hy⟩ => ⟨(), he, h w' hy⟩
end
end Go.Lift
