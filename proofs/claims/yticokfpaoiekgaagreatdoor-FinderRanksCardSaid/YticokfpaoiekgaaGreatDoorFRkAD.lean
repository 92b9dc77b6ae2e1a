/- The finder law behind FRanksCard: one part of its proof (joined by program out of my own texts). No condition. -/
import Derived.Test.YticokfpaoiekgaaGreatDoorFRkAC
import Derived.Test.YticokfpaoiekgaaGreatDoorProg
section
set_option maxRecDepth 100000
namespace Go.Proofs.YticokfpaoiekgaaGreatDoor
open Go.Lift
theorem mixed : Tryz.prog.follows .mixedOrders = true := by kernel_rfl
def t53 : Sl → G :=
 fun (l0 : Sl) => joinG []
 (fun k1 => loopG [(.one (.int .i64))]
 (fun k2 => fun (n3 : Int) => iteG (Decidable.decide (n3 < (↑l0.n : Int)))
 (joinG []
 (fun k4 => idxG l0.a l0.n n3 1
 (fun (a5 : Addr) => ldG (.int .i64) a5
 (fun (n6 : Int) => iteG (n6 != (0 : Int))
 (retG (.int .i64 n6))
 (k4))))
 (k2 (IntKind.wrap IntKind.i64 (n3 + (1 : Int)))))
 (k1)) (0 : Int))
 (retG (.int .i64 (0 : Int)))
theorem e53 : denF Tryz.prog (GA Tryz.prog) Tryz.f53 [(VT.one CT.slice)] (.seq .leaf (.seq .leaf (.seq (.seq .leaf (.block (sl Tryz.prog []) (.loop (sl Tryz.prog [(8, 3)]) (.seq .leaf (.seq .leaf (.seq (.block (sl Tryz.prog []) .leaf) .leaf)))))) .leaf))) = t53 := by kernel_rfl
theorem c53 (x0 : Sl) {R : Ending → World → Prop} {w : World} (h : t53 x0 R w) : Calls Tryz.prog 53 #[.slice x0.a x0.n x0.c] w R :=
  lift mixed Tryz.func53 e53 rfl ((x0, ()), ()) R w h
def t54 : Int → Int → G :=
 fun (n0 : Int) => fun (n1 : Int) => callG Tryz.prog 84 #[(.int .i64 n0)] [(.one .bool)]
 (fun (b2 : Bool) => callG Tryz.prog 84 #[(.int .i64 n1)] [(.one .bool)]
 (fun (b3 : Bool) => iteG b2
 (iteG b3
 (retG (.int .i64 (0 : Int)))
 (retG (.int .i64 (-1 : Int))))
 (iteG b3
 (retG (.int .i64 (1 : Int)))
 (iteG (Decidable.decide (n0 < n1))
 (retG (.int .i64 (-1 : Int)))
 (iteG (Decidable.decide (n0 > n1))
 (retG (.int .i64 (1 : Int)))
 (retG (.int .i64 (0 : Int))))))))
theorem e54 : denF Tryz.prog (GA Tryz.prog) Tryz.f54 [(VT.one (CT.int IntKind.i64)), (VT.one (CT.int IntKind.i64))] .leaf = t54 := by kernel_rfl
theorem c54 (x0 : Int) (x1 : Int) {R : Ending → World → Prop} {w : World} (h : t54 x0 x1 R w) : Calls Tryz.prog 54 #[.int .i64 x0, .int .i64 x1] w R :=
  lift mixed Tryz.func54 e54 rfl ((x0, ()), (x1, ()), ()) R w h
def t55 : ByteArray → ByteArray → G :=
 fun (s0 : ByteArray) => fun (s1 : ByteArray) => callG Tryz.prog 85 #[(.string s0)] [(.one .bool)]
 (fun (b2 : Bool) => callG Tryz.prog 85 #[(.string s1)] [(.one .bool)]
 (fun (b3 : Bool) => iteG b2
 (iteG b3
 (retG (.int .i64 (0 : Int)))
 (retG (.int .i64 (-1 : Int))))
 (iteG b3
 (retG (.int .i64 (1 : Int)))
 (iteG (Op.bytesLess (ByteArray.toList s0) (ByteArray.toList s1))
 (retG (.int .i64 (-1 : Int)))
 (iteG (!(Op.bytesLess (ByteArray.toList s0) (ByteArray.toList s1) || ByteArray.toList s0 == ByteArray.toList s1))
 (retG (.int .i64 (1 : Int)))
 (retG (.int .i64 (0 : Int))))))))
theorem e55 : denF Tryz.prog (GA Tryz.prog) Tryz.f55 [(VT.one CT.str), (VT.one CT.str)] .leaf = t55 := by kernel_rfl
theorem c55 (x0 : ByteArray) (x1 : ByteArray) {R : Ending → World → Prop} {w : World} (h : t55 x0 x1 R w) : Calls Tryz.prog 55 #[.string x0, .string x1] w R :=
  lift mixed Tryz.func55 e55 rfl ((x0, ()), (x1, ()), ()) R w h
def t67 : Sl → Sl → G :=
 fun (l0 : Sl) => fun (l1 : Sl) => iteG ((↑l0.n : Int) != (↑l1.n : Int))
 (retG (.bool false))
 (joinG []
 (fun k2 => loopG [(.one (.int .i64))]
 (fun k3 => fun (n4 : Int) => iteG (Decidable.decide (n4 < (↑l0.n : Int)))
 (joinG []
 (fun k5 => drewG
 (idxG l0.a l0.n n4 1
 (fun (a6 : Addr) => ldG .str a6
 (fun (s7 : ByteArray) => idxG l1.a l1.n n4 1
 (fun (a8 : Addr) => ldG .str a8
 (fun (s9 : ByteArray) => iteG (!ByteArray.toList s7 == ByteArray.toList s9)
 (retG (.bool false))
 (k5)))))))
 (k3 (IntKind.wrap IntKind.i64 (n4 + (1 : Int)))))
 (k2)) (0 : Int))
 (retG (.bool true)))
theorem e67 : denF Tryz.prog (GA Tryz.prog) Tryz.f67 [(VT.one CT.slice), (VT.one CT.slice)] (.seq .leaf (.seq .leaf (.seq (.seq .leaf (.block (sl Tryz.prog []) (.loop (sl Tryz.prog [(13, 3)]) (.seq .leaf (.seq .leaf (.seq (.block (sl Tryz.prog []) .leaf) .leaf)))))) .leaf))) = t67 := by kernel_rfl
theorem c67 (x0 : Sl) (x1 : Sl) {R : Ending → World → Prop} {w : World} (h : t67 x0 x1 R w) : Calls Tryz.prog 67 #[.slice x0.a x0.n x0.c, .slice x1.a x1.n x1.c] w R :=
  lift mixed Tryz.func67 e67 rfl ((x0, ()), (x1, ()), ()) R w h
def t74 : Sl → Value → G :=
 fun (l0 : Sl) => fun (v1 : Value) => callG Tryz.prog 100 #[(.slice l0.a l0.n l0.c), v1] [(.one (.int .i64))]
 (fun (n2 : Int) => retG (.bool (Decidable.decide (n2 ≥ (0 : Int)))))
theorem e74 : denF Tryz.prog (GA Tryz.prog) Tryz.f74 [(VT.one CT.slice), (VT.one CT.any)] .leaf = t74 := by kernel_rfl
theorem c74 (x0 : Sl) (x1 : Value) {R : Ending → World → Prop} {w : World} (h : t74 x0 x1 R w) : Calls Tryz.prog 74 #[.slice x0.a x0.n x0.c, x1] w R :=
  lift mixed Tryz.func74 e74 rfl ((x0, ()), (x1, ()), ()) R w h
def t84 : Int → G :=
 fun (n0 : Int) => retG (.bool (n0 != n0))
theorem e84 : denF Tryz.prog (GA Tryz.prog) Tryz.f84 [(VT.one (CT.int IntKind.i64))] .leaf = t84 := by kernel_rfl
theorem c84 (x0 : Int) {R : Ending → World → Prop} {w : World} (h : t84 x0 R w) : Calls Tryz.prog 84 #[.int .i64 x0] w R :=
  lift mixed Tryz.func84 e84 rfl ((x0, ()), ()) R w h
def t85 : ByteArray → G :=
 fun (s0 : ByteArray) => retG (.bool (!ByteArray.toList s0 == ByteArray.toList s0))
theorem e85 : denF Tryz.prog (GA Tryz.prog) Tryz.f85 [(VT.one CT.str)] .leaf = t85 := by kernel_rfl
theorem c85 (x0 : ByteArray) {R : Ending → World → Prop} {w : World} (h : t85 x0 R w) : Calls Tryz.prog 85 #[.string x0] w R :=
  lift mixed Tryz.func85 e85 rfl ((x0, ()), ()) R w h
def t99 : Sl → ByteArray → G :=
 fun (l0 : Sl) => fun (s1 : ByteArray) => joinG []
 (fun k2 => loopG [(.one (.int .i64))]
 (fun k3 => fun (n4 : Int) => iteG (Decidable.decide (n4 < (↑l0.n : Int)))
 (joinG []
 (fun k5 => idxG l0.a l0.n n4 1
 (fun (a6 : Addr) => ldG .str a6
 (fun (s7 : ByteArray) => iteG (ByteArray.toList s1 == ByteArray.toList s7)
 (retG (.int .i64 n4))
 (k5))))
 (k3 (IntKind.wrap IntKind.i64 (n4 + (1 : Int)))))
 (k2)) (0 : Int))
 (retG (.int .i64 (-1 : Int)))
theorem e99 : denF Tryz.prog (GA Tryz.prog) Tryz.f99 [(VT.one CT.slice), (VT.one CT.str)] (.seq .leaf (.seq (.seq .leaf (.block (sl Tryz.prog []) (.loop (sl Tryz.prog [(8, 3)]) (.seq .leaf (.seq .leaf (.seq (.block (sl Tryz.prog []) .leaf) .leaf)))))) .leaf)) = t99 := by kernel_rfl
theorem c99 (x0 : Sl) (x1 : ByteArray) {R : Ending → World → Prop} {w : World} (h : t99 x0 x1 R w) : Calls Tryz.prog 99 #[.slice x0.a x0.n x0.c, .string x1] w R :=
  lift mixed Tryz.func99 e99 rfl ((x0, ()), (x1, ()), ()) R w h
def t100 : Sl → Value → G :=
 fun (l0 : Sl) => fun (v1 : Value) => joinG []
 (fun k2 => loopG [(.one (.int .i64))]
 (fun k3 => fun (n4 : Int) => iteG (Decidable.decide (n4 < (↑l0.n : Int)))
 (joinG []
 (fun k5 => idxG l0.a l0.n n4 1
 (fun (a6 : Addr) => ldG .str a6
 (fun (s7 : ByteArray) => callVG Tryz.prog v1 #[(.string s7)] [(.one .bool)]
 (fun (b8 : Bool) => iteG b8
 (retG (.int .i64 n4))
 (k5)))))
 (k3 (IntKind.wrap IntKind.i64 (n4 + (1 : Int)))))
 (k2)) (0 : Int))
 (retG (.int .i64 (-1 : Int)))
theorem e100 : denF Tryz.prog (GA Tryz.prog) Tryz.f100 [(VT.one CT.slice), (VT.one CT.any)] (.seq .leaf (.seq (.seq .leaf (.block (sl Tryz.prog []) (.loop (sl Tryz.prog [(8, 3)]) (.seq .leaf (.seq .leaf (.seq (.block (sl Tryz.prog []) .leaf) .leaf)))))) .leaf)) = t100 := by kernel_rfl
theorem c100 (x0 : Sl) (x1 : Value) {R : Ending → World → Prop} {w : World} (h : t100 x0 x1 R w) : Calls Tryz.prog 100 #[.slice x0.a x0.n x0.c, x1] w R :=
  lift mixed Tryz.func100 e100 rfl ((x0, ()), (x1, ()), ()) R w h
def t204 : Sl → ByteArray → G :=
 fun (l0 : Sl) => fun (s1 : ByteArray) => callG Tryz.prog 99 #[(.slice l0.a l0.n l0.c), (.string s1)] [(.one (.int .i64))]
 (fun (n2 : Int) => retG (.bool (Decidable.decide (n2 ≥ (0 : Int)))))
theorem e204 : denF Tryz.prog (GA Tryz.prog) Tryz.f204 [(VT.one CT.slice), (VT.one CT.str)] .leaf = t204 := by kernel_rfl
theorem c204 (x0 : Sl) (x1 : ByteArray) {R : Ending → World → Prop} {w : World} (h : t204 x0 x1 R w) : Calls Tryz.prog 204 #[.slice x0.a x0.n x0.c, .string x1] w R :=
  lift mixed Tryz.func204 e204 rfl ((x0, ()), (x1, ()), ()) R w h
def t212 : ByteArray → ByteArray → G :=
 fun (s0 : ByteArray) => fun (s1 : ByteArray) => joinG [(.one .bool)]
 (fun k2 => callG Tryz.prog 85 #[(.string s0)] [(.one .bool)]
 (fun (b3 : Bool) => iteG b3
 (callG Tryz.prog 85 #[(.string s1)] [(.one .bool)]
 (fun (b4 : Bool) => iteG (!b4)
 (k2 true)
 (k2 (Op.bytesLess (ByteArray.toList s0) (ByteArray.toList s1)))))
 (k2 (Op.bytesLess (ByteArray.toList s0) (ByteArray.toList s1)))))
 (fun (b5 : Bool) => retG (.bool b5))
end Go.Proofs.YticokfpaoiekgaaGreatDoor
end
