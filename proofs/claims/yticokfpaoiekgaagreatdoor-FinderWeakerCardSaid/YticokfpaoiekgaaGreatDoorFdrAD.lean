/- The law behind: one part of its proof (joined by program out of my own texts). No condition. -/
import Derived.Test.YticokfpaoiekgaaGreatDoorFdrAC
import Derived.Test.YticokfpaoiekgaaGreatDoorProg
section
set_option maxRecDepth 100000
namespace Go.Proofs.YticokfpaoiekgaaGreatDoor
open Go.Lift
variable {R : Ending → World → Prop} {w : World}
theorem mixed : Tryz.prog.follows .mixedOrders = true := by kernel_rfl
def t53 : Sl → G := fun l0 => jn0Z (fun k1 => lpIZ (fun k2 n3 => iteG (decide (n3 < (l0.n : Int))) (jn0Z (fun k4 => ixZ l0 n3 1 fun a5 => ldIZ a5 fun n6 => iteG (n6 != 0) (retG (ivZ n6)) k4) (k2 (wrZ (n3 + 1)))) k1) 0) (retG (ivZ 0))
theorem e53 : denF Tryz.prog (GA Tryz.prog) Tryz.f53 [(.one .slice)] (.seq .leaf (.seq .leaf (.seq (.seq .leaf (.block (sl Tryz.prog []) (.loop (sl Tryz.prog [(8, 3)]) (.seq .leaf (.seq .leaf (.seq (.block (sl Tryz.prog []) .leaf) .leaf)))))) .leaf))) = t53 := by kernel_rfl
theorem c53 (x0 : Sl) (h : t53 x0 R w) : Calls Tryz.prog 53 #[.slice x0.a x0.n x0.c] w R := lift mixed Tryz.func53 e53 rfl ((x0, ()), ()) R w h
def t54 : Int → Int → G := fun n0 n1 => caBZ 84 #[ivZ n0] fun b2 => caBZ 84 #[ivZ n1] fun b3 => iteG b2 (iteG b3 (retG (ivZ 0)) (retG (ivZ (-1 : Int)))) (iteG b3 (retG (ivZ 1)) (iteG (decide (n0 < n1)) (retG (ivZ (-1 : Int))) (iteG (decide
 (n0 > n1)) (retG (ivZ 1)) (retG (ivZ 0)))))
theorem e54 : denF Tryz.prog (GA Tryz.prog) Tryz.f54 [(.one (.int .i64)), (.one (.int .i64))] .leaf = t54 := by kernel_rfl
theorem c54 (x0 : Int)(x1 : Int) (h : t54 x0 x1 R w) : Calls Tryz.prog 54 #[.int .i64 x0, .int .i64 x1] w R := lift mixed Tryz.func54 e54 rfl ((x0, ()), (x1, ()), ()) R w h
def t55 : ByteArray → ByteArray → G := fun s0 s1 => caBZ 85 #[tvZ s0] fun b2 => caBZ 85 #[tvZ s1] fun b3 => iteG b2 (iteG b3 (retG (ivZ 0)) (retG (ivZ (-1 : Int)))) (iteG b3 (retG (ivZ 1)) (iteG (Op.bytesLess (s0.toList) (s1.toList)) (retG
 (ivZ (-1 : Int))) (iteG (!(Op.bytesLess (s0.toList) (s1.toList) || s0.toList == s1.toList)) (retG (ivZ 1)) (retG (ivZ 0)))))
theorem e55 : denF Tryz.prog (GA Tryz.prog) Tryz.f55 [(.one .str), (.one .str)] .leaf = t55 := by kernel_rfl
theorem c55 (x0 : ByteArray)(x1 : ByteArray) (h : t55 x0 x1 R w) : Calls Tryz.prog 55 #[.string x0, .string x1] w R := lift mixed Tryz.func55 e55 rfl ((x0, ()), (x1, ()), ()) R w h
def t67 : Sl → Sl → G := fun l0 l1 => iteG ((l0.n : Int) != (l1.n : Int)) (retG (.bool false)) (jn0Z (fun k2 => lpIZ (fun k3 n4 => iteG (decide (n4 < (l0.n : Int))) (jn0Z (fun k5 => drewG (ixZ l0 n4 1 fun a6 => ldSZ a6 fun s7 => ixZ l1 n4 1
 fun a8 => ldSZ a8 fun s9 => iteG (!s7.toList == s9.toList) (retG (.bool false)) k5)) (k3 (wrZ (n4 + 1)))) k2) 0) (retG (.bool true)))
theorem e67 : denF Tryz.prog (GA Tryz.prog) Tryz.f67 [(.one .slice), (.one .slice)] (.seq .leaf (.seq .leaf (.seq (.seq .leaf (.block (sl Tryz.prog []) (.loop (sl Tryz.prog [(13, 3)]) (.seq .leaf (.seq .leaf (.seq (.block (sl Tryz.prog []) .leaf) .leaf)))))) .leaf))) = t67 := by kernel_rfl
theorem c67 (x0 : Sl)(x1 : Sl) (h : t67 x0 x1 R w) : Calls Tryz.prog 67 #[.slice x0.a x0.n x0.c, .slice x1.a x1.n x1.c] w R := lift mixed Tryz.func67 e67 rfl ((x0, ()), (x1, ()), ()) R w h
def t74 : Sl → Value → G := fun l0 v1 => caIZ 100 #[svZ l0, v1] fun n2 => retG (.bool (decide (n2 ≥ 0)))
theorem e74 : denF Tryz.prog (GA Tryz.prog) Tryz.f74 [(.one .slice), (.one .any)] .leaf = t74 := by kernel_rfl
theorem c74 (x0 : Sl)(x1 : Value) (h : t74 x0 x1 R w) : Calls Tryz.prog 74 #[.slice x0.a x0.n x0.c, x1] w R := lift mixed Tryz.func74 e74 rfl ((x0, ()), (x1, ()), ()) R w h
def t84 : Int → G := fun n0 => retG (.bool (n0 != n0))
theorem e84 : denF Tryz.prog (GA Tryz.prog) Tryz.f84 [(.one (.int .i64))] .leaf = t84 := by kernel_rfl
theorem c84 (x0 : Int) (h : t84 x0 R w) : Calls Tryz.prog 84 #[.int .i64 x0] w R := lift mixed Tryz.func84 e84 rfl ((x0, ()), ()) R w h
def t85 : ByteArray → G := fun s0 => retG (.bool (!s0.toList == s0.toList))
theorem e85 : denF Tryz.prog (GA Tryz.prog) Tryz.f85 [(.one .str)] .leaf = t85 := by kernel_rfl
theorem c85 (x0 : ByteArray) (h : t85 x0 R w) : Calls Tryz.prog 85 #[.string x0] w R := lift mixed Tryz.func85 e85 rfl ((x0, ()), ()) R w h
def t99 : Sl → ByteArray → G := fun l0 s1 => jn0Z (fun k2 => lpIZ (fun k3 n4 => iteG (decide (n4 < (l0.n : Int))) (jn0Z (fun k5 => ixZ l0 n4 1 fun a6 => ldSZ a6 fun s7 => iteG (s1.toList == s7.toList) (retG (ivZ n4)) k5) (k3 (wrZ (n4 +
 1)))) k2) 0) (retG (ivZ (-1 : Int)))
theorem e99 : denF Tryz.prog (GA Tryz.prog) Tryz.f99 [(.one .slice), (.one .str)] (.seq .leaf (.seq (.seq .leaf (.block (sl Tryz.prog []) (.loop (sl Tryz.prog [(8, 3)]) (.seq .leaf (.seq .leaf (.seq (.block (sl Tryz.prog []) .leaf) .leaf)))))) .leaf)) = t99 := by kernel_rfl
theorem c99 (x0 : Sl)(x1 : ByteArray) (h : t99 x0 x1 R w) : Calls Tryz.prog 99 #[.slice x0.a x0.n x0.c, .string x1] w R := lift mixed Tryz.func99 e99 rfl ((x0, ()), (x1, ()), ()) R w h
def t100 : Sl → Value → G := fun l0 v1 => jn0Z (fun k2 => lpIZ (fun k3 n4 => iteG (decide (n4 < (l0.n : Int))) (jn0Z (fun k5 => ixZ l0 n4 1 fun a6 => ldSZ a6 fun s7 => callVG Tryz.prog v1 #[tvZ s7] [(.one .bool)] fun (b8 : Bool) => iteG b8
 (retG (ivZ n4)) k5) (k3 (wrZ (n4 + 1)))) k2) 0) (retG (ivZ (-1 : Int)))
theorem e100 : denF Tryz.prog (GA Tryz.prog) Tryz.f100 [(.one .slice), (.one .any)] (.seq .leaf (.seq (.seq .leaf (.block (sl Tryz.prog []) (.loop (sl Tryz.prog [(8, 3)]) (.seq .leaf (.seq .leaf (.seq (.block (sl Tryz.prog []) .leaf) .leaf)))))) .leaf)) = t100 := by kernel_rfl
theorem c100 (x0 : Sl)(x1 : Value) (h : t100 x0 x1 R w) : Calls Tryz.prog 100 #[.slice x0.a x0.n x0.c, x1] w R := lift mixed Tryz.func100 e100 rfl ((x0, ()), (x1, ()), ()) R w h
def t204 : Sl → ByteArray → G := fun l0 s1 => caIZ 99 #[svZ l0, tvZ s1] fun n2 => retG (.bool (decide (n2 ≥ 0)))
theorem e204 : denF Tryz.prog (GA Tryz.prog) Tryz.f204 [(.one .slice), (.one .str)] .leaf = t204 := by kernel_rfl
theorem c204 (x0 : Sl)(x1 : ByteArray) (h : t204 x0 x1 R w) : Calls Tryz.prog 204 #[.slice x0.a x0.n x0.c, .string x1] w R := lift mixed Tryz.func204 e204 rfl ((x0, ()), (x1, ()), ()) R w h
def t212 : ByteArray → ByteArray → G := fun s0 s1 => jnBZ (fun k2 => caBZ 85 #[tvZ s0] fun b3 => iteG b3 (caBZ 85 #[tvZ s1] fun b4 => iteG (!b4) (k2 true) (k2 (Op.bytesLess (s0.toList) (s1.toList)))) (k2 (Op.bytesLess (s0.toList)
 (s1.toList)))) fun b5 => retG (.bool b5)
end Go.Proofs.YticokfpaoiekgaaGreatDoor
end
