/- The finder law behind FRanksCard: one part of its proof (joined by program out of my own texts). No condition. -/
import Derived.Test.YticokfpaoiekgaaGreatDoorFRkAL
section
set_option maxRecDepth 100000
namespace Go.Proofs.YticokfpaoiekgaaGreatDoor
open Go.Lift
def t49 : ByteArray → G :=
 fun (s0 : ByteArray) => newG (Obj.cells #[(.int .i64 (0 : Int)), (.string (ByteArray.mk #[])), (.string (ByteArray.mk #[])), (.slice none 0 0), (.slice none 0 0)] 25 (Prod.mk 0 0))
 (fun (m1 : Nat) => newG (Obj.cells #[(.int .i64 (0 : Int)), (.int .i64 (0 : Int))] 66 (Prod.mk 0 0))
 (fun (m2 : Nat) => callG Tryz.prog 80 #[(.string s0)] [(.one .slice), (VT.agg [(.int .i64), (.int .i64)])]
 (fun (l3 : Sl) => fun (n4 : Int) => fun (n5 : Int) => newG (Obj.cells #[(.int .i64 (0 : Int)), (.int .i64 (0 : Int))] 66 (Prod.mk 0 0))
 (fun (m6 : Nat) => stG ⟨m6, 0, none⟩ (.int .i64 n4)
 (stG ⟨m6, 1, none⟩ (.int .i64 n5)
 (ldG (.int .i64) ⟨m6, 0, none⟩
 (fun (n7 : Int) => iteG (n7 != (0 : Int))
 (drewG
 (ldG (.int .i64) ⟨m6, 0, none⟩
 (fun (n8 : Int) => ldG (.int .i64) ⟨m6, 1, none⟩
 (fun (n9 : Int) => stG ⟨m1, 0, none⟩ (.int .i64 (0 : Int))
 (stG ⟨m1, 1, none⟩ (.string (ByteArray.mk #[]))
 (stG ⟨m1, 2, none⟩ (.string (ByteArray.mk #[]))
 (stG ⟨m1, 3, none⟩ (.slice none 0 0)
 (stG ⟨m1, 4, none⟩ (.slice none 0 0)
 (keepG [(Prod.mk ⟨m6, 0, none⟩ [(.int .i64 n8), (.int .i64 n9)])]
 (stG ⟨m2, 0, none⟩ (.int .i64 n8)
 (stG ⟨m2, 1, none⟩ (.int .i64 n9)
 (ldG (.int .i64) ⟨m1, 0, none⟩
 (fun (n10 : Int) => ldG .str ⟨m1, 1, none⟩
 (fun (s11 : ByteArray) => ldG .str ⟨m1, 2, none⟩
 (fun (s12 : ByteArray) => ldG .slice ⟨m1, 3, none⟩
 (fun (l13 : Sl) => ldG .slice ⟨m1, 4, none⟩
 (fun (l14 : Sl) => ldG (.int .i64) ⟨m2, 0, none⟩
 (fun (n15 : Int) => ldG (.int .i64) ⟨m2, 1, none⟩
 (fun (n16 : Int) => retG (.tuple #[(.agg #[(.int .i64 n10), (.string s11), (.string s12), (.slice l13.a l13.n l13.c), (.slice l14.a l14.n l14.c)]), (.agg #[(.int .i64 n15), (.int .i64 n16)])]))))))))))))))))))))
 (callG Tryz.prog 81 #[(.slice l3.a l3.n l3.c), (.int .i64 (0 : Int))] [(VT.agg [(.int .i64), CT.str, CT.str, CT.slice, CT.slice]), (.one (.int .i64)), (VT.agg [(.int .i64), (.int .i64)])]
 (fun (n17 : Int) => fun (s18 : ByteArray) => fun (s19 : ByteArray) => fun (l20 : Sl) => fun (l21 : Sl) => fun (n22 : Int) => fun (n23 : Int) => fun (n24 : Int) => newG (Obj.cells #[(.int .i64 (0 : Int)), (.string (ByteArray.mk #[])), (.string (ByteArray.mk #[])), (.slice none 0 0), (.slice none 0 0)] 25 (Prod.mk 0 0))
 (fun (m25 : Nat) => stG ⟨m25, 0, none⟩ (.int .i64 n17)
 (stG ⟨m25, 1, none⟩ (.string s18)
 (stG ⟨m25, 2, none⟩ (.string s19)
 (stG ⟨m25, 3, none⟩ (.slice l20.a l20.n l20.c)
 (stG ⟨m25, 4, none⟩ (.slice l21.a l21.n l21.c)
 (stG ⟨m6, 0, none⟩ (.int .i64 n23)
 (stG ⟨m6, 1, none⟩ (.int .i64 n24)
 (ldG (.int .i64) ⟨m6, 0, none⟩
 (fun (n26 : Int) => joinG []
 (fun k27 => iteG (n26 == (0 : Int))
 (callG Tryz.prog 82 #[(.slice l3.a l3.n l3.c), (.int .i64 n22)] [(VT.agg [(.int .i64), (.int .i64)])]
 (fun (n28 : Int) => fun (n29 : Int) => stG ⟨m6, 0, none⟩ (.int .i64 n28)
 (stG ⟨m6, 1, none⟩ (.int .i64 n29)
 (k27))))
 (k27))
 (ldG (.int .i64) ⟨m6, 0, none⟩
 (fun (n30 : Int) => iteG (n30 != (0 : Int))
 (drewG
 (ldG (.int .i64) ⟨m6, 0, none⟩
 (fun (n31 : Int) => ldG (.int .i64) ⟨m6, 1, none⟩
 (fun (n32 : Int) => stG ⟨m1, 0, none⟩ (.int .i64 (0 : Int))
 (stG ⟨m1, 1, none⟩ (.string (ByteArray.mk #[]))
 (stG ⟨m1, 2, none⟩ (.string (ByteArray.mk #[]))
 (stG ⟨m1, 3, none⟩ (.slice none 0 0)
 (stG ⟨m1, 4, none⟩ (.slice none 0 0)
 (keepG [(Prod.mk ⟨m6, 0, none⟩ [(.int .i64 n31), (.int .i64 n32)])]
 (stG ⟨m2, 0, none⟩ (.int .i64 n31)
 (stG ⟨m2, 1, none⟩ (.int .i64 n32)
 (ldG (.int .i64) ⟨m1, 0, none⟩
 (fun (n33 : Int) => ldG .str ⟨m1, 1, none⟩
 (fun (s34 : ByteArray) => ldG .str ⟨m1, 2, none⟩
 (fun (s35 : ByteArray) => ldG .slice ⟨m1, 3, none⟩
 (fun (l36 : Sl) => ldG .slice ⟨m1, 4, none⟩
 (fun (l37 : Sl) => ldG (.int .i64) ⟨m2, 0, none⟩
 (fun (n38 : Int) => ldG (.int .i64) ⟨m2, 1, none⟩
 (fun (n39 : Int) => retG (.tuple #[(.agg #[(.int .i64 n33), (.string s34), (.string s35), (.slice l36.a l36.n l36.c), (.slice l37.a l37.n l37.c)]), (.agg #[(.int .i64 n38), (.int .i64 n39)])]))))))))))))))))))))
 (drewG
 (ldG (.int .i64) ⟨m25, 0, none⟩
 (fun (n40 : Int) => ldG .str ⟨m25, 1, none⟩
 (fun (s41 : ByteArray) => ldG .str ⟨m25, 2, none⟩
 (fun (s42 : ByteArray) => ldG .slice ⟨m25, 3, none⟩
 (fun (l43 : Sl) => ldG .slice ⟨m25, 4, none⟩
 (fun (l44 : Sl) => ldG (.int .i64) ⟨m6, 0, none⟩
 (fun (n45 : Int) => ldG (.int .i64) ⟨m6, 1, none⟩
 (fun (n46 : Int) => stG ⟨m1, 0, none⟩ (.int .i64 n40)
 (stG ⟨m1, 1, none⟩ (.string s41)
 (stG ⟨m1, 2, none⟩ (.string s42)
 (stG ⟨m1, 3, none⟩ (.slice l43.a l43.n l43.c)
 (stG ⟨m1, 4, none⟩ (.slice l44.a l44.n l44.c)
 (keepG [(Prod.mk ⟨m6, 0, none⟩ [(.int .i64 n45), (.int .i64 n46)])]
 (stG ⟨m2, 0, none⟩ (.int .i64 n45)
 (stG ⟨m2, 1, none⟩ (.int .i64 n46)
 (ldG (.int .i64) ⟨m1, 0, none⟩
 (fun (n47 : Int) => ldG .str ⟨m1, 1, none⟩
 (fun (s48 : ByteArray) => ldG .str ⟨m1, 2, none⟩
 (fun (s49 : ByteArray) => ldG .slice ⟨m1, 3, none⟩
 (fun (l50 : Sl) => ldG .slice ⟨m1, 4, none⟩
 (fun (l51 : Sl) => ldG (.int .i64) ⟨m2, 0, none⟩
 (fun (n52 : Int) => ldG (.int .i64) ⟨m2, 1, none⟩
 (fun (n53 : Int) => retG (.tuple #[(.agg #[(.int .i64 n47), (.string s48), (.string s49), (.slice l50.a l50.n l50.c), (.slice l51.a l51.n l51.c)]), (.agg #[(.int .i64 n52), (.int .i64 n53)])])))))))))))))))))))))))))))))))))))))))))))))
theorem e49 : denF Tryz.prog (GA Tryz.prog) Tryz.f49 [(VT.one CT.str)] (.seq .leaf (.seq .leaf (.seq .leaf (.seq .leaf (.seq (.seq .leaf (.condj (sl Tryz.prog []) .leaf .leaf)) .leaf))))) = t49 := by kernel_rfl
theorem c49 (x0 : ByteArray) {R : Ending → World → Prop} {w : World} (h : t49 x0 R w) : Calls Tryz.prog 49 #[.string x0] w R :=
  lift mixed Tryz.func49 e49 rfl ((x0, ()), ()) R w h
def t81 : Sl → Int → G :=
 fun (l0 : Sl) => fun (n1 : Int) => newG (Obj.cells #[(.int .i64 (0 : Int)), (.string (ByteArray.mk #[])), (.string (ByteArray.mk #[])), (.slice none 0 0), (.slice none 0 0)] 25 (Prod.mk 0 0))
 (fun (m2 : Nat) => newG (Obj.cells #[(.int .i64 (0 : Int)), (.int .i64 (0 : Int))] 66 (Prod.mk 0 0))
 (fun (m3 : Nat) => callG Tryz.prog 107 #[(.slice l0.a l0.n l0.c), (.int .i64 n1)] [(.one .ptr)]
 (fun (p4 : Option Addr) => nnG p4
 (fun (a5 : Addr) => callG Tryz.prog 108 #[(.pointer (some (Addr.add a5 0)))] [(.one .bool)]
 (fun (b6 : Bool) => iteG b6
 (drewG
 (nnG p4
 (fun (a7 : Addr) => ldG (.int .i64) (Addr.add (Addr.add (Addr.add a7 0) 2) 0)
 (fun (n8 : Int) => ldG (.int .i64) (Addr.add (Addr.add (Addr.add a7 0) 2) 1)
 (fun (n9 : Int) => stG ⟨m2, 0, none⟩ (.int .i64 (0 : Int))
 (stG ⟨m2, 1, none⟩ (.string (ByteArray.mk #[]))
 (stG ⟨m2, 2, none⟩ (.string (ByteArray.mk #[]))
 (stG ⟨m2, 3, none⟩ (.slice none 0 0)
 (stG ⟨m2, 4, none⟩ (.slice none 0 0)
 (keepG [(Prod.mk (Addr.add (Addr.add a7 0) 2) [(.int .i64 n8), (.int .i64 n9)])]
 (stG ⟨m3, 0, none⟩ (.int .i64 n8)
 (stG ⟨m3, 1, none⟩ (.int .i64 n9)
 (ldG (.int .i64) ⟨m2, 0, none⟩
 (fun (n10 : Int) => ldG .str ⟨m2, 1, none⟩
 (fun (s11 : ByteArray) => ldG .str ⟨m2, 2, none⟩
 (fun (s12 : ByteArray) => ldG .slice ⟨m2, 3, none⟩
 (fun (l13 : Sl) => ldG .slice ⟨m2, 4, none⟩
 (fun (l14 : Sl) => ldG (.int .i64) ⟨m3, 0, none⟩
 (fun (n15 : Int) => ldG (.int .i64) ⟨m3, 1, none⟩
 (fun (n16 : Int) => retG (.tuple #[(.agg #[(.int .i64 n10), (.string s11), (.string s12), (.slice l13.a l13.n l13.c), (.slice l14.a l14.n l14.c)]), (.int .i64 (0 : Int)), (.agg #[(.int .i64 n15), (.int .i64 n16)])])))))))))))))))))))))
 (callG Tryz.prog 109 #[(.pointer p4)] [(VT.agg [(.int .i64), CT.str, CT.str, CT.slice, CT.slice])]
 (fun (n17 : Int) => fun (s18 : ByteArray) => fun (s19 : ByteArray) => fun (l20 : Sl) => fun (l21 : Sl) => newG (Obj.cells #[(.int .i64 (0 : Int)), (.string (ByteArray.mk #[])), (.string (ByteArray.mk #[])), (.slice none 0 0), (.slice none 0 0)] 25 (Prod.mk 0 0))
 (fun (m22 : Nat) => stG ⟨m22, 0, none⟩ (.int .i64 n17)
 (stG ⟨m22, 1, none⟩ (.string s18)
 (stG ⟨m22, 2, none⟩ (.string s19)
 (stG ⟨m22, 3, none⟩ (.slice l20.a l20.n l20.c)
 (stG ⟨m22, 4, none⟩ (.slice l21.a l21.n l21.c)
 (nnG p4
 (fun (a23 : Addr) => callG Tryz.prog 108 #[(.pointer (some (Addr.add a23 0)))] [(.one .bool)]
 (fun (b24 : Bool) => iteG b24
 (drewG
 (nnG p4
 (fun (a25 : Addr) => ldG (.int .i64) (Addr.add (Addr.add (Addr.add a25 0) 2) 0)
 (fun (n26 : Int) => ldG (.int .i64) (Addr.add (Addr.add (Addr.add a25 0) 2) 1)
 (fun (n27 : Int) => stG ⟨m2, 0, none⟩ (.int .i64 (0 : Int))
 (stG ⟨m2, 1, none⟩ (.string (ByteArray.mk #[]))
 (stG ⟨m2, 2, none⟩ (.string (ByteArray.mk #[]))
 (stG ⟨m2, 3, none⟩ (.slice none 0 0)
 (stG ⟨m2, 4, none⟩ (.slice none 0 0)
 (keepG [(Prod.mk (Addr.add (Addr.add a25 0) 2) [(.int .i64 n26), (.int .i64 n27)])]
 (stG ⟨m3, 0, none⟩ (.int .i64 n26)
 (stG ⟨m3, 1, none⟩ (.int .i64 n27)
 (ldG (.int .i64) ⟨m2, 0, none⟩
 (fun (n28 : Int) => ldG .str ⟨m2, 1, none⟩
 (fun (s29 : ByteArray) => ldG .str ⟨m2, 2, none⟩
 (fun (s30 : ByteArray) => ldG .slice ⟨m2, 3, none⟩
 (fun (l31 : Sl) => ldG .slice ⟨m2, 4, none⟩
 (fun (l32 : Sl) => ldG (.int .i64) ⟨m3, 0, none⟩
 (fun (n33 : Int) => ldG (.int .i64) ⟨m3, 1, none⟩
 (fun (n34 : Int) => retG (.tuple #[(.agg #[(.int .i64 n28), (.string s29), (.string s30), (.slice l31.a l31.n l31.c), (.slice l32.a l32.n l32.c)]), (.int .i64 (0 : Int)), (.agg #[(.int .i64 n33), (.int .i64 n34)])])))))))))))))))))))))
 (drewG
 (ldG (.int .i64) ⟨m22, 0, none⟩
 (fun (n35 : Int) => ldG .str ⟨m22, 1, none⟩
 (fun (s36 : ByteArray) => ldG .str ⟨m22, 2, none⟩
 (fun (s37 : ByteArray) => ldG .slice ⟨m22, 3, none⟩
 (fun (l38 : Sl) => ldG .slice ⟨m22, 4, none⟩
 (fun (l39 : Sl) => nnG p4
 (fun (a40 : Addr) => ldG (.int .i64) (Addr.add (Addr.add a40 0) 1)
 (fun (n41 : Int) => stG ⟨m2, 0, none⟩ (.int .i64 n35)
 (stG ⟨m2, 1, none⟩ (.string s36)
 (stG ⟨m2, 2, none⟩ (.string s37)
 (stG ⟨m2, 3, none⟩ (.slice l38.a l38.n l38.c)
 (stG ⟨m2, 4, none⟩ (.slice l39.a l39.n l39.c)
 (keepG [(Prod.mk (Addr.add (Addr.add a40 0) 1) [(.int .i64 n41)])]
 (stG ⟨m3, 0, none⟩ (.int .i64 (0 : Int))
 (stG ⟨m3, 1, none⟩ (.int .i64 (0 : Int))
 (ldG (.int .i64) ⟨m2, 0, none⟩
 (fun (n42 : Int) => ldG .str ⟨m2, 1, none⟩
 (fun (s43 : ByteArray) => ldG .str ⟨m2, 2, none⟩
 (fun (s44 : ByteArray) => ldG .slice ⟨m2, 3, none⟩
 (fun (l45 : Sl) => ldG .slice ⟨m2, 4, none⟩
 (fun (l46 : Sl) => ldG (.int .i64) ⟨m3, 0, none⟩
 (fun (n47 : Int) => ldG (.int .i64) ⟨m3, 1, none⟩
 (fun (n48 : Int) => retG (.tuple #[(.agg #[(.int .i64 n42), (.string s43), (.string s44), (.slice l45.a l45.n l45.c), (.slice l46.a l46.n l46.c)]), (.int .i64 n41), (.agg #[(.int .i64 n47), (.int .i64 n48)])]))))))))))))))))))))))))))))))))))))))))
theorem e81 : denF Tryz.prog (GA Tryz.prog) Tryz.f81 [(VT.one CT.slice), (VT.one (CT.int IntKind.i64))] .leaf = t81 := by kernel_rfl
theorem c81 (x0 : Sl) (x1 : Int) {R : Ending → World → Prop} {w : World} (h : t81 x0 x1 R w) : Calls Tryz.prog 81 #[.slice x0.a x0.n x0.c, .int .i64 x1] w R :=
  lift mixed Tryz.func81 e81 rfl ((x0, ()), (x1, ()), ()) R w h
def t82 : Sl → Int → G :=
 fun (l0 : Sl) => fun (n1 : Int) => newG (Obj.cells #[(.int .i64 (0 : Int)), (.int .i64 (0 : Int))] 66 (Prod.mk 0 0))
 (fun (m2 : Nat) => iteG (n1 != IntKind.wrap IntKind.i64 ((↑l0.n : Int) - (1 : Int)))
 (idxG l0.a l0.n n1 3
 (fun (a3 : Addr) => ldG (.int .i64) (Addr.add a3 2)
 (fun (n4 : Int) => stG ⟨m2, 0, none⟩ (.int .i64 (90 : Int))
 (stG ⟨m2, 1, none⟩ (.int .i64 n4)
 (ldG (.int .i64) ⟨m2, 0, none⟩
 (fun (n5 : Int) => ldG (.int .i64) ⟨m2, 1, none⟩
 (fun (n6 : Int) => retG (.agg #[(.int .i64 n5), (.int .i64 n6)]))))))))
 (stG ⟨m2, 0, none⟩ (.int .i64 (0 : Int))
 (stG ⟨m2, 1, none⟩ (.int .i64 (0 : Int))
 (ldG (.int .i64) ⟨m2, 0, none⟩
 (fun (n7 : Int) => ldG (.int .i64) ⟨m2, 1, none⟩
 (fun (n8 : Int) => retG (.agg #[(.int .i64 n7), (.int .i64 n8)])))))))
theorem e82 : denF Tryz.prog (GA Tryz.prog) Tryz.f82 [(VT.one CT.slice), (VT.one (CT.int IntKind.i64))] .leaf = t82 := by kernel_rfl
theorem c82 (x0 : Sl) (x1 : Int) {R : Ending → World → Prop} {w : World} (h : t82 x0 x1 R w) : Calls Tryz.prog 82 #[.slice x0.a x0.n x0.c, .int .i64 x1] w R :=
  lift mixed Tryz.func82 e82 rfl ((x0, ()), (x1, ()), ()) R w h
def t107 : Sl → Int → G :=
 fun (l0 : Sl) => fun (n1 : Int) => newG (Obj.cells #[(.slice l0.a l0.n l0.c), (.int .i64 n1), (.int .i64 (0 : Int)), (.int .i64 (0 : Int))] 130 (Prod.mk 0 0))
 (fun (m2 : Nat) => joinG [(.one .bool)]
 (fun k3 => iteG (Decidable.decide (n1 < (0 : Int)))
 (k3 true)
 (k3 (Decidable.decide (n1 > (↑l0.n : Int)))))
 (fun (b4 : Bool) => joinG []
 (fun k5 => iteG b4
 (callG Tryz.prog 147 #[(.pointer (some ⟨m2, 0, none⟩)), (.int .i64 (2 : Int)), (.int .i64 (0 : Int))] []
 (k5))
 (joinG []
 (fun k6 => iteG (Decidable.decide ((↑l0.n : Int) > (4097 : Int)))
 (callG Tryz.prog 147 #[(.pointer (some ⟨m2, 0, none⟩)), (.int .i64 (3 : Int)), (.int .i64 (0 : Int))] []
 (k6))
 (k6))
 (k5)))
 (retG (.pointer (some ⟨m2, 0, none⟩)))))
theorem e107 : denF Tryz.prog (GA Tryz.prog) Tryz.f107 [(VT.one CT.slice), (VT.one (CT.int IntKind.i64))] (.seq .leaf (.seq .leaf (.seq (.seq (.r (sl Tryz.prog [(18, 4)])) (.condj (sl Tryz.prog []) .leaf (.seq .leaf (.condj (sl Tryz.prog []) .leaf .leaf)))) .leaf))) = t107 := by kernel_rfl
theorem c107 (x0 : Sl) (x1 : Int) {R : Ending → World → Prop} {w : World} (h : t107 x0 x1 R w) : Calls Tryz.prog 107 #[.slice x0.a x0.n x0.c, .int .i64 x1] w R :=
  lift mixed Tryz.func107 e107 rfl ((x0, ()), (x1, ()), ()) R w h
def t108 : Option Addr → G :=
 fun (p0 : Option Addr) => nnG p0
 (fun (a1 : Addr) => ldG (.int .i64) (Addr.add (Addr.add a1 2) 0)
 (fun (n2 : Int) => retG (.bool (n2 != (0 : Int)))))
theorem e108 : denF Tryz.prog (GA Tryz.prog) Tryz.f108 [(VT.one CT.ptr)] .leaf = t108 := by kernel_rfl
theorem c108 (x0 : Option Addr) {R : Ending → World → Prop} {w : World} (h : t108 x0 R w) : Calls Tryz.prog 108 #[.pointer x0] w R :=
  lift mixed Tryz.func108 e108 rfl ((x0, ()), ()) R w h
def t109 : Option Addr → G :=
 fun (p0 : Option Addr) => newG (Obj.cells #[(.int .i64 (0 : Int)), (.string (ByteArray.mk #[])), (.string (ByteArray.mk #[])), (.slice none 0 0), (.slice none 0 0)] 25 (Prod.mk 0 0))
 (fun (m1 : Nat) => nnG p0
 (fun (a2 : Addr) => callG Tryz.prog 148 #[(.pointer (some (Addr.add a2 0)))] [(VT.agg [(.int .i64), CT.str, (.int .i64)])]
 (fun (_ : Int) => fun (_ : ByteArray) => fun (n5 : Int) => callG Tryz.prog 149 #[(.pointer p0)] [(VT.agg [(.int .i64), CT.str, CT.str, CT.slice, CT.slice])]
 (fun (n6 : Int) => fun (s7 : ByteArray) => fun (s8 : ByteArray) => fun (l9 : Sl) => fun (l10 : Sl) => newG (Obj.cells #[(.int .i64 (0 : Int)), (.string (ByteArray.mk #[])), (.string (ByteArray.mk #[])), (.slice none 0 0), (.slice none 0 0)] 25 (Prod.mk 0 0))
 (fun (m11 : Nat) => stG ⟨m11, 0, none⟩ (.int .i64 n6)
 (stG ⟨m11, 1, none⟩ (.string s7)
 (stG ⟨m11, 2, none⟩ (.string s8)
 (stG ⟨m11, 3, none⟩ (.slice l9.a l9.n l9.c)
 (stG ⟨m11, 4, none⟩ (.slice l10.a l10.n l10.c)
 (nnG p0
 (fun (a12 : Addr) => callG Tryz.prog 108 #[(.pointer (some (Addr.add a12 0)))] [(.one .bool)]
 (fun (b13 : Bool) => joinG []
 (fun k14 => iteG (!b13)
 (ldG (.int .i64) ⟨m11, 0, none⟩
 (fun (n15 : Int) => ldG .str ⟨m11, 1, none⟩
 (fun (s16 : ByteArray) => ldG .str ⟨m11, 2, none⟩
 (fun (s17 : ByteArray) => ldG .slice ⟨m11, 3, none⟩
 (fun (l18 : Sl) => ldG .slice ⟨m11, 4, none⟩
 (fun (l19 : Sl) => callG Tryz.prog 36 #[(.agg #[(.int .i64 n15), (.string s16), (.string s17), (.slice l18.a l18.n l18.c), (.slice l19.a l19.n l19.c)])] [(.one (.int .i64))]
 (fun (n20 : Int) => joinG []
 (fun k21 => iteG (n20 != (0 : Int))
 (nnG p0
 (fun (a22 : Addr) => callG Tryz.prog 147 #[(.pointer (some (Addr.add a22 0))), (.int .i64 n20), (.int .i64 n5)] []
 (k21)))
 (k21))
 (k14))))))))
 (k14))
 (ldG (.int .i64) ⟨m11, 0, none⟩
 (fun (n23 : Int) => ldG .str ⟨m11, 1, none⟩
 (fun (s24 : ByteArray) => ldG .str ⟨m11, 2, none⟩
 (fun (s25 : ByteArray) => ldG .slice ⟨m11, 3, none⟩
 (fun (l26 : Sl) => ldG .slice ⟨m11, 4, none⟩
 (fun (l27 : Sl) => stG ⟨m1, 0, none⟩ (.int .i64 n23)
 (stG ⟨m1, 1, none⟩ (.string s24)
 (stG ⟨m1, 2, none⟩ (.string s25)
 (stG ⟨m1, 3, none⟩ (.slice l26.a l26.n l26.c)
 (stG ⟨m1, 4, none⟩ (.slice l27.a l27.n l27.c)
 (ldG (.int .i64) ⟨m1, 0, none⟩
 (fun (n28 : Int) => ldG .str ⟨m1, 1, none⟩
 (fun (s29 : ByteArray) => ldG .str ⟨m1, 2, none⟩
 (fun (s30 : ByteArray) => ldG .slice ⟨m1, 3, none⟩
 (fun (l31 : Sl) => ldG .slice ⟨m1, 4, none⟩
 (fun (l32 : Sl) => retG (.agg #[(.int .i64 n28), (.string s29), (.string s30), (.slice l31.a l31.n l31.c), (.slice l32.a l32.n l32.c)])))))))))))))))))))))))))))))
theorem e109 : denF Tryz.prog (GA Tryz.prog) Tryz.f109 [(VT.one CT.ptr)] (.seq .leaf (.seq .leaf (.seq .leaf (.seq (.seq .leaf (.condj (sl Tryz.prog []) (.seq .leaf (.seq .leaf (.condj (sl Tryz.prog []) .leaf .leaf))) .leaf)) .leaf)))) = t109 := by kernel_rfl
theorem c109 (x0 : Option Addr) {R : Ending → World → Prop} {w : World} (h : t109 x0 R w) : Calls Tryz.prog 109 #[.pointer x0] w R :=
  lift mixed Tryz.func109 e109 rfl ((x0, ()), ()) R w h
def t147 : Option Addr → Int → Int → G :=
 fun (p0 : Option Addr) => fun (n1 : Int) => fun (n2 : Int) => callG Tryz.prog 108 #[(.pointer p0)] [(.one .bool)]
 (fun (b3 : Bool) => joinG []
 (fun k4 => iteG (!b3)
 (nnG p0
 (fun (a5 : Addr) => stG (Addr.add (Addr.add a5 2) 0) (.int .i64 n1)
 (stG (Addr.add (Addr.add a5 2) 1) (.int .i64 n2)
 (k4))))
 (k4))
 (retG (.tuple #[])))
theorem e147 : denF Tryz.prog (GA Tryz.prog) Tryz.f147 [(VT.one CT.ptr), (VT.one (CT.int IntKind.i64)), (VT.one (CT.int IntKind.i64))] (.seq .leaf (.condj (sl Tryz.prog []) .leaf .leaf)) = t147 := by kernel_rfl
theorem c147 (x0 : Option Addr) (x1 : Int) (x2 : Int) {R : Ending → World → Prop} {w : World} (h : t147 x0 x1 x2 R w) : Calls Tryz.prog 147 #[.pointer x0, .int .i64 x1, .int .i64 x2] w R :=
  lift mixed Tryz.func147 e147 rfl ((x0, ()), (x1, ()), (x2, ()), ()) R w h
def t148 : Option Addr → G :=
 fun (p0 : Option Addr) => newG (Obj.cells #[(.int .i64 (0 : Int)), (.string (ByteArray.mk #[])), (.int .i64 (0 : Int))] 124 (Prod.mk 0 0))
 (fun (m1 : Nat) => drewG
 (nnG p0
 (fun (a2 : Addr) => ldG (.int .i64) (Addr.add a2 1)
 (fun (n3 : Int) => nnG p0
 (fun (a4 : Addr) => ldG .slice (Addr.add a4 0)
 (fun (l5 : Sl) => iteG (Decidable.decide (n3 < (↑l5.n : Int)))
 (drewG
 (nnG p0
 (fun (a6 : Addr) => ldG .slice (Addr.add a6 0)
 (fun (l7 : Sl) => nnG p0
 (fun (a8 : Addr) => ldG (.int .i64) (Addr.add a8 1)
 (fun (n9 : Int) => idxG l7.a l7.n n9 3
 (fun (a10 : Addr) => ldG (.int .i64) (Addr.add a10 0)
 (fun (n11 : Int) => ldG .str (Addr.add a10 1)
 (fun (s12 : ByteArray) => ldG (.int .i64) (Addr.add a10 2)
 (fun (n13 : Int) => stG ⟨m1, 0, none⟩ (.int .i64 n11)
 (stG ⟨m1, 1, none⟩ (.string s12)
 (stG ⟨m1, 2, none⟩ (.int .i64 n13)
 (ldG (.int .i64) ⟨m1, 0, none⟩
 (fun (n14 : Int) => ldG .str ⟨m1, 1, none⟩
 (fun (s15 : ByteArray) => ldG (.int .i64) ⟨m1, 2, none⟩
 (fun (n16 : Int) => retG (.agg #[(.int .i64 n14), (.string s15), (.int .i64 n16)])))))))))))))))))
 (nnG p0
 (fun (a17 : Addr) => ldG .slice (Addr.add a17 0)
 (fun (l18 : Sl) => iteG ((↑l18.n : Int) == (0 : Int))
 (stG ⟨m1, 0, none⟩ (.int .i64 (0 : Int))
 (stG ⟨m1, 1, none⟩ (.string (ByteArray.mk #[]))
 (stG ⟨m1, 2, none⟩ (.int .i64 (0 : Int))
 (ldG (.int .i64) ⟨m1, 0, none⟩
 (fun (n19 : Int) => ldG .str ⟨m1, 1, none⟩
 (fun (s20 : ByteArray) => ldG (.int .i64) ⟨m1, 2, none⟩
 (fun (n21 : Int) => retG (.agg #[(.int .i64 n19), (.string s20), (.int .i64 n21)]))))))))
 (drewG
 (nnG p0
 (fun (a22 : Addr) => ldG .slice (Addr.add a22 0)
 (fun (l23 : Sl) => nnG p0
 (fun (a24 : Addr) => ldG .slice (Addr.add a24 0)
 (fun (l25 : Sl) => idxG l23.a l23.n (IntKind.wrap IntKind.i64 ((↑l25.n : Int) - (1 : Int))) 3
 (fun (a26 : Addr) => ldG (.int .i64) (Addr.add a26 2)
 (fun (n27 : Int) => stG ⟨m1, 0, none⟩ (.int .i64 (0 : Int))
 (stG ⟨m1, 1, none⟩ (.string (ByteArray.mk #[]))
 (stG ⟨m1, 2, none⟩ (.int .i64 n27)
 (ldG (.int .i64) ⟨m1, 0, none⟩
 (fun (n28 : Int) => ldG .str ⟨m1, 1, none⟩
 (fun (s29 : ByteArray) => ldG (.int .i64) ⟨m1, 2, none⟩
 (fun (n30 : Int) => retG (.agg #[(.int .i64 n28), (.string s29), (.int .i64 n30)]))))))))))))))))))))))))
theorem e148 : denF Tryz.prog (GA Tryz.prog) Tryz.f148 [(VT.one CT.ptr)] .leaf = t148 := by kernel_rfl
theorem c148 (x0 : Option Addr) {R : Ending → World → Prop} {w : World} (h : t148 x0 R w) : Calls Tryz.prog 148 #[.pointer x0] w R :=
  lift mixed Tryz.func148 e148 rfl ((x0, ()), ()) R w h
def t149 : Option Addr → G :=
 fun (p0 : Option Addr) => newG (Obj.cells #[(.pointer p0)] 125 (Prod.mk 0 0))
 (fun (m1 : Nat) => newG (Obj.cells #[(.int .i64 (0 : Int)), (.string (ByteArray.mk #[])), (.string (ByteArray.mk #[])), (.slice none 0 0), (.slice none 0 0)] 25 (Prod.mk 0 0))
 (fun (m2 : Nat) => newG (Obj.cells #[(.int .i64 (0 : Int)), (.string (ByteArray.mk #[])), (.string (ByteArray.mk #[])), (.slice none 0 0), (.slice none 0 0)] 25 (Prod.mk 0 0))
 (fun (m3 : Nat) => ldG .ptr ⟨m1, 0, none⟩
 (fun (p4 : Option Addr) => nnG p4
 (fun (a5 : Addr) => callG Tryz.prog 148 #[(.pointer (some (Addr.add a5 0)))] [(VT.agg [(.int .i64), CT.str, (.int .i64)])]
 (fun (n6 : Int) => fun (s7 : ByteArray) => fun (n8 : Int) => newG (Obj.cells #[(.int .i64 (0 : Int)), (.string (ByteArray.mk #[])), (.int .i64 (0 : Int))] 124 (Prod.mk 0 0))
 (fun (m9 : Nat) => stG ⟨m9, 0, none⟩ (.int .i64 n6)
 (stG ⟨m9, 1, none⟩ (.string s7)
 (stG ⟨m9, 2, none⟩ (.int .i64 n8)
 (joinG []
 (fun k10 => joinG [(.one .bool)]
 (fun k11 => ldG (.int .i64) ⟨m9, 0, none⟩
 (fun (n12 : Int) => iteG (n12 == (2 : Int))
 (ldG .ptr ⟨m1, 0, none⟩
 (fun (p13 : Option Addr) => nnG p13
 (fun (a14 : Addr) => callG Tryz.prog 108 #[(.pointer (some (Addr.add a14 0)))] [(.one .bool)]
 (fun (b15 : Bool) => k11 (!b15)))))
 (k11 false)))
 (fun (b16 : Bool) => iteG b16
 (ldG .ptr ⟨m1, 0, none⟩
 (fun (p17 : Option Addr) => nnG p17
 (fun (a18 : Addr) => ldG (.int .i64) (Addr.add (Addr.add a18 0) 1)
 (fun (n19 : Int) => nnG p17
 (fun (a20 : Addr) => stG (Addr.add (Addr.add a20 0) 1) (.int .i64 (IntKind.wrap IntKind.i64 (n19 + (1 : Int))))
 (ldG .str ⟨m9, 1, none⟩
 (fun (s21 : ByteArray) => callG Tryz.prog 183 #[(.string (ByteArray.mk #[])), (.string s21)] [(VT.agg [(.int .i64), CT.str, CT.str, CT.slice, CT.slice])]
 (fun (n22 : Int) => fun (s23 : ByteArray) => fun (s24 : ByteArray) => fun (l25 : Sl) => fun (l26 : Sl) => stG ⟨m2, 0, none⟩ (.int .i64 n22)
 (stG ⟨m2, 1, none⟩ (.string s23)
 (stG ⟨m2, 2, none⟩ (.string s24)
 (stG ⟨m2, 3, none⟩ (.slice l25.a l25.n l25.c)
 (stG ⟨m2, 4, none⟩ (.slice l26.a l26.n l26.c)
 (ldG (.int .i64) ⟨m2, 0, none⟩
 (fun (n27 : Int) => ldG .str ⟨m2, 1, none⟩
 (fun (s28 : ByteArray) => ldG .str ⟨m2, 2, none⟩
 (fun (s29 : ByteArray) => ldG .slice ⟨m2, 3, none⟩
 (fun (l30 : Sl) => ldG .slice ⟨m2, 4, none⟩
 (fun (l31 : Sl) => retG (.agg #[(.int .i64 n27), (.string s28), (.string s29), (.slice l30.a l30.n l30.c), (.slice l31.a l31.n l31.c)])))))))))))))))))))
 (joinG [(.one .bool)]
 (fun k32 => ldG (.int .i64) ⟨m9, 0, none⟩
 (fun (n33 : Int) => iteG (n33 == (1 : Int))
 (ldG .ptr ⟨m1, 0, none⟩
 (fun (p34 : Option Addr) => nnG p34
 (fun (a35 : Addr) => callG Tryz.prog 108 #[(.pointer (some (Addr.add a35 0)))] [(.one .bool)]
 (fun (b36 : Bool) => k32 (!b36)))))
 (k32 false)))
 (fun (b37 : Bool) => iteG b37
 (ldG .ptr ⟨m1, 0, none⟩
 (fun (p38 : Option Addr) => nnG p38
 (fun (a39 : Addr) => ldG (.int .i64) (Addr.add (Addr.add a39 0) 1)
 (fun (n40 : Int) => nnG p38
 (fun (a41 : Addr) => stG (Addr.add (Addr.add a41 0) 1) (.int .i64 (IntKind.wrap IntKind.i64 (n40 + (1 : Int))))
 (ldG .ptr ⟨m1, 0, none⟩
 (fun (p42 : Option Addr) => nnG p42
 (fun (a43 : Addr) => callG Tryz.prog 184 #[(.pointer (some (Addr.add a43 0))), (.string (ByteArray.mk #[47]))] []
 (drewG
 (ldG .str ⟨m9, 1, none⟩
 (fun (s44 : ByteArray) => ldG .ptr ⟨m1, 0, none⟩
 (fun (p45 : Option Addr) => nnG p45
 (fun (a46 : Addr) => callG Tryz.prog 185 #[(.pointer (some (Addr.add a46 0))), (.int .i64 (2 : Int))] [(VT.agg [(.int .i64), CT.str, (.int .i64)])]
 (fun (_ : Int) => fun (s48 : ByteArray) => fun (_ : Int) => keepG [(Prod.mk ⟨m1, 0, none⟩ [(.pointer p45)]), (Prod.mk ⟨m9, 1, none⟩ [(.string s44)])]
 (callG Tryz.prog 183 #[(.string s44), (.string s48)] [(VT.agg [(.int .i64), CT.str, CT.str, CT.slice, CT.slice])]
 (fun (n50 : Int) => fun (s51 : ByteArray) => fun (s52 : ByteArray) => fun (l53 : Sl) => fun (l54 : Sl) => keepG [(Prod.mk ⟨m1, 0, none⟩ [(.pointer p45)])]
 (stG ⟨m2, 0, none⟩ (.int .i64 n50)
 (stG ⟨m2, 1, none⟩ (.string s51)
 (stG ⟨m2, 2, none⟩ (.string s52)
 (stG ⟨m2, 3, none⟩ (.slice l53.a l53.n l53.c)
 (stG ⟨m2, 4, none⟩ (.slice l54.a l54.n l54.c)
 (ldG (.int .i64) ⟨m2, 0, none⟩
 (fun (n55 : Int) => ldG .str ⟨m2, 1, none⟩
 (fun (s56 : ByteArray) => ldG .str ⟨m2, 2, none⟩
 (fun (s57 : ByteArray) => ldG .slice ⟨m2, 3, none⟩
 (fun (l58 : Sl) => ldG .slice ⟨m2, 4, none⟩
 (fun (l59 : Sl) => retG (.agg #[(.int .i64 n55), (.string s56), (.string s57), (.slice l58.a l58.n l58.c), (.slice l59.a l59.n l59.c)]))))))))))))))))))))))))))))
 (ldG .ptr ⟨m1, 0, none⟩
 (fun (p60 : Option Addr) => nnG p60
 (fun (a61 : Addr) => callG Tryz.prog 186 #[(.pointer (some (Addr.add a61 0))), (.string (ByteArray.mk #[91]))] [(.one .bool)]
 (fun (b62 : Bool) => joinG []
 (fun k63 => iteG b62
 (ldG .ptr ⟨m1, 0, none⟩
 (fun (p64 : Option Addr) => callG Tryz.prog 149 #[(.pointer p64)] [(VT.agg [(.int .i64), CT.str, CT.str, CT.slice, CT.slice])]
 (fun (n65 : Int) => fun (s66 : ByteArray) => fun (s67 : ByteArray) => fun (l68 : Sl) => fun (l69 : Sl) => newG (Obj.cells #[(.int .i64 n65), (.string s66), (.string s67), (.slice l68.a l68.n l68.c), (.slice l69.a l69.n l69.c)] 25 (Prod.mk 0 0))
 (fun (m70 : Nat) => stG ⟨m3, 0, none⟩ (.int .i64 (5 : Int))
 (stG ⟨m3, 4, none⟩ (.slice (some ⟨m70, 0, none⟩) 1 1)
 (ldG .ptr ⟨m1, 0, none⟩
 (fun (p71 : Option Addr) => nnG p71
 (fun (a72 : Addr) => callG Tryz.prog 184 #[(.pointer (some (Addr.add a72 0))), (.string (ByteArray.mk #[93]))] []
 (k63)))))))))
 (ldG .ptr ⟨m1, 0, none⟩
 (fun (p73 : Option Addr) => nnG p73
 (fun (a74 : Addr) => callG Tryz.prog 186 #[(.pointer (some (Addr.add a74 0))), (.string (ByteArray.mk #[123]))] [(.one .bool)]
 (fun (b75 : Bool) => joinG []
 (fun k76 => iteG b75
 (stG ⟨m3, 0, none⟩ (.int .i64 (6 : Int))
 (ldG .ptr ⟨m1, 0, none⟩
 (fun (p77 : Option Addr) => nnG p77
 (fun (a78 : Addr) => callG Tryz.prog 187 #[(.pointer (some (Addr.add a78 0))), (.string (ByteArray.mk #[44])), (.string (ByteArray.mk #[125])), (.func (Fn.func 180) #[] #[(.pointer (some ⟨m1, 0, none⟩)), (.pointer (some ⟨m3, 0, none⟩))])] []
 (k76)))))
 (ldG .ptr ⟨m1, 0, none⟩
 (fun (p79 : Option Addr) => nnG p79
 (fun (a80 : Addr) => callG Tryz.prog 186 #[(.pointer (some (Addr.add a80 0))), (.string (ByteArray.mk #[60]))] [(.one .bool)]
 (fun (b81 : Bool) => joinG []
 (fun k82 => iteG b81
 (stG ⟨m3, 0, none⟩ (.int .i64 (7 : Int))
 (ldG .ptr ⟨m1, 0, none⟩
 (fun (p83 : Option Addr) => nnG p83
 (fun (a84 : Addr) => callG Tryz.prog 187 #[(.pointer (some (Addr.add a84 0))), (.string (ByteArray.mk #[124])), (.string (ByteArray.mk #[62])), (.func (Fn.func 180) #[] #[(.pointer (some ⟨m1, 0, none⟩)), (.pointer (some ⟨m3, 0, none⟩))])] []
 (k82)))))
 (ldG .ptr ⟨m1, 0, none⟩
 (fun (p85 : Option Addr) => nnG p85
 (fun (a86 : Addr) => callG Tryz.prog 186 #[(.pointer (some (Addr.add a86 0))), (.string (ByteArray.mk #[40]))] [(.one .bool)]
 (fun (b87 : Bool) => joinG []
 (fun k88 => iteG b87
 (stG ⟨m3, 0, none⟩ (.int .i64 (8 : Int))
 (ldG .ptr ⟨m1, 0, none⟩
 (fun (p89 : Option Addr) => nnG p89
 (fun (a90 : Addr) => callG Tryz.prog 187 #[(.pointer (some (Addr.add a90 0))), (.string (ByteArray.mk #[44])), (.string (ByteArray.mk #[41])), (.func (Fn.func 188) #[] #[(.pointer (some ⟨m3, 0, none⟩)), (.pointer (some ⟨m1, 0, none⟩))])] []
 (ldG .ptr ⟨m1, 0, none⟩
 (fun (p91 : Option Addr) => nnG p91
 (fun (a92 : Addr) => callG Tryz.prog 184 #[(.pointer (some (Addr.add a92 0))), (.string (ByteArray.mk #[45, 62]))] []
 (drewG
 (ldG .slice ⟨m3, 4, none⟩
 (fun (l93 : Sl) => ldG .ptr ⟨m1, 0, none⟩
 (fun (p94 : Option Addr) => bothG
 (callG Tryz.prog 149 #[(.pointer p94)] [(VT.agg [(.int .i64), CT.str, CT.str, CT.slice, CT.slice])]
 (fun (n95 : Int) => fun (s96 : ByteArray) => fun (s97 : ByteArray) => fun (l98 : Sl) => fun (l99 : Sl) => keepG [(Prod.mk ⟨m3, 4, none⟩ [(.slice l93.a l93.n l93.c)])]
 (newG (Obj.cells #[(.int .i64 (0 : Int)), (.string (ByteArray.mk #[])), (.string (ByteArray.mk #[])), (.slice none 0 0), (.slice none 0 0)] 25 (Prod.mk 0 0))
 (fun (m100 : Nat) => keepG [(Prod.mk ⟨m1, 0, none⟩ [(.pointer p94)]), (Prod.mk ⟨m3, 4, none⟩ [(.slice l93.a l93.n l93.c)])]
 (opG Tryz.prog (Builtin.append_ #[23, 23] 23 #[(.slice l93.a l93.n l93.c), (.slice (some ⟨m100, 0, none⟩) 1 1)]) (.one .slice)
 (fun (l101 : Sl) => idxG l101.a l101.n ((↑l93.n : Int)) 5
 (fun (a102 : Addr) => bothG
 (stG (Addr.add a102 0) (.int .i64 n95)
 (stG (Addr.add a102 1) (.string s96)
 (stG (Addr.add a102 2) (.string s97)
 (stG (Addr.add a102 3) (.slice l98.a l98.n l98.c)
 (stG (Addr.add a102 4) (.slice l99.a l99.n l99.c)
 (stG ⟨m3, 4, none⟩ (.slice l101.a l101.n l101.c)
 (k88)))))))
 (stG ⟨m3, 4, none⟩ (.slice l101.a l101.n l101.c)
 (stG (Addr.add a102 0) (.int .i64 n95)
 (stG (Addr.add a102 1) (.string s96)
 (stG (Addr.add a102 2) (.string s97)
 (stG (Addr.add a102 3) (.slice l98.a l98.n l98.c)
 (stG (Addr.add a102 4) (.slice l99.a l99.n l99.c)
 (k88))))))))))))))
 (newG (Obj.cells #[(.int .i64 (0 : Int)), (.string (ByteArray.mk #[])), (.string (ByteArray.mk #[])), (.slice none 0 0), (.slice none 0 0)] 25 (Prod.mk 0 0))
 (fun (m103 : Nat) => keepG [(Prod.mk ⟨m1, 0, none⟩ [(.pointer p94)]), (Prod.mk ⟨m3, 4, none⟩ [(.slice l93.a l93.n l93.c)])]
 (callG Tryz.prog 149 #[(.pointer p94)] [(VT.agg [(.int .i64), CT.str, CT.str, CT.slice, CT.slice])]
 (fun (n104 : Int) => fun (s105 : ByteArray) => fun (s106 : ByteArray) => fun (l107 : Sl) => fun (l108 : Sl) => keepG [(Prod.mk ⟨m3, 4, none⟩ [(.slice l93.a l93.n l93.c)])]
 (opG Tryz.prog (Builtin.append_ #[23, 23] 23 #[(.slice l93.a l93.n l93.c), (.slice (some ⟨m103, 0, none⟩) 1 1)]) (.one .slice)
 (fun (l109 : Sl) => idxG l109.a l109.n ((↑l93.n : Int)) 5
 (fun (a110 : Addr) => bothG
 (stG (Addr.add a110 0) (.int .i64 n104)
 (stG (Addr.add a110 1) (.string s105)
 (stG (Addr.add a110 2) (.string s106)
 (stG (Addr.add a110 3) (.slice l107.a l107.n l107.c)
 (stG (Addr.add a110 4) (.slice l108.a l108.n l108.c)
 (stG ⟨m3, 4, none⟩ (.slice l109.a l109.n l109.c)
 (k88)))))))
 (stG ⟨m3, 4, none⟩ (.slice l109.a l109.n l109.c)
 (stG (Addr.add a110 0) (.int .i64 n104)
 (stG (Addr.add a110 1) (.string s105)
 (stG (Addr.add a110 2) (.string s106)
 (stG (Addr.add a110 3) (.slice l107.a l107.n l107.c)
 (stG (Addr.add a110 4) (.slice l108.a l108.n l108.c)
 (k88)))))))))))))))))))))))))
 (drewG
 (ldG .ptr ⟨m1, 0, none⟩
 (fun (p111 : Option Addr) => nnG p111
 (fun (a112 : Addr) => ldG (.int .i64) ⟨m9, 2, none⟩
 (fun (n113 : Int) => callG Tryz.prog 147 #[(.pointer (some (Addr.add a112 0))), (.int .i64 (90 : Int)), (.int .i64 n113)] []
 (keepG [(Prod.mk ⟨m1, 0, none⟩ [(.pointer p111)])]
 (k88))))))))
 (k82))))))
 (k76))))))
 (k63))))))
 (k10)))))))))
 (ldG (.int .i64) ⟨m3, 0, none⟩
 (fun (n114 : Int) => ldG .str ⟨m3, 1, none⟩
 (fun (s115 : ByteArray) => ldG .str ⟨m3, 2, none⟩
 (fun (s116 : ByteArray) => ldG .slice ⟨m3, 3, none⟩
 (fun (l117 : Sl) => ldG .slice ⟨m3, 4, none⟩
 (fun (l118 : Sl) => stG ⟨m2, 0, none⟩ (.int .i64 n114)
 (stG ⟨m2, 1, none⟩ (.string s115)
 (stG ⟨m2, 2, none⟩ (.string s116)
 (stG ⟨m2, 3, none⟩ (.slice l117.a l117.n l117.c)
 (stG ⟨m2, 4, none⟩ (.slice l118.a l118.n l118.c)
 (ldG (.int .i64) ⟨m2, 0, none⟩
 (fun (n119 : Int) => ldG .str ⟨m2, 1, none⟩
 (fun (s120 : ByteArray) => ldG .str ⟨m2, 2, none⟩
 (fun (s121 : ByteArray) => ldG .slice ⟨m2, 3, none⟩
 (fun (l122 : Sl) => ldG .slice ⟨m2, 4, none⟩
 (fun (l123 : Sl) => retG (.agg #[(.int .i64 n119), (.string s120), (.string s121), (.slice l122.a l122.n l122.c), (.slice l123.a l123.n l123.c)])))))))))))))))))))))))))))
theorem e149 : denF Tryz.prog (GA Tryz.prog) Tryz.f149 [(VT.one CT.ptr)] (.seq .leaf (.seq .leaf (.seq .leaf (.seq (.seq .leaf (.block (sl Tryz.prog []) (.seq (.r (sl Tryz.prog [(17, 4)])) (.cond .leaf (.seq (.r (sl Tryz.prog [(40, 4)])) (.cond .leaf (.seq .leaf (.condj (sl Tryz.prog []) .leaf (.seq .leaf (.condj (sl Tryz.prog []) .leaf (.seq .leaf (.condj (sl Tryz.prog []) .leaf (.seq .leaf (.condj (sl Tryz.prog []) .leaf .leaf)))))))))))))) .leaf)))) = t149 := by kernel_rfl
theorem c149 (x0 : Option Addr) {R : Ending → World → Prop} {w : World} (h : t149 x0 R w) : Calls Tryz.prog 149 #[.pointer x0] w R :=
  lift mixed Tryz.func149 e149 rfl ((x0, ()), ()) R w h
def t180 : Addr → Addr → G :=
 fun (a0 : Addr) => fun (a1 : Addr) => drewG
 (ldG .ptr a0
 (fun (p2 : Option Addr) => nnG p2
 (fun (a3 : Addr) => ldG .slice (Addr.add a1 3)
 (fun (l4 : Sl) => callG Tryz.prog 181 #[(.pointer (some (Addr.add a3 0))), (.slice l4.a l4.n l4.c)] [(.one .str)]
 (fun (s5 : ByteArray) => keepG [(Prod.mk a0 [(.pointer p2)])]
 (ldG .slice (Addr.add a1 3)
 (fun (l6 : Sl) => newG (Obj.cells #[(.string s5)] 9 (Prod.mk 0 0))
 (fun (m7 : Nat) => opG Tryz.prog (Builtin.append_ #[22, 22] 22 #[(.slice l6.a l6.n l6.c), (.slice (some ⟨m7, 0, none⟩) 1 1)]) (.one .slice)
 (fun (l8 : Sl) => stG (Addr.add a1 3) (.slice l8.a l8.n l8.c)
 (drewG
 (ldG .slice (Addr.add a1 4)
 (fun (l9 : Sl) => ldG .ptr a0
 (fun (p10 : Option Addr) => bothG
 (callG Tryz.prog 182 #[(.pointer p10)] [(VT.agg [(.int .i64), CT.str, CT.str, CT.slice, CT.slice])]
 (fun (n11 : Int) => fun (s12 : ByteArray) => fun (s13 : ByteArray) => fun (l14 : Sl) => fun (l15 : Sl) => keepG [(Prod.mk (Addr.add a1 4) [(.slice l9.a l9.n l9.c)])]
 (newG (Obj.cells #[(.int .i64 (0 : Int)), (.string (ByteArray.mk #[])), (.string (ByteArray.mk #[])), (.slice none 0 0), (.slice none 0 0)] 25 (Prod.mk 0 0))
 (fun (m16 : Nat) => keepG [(Prod.mk a0 [(.pointer p10)]), (Prod.mk (Addr.add a1 4) [(.slice l9.a l9.n l9.c)])]
 (opG Tryz.prog (Builtin.append_ #[23, 23] 23 #[(.slice l9.a l9.n l9.c), (.slice (some ⟨m16, 0, none⟩) 1 1)]) (.one .slice)
 (fun (l17 : Sl) => idxG l17.a l17.n ((↑l9.n : Int)) 5
 (fun (a18 : Addr) => bothG
 (stG (Addr.add a18 0) (.int .i64 n11)
 (stG (Addr.add a18 1) (.string s12)
 (stG (Addr.add a18 2) (.string s13)
 (stG (Addr.add a18 3) (.slice l14.a l14.n l14.c)
 (stG (Addr.add a18 4) (.slice l15.a l15.n l15.c)
 (stG (Addr.add a1 4) (.slice l17.a l17.n l17.c)
 (retG (.tuple #[]))))))))
 (stG (Addr.add a1 4) (.slice l17.a l17.n l17.c)
 (stG (Addr.add a18 0) (.int .i64 n11)
 (stG (Addr.add a18 1) (.string s12)
 (stG (Addr.add a18 2) (.string s13)
 (stG (Addr.add a18 3) (.slice l14.a l14.n l14.c)
 (stG (Addr.add a18 4) (.slice l15.a l15.n l15.c)
 (retG (.tuple #[])))))))))))))))
 (newG (Obj.cells #[(.int .i64 (0 : Int)), (.string (ByteArray.mk #[])), (.string (ByteArray.mk #[])), (.slice none 0 0), (.slice none 0 0)] 25 (Prod.mk 0 0))
 (fun (m19 : Nat) => keepG [(Prod.mk a0 [(.pointer p10)]), (Prod.mk (Addr.add a1 4) [(.slice l9.a l9.n l9.c)])]
 (callG Tryz.prog 182 #[(.pointer p10)] [(VT.agg [(.int .i64), CT.str, CT.str, CT.slice, CT.slice])]
 (fun (n20 : Int) => fun (s21 : ByteArray) => fun (s22 : ByteArray) => fun (l23 : Sl) => fun (l24 : Sl) => keepG [(Prod.mk (Addr.add a1 4) [(.slice l9.a l9.n l9.c)])]
 (opG Tryz.prog (Builtin.append_ #[23, 23] 23 #[(.slice l9.a l9.n l9.c), (.slice (some ⟨m19, 0, none⟩) 1 1)]) (.one .slice)
 (fun (l25 : Sl) => idxG l25.a l25.n ((↑l9.n : Int)) 5
 (fun (a26 : Addr) => bothG
 (stG (Addr.add a26 0) (.int .i64 n20)
 (stG (Addr.add a26 1) (.string s21)
 (stG (Addr.add a26 2) (.string s22)
 (stG (Addr.add a26 3) (.slice l23.a l23.n l23.c)
 (stG (Addr.add a26 4) (.slice l24.a l24.n l24.c)
 (stG (Addr.add a1 4) (.slice l25.a l25.n l25.c)
 (retG (.tuple #[]))))))))
 (stG (Addr.add a1 4) (.slice l25.a l25.n l25.c)
 (stG (Addr.add a26 0) (.int .i64 n20)
 (stG (Addr.add a26 1) (.string s21)
 (stG (Addr.add a26 2) (.string s22)
 (stG (Addr.add a26 3) (.slice l23.a l23.n l23.c)
 (stG (Addr.add a26 4) (.slice l24.a l24.n l24.c)
 (retG (.tuple #[]))))))))))))))))))))))))))))
theorem e180 : denF Tryz.prog (GA Tryz.prog) Tryz.f180 [(VT.one CT.addr), (VT.one CT.addr)] .leaf = t180 := by kernel_rfl
theorem c180 (x0 : Addr) (x1 : Addr) {R : Ending → World → Prop} {w : World} (h : t180 x0 x1 R w) : Calls Tryz.prog 180 #[.pointer (some x0), .pointer (some x1)] w R :=
  lift mixed Tryz.func180 e180 rfl ((x0, ()), (x1, ()), ()) R w h
def t181 : Option Addr → Sl → G :=
 fun (p0 : Option Addr) => fun (l1 : Sl) => callG Tryz.prog 185 #[(.pointer p0), (.int .i64 (1 : Int))] [(VT.agg [(.int .i64), CT.str, (.int .i64)])]
 (fun (n2 : Int) => fun (s3 : ByteArray) => fun (n4 : Int) => newG (Obj.cells #[(.int .i64 (0 : Int)), (.string (ByteArray.mk #[])), (.int .i64 (0 : Int))] 124 (Prod.mk 0 0))
 (fun (m5 : Nat) => stG ⟨m5, 0, none⟩ (.int .i64 n2)
 (stG ⟨m5, 1, none⟩ (.string s3)
 (stG ⟨m5, 2, none⟩ (.int .i64 n4)
 (joinG [(.one .bool)]
 (fun k6 => callG Tryz.prog 108 #[(.pointer p0)] [(.one .bool)]
 (fun (b7 : Bool) => iteG (!b7)
 (ldG .str ⟨m5, 1, none⟩
 (fun (s8 : ByteArray) => callG Tryz.prog 204 #[(.slice l1.a l1.n l1.c), (.string s8)] [(.one .bool)]
 (fun (b9 : Bool) => k6 b9)))
 (k6 false)))
 (fun (b10 : Bool) => joinG []
 (fun k11 => iteG b10
 (ldG (.int .i64) ⟨m5, 2, none⟩
 (fun (n12 : Int) => callG Tryz.prog 147 #[(.pointer p0), (.int .i64 (111 : Int)), (.int .i64 n12)] []
 (k11)))
 (k11))
 (ldG .str ⟨m5, 1, none⟩
 (fun (s13 : ByteArray) => retG (.string s13)))))))))
theorem e181 : denF Tryz.prog (GA Tryz.prog) Tryz.f181 [(VT.one CT.ptr), (VT.one CT.slice)] (.seq .leaf (.seq .leaf (.seq (.seq (.r (sl Tryz.prog [(16, 4)])) (.condj (sl Tryz.prog []) .leaf .leaf)) .leaf))) = t181 := by kernel_rfl
theorem c181 (x0 : Option Addr) (x1 : Sl) {R : Ending → World → Prop} {w : World} (h : t181 x0 x1 R w) : Calls Tryz.prog 181 #[.pointer x0, .slice x1.a x1.n x1.c] w R :=
  lift mixed Tryz.func181 e181 rfl ((x0, ()), (x1, ()), ()) R w h
def t182 : Option Addr → G :=
 fun (p0 : Option Addr) => newG (Obj.cells #[(.int .i64 (0 : Int)), (.string (ByteArray.mk #[])), (.string (ByteArray.mk #[])), (.slice none 0 0), (.slice none 0 0)] 25 (Prod.mk 0 0))
 (fun (m1 : Nat) => nnG p0
 (fun (a2 : Addr) => callG Tryz.prog 184 #[(.pointer (some (Addr.add a2 0))), (.string (ByteArray.mk #[58]))] []
 (callG Tryz.prog 149 #[(.pointer p0)] [(VT.agg [(.int .i64), CT.str, CT.str, CT.slice, CT.slice])]
 (fun (n3 : Int) => fun (s4 : ByteArray) => fun (s5 : ByteArray) => fun (l6 : Sl) => fun (l7 : Sl) => stG ⟨m1, 0, none⟩ (.int .i64 n3)
 (stG ⟨m1, 1, none⟩ (.string s4)
 (stG ⟨m1, 2, none⟩ (.string s5)
 (stG ⟨m1, 3, none⟩ (.slice l6.a l6.n l6.c)
 (stG ⟨m1, 4, none⟩ (.slice l7.a l7.n l7.c)
 (ldG (.int .i64) ⟨m1, 0, none⟩
 (fun (n8 : Int) => ldG .str ⟨m1, 1, none⟩
 (fun (s9 : ByteArray) => ldG .str ⟨m1, 2, none⟩
 (fun (s10 : ByteArray) => ldG .slice ⟨m1, 3, none⟩
 (fun (l11 : Sl) => ldG .slice ⟨m1, 4, none⟩
 (fun (l12 : Sl) => retG (.agg #[(.int .i64 n8), (.string s9), (.string s10), (.slice l11.a l11.n l11.c), (.slice l12.a l12.n l12.c)])))))))))))))))
theorem e182 : denF Tryz.prog (GA Tryz.prog) Tryz.f182 [(VT.one CT.ptr)] .leaf = t182 := by kernel_rfl
theorem c182 (x0 : Option Addr) {R : Ending → World → Prop} {w : World} (h : t182 x0 R w) : Calls Tryz.prog 182 #[.pointer x0] w R :=
  lift mixed Tryz.func182 e182 rfl ((x0, ()), ()) R w h
def t183 : ByteArray → ByteArray → G :=
 fun (s0 : ByteArray) => fun (s1 : ByteArray) => newG (Obj.cells #[(.int .i64 (0 : Int)), (.string (ByteArray.mk #[])), (.string (ByteArray.mk #[])), (.slice none 0 0), (.slice none 0 0)] 25 (Prod.mk 0 0))
 (fun (m2 : Nat) => joinG []
 (fun k3 => iteG (ByteArray.toList s0 == ByteArray.toList (ByteArray.mk #[]))
 (joinG []
 (fun k4 => iteG (ByteArray.toList s1 == ByteArray.toList (ByteArray.mk #[(73 : UInt8), (110 : UInt8), (116 : UInt8)]))
 (stG ⟨m2, 0, none⟩ (.int .i64 (1 : Int))
 (stG ⟨m2, 1, none⟩ (.string (ByteArray.mk #[]))
 (stG ⟨m2, 2, none⟩ (.string (ByteArray.mk #[]))
 (stG ⟨m2, 3, none⟩ (.slice none 0 0)
 (stG ⟨m2, 4, none⟩ (.slice none 0 0)
 (ldG (.int .i64) ⟨m2, 0, none⟩
 (fun (n5 : Int) => ldG .str ⟨m2, 1, none⟩
 (fun (s6 : ByteArray) => ldG .str ⟨m2, 2, none⟩
 (fun (s7 : ByteArray) => ldG .slice ⟨m2, 3, none⟩
 (fun (l8 : Sl) => ldG .slice ⟨m2, 4, none⟩
 (fun (l9 : Sl) => retG (.agg #[(.int .i64 n5), (.string s6), (.string s7), (.slice l8.a l8.n l8.c), (.slice l9.a l9.n l9.c)]))))))))))))
 (iteG (ByteArray.toList s1 == ByteArray.toList (ByteArray.mk #[(66 : UInt8), (111 : UInt8), (111 : UInt8), (108 : UInt8)]))
 (stG ⟨m2, 0, none⟩ (.int .i64 (2 : Int))
 (stG ⟨m2, 1, none⟩ (.string (ByteArray.mk #[]))
 (stG ⟨m2, 2, none⟩ (.string (ByteArray.mk #[]))
 (stG ⟨m2, 3, none⟩ (.slice none 0 0)
 (stG ⟨m2, 4, none⟩ (.slice none 0 0)
 (ldG (.int .i64) ⟨m2, 0, none⟩
 (fun (n10 : Int) => ldG .str ⟨m2, 1, none⟩
 (fun (s11 : ByteArray) => ldG .str ⟨m2, 2, none⟩
 (fun (s12 : ByteArray) => ldG .slice ⟨m2, 3, none⟩
 (fun (l13 : Sl) => ldG .slice ⟨m2, 4, none⟩
 (fun (l14 : Sl) => retG (.agg #[(.int .i64 n10), (.string s11), (.string s12), (.slice l13.a l13.n l13.c), (.slice l14.a l14.n l14.c)]))))))))))))
 (iteG (ByteArray.toList s1 == ByteArray.toList (ByteArray.mk #[(84 : UInt8), (101 : UInt8), (120 : UInt8), (116 : UInt8)]))
 (stG ⟨m2, 0, none⟩ (.int .i64 (3 : Int))
 (stG ⟨m2, 1, none⟩ (.string (ByteArray.mk #[]))
 (stG ⟨m2, 2, none⟩ (.string (ByteArray.mk #[]))
 (stG ⟨m2, 3, none⟩ (.slice none 0 0)
 (stG ⟨m2, 4, none⟩ (.slice none 0 0)
 (ldG (.int .i64) ⟨m2, 0, none⟩
 (fun (n15 : Int) => ldG .str ⟨m2, 1, none⟩
 (fun (s16 : ByteArray) => ldG .str ⟨m2, 2, none⟩
 (fun (s17 : ByteArray) => ldG .slice ⟨m2, 3, none⟩
 (fun (l18 : Sl) => ldG .slice ⟨m2, 4, none⟩
 (fun (l19 : Sl) => retG (.agg #[(.int .i64 n15), (.string s16), (.string s17), (.slice l18.a l18.n l18.c), (.slice l19.a l19.n l19.c)]))))))))))))
 (iteG (ByteArray.toList s1 == ByteArray.toList (ByteArray.mk #[(65 : UInt8), (110 : UInt8), (121 : UInt8)]))
 (stG ⟨m2, 0, none⟩ (.int .i64 (4 : Int))
 (stG ⟨m2, 1, none⟩ (.string (ByteArray.mk #[]))
 (stG ⟨m2, 2, none⟩ (.string (ByteArray.mk #[]))
 (stG ⟨m2, 3, none⟩ (.slice none 0 0)
 (stG ⟨m2, 4, none⟩ (.slice none 0 0)
 (ldG (.int .i64) ⟨m2, 0, none⟩
 (fun (n20 : Int) => ldG .str ⟨m2, 1, none⟩
 (fun (s21 : ByteArray) => ldG .str ⟨m2, 2, none⟩
 (fun (s22 : ByteArray) => ldG .slice ⟨m2, 3, none⟩
 (fun (l23 : Sl) => ldG .slice ⟨m2, 4, none⟩
 (fun (l24 : Sl) => retG (.agg #[(.int .i64 n20), (.string s21), (.string s22), (.slice l23.a l23.n l23.c), (.slice l24.a l24.n l24.c)]))))))))))))
 (k4)))))
 (k3))
 (k3))
 (stG ⟨m2, 0, none⟩ (.int .i64 (9 : Int))
 (stG ⟨m2, 1, none⟩ (.string s0)
 (stG ⟨m2, 2, none⟩ (.string s1)
 (stG ⟨m2, 3, none⟩ (.slice none 0 0)
 (stG ⟨m2, 4, none⟩ (.slice none 0 0)
 (ldG (.int .i64) ⟨m2, 0, none⟩
 (fun (n25 : Int) => ldG .str ⟨m2, 1, none⟩
 (fun (s26 : ByteArray) => ldG .str ⟨m2, 2, none⟩
 (fun (s27 : ByteArray) => ldG .slice ⟨m2, 3, none⟩
 (fun (l28 : Sl) => ldG .slice ⟨m2, 4, none⟩
 (fun (l29 : Sl) => retG (.agg #[(.int .i64 n25), (.string s26), (.string s27), (.slice l28.a l28.n l28.c), (.slice l29.a l29.n l29.c)])))))))))))))
theorem e183 : denF Tryz.prog (GA Tryz.prog) Tryz.f183 [(VT.one CT.str), (VT.one CT.str)] (.seq .leaf (.seq (.seq .leaf (.condj (sl Tryz.prog []) (.seq .leaf (.block (sl Tryz.prog []) .leaf)) .leaf)) .leaf)) = t183 := by kernel_rfl
theorem c183 (x0 : ByteArray) (x1 : ByteArray) {R : Ending → World → Prop} {w : World} (h : t183 x0 x1 R w) : Calls Tryz.prog 183 #[.string x0, .string x1] w R :=
  lift mixed Tryz.func183 e183 rfl ((x0, ()), (x1, ()), ()) R w h
def t184 : Option Addr → ByteArray → G :=
 fun (p0 : Option Addr) => fun (s1 : ByteArray) => callG Tryz.prog 186 #[(.pointer p0), (.string s1)] [(.one .bool)]
 (fun (b2 : Bool) => joinG []
 (fun k3 => iteG (!b2)
 (callG Tryz.prog 148 #[(.pointer p0)] [(VT.agg [(.int .i64), CT.str, (.int .i64)])]
 (fun (_ : Int) => fun (_ : ByteArray) => fun (n6 : Int) => callG Tryz.prog 147 #[(.pointer p0), (.int .i64 (90 : Int)), (.int .i64 n6)] []
 (k3)))
 (k3))
 (retG (.tuple #[])))
theorem e184 : denF Tryz.prog (GA Tryz.prog) Tryz.f184 [(VT.one CT.ptr), (VT.one CT.str)] (.seq .leaf (.condj (sl Tryz.prog []) .leaf .leaf)) = t184 := by kernel_rfl
theorem c184 (x0 : Option Addr) (x1 : ByteArray) {R : Ending → World → Prop} {w : World} (h : t184 x0 x1 R w) : Calls Tryz.prog 184 #[.pointer x0, .string x1] w R :=
  lift mixed Tryz.func184 e184 rfl ((x0, ()), (x1, ()), ()) R w h
def t185 : Option Addr → Int → G :=
 fun (p0 : Option Addr) => fun (n1 : Int) => newG (Obj.cells #[(.int .i64 (0 : Int)), (.string (ByteArray.mk #[])), (.int .i64 (0 : Int))] 124 (Prod.mk 0 0))
 (fun (m2 : Nat) => callG Tryz.prog 148 #[(.pointer p0)] [(VT.agg [(.int .i64), CT.str, (.int .i64)])]
 (fun (n3 : Int) => fun (s4 : ByteArray) => fun (n5 : Int) => newG (Obj.cells #[(.int .i64 (0 : Int)), (.string (ByteArray.mk #[])), (.int .i64 (0 : Int))] 124 (Prod.mk 0 0))
 (fun (m6 : Nat) => stG ⟨m6, 0, none⟩ (.int .i64 n3)
 (stG ⟨m6, 1, none⟩ (.string s4)
 (stG ⟨m6, 2, none⟩ (.int .i64 n5)
 (joinG [(.one .bool)]
 (fun k7 => ldG (.int .i64) ⟨m6, 0, none⟩
 (fun (n8 : Int) => iteG (n8 != n1)
 (k7 true)
 (callG Tryz.prog 108 #[(.pointer p0)] [(.one .bool)]
 (fun (b9 : Bool) => k7 b9))))
 (fun (b10 : Bool) => iteG b10
 (ldG (.int .i64) ⟨m6, 2, none⟩
 (fun (n11 : Int) => callG Tryz.prog 147 #[(.pointer p0), (.int .i64 (90 : Int)), (.int .i64 n11)] []
 (stG ⟨m2, 0, none⟩ (.int .i64 (0 : Int))
 (stG ⟨m2, 1, none⟩ (.string (ByteArray.mk #[]))
 (stG ⟨m2, 2, none⟩ (.int .i64 (0 : Int))
 (ldG (.int .i64) ⟨m2, 0, none⟩
 (fun (n12 : Int) => ldG .str ⟨m2, 1, none⟩
 (fun (s13 : ByteArray) => ldG (.int .i64) ⟨m2, 2, none⟩
 (fun (n14 : Int) => retG (.agg #[(.int .i64 n12), (.string s13), (.int .i64 n14)]))))))))))
 (nnG p0
 (fun (a15 : Addr) => ldG (.int .i64) (Addr.add a15 1)
 (fun (n16 : Int) => nnG p0
 (fun (a17 : Addr) => stG (Addr.add a17 1) (.int .i64 (IntKind.wrap IntKind.i64 (n16 + (1 : Int))))
 (ldG (.int .i64) ⟨m6, 0, none⟩
 (fun (n18 : Int) => ldG .str ⟨m6, 1, none⟩
 (fun (s19 : ByteArray) => ldG (.int .i64) ⟨m6, 2, none⟩
 (fun (n20 : Int) => stG ⟨m2, 0, none⟩ (.int .i64 n18)
 (stG ⟨m2, 1, none⟩ (.string s19)
 (stG ⟨m2, 2, none⟩ (.int .i64 n20)
 (ldG (.int .i64) ⟨m2, 0, none⟩
 (fun (n21 : Int) => ldG .str ⟨m2, 1, none⟩
 (fun (s22 : ByteArray) => ldG (.int .i64) ⟨m2, 2, none⟩
 (fun (n23 : Int) => retG (.agg #[(.int .i64 n21), (.string s22), (.int .i64 n23)]))))))))))))))))))))))
theorem e185 : denF Tryz.prog (GA Tryz.prog) Tryz.f185 [(VT.one CT.ptr), (VT.one (CT.int IntKind.i64))] (.seq .leaf (.seq .leaf (.seq (.seq (.r (sl Tryz.prog [(15, 4)])) .leaf) .leaf))) = t185 := by kernel_rfl
theorem c185 (x0 : Option Addr) (x1 : Int) {R : Ending → World → Prop} {w : World} (h : t185 x0 x1 R w) : Calls Tryz.prog 185 #[.pointer x0, .int .i64 x1] w R :=
  lift mixed Tryz.func185 e185 rfl ((x0, ()), (x1, ()), ()) R w h
def t186 : Option Addr → ByteArray → G :=
 fun (p0 : Option Addr) => fun (s1 : ByteArray) => callG Tryz.prog 205 #[(.pointer p0), (.string s1)] [(.one .bool)]
 (fun (b2 : Bool) => iteG (!b2)
 (retG (.bool false))
 (nnG p0
 (fun (a3 : Addr) => ldG (.int .i64) (Addr.add a3 1)
 (fun (n4 : Int) => nnG p0
 (fun (a5 : Addr) => stG (Addr.add a5 1) (.int .i64 (IntKind.wrap IntKind.i64 (n4 + (1 : Int))))
 (retG (.bool true)))))))
theorem e186 : denF Tryz.prog (GA Tryz.prog) Tryz.f186 [(VT.one CT.ptr), (VT.one CT.str)] .leaf = t186 := by kernel_rfl
theorem c186 (x0 : Option Addr) (x1 : ByteArray) {R : Ending → World → Prop} {w : World} (h : t186 x0 x1 R w) : Calls Tryz.prog 186 #[.pointer x0, .string x1] w R :=
  lift mixed Tryz.func186 e186 rfl ((x0, ()), (x1, ()), ()) R w h
def t188 : Addr → Addr → G :=
 fun (a0 : Addr) => fun (a1 : Addr) => drewG
 (ldG .slice (Addr.add a0 4)
 (fun (l2 : Sl) => ldG .ptr a1
 (fun (p3 : Option Addr) => bothG
 (callG Tryz.prog 149 #[(.pointer p3)] [(VT.agg [(.int .i64), CT.str, CT.str, CT.slice, CT.slice])]
 (fun (n4 : Int) => fun (s5 : ByteArray) => fun (s6 : ByteArray) => fun (l7 : Sl) => fun (l8 : Sl) => keepG [(Prod.mk (Addr.add a0 4) [(.slice l2.a l2.n l2.c)])]
 (newG (Obj.cells #[(.int .i64 (0 : Int)), (.string (ByteArray.mk #[])), (.string (ByteArray.mk #[])), (.slice none 0 0), (.slice none 0 0)] 25 (Prod.mk 0 0))
 (fun (m9 : Nat) => keepG [(Prod.mk a1 [(.pointer p3)]), (Prod.mk (Addr.add a0 4) [(.slice l2.a l2.n l2.c)])]
 (opG Tryz.prog (Builtin.append_ #[23, 23] 23 #[(.slice l2.a l2.n l2.c), (.slice (some ⟨m9, 0, none⟩) 1 1)]) (.one .slice)
 (fun (l10 : Sl) => idxG l10.a l10.n ((↑l2.n : Int)) 5
 (fun (a11 : Addr) => bothG
 (stG (Addr.add a11 0) (.int .i64 n4)
 (stG (Addr.add a11 1) (.string s5)
 (stG (Addr.add a11 2) (.string s6)
 (stG (Addr.add a11 3) (.slice l7.a l7.n l7.c)
 (stG (Addr.add a11 4) (.slice l8.a l8.n l8.c)
 (stG (Addr.add a0 4) (.slice l10.a l10.n l10.c)
 (retG (.tuple #[]))))))))
 (stG (Addr.add a0 4) (.slice l10.a l10.n l10.c)
 (stG (Addr.add a11 0) (.int .i64 n4)
 (stG (Addr.add a11 1) (.string s5)
 (stG (Addr.add a11 2) (.string s6)
 (stG (Addr.add a11 3) (.slice l7.a l7.n l7.c)
 (stG (Addr.add a11 4) (.slice l8.a l8.n l8.c)
 (retG (.tuple #[])))))))))))))))
 (newG (Obj.cells #[(.int .i64 (0 : Int)), (.string (ByteArray.mk #[])), (.string (ByteArray.mk #[])), (.slice none 0 0), (.slice none 0 0)] 25 (Prod.mk 0 0))
 (fun (m12 : Nat) => keepG [(Prod.mk a1 [(.pointer p3)]), (Prod.mk (Addr.add a0 4) [(.slice l2.a l2.n l2.c)])]
 (callG Tryz.prog 149 #[(.pointer p3)] [(VT.agg [(.int .i64), CT.str, CT.str, CT.slice, CT.slice])]
 (fun (n13 : Int) => fun (s14 : ByteArray) => fun (s15 : ByteArray) => fun (l16 : Sl) => fun (l17 : Sl) => keepG [(Prod.mk (Addr.add a0 4) [(.slice l2.a l2.n l2.c)])]
 (opG Tryz.prog (Builtin.append_ #[23, 23] 23 #[(.slice l2.a l2.n l2.c), (.slice (some ⟨m12, 0, none⟩) 1 1)]) (.one .slice)
 (fun (l18 : Sl) => idxG l18.a l18.n ((↑l2.n : Int)) 5
 (fun (a19 : Addr) => bothG
 (stG (Addr.add a19 0) (.int .i64 n13)
 (stG (Addr.add a19 1) (.string s14)
 (stG (Addr.add a19 2) (.string s15)
 (stG (Addr.add a19 3) (.slice l16.a l16.n l16.c)
 (stG (Addr.add a19 4) (.slice l17.a l17.n l17.c)
 (stG (Addr.add a0 4) (.slice l18.a l18.n l18.c)
 (retG (.tuple #[]))))))))
 (stG (Addr.add a0 4) (.slice l18.a l18.n l18.c)
 (stG (Addr.add a19 0) (.int .i64 n13)
 (stG (Addr.add a19 1) (.string s14)
 (stG (Addr.add a19 2) (.string s15)
 (stG (Addr.add a19 3) (.slice l16.a l16.n l16.c)
 (stG (Addr.add a19 4) (.slice l17.a l17.n l17.c)
 (retG (.tuple #[]))))))))))))))))))
theorem e188 : denF Tryz.prog (GA Tryz.prog) Tryz.f188 [(VT.one CT.addr), (VT.one CT.addr)] .leaf = t188 := by kernel_rfl
theorem c188 (x0 : Addr) (x1 : Addr) {R : Ending → World → Prop} {w : World} (h : t188 x0 x1 R w) : Calls Tryz.prog 188 #[.pointer (some x0), .pointer (some x1)] w R :=
  lift mixed Tryz.func188 e188 rfl ((x0, ()), (x1, ()), ()) R w h
def t205 : Option Addr → ByteArray → G :=
 fun (p0 : Option Addr) => fun (s1 : ByteArray) => callG Tryz.prog 148 #[(.pointer p0)] [(VT.agg [(.int .i64), CT.str, (.int .i64)])]
 (fun (n2 : Int) => fun (s3 : ByteArray) => fun (n4 : Int) => newG (Obj.cells #[(.int .i64 (0 : Int)), (.string (ByteArray.mk #[])), (.int .i64 (0 : Int))] 124 (Prod.mk 0 0))
 (fun (m5 : Nat) => stG ⟨m5, 0, none⟩ (.int .i64 n2)
 (stG ⟨m5, 1, none⟩ (.string s3)
 (stG ⟨m5, 2, none⟩ (.int .i64 n4)
 (joinG [(.one .bool)]
 (fun k6 => ldG (.int .i64) ⟨m5, 0, none⟩
 (fun (n7 : Int) => iteG (n7 == (6 : Int))
 (ldG .str ⟨m5, 1, none⟩
 (fun (s8 : ByteArray) => iteG (ByteArray.toList s8 == ByteArray.toList s1)
 (callG Tryz.prog 108 #[(.pointer p0)] [(.one .bool)]
 (fun (b9 : Bool) => k6 (!b9)))
 (k6 false)))
 (ldG (.int .i64) ⟨m5, 0, none⟩
 (fun (n10 : Int) => iteG (n10 == (5 : Int))
 (ldG .str ⟨m5, 1, none⟩
 (fun (s11 : ByteArray) => iteG (ByteArray.toList s11 == ByteArray.toList s1)
 (callG Tryz.prog 108 #[(.pointer p0)] [(.one .bool)]
 (fun (b12 : Bool) => k6 (!b12)))
 (k6 false)))
 (k6 false)))))
 (fun (b13 : Bool) => retG (.bool b13)))))))
theorem e205 : denF Tryz.prog (GA Tryz.prog) Tryz.f205 [(VT.one CT.ptr), (VT.one CT.str)] (.seq .leaf (.seq .leaf (.seq (.r (sl Tryz.prog [(4, 4)])) .leaf))) = t205 := by kernel_rfl
theorem c205 (x0 : Option Addr) (x1 : ByteArray) {R : Ending → World → Prop} {w : World} (h : t205 x0 x1 R w) : Calls Tryz.prog 205 #[.pointer x0, .string x1] w R :=
  lift mixed Tryz.func205 e205 rfl ((x0, ()), (x1, ()), ()) R w h
end Go.Proofs.YticokfpaoiekgaaGreatDoor
end
