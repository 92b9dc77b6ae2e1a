/- The finder law behind FRanksCard: one part of its proof (joined by program out of my own texts). No condition. -/
import Derived.Test.YticokfpaoiekgaaGreatDoorFRkAD
section
set_option maxRecDepth 100000
namespace Go.Proofs.YticokfpaoiekgaaGreatDoor
open Go.Lift
def t51 : Sl → Value → G :=
 fun (l0 : Sl) => fun (v1 : Value) => callG Tryz.prog 83 #[(.slice l0.a l0.n l0.c), (.int .i64 ((↑l0.n : Int))), v1] []
 (retG (.tuple #[]))
theorem e51 : denF Tryz.prog (GA Tryz.prog) Tryz.f51 [(VT.one CT.slice), (VT.one CT.any)] .leaf = t51 := by kernel_rfl
theorem c51 (x0 : Sl) (x1 : Value) {R : Ending → World → Prop} {w : World} (h : t51 x0 x1 R w) : Calls Tryz.prog 51 #[.slice x0.a x0.n x0.c, x1] w R :=
  lift mixed Tryz.func51 e51 rfl ((x0, ()), (x1, ()), ()) R w h
def t56 : Sl → G :=
 fun (l0 : Sl) => iteG (Option.isNone l0.a)
 (retG (.slice none 0 0))
 (newG (Obj.cells #[] 46 (Prod.mk 0 0))
 (fun (m1 : Nat) => opG Tryz.prog (Builtin.append_ #[32, 32] 32 #[(.slice (some ⟨m1, 0, none⟩) 0 0), (.slice l0.a l0.n l0.c)]) (.one .slice)
 (fun (l2 : Sl) => retG (.slice l2.a l2.n l2.c))))
theorem e56 : denF Tryz.prog (GA Tryz.prog) Tryz.f56 [(VT.one CT.slice)] .leaf = t56 := by kernel_rfl
theorem c56 (x0 : Sl) {R : Ending → World → Prop} {w : World} (h : t56 x0 R w) : Calls Tryz.prog 56 #[.slice x0.a x0.n x0.c] w R :=
  lift mixed Tryz.func56 e56 rfl ((x0, ()), ()) R w h
def t68 : Sl → Sl → Value → G :=
 fun (l0 : Sl) => fun (l1 : Sl) => fun (v2 : Value) => iteG ((↑l0.n : Int) != (↑l1.n : Int))
 (retG (.bool false))
 (joinG []
 (fun k3 => loopG [(.one (.int .i64))]
 (fun k4 => fun (n5 : Int) => iteG (Decidable.decide (n5 < (↑l0.n : Int)))
 (joinG []
 (fun k6 => idxG l0.a l0.n n5 5
 (fun (a7 : Addr) => ldG (.int .i64) (Addr.add a7 0)
 (fun (n8 : Int) => ldG .str (Addr.add a7 1)
 (fun (s9 : ByteArray) => ldG .str (Addr.add a7 2)
 (fun (s10 : ByteArray) => ldG .slice (Addr.add a7 3)
 (fun (l11 : Sl) => ldG .slice (Addr.add a7 4)
 (fun (l12 : Sl) => newG (Obj.cells #[(.int .i64 (0 : Int)), (.string (ByteArray.mk #[])), (.string (ByteArray.mk #[])), (.slice none 0 0), (.slice none 0 0)] 25 (Prod.mk 0 0))
 (fun (m13 : Nat) => stG ⟨m13, 0, none⟩ (.int .i64 n8)
 (stG ⟨m13, 1, none⟩ (.string s9)
 (stG ⟨m13, 2, none⟩ (.string s10)
 (stG ⟨m13, 3, none⟩ (.slice l11.a l11.n l11.c)
 (stG ⟨m13, 4, none⟩ (.slice l12.a l12.n l12.c)
 (idxG l1.a l1.n n5 5
 (fun (a14 : Addr) => ldG (.int .i64) (Addr.add a14 0)
 (fun (n15 : Int) => ldG .str (Addr.add a14 1)
 (fun (s16 : ByteArray) => ldG .str (Addr.add a14 2)
 (fun (s17 : ByteArray) => ldG .slice (Addr.add a14 3)
 (fun (l18 : Sl) => ldG .slice (Addr.add a14 4)
 (fun (l19 : Sl) => newG (Obj.cells #[(.int .i64 (0 : Int)), (.string (ByteArray.mk #[])), (.string (ByteArray.mk #[])), (.slice none 0 0), (.slice none 0 0)] 25 (Prod.mk 0 0))
 (fun (m20 : Nat) => stG ⟨m20, 0, none⟩ (.int .i64 n15)
 (stG ⟨m20, 1, none⟩ (.string s16)
 (stG ⟨m20, 2, none⟩ (.string s17)
 (stG ⟨m20, 3, none⟩ (.slice l18.a l18.n l18.c)
 (stG ⟨m20, 4, none⟩ (.slice l19.a l19.n l19.c)
 (ldG (.int .i64) ⟨m13, 0, none⟩
 (fun (n21 : Int) => ldG .str ⟨m13, 1, none⟩
 (fun (s22 : ByteArray) => ldG .str ⟨m13, 2, none⟩
 (fun (s23 : ByteArray) => ldG .slice ⟨m13, 3, none⟩
 (fun (l24 : Sl) => ldG .slice ⟨m13, 4, none⟩
 (fun (l25 : Sl) => ldG (.int .i64) ⟨m20, 0, none⟩
 (fun (n26 : Int) => ldG .str ⟨m20, 1, none⟩
 (fun (s27 : ByteArray) => ldG .str ⟨m20, 2, none⟩
 (fun (s28 : ByteArray) => ldG .slice ⟨m20, 3, none⟩
 (fun (l29 : Sl) => ldG .slice ⟨m20, 4, none⟩
 (fun (l30 : Sl) => callVG Tryz.prog v2 #[(.agg #[(.int .i64 n21), (.string s22), (.string s23), (.slice l24.a l24.n l24.c), (.slice l25.a l25.n l25.c)]), (.agg #[(.int .i64 n26), (.string s27), (.string s28), (.slice l29.a l29.n l29.c), (.slice l30.a l30.n l30.c)])] [(.one .bool)]
 (fun (b31 : Bool) => iteG (!b31)
 (retG (.bool false))
 (k6)))))))))))))))))))))))))))))))))))))
 (k4 (IntKind.wrap IntKind.i64 (n5 + (1 : Int)))))
 (k3)) (0 : Int))
 (retG (.bool true)))
theorem e68 : denF Tryz.prog (GA Tryz.prog) Tryz.f68 [(VT.one CT.slice), (VT.one CT.slice), (VT.one CT.any)] (.seq .leaf (.seq .leaf (.seq (.seq .leaf (.block (sl Tryz.prog []) (.loop (sl Tryz.prog [(17, 3)]) (.seq .leaf (.seq .leaf (.seq (.block (sl Tryz.prog []) .leaf) .leaf)))))) .leaf))) = t68 := by kernel_rfl
theorem c68 (x0 : Sl) (x1 : Sl) (x2 : Value) {R : Ending → World → Prop} {w : World} (h : t68 x0 x1 x2 R w) : Calls Tryz.prog 68 #[.slice x0.a x0.n x0.c, .slice x1.a x1.n x1.c, x2] w R :=
  lift mixed Tryz.func68 e68 rfl ((x0, ()), (x1, ()), (x2, ()), ()) R w h
def t80 : ByteArray → G :=
 fun (s0 : ByteArray) => newG (Obj.cells #[(.int .i64 (0 : Int)), (.int .i64 (0 : Int))] 66 (Prod.mk 0 0))
 (fun (m1 : Nat) => iteG (Decidable.decide ((↑(ByteArray.size s0) : Int) > (4096 : Int)))
 (stG ⟨m1, 0, none⟩ (.int .i64 (3 : Int))
 (stG ⟨m1, 1, none⟩ (.int .i64 (4096 : Int))
 (ldG (.int .i64) ⟨m1, 0, none⟩
 (fun (n2 : Int) => ldG (.int .i64) ⟨m1, 1, none⟩
 (fun (n3 : Int) => retG (.tuple #[(.slice none 0 0), (.agg #[(.int .i64 n2), (.int .i64 n3)])]))))))
 (newG (Obj.cells #[(.string s0), (.int .i64 (0 : Int)), (.slice none 0 0), (.int .i64 (0 : Int)), (.int .i64 (0 : Int))] 118 (Prod.mk 0 0))
 (fun (m4 : Nat) => joinG []
 (fun k5 => loopG []
 (fun k6 => joinG []
 (fun k7 => callG Tryz.prog 102 #[(.pointer (some ⟨m4, 0, none⟩)), (.int .i64 (0 : Int))] [(.one (.int .u8))]
 (fun (n8 : Int) => joinG []
 (fun k9 => ldG (.int .i64) ⟨m4, 1, none⟩
 (fun (n10 : Int) => iteG (n10 == (↑(ByteArray.size s0) : Int))
 (k5)
 (joinG [(.one .bool)]
 (fun k11 => iteG (n8 == (32 : Int))
 (k11 true)
 (iteG (n8 == (10 : Int))
 (k11 true)
 (iteG (n8 == (9 : Int))
 (k11 true)
 (k11 (n8 == (13 : Int))))))
 (fun (b12 : Bool) => iteG b12
 (ldG (.int .i64) ⟨m4, 1, none⟩
 (fun (n13 : Int) => stG ⟨m4, 1, none⟩ (.int .i64 (IntKind.wrap IntKind.i64 (n13 + (1 : Int))))
 (k7)))
 (joinG [(.one .bool)]
 (fun k14 => iteG (n8 == (45 : Int))
 (callG Tryz.prog 102 #[(.pointer (some ⟨m4, 0, none⟩)), (.int .i64 (1 : Int))] [(.one (.int .u8))]
 (fun (n15 : Int) => k14 (n15 == (45 : Int))))
 (k14 false))
 (fun (b16 : Bool) => iteG b16
 (ldG (.int .i64) ⟨m4, 1, none⟩
 (fun (n17 : Int) => callG Tryz.prog 103 #[(.pointer (some ⟨m4, 0, none⟩)), (.func (Fn.func 104) #[] #[])] [(.one .str)]
 (fun (_ : ByteArray) => ldG (.int .i64) ⟨m4, 1, none⟩
 (fun (n19 : Int) => callG Tryz.prog 105 #[(.pointer (some ⟨m4, 0, none⟩)), (.int .i64 n17), (.int .i64 n19)] [(.one .bool)]
 (fun (b20 : Bool) => iteG (!b20)
 (drewG
 (ldG (.int .i64) ⟨m4, 3, none⟩
 (fun (n21 : Int) => ldG (.int .i64) ⟨m4, 4, none⟩
 (fun (n22 : Int) => stG ⟨m1, 0, none⟩ (.int .i64 n21)
 (stG ⟨m1, 1, none⟩ (.int .i64 n22)
 (ldG (.int .i64) ⟨m1, 0, none⟩
 (fun (n23 : Int) => ldG (.int .i64) ⟨m1, 1, none⟩
 (fun (n24 : Int) => retG (.tuple #[(.slice none 0 0), (.agg #[(.int .i64 n23), (.int .i64 n24)])])))))))))
 (k7))))))
 (k9)))))))
 (callG Tryz.prog 106 #[(.pointer (some ⟨m4, 0, none⟩))] [(.one .bool)]
 (fun (b25 : Bool) => iteG (!b25)
 (drewG
 (ldG (.int .i64) ⟨m4, 3, none⟩
 (fun (n26 : Int) => ldG (.int .i64) ⟨m4, 4, none⟩
 (fun (n27 : Int) => stG ⟨m1, 0, none⟩ (.int .i64 n26)
 (stG ⟨m1, 1, none⟩ (.int .i64 n27)
 (ldG (.int .i64) ⟨m1, 0, none⟩
 (fun (n28 : Int) => ldG (.int .i64) ⟨m1, 1, none⟩
 (fun (n29 : Int) => retG (.tuple #[(.slice none 0 0), (.agg #[(.int .i64 n28), (.int .i64 n29)])])))))))))
 (k7)))))
 (k6)))
 (ldG .slice ⟨m4, 2, none⟩
 (fun (l30 : Sl) => newG (Obj.cells #[(.int .i64 (0 : Int)), (.string (ByteArray.mk #[])), (.int .i64 ((↑(ByteArray.size s0) : Int)))] 124 (Prod.mk 0 0))
 (fun (m31 : Nat) => opG Tryz.prog (Builtin.append_ #[93, 93] 93 #[(.slice l30.a l30.n l30.c), (.slice (some ⟨m31, 0, none⟩) 1 1)]) (.one .slice)
 (fun (l32 : Sl) => stG ⟨m1, 0, none⟩ (.int .i64 (0 : Int))
 (stG ⟨m1, 1, none⟩ (.int .i64 (0 : Int))
 (ldG (.int .i64) ⟨m1, 0, none⟩
 (fun (n33 : Int) => ldG (.int .i64) ⟨m1, 1, none⟩
 (fun (n34 : Int) => retG (.tuple #[(.slice l32.a l32.n l32.c), (.agg #[(.int .i64 n33), (.int .i64 n34)])]))))))))))))
theorem e80 : denF Tryz.prog (GA Tryz.prog) Tryz.f80 [(VT.one CT.str)] (.seq .leaf (.seq .leaf (.seq .leaf (.seq .leaf (.seq (.block (sl Tryz.prog []) (.loop (sl Tryz.prog []) (.block (sl Tryz.prog []) (.seq (.seq .leaf (.block (sl Tryz.prog []) (.seq .leaf (.cond .leaf (.seq (.r (sl Tryz.prog [(28, 4)])) (.cond .leaf (.seq (.r (sl Tryz.prog [(52, 4)])) .leaf))))))) .leaf)))) .leaf))))) = t80 := by kernel_rfl
theorem c80 (x0 : ByteArray) {R : Ending → World → Prop} {w : World} (h : t80 x0 R w) : Calls Tryz.prog 80 #[.string x0] w R :=
  lift mixed Tryz.func80 e80 rfl ((x0, ()), ()) R w h
def t83 : Sl → Int → Value → G :=
 fun (l0 : Sl) => fun (n1 : Int) => fun (v2 : Value) => joinG [(.one (.int .i64))]
 (fun k3 => loopG [(.one (.int .i64)), (.one (.int .i64))]
 (fun k4 => fun (n5 : Int) => fun (n6 : Int) => iteG (Decidable.decide (n6 ≤ n1))
 (joinG [(.one (.int .i64)), (.one (.int .i64))]
 (fun k7 => callG Tryz.prog 110 #[(.slice l0.a l0.n l0.c), (.int .i64 n5), (.int .i64 n6), v2] []
 (k7 n6 (IntKind.wrap IntKind.i64 (n6 + (20 : Int)))))
 (fun (n8 : Int) => fun (n9 : Int) => k4 n8 n9))
 (k3 n5)) (0 : Int) (20 : Int))
 (fun (n10 : Int) => callG Tryz.prog 110 #[(.slice l0.a l0.n l0.c), (.int .i64 n10), (.int .i64 n1), v2] []
 (joinG []
 (fun k11 => loopG [(.one (.int .i64))]
 (fun k12 => fun (n13 : Int) => iteG (Decidable.decide (n13 < n1))
 (joinG [(.one (.int .i64))]
 (fun k14 => joinG [(.one (.int .i64))]
 (fun k15 => loopG [(.one (.int .i64)), (.one (.int .i64))]
 (fun k16 => fun (n17 : Int) => fun (n18 : Int) => iteG (Decidable.decide (n18 ≤ n1))
 (joinG [(.one (.int .i64)), (.one (.int .i64))]
 (fun k19 => callG Tryz.prog 111 #[(.slice l0.a l0.n l0.c), (.int .i64 n17), (.int .i64 (IntKind.wrap IntKind.i64 (n17 + n13))), (.int .i64 n18), v2] []
 (k19 n18 (IntKind.wrap IntKind.i64 (n18 + IntKind.wrap IntKind.i64 ((2 : Int) * n13)))))
 (fun (n20 : Int) => fun (n21 : Int) => k16 n20 n21))
 (k15 n17)) (0 : Int) (IntKind.wrap IntKind.i64 ((2 : Int) * n13)))
 (fun (n22 : Int) => joinG []
 (fun k23 => iteG (Decidable.decide (IntKind.wrap IntKind.i64 (n22 + n13) < n1))
 (callG Tryz.prog 111 #[(.slice l0.a l0.n l0.c), (.int .i64 n22), (.int .i64 (IntKind.wrap IntKind.i64 (n22 + n13))), (.int .i64 n1), v2] []
 (k23))
 (k23))
 (k14 (IntKind.wrap IntKind.i64 (n13 * (2 : Int))))))
 (fun (n24 : Int) => k12 n24))
 (k11)) (20 : Int))
 (retG (.tuple #[]))))
theorem e83 : denF Tryz.prog (GA Tryz.prog) Tryz.f83 [(VT.one CT.slice), (VT.one (CT.int IntKind.i64)), (VT.one CT.any)] (.seq .leaf (.seq .leaf (.seq (.block (sl Tryz.prog [(7, 3)]) (.loop (sl Tryz.prog [(7, 3), (8, 3)]) (.seq .leaf (.block (sl Tryz.prog [(7, 3), (8, 3)]) .leaf)))) (.seq .leaf (.block (sl Tryz.prog []) (.loop (sl Tryz.prog [(6, 3)]) (.seq .leaf (.block (sl Tryz.prog [(6, 3)]) (.seq .leaf (.seq (.block (sl Tryz.prog [(7, 3)]) (.loop (sl Tryz.prog [(7, 3), (8, 3)]) (.seq .leaf (.block (sl Tryz.prog [(7, 3), (8, 3)]) .leaf)))) (.seq (.seq .leaf (.seq .leaf (.condj (sl Tryz.prog []) .leaf .leaf))) .leaf))))))))))) = t83 := by kernel_rfl
theorem c83 (x0 : Sl) (x1 : Int) (x2 : Value) {R : Ending → World → Prop} {w : World} (h : t83 x0 x1 x2 R w) : Calls Tryz.prog 83 #[.slice x0.a x0.n x0.c, .int .i64 x1, x2] w R :=
  lift mixed Tryz.func83 e83 rfl ((x0, ()), (x1, ()), (x2, ()), ()) R w h
def t91 : ByteArray → G :=
 fun (s0 : ByteArray) => callG Tryz.prog 119 #[(.string s0), (.func (Fn.func 120) #[] #[])] [(.one .bool)]
 (fun (b1 : Bool) => retG (.bool b1))
theorem e91 : denF Tryz.prog (GA Tryz.prog) Tryz.f91 [(VT.one CT.str)] .leaf = t91 := by kernel_rfl
theorem c91 (x0 : ByteArray) {R : Ending → World → Prop} {w : World} (h : t91 x0 R w) : Calls Tryz.prog 91 #[.string x0] w R :=
  lift mixed Tryz.func91 e91 rfl ((x0, ()), ()) R w h
def t93 : ByteArray → G :=
 fun (s0 : ByteArray) => joinG [(.one .bool)]
 (fun k1 => callG Tryz.prog 119 #[(.string s0), (.func (Fn.func 121) #[] #[])] [(.one .bool)]
 (fun (b2 : Bool) => iteG b2
 (callG Tryz.prog 122 #[(.string s0)] [(.one .bool)]
 (fun (b3 : Bool) => k1 (!b3)))
 (k1 false)))
 (fun (b4 : Bool) => retG (.bool b4))
theorem e93 : denF Tryz.prog (GA Tryz.prog) Tryz.f93 [(VT.one CT.str)] (.seq .leaf (.seq (.r (sl Tryz.prog [(2, 4)])) .leaf)) = t93 := by kernel_rfl
theorem c93 (x0 : ByteArray) {R : Ending → World → Prop} {w : World} (h : t93 x0 R w) : Calls Tryz.prog 93 #[.string x0] w R :=
  lift mixed Tryz.func93 e93 rfl ((x0, ()), ()) R w h
def t102 : Option Addr → Int → G :=
 fun (p0 : Option Addr) => fun (n1 : Int) => drewG
 (nnG p0
 (fun (a2 : Addr) => ldG (.int .i64) (Addr.add a2 1)
 (fun (n3 : Int) => nnG p0
 (fun (a4 : Addr) => ldG .str (Addr.add a4 0)
 (fun (s5 : ByteArray) => iteG (Decidable.decide (IntKind.wrap IntKind.i64 (n3 + n1) ≥ (↑(ByteArray.size s5) : Int)))
 (retG (.int .u8 (0 : Int)))
 (drewG
 (nnG p0
 (fun (a6 : Addr) => ldG .str (Addr.add a6 0)
 (fun (s7 : ByteArray) => nnG p0
 (fun (a8 : Addr) => ldG (.int .i64) (Addr.add a8 1)
 (fun (n9 : Int) => chrG s7 (IntKind.wrap IntKind.i64 (n9 + n1))
 (fun (n10 : Int) => retG (.int .u8 n10)))))))))))))
theorem e102 : denF Tryz.prog (GA Tryz.prog) Tryz.f102 [(VT.one CT.ptr), (VT.one (CT.int IntKind.i64))] .leaf = t102 := by kernel_rfl
theorem c102 (x0 : Option Addr) (x1 : Int) {R : Ending → World → Prop} {w : World} (h : t102 x0 x1 R w) : Calls Tryz.prog 102 #[.pointer x0, .int .i64 x1] w R :=
  lift mixed Tryz.func102 e102 rfl ((x0, ()), (x1, ()), ()) R w h
def t103 : Option Addr → Value → G :=
 fun (p0 : Option Addr) => fun (v1 : Value) => nnG p0
 (fun (a2 : Addr) => ldG (.int .i64) (Addr.add a2 1)
 (fun (n3 : Int) => joinG []
 (fun k4 => loopG []
 (fun k5 => joinG [(.one .bool)]
 (fun k6 => drewG
 (nnG p0
 (fun (a7 : Addr) => ldG (.int .i64) (Addr.add a7 1)
 (fun (n8 : Int) => nnG p0
 (fun (a9 : Addr) => ldG .str (Addr.add a9 0)
 (fun (s10 : ByteArray) => iteG (Decidable.decide (n8 < (↑(ByteArray.size s10) : Int)))
 (nnG p0
 (fun (a11 : Addr) => ldG .str (Addr.add a11 0)
 (fun (s12 : ByteArray) => nnG p0
 (fun (a13 : Addr) => ldG (.int .i64) (Addr.add a13 1)
 (fun (n14 : Int) => chrG s12 n14
 (fun (n15 : Int) => callVG Tryz.prog v1 #[(.int .u8 n15)] [(.one .bool)]
 (fun (b16 : Bool) => keepG [(Prod.mk (Addr.add a9 0) [(.string s10)]), (Prod.mk (Addr.add a7 1) [(.int .i64 n8)])]
 (k6 b16))))))))
 (k6 false)))))))
 (fun (b17 : Bool) => iteG b17
 (joinG []
 (fun k18 => nnG p0
 (fun (a19 : Addr) => ldG (.int .i64) (Addr.add a19 1)
 (fun (n20 : Int) => nnG p0
 (fun (a21 : Addr) => stG (Addr.add a21 1) (.int .i64 (IntKind.wrap IntKind.i64 (n20 + (1 : Int))))
 (k18)))))
 (k5))
 (k4))))
 (drewG
 (nnG p0
 (fun (a22 : Addr) => ldG .str (Addr.add a22 0)
 (fun (s23 : ByteArray) => nnG p0
 (fun (a24 : Addr) => ldG (.int .i64) (Addr.add a24 1)
 (fun (n25 : Int) => subG s23 n3 n25
 (fun (s26 : ByteArray) => retG (.string s26))))))))))
theorem e103 : denF Tryz.prog (GA Tryz.prog) Tryz.f103 [(VT.one CT.ptr), (VT.one CT.any)] (.seq .leaf (.seq .leaf (.seq (.block (sl Tryz.prog []) (.loop (sl Tryz.prog []) (.seq (.seq (.r (sl Tryz.prog [(32, 4)])) .leaf) (.block (sl Tryz.prog []) .leaf)))) .leaf))) = t103 := by kernel_rfl
theorem c103 (x0 : Option Addr) (x1 : Value) {R : Ending → World → Prop} {w : World} (h : t103 x0 x1 R w) : Calls Tryz.prog 103 #[.pointer x0, x1] w R :=
  lift mixed Tryz.func103 e103 rfl ((x0, ()), (x1, ()), ()) R w h
def t104 : Int → G :=
 fun (n0 : Int) => retG (.bool (n0 != (10 : Int)))
theorem e104 : denF Tryz.prog (GA Tryz.prog) Tryz.f104 [(VT.one (CT.int IntKind.u8))] .leaf = t104 := by kernel_rfl
theorem c104 (x0 : Int) {R : Ending → World → Prop} {w : World} (h : t104 x0 R w) : Calls Tryz.prog 104 #[.int .u8 x0] w R :=
  lift mixed Tryz.func104 e104 rfl ((x0, ()), ()) R w h
def t105 : Option Addr → Int → Int → G :=
 fun (p0 : Option Addr) => fun (n1 : Int) => fun (n2 : Int) => nnG p0
 (fun (a3 : Addr) => ldG .str (Addr.add (Addr.add a3 0) 0)
 (fun (s4 : ByteArray) => subG s4 n1 n2
 (fun (s5 : ByteArray) => callG Tryz.prog 137 #[(.string s5)] [(.one .slice), (VT.agg [(.int .i64), (.int .i64)])]
 (fun (_ : Sl) => fun (n7 : Int) => fun (n8 : Int) => newG (Obj.cells #[(.int .i64 (0 : Int)), (.int .i64 (0 : Int))] 66 (Prod.mk 0 0))
 (fun (m9 : Nat) => stG ⟨m9, 0, none⟩ (.int .i64 n7)
 (stG ⟨m9, 1, none⟩ (.int .i64 n8)
 (ldG (.int .i64) ⟨m9, 0, none⟩
 (fun (n10 : Int) => iteG (n10 != (0 : Int))
 (ldG (.int .i64) ⟨m9, 0, none⟩
 (fun (n11 : Int) => ldG (.int .i64) ⟨m9, 1, none⟩
 (fun (n12 : Int) => callG Tryz.prog 138 #[(.pointer p0), (.int .i64 n11), (.int .i64 (IntKind.wrap IntKind.i64 (n1 + n12)))] [(.one .bool)]
 (fun (b13 : Bool) => retG (.bool b13)))))
 (retG (.bool true))))))))))
theorem e105 : denF Tryz.prog (GA Tryz.prog) Tryz.f105 [(VT.one CT.ptr), (VT.one (CT.int IntKind.i64)), (VT.one (CT.int IntKind.i64))] .leaf = t105 := by kernel_rfl
theorem c105 (x0 : Option Addr) (x1 : Int) (x2 : Int) {R : Ending → World → Prop} {w : World} (h : t105 x0 x1 x2 R w) : Calls Tryz.prog 105 #[.pointer x0, .int .i64 x1, .int .i64 x2] w R :=
  lift mixed Tryz.func105 e105 rfl ((x0, ()), (x1, ()), (x2, ()), ()) R w h
def t106 : Option Addr → G :=
 fun (p0 : Option Addr) => newG (Obj.cells #[(.pointer p0)] 114 (Prod.mk 0 0))
 (fun (m1 : Nat) => drewG
 (ldG .ptr ⟨m1, 0, none⟩
 (fun (p2 : Option Addr) => nnG p2
 (fun (a3 : Addr) => ldG (.int .i64) (Addr.add (Addr.add a3 0) 1)
 (fun (n4 : Int) => ldG .ptr ⟨m1, 0, none⟩
 (fun (p5 : Option Addr) => nnG p5
 (fun (a6 : Addr) => bothG
 (callG Tryz.prog 102 #[(.pointer (some (Addr.add a6 0))), (.int .i64 (0 : Int))] [(.one (.int .u8))]
 (fun (n7 : Int) => keepG [(Prod.mk ⟨m1, 0, none⟩ [(.pointer p5)]), (Prod.mk (Addr.add (Addr.add a3 0) 1) [(.int .i64 n4)]), (Prod.mk ⟨m1, 0, none⟩ [(.pointer p2)])]
 (newG (Obj.cells #[(.int .i64 (0 : Int))] 3 (Prod.mk 0 0))
 (fun (m8 : Nat) => keepG [(Prod.mk ⟨m1, 0, none⟩ [(.pointer p5)]), (Prod.mk (Addr.add (Addr.add a3 0) 1) [(.int .i64 n4)]), (Prod.mk ⟨m1, 0, none⟩ [(.pointer p2)])]
 (stG ⟨m8, 0, none⟩ (.int .i64 n4)
 (keepG [(Prod.mk ⟨m1, 0, none⟩ [(.pointer p5)])]
 (joinG []
 (fun k9 => joinG [(.one .bool)]
 (fun k10 => callG Tryz.prog 121 #[(.int .u8 n7)] [(.one .bool)]
 (fun (b11 : Bool) => iteG b11
 (k10 true)
 (callG Tryz.prog 120 #[(.int .u8 n7)] [(.one .bool)]
 (fun (b12 : Bool) => k10 b12))))
 (fun (b13 : Bool) => iteG b13
 (ldG .ptr ⟨m1, 0, none⟩
 (fun (p14 : Option Addr) => nnG p14
 (fun (a15 : Addr) => callG Tryz.prog 103 #[(.pointer (some (Addr.add a15 0))), (.func (Fn.func 140) #[] #[])] [(.one .str)]
 (fun (s16 : ByteArray) => joinG []
 (fun k17 => callG Tryz.prog 122 #[(.string s16)] [(.one .bool)]
 (fun (b18 : Bool) => iteG b18
 (callG Tryz.prog 139 #[(.int .i64 (5 : Int)), (.string s16), (.pointer (some ⟨m1, 0, none⟩)), (.pointer (some ⟨m8, 0, none⟩))] [(.one .bool)]
 (fun (b19 : Bool) => retG (.bool b19)))
 (callG Tryz.prog 93 #[(.string s16)] [(.one .bool)]
 (fun (b20 : Bool) => iteG b20
 (callG Tryz.prog 139 #[(.int .i64 (1 : Int)), (.string s16), (.pointer (some ⟨m1, 0, none⟩)), (.pointer (some ⟨m8, 0, none⟩))] [(.one .bool)]
 (fun (b21 : Bool) => retG (.bool b21)))
 (callG Tryz.prog 91 #[(.string s16)] [(.one .bool)]
 (fun (b22 : Bool) => iteG b22
 (callG Tryz.prog 139 #[(.int .i64 (2 : Int)), (.string s16), (.pointer (some ⟨m1, 0, none⟩)), (.pointer (some ⟨m8, 0, none⟩))] [(.one .bool)]
 (fun (b23 : Bool) => retG (.bool b23)))
 (k17)))))))
 (ldG .ptr ⟨m1, 0, none⟩
 (fun (p24 : Option Addr) => ldG (.int .i64) ⟨m8, 0, none⟩
 (fun (n25 : Int) => callG Tryz.prog 138 #[(.pointer p24), (.int .i64 (60 : Int)), (.int .i64 n25)] [(.one .bool)]
 (fun (b26 : Bool) => retG (.bool b26)))))))))
 (callG Tryz.prog 141 #[(.int .u8 n7)] [(.one .bool)]
 (fun (b27 : Bool) => iteG b27
 (ldG .ptr ⟨m1, 0, none⟩
 (fun (p28 : Option Addr) => nnG p28
 (fun (a29 : Addr) => callG Tryz.prog 103 #[(.pointer (some (Addr.add a29 0))), (.func (Fn.func 142) #[] #[])] [(.one .str)]
 (fun (s30 : ByteArray) => joinG [(.one .bool)]
 (fun k31 => callG Tryz.prog 143 #[(.string s30), (.string (ByteArray.mk #[48, 49, 50, 51, 52, 53, 54, 55, 56, 57]))] [(.one .str)]
 (fun (s32 : ByteArray) => iteG ((↑(ByteArray.size s32) : Int) == (0 : Int))
 (iteG (Decidable.decide ((↑(ByteArray.size s30) : Int) ≤ (15 : Int)))
 (iteG (ByteArray.toList s30 == ByteArray.toList (ByteArray.mk #[(48 : UInt8)]))
 (k31 true)
 (chrG s30 (0 : Int)
 (fun (n33 : Int) => k31 (n33 != (48 : Int)))))
 (k31 false))
 (k31 false)))
 (fun (b34 : Bool) => iteG b34
 (callG Tryz.prog 139 #[(.int .i64 (3 : Int)), (.string s30), (.pointer (some ⟨m1, 0, none⟩)), (.pointer (some ⟨m8, 0, none⟩))] [(.one .bool)]
 (fun (b35 : Bool) => retG (.bool b35)))
 (callG Tryz.prog 144 #[(.string s30)] [(VT.agg [(.int .i64), (.int .i64), (.int .i64), CT.str]), (.one (.int .i64))]
 (fun (n36 : Int) => fun (n37 : Int) => fun (n38 : Int) => fun (s39 : ByteArray) => fun (n40 : Int) => newG (Obj.cells #[(.int .i64 (0 : Int)), (.int .i64 (0 : Int)), (.int .i64 (0 : Int)), (.string (ByteArray.mk #[]))] 161 (Prod.mk 0 0))
 (fun (m41 : Nat) => stG ⟨m41, 0, none⟩ (.int .i64 n36)
 (stG ⟨m41, 1, none⟩ (.int .i64 n37)
 (stG ⟨m41, 2, none⟩ (.int .i64 n38)
 (stG ⟨m41, 3, none⟩ (.string s39)
 (iteG (n40 == (0 : Int))
 (callG Tryz.prog 139 #[(.int .i64 (7 : Int)), (.string s30), (.pointer (some ⟨m1, 0, none⟩)), (.pointer (some ⟨m8, 0, none⟩))] [(.one .bool)]
 (fun (b42 : Bool) => retG (.bool b42)))
 (ldG .ptr ⟨m1, 0, none⟩
 (fun (p43 : Option Addr) => ldG (.int .i64) ⟨m8, 0, none⟩
 (fun (n44 : Int) => callG Tryz.prog 138 #[(.pointer p43), (.int .i64 (60 : Int)), (.int .i64 n44)] [(.one .bool)]
 (fun (b45 : Bool) => retG (.bool b45)))))))))))))))))
 (iteG (n7 == (34 : Int))
 (ldG .ptr ⟨m1, 0, none⟩
 (fun (p46 : Option Addr) => callG Tryz.prog 145 #[(.pointer p46)] [(.one .str), (.one .bool)]
 (fun (s47 : ByteArray) => fun (b48 : Bool) => joinG [(.one .bool)]
 (fun k49 => iteG b48
 (callG Tryz.prog 139 #[(.int .i64 (4 : Int)), (.string s47), (.pointer (some ⟨m1, 0, none⟩)), (.pointer (some ⟨m8, 0, none⟩))] [(.one .bool)]
 (fun (b50 : Bool) => k49 b50))
 (k49 false))
 (fun (b51 : Bool) => retG (.bool b51)))))
 (k9))))))
 (joinG []
 (fun k52 => loopG [(.one (.int .i64))]
 (fun k53 => fun (n54 : Int) => iteG (Decidable.decide (n54 > (0 : Int)))
 (joinG []
 (fun k55 => joinG [(.one .bool)]
 (fun k56 => drewG
 (ldG (.int .i64) ⟨m8, 0, none⟩
 (fun (n57 : Int) => ldG .ptr ⟨m1, 0, none⟩
 (fun (p58 : Option Addr) => nnG p58
 (fun (a59 : Addr) => ldG .str (Addr.add (Addr.add a59 0) 0)
 (fun (s60 : ByteArray) => iteG (Decidable.decide (IntKind.wrap IntKind.i64 (n57 + n54) ≤ (↑(ByteArray.size s60) : Int)))
 (ldG .ptr ⟨m1, 0, none⟩
 (fun (p61 : Option Addr) => nnG p61
 (fun (a62 : Addr) => ldG .str (Addr.add (Addr.add a62 0) 0)
 (fun (s63 : ByteArray) => ldG (.int .i64) ⟨m8, 0, none⟩
 (fun (n64 : Int) => ldG (.int .i64) ⟨m8, 0, none⟩
 (fun (n65 : Int) => subG s63 n64 (IntKind.wrap IntKind.i64 (n65 + n54))
 (fun (s66 : ByteArray) => callG Tryz.prog 146 #[(.string s66)] [(.one .bool)]
 (fun (b67 : Bool) => keepG [(Prod.mk ⟨m8, 0, none⟩ [(.int .i64 n65)]), (Prod.mk ⟨m1, 0, none⟩ [(.pointer p61)]), (Prod.mk (Addr.add (Addr.add a59 0) 0) [(.string s60)]), (Prod.mk ⟨m1, 0, none⟩ [(.pointer p58)]), (Prod.mk ⟨m8, 0, none⟩ [(.int .i64 n57)])]
 (k56 b67)))))))))
 (k56 false)))))))
 (fun (b68 : Bool) => iteG b68
 (ldG .ptr ⟨m1, 0, none⟩
 (fun (p69 : Option Addr) => nnG p69
 (fun (a70 : Addr) => ldG (.int .i64) (Addr.add (Addr.add a70 0) 1)
 (fun (n71 : Int) => nnG p69
 (fun (a72 : Addr) => stG (Addr.add (Addr.add a72 0) 1) (.int .i64 (IntKind.wrap IntKind.i64 (n71 + n54)))
 (drewG
 (ldG .ptr ⟨m1, 0, none⟩
 (fun (p73 : Option Addr) => nnG p73
 (fun (a74 : Addr) => ldG .str (Addr.add (Addr.add a74 0) 0)
 (fun (s75 : ByteArray) => ldG (.int .i64) ⟨m8, 0, none⟩
 (fun (n76 : Int) => ldG .ptr ⟨m1, 0, none⟩
 (fun (p77 : Option Addr) => nnG p77
 (fun (a78 : Addr) => ldG (.int .i64) (Addr.add (Addr.add a78 0) 1)
 (fun (n79 : Int) => subG s75 n76 n79
 (fun (s80 : ByteArray) => callG Tryz.prog 139 #[(.int .i64 (6 : Int)), (.string s80), (.pointer (some ⟨m1, 0, none⟩)), (.pointer (some ⟨m8, 0, none⟩))] [(.one .bool)]
 (fun (b81 : Bool) => keepG [(Prod.mk ⟨m1, 0, none⟩ [(.pointer p77)]), (Prod.mk ⟨m1, 0, none⟩ [(.pointer p73)])]
 (retG (.bool b81))))))))))))))))))
 (k55)))
 (k53 (IntKind.wrap IntKind.i64 (n54 - (1 : Int)))))
 (k52)) (2 : Int))
 (ldG .ptr ⟨m1, 0, none⟩
 (fun (p82 : Option Addr) => ldG (.int .i64) ⟨m8, 0, none⟩
 (fun (n83 : Int) => callG Tryz.prog 138 #[(.pointer p82), (.int .i64 (60 : Int)), (.int .i64 n83)] [(.one .bool)]
 (fun (b84 : Bool) => retG (.bool b84)))))))))))))
 (newG (Obj.cells #[(.int .i64 (0 : Int))] 3 (Prod.mk 0 0))
 (fun (m85 : Nat) => keepG [(Prod.mk ⟨m1, 0, none⟩ [(.pointer p5)]), (Prod.mk (Addr.add (Addr.add a3 0) 1) [(.int .i64 n4)]), (Prod.mk ⟨m1, 0, none⟩ [(.pointer p2)])]
 (callG Tryz.prog 102 #[(.pointer (some (Addr.add a6 0))), (.int .i64 (0 : Int))] [(.one (.int .u8))]
 (fun (n86 : Int) => keepG [(Prod.mk ⟨m1, 0, none⟩ [(.pointer p5)]), (Prod.mk (Addr.add (Addr.add a3 0) 1) [(.int .i64 n4)]), (Prod.mk ⟨m1, 0, none⟩ [(.pointer p2)])]
 (stG ⟨m85, 0, none⟩ (.int .i64 n4)
 (keepG [(Prod.mk ⟨m1, 0, none⟩ [(.pointer p5)])]
 (joinG []
 (fun k87 => joinG [(.one .bool)]
 (fun k88 => callG Tryz.prog 121 #[(.int .u8 n86)] [(.one .bool)]
 (fun (b89 : Bool) => iteG b89
 (k88 true)
 (callG Tryz.prog 120 #[(.int .u8 n86)] [(.one .bool)]
 (fun (b90 : Bool) => k88 b90))))
 (fun (b91 : Bool) => iteG b91
 (ldG .ptr ⟨m1, 0, none⟩
 (fun (p92 : Option Addr) => nnG p92
 (fun (a93 : Addr) => callG Tryz.prog 103 #[(.pointer (some (Addr.add a93 0))), (.func (Fn.func 140) #[] #[])] [(.one .str)]
 (fun (s94 : ByteArray) => joinG []
 (fun k95 => callG Tryz.prog 122 #[(.string s94)] [(.one .bool)]
 (fun (b96 : Bool) => iteG b96
 (callG Tryz.prog 139 #[(.int .i64 (5 : Int)), (.string s94), (.pointer (some ⟨m1, 0, none⟩)), (.pointer (some ⟨m85, 0, none⟩))] [(.one .bool)]
 (fun (b97 : Bool) => retG (.bool b97)))
 (callG Tryz.prog 93 #[(.string s94)] [(.one .bool)]
 (fun (b98 : Bool) => iteG b98
 (callG Tryz.prog 139 #[(.int .i64 (1 : Int)), (.string s94), (.pointer (some ⟨m1, 0, none⟩)), (.pointer (some ⟨m85, 0, none⟩))] [(.one .bool)]
 (fun (b99 : Bool) => retG (.bool b99)))
 (callG Tryz.prog 91 #[(.string s94)] [(.one .bool)]
 (fun (b100 : Bool) => iteG b100
 (callG Tryz.prog 139 #[(.int .i64 (2 : Int)), (.string s94), (.pointer (some ⟨m1, 0, none⟩)), (.pointer (some ⟨m85, 0, none⟩))] [(.one .bool)]
 (fun (b101 : Bool) => retG (.bool b101)))
 (k95)))))))
 (ldG .ptr ⟨m1, 0, none⟩
 (fun (p102 : Option Addr) => ldG (.int .i64) ⟨m85, 0, none⟩
 (fun (n103 : Int) => callG Tryz.prog 138 #[(.pointer p102), (.int .i64 (60 : Int)), (.int .i64 n103)] [(.one .bool)]
 (fun (b104 : Bool) => retG (.bool b104)))))))))
 (callG Tryz.prog 141 #[(.int .u8 n86)] [(.one .bool)]
 (fun (b105 : Bool) => iteG b105
 (ldG .ptr ⟨m1, 0, none⟩
 (fun (p106 : Option Addr) => nnG p106
 (fun (a107 : Addr) => callG Tryz.prog 103 #[(.pointer (some (Addr.add a107 0))), (.func (Fn.func 142) #[] #[])] [(.one .str)]
 (fun (s108 : ByteArray) => joinG [(.one .bool)]
 (fun k109 => callG Tryz.prog 143 #[(.string s108), (.string (ByteArray.mk #[48, 49, 50, 51, 52, 53, 54, 55, 56, 57]))] [(.one .str)]
 (fun (s110 : ByteArray) => iteG ((↑(ByteArray.size s110) : Int) == (0 : Int))
 (iteG (Decidable.decide ((↑(ByteArray.size s108) : Int) ≤ (15 : Int)))
 (iteG (ByteArray.toList s108 == ByteArray.toList (ByteArray.mk #[(48 : UInt8)]))
 (k109 true)
 (chrG s108 (0 : Int)
 (fun (n111 : Int) => k109 (n111 != (48 : Int)))))
 (k109 false))
 (k109 false)))
 (fun (b112 : Bool) => iteG b112
 (callG Tryz.prog 139 #[(.int .i64 (3 : Int)), (.string s108), (.pointer (some ⟨m1, 0, none⟩)), (.pointer (some ⟨m85, 0, none⟩))] [(.one .bool)]
 (fun (b113 : Bool) => retG (.bool b113)))
 (callG Tryz.prog 144 #[(.string s108)] [(VT.agg [(.int .i64), (.int .i64), (.int .i64), CT.str]), (.one (.int .i64))]
 (fun (n114 : Int) => fun (n115 : Int) => fun (n116 : Int) => fun (s117 : ByteArray) => fun (n118 : Int) => newG (Obj.cells #[(.int .i64 (0 : Int)), (.int .i64 (0 : Int)), (.int .i64 (0 : Int)), (.string (ByteArray.mk #[]))] 161 (Prod.mk 0 0))
 (fun (m119 : Nat) => stG ⟨m119, 0, none⟩ (.int .i64 n114)
 (stG ⟨m119, 1, none⟩ (.int .i64 n115)
 (stG ⟨m119, 2, none⟩ (.int .i64 n116)
 (stG ⟨m119, 3, none⟩ (.string s117)
 (iteG (n118 == (0 : Int))
 (callG Tryz.prog 139 #[(.int .i64 (7 : Int)), (.string s108), (.pointer (some ⟨m1, 0, none⟩)), (.pointer (some ⟨m85, 0, none⟩))] [(.one .bool)]
 (fun (b120 : Bool) => retG (.bool b120)))
 (ldG .ptr ⟨m1, 0, none⟩
 (fun (p121 : Option Addr) => ldG (.int .i64) ⟨m85, 0, none⟩
 (fun (n122 : Int) => callG Tryz.prog 138 #[(.pointer p121), (.int .i64 (60 : Int)), (.int .i64 n122)] [(.one .bool)]
 (fun (b123 : Bool) => retG (.bool b123)))))))))))))))))
 (iteG (n86 == (34 : Int))
 (ldG .ptr ⟨m1, 0, none⟩
 (fun (p124 : Option Addr) => callG Tryz.prog 145 #[(.pointer p124)] [(.one .str), (.one .bool)]
 (fun (s125 : ByteArray) => fun (b126 : Bool) => joinG [(.one .bool)]
 (fun k127 => iteG b126
 (callG Tryz.prog 139 #[(.int .i64 (4 : Int)), (.string s125), (.pointer (some ⟨m1, 0, none⟩)), (.pointer (some ⟨m85, 0, none⟩))] [(.one .bool)]
 (fun (b128 : Bool) => k127 b128))
 (k127 false))
 (fun (b129 : Bool) => retG (.bool b129)))))
 (k87))))))
 (joinG []
 (fun k130 => loopG [(.one (.int .i64))]
 (fun k131 => fun (n132 : Int) => iteG (Decidable.decide (n132 > (0 : Int)))
 (joinG []
 (fun k133 => joinG [(.one .bool)]
 (fun k134 => drewG
 (ldG (.int .i64) ⟨m85, 0, none⟩
 (fun (n135 : Int) => ldG .ptr ⟨m1, 0, none⟩
 (fun (p136 : Option Addr) => nnG p136
 (fun (a137 : Addr) => ldG .str (Addr.add (Addr.add a137 0) 0)
 (fun (s138 : ByteArray) => iteG (Decidable.decide (IntKind.wrap IntKind.i64 (n135 + n132) ≤ (↑(ByteArray.size s138) : Int)))
 (ldG .ptr ⟨m1, 0, none⟩
 (fun (p139 : Option Addr) => nnG p139
 (fun (a140 : Addr) => ldG .str (Addr.add (Addr.add a140 0) 0)
 (fun (s141 : ByteArray) => ldG (.int .i64) ⟨m85, 0, none⟩
 (fun (n142 : Int) => ldG (.int .i64) ⟨m85, 0, none⟩
 (fun (n143 : Int) => subG s141 n142 (IntKind.wrap IntKind.i64 (n143 + n132))
 (fun (s144 : ByteArray) => callG Tryz.prog 146 #[(.string s144)] [(.one .bool)]
 (fun (b145 : Bool) => keepG [(Prod.mk ⟨m85, 0, none⟩ [(.int .i64 n143)]), (Prod.mk ⟨m1, 0, none⟩ [(.pointer p139)]), (Prod.mk (Addr.add (Addr.add a137 0) 0) [(.string s138)]), (Prod.mk ⟨m1, 0, none⟩ [(.pointer p136)]), (Prod.mk ⟨m85, 0, none⟩ [(.int .i64 n135)])]
 (k134 b145)))))))))
 (k134 false)))))))
 (fun (b146 : Bool) => iteG b146
 (ldG .ptr ⟨m1, 0, none⟩
 (fun (p147 : Option Addr) => nnG p147
 (fun (a148 : Addr) => ldG (.int .i64) (Addr.add (Addr.add a148 0) 1)
 (fun (n149 : Int) => nnG p147
 (fun (a150 : Addr) => stG (Addr.add (Addr.add a150 0) 1) (.int .i64 (IntKind.wrap IntKind.i64 (n149 + n132)))
 (drewG
 (ldG .ptr ⟨m1, 0, none⟩
 (fun (p151 : Option Addr) => nnG p151
 (fun (a152 : Addr) => ldG .str (Addr.add (Addr.add a152 0) 0)
 (fun (s153 : ByteArray) => ldG (.int .i64) ⟨m85, 0, none⟩
 (fun (n154 : Int) => ldG .ptr ⟨m1, 0, none⟩
 (fun (p155 : Option Addr) => nnG p155
 (fun (a156 : Addr) => ldG (.int .i64) (Addr.add (Addr.add a156 0) 1)
 (fun (n157 : Int) => subG s153 n154 n157
 (fun (s158 : ByteArray) => callG Tryz.prog 139 #[(.int .i64 (6 : Int)), (.string s158), (.pointer (some ⟨m1, 0, none⟩)), (.pointer (some ⟨m85, 0, none⟩))] [(.one .bool)]
 (fun (b159 : Bool) => keepG [(Prod.mk ⟨m1, 0, none⟩ [(.pointer p155)]), (Prod.mk ⟨m1, 0, none⟩ [(.pointer p151)])]
 (retG (.bool b159))))))))))))))))))
 (k133)))
 (k131 (IntKind.wrap IntKind.i64 (n132 - (1 : Int)))))
 (k130)) (2 : Int))
 (ldG .ptr ⟨m1, 0, none⟩
 (fun (p160 : Option Addr) => ldG (.int .i64) ⟨m85, 0, none⟩
 (fun (n161 : Int) => callG Tryz.prog 138 #[(.pointer p160), (.int .i64 (60 : Int)), (.int .i64 n161)] [(.one .bool)]
 (fun (b162 : Bool) => retG (.bool b162))))))))))))))))))))
theorem e106 : denF Tryz.prog (GA Tryz.prog) Tryz.f106 [(VT.one CT.ptr)] (.seq .leaf (.seq .leaf (.seq .leaf (.seq (.block (sl Tryz.prog []) (.seq (.r (sl Tryz.prog [(23, 4)])) (.cond (.seq (.seq .leaf (.block (sl Tryz.prog []) .leaf)) .leaf) (.seq .leaf (.cond (.seq .leaf (.seq (.seq (.r (sl Tryz.prog [(79, 4)])) .leaf) .leaf)) (.seq .leaf (.cond (.seq .leaf (.seq (.r (sl Tryz.prog [(2, 4)])) .leaf)) .leaf))))))) (.seq (.seq .leaf (.block (sl Tryz.prog []) (.loop (sl Tryz.prog [(12, 3)]) (.seq .leaf (.seq (.block (sl Tryz.prog []) (.seq (.r (sl Tryz.prog [(136, 4)])) .leaf)) .leaf))))) .leaf))))) = t106 := by kernel_rfl
theorem c106 (x0 : Option Addr) {R : Ending → World → Prop} {w : World} (h : t106 x0 R w) : Calls Tryz.prog 106 #[.pointer x0] w R :=
  lift mixed Tryz.func106 e106 rfl ((x0, ()), ()) R w h
def t110 : Sl → Int → Int → Value → G :=
 fun (l0 : Sl) => fun (n1 : Int) => fun (n2 : Int) => fun (v3 : Value) => joinG []
 (fun k4 => loopG [(.one (.int .i64))]
 (fun k5 => fun (n6 : Int) => iteG (Decidable.decide (n6 < n2))
 (joinG []
 (fun k7 => joinG []
 (fun k8 => loopG [(.one (.int .i64))]
 (fun k9 => fun (n10 : Int) => joinG [(.one .bool)]
 (fun k11 => drewG
 (iteG (Decidable.decide (n10 > n1))
 (idxG l0.a l0.n n10 3
 (fun (a12 : Addr) => ldG .str (Addr.add a12 0)
 (fun (s13 : ByteArray) => ldG .str (Addr.add a12 1)
 (fun (s14 : ByteArray) => ldG (.int .i64) (Addr.add a12 2)
 (fun (n15 : Int) => idxG l0.a l0.n (IntKind.wrap IntKind.i64 (n10 - (1 : Int))) 3
 (fun (a16 : Addr) => ldG .str (Addr.add a16 0)
 (fun (s17 : ByteArray) => ldG .str (Addr.add a16 1)
 (fun (s18 : ByteArray) => ldG (.int .i64) (Addr.add a16 2)
 (fun (n19 : Int) => callVG Tryz.prog v3 #[(.agg #[(.string s13), (.string s14), (.int .i64 n15)]), (.agg #[(.string s17), (.string s18), (.int .i64 n19)])] [(.one (.int .i64))]
 (fun (n20 : Int) => k11 (Decidable.decide (n20 < (0 : Int)))))))))))))
 (k11 false)))
 (fun (b21 : Bool) => iteG b21
 (joinG []
 (fun k22 => drewG
 (idxG l0.a l0.n (IntKind.wrap IntKind.i64 (n10 - (1 : Int))) 3
 (fun (a23 : Addr) => ldG .str (Addr.add a23 0)
 (fun (s24 : ByteArray) => ldG .str (Addr.add a23 1)
 (fun (s25 : ByteArray) => ldG (.int .i64) (Addr.add a23 2)
 (fun (n26 : Int) => idxG l0.a l0.n n10 3
 (fun (a27 : Addr) => ldG .str (Addr.add a27 0)
 (fun (s28 : ByteArray) => ldG .str (Addr.add a27 1)
 (fun (s29 : ByteArray) => ldG (.int .i64) (Addr.add a27 2)
 (fun (n30 : Int) => idxG l0.a l0.n n10 3
 (fun (a31 : Addr) => stG (Addr.add a31 0) (.string s24)
 (stG (Addr.add a31 1) (.string s25)
 (stG (Addr.add a31 2) (.int .i64 n26)
 (idxG l0.a l0.n (IntKind.wrap IntKind.i64 (n10 - (1 : Int))) 3
 (fun (a32 : Addr) => stG (Addr.add a32 0) (.string s28)
 (stG (Addr.add a32 1) (.string s29)
 (stG (Addr.add a32 2) (.int .i64 n30)
 (k22))))))))))))))))))
 (k9 (IntKind.wrap IntKind.i64 (n10 - (1 : Int)))))
 (k8))) n6)
 (k7))
 (k5 (IntKind.wrap IntKind.i64 (n6 + (1 : Int)))))
 (k4)) (IntKind.wrap IntKind.i64 (n1 + (1 : Int))))
 (retG (.tuple #[]))
theorem e110 : denF Tryz.prog (GA Tryz.prog) Tryz.f110 [(VT.one CT.slice), (VT.one (CT.int IntKind.i64)), (VT.one (CT.int IntKind.i64)), (VT.one CT.any)] (.seq .leaf (.block (sl Tryz.prog []) (.loop (sl Tryz.prog [(8, 3)]) (.seq .leaf (.seq (.block (sl Tryz.prog []) (.seq .leaf (.block (sl Tryz.prog []) (.loop (sl Tryz.prog [(9, 3)]) (.seq (.seq (.r (sl Tryz.prog [(34, 4)])) .leaf) (.seq (.block (sl Tryz.prog []) .leaf) .leaf)))))) .leaf))))) = t110 := by kernel_rfl
theorem c110 (x0 : Sl) (x1 : Int) (x2 : Int) (x3 : Value) {R : Ending → World → Prop} {w : World} (h : t110 x0 x1 x2 x3 R w) : Calls Tryz.prog 110 #[.slice x0.a x0.n x0.c, .int .i64 x1, .int .i64 x2, x3] w R :=
  lift mixed Tryz.func110 e110 rfl ((x0, ()), (x1, ()), (x2, ()), (x3, ()), ()) R w h
def t111 : Sl → Int → Int → Int → Value → G :=
 fun (l0 : Sl) => fun (n1 : Int) => fun (n2 : Int) => fun (n3 : Int) => fun (v4 : Value) => iteG (IntKind.wrap IntKind.i64 (n2 - n1) == (1 : Int))
 (joinG [(.one (.int .i64))]
 (fun k5 => loopG [(.one (.int .i64)), (.one (.int .i64))]
 (fun k6 => fun (n7 : Int) => fun (n8 : Int) => iteG (Decidable.decide (n7 < n8))
 (joinG [(.one (.int .i64)), (.one (.int .i64))]
 (fun k9 => drewG
 (idxG l0.a l0.n (IntKind.wrap IntKind.i64 (Int.fdiv (IntKind.wrap IntKind.u64 (IntKind.wrap IntKind.i64 (n7 + n8))) ((2 : Int) ^ Min.min (Int.toNat (1 : Int)) (IntKind.bits IntKind.u64)))) 3
 (fun (a10 : Addr) => ldG .str (Addr.add a10 0)
 (fun (s11 : ByteArray) => ldG .str (Addr.add a10 1)
 (fun (s12 : ByteArray) => ldG (.int .i64) (Addr.add a10 2)
 (fun (n13 : Int) => idxG l0.a l0.n n1 3
 (fun (a14 : Addr) => ldG .str (Addr.add a14 0)
 (fun (s15 : ByteArray) => ldG .str (Addr.add a14 1)
 (fun (s16 : ByteArray) => ldG (.int .i64) (Addr.add a14 2)
 (fun (n17 : Int) => callVG Tryz.prog v4 #[(.agg #[(.string s11), (.string s12), (.int .i64 n13)]), (.agg #[(.string s15), (.string s16), (.int .i64 n17)])] [(.one (.int .i64))]
 (fun (n18 : Int) => joinG [(.one (.int .i64)), (.one (.int .i64))]
 (fun k19 => iteG (Decidable.decide (n18 < (0 : Int)))
 (k19 (IntKind.wrap IntKind.i64 (IntKind.wrap IntKind.i64 (Int.fdiv (IntKind.wrap IntKind.u64 (IntKind.wrap IntKind.i64 (n7 + n8))) ((2 : Int) ^ Min.min (Int.toNat (1 : Int)) (IntKind.bits IntKind.u64))) + (1 : Int))) n8)
 (k19 n7 (IntKind.wrap IntKind.i64 (Int.fdiv (IntKind.wrap IntKind.u64 (IntKind.wrap IntKind.i64 (n7 + n8))) ((2 : Int) ^ Min.min (Int.toNat (1 : Int)) (IntKind.bits IntKind.u64))))))
 (fun (n20 : Int) => fun (n21 : Int) => k9 n20 n21))))))))))))
 (fun (n22 : Int) => fun (n23 : Int) => k6 n22 n23))
 (k5 n7)) n2 n3)
 (fun (n24 : Int) => joinG []
 (fun k25 => loopG [(.one (.int .i64))]
 (fun k26 => fun (n27 : Int) => iteG (Decidable.decide (n27 < IntKind.wrap IntKind.i64 (n24 - (1 : Int))))
 (joinG []
 (fun k28 => drewG
 (idxG l0.a l0.n (IntKind.wrap IntKind.i64 (n27 + (1 : Int))) 3
 (fun (a29 : Addr) => ldG .str (Addr.add a29 0)
 (fun (s30 : ByteArray) => ldG .str (Addr.add a29 1)
 (fun (s31 : ByteArray) => ldG (.int .i64) (Addr.add a29 2)
 (fun (n32 : Int) => idxG l0.a l0.n n27 3
 (fun (a33 : Addr) => ldG .str (Addr.add a33 0)
 (fun (s34 : ByteArray) => ldG .str (Addr.add a33 1)
 (fun (s35 : ByteArray) => ldG (.int .i64) (Addr.add a33 2)
 (fun (n36 : Int) => idxG l0.a l0.n n27 3
 (fun (a37 : Addr) => stG (Addr.add a37 0) (.string s30)
 (stG (Addr.add a37 1) (.string s31)
 (stG (Addr.add a37 2) (.int .i64 n32)
 (idxG l0.a l0.n (IntKind.wrap IntKind.i64 (n27 + (1 : Int))) 3
 (fun (a38 : Addr) => stG (Addr.add a38 0) (.string s34)
 (stG (Addr.add a38 1) (.string s35)
 (stG (Addr.add a38 2) (.int .i64 n36)
 (k28))))))))))))))))))
 (k26 (IntKind.wrap IntKind.i64 (n27 + (1 : Int)))))
 (k25)) n1)
 (retG (.tuple #[]))))
 (iteG (IntKind.wrap IntKind.i64 (n3 - n2) == (1 : Int))
 (joinG [(.one (.int .i64))]
 (fun k39 => loopG [(.one (.int .i64)), (.one (.int .i64))]
 (fun k40 => fun (n41 : Int) => fun (n42 : Int) => iteG (Decidable.decide (n41 < n42))
 (joinG [(.one (.int .i64)), (.one (.int .i64))]
 (fun k43 => drewG
 (idxG l0.a l0.n n2 3
 (fun (a44 : Addr) => ldG .str (Addr.add a44 0)
 (fun (s45 : ByteArray) => ldG .str (Addr.add a44 1)
 (fun (s46 : ByteArray) => ldG (.int .i64) (Addr.add a44 2)
 (fun (n47 : Int) => idxG l0.a l0.n (IntKind.wrap IntKind.i64 (Int.fdiv (IntKind.wrap IntKind.u64 (IntKind.wrap IntKind.i64 (n41 + n42))) ((2 : Int) ^ Min.min (Int.toNat (1 : Int)) (IntKind.bits IntKind.u64)))) 3
 (fun (a48 : Addr) => ldG .str (Addr.add a48 0)
 (fun (s49 : ByteArray) => ldG .str (Addr.add a48 1)
 (fun (s50 : ByteArray) => ldG (.int .i64) (Addr.add a48 2)
 (fun (n51 : Int) => callVG Tryz.prog v4 #[(.agg #[(.string s45), (.string s46), (.int .i64 n47)]), (.agg #[(.string s49), (.string s50), (.int .i64 n51)])] [(.one (.int .i64))]
 (fun (n52 : Int) => joinG [(.one (.int .i64)), (.one (.int .i64))]
 (fun k53 => iteG (!Decidable.decide (n52 < (0 : Int)))
 (k53 (IntKind.wrap IntKind.i64 (IntKind.wrap IntKind.i64 (Int.fdiv (IntKind.wrap IntKind.u64 (IntKind.wrap IntKind.i64 (n41 + n42))) ((2 : Int) ^ Min.min (Int.toNat (1 : Int)) (IntKind.bits IntKind.u64))) + (1 : Int))) n42)
 (k53 n41 (IntKind.wrap IntKind.i64 (Int.fdiv (IntKind.wrap IntKind.u64 (IntKind.wrap IntKind.i64 (n41 + n42))) ((2 : Int) ^ Min.min (Int.toNat (1 : Int)) (IntKind.bits IntKind.u64))))))
 (fun (n54 : Int) => fun (n55 : Int) => k43 n54 n55))))))))))))
 (fun (n56 : Int) => fun (n57 : Int) => k40 n56 n57))
 (k39 n41)) n1 n2)
 (fun (n58 : Int) => joinG []
 (fun k59 => loopG [(.one (.int .i64))]
 (fun k60 => fun (n61 : Int) => iteG (Decidable.decide (n61 > n58))
 (joinG []
 (fun k62 => drewG
 (idxG l0.a l0.n (IntKind.wrap IntKind.i64 (n61 - (1 : Int))) 3
 (fun (a63 : Addr) => ldG .str (Addr.add a63 0)
 (fun (s64 : ByteArray) => ldG .str (Addr.add a63 1)
 (fun (s65 : ByteArray) => ldG (.int .i64) (Addr.add a63 2)
 (fun (n66 : Int) => idxG l0.a l0.n n61 3
 (fun (a67 : Addr) => ldG .str (Addr.add a67 0)
 (fun (s68 : ByteArray) => ldG .str (Addr.add a67 1)
 (fun (s69 : ByteArray) => ldG (.int .i64) (Addr.add a67 2)
 (fun (n70 : Int) => idxG l0.a l0.n n61 3
 (fun (a71 : Addr) => stG (Addr.add a71 0) (.string s64)
 (stG (Addr.add a71 1) (.string s65)
 (stG (Addr.add a71 2) (.int .i64 n66)
 (idxG l0.a l0.n (IntKind.wrap IntKind.i64 (n61 - (1 : Int))) 3
 (fun (a72 : Addr) => stG (Addr.add a72 0) (.string s68)
 (stG (Addr.add a72 1) (.string s69)
 (stG (Addr.add a72 2) (.int .i64 n70)
 (k62))))))))))))))))))
 (k60 (IntKind.wrap IntKind.i64 (n61 - (1 : Int)))))
 (k59)) n2)
 (retG (.tuple #[]))))
 (joinG [(.one (.int .i64)), (.one (.int .i64))]
 (fun k73 => iteG (Decidable.decide (n2 > IntKind.wrap IntKind.i64 (Int.fdiv (IntKind.wrap IntKind.u64 (IntKind.wrap IntKind.i64 (n1 + n3))) ((2 : Int) ^ Min.min (Int.toNat (1 : Int)) (IntKind.bits IntKind.u64)))))
 (k73 (IntKind.wrap IntKind.i64 (IntKind.wrap IntKind.i64 (IntKind.wrap IntKind.i64 (Int.fdiv (IntKind.wrap IntKind.u64 (IntKind.wrap IntKind.i64 (n1 + n3))) ((2 : Int) ^ Min.min (Int.toNat (1 : Int)) (IntKind.bits IntKind.u64))) + n2) - n3)) (IntKind.wrap IntKind.i64 (Int.fdiv (IntKind.wrap IntKind.u64 (IntKind.wrap IntKind.i64 (n1 + n3))) ((2 : Int) ^ Min.min (Int.toNat (1 : Int)) (IntKind.bits IntKind.u64)))))
 (k73 n1 n2))
 (fun (n74 : Int) => fun (n75 : Int) => joinG [(.one (.int .i64))]
 (fun k76 => loopG [(.one (.int .i64)), (.one (.int .i64))]
 (fun k77 => fun (n78 : Int) => fun (n79 : Int) => iteG (Decidable.decide (n78 < n79))
 (joinG [(.one (.int .i64)), (.one (.int .i64))]
 (fun k80 => drewG
 (idxG l0.a l0.n (IntKind.wrap IntKind.i64 (IntKind.wrap IntKind.i64 (IntKind.wrap IntKind.i64 (IntKind.wrap IntKind.i64 (Int.fdiv (IntKind.wrap IntKind.u64 (IntKind.wrap IntKind.i64 (n1 + n3))) ((2 : Int) ^ Min.min (Int.toNat (1 : Int)) (IntKind.bits IntKind.u64))) + n2) - (1 : Int)) - IntKind.wrap IntKind.i64 (Int.fdiv (IntKind.wrap IntKind.u64 (IntKind.wrap IntKind.i64 (n78 + n79))) ((2 : Int) ^ Min.min (Int.toNat (1 : Int)) (IntKind.bits IntKind.u64))))) 3
 (fun (a81 : Addr) => ldG .str (Addr.add a81 0)
 (fun (s82 : ByteArray) => ldG .str (Addr.add a81 1)
 (fun (s83 : ByteArray) => ldG (.int .i64) (Addr.add a81 2)
 (fun (n84 : Int) => idxG l0.a l0.n (IntKind.wrap IntKind.i64 (Int.fdiv (IntKind.wrap IntKind.u64 (IntKind.wrap IntKind.i64 (n78 + n79))) ((2 : Int) ^ Min.min (Int.toNat (1 : Int)) (IntKind.bits IntKind.u64)))) 3
 (fun (a85 : Addr) => ldG .str (Addr.add a85 0)
 (fun (s86 : ByteArray) => ldG .str (Addr.add a85 1)
 (fun (s87 : ByteArray) => ldG (.int .i64) (Addr.add a85 2)
 (fun (n88 : Int) => callVG Tryz.prog v4 #[(.agg #[(.string s82), (.string s83), (.int .i64 n84)]), (.agg #[(.string s86), (.string s87), (.int .i64 n88)])] [(.one (.int .i64))]
 (fun (n89 : Int) => joinG [(.one (.int .i64)), (.one (.int .i64))]
 (fun k90 => iteG (!Decidable.decide (n89 < (0 : Int)))
 (k90 (IntKind.wrap IntKind.i64 (IntKind.wrap IntKind.i64 (Int.fdiv (IntKind.wrap IntKind.u64 (IntKind.wrap IntKind.i64 (n78 + n79))) ((2 : Int) ^ Min.min (Int.toNat (1 : Int)) (IntKind.bits IntKind.u64))) + (1 : Int))) n79)
 (k90 n78 (IntKind.wrap IntKind.i64 (Int.fdiv (IntKind.wrap IntKind.u64 (IntKind.wrap IntKind.i64 (n78 + n79))) ((2 : Int) ^ Min.min (Int.toNat (1 : Int)) (IntKind.bits IntKind.u64))))))
 (fun (n91 : Int) => fun (n92 : Int) => k80 n91 n92))))))))))))
 (fun (n93 : Int) => fun (n94 : Int) => k77 n93 n94))
 (k76 n78)) n74 n75)
 (fun (n95 : Int) => joinG [(.one .bool)]
 (fun k96 => iteG (Decidable.decide (n95 < n2))
 (k96 (Decidable.decide (n2 < IntKind.wrap IntKind.i64 (IntKind.wrap IntKind.i64 (IntKind.wrap IntKind.i64 (Int.fdiv (IntKind.wrap IntKind.u64 (IntKind.wrap IntKind.i64 (n1 + n3))) ((2 : Int) ^ Min.min (Int.toNat (1 : Int)) (IntKind.bits IntKind.u64))) + n2) - n95))))
 (k96 false))
 (fun (b97 : Bool) => joinG []
 (fun k98 => iteG b97
 (callG Tryz.prog 150 #[(.slice l0.a l0.n l0.c), (.int .i64 n95), (.int .i64 n2), (.int .i64 (IntKind.wrap IntKind.i64 (IntKind.wrap IntKind.i64 (IntKind.wrap IntKind.i64 (Int.fdiv (IntKind.wrap IntKind.u64 (IntKind.wrap IntKind.i64 (n1 + n3))) ((2 : Int) ^ Min.min (Int.toNat (1 : Int)) (IntKind.bits IntKind.u64))) + n2) - n95))), v4] []
 (k98))
 (k98))
 (joinG [(.one .bool)]
 (fun k99 => iteG (Decidable.decide (n1 < n95))
 (k99 (Decidable.decide (n95 < IntKind.wrap IntKind.i64 (Int.fdiv (IntKind.wrap IntKind.u64 (IntKind.wrap IntKind.i64 (n1 + n3))) ((2 : Int) ^ Min.min (Int.toNat (1 : Int)) (IntKind.bits IntKind.u64))))))
 (k99 false))
 (fun (b100 : Bool) => joinG []
 (fun k101 => iteG b100
 (callG Tryz.prog 111 #[(.slice l0.a l0.n l0.c), (.int .i64 n1), (.int .i64 n95), (.int .i64 (IntKind.wrap IntKind.i64 (Int.fdiv (IntKind.wrap IntKind.u64 (IntKind.wrap IntKind.i64 (n1 + n3))) ((2 : Int) ^ Min.min (Int.toNat (1 : Int)) (IntKind.bits IntKind.u64))))), v4] []
 (k101))
 (k101))
 (joinG [(.one .bool)]
 (fun k102 => iteG (Decidable.decide (IntKind.wrap IntKind.i64 (Int.fdiv (IntKind.wrap IntKind.u64 (IntKind.wrap IntKind.i64 (n1 + n3))) ((2 : Int) ^ Min.min (Int.toNat (1 : Int)) (IntKind.bits IntKind.u64))) < IntKind.wrap IntKind.i64 (IntKind.wrap IntKind.i64 (IntKind.wrap IntKind.i64 (Int.fdiv (IntKind.wrap IntKind.u64 (IntKind.wrap IntKind.i64 (n1 + n3))) ((2 : Int) ^ Min.min (Int.toNat (1 : Int)) (IntKind.bits IntKind.u64))) + n2) - n95)))
 (k102 (Decidable.decide (IntKind.wrap IntKind.i64 (IntKind.wrap IntKind.i64 (IntKind.wrap IntKind.i64 (Int.fdiv (IntKind.wrap IntKind.u64 (IntKind.wrap IntKind.i64 (n1 + n3))) ((2 : Int) ^ Min.min (Int.toNat (1 : Int)) (IntKind.bits IntKind.u64))) + n2) - n95) < n3)))
 (k102 false))
 (fun (b103 : Bool) => joinG []
 (fun k104 => iteG b103
 (callG Tryz.prog 111 #[(.slice l0.a l0.n l0.c), (.int .i64 (IntKind.wrap IntKind.i64 (Int.fdiv (IntKind.wrap IntKind.u64 (IntKind.wrap IntKind.i64 (n1 + n3))) ((2 : Int) ^ Min.min (Int.toNat (1 : Int)) (IntKind.bits IntKind.u64))))), (.int .i64 (IntKind.wrap IntKind.i64 (IntKind.wrap IntKind.i64 (IntKind.wrap IntKind.i64 (Int.fdiv (IntKind.wrap IntKind.u64 (IntKind.wrap IntKind.i64 (n1 + n3))) ((2 : Int) ^ Min.min (Int.toNat (1 : Int)) (IntKind.bits IntKind.u64))) + n2) - n95))), (.int .i64 n3), v4] []
 (k104))
 (k104))
 (retG (.tuple #[])))))))))))
theorem e111 : denF Tryz.prog (GA Tryz.prog) Tryz.f111 [(VT.one CT.slice), (VT.one (CT.int IntKind.i64)), (VT.one (CT.int IntKind.i64)), (VT.one (CT.int IntKind.i64)), (VT.one CT.any)] (.seq (.seq .leaf (.cond (.seq .leaf (.seq .leaf (.seq (.block (sl Tryz.prog [(10, 3)]) (.loop (sl Tryz.prog [(10, 3), (11, 3)]) (.seq .leaf (.block (sl Tryz.prog [(10, 3), (11, 3)]) (.seq .leaf (.seq .leaf (.condj (sl Tryz.prog [(10, 3), (11, 3)]) .leaf .leaf))))))) (.seq (.seq .leaf (.block (sl Tryz.prog []) (.loop (sl Tryz.prog [(13, 3)]) (.seq .leaf (.seq (.block (sl Tryz.prog []) .leaf) .leaf))))) .leaf)))) .leaf)) (.seq (.seq .leaf (.cond (.seq .leaf (.seq .leaf (.seq (.block (sl Tryz.prog [(14, 3)]) (.loop (sl Tryz.prog [(14, 3), (15, 3)]) (.seq .leaf (.block (sl Tryz.prog [(14, 3), (15, 3)]) (.seq .leaf (.seq .leaf (.condj (sl Tryz.prog [(14, 3), (15, 3)]) .leaf .leaf))))))) (.seq (.seq .leaf (.block (sl Tryz.prog []) (.loop (sl Tryz.prog [(17, 3)]) (.seq .leaf (.seq (.block (sl Tryz.prog []) .leaf) .leaf))))) .leaf)))) .leaf)) (.seq .leaf (.seq .leaf (.seq .leaf (.seq (.seq .leaf (.condj (sl Tryz.prog [(20, 3), (21, 3)]) .leaf .leaf)) (.seq .leaf (.seq (.block (sl Tryz.prog [(20, 3)]) (.loop (sl Tryz.prog [(20, 3), (21, 3)]) (.seq .leaf (.block (sl Tryz.prog [(20, 3), (21, 3)]) (.seq .leaf (.seq .leaf (.condj (sl Tryz.prog [(20, 3), (21, 3)]) .leaf .leaf))))))) (.seq .leaf (.seq (.seq (.r (sl Tryz.prog [(185, 4)])) (.condj (sl Tryz.prog []) .leaf .leaf)) (.seq (.seq (.r (sl Tryz.prog [(199, 4)])) (.condj (sl Tryz.prog []) .leaf .leaf)) (.seq (.r (sl Tryz.prog [(213, 4)])) (.condj (sl Tryz.prog []) .leaf .leaf))))))))))))) = t111 := by kernel_rfl
theorem c111 (x0 : Sl) (x1 : Int) (x2 : Int) (x3 : Int) (x4 : Value) {R : Ending → World → Prop} {w : World} (h : t111 x0 x1 x2 x3 x4 R w) : Calls Tryz.prog 111 #[.slice x0.a x0.n x0.c, .int .i64 x1, .int .i64 x2, .int .i64 x3, x4] w R :=
  lift mixed Tryz.func111 e111 rfl ((x0, ()), (x1, ()), (x2, ()), (x3, ()), (x4, ()), ()) R w h
def t119 : ByteArray → Value → G :=
 fun (s0 : ByteArray) => fun (v1 : Value) => joinG [(.one .bool)]
 (fun k2 => iteG (ByteArray.toList s0 == ByteArray.toList (ByteArray.mk #[]))
 (k2 true)
 (iteG (Decidable.decide ((↑(ByteArray.size s0) : Int) > (24 : Int)))
 (k2 true)
 (chrG s0 (0 : Int)
 (fun (n3 : Int) => callVG Tryz.prog v1 #[(.int .u8 n3)] [(.one .bool)]
 (fun (b4 : Bool) => k2 (!b4))))))
 (fun (b5 : Bool) => iteG b5
 (retG (.bool false))
 (joinG []
 (fun k6 => loopG [(.one (.int .i64))]
 (fun k7 => fun (n8 : Int) => iteG (Decidable.decide (n8 < (↑(ByteArray.size s0) : Int)))
 (joinG []
 (fun k9 => chrG s0 n8
 (fun (n10 : Int) => callG Tryz.prog 140 #[(.int .u8 n10)] [(.one .bool)]
 (fun (b11 : Bool) => iteG (!b11)
 (retG (.bool false))
 (k9))))
 (k7 (IntKind.wrap IntKind.i64 (n8 + (1 : Int)))))
 (k6)) (0 : Int))
 (retG (.bool true))))
theorem e119 : denF Tryz.prog (GA Tryz.prog) Tryz.f119 [(VT.one CT.str), (VT.one CT.any)] (.seq .leaf (.seq (.seq (.r (sl Tryz.prog [(19, 4)])) .leaf) (.seq (.seq .leaf (.block (sl Tryz.prog []) (.loop (sl Tryz.prog [(22, 3)]) (.seq .leaf (.seq .leaf (.seq (.block (sl Tryz.prog []) .leaf) .leaf)))))) .leaf))) = t119 := by kernel_rfl
theorem c119 (x0 : ByteArray) (x1 : Value) {R : Ending → World → Prop} {w : World} (h : t119 x0 x1 R w) : Calls Tryz.prog 119 #[.string x0, x1] w R :=
  lift mixed Tryz.func119 e119 rfl ((x0, ()), (x1, ()), ()) R w h
def t120 : Int → G :=
 fun (n0 : Int) => joinG [(.one .bool)]
 (fun k1 => iteG (Decidable.decide (n0 ≥ (65 : Int)))
 (k1 (Decidable.decide (n0 ≤ (90 : Int))))
 (k1 false))
 (fun (b2 : Bool) => retG (.bool b2))
theorem e120 : denF Tryz.prog (GA Tryz.prog) Tryz.f120 [(VT.one (CT.int IntKind.u8))] (.seq .leaf (.seq (.r (sl Tryz.prog [(2, 4)])) .leaf)) = t120 := by kernel_rfl
theorem c120 (x0 : Int) {R : Ending → World → Prop} {w : World} (h : t120 x0 R w) : Calls Tryz.prog 120 #[.int .u8 x0] w R :=
  lift mixed Tryz.func120 e120 rfl ((x0, ()), ()) R w h
def t121 : Int → G :=
 fun (n0 : Int) => joinG [(.one .bool)]
 (fun k1 => iteG (Decidable.decide (n0 ≥ (97 : Int)))
 (k1 (Decidable.decide (n0 ≤ (122 : Int))))
 (k1 false))
 (fun (b2 : Bool) => retG (.bool b2))
theorem e121 : denF Tryz.prog (GA Tryz.prog) Tryz.f121 [(VT.one (CT.int IntKind.u8))] (.seq .leaf (.seq (.r (sl Tryz.prog [(2, 4)])) .leaf)) = t121 := by kernel_rfl
theorem c121 (x0 : Int) {R : Ending → World → Prop} {w : World} (h : t121 x0 R w) : Calls Tryz.prog 121 #[.int .u8 x0] w R :=
  lift mixed Tryz.func121 e121 rfl ((x0, ()), ()) R w h
def t122 : ByteArray → G :=
 fun (s0 : ByteArray) => joinG []
 (fun k1 => joinG [(.one .bool)]
 (fun k2 => iteG (ByteArray.toList s0 == ByteArray.toList (ByteArray.mk #[(109 : UInt8), (111 : UInt8), (100 : UInt8), (117 : UInt8), (108 : UInt8), (101 : UInt8)]))
 (k2 (ByteArray.toList s0 == ByteArray.toList (ByteArray.mk #[(109 : UInt8), (111 : UInt8), (100 : UInt8), (117 : UInt8), (108 : UInt8), (101 : UInt8)])))
 (joinG [(.one .bool)]
 (fun k3 => iteG (ByteArray.toList s0 == ByteArray.toList (ByteArray.mk #[(105 : UInt8), (109 : UInt8), (112 : UInt8), (111 : UInt8), (114 : UInt8), (116 : UInt8)]))
 (k3 (ByteArray.toList s0 == ByteArray.toList (ByteArray.mk #[(105 : UInt8), (109 : UInt8), (112 : UInt8), (111 : UInt8), (114 : UInt8), (116 : UInt8)])))
 (joinG [(.one .bool)]
 (fun k4 => iteG (ByteArray.toList s0 == ByteArray.toList (ByteArray.mk #[(112 : UInt8), (105 : UInt8), (110 : UInt8)]))
 (k4 (ByteArray.toList s0 == ByteArray.toList (ByteArray.mk #[(112 : UInt8), (105 : UInt8), (110 : UInt8)])))
 (joinG [(.one .bool)]
 (fun k5 => iteG (ByteArray.toList s0 == ByteArray.toList (ByteArray.mk #[(114 : UInt8), (97 : UInt8), (110 : UInt8), (103 : UInt8), (101 : UInt8)]))
 (k5 (ByteArray.toList s0 == ByteArray.toList (ByteArray.mk #[(114 : UInt8), (97 : UInt8), (110 : UInt8), (103 : UInt8), (101 : UInt8)])))
 (joinG [(.one .bool)]
 (fun k6 => iteG (ByteArray.toList s0 == ByteArray.toList (ByteArray.mk #[(116 : UInt8), (121 : UInt8), (112 : UInt8), (101 : UInt8)]))
 (k6 (ByteArray.toList s0 == ByteArray.toList (ByteArray.mk #[(116 : UInt8), (121 : UInt8), (112 : UInt8), (101 : UInt8)])))
 (joinG [(.one .bool)]
 (fun k7 => iteG (ByteArray.toList s0 == ByteArray.toList (ByteArray.mk #[(111 : UInt8), (112 : UInt8), (97 : UInt8), (113 : UInt8), (117 : UInt8), (101 : UInt8)]))
 (k7 (ByteArray.toList s0 == ByteArray.toList (ByteArray.mk #[(111 : UInt8), (112 : UInt8), (97 : UInt8), (113 : UInt8), (117 : UInt8), (101 : UInt8)])))
 (joinG [(.one .bool)]
 (fun k8 => iteG (ByteArray.toList s0 == ByteArray.toList (ByteArray.mk #[(108 : UInt8), (101 : UInt8), (116 : UInt8)]))
 (k8 (ByteArray.toList s0 == ByteArray.toList (ByteArray.mk #[(108 : UInt8), (101 : UInt8), (116 : UInt8)])))
 (joinG [(.one .bool)]
 (fun k9 => iteG (ByteArray.toList s0 == ByteArray.toList (ByteArray.mk #[(105 : UInt8), (110 : UInt8)]))
 (k9 (ByteArray.toList s0 == ByteArray.toList (ByteArray.mk #[(105 : UInt8), (110 : UInt8)])))
 (joinG [(.one .bool)]
 (fun k10 => iteG (ByteArray.toList s0 == ByteArray.toList (ByteArray.mk #[(101 : UInt8), (120 : UInt8), (112 : UInt8), (111 : UInt8), (114 : UInt8), (116 : UInt8)]))
 (k10 (ByteArray.toList s0 == ByteArray.toList (ByteArray.mk #[(101 : UInt8), (120 : UInt8), (112 : UInt8), (111 : UInt8), (114 : UInt8), (116 : UInt8)])))
 (joinG [(.one .bool)]
 (fun k11 => iteG (ByteArray.toList s0 == ByteArray.toList (ByteArray.mk #[(102 : UInt8), (117 : UInt8), (110 : UInt8)]))
 (k11 (ByteArray.toList s0 == ByteArray.toList (ByteArray.mk #[(102 : UInt8), (117 : UInt8), (110 : UInt8)])))
 (joinG [(.one .bool)]
 (fun k12 => iteG (ByteArray.toList s0 == ByteArray.toList (ByteArray.mk #[(105 : UInt8), (102 : UInt8)]))
 (k12 (ByteArray.toList s0 == ByteArray.toList (ByteArray.mk #[(105 : UInt8), (102 : UInt8)])))
 (joinG [(.one .bool)]
 (fun k13 => iteG (ByteArray.toList s0 == ByteArray.toList (ByteArray.mk #[(116 : UInt8), (104 : UInt8), (101 : UInt8), (110 : UInt8)]))
 (k13 (ByteArray.toList s0 == ByteArray.toList (ByteArray.mk #[(116 : UInt8), (104 : UInt8), (101 : UInt8), (110 : UInt8)])))
 (joinG [(.one .bool)]
 (fun k14 => iteG (ByteArray.toList s0 == ByteArray.toList (ByteArray.mk #[(101 : UInt8), (108 : UInt8), (115 : UInt8), (101 : UInt8)]))
 (k14 (ByteArray.toList s0 == ByteArray.toList (ByteArray.mk #[(101 : UInt8), (108 : UInt8), (115 : UInt8), (101 : UInt8)])))
 (joinG [(.one .bool)]
 (fun k15 => iteG (ByteArray.toList s0 == ByteArray.toList (ByteArray.mk #[(99 : UInt8), (97 : UInt8), (115 : UInt8), (101 : UInt8)]))
 (k15 (ByteArray.toList s0 == ByteArray.toList (ByteArray.mk #[(99 : UInt8), (97 : UInt8), (115 : UInt8), (101 : UInt8)])))
 (joinG [(.one .bool)]
 (fun k16 => iteG (ByteArray.toList s0 == ByteArray.toList (ByteArray.mk #[(111 : UInt8), (102 : UInt8)]))
 (k16 (ByteArray.toList s0 == ByteArray.toList (ByteArray.mk #[(111 : UInt8), (102 : UInt8)])))
 (joinG [(.one .bool)]
 (fun k17 => iteG (ByteArray.toList s0 == ByteArray.toList (ByteArray.mk #[(97 : UInt8), (115 : UInt8)]))
 (k17 (ByteArray.toList s0 == ByteArray.toList (ByteArray.mk #[(97 : UInt8), (115 : UInt8)])))
 (joinG [(.one .bool)]
 (fun k18 => iteG (ByteArray.toList s0 == ByteArray.toList (ByteArray.mk #[(110 : UInt8), (101 : UInt8), (119 : UInt8)]))
 (k18 (ByteArray.toList s0 == ByteArray.toList (ByteArray.mk #[(110 : UInt8), (101 : UInt8), (119 : UInt8)])))
 (joinG [(.one .bool)]
 (fun k19 => iteG (ByteArray.toList s0 == ByteArray.toList (ByteArray.mk #[(114 : UInt8), (97 : UInt8), (119 : UInt8)]))
 (k19 (ByteArray.toList s0 == ByteArray.toList (ByteArray.mk #[(114 : UInt8), (97 : UInt8), (119 : UInt8)])))
 (joinG [(.one .bool)]
 (fun k20 => iteG (ByteArray.toList s0 == ByteArray.toList (ByteArray.mk #[(116 : UInt8), (114 : UInt8), (117 : UInt8), (101 : UInt8)]))
 (k20 (ByteArray.toList s0 == ByteArray.toList (ByteArray.mk #[(116 : UInt8), (114 : UInt8), (117 : UInt8), (101 : UInt8)])))
 (k20 (ByteArray.toList s0 == ByteArray.toList (ByteArray.mk #[(102 : UInt8), (97 : UInt8), (108 : UInt8), (115 : UInt8), (101 : UInt8)]))))
 (fun (b21 : Bool) => k19 b21)))
 (fun (b22 : Bool) => k18 b22)))
 (fun (b23 : Bool) => k17 b23)))
 (fun (b24 : Bool) => k16 b24)))
 (fun (b25 : Bool) => k15 b25)))
 (fun (b26 : Bool) => k14 b26)))
 (fun (b27 : Bool) => k13 b27)))
 (fun (b28 : Bool) => k12 b28)))
 (fun (b29 : Bool) => k11 b29)))
 (fun (b30 : Bool) => k10 b30)))
 (fun (b31 : Bool) => k9 b31)))
 (fun (b32 : Bool) => k8 b32)))
 (fun (b33 : Bool) => k7 b33)))
 (fun (b34 : Bool) => k6 b34)))
 (fun (b35 : Bool) => k5 b35)))
 (fun (b36 : Bool) => k4 b36)))
 (fun (b37 : Bool) => k3 b37)))
 (fun (b38 : Bool) => k2 b38)))
 (fun (b39 : Bool) => iteG b39
 (retG (.bool true))
 (k1)))
 (retG (.bool false))
theorem e122 : denF Tryz.prog (GA Tryz.prog) Tryz.f122 [(VT.one CT.str)] (.seq .leaf (.seq (.seq .leaf (.block (sl Tryz.prog []) (.seq (.seq .leaf (.condj (sl Tryz.prog [(4, 4)]) .leaf (.seq .leaf (.condj (sl Tryz.prog [(4, 4)]) .leaf (.seq .leaf (.condj (sl Tryz.prog [(4, 4)]) .leaf (.seq .leaf (.condj (sl Tryz.prog [(4, 4)]) .leaf (.seq .leaf (.condj (sl Tryz.prog [(4, 4)]) .leaf (.seq .leaf (.condj (sl Tryz.prog [(4, 4)]) .leaf (.seq .leaf (.condj (sl Tryz.prog [(4, 4)]) .leaf (.seq .leaf (.condj (sl Tryz.prog [(4, 4)]) .leaf (.seq .leaf (.condj (sl Tryz.prog [(4, 4)]) .leaf (.seq .leaf (.condj (sl Tryz.prog [(4, 4)]) .leaf (.seq .leaf (.condj (sl Tryz.prog [(4, 4)]) .leaf (.seq .leaf (.condj (sl Tryz.prog [(4, 4)]) .leaf (.seq .leaf (.condj (sl Tryz.prog [(4, 4)]) .leaf (.seq .leaf (.condj (sl Tryz.prog [(4, 4)]) .leaf (.seq .leaf (.condj (sl Tryz.prog [(4, 4)]) .leaf (.seq .leaf (.condj (sl Tryz.prog [(4, 4)]) .leaf (.seq .leaf (.condj (sl Tryz.prog [(4, 4)]) .leaf (.seq .leaf (.condj (sl Tryz.prog [(4, 4)]) .leaf (.seq .leaf (.condj (sl Tryz.prog [(4, 4)]) .leaf .leaf)))))))))))))))))))))))))))))))))))))) .leaf))) .leaf)) = t122 := by kernel_rfl
theorem c122 (x0 : ByteArray) {R : Ending → World → Prop} {w : World} (h : t122 x0 R w) : Calls Tryz.prog 122 #[.string x0] w R :=
  lift mixed Tryz.func122 e122 rfl ((x0, ()), ()) R w h
def t134 : ByteArray → G :=
 fun (s0 : ByteArray) => joinG [(.one .bool)]
 (fun k1 => iteG (!ByteArray.toList s0 == ByteArray.toList (ByteArray.mk #[]))
 (iteG (Decidable.decide ((↑(ByteArray.size s0) : Int) ≤ (24 : Int)))
 (chrG s0 (0 : Int)
 (fun (n2 : Int) => callG Tryz.prog 161 #[(.int .u8 n2)] [(.one .bool)]
 (fun (b3 : Bool) => iteG b3
 (callG Tryz.prog 162 #[(.string s0)] [(.one (.int .i64))]
 (fun (n4 : Int) => iteG (n4 == (↑(ByteArray.size s0) : Int))
 (callG Tryz.prog 163 #[(.string s0)] [(.one .bool)]
 (fun (b5 : Bool) => k1 (!b5)))
 (k1 false)))
 (k1 false))))
 (k1 false))
 (k1 false))
 (fun (b6 : Bool) => retG (.bool b6))
theorem e134 : denF Tryz.prog (GA Tryz.prog) Tryz.f134 [(VT.one CT.str)] (.seq .leaf (.seq (.r (sl Tryz.prog [(2, 4)])) .leaf)) = t134 := by kernel_rfl
theorem c134 (x0 : ByteArray) {R : Ending → World → Prop} {w : World} (h : t134 x0 R w) : Calls Tryz.prog 134 #[.string x0] w R :=
  lift mixed Tryz.func134 e134 rfl ((x0, ()), ()) R w h
def t135 : ByteArray → G :=
 fun (s0 : ByteArray) => joinG [(.one .bool)]
 (fun k1 => iteG (!ByteArray.toList s0 == ByteArray.toList (ByteArray.mk #[]))
 (iteG (Decidable.decide ((↑(ByteArray.size s0) : Int) ≤ (24 : Int)))
 (chrG s0 (0 : Int)
 (fun (n2 : Int) => callG Tryz.prog 164 #[(.int .u8 n2)] [(.one .bool)]
 (fun (b3 : Bool) => iteG b3
 (callG Tryz.prog 162 #[(.string s0)] [(.one (.int .i64))]
 (fun (n4 : Int) => k1 (n4 == (↑(ByteArray.size s0) : Int))))
 (k1 false))))
 (k1 false))
 (k1 false))
 (fun (b5 : Bool) => retG (.bool b5))
theorem e135 : denF Tryz.prog (GA Tryz.prog) Tryz.f135 [(VT.one CT.str)] (.seq .leaf (.seq (.r (sl Tryz.prog [(2, 4)])) .leaf)) = t135 := by kernel_rfl
theorem c135 (x0 : ByteArray) {R : Ending → World → Prop} {w : World} (h : t135 x0 R w) : Calls Tryz.prog 135 #[.string x0] w R :=
  lift mixed Tryz.func135 e135 rfl ((x0, ()), ()) R w h
def t137 : ByteArray → G :=
 fun (s0 : ByteArray) => newG (Obj.cells #[(.int .i64 (0 : Int)), (.int .i64 (0 : Int))] 66 (Prod.mk 0 0))
 (fun (m1 : Nat) => opG Tryz.prog (Instr.makeSlice 39 (.int .i64 (0 : Int)) (.int .i64 ((↑(ByteArray.size s0) : Int)))) (.one .slice)
 (fun (l2 : Sl) => joinG [(.one .slice), (.one (.int .i64))]
 (fun k3 => loopG [(.one .slice), (.one (.int .i64))]
 (fun k4 => fun (l5 : Sl) => fun (n6 : Int) => iteG (Decidable.decide (n6 < (↑(ByteArray.size s0) : Int)))
 (joinG [(.one .slice), (.one (.int .i64))]
 (fun k7 => subG s0 n6 ((↑(ByteArray.size s0) : Int))
 (fun (s8 : ByteArray) => callG Tryz.prog 165 #[(.string s8)] [(.one (.int .i32)), (.one (.int .i64))]
 (fun (n9 : Int) => fun (n10 : Int) => joinG [(.one .bool)]
 (fun k11 => iteG (n9 == (65533 : Int))
 (k11 (n10 == (1 : Int)))
 (k11 false))
 (fun (b12 : Bool) => iteG b12
 (k3 l5 n6)
 (newG (Obj.cells #[(.int .i64 (IntKind.wrap IntKind.i64 n9))] 3 (Prod.mk 0 0))
 (fun (m13 : Nat) => opG Tryz.prog (Builtin.append_ #[39, 39] 39 #[(.slice l5.a l5.n l5.c), (.slice (some ⟨m13, 0, none⟩) 1 1)]) (.one .slice)
 (fun (l14 : Sl) => k7 l14 (IntKind.wrap IntKind.i64 (n6 + n10)))))))))
 (fun (l15 : Sl) => fun (n16 : Int) => k4 l15 n16))
 (k3 l5 n6)) l2 (0 : Int))
 (fun (l17 : Sl) => fun (n18 : Int) => iteG (Decidable.decide (n18 < (↑(ByteArray.size s0) : Int)))
 (stG ⟨m1, 0, none⟩ (.int .i64 (30 : Int))
 (stG ⟨m1, 1, none⟩ (.int .i64 n18)
 (ldG (.int .i64) ⟨m1, 0, none⟩
 (fun (n19 : Int) => ldG (.int .i64) ⟨m1, 1, none⟩
 (fun (n20 : Int) => retG (.tuple #[(.slice none 0 0), (.agg #[(.int .i64 n19), (.int .i64 n20)])]))))))
 (stG ⟨m1, 0, none⟩ (.int .i64 (0 : Int))
 (stG ⟨m1, 1, none⟩ (.int .i64 (0 : Int))
 (ldG (.int .i64) ⟨m1, 0, none⟩
 (fun (n21 : Int) => ldG (.int .i64) ⟨m1, 1, none⟩
 (fun (n22 : Int) => retG (.tuple #[(.slice l17.a l17.n l17.c), (.agg #[(.int .i64 n21), (.int .i64 n22)])])))))))))
theorem e137 : denF Tryz.prog (GA Tryz.prog) Tryz.f137 [(VT.one CT.str)] (.seq .leaf (.seq .leaf (.seq .leaf (.seq .leaf (.seq (.block (sl Tryz.prog [(4, 39), (5, 3)]) (.loop (sl Tryz.prog [(4, 39), (5, 3)]) (.seq .leaf (.block (sl Tryz.prog [(4, 39), (5, 3)]) (.seq .leaf (.seq (.seq (.r (sl Tryz.prog [(27, 4)])) .leaf) .leaf)))))) .leaf))))) = t137 := by kernel_rfl
theorem c137 (x0 : ByteArray) {R : Ending → World → Prop} {w : World} (h : t137 x0 R w) : Calls Tryz.prog 137 #[.string x0] w R :=
  lift mixed Tryz.func137 e137 rfl ((x0, ()), ()) R w h
def t138 : Option Addr → Int → Int → G :=
 fun (p0 : Option Addr) => fun (n1 : Int) => fun (n2 : Int) => nnG p0
 (fun (a3 : Addr) => stG (Addr.add (Addr.add a3 3) 0) (.int .i64 n1)
 (stG (Addr.add (Addr.add a3 3) 1) (.int .i64 n2)
 (retG (.bool false))))
theorem e138 : denF Tryz.prog (GA Tryz.prog) Tryz.f138 [(VT.one CT.ptr), (VT.one (CT.int IntKind.i64)), (VT.one (CT.int IntKind.i64))] .leaf = t138 := by kernel_rfl
theorem c138 (x0 : Option Addr) (x1 : Int) (x2 : Int) {R : Ending → World → Prop} {w : World} (h : t138 x0 x1 x2 R w) : Calls Tryz.prog 138 #[.pointer x0, .int .i64 x1, .int .i64 x2] w R :=
  lift mixed Tryz.func138 e138 rfl ((x0, ()), (x1, ()), (x2, ()), ()) R w h
def t139 : Int → ByteArray → Addr → Addr → G :=
 fun (n0 : Int) => fun (s1 : ByteArray) => fun (a2 : Addr) => fun (a3 : Addr) => drewG
 (ldG .ptr a2
 (fun (p4 : Option Addr) => ldG .ptr a2
 (fun (p5 : Option Addr) => nnG p5
 (fun (a6 : Addr) => ldG .slice (Addr.add a6 2)
 (fun (l7 : Sl) => ldG (.int .i64) a3
 (fun (n8 : Int) => newG (Obj.cells #[(.int .i64 n0), (.string s1), (.int .i64 n8)] 124 (Prod.mk 0 0))
 (fun (m9 : Nat) => keepG [(Prod.mk (Addr.add a6 2) [(.slice l7.a l7.n l7.c)]), (Prod.mk a2 [(.pointer p5)]), (Prod.mk a2 [(.pointer p4)])]
 (opG Tryz.prog (Builtin.append_ #[93, 93] 93 #[(.slice l7.a l7.n l7.c), (.slice (some ⟨m9, 0, none⟩) 1 1)]) (.one .slice)
 (fun (l10 : Sl) => keepG [(Prod.mk a3 [(.int .i64 n8)]), (Prod.mk a2 [(.pointer p5)]), (Prod.mk a2 [(.pointer p4)])]
 (nnG p4
 (fun (a11 : Addr) => stG (Addr.add a11 2) (.slice l10.a l10.n l10.c)
 (retG (.bool true)))))))))))))
theorem e139 : denF Tryz.prog (GA Tryz.prog) Tryz.f139 [(VT.one (CT.int IntKind.i64)), (VT.one CT.str), (VT.one CT.addr), (VT.one CT.addr)] .leaf = t139 := by kernel_rfl
theorem c139 (x0 : Int) (x1 : ByteArray) (x2 : Addr) (x3 : Addr) {R : Ending → World → Prop} {w : World} (h : t139 x0 x1 x2 x3 R w) : Calls Tryz.prog 139 #[.int .i64 x0, .string x1, .pointer (some x2), .pointer (some x3)] w R :=
  lift mixed Tryz.func139 e139 rfl ((x0, ()), (x1, ()), (x2, ()), (x3, ()), ()) R w h
def t140 : Int → G :=
 fun (n0 : Int) => joinG [(.one .bool)]
 (fun k1 => callG Tryz.prog 121 #[(.int .u8 n0)] [(.one .bool)]
 (fun (b2 : Bool) => iteG b2
 (k1 true)
 (callG Tryz.prog 120 #[(.int .u8 n0)] [(.one .bool)]
 (fun (b3 : Bool) => iteG b3
 (k1 true)
 (callG Tryz.prog 141 #[(.int .u8 n0)] [(.one .bool)]
 (fun (b4 : Bool) => iteG b4
 (k1 true)
 (k1 (n0 == (95 : Int)))))))))
 (fun (b5 : Bool) => retG (.bool b5))
theorem e140 : denF Tryz.prog (GA Tryz.prog) Tryz.f140 [(VT.one (CT.int IntKind.u8))] (.seq .leaf (.seq (.r (sl Tryz.prog [(2, 4)])) .leaf)) = t140 := by kernel_rfl
theorem c140 (x0 : Int) {R : Ending → World → Prop} {w : World} (h : t140 x0 R w) : Calls Tryz.prog 140 #[.int .u8 x0] w R :=
  lift mixed Tryz.func140 e140 rfl ((x0, ()), ()) R w h
def t141 : Int → G :=
 fun (n0 : Int) => joinG [(.one .bool)]
 (fun k1 => iteG (Decidable.decide (n0 ≥ (48 : Int)))
 (k1 (Decidable.decide (n0 ≤ (57 : Int))))
 (k1 false))
 (fun (b2 : Bool) => retG (.bool b2))
theorem e141 : denF Tryz.prog (GA Tryz.prog) Tryz.f141 [(VT.one (CT.int IntKind.u8))] (.seq .leaf (.seq (.r (sl Tryz.prog [(2, 4)])) .leaf)) = t141 := by kernel_rfl
theorem c141 (x0 : Int) {R : Ending → World → Prop} {w : World} (h : t141 x0 R w) : Calls Tryz.prog 141 #[.int .u8 x0] w R :=
  lift mixed Tryz.func141 e141 rfl ((x0, ()), ()) R w h
def t142 : Int → G :=
 fun (n0 : Int) => joinG [(.one .bool)]
 (fun k1 => callG Tryz.prog 121 #[(.int .u8 n0)] [(.one .bool)]
 (fun (b2 : Bool) => iteG b2
 (k1 true)
 (callG Tryz.prog 120 #[(.int .u8 n0)] [(.one .bool)]
 (fun (b3 : Bool) => iteG b3
 (k1 true)
 (callG Tryz.prog 141 #[(.int .u8 n0)] [(.one .bool)]
 (fun (b4 : Bool) => iteG b4
 (k1 true)
 (iteG (n0 == (46 : Int))
 (k1 true)
 (k1 (n0 == (45 : Int))))))))))
 (fun (b5 : Bool) => retG (.bool b5))
theorem e142 : denF Tryz.prog (GA Tryz.prog) Tryz.f142 [(VT.one (CT.int IntKind.u8))] (.seq .leaf (.seq (.r (sl Tryz.prog [(2, 4)])) .leaf)) = t142 := by kernel_rfl
theorem c142 (x0 : Int) {R : Ending → World → Prop} {w : World} (h : t142 x0 R w) : Calls Tryz.prog 142 #[.int .u8 x0] w R :=
  lift mixed Tryz.func142 e142 rfl ((x0, ()), ()) R w h
def t144 : ByteArray → G :=
 fun (s0 : ByteArray) => newG (Obj.cells #[(.int .i64 (0 : Int)), (.int .i64 (0 : Int)), (.int .i64 (0 : Int)), (.string (ByteArray.mk #[]))] 161 (Prod.mk 0 0))
 (fun (m1 : Nat) => callG Tryz.prog 173 #[(.string s0), (.string (ByteArray.mk #[45]))] [(.one .str), (.one .str), (.one .bool)]
 (fun (s2 : ByteArray) => fun (s3 : ByteArray) => fun (b4 : Bool) => callG Tryz.prog 174 #[(.string s2), (.string (ByteArray.mk #[46]))] [(.one .slice)]
 (fun (l5 : Sl) => joinG [(.one .bool)]
 (fun k6 => iteG ((↑l5.n : Int) != (3 : Int))
 (k6 true)
 (iteG b4
 (k6 (ByteArray.toList s3 == ByteArray.toList (ByteArray.mk #[])))
 (k6 false)))
 (fun (b7 : Bool) => iteG b7
 (stG ⟨m1, 0, none⟩ (.int .i64 (0 : Int))
 (stG ⟨m1, 1, none⟩ (.int .i64 (0 : Int))
 (stG ⟨m1, 2, none⟩ (.int .i64 (0 : Int))
 (stG ⟨m1, 3, none⟩ (.string (ByteArray.mk #[]))
 (ldG (.int .i64) ⟨m1, 0, none⟩
 (fun (n8 : Int) => ldG (.int .i64) ⟨m1, 1, none⟩
 (fun (n9 : Int) => ldG (.int .i64) ⟨m1, 2, none⟩
 (fun (n10 : Int) => ldG .str ⟨m1, 3, none⟩
 (fun (s11 : ByteArray) => retG (.tuple #[(.agg #[(.int .i64 n8), (.int .i64 n9), (.int .i64 n10), (.string s11)]), (.int .i64 (40 : Int))]))))))))))
 (newG (Obj.cells #[(.int .i64 (0 : Int)), (.int .i64 (0 : Int)), (.int .i64 (0 : Int))] 191 (Prod.mk 0 0))
 (fun (m12 : Nat) => joinG []
 (fun k13 => loopG [(.one (.int .i64))]
 (fun k14 => fun (n15 : Int) => iteG (Decidable.decide (n15 < (↑l5.n : Int)))
 (joinG []
 (fun k16 => idxG l5.a l5.n n15 1
 (fun (a17 : Addr) => ldG .str a17
 (fun (s18 : ByteArray) => joinG [(.one .bool)]
 (fun k19 => callG Tryz.prog 175 #[(.string s18)] [(.one .bool)]
 (fun (b20 : Bool) => iteG (!b20)
 (k19 true)
 (iteG (Decidable.decide ((↑(ByteArray.size s18) : Int) > (6 : Int)))
 (k19 true)
 (iteG (Decidable.decide ((↑(ByteArray.size s18) : Int) > (1 : Int)))
 (chrG s18 (0 : Int)
 (fun (n21 : Int) => k19 (n21 == (48 : Int))))
 (k19 false)))))
 (fun (b22 : Bool) => iteG b22
 (stG ⟨m1, 0, none⟩ (.int .i64 (0 : Int))
 (stG ⟨m1, 1, none⟩ (.int .i64 (0 : Int))
 (stG ⟨m1, 2, none⟩ (.int .i64 (0 : Int))
 (stG ⟨m1, 3, none⟩ (.string (ByteArray.mk #[]))
 (ldG (.int .i64) ⟨m1, 0, none⟩
 (fun (n23 : Int) => ldG (.int .i64) ⟨m1, 1, none⟩
 (fun (n24 : Int) => ldG (.int .i64) ⟨m1, 2, none⟩
 (fun (n25 : Int) => ldG .str ⟨m1, 3, none⟩
 (fun (s26 : ByteArray) => retG (.tuple #[(.agg #[(.int .i64 n23), (.int .i64 n24), (.int .i64 n25), (.string s26)]), (.int .i64 (40 : Int))]))))))))))
 (callG Tryz.prog 176 #[(.string s18)] [(.one (.int .i64)), (.one .any)]
 (fun (n27 : Int) => fun (_ : Value) => idxG (some ⟨m12, 0, none⟩) 3 n15 1
 (fun (a29 : Addr) => stG a29 (.int .i64 n27)
 (k16))))))))
 (k14 (IntKind.wrap IntKind.i64 (n15 + (1 : Int)))))
 (k13)) (0 : Int))
 (idxG (some ⟨m12, 0, none⟩) 3 (0 : Int) 1
 (fun (a30 : Addr) => ldG (.int .i64) a30
 (fun (n31 : Int) => idxG (some ⟨m12, 0, none⟩) 3 (1 : Int) 1
 (fun (a32 : Addr) => ldG (.int .i64) a32
 (fun (n33 : Int) => idxG (some ⟨m12, 0, none⟩) 3 (2 : Int) 1
 (fun (a34 : Addr) => ldG (.int .i64) a34
 (fun (n35 : Int) => newG (Obj.cells #[(.int .i64 (0 : Int)), (.int .i64 (0 : Int)), (.int .i64 (0 : Int)), (.string (ByteArray.mk #[]))] 161 (Prod.mk 0 0))
 (fun (m36 : Nat) => stG ⟨m36, 0, none⟩ (.int .i64 n31)
 (stG ⟨m36, 1, none⟩ (.int .i64 n33)
 (stG ⟨m36, 2, none⟩ (.int .i64 n35)
 (stG ⟨m36, 3, none⟩ (.string s3)
 (ldG (.int .i64) ⟨m36, 0, none⟩
 (fun (n37 : Int) => ldG (.int .i64) ⟨m36, 1, none⟩
 (fun (n38 : Int) => ldG (.int .i64) ⟨m36, 2, none⟩
 (fun (n39 : Int) => ldG .str ⟨m36, 3, none⟩
 (fun (s40 : ByteArray) => callG Tryz.prog 177 #[(.agg #[(.int .i64 n37), (.int .i64 n38), (.int .i64 n39), (.string s40)])] [(.one (.int .i64))]
 (fun (n41 : Int) => iteG (n41 != (0 : Int))
 (stG ⟨m1, 0, none⟩ (.int .i64 (0 : Int))
 (stG ⟨m1, 1, none⟩ (.int .i64 (0 : Int))
 (stG ⟨m1, 2, none⟩ (.int .i64 (0 : Int))
 (stG ⟨m1, 3, none⟩ (.string (ByteArray.mk #[]))
 (ldG (.int .i64) ⟨m1, 0, none⟩
 (fun (n42 : Int) => ldG (.int .i64) ⟨m1, 1, none⟩
 (fun (n43 : Int) => ldG (.int .i64) ⟨m1, 2, none⟩
 (fun (n44 : Int) => ldG .str ⟨m1, 3, none⟩
 (fun (s45 : ByteArray) => retG (.tuple #[(.agg #[(.int .i64 n42), (.int .i64 n43), (.int .i64 n44), (.string s45)]), (.int .i64 n41)]))))))))))
 (ldG (.int .i64) ⟨m36, 0, none⟩
 (fun (n46 : Int) => ldG (.int .i64) ⟨m36, 1, none⟩
 (fun (n47 : Int) => ldG (.int .i64) ⟨m36, 2, none⟩
 (fun (n48 : Int) => ldG .str ⟨m36, 3, none⟩
 (fun (s49 : ByteArray) => stG ⟨m1, 0, none⟩ (.int .i64 n46)
 (stG ⟨m1, 1, none⟩ (.int .i64 n47)
 (stG ⟨m1, 2, none⟩ (.int .i64 n48)
 (stG ⟨m1, 3, none⟩ (.string s49)
 (ldG (.int .i64) ⟨m1, 0, none⟩
 (fun (n50 : Int) => ldG (.int .i64) ⟨m1, 1, none⟩
 (fun (n51 : Int) => ldG (.int .i64) ⟨m1, 2, none⟩
 (fun (n52 : Int) => ldG .str ⟨m1, 3, none⟩
 (fun (s53 : ByteArray) => retG (.tuple #[(.agg #[(.int .i64 n50), (.int .i64 n51), (.int .i64 n52), (.string s53)]), (.int .i64 (0 : Int))])))))))))))))))))))))))))))))))))))))
theorem e144 : denF Tryz.prog (GA Tryz.prog) Tryz.f144 [(VT.one CT.str)] (.seq .leaf (.seq .leaf (.seq .leaf (.seq (.seq (.r (sl Tryz.prog [(30, 4)])) .leaf) (.seq .leaf (.seq (.seq .leaf (.block (sl Tryz.prog []) (.loop (sl Tryz.prog [(34, 3)]) (.seq .leaf (.seq .leaf (.seq (.block (sl Tryz.prog []) (.seq .leaf (.seq (.seq (.r (sl Tryz.prog [(56, 4)])) .leaf) .leaf))) .leaf)))))) .leaf)))))) = t144 := by kernel_rfl
theorem c144 (x0 : ByteArray) {R : Ending → World → Prop} {w : World} (h : t144 x0 R w) : Calls Tryz.prog 144 #[.string x0] w R :=
  lift mixed Tryz.func144 e144 rfl ((x0, ()), ()) R w h
def t145 : Option Addr → G :=
 fun (p0 : Option Addr) => nnG p0
 (fun (a1 : Addr) => ldG (.int .i64) (Addr.add (Addr.add a1 0) 1)
 (fun (n2 : Int) => nnG p0
 (fun (a3 : Addr) => ldG (.int .i64) (Addr.add (Addr.add a3 0) 1)
 (fun (n4 : Int) => nnG p0
 (fun (a5 : Addr) => stG (Addr.add (Addr.add a5 0) 1) (.int .i64 (IntKind.wrap IntKind.i64 (n4 + (1 : Int))))
 (joinG []
 (fun k6 => loopG [(.one .slice)]
 (fun k7 => fun (l8 : Sl) => joinG [(.one .slice)]
 (fun k9 => nnG p0
 (fun (a10 : Addr) => callG Tryz.prog 102 #[(.pointer (some (Addr.add a10 0))), (.int .i64 (0 : Int))] [(.one (.int .u8))]
 (fun (n11 : Int) => iteG (Decidable.decide (n11 < (32 : Int)))
 (k6)
 (joinG [(.one .slice)]
 (fun k12 => iteG (n11 == (34 : Int))
 (nnG p0
 (fun (a13 : Addr) => ldG (.int .i64) (Addr.add (Addr.add a13 0) 1)
 (fun (n14 : Int) => nnG p0
 (fun (a15 : Addr) => stG (Addr.add (Addr.add a15 0) 1) (.int .i64 (IntKind.wrap IntKind.i64 (n14 + (1 : Int))))
 (opG Tryz.prog (convert 197 9 (.slice l8.a l8.n l8.c)) (.one .str)
 (fun (s16 : ByteArray) => retG (.tuple #[(.string s16), (.bool true)])))))))
 (iteG (n11 == (92 : Int))
 (nnG p0
 (fun (a17 : Addr) => callG Tryz.prog 102 #[(.pointer (some (Addr.add a17 0))), (.int .i64 (1 : Int))] [(.one (.int .u8))]
 (fun (n18 : Int) => callG Tryz.prog 178 #[(.string (ByteArray.mk #[110, 116, 34, 92])), (.int .u8 n18)] [(.one (.int .i64))]
 (fun (n19 : Int) => iteG (Decidable.decide (n19 < (0 : Int)))
 (callG Tryz.prog 138 #[(.pointer p0), (.int .i64 (60 : Int)), (.int .i64 n2)] [(.one .bool)]
 (fun (b20 : Bool) => retG (.tuple #[(.string (ByteArray.mk #[])), (.bool b20)])))
 (chrG (ByteArray.mk #[10, 9, 34, 92]) n19
 (fun (n21 : Int) => newG (Obj.cells #[(.int .u8 n21)] 5 (Prod.mk 0 0))
 (fun (m22 : Nat) => opG Tryz.prog (Builtin.append_ #[197, 197] 197 #[(.slice l8.a l8.n l8.c), (.slice (some ⟨m22, 0, none⟩) 1 1)]) (.one .slice)
 (fun (l23 : Sl) => nnG p0
 (fun (a24 : Addr) => ldG (.int .i64) (Addr.add (Addr.add a24 0) 1)
 (fun (n25 : Int) => nnG p0
 (fun (a26 : Addr) => stG (Addr.add (Addr.add a26 0) 1) (.int .i64 (IntKind.wrap IntKind.i64 (n25 + (2 : Int))))
 (k9 l23))))))))))))
 (k12 l8)))
 (fun (l27 : Sl) => nnG p0
 (fun (a28 : Addr) => callG Tryz.prog 103 #[(.pointer (some (Addr.add a28 0))), (.func (Fn.func 179) #[] #[])] [(.one .str)]
 (fun (s29 : ByteArray) => drewG
 (nnG p0
 (fun (a30 : Addr) => ldG (.int .i64) (Addr.add (Addr.add a30 0) 1)
 (fun (n31 : Int) => nnG p0
 (fun (a32 : Addr) => ldG (.int .i64) (Addr.add (Addr.add a32 0) 1)
 (fun (n33 : Int) => callG Tryz.prog 105 #[(.pointer p0), (.int .i64 (IntKind.wrap IntKind.i64 (n31 - (↑(ByteArray.size s29) : Int)))), (.int .i64 n33)] [(.one .bool)]
 (fun (b34 : Bool) => iteG (!b34)
 (retG (.tuple #[(.string (ByteArray.mk #[])), (.bool false)]))
 (opG Tryz.prog (Builtin.append_ #[197, 9] 197 #[(.slice l27.a l27.n l27.c), (.string s29)]) (.one .slice)
 (fun (l35 : Sl) => k9 l35)))))))))))))))
 (fun (l36 : Sl) => k7 l36)) (Sl.mk none 0 0))
 (callG Tryz.prog 138 #[(.pointer p0), (.int .i64 (60 : Int)), (.int .i64 n2)] [(.one .bool)]
 (fun (b37 : Bool) => retG (.tuple #[(.string (ByteArray.mk #[])), (.bool b37)])))))))))
theorem e145 : denF Tryz.prog (GA Tryz.prog) Tryz.f145 [(VT.one CT.ptr)] (.seq .leaf (.seq .leaf (.seq .leaf (.seq .leaf (.seq (.block (sl Tryz.prog []) (.loop (sl Tryz.prog [(5, 197)]) (.block (sl Tryz.prog [(5, 197)]) (.seq .leaf (.seq .leaf (.seq (.block (sl Tryz.prog [(5, 197)]) .leaf) .leaf)))))) .leaf))))) = t145 := by kernel_rfl
theorem c145 (x0 : Option Addr) {R : Ending → World → Prop} {w : World} (h : t145 x0 R w) : Calls Tryz.prog 145 #[.pointer x0] w R :=
  lift mixed Tryz.func145 e145 rfl ((x0, ()), ()) R w h
def t146 : ByteArray → G :=
 fun (s0 : ByteArray) => joinG []
 (fun k1 => joinG [(.one .bool)]
 (fun k2 => iteG (ByteArray.toList s0 == ByteArray.toList (ByteArray.mk #[(60 : UInt8), (61 : UInt8)]))
 (k2 (ByteArray.toList s0 == ByteArray.toList (ByteArray.mk #[(60 : UInt8), (61 : UInt8)])))
 (joinG [(.one .bool)]
 (fun k3 => iteG (ByteArray.toList s0 == ByteArray.toList (ByteArray.mk #[(62 : UInt8), (61 : UInt8)]))
 (k3 (ByteArray.toList s0 == ByteArray.toList (ByteArray.mk #[(62 : UInt8), (61 : UInt8)])))
 (k3 (ByteArray.toList s0 == ByteArray.toList (ByteArray.mk #[(45 : UInt8), (62 : UInt8)]))))
 (fun (b4 : Bool) => k2 b4)))
 (fun (b5 : Bool) => iteG b5
 (retG (.bool true))
 (k1)))
 (joinG [(.one .bool)]
 (fun k6 => iteG ((↑(ByteArray.size s0) : Int) == (1 : Int))
 (callG Tryz.prog 34 #[(.string (ByteArray.mk (#[40, 41, 123, 125, 91, 93, 60, 62, 61, 94, 42, 44, 58, 46, 47, 64, 124]))), (.string s0)] [(.one .bool)]
 (fun (b7 : Bool) => k6 b7))
 (k6 false))
 (fun (b8 : Bool) => retG (.bool b8)))
theorem e146 : denF Tryz.prog (GA Tryz.prog) Tryz.f146 [(VT.one CT.str)] (.seq .leaf (.seq (.seq .leaf (.block (sl Tryz.prog []) (.seq (.seq .leaf (.condj (sl Tryz.prog [(4, 4)]) .leaf (.seq .leaf (.condj (sl Tryz.prog [(4, 4)]) .leaf .leaf)))) .leaf))) (.seq (.r (sl Tryz.prog [(2, 4)])) .leaf))) = t146 := by kernel_rfl
theorem c146 (x0 : ByteArray) {R : Ending → World → Prop} {w : World} (h : t146 x0 R w) : Calls Tryz.prog 146 #[.string x0] w R :=
  lift mixed Tryz.func146 e146 rfl ((x0, ()), ()) R w h
def t150 : Sl → Int → Int → Int → Value → G :=
 fun (l0 : Sl) => fun (n1 : Int) => fun (n2 : Int) => fun (n3 : Int) => fun (v4 : Value) => joinG [(.one (.int .i64))]
 (fun k5 => loopG [(.one (.int .i64)), (.one (.int .i64))]
 (fun k6 => fun (n7 : Int) => fun (n8 : Int) => iteG (n7 != n8)
 (joinG [(.one (.int .i64)), (.one (.int .i64))]
 (fun k9 => joinG [(.one (.int .i64)), (.one (.int .i64))]
 (fun k10 => iteG (Decidable.decide (n7 > n8))
 (callG Tryz.prog 189 #[(.slice l0.a l0.n l0.c), (.int .i64 (IntKind.wrap IntKind.i64 (n2 - n7))), (.int .i64 n2), (.int .i64 n8), v4] []
 (k10 (IntKind.wrap IntKind.i64 (n7 - n8)) n8))
 (callG Tryz.prog 189 #[(.slice l0.a l0.n l0.c), (.int .i64 (IntKind.wrap IntKind.i64 (n2 - n7))), (.int .i64 (IntKind.wrap IntKind.i64 (IntKind.wrap IntKind.i64 (n2 + n8) - n7))), (.int .i64 n7), v4] []
 (k10 n7 (IntKind.wrap IntKind.i64 (n8 - n7)))))
 (fun (n11 : Int) => fun (n12 : Int) => k9 n11 n12))
 (fun (n13 : Int) => fun (n14 : Int) => k6 n13 n14))
 (k5 n7)) (IntKind.wrap IntKind.i64 (n2 - n1)) (IntKind.wrap IntKind.i64 (n3 - n2)))
 (fun (n15 : Int) => callG Tryz.prog 189 #[(.slice l0.a l0.n l0.c), (.int .i64 (IntKind.wrap IntKind.i64 (n2 - n15))), (.int .i64 n2), (.int .i64 n15), v4] []
 (retG (.tuple #[])))
theorem e150 : denF Tryz.prog (GA Tryz.prog) Tryz.f150 [(VT.one CT.slice), (VT.one (CT.int IntKind.i64)), (VT.one (CT.int IntKind.i64)), (VT.one (CT.int IntKind.i64)), (VT.one CT.any)] (.seq .leaf (.seq .leaf (.seq (.block (sl Tryz.prog [(10, 3)]) (.loop (sl Tryz.prog [(10, 3), (11, 3)]) (.seq .leaf (.block (sl Tryz.prog [(10, 3), (11, 3)]) (.seq .leaf (.condj (sl Tryz.prog [(10, 3), (11, 3)]) .leaf .leaf)))))) .leaf))) = t150 := by kernel_rfl
theorem c150 (x0 : Sl) (x1 : Int) (x2 : Int) (x3 : Int) (x4 : Value) {R : Ending → World → Prop} {w : World} (h : t150 x0 x1 x2 x3 x4 R w) : Calls Tryz.prog 150 #[.slice x0.a x0.n x0.c, .int .i64 x1, .int .i64 x2, .int .i64 x3, x4] w R :=
  lift mixed Tryz.func150 e150 rfl ((x0, ()), (x1, ()), (x2, ()), (x3, ()), (x4, ()), ()) R w h
def t161 : Int → G :=
 fun (n0 : Int) => joinG [(.one .bool)]
 (fun k1 => iteG (Decidable.decide (n0 ≥ (97 : Int)))
 (k1 (Decidable.decide (n0 ≤ (122 : Int))))
 (k1 false))
 (fun (b2 : Bool) => retG (.bool b2))
theorem e161 : denF Tryz.prog (GA Tryz.prog) Tryz.f161 [(VT.one (CT.int IntKind.u8))] (.seq .leaf (.seq (.r (sl Tryz.prog [(2, 4)])) .leaf)) = t161 := by kernel_rfl
theorem c161 (x0 : Int) {R : Ending → World → Prop} {w : World} (h : t161 x0 R w) : Calls Tryz.prog 161 #[.int .u8 x0] w R :=
  lift mixed Tryz.func161 e161 rfl ((x0, ()), ()) R w h
def t162 : ByteArray → G :=
 fun (s0 : ByteArray) => joinG [(.one (.int .i64))]
 (fun k1 => loopG [(.one (.int .i64))]
 (fun k2 => fun (n3 : Int) => joinG [(.one .bool)]
 (fun k4 => iteG (Decidable.decide (n3 < (↑(ByteArray.size s0) : Int)))
 (chrG s0 n3
 (fun (n5 : Int) => callG Tryz.prog 161 #[(.int .u8 n5)] [(.one .bool)]
 (fun (b6 : Bool) => iteG b6
 (k4 true)
 (chrG s0 n3
 (fun (n7 : Int) => callG Tryz.prog 164 #[(.int .u8 n7)] [(.one .bool)]
 (fun (b8 : Bool) => iteG b8
 (k4 true)
 (chrG s0 n3
 (fun (n9 : Int) => callG Tryz.prog 193 #[(.int .u8 n9)] [(.one .bool)]
 (fun (b10 : Bool) => iteG b10
 (k4 true)
 (chrG s0 n3
 (fun (n11 : Int) => k4 (n11 == (95 : Int)))))))))))))
 (k4 false))
 (fun (b12 : Bool) => iteG b12
 (joinG [(.one (.int .i64))]
 (fun k13 => k13 (IntKind.wrap IntKind.i64 (n3 + (1 : Int))))
 (fun (n14 : Int) => k2 n14))
 (k1 n3))) (0 : Int))
 (fun (n15 : Int) => retG (.int .i64 n15))
theorem e162 : denF Tryz.prog (GA Tryz.prog) Tryz.f162 [(VT.one CT.str)] (.seq .leaf (.seq .leaf (.seq (.block (sl Tryz.prog [(3, 3)]) (.loop (sl Tryz.prog [(3, 3)]) (.seq (.seq (.r (sl Tryz.prog [(31, 4)])) .leaf) (.block (sl Tryz.prog [(3, 3)]) .leaf)))) .leaf))) = t162 := by kernel_rfl
theorem c162 (x0 : ByteArray) {R : Ending → World → Prop} {w : World} (h : t162 x0 R w) : Calls Tryz.prog 162 #[.string x0] w R :=
  lift mixed Tryz.func162 e162 rfl ((x0, ()), ()) R w h
def t163 : ByteArray → G :=
 fun (s0 : ByteArray) => newG (Obj.cells (#[(.string (ByteArray.mk #[109, 111, 100, 117, 108, 101])), (.string (ByteArray.mk #[105, 109, 112, 111, 114, 116])), (.string (ByteArray.mk #[112, 105, 110])), (.string (ByteArray.mk #[114, 97, 110, 103, 101])), (.string (ByteArray.mk #[116, 121, 112, 101])), (.string (ByteArray.mk #[111, 112, 97, 113, 117, 101])), (.string (ByteArray.mk #[108, 101, 116])), (.string (ByteArray.mk #[105, 110])), (.string (ByteArray.mk #[101, 120, 112, 111, 114, 116])), (.string (ByteArray.mk #[102, 117, 110])), (.string (ByteArray.mk #[105, 102])), (.string (ByteArray.mk #[116, 104, 101, 110])), (.string (ByteArray.mk #[101, 108, 115, 101])), (.string (ByteArray.mk #[99, 97, 115, 101])), (.string (ByteArray.mk #[111, 102])), (.string (ByteArray.mk #[97, 115])), (.string (ByteArray.mk #[110, 101, 119])), (.string (ByteArray.mk #[114, 97, 119])), (.string (ByteArray.mk #[116, 114, 117, 101])), (.string (ByteArray.mk #[102, 97, 108, 115, 101]))]) 9 (Prod.mk 0 0))
 (fun (m1 : Nat) => callG Tryz.prog 194 #[(.string s0), (.slice (some ⟨m1, 0, none⟩) 20 20)] [(.one .bool)]
 (fun (b2 : Bool) => retG (.bool b2)))
theorem e163 : denF Tryz.prog (GA Tryz.prog) Tryz.f163 [(VT.one CT.str)] .leaf = t163 := by kernel_rfl
theorem c163 (x0 : ByteArray) {R : Ending → World → Prop} {w : World} (h : t163 x0 R w) : Calls Tryz.prog 163 #[.string x0] w R :=
  lift mixed Tryz.func163 e163 rfl ((x0, ()), ()) R w h
def t164 : Int → G :=
 fun (n0 : Int) => joinG [(.one .bool)]
 (fun k1 => iteG (Decidable.decide (n0 ≥ (65 : Int)))
 (k1 (Decidable.decide (n0 ≤ (90 : Int))))
 (k1 false))
 (fun (b2 : Bool) => retG (.bool b2))
theorem e164 : denF Tryz.prog (GA Tryz.prog) Tryz.f164 [(VT.one (CT.int IntKind.u8))] (.seq .leaf (.seq (.r (sl Tryz.prog [(2, 4)])) .leaf)) = t164 := by kernel_rfl
theorem c164 (x0 : Int) {R : Ending → World → Prop} {w : World} (h : t164 x0 R w) : Calls Tryz.prog 164 #[.int .u8 x0] w R :=
  lift mixed Tryz.func164 e164 rfl ((x0, ()), ()) R w h
def t175 : ByteArray → G :=
 fun (s0 : ByteArray) => joinG [(.one .bool)]
 (fun k1 => iteG (!ByteArray.toList s0 == ByteArray.toList (ByteArray.mk #[]))
 (callG Tryz.prog 143 #[(.string s0), (.string (ByteArray.mk #[48, 49, 50, 51, 52, 53, 54, 55, 56, 57]))] [(.one .str)]
 (fun (s2 : ByteArray) => k1 (ByteArray.toList s2 == ByteArray.toList (ByteArray.mk #[]))))
 (k1 false))
 (fun (b3 : Bool) => retG (.bool b3))
theorem e175 : denF Tryz.prog (GA Tryz.prog) Tryz.f175 [(VT.one CT.str)] (.seq .leaf (.seq (.r (sl Tryz.prog [(2, 4)])) .leaf)) = t175 := by kernel_rfl
theorem c175 (x0 : ByteArray) {R : Ending → World → Prop} {w : World} (h : t175 x0 R w) : Calls Tryz.prog 175 #[.string x0] w R :=
  lift mixed Tryz.func175 e175 rfl ((x0, ()), ()) R w h
def t177 : Int → Int → Int → ByteArray → G :=
 fun (n0 : Int) => fun (n1 : Int) => fun (n2 : Int) => fun (s3 : ByteArray) => newG (Obj.cells #[(.int .i64 n0), (.int .i64 n1), (.int .i64 n2), (.string s3)] 161 (Prod.mk 0 0))
 (fun (m4 : Nat) => ldG (.int .i64) ⟨m4, 0, none⟩
 (fun (n5 : Int) => ldG (.int .i64) ⟨m4, 1, none⟩
 (fun (n6 : Int) => ldG (.int .i64) ⟨m4, 2, none⟩
 (fun (n7 : Int) => newG (Obj.cells #[(.int .i64 n5), (.int .i64 n6), (.int .i64 n7)] 3 (Prod.mk 0 0))
 (fun (m8 : Nat) => joinG []
 (fun k9 => loopG [(.one (.int .i64))]
 (fun k10 => fun (n11 : Int) => iteG (Decidable.decide (n11 < (↑(3 : Nat) : Int)))
 (joinG []
 (fun k12 => idxG (some ⟨m8, 0, none⟩) 3 n11 1
 (fun (a13 : Addr) => ldG (.int .i64) a13
 (fun (n14 : Int) => joinG [(.one .bool)]
 (fun k15 => iteG (Decidable.decide (n14 < (0 : Int)))
 (k15 true)
 (k15 (Decidable.decide (n14 > (999999 : Int)))))
 (fun (b16 : Bool) => iteG b16
 (retG (.int .i64 (40 : Int)))
 (k12)))))
 (k10 (IntKind.wrap IntKind.i64 (n11 + (1 : Int)))))
 (k9)) (0 : Int))
 (ldG .str ⟨m4, 3, none⟩
 (fun (s17 : ByteArray) => iteG (Decidable.decide ((↑(ByteArray.size s17) : Int) > (24 : Int)))
 (retG (.int .i64 (40 : Int)))
 (ldG .str ⟨m4, 3, none⟩
 (fun (s18 : ByteArray) => joinG []
 (fun k19 => iteG (!ByteArray.toList s18 == ByteArray.toList (ByteArray.mk #[]))
 (ldG .str ⟨m4, 3, none⟩
 (fun (s20 : ByteArray) => callG Tryz.prog 174 #[(.string s20), (.string (ByteArray.mk #[46]))] [(.one .slice)]
 (fun (l21 : Sl) => joinG []
 (fun k22 => loopG [(.one (.int .i64))]
 (fun k23 => fun (n24 : Int) => iteG (Decidable.decide (n24 < (↑l21.n : Int)))
 (joinG []
 (fun k25 => idxG l21.a l21.n n24 1
 (fun (a26 : Addr) => ldG .str a26
 (fun (s27 : ByteArray) => callG Tryz.prog 203 #[(.string s27)] [(.one .bool)]
 (fun (b28 : Bool) => iteG (!b28)
 (retG (.int .i64 (40 : Int)))
 (k25)))))
 (k23 (IntKind.wrap IntKind.i64 (n24 + (1 : Int)))))
 (k22)) (0 : Int))
 (k19))))
 (k19))
 (retG (.int .i64 (0 : Int))))))))))))
theorem e177 : denF Tryz.prog (GA Tryz.prog) Tryz.f177 [(VT.agg [(CT.int IntKind.i64), (CT.int IntKind.i64), (CT.int IntKind.i64), CT.str])] (.seq .leaf (.seq (.seq .leaf (.block (sl Tryz.prog []) (.loop (sl Tryz.prog [(15, 3)]) (.seq .leaf (.seq .leaf (.seq (.block (sl Tryz.prog []) (.seq .leaf (.seq (.r (sl Tryz.prog [(24, 4)])) .leaf))) .leaf)))))) (.seq .leaf (.seq (.seq .leaf (.condj (sl Tryz.prog []) (.seq .leaf (.block (sl Tryz.prog []) (.loop (sl Tryz.prog [(37, 3)]) (.seq .leaf (.seq .leaf (.seq (.block (sl Tryz.prog []) .leaf) .leaf)))))) .leaf)) .leaf)))) = t177 := by kernel_rfl
theorem c177 (x0 : Int) (x1 : Int) (x2 : Int) (x3 : ByteArray) {R : Ending → World → Prop} {w : World} (h : t177 x0 x1 x2 x3 R w) : Calls Tryz.prog 177 #[.agg #[.int .i64 x0, .int .i64 x1, .int .i64 x2, .string x3]] w R :=
  lift mixed Tryz.func177 e177 rfl ((x0, x1, x2, x3, ()), ()) R w h
def t179 : Int → G :=
 fun (n0 : Int) => joinG [(.one .bool)]
 (fun k1 => iteG (Decidable.decide (n0 ≥ (32 : Int)))
 (iteG (n0 != (34 : Int))
 (k1 (n0 != (92 : Int)))
 (k1 false))
 (k1 false))
 (fun (b2 : Bool) => retG (.bool b2))
theorem e179 : denF Tryz.prog (GA Tryz.prog) Tryz.f179 [(VT.one (CT.int IntKind.u8))] (.seq .leaf (.seq (.r (sl Tryz.prog [(2, 4)])) .leaf)) = t179 := by kernel_rfl
theorem c179 (x0 : Int) {R : Ending → World → Prop} {w : World} (h : t179 x0 R w) : Calls Tryz.prog 179 #[.int .u8 x0] w R :=
  lift mixed Tryz.func179 e179 rfl ((x0, ()), ()) R w h
def t189 : Sl → Int → Int → Int → Value → G :=
 fun (l0 : Sl) => fun (n1 : Int) => fun (n2 : Int) => fun (n3 : Int) => fun (_ : Value) => joinG []
 (fun k5 => loopG [(.one (.int .i64))]
 (fun k6 => fun (n7 : Int) => iteG (Decidable.decide (n7 < n3))
 (joinG []
 (fun k8 => drewG
 (idxG l0.a l0.n (IntKind.wrap IntKind.i64 (n2 + n7)) 3
 (fun (a9 : Addr) => ldG .str (Addr.add a9 0)
 (fun (s10 : ByteArray) => ldG .str (Addr.add a9 1)
 (fun (s11 : ByteArray) => ldG (.int .i64) (Addr.add a9 2)
 (fun (n12 : Int) => idxG l0.a l0.n (IntKind.wrap IntKind.i64 (n1 + n7)) 3
 (fun (a13 : Addr) => ldG .str (Addr.add a13 0)
 (fun (s14 : ByteArray) => ldG .str (Addr.add a13 1)
 (fun (s15 : ByteArray) => ldG (.int .i64) (Addr.add a13 2)
 (fun (n16 : Int) => idxG l0.a l0.n (IntKind.wrap IntKind.i64 (n1 + n7)) 3
 (fun (a17 : Addr) => stG (Addr.add a17 0) (.string s10)
 (stG (Addr.add a17 1) (.string s11)
 (stG (Addr.add a17 2) (.int .i64 n12)
 (idxG l0.a l0.n (IntKind.wrap IntKind.i64 (n2 + n7)) 3
 (fun (a18 : Addr) => stG (Addr.add a18 0) (.string s14)
 (stG (Addr.add a18 1) (.string s15)
 (stG (Addr.add a18 2) (.int .i64 n16)
 (k8))))))))))))))))))
 (k6 (IntKind.wrap IntKind.i64 (n7 + (1 : Int)))))
 (k5)) (0 : Int))
 (retG (.tuple #[]))
theorem e189 : denF Tryz.prog (GA Tryz.prog) Tryz.f189 [(VT.one CT.slice), (VT.one (CT.int IntKind.i64)), (VT.one (CT.int IntKind.i64)), (VT.one (CT.int IntKind.i64)), (VT.one CT.any)] (.seq .leaf (.block (sl Tryz.prog []) (.loop (sl Tryz.prog [(10, 3)]) (.seq .leaf (.seq (.block (sl Tryz.prog []) .leaf) .leaf))))) = t189 := by kernel_rfl
theorem c189 (x0 : Sl) (x1 : Int) (x2 : Int) (x3 : Int) (x4 : Value) {R : Ending → World → Prop} {w : World} (h : t189 x0 x1 x2 x3 x4 R w) : Calls Tryz.prog 189 #[.slice x0.a x0.n x0.c, .int .i64 x1, .int .i64 x2, .int .i64 x3, x4] w R :=
  lift mixed Tryz.func189 e189 rfl ((x0, ()), (x1, ()), (x2, ()), (x3, ()), (x4, ()), ()) R w h
def t193 : Int → G :=
 fun (n0 : Int) => joinG [(.one .bool)]
 (fun k1 => iteG (Decidable.decide (n0 ≥ (48 : Int)))
 (k1 (Decidable.decide (n0 ≤ (57 : Int))))
 (k1 false))
 (fun (b2 : Bool) => retG (.bool b2))
theorem e193 : denF Tryz.prog (GA Tryz.prog) Tryz.f193 [(VT.one (CT.int IntKind.u8))] (.seq .leaf (.seq (.r (sl Tryz.prog [(2, 4)])) .leaf)) = t193 := by kernel_rfl
theorem c193 (x0 : Int) {R : Ending → World → Prop} {w : World} (h : t193 x0 R w) : Calls Tryz.prog 193 #[.int .u8 x0] w R :=
  lift mixed Tryz.func193 e193 rfl ((x0, ()), ()) R w h
def t194 : ByteArray → Sl → G :=
 fun (s0 : ByteArray) => fun (l1 : Sl) => joinG []
 (fun k2 => loopG [(.one (.int .i64))]
 (fun k3 => fun (n4 : Int) => iteG (Decidable.decide (n4 < (↑l1.n : Int)))
 (joinG []
 (fun k5 => idxG l1.a l1.n n4 1
 (fun (a6 : Addr) => ldG .str a6
 (fun (s7 : ByteArray) => iteG (ByteArray.toList s0 == ByteArray.toList s7)
 (retG (.bool true))
 (k5))))
 (k3 (IntKind.wrap IntKind.i64 (n4 + (1 : Int)))))
 (k2)) (0 : Int))
 (retG (.bool false))
theorem e194 : denF Tryz.prog (GA Tryz.prog) Tryz.f194 [(VT.one CT.str), (VT.one CT.slice)] (.seq .leaf (.seq (.seq .leaf (.block (sl Tryz.prog []) (.loop (sl Tryz.prog [(5, 3)]) (.seq .leaf (.seq (.block (sl Tryz.prog []) .leaf) .leaf))))) .leaf)) = t194 := by kernel_rfl
theorem c194 (x0 : ByteArray) (x1 : Sl) {R : Ending → World → Prop} {w : World} (h : t194 x0 x1 R w) : Calls Tryz.prog 194 #[.string x0, .slice x1.a x1.n x1.c] w R :=
  lift mixed Tryz.func194 e194 rfl ((x0, ()), (x1, ()), ()) R w h
def t203 : ByteArray → G :=
 fun (s0 : ByteArray) => joinG [(.one .bool)]
 (fun k1 => iteG (ByteArray.toList s0 == ByteArray.toList (ByteArray.mk #[]))
 (k1 true)
 (callG Tryz.prog 175 #[(.string s0)] [(.one .bool)]
 (fun (b2 : Bool) => iteG b2
 (chrG s0 (0 : Int)
 (fun (n3 : Int) => iteG (n3 == (48 : Int))
 (k1 (!ByteArray.toList s0 == ByteArray.toList (ByteArray.mk #[(48 : UInt8)])))
 (k1 false)))
 (k1 false))))
 (fun (b4 : Bool) => iteG b4
 (retG (.bool false))
 (joinG []
 (fun k5 => loopG [(.one (.int .i64))]
 (fun k6 => fun (n7 : Int) => iteG (Decidable.decide (n7 < (↑(ByteArray.size s0) : Int)))
 (joinG []
 (fun k8 => chrG s0 n7
 (fun (n9 : Int) => joinG [(.one .bool)]
 (fun k10 => iteG (Decidable.decide (n9 ≥ (48 : Int)))
 (iteG (Decidable.decide (n9 ≤ (57 : Int)))
 (k10 false)
 (iteG (Decidable.decide (n9 ≥ (97 : Int)))
 (iteG (Decidable.decide (n9 ≤ (122 : Int)))
 (k10 false)
 (iteG (Decidable.decide (n9 ≥ (65 : Int)))
 (iteG (Decidable.decide (n9 ≤ (90 : Int)))
 (k10 false)
 (k10 (!n9 == (45 : Int))))
 (k10 (!n9 == (45 : Int)))))
 (iteG (Decidable.decide (n9 ≥ (65 : Int)))
 (iteG (Decidable.decide (n9 ≤ (90 : Int)))
 (k10 false)
 (k10 (!n9 == (45 : Int))))
 (k10 (!n9 == (45 : Int))))))
 (iteG (Decidable.decide (n9 ≥ (97 : Int)))
 (iteG (Decidable.decide (n9 ≤ (122 : Int)))
 (k10 false)
 (iteG (Decidable.decide (n9 ≥ (65 : Int)))
 (iteG (Decidable.decide (n9 ≤ (90 : Int)))
 (k10 false)
 (k10 (!n9 == (45 : Int))))
 (k10 (!n9 == (45 : Int)))))
 (iteG (Decidable.decide (n9 ≥ (65 : Int)))
 (iteG (Decidable.decide (n9 ≤ (90 : Int)))
 (k10 false)
 (k10 (!n9 == (45 : Int))))
 (k10 (!n9 == (45 : Int))))))
 (fun (b11 : Bool) => iteG b11
 (retG (.bool false))
 (k8))))
 (k6 (IntKind.wrap IntKind.i64 (n7 + (1 : Int)))))
 (k5)) (0 : Int))
 (retG (.bool true))))
theorem e203 : denF Tryz.prog (GA Tryz.prog) Tryz.f203 [(VT.one CT.str)] (.seq .leaf (.seq (.seq (.r (sl Tryz.prog [(19, 4)])) .leaf) (.seq (.seq .leaf (.block (sl Tryz.prog []) (.loop (sl Tryz.prog [(22, 3)]) (.seq .leaf (.seq .leaf (.seq (.block (sl Tryz.prog []) (.seq .leaf (.seq .leaf (.seq (.r (sl Tryz.prog [(54, 4)])) .leaf)))) .leaf)))))) .leaf))) = t203 := by kernel_rfl
theorem c203 (x0 : ByteArray) {R : Ending → World → Prop} {w : World} (h : t203 x0 R w) : Calls Tryz.prog 203 #[.string x0] w R :=
  lift mixed Tryz.func203 e203 rfl ((x0, ()), ()) R w h
end Go.Proofs.YticokfpaoiekgaaGreatDoor
end
