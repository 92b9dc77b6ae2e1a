/- The finder law behind FRanksCard: one part of its proof (joined by program out of my own texts). No condition. -/
import Derived.Test.YticokfpaoiekgaaGreatDoorFRkAN
section
set_option maxRecDepth 100000
namespace Go.Proofs.YticokfpaoiekgaaGreatDoor
open Go.Lift
def t23 : Int → ByteArray → ByteArray → Sl → Sl → Int → ByteArray → ByteArray → Sl → Sl → G :=
 fun (n0 : Int) => fun (s1 : ByteArray) => fun (s2 : ByteArray) => fun (l3 : Sl) => fun (l4 : Sl) => fun (n5 : Int) => fun (s6 : ByteArray) => fun (s7 : ByteArray) => fun (l8 : Sl) => fun (l9 : Sl) => newG (Obj.cells #[(.int .i64 n0), (.string s1), (.string s2), (.slice l3.a l3.n l3.c), (.slice l4.a l4.n l4.c)] 25 (Prod.mk 0 0))
 (fun (m10 : Nat) => newG (Obj.cells #[(.int .i64 n5), (.string s6), (.string s7), (.slice l8.a l8.n l8.c), (.slice l9.a l9.n l9.c)] 25 (Prod.mk 0 0))
 (fun (m11 : Nat) => joinG [(.one .bool)]
 (fun k12 => drewG
 (ldG (.int .i64) ⟨m10, 0, none⟩
 (fun (n13 : Int) => ldG .str ⟨m10, 1, none⟩
 (fun (s14 : ByteArray) => ldG .str ⟨m10, 2, none⟩
 (fun (s15 : ByteArray) => ldG .slice ⟨m10, 3, none⟩
 (fun (l16 : Sl) => ldG .slice ⟨m10, 4, none⟩
 (fun (l17 : Sl) => callG Tryz.prog 44 #[(.agg #[(.int .i64 n13), (.string s14), (.string s15), (.slice l16.a l16.n l16.c), (.slice l17.a l17.n l17.c)])] [(.one (.int .i64))]
 (fun (n18 : Int) => iteG (n18 == (0 : Int))
 (ldG (.int .i64) ⟨m11, 0, none⟩
 (fun (n19 : Int) => ldG .str ⟨m11, 1, none⟩
 (fun (s20 : ByteArray) => ldG .str ⟨m11, 2, none⟩
 (fun (s21 : ByteArray) => ldG .slice ⟨m11, 3, none⟩
 (fun (l22 : Sl) => ldG .slice ⟨m11, 4, none⟩
 (fun (l23 : Sl) => callG Tryz.prog 44 #[(.agg #[(.int .i64 n19), (.string s20), (.string s21), (.slice l22.a l22.n l22.c), (.slice l23.a l23.n l23.c)])] [(.one (.int .i64))]
 (fun (n24 : Int) => keepG [(Prod.mk ⟨m10, 0, none⟩ [(.int .i64 n13), (.string s14), (.string s15), (.slice l16.a l16.n l16.c), (.slice l17.a l17.n l17.c)])]
 (iteG (n24 == (0 : Int))
 (ldG (.int .i64) ⟨m10, 0, none⟩
 (fun (n25 : Int) => ldG .str ⟨m10, 1, none⟩
 (fun (s26 : ByteArray) => ldG .str ⟨m10, 2, none⟩
 (fun (s27 : ByteArray) => ldG .slice ⟨m10, 3, none⟩
 (fun (l28 : Sl) => ldG .slice ⟨m10, 4, none⟩
 (fun (l29 : Sl) => ldG (.int .i64) ⟨m11, 0, none⟩
 (fun (n30 : Int) => ldG .str ⟨m11, 1, none⟩
 (fun (s31 : ByteArray) => ldG .str ⟨m11, 2, none⟩
 (fun (s32 : ByteArray) => ldG .slice ⟨m11, 3, none⟩
 (fun (l33 : Sl) => ldG .slice ⟨m11, 4, none⟩
 (fun (l34 : Sl) => callG Tryz.prog 46 #[(.agg #[(.int .i64 n25), (.string s26), (.string s27), (.slice l28.a l28.n l28.c), (.slice l29.a l29.n l29.c)])] [(VT.agg [(.int .i64), CT.str, CT.str, CT.slice, CT.slice])]
 (fun (n35 : Int) => fun (s36 : ByteArray) => fun (s37 : ByteArray) => fun (l38 : Sl) => fun (l39 : Sl) => keepG [(Prod.mk ⟨m11, 0, none⟩ [(.int .i64 n30), (.string s31), (.string s32), (.slice l33.a l33.n l33.c), (.slice l34.a l34.n l34.c)]), (Prod.mk ⟨m11, 0, none⟩ [(.int .i64 n19), (.string s20), (.string s21), (.slice l22.a l22.n l22.c), (.slice l23.a l23.n l23.c)]), (Prod.mk ⟨m10, 0, none⟩ [(.int .i64 n13), (.string s14), (.string s15), (.slice l16.a l16.n l16.c), (.slice l17.a l17.n l17.c)])]
 (callG Tryz.prog 46 #[(.agg #[(.int .i64 n30), (.string s31), (.string s32), (.slice l33.a l33.n l33.c), (.slice l34.a l34.n l34.c)])] [(VT.agg [(.int .i64), CT.str, CT.str, CT.slice, CT.slice])]
 (fun (n40 : Int) => fun (s41 : ByteArray) => fun (s42 : ByteArray) => fun (l43 : Sl) => fun (l44 : Sl) => keepG [(Prod.mk ⟨m11, 0, none⟩ [(.int .i64 n19), (.string s20), (.string s21), (.slice l22.a l22.n l22.c), (.slice l23.a l23.n l23.c)]), (Prod.mk ⟨m10, 0, none⟩ [(.int .i64 n13), (.string s14), (.string s15), (.slice l16.a l16.n l16.c), (.slice l17.a l17.n l17.c)])]
 (callG Tryz.prog 45 #[(.agg #[(.int .i64 n35), (.string s36), (.string s37), (.slice l38.a l38.n l38.c), (.slice l39.a l39.n l39.c)]), (.agg #[(.int .i64 n40), (.string s41), (.string s42), (.slice l43.a l43.n l43.c), (.slice l44.a l44.n l44.c)])] [(.one .bool)]
 (fun (b45 : Bool) => keepG [(Prod.mk ⟨m11, 0, none⟩ [(.int .i64 n19), (.string s20), (.string s21), (.slice l22.a l22.n l22.c), (.slice l23.a l23.n l23.c)]), (Prod.mk ⟨m10, 0, none⟩ [(.int .i64 n13), (.string s14), (.string s15), (.slice l16.a l16.n l16.c), (.slice l17.a l17.n l17.c)])]
 (k12 b45)))))))))))))))))
 (k12 false)))))))))
 (k12 false)))))))))
 (fun (b46 : Bool) => retG (.bool b46))))
theorem e23 : denF Tryz.prog (GA Tryz.prog) Tryz.f23 [(VT.agg [(CT.int IntKind.i64), CT.str, CT.str, CT.slice, CT.slice]), (VT.agg [(CT.int IntKind.i64), CT.str, CT.str, CT.slice, CT.slice])] (.seq .leaf (.seq (.r (sl Tryz.prog [(4, 4)])) .leaf)) = t23 := by kernel_rfl
theorem c23 (x0 : Int) (x1 : ByteArray) (x2 : ByteArray) (x3 : Sl) (x4 : Sl) (x5 : Int) (x6 : ByteArray) (x7 : ByteArray) (x8 : Sl) (x9 : Sl) {R : Ending → World → Prop} {w : World} (h : t23 x0 x1 x2 x3 x4 x5 x6 x7 x8 x9 R w) : Calls Tryz.prog 23 #[.agg #[.int .i64 x0, .string x1, .string x2, .slice x3.a x3.n x3.c, .slice x4.a x4.n x4.c], .agg #[.int .i64 x5, .string x6, .string x7, .slice x8.a x8.n x8.c, .slice x9.a x9.n x9.c]] w R :=
  lift mixed Tryz.func23 e23 rfl ((x0, x1, x2, x3, x4, ()), (x5, x6, x7, x8, x9, ()), ()) R w h
def t24 : Int → ByteArray → ByteArray → Sl → Sl → Int → ByteArray → ByteArray → Sl → Sl → G :=
 fun (n0 : Int) => fun (s1 : ByteArray) => fun (s2 : ByteArray) => fun (l3 : Sl) => fun (l4 : Sl) => fun (n5 : Int) => fun (s6 : ByteArray) => fun (s7 : ByteArray) => fun (l8 : Sl) => fun (l9 : Sl) => newG (Obj.cells #[(.int .i64 n0), (.string s1), (.string s2), (.slice l3.a l3.n l3.c), (.slice l4.a l4.n l4.c)] 25 (Prod.mk 0 0))
 (fun (m10 : Nat) => newG (Obj.cells #[(.int .i64 n5), (.string s6), (.string s7), (.slice l8.a l8.n l8.c), (.slice l9.a l9.n l9.c)] 25 (Prod.mk 0 0))
 (fun (m11 : Nat) => joinG [(.one .bool)]
 (fun k12 => ldG (.int .i64) ⟨m10, 0, none⟩
 (fun (n13 : Int) => ldG .str ⟨m10, 1, none⟩
 (fun (s14 : ByteArray) => ldG .str ⟨m10, 2, none⟩
 (fun (s15 : ByteArray) => ldG .slice ⟨m10, 3, none⟩
 (fun (l16 : Sl) => ldG .slice ⟨m10, 4, none⟩
 (fun (l17 : Sl) => callG Tryz.prog 44 #[(.agg #[(.int .i64 n13), (.string s14), (.string s15), (.slice l16.a l16.n l16.c), (.slice l17.a l17.n l17.c)])] [(.one (.int .i64))]
 (fun (n18 : Int) => iteG (n18 == (0 : Int))
 (ldG (.int .i64) ⟨m11, 0, none⟩
 (fun (n19 : Int) => ldG .str ⟨m11, 1, none⟩
 (fun (s20 : ByteArray) => ldG .str ⟨m11, 2, none⟩
 (fun (s21 : ByteArray) => ldG .slice ⟨m11, 3, none⟩
 (fun (l22 : Sl) => ldG .slice ⟨m11, 4, none⟩
 (fun (l23 : Sl) => callG Tryz.prog 44 #[(.agg #[(.int .i64 n19), (.string s20), (.string s21), (.slice l22.a l22.n l22.c), (.slice l23.a l23.n l23.c)])] [(.one (.int .i64))]
 (fun (n24 : Int) => iteG (n24 == (0 : Int))
 (ldG (.int .i64) ⟨m10, 0, none⟩
 (fun (n25 : Int) => ldG .str ⟨m10, 1, none⟩
 (fun (s26 : ByteArray) => ldG .str ⟨m10, 2, none⟩
 (fun (s27 : ByteArray) => ldG .slice ⟨m10, 3, none⟩
 (fun (l28 : Sl) => ldG .slice ⟨m10, 4, none⟩
 (fun (l29 : Sl) => ldG (.int .i64) ⟨m11, 0, none⟩
 (fun (n30 : Int) => ldG .str ⟨m11, 1, none⟩
 (fun (s31 : ByteArray) => ldG .str ⟨m11, 2, none⟩
 (fun (s32 : ByteArray) => ldG .slice ⟨m11, 3, none⟩
 (fun (l33 : Sl) => ldG .slice ⟨m11, 4, none⟩
 (fun (l34 : Sl) => callG Tryz.prog 47 #[(.agg #[(.int .i64 n25), (.string s26), (.string s27), (.slice l28.a l28.n l28.c), (.slice l29.a l29.n l29.c)]), (.agg #[(.int .i64 n30), (.string s31), (.string s32), (.slice l33.a l33.n l33.c), (.slice l34.a l34.n l34.c)])] [(.one .bool)]
 (fun (b35 : Bool) => k12 b35))))))))))))
 (k12 false))))))))
 (k12 false))))))))
 (fun (b36 : Bool) => retG (.bool b36))))
theorem e24 : denF Tryz.prog (GA Tryz.prog) Tryz.f24 [(VT.agg [(CT.int IntKind.i64), CT.str, CT.str, CT.slice, CT.slice]), (VT.agg [(CT.int IntKind.i64), CT.str, CT.str, CT.slice, CT.slice])] (.seq .leaf (.seq (.r (sl Tryz.prog [(4, 4)])) .leaf)) = t24 := by kernel_rfl
theorem c24 (x0 : Int) (x1 : ByteArray) (x2 : ByteArray) (x3 : Sl) (x4 : Sl) (x5 : Int) (x6 : ByteArray) (x7 : ByteArray) (x8 : Sl) (x9 : Sl) {R : Ending → World → Prop} {w : World} (h : t24 x0 x1 x2 x3 x4 x5 x6 x7 x8 x9 R w) : Calls Tryz.prog 24 #[.agg #[.int .i64 x0, .string x1, .string x2, .slice x3.a x3.n x3.c, .slice x4.a x4.n x4.c], .agg #[.int .i64 x5, .string x6, .string x7, .slice x8.a x8.n x8.c, .slice x9.a x9.n x9.c]] w R :=
  lift mixed Tryz.func24 e24 rfl ((x0, x1, x2, x3, x4, ()), (x5, x6, x7, x8, x9, ()), ()) R w h
def t25 : Int → ByteArray → ByteArray → Sl → Sl → Int → ByteArray → ByteArray → Sl → Sl → G :=
 fun (n0 : Int) => fun (s1 : ByteArray) => fun (s2 : ByteArray) => fun (l3 : Sl) => fun (l4 : Sl) => fun (n5 : Int) => fun (s6 : ByteArray) => fun (s7 : ByteArray) => fun (l8 : Sl) => fun (l9 : Sl) => newG (Obj.cells #[(.int .i64 n0), (.string s1), (.string s2), (.slice l3.a l3.n l3.c), (.slice l4.a l4.n l4.c)] 25 (Prod.mk 0 0))
 (fun (m10 : Nat) => newG (Obj.cells #[(.int .i64 n5), (.string s6), (.string s7), (.slice l8.a l8.n l8.c), (.slice l9.a l9.n l9.c)] 25 (Prod.mk 0 0))
 (fun (m11 : Nat) => joinG [(.one .bool)]
 (fun k12 => ldG (.int .i64) ⟨m10, 0, none⟩
 (fun (n13 : Int) => ldG .str ⟨m10, 1, none⟩
 (fun (s14 : ByteArray) => ldG .str ⟨m10, 2, none⟩
 (fun (s15 : ByteArray) => ldG .slice ⟨m10, 3, none⟩
 (fun (l16 : Sl) => ldG .slice ⟨m10, 4, none⟩
 (fun (l17 : Sl) => callG Tryz.prog 44 #[(.agg #[(.int .i64 n13), (.string s14), (.string s15), (.slice l16.a l16.n l16.c), (.slice l17.a l17.n l17.c)])] [(.one (.int .i64))]
 (fun (n18 : Int) => iteG (n18 == (0 : Int))
 (ldG (.int .i64) ⟨m11, 0, none⟩
 (fun (n19 : Int) => ldG .str ⟨m11, 1, none⟩
 (fun (s20 : ByteArray) => ldG .str ⟨m11, 2, none⟩
 (fun (s21 : ByteArray) => ldG .slice ⟨m11, 3, none⟩
 (fun (l22 : Sl) => ldG .slice ⟨m11, 4, none⟩
 (fun (l23 : Sl) => callG Tryz.prog 44 #[(.agg #[(.int .i64 n19), (.string s20), (.string s21), (.slice l22.a l22.n l22.c), (.slice l23.a l23.n l23.c)])] [(.one (.int .i64))]
 (fun (n24 : Int) => iteG (n24 == (0 : Int))
 (ldG (.int .i64) ⟨m10, 0, none⟩
 (fun (n25 : Int) => ldG .str ⟨m10, 1, none⟩
 (fun (s26 : ByteArray) => ldG .str ⟨m10, 2, none⟩
 (fun (s27 : ByteArray) => ldG .slice ⟨m10, 3, none⟩
 (fun (l28 : Sl) => ldG .slice ⟨m10, 4, none⟩
 (fun (l29 : Sl) => ldG (.int .i64) ⟨m11, 0, none⟩
 (fun (n30 : Int) => ldG .str ⟨m11, 1, none⟩
 (fun (s31 : ByteArray) => ldG .str ⟨m11, 2, none⟩
 (fun (s32 : ByteArray) => ldG .slice ⟨m11, 3, none⟩
 (fun (l33 : Sl) => ldG .slice ⟨m11, 4, none⟩
 (fun (l34 : Sl) => callG Tryz.prog 48 #[(.agg #[(.int .i64 n25), (.string s26), (.string s27), (.slice l28.a l28.n l28.c), (.slice l29.a l29.n l29.c)]), (.agg #[(.int .i64 n30), (.string s31), (.string s32), (.slice l33.a l33.n l33.c), (.slice l34.a l34.n l34.c)])] [(.one .bool)]
 (fun (b35 : Bool) => k12 b35))))))))))))
 (k12 false))))))))
 (k12 false))))))))
 (fun (b36 : Bool) => retG (.bool b36))))
theorem e25 : denF Tryz.prog (GA Tryz.prog) Tryz.f25 [(VT.agg [(CT.int IntKind.i64), CT.str, CT.str, CT.slice, CT.slice]), (VT.agg [(CT.int IntKind.i64), CT.str, CT.str, CT.slice, CT.slice])] (.seq .leaf (.seq (.r (sl Tryz.prog [(4, 4)])) .leaf)) = t25 := by kernel_rfl
theorem c25 (x0 : Int) (x1 : ByteArray) (x2 : ByteArray) (x3 : Sl) (x4 : Sl) (x5 : Int) (x6 : ByteArray) (x7 : ByteArray) (x8 : Sl) (x9 : Sl) {R : Ending → World → Prop} {w : World} (h : t25 x0 x1 x2 x3 x4 x5 x6 x7 x8 x9 R w) : Calls Tryz.prog 25 #[.agg #[.int .i64 x0, .string x1, .string x2, .slice x3.a x3.n x3.c, .slice x4.a x4.n x4.c], .agg #[.int .i64 x5, .string x6, .string x7, .slice x8.a x8.n x8.c, .slice x9.a x9.n x9.c]] w R :=
  lift mixed Tryz.func25 e25 rfl ((x0, x1, x2, x3, x4, ()), (x5, x6, x7, x8, x9, ()), ()) R w h
def t44 : Int → ByteArray → ByteArray → Sl → Sl → G :=
 fun (n0 : Int) => fun (s1 : ByteArray) => fun (s2 : ByteArray) => fun (l3 : Sl) => fun (l4 : Sl) => newG (Obj.cells #[(.int .i64 n0), (.string s1), (.string s2), (.slice l3.a l3.n l3.c), (.slice l4.a l4.n l4.c)] 25 (Prod.mk 0 0))
 (fun (m5 : Nat) => ldG (.int .i64) ⟨m5, 0, none⟩
 (fun (n6 : Int) => ldG .str ⟨m5, 1, none⟩
 (fun (s7 : ByteArray) => ldG .str ⟨m5, 2, none⟩
 (fun (s8 : ByteArray) => ldG .slice ⟨m5, 3, none⟩
 (fun (l9 : Sl) => ldG .slice ⟨m5, 4, none⟩
 (fun (l10 : Sl) => callG Tryz.prog 50 #[(.agg #[(.int .i64 n6), (.string s7), (.string s8), (.slice l9.a l9.n l9.c), (.slice l10.a l10.n l10.c)]), (.int .i64 (400 : Int))] [(.one (.int .i64))]
 (fun (n11 : Int) => iteG (Decidable.decide (n11 > (400 : Int)))
 (retG (.int .i64 (3 : Int)))
 (ldG (.int .i64) ⟨m5, 0, none⟩
 (fun (n12 : Int) => ldG .str ⟨m5, 1, none⟩
 (fun (s13 : ByteArray) => ldG .str ⟨m5, 2, none⟩
 (fun (s14 : ByteArray) => ldG .slice ⟨m5, 3, none⟩
 (fun (l15 : Sl) => ldG .slice ⟨m5, 4, none⟩
 (fun (l16 : Sl) => callG Tryz.prog 76 #[(.agg #[(.int .i64 n12), (.string s13), (.string s14), (.slice l15.a l15.n l15.c), (.slice l16.a l16.n l16.c)])] [(.one (.int .i64))]
 (fun (n17 : Int) => iteG (Decidable.decide (n17 > (40 : Int)))
 (retG (.int .i64 (91 : Int)))
 (ldG (.int .i64) ⟨m5, 0, none⟩
 (fun (n18 : Int) => ldG .str ⟨m5, 1, none⟩
 (fun (s19 : ByteArray) => ldG .str ⟨m5, 2, none⟩
 (fun (s20 : ByteArray) => ldG .slice ⟨m5, 3, none⟩
 (fun (l21 : Sl) => ldG .slice ⟨m5, 4, none⟩
 (fun (l22 : Sl) => callG Tryz.prog 77 #[(.agg #[(.int .i64 n18), (.string s19), (.string s20), (.slice l21.a l21.n l21.c), (.slice l22.a l22.n l22.c)])] [(.one .bool)]
 (fun (b23 : Bool) => iteG (!b23)
 (retG (.int .i64 (70 : Int)))
 (retG (.int .i64 (0 : Int))))))))))))))))))))))))
theorem e44 : denF Tryz.prog (GA Tryz.prog) Tryz.f44 [(VT.agg [(CT.int IntKind.i64), CT.str, CT.str, CT.slice, CT.slice])] .leaf = t44 := by kernel_rfl
theorem c44 (x0 : Int) (x1 : ByteArray) (x2 : ByteArray) (x3 : Sl) (x4 : Sl) {R : Ending → World → Prop} {w : World} (h : t44 x0 x1 x2 x3 x4 R w) : Calls Tryz.prog 44 #[.agg #[.int .i64 x0, .string x1, .string x2, .slice x3.a x3.n x3.c, .slice x4.a x4.n x4.c]] w R :=
  lift mixed Tryz.func44 e44 rfl ((x0, x1, x2, x3, x4, ()), ()) R w h
def t45 : Int → ByteArray → ByteArray → Sl → Sl → Int → ByteArray → ByteArray → Sl → Sl → G :=
 fun (n0 : Int) => fun (s1 : ByteArray) => fun (s2 : ByteArray) => fun (l3 : Sl) => fun (l4 : Sl) => fun (n5 : Int) => fun (s6 : ByteArray) => fun (s7 : ByteArray) => fun (l8 : Sl) => fun (l9 : Sl) => newG (Obj.cells #[(.int .i64 n0), (.string s1), (.string s2), (.slice l3.a l3.n l3.c), (.slice l4.a l4.n l4.c)] 25 (Prod.mk 0 0))
 (fun (m10 : Nat) => newG (Obj.cells #[(.int .i64 n5), (.string s6), (.string s7), (.slice l8.a l8.n l8.c), (.slice l9.a l9.n l9.c)] 25 (Prod.mk 0 0))
 (fun (m11 : Nat) => joinG [(.one .bool)]
 (fun k12 => ldG (.int .i64) ⟨m10, 0, none⟩
 (fun (n13 : Int) => ldG (.int .i64) ⟨m11, 0, none⟩
 (fun (n14 : Int) => iteG (n13 != n14)
 (k12 true)
 (ldG .str ⟨m10, 1, none⟩
 (fun (s15 : ByteArray) => ldG .str ⟨m11, 1, none⟩
 (fun (s16 : ByteArray) => iteG (!ByteArray.toList s15 == ByteArray.toList s16)
 (k12 true)
 (ldG .str ⟨m10, 2, none⟩
 (fun (s17 : ByteArray) => ldG .str ⟨m11, 2, none⟩
 (fun (s18 : ByteArray) => iteG (!ByteArray.toList s17 == ByteArray.toList s18)
 (k12 true)
 (ldG .slice ⟨m10, 3, none⟩
 (fun (l19 : Sl) => ldG .slice ⟨m11, 3, none⟩
 (fun (l20 : Sl) => iteG ((↑l19.n : Int) != (↑l20.n : Int))
 (k12 true)
 (ldG .slice ⟨m10, 4, none⟩
 (fun (l21 : Sl) => ldG .slice ⟨m11, 4, none⟩
 (fun (l22 : Sl) => k12 ((↑l21.n : Int) != (↑l22.n : Int)))))))))))))))))
 (fun (b23 : Bool) => iteG b23
 (retG (.bool false))
 (joinG []
 (fun k24 => loopG [(.one (.int .i64))]
 (fun k25 => fun (n26 : Int) => ldG .slice ⟨m10, 3, none⟩
 (fun (l27 : Sl) => iteG (Decidable.decide (n26 < (↑l27.n : Int)))
 (joinG []
 (fun k28 => drewG
 (ldG .slice ⟨m10, 3, none⟩
 (fun (l29 : Sl) => idxG l29.a l29.n n26 1
 (fun (a30 : Addr) => ldG .str a30
 (fun (s31 : ByteArray) => ldG .slice ⟨m11, 3, none⟩
 (fun (l32 : Sl) => idxG l32.a l32.n n26 1
 (fun (a33 : Addr) => ldG .str a33
 (fun (s34 : ByteArray) => iteG (!ByteArray.toList s31 == ByteArray.toList s34)
 (retG (.bool false))
 (k28)))))))))
 (k25 (IntKind.wrap IntKind.i64 (n26 + (1 : Int)))))
 (k24))) (0 : Int))
 (joinG []
 (fun k35 => loopG [(.one (.int .i64))]
 (fun k36 => fun (n37 : Int) => ldG .slice ⟨m10, 4, none⟩
 (fun (l38 : Sl) => iteG (Decidable.decide (n37 < (↑l38.n : Int)))
 (joinG []
 (fun k39 => drewG
 (ldG .slice ⟨m10, 4, none⟩
 (fun (l40 : Sl) => idxG l40.a l40.n n37 5
 (fun (a41 : Addr) => ldG (.int .i64) (Addr.add a41 0)
 (fun (n42 : Int) => ldG .str (Addr.add a41 1)
 (fun (s43 : ByteArray) => ldG .str (Addr.add a41 2)
 (fun (s44 : ByteArray) => ldG .slice (Addr.add a41 3)
 (fun (l45 : Sl) => ldG .slice (Addr.add a41 4)
 (fun (l46 : Sl) => ldG .slice ⟨m11, 4, none⟩
 (fun (l47 : Sl) => idxG l47.a l47.n n37 5
 (fun (a48 : Addr) => ldG (.int .i64) (Addr.add a48 0)
 (fun (n49 : Int) => ldG .str (Addr.add a48 1)
 (fun (s50 : ByteArray) => ldG .str (Addr.add a48 2)
 (fun (s51 : ByteArray) => ldG .slice (Addr.add a48 3)
 (fun (l52 : Sl) => ldG .slice (Addr.add a48 4)
 (fun (l53 : Sl) => callG Tryz.prog 45 #[(.agg #[(.int .i64 n42), (.string s43), (.string s44), (.slice l45.a l45.n l45.c), (.slice l46.a l46.n l46.c)]), (.agg #[(.int .i64 n49), (.string s50), (.string s51), (.slice l52.a l52.n l52.c), (.slice l53.a l53.n l53.c)])] [(.one .bool)]
 (fun (b54 : Bool) => keepG [(Prod.mk ⟨m11, 4, none⟩ [(.slice l47.a l47.n l47.c)]), (Prod.mk ⟨m10, 4, none⟩ [(.slice l40.a l40.n l40.c)])]
 (iteG (!b54)
 (retG (.bool false))
 (k39)))))))))))))))))))
 (k36 (IntKind.wrap IntKind.i64 (n37 + (1 : Int)))))
 (k35))) (0 : Int))
 (retG (.bool true)))))))
theorem e45 : denF Tryz.prog (GA Tryz.prog) Tryz.f45 [(VT.agg [(CT.int IntKind.i64), CT.str, CT.str, CT.slice, CT.slice]), (VT.agg [(CT.int IntKind.i64), CT.str, CT.str, CT.slice, CT.slice])] (.seq .leaf (.seq (.seq (.r (sl Tryz.prog [(43, 4)])) .leaf) (.seq (.seq .leaf (.block (sl Tryz.prog []) (.loop (sl Tryz.prog [(5, 3)]) (.seq .leaf (.seq (.block (sl Tryz.prog []) .leaf) .leaf))))) (.seq (.seq .leaf (.block (sl Tryz.prog []) (.loop (sl Tryz.prog [(6, 3)]) (.seq .leaf (.seq (.block (sl Tryz.prog []) .leaf) .leaf))))) .leaf)))) = t45 := by kernel_rfl
theorem c45 (x0 : Int) (x1 : ByteArray) (x2 : ByteArray) (x3 : Sl) (x4 : Sl) (x5 : Int) (x6 : ByteArray) (x7 : ByteArray) (x8 : Sl) (x9 : Sl) {R : Ending → World → Prop} {w : World} (h : t45 x0 x1 x2 x3 x4 x5 x6 x7 x8 x9 R w) : Calls Tryz.prog 45 #[.agg #[.int .i64 x0, .string x1, .string x2, .slice x3.a x3.n x3.c, .slice x4.a x4.n x4.c], .agg #[.int .i64 x5, .string x6, .string x7, .slice x8.a x8.n x8.c, .slice x9.a x9.n x9.c]] w R :=
  lift mixed Tryz.func45 e45 rfl ((x0, x1, x2, x3, x4, ()), (x5, x6, x7, x8, x9, ()), ()) R w h
def t46 : Int → ByteArray → ByteArray → Sl → Sl → G :=
 fun (n0 : Int) => fun (s1 : ByteArray) => fun (s2 : ByteArray) => fun (l3 : Sl) => fun (l4 : Sl) => newG (Obj.cells #[(.int .i64 n0), (.string s1), (.string s2), (.slice l3.a l3.n l3.c), (.slice l4.a l4.n l4.c)] 25 (Prod.mk 0 0))
 (fun (m5 : Nat) => newG (Obj.cells #[(.int .i64 (0 : Int)), (.string (ByteArray.mk #[])), (.string (ByteArray.mk #[])), (.slice none 0 0), (.slice none 0 0)] 25 (Prod.mk 0 0))
 (fun (m6 : Nat) => ldG (.int .i64) ⟨m5, 0, none⟩
 (fun (n7 : Int) => ldG .str ⟨m5, 1, none⟩
 (fun (s8 : ByteArray) => ldG .str ⟨m5, 2, none⟩
 (fun (s9 : ByteArray) => newG (Obj.cells #[(.int .i64 (0 : Int)), (.string (ByteArray.mk #[])), (.string (ByteArray.mk #[])), (.slice none 0 0), (.slice none 0 0)] 25 (Prod.mk 0 0))
 (fun (m10 : Nat) => stG ⟨m10, 0, none⟩ (.int .i64 n7)
 (stG ⟨m10, 1, none⟩ (.string s8)
 (stG ⟨m10, 2, none⟩ (.string s9)
 (stG ⟨m10, 3, none⟩ (.slice none 0 0)
 (stG ⟨m10, 4, none⟩ (.slice none 0 0)
 (joinG []
 (fun k11 => loopG [(.one (.int .i64))]
 (fun k12 => fun (n13 : Int) => ldG .slice ⟨m5, 4, none⟩
 (fun (l14 : Sl) => iteG (Decidable.decide (n13 < (↑l14.n : Int)))
 (joinG []
 (fun k15 => ldG .slice ⟨m5, 4, none⟩
 (fun (l16 : Sl) => idxG l16.a l16.n n13 5
 (fun (a17 : Addr) => ldG (.int .i64) (Addr.add a17 0)
 (fun (n18 : Int) => ldG .str (Addr.add a17 1)
 (fun (s19 : ByteArray) => ldG .str (Addr.add a17 2)
 (fun (s20 : ByteArray) => ldG .slice (Addr.add a17 3)
 (fun (l21 : Sl) => ldG .slice (Addr.add a17 4)
 (fun (l22 : Sl) => callG Tryz.prog 46 #[(.agg #[(.int .i64 n18), (.string s19), (.string s20), (.slice l21.a l21.n l21.c), (.slice l22.a l22.n l22.c)])] [(VT.agg [(.int .i64), CT.str, CT.str, CT.slice, CT.slice])]
 (fun (n23 : Int) => fun (s24 : ByteArray) => fun (s25 : ByteArray) => fun (l26 : Sl) => fun (l27 : Sl) => newG (Obj.cells #[(.int .i64 (0 : Int)), (.string (ByteArray.mk #[])), (.string (ByteArray.mk #[])), (.slice none 0 0), (.slice none 0 0)] 25 (Prod.mk 0 0))
 (fun (m28 : Nat) => stG ⟨m28, 0, none⟩ (.int .i64 n23)
 (stG ⟨m28, 1, none⟩ (.string s24)
 (stG ⟨m28, 2, none⟩ (.string s25)
 (stG ⟨m28, 3, none⟩ (.slice l26.a l26.n l26.c)
 (stG ⟨m28, 4, none⟩ (.slice l27.a l27.n l27.c)
 (ldG .slice ⟨m5, 3, none⟩
 (fun (l29 : Sl) => iteG ((↑l29.n : Int) == (0 : Int))
 (ldG .slice ⟨m10, 4, none⟩
 (fun (l30 : Sl) => ldG (.int .i64) ⟨m28, 0, none⟩
 (fun (n31 : Int) => ldG .str ⟨m28, 1, none⟩
 (fun (s32 : ByteArray) => ldG .str ⟨m28, 2, none⟩
 (fun (s33 : ByteArray) => ldG .slice ⟨m28, 3, none⟩
 (fun (l34 : Sl) => ldG .slice ⟨m28, 4, none⟩
 (fun (l35 : Sl) => newG (Obj.cells #[(.int .i64 n31), (.string s32), (.string s33), (.slice l34.a l34.n l34.c), (.slice l35.a l35.n l35.c)] 25 (Prod.mk 0 0))
 (fun (m36 : Nat) => opG Tryz.prog (Builtin.append_ #[23, 23] 23 #[(.slice l30.a l30.n l30.c), (.slice (some ⟨m36, 0, none⟩) 1 1)]) (.one .slice)
 (fun (l37 : Sl) => stG ⟨m10, 4, none⟩ (.slice l37.a l37.n l37.c)
 (k15))))))))))
 (joinG [(.one (.int .i64))]
 (fun k38 => loopG [(.one (.int .i64))]
 (fun k39 => fun (n40 : Int) => joinG [(.one .bool)]
 (fun k41 => drewG
 (ldG .slice ⟨m10, 3, none⟩
 (fun (l42 : Sl) => iteG (Decidable.decide (n40 < (↑l42.n : Int)))
 (ldG .slice ⟨m10, 3, none⟩
 (fun (l43 : Sl) => idxG l43.a l43.n n40 1
 (fun (a44 : Addr) => ldG .str a44
 (fun (s45 : ByteArray) => ldG .slice ⟨m5, 3, none⟩
 (fun (l46 : Sl) => idxG l46.a l46.n n13 1
 (fun (a47 : Addr) => ldG .str a47
 (fun (s48 : ByteArray) => k41 (Op.bytesLess (ByteArray.toList s45) (ByteArray.toList s48)))))))))
 (k41 false))))
 (fun (b49 : Bool) => iteG b49
 (joinG [(.one (.int .i64))]
 (fun k50 => k50 (IntKind.wrap IntKind.i64 (n40 + (1 : Int))))
 (fun (n51 : Int) => k39 n51))
 (k38 n40))) (0 : Int))
 (fun (n52 : Int) => drewG
 (ldG .slice ⟨m10, 3, none⟩
 (fun (l53 : Sl) => assumeG (Decidable.decide ((↑l53.c : Int) ≤ (↑l53.c : Int)))
 (resliceG l53.a l53.c (0 : Int) n52 ((↑l53.c : Int)) 1
 (fun (p54 : Option Addr) => fun (m55 : Nat) => fun (m56 : Nat) => ldG .slice ⟨m5, 3, none⟩
 (fun (l57 : Sl) => idxG l57.a l57.n n13 1
 (fun (a58 : Addr) => ldG .str a58
 (fun (s59 : ByteArray) => ldG .slice ⟨m10, 3, none⟩
 (fun (l60 : Sl) => assumeG (Decidable.decide ((↑l60.c : Int) ≤ (↑l60.c : Int)))
 (resliceG l60.a l60.c n52 ((↑l60.n : Int)) ((↑l60.c : Int)) 1
 (fun (p61 : Option Addr) => fun (m62 : Nat) => fun (m63 : Nat) => bothG
 (newG (Obj.cells #[] 9 (Prod.mk 0 0))
 (fun (m64 : Nat) => keepG [(Prod.mk ⟨m10, 3, none⟩ [(.slice l60.a l60.n l60.c)]), (Prod.mk a58 [(.string s59)]), (Prod.mk ⟨m5, 3, none⟩ [(.slice l57.a l57.n l57.c)]), (Prod.mk ⟨m10, 3, none⟩ [(.slice l53.a l53.n l53.c)])]
 (bothG
 (opG Tryz.prog (Builtin.append_ #[22, 22] 22 #[(.slice (some ⟨m64, 0, none⟩) 0 0), (.slice p54 m55 m56)]) (.one .slice)
 (fun (l65 : Sl) => keepG [(Prod.mk ⟨m10, 3, none⟩ [(.slice l60.a l60.n l60.c)]), (Prod.mk a58 [(.string s59)]), (Prod.mk ⟨m5, 3, none⟩ [(.slice l57.a l57.n l57.c)])]
 (newG (Obj.cells #[(.string s59)] 9 (Prod.mk 0 0))
 (fun (m66 : Nat) => keepG [(Prod.mk ⟨m10, 3, none⟩ [(.slice l60.a l60.n l60.c)]), (Prod.mk ⟨m5, 3, none⟩ [(.slice l57.a l57.n l57.c)]), (Prod.mk ⟨m10, 3, none⟩ [(.slice l53.a l53.n l53.c)])]
 (opG Tryz.prog (Builtin.append_ #[22, 22] 22 #[(.slice l65.a l65.n l65.c), (.slice (some ⟨m66, 0, none⟩) 1 1)]) (.one .slice)
 (fun (l67 : Sl) => keepG [(Prod.mk ⟨m10, 3, none⟩ [(.slice l60.a l60.n l60.c)]), (Prod.mk ⟨m5, 3, none⟩ [(.slice l57.a l57.n l57.c)]), (Prod.mk ⟨m10, 3, none⟩ [(.slice l53.a l53.n l53.c)])]
 (opG Tryz.prog (Builtin.append_ #[22, 22] 22 #[(.slice l67.a l67.n l67.c), (.slice p61 m62 m63)]) (.one .slice)
 (fun (l68 : Sl) => keepG [(Prod.mk a58 [(.string s59)]), (Prod.mk ⟨m5, 3, none⟩ [(.slice l57.a l57.n l57.c)]), (Prod.mk ⟨m10, 3, none⟩ [(.slice l53.a l53.n l53.c)])]
 (stG ⟨m10, 3, none⟩ (.slice l68.a l68.n l68.c)
 (drewG
 (ldG .slice ⟨m10, 4, none⟩
 (fun (l69 : Sl) => assumeG (Decidable.decide ((↑l69.c : Int) ≤ (↑l69.c : Int)))
 (resliceG l69.a l69.c (0 : Int) n52 ((↑l69.c : Int)) 5
 (fun (p70 : Option Addr) => fun (m71 : Nat) => fun (m72 : Nat) => ldG (.int .i64) ⟨m28, 0, none⟩
 (fun (n73 : Int) => ldG .str ⟨m28, 1, none⟩
 (fun (s74 : ByteArray) => ldG .str ⟨m28, 2, none⟩
 (fun (s75 : ByteArray) => ldG .slice ⟨m28, 3, none⟩
 (fun (l76 : Sl) => ldG .slice ⟨m28, 4, none⟩
 (fun (l77 : Sl) => ldG .slice ⟨m10, 4, none⟩
 (fun (l78 : Sl) => assumeG (Decidable.decide ((↑l78.c : Int) ≤ (↑l78.c : Int)))
 (resliceG l78.a l78.c n52 ((↑l78.n : Int)) ((↑l78.c : Int)) 5
 (fun (p79 : Option Addr) => fun (m80 : Nat) => fun (m81 : Nat) => bothG
 (newG (Obj.cells #[] 25 (Prod.mk 0 0))
 (fun (m82 : Nat) => keepG [(Prod.mk ⟨m10, 4, none⟩ [(.slice l78.a l78.n l78.c)]), (Prod.mk ⟨m28, 0, none⟩ [(.int .i64 n73), (.string s74), (.string s75), (.slice l76.a l76.n l76.c), (.slice l77.a l77.n l77.c)]), (Prod.mk ⟨m10, 4, none⟩ [(.slice l69.a l69.n l69.c)])]
 (bothG
 (opG Tryz.prog (Builtin.append_ #[23, 23] 23 #[(.slice (some ⟨m82, 0, none⟩) 0 0), (.slice p70 m71 m72)]) (.one .slice)
 (fun (l83 : Sl) => keepG [(Prod.mk ⟨m10, 4, none⟩ [(.slice l78.a l78.n l78.c)]), (Prod.mk ⟨m28, 0, none⟩ [(.int .i64 n73), (.string s74), (.string s75), (.slice l76.a l76.n l76.c), (.slice l77.a l77.n l77.c)])]
 (newG (Obj.cells #[(.int .i64 n73), (.string s74), (.string s75), (.slice l76.a l76.n l76.c), (.slice l77.a l77.n l77.c)] 25 (Prod.mk 0 0))
 (fun (m84 : Nat) => keepG [(Prod.mk ⟨m10, 4, none⟩ [(.slice l78.a l78.n l78.c)]), (Prod.mk ⟨m10, 4, none⟩ [(.slice l69.a l69.n l69.c)])]
 (opG Tryz.prog (Builtin.append_ #[23, 23] 23 #[(.slice l83.a l83.n l83.c), (.slice (some ⟨m84, 0, none⟩) 1 1)]) (.one .slice)
 (fun (l85 : Sl) => keepG [(Prod.mk ⟨m10, 4, none⟩ [(.slice l78.a l78.n l78.c)]), (Prod.mk ⟨m10, 4, none⟩ [(.slice l69.a l69.n l69.c)])]
 (opG Tryz.prog (Builtin.append_ #[23, 23] 23 #[(.slice l85.a l85.n l85.c), (.slice p79 m80 m81)]) (.one .slice)
 (fun (l86 : Sl) => keepG [(Prod.mk ⟨m28, 0, none⟩ [(.int .i64 n73), (.string s74), (.string s75), (.slice l76.a l76.n l76.c), (.slice l77.a l77.n l77.c)]), (Prod.mk ⟨m10, 4, none⟩ [(.slice l69.a l69.n l69.c)])]
 (stG ⟨m10, 4, none⟩ (.slice l86.a l86.n l86.c)
 (k15))))))))))
 (newG (Obj.cells #[(.int .i64 n73), (.string s74), (.string s75), (.slice l76.a l76.n l76.c), (.slice l77.a l77.n l77.c)] 25 (Prod.mk 0 0))
 (fun (m87 : Nat) => keepG [(Prod.mk ⟨m10, 4, none⟩ [(.slice l78.a l78.n l78.c)]), (Prod.mk ⟨m10, 4, none⟩ [(.slice l69.a l69.n l69.c)])]
 (opG Tryz.prog (Builtin.append_ #[23, 23] 23 #[(.slice (some ⟨m82, 0, none⟩) 0 0), (.slice p70 m71 m72)]) (.one .slice)
 (fun (l88 : Sl) => keepG [(Prod.mk ⟨m10, 4, none⟩ [(.slice l78.a l78.n l78.c)]), (Prod.mk ⟨m28, 0, none⟩ [(.int .i64 n73), (.string s74), (.string s75), (.slice l76.a l76.n l76.c), (.slice l77.a l77.n l77.c)])]
 (opG Tryz.prog (Builtin.append_ #[23, 23] 23 #[(.slice l88.a l88.n l88.c), (.slice (some ⟨m87, 0, none⟩) 1 1)]) (.one .slice)
 (fun (l89 : Sl) => keepG [(Prod.mk ⟨m10, 4, none⟩ [(.slice l78.a l78.n l78.c)]), (Prod.mk ⟨m10, 4, none⟩ [(.slice l69.a l69.n l69.c)])]
 (opG Tryz.prog (Builtin.append_ #[23, 23] 23 #[(.slice l89.a l89.n l89.c), (.slice p79 m80 m81)]) (.one .slice)
 (fun (l90 : Sl) => keepG [(Prod.mk ⟨m28, 0, none⟩ [(.int .i64 n73), (.string s74), (.string s75), (.slice l76.a l76.n l76.c), (.slice l77.a l77.n l77.c)]), (Prod.mk ⟨m10, 4, none⟩ [(.slice l69.a l69.n l69.c)])]
 (stG ⟨m10, 4, none⟩ (.slice l90.a l90.n l90.c)
 (k15)))))))))))))
 (newG (Obj.cells #[(.int .i64 n73), (.string s74), (.string s75), (.slice l76.a l76.n l76.c), (.slice l77.a l77.n l77.c)] 25 (Prod.mk 0 0))
 (fun (m91 : Nat) => keepG [(Prod.mk ⟨m10, 4, none⟩ [(.slice l78.a l78.n l78.c)]), (Prod.mk ⟨m10, 4, none⟩ [(.slice l69.a l69.n l69.c)])]
 (newG (Obj.cells #[] 25 (Prod.mk 0 0))
 (fun (m92 : Nat) => keepG [(Prod.mk ⟨m10, 4, none⟩ [(.slice l78.a l78.n l78.c)]), (Prod.mk ⟨m28, 0, none⟩ [(.int .i64 n73), (.string s74), (.string s75), (.slice l76.a l76.n l76.c), (.slice l77.a l77.n l77.c)]), (Prod.mk ⟨m10, 4, none⟩ [(.slice l69.a l69.n l69.c)])]
 (opG Tryz.prog (Builtin.append_ #[23, 23] 23 #[(.slice (some ⟨m92, 0, none⟩) 0 0), (.slice p70 m71 m72)]) (.one .slice)
 (fun (l93 : Sl) => keepG [(Prod.mk ⟨m10, 4, none⟩ [(.slice l78.a l78.n l78.c)]), (Prod.mk ⟨m28, 0, none⟩ [(.int .i64 n73), (.string s74), (.string s75), (.slice l76.a l76.n l76.c), (.slice l77.a l77.n l77.c)])]
 (opG Tryz.prog (Builtin.append_ #[23, 23] 23 #[(.slice l93.a l93.n l93.c), (.slice (some ⟨m91, 0, none⟩) 1 1)]) (.one .slice)
 (fun (l94 : Sl) => keepG [(Prod.mk ⟨m10, 4, none⟩ [(.slice l78.a l78.n l78.c)]), (Prod.mk ⟨m10, 4, none⟩ [(.slice l69.a l69.n l69.c)])]
 (opG Tryz.prog (Builtin.append_ #[23, 23] 23 #[(.slice l94.a l94.n l94.c), (.slice p79 m80 m81)]) (.one .slice)
 (fun (l95 : Sl) => keepG [(Prod.mk ⟨m28, 0, none⟩ [(.int .i64 n73), (.string s74), (.string s75), (.slice l76.a l76.n l76.c), (.slice l77.a l77.n l77.c)]), (Prod.mk ⟨m10, 4, none⟩ [(.slice l69.a l69.n l69.c)])]
 (stG ⟨m10, 4, none⟩ (.slice l95.a l95.n l95.c)
 (k15))))))))))))))))))))))))))))))))))
 (newG (Obj.cells #[(.string s59)] 9 (Prod.mk 0 0))
 (fun (m96 : Nat) => keepG [(Prod.mk ⟨m10, 3, none⟩ [(.slice l60.a l60.n l60.c)]), (Prod.mk ⟨m5, 3, none⟩ [(.slice l57.a l57.n l57.c)]), (Prod.mk ⟨m10, 3, none⟩ [(.slice l53.a l53.n l53.c)])]
 (opG Tryz.prog (Builtin.append_ #[22, 22] 22 #[(.slice (some ⟨m64, 0, none⟩) 0 0), (.slice p54 m55 m56)]) (.one .slice)
 (fun (l97 : Sl) => keepG [(Prod.mk ⟨m10, 3, none⟩ [(.slice l60.a l60.n l60.c)]), (Prod.mk a58 [(.string s59)]), (Prod.mk ⟨m5, 3, none⟩ [(.slice l57.a l57.n l57.c)])]
 (opG Tryz.prog (Builtin.append_ #[22, 22] 22 #[(.slice l97.a l97.n l97.c), (.slice (some ⟨m96, 0, none⟩) 1 1)]) (.one .slice)
 (fun (l98 : Sl) => keepG [(Prod.mk ⟨m10, 3, none⟩ [(.slice l60.a l60.n l60.c)]), (Prod.mk ⟨m5, 3, none⟩ [(.slice l57.a l57.n l57.c)]), (Prod.mk ⟨m10, 3, none⟩ [(.slice l53.a l53.n l53.c)])]
 (opG Tryz.prog (Builtin.append_ #[22, 22] 22 #[(.slice l98.a l98.n l98.c), (.slice p61 m62 m63)]) (.one .slice)
 (fun (l99 : Sl) => keepG [(Prod.mk a58 [(.string s59)]), (Prod.mk ⟨m5, 3, none⟩ [(.slice l57.a l57.n l57.c)]), (Prod.mk ⟨m10, 3, none⟩ [(.slice l53.a l53.n l53.c)])]
 (stG ⟨m10, 3, none⟩ (.slice l99.a l99.n l99.c)
 (drewG
 (ldG .slice ⟨m10, 4, none⟩
 (fun (l100 : Sl) => assumeG (Decidable.decide ((↑l100.c : Int) ≤ (↑l100.c : Int)))
 (resliceG l100.a l100.c (0 : Int) n52 ((↑l100.c : Int)) 5
 (fun (p101 : Option Addr) => fun (m102 : Nat) => fun (m103 : Nat) => ldG (.int .i64) ⟨m28, 0, none⟩
 (fun (n104 : Int) => ldG .str ⟨m28, 1, none⟩
 (fun (s105 : ByteArray) => ldG .str ⟨m28, 2, none⟩
 (fun (s106 : ByteArray) => ldG .slice ⟨m28, 3, none⟩
 (fun (l107 : Sl) => ldG .slice ⟨m28, 4, none⟩
 (fun (l108 : Sl) => ldG .slice ⟨m10, 4, none⟩
 (fun (l109 : Sl) => assumeG (Decidable.decide ((↑l109.c : Int) ≤ (↑l109.c : Int)))
 (resliceG l109.a l109.c n52 ((↑l109.n : Int)) ((↑l109.c : Int)) 5
 (fun (p110 : Option Addr) => fun (m111 : Nat) => fun (m112 : Nat) => bothG
 (newG (Obj.cells #[] 25 (Prod.mk 0 0))
 (fun (m113 : Nat) => keepG [(Prod.mk ⟨m10, 4, none⟩ [(.slice l109.a l109.n l109.c)]), (Prod.mk ⟨m28, 0, none⟩ [(.int .i64 n104), (.string s105), (.string s106), (.slice l107.a l107.n l107.c), (.slice l108.a l108.n l108.c)]), (Prod.mk ⟨m10, 4, none⟩ [(.slice l100.a l100.n l100.c)])]
 (bothG
 (opG Tryz.prog (Builtin.append_ #[23, 23] 23 #[(.slice (some ⟨m113, 0, none⟩) 0 0), (.slice p101 m102 m103)]) (.one .slice)
 (fun (l114 : Sl) => keepG [(Prod.mk ⟨m10, 4, none⟩ [(.slice l109.a l109.n l109.c)]), (Prod.mk ⟨m28, 0, none⟩ [(.int .i64 n104), (.string s105), (.string s106), (.slice l107.a l107.n l107.c), (.slice l108.a l108.n l108.c)])]
 (newG (Obj.cells #[(.int .i64 n104), (.string s105), (.string s106), (.slice l107.a l107.n l107.c), (.slice l108.a l108.n l108.c)] 25 (Prod.mk 0 0))
 (fun (m115 : Nat) => keepG [(Prod.mk ⟨m10, 4, none⟩ [(.slice l109.a l109.n l109.c)]), (Prod.mk ⟨m10, 4, none⟩ [(.slice l100.a l100.n l100.c)])]
 (opG Tryz.prog (Builtin.append_ #[23, 23] 23 #[(.slice l114.a l114.n l114.c), (.slice (some ⟨m115, 0, none⟩) 1 1)]) (.one .slice)
 (fun (l116 : Sl) => keepG [(Prod.mk ⟨m10, 4, none⟩ [(.slice l109.a l109.n l109.c)]), (Prod.mk ⟨m10, 4, none⟩ [(.slice l100.a l100.n l100.c)])]
 (opG Tryz.prog (Builtin.append_ #[23, 23] 23 #[(.slice l116.a l116.n l116.c), (.slice p110 m111 m112)]) (.one .slice)
 (fun (l117 : Sl) => keepG [(Prod.mk ⟨m28, 0, none⟩ [(.int .i64 n104), (.string s105), (.string s106), (.slice l107.a l107.n l107.c), (.slice l108.a l108.n l108.c)]), (Prod.mk ⟨m10, 4, none⟩ [(.slice l100.a l100.n l100.c)])]
 (stG ⟨m10, 4, none⟩ (.slice l117.a l117.n l117.c)
 (k15))))))))))
 (newG (Obj.cells #[(.int .i64 n104), (.string s105), (.string s106), (.slice l107.a l107.n l107.c), (.slice l108.a l108.n l108.c)] 25 (Prod.mk 0 0))
 (fun (m118 : Nat) => keepG [(Prod.mk ⟨m10, 4, none⟩ [(.slice l109.a l109.n l109.c)]), (Prod.mk ⟨m10, 4, none⟩ [(.slice l100.a l100.n l100.c)])]
 (opG Tryz.prog (Builtin.append_ #[23, 23] 23 #[(.slice (some ⟨m113, 0, none⟩) 0 0), (.slice p101 m102 m103)]) (.one .slice)
 (fun (l119 : Sl) => keepG [(Prod.mk ⟨m10, 4, none⟩ [(.slice l109.a l109.n l109.c)]), (Prod.mk ⟨m28, 0, none⟩ [(.int .i64 n104), (.string s105), (.string s106), (.slice l107.a l107.n l107.c), (.slice l108.a l108.n l108.c)])]
 (opG Tryz.prog (Builtin.append_ #[23, 23] 23 #[(.slice l119.a l119.n l119.c), (.slice (some ⟨m118, 0, none⟩) 1 1)]) (.one .slice)
 (fun (l120 : Sl) => keepG [(Prod.mk ⟨m10, 4, none⟩ [(.slice l109.a l109.n l109.c)]), (Prod.mk ⟨m10, 4, none⟩ [(.slice l100.a l100.n l100.c)])]
 (opG Tryz.prog (Builtin.append_ #[23, 23] 23 #[(.slice l120.a l120.n l120.c), (.slice p110 m111 m112)]) (.one .slice)
 (fun (l121 : Sl) => keepG [(Prod.mk ⟨m28, 0, none⟩ [(.int .i64 n104), (.string s105), (.string s106), (.slice l107.a l107.n l107.c), (.slice l108.a l108.n l108.c)]), (Prod.mk ⟨m10, 4, none⟩ [(.slice l100.a l100.n l100.c)])]
 (stG ⟨m10, 4, none⟩ (.slice l121.a l121.n l121.c)
 (k15)))))))))))))
 (newG (Obj.cells #[(.int .i64 n104), (.string s105), (.string s106), (.slice l107.a l107.n l107.c), (.slice l108.a l108.n l108.c)] 25 (Prod.mk 0 0))
 (fun (m122 : Nat) => keepG [(Prod.mk ⟨m10, 4, none⟩ [(.slice l109.a l109.n l109.c)]), (Prod.mk ⟨m10, 4, none⟩ [(.slice l100.a l100.n l100.c)])]
 (newG (Obj.cells #[] 25 (Prod.mk 0 0))
 (fun (m123 : Nat) => keepG [(Prod.mk ⟨m10, 4, none⟩ [(.slice l109.a l109.n l109.c)]), (Prod.mk ⟨m28, 0, none⟩ [(.int .i64 n104), (.string s105), (.string s106), (.slice l107.a l107.n l107.c), (.slice l108.a l108.n l108.c)]), (Prod.mk ⟨m10, 4, none⟩ [(.slice l100.a l100.n l100.c)])]
 (opG Tryz.prog (Builtin.append_ #[23, 23] 23 #[(.slice (some ⟨m123, 0, none⟩) 0 0), (.slice p101 m102 m103)]) (.one .slice)
 (fun (l124 : Sl) => keepG [(Prod.mk ⟨m10, 4, none⟩ [(.slice l109.a l109.n l109.c)]), (Prod.mk ⟨m28, 0, none⟩ [(.int .i64 n104), (.string s105), (.string s106), (.slice l107.a l107.n l107.c), (.slice l108.a l108.n l108.c)])]
 (opG Tryz.prog (Builtin.append_ #[23, 23] 23 #[(.slice l124.a l124.n l124.c), (.slice (some ⟨m122, 0, none⟩) 1 1)]) (.one .slice)
 (fun (l125 : Sl) => keepG [(Prod.mk ⟨m10, 4, none⟩ [(.slice l109.a l109.n l109.c)]), (Prod.mk ⟨m10, 4, none⟩ [(.slice l100.a l100.n l100.c)])]
 (opG Tryz.prog (Builtin.append_ #[23, 23] 23 #[(.slice l125.a l125.n l125.c), (.slice p110 m111 m112)]) (.one .slice)
 (fun (l126 : Sl) => keepG [(Prod.mk ⟨m28, 0, none⟩ [(.int .i64 n104), (.string s105), (.string s106), (.slice l107.a l107.n l107.c), (.slice l108.a l108.n l108.c)]), (Prod.mk ⟨m10, 4, none⟩ [(.slice l100.a l100.n l100.c)])]
 (stG ⟨m10, 4, none⟩ (.slice l126.a l126.n l126.c)
 (k15)))))))))))))))))))))))))))))))))))))
 (newG (Obj.cells #[(.string s59)] 9 (Prod.mk 0 0))
 (fun (m127 : Nat) => keepG [(Prod.mk ⟨m10, 3, none⟩ [(.slice l60.a l60.n l60.c)]), (Prod.mk ⟨m5, 3, none⟩ [(.slice l57.a l57.n l57.c)]), (Prod.mk ⟨m10, 3, none⟩ [(.slice l53.a l53.n l53.c)])]
 (newG (Obj.cells #[] 9 (Prod.mk 0 0))
 (fun (m128 : Nat) => keepG [(Prod.mk ⟨m10, 3, none⟩ [(.slice l60.a l60.n l60.c)]), (Prod.mk a58 [(.string s59)]), (Prod.mk ⟨m5, 3, none⟩ [(.slice l57.a l57.n l57.c)]), (Prod.mk ⟨m10, 3, none⟩ [(.slice l53.a l53.n l53.c)])]
 (opG Tryz.prog (Builtin.append_ #[22, 22] 22 #[(.slice (some ⟨m128, 0, none⟩) 0 0), (.slice p54 m55 m56)]) (.one .slice)
 (fun (l129 : Sl) => keepG [(Prod.mk ⟨m10, 3, none⟩ [(.slice l60.a l60.n l60.c)]), (Prod.mk a58 [(.string s59)]), (Prod.mk ⟨m5, 3, none⟩ [(.slice l57.a l57.n l57.c)])]
 (opG Tryz.prog (Builtin.append_ #[22, 22] 22 #[(.slice l129.a l129.n l129.c), (.slice (some ⟨m127, 0, none⟩) 1 1)]) (.one .slice)
 (fun (l130 : Sl) => keepG [(Prod.mk ⟨m10, 3, none⟩ [(.slice l60.a l60.n l60.c)]), (Prod.mk ⟨m5, 3, none⟩ [(.slice l57.a l57.n l57.c)]), (Prod.mk ⟨m10, 3, none⟩ [(.slice l53.a l53.n l53.c)])]
 (opG Tryz.prog (Builtin.append_ #[22, 22] 22 #[(.slice l130.a l130.n l130.c), (.slice p61 m62 m63)]) (.one .slice)
 (fun (l131 : Sl) => keepG [(Prod.mk a58 [(.string s59)]), (Prod.mk ⟨m5, 3, none⟩ [(.slice l57.a l57.n l57.c)]), (Prod.mk ⟨m10, 3, none⟩ [(.slice l53.a l53.n l53.c)])]
 (stG ⟨m10, 3, none⟩ (.slice l131.a l131.n l131.c)
 (drewG
 (ldG .slice ⟨m10, 4, none⟩
 (fun (l132 : Sl) => assumeG (Decidable.decide ((↑l132.c : Int) ≤ (↑l132.c : Int)))
 (resliceG l132.a l132.c (0 : Int) n52 ((↑l132.c : Int)) 5
 (fun (p133 : Option Addr) => fun (m134 : Nat) => fun (m135 : Nat) => ldG (.int .i64) ⟨m28, 0, none⟩
 (fun (n136 : Int) => ldG .str ⟨m28, 1, none⟩
 (fun (s137 : ByteArray) => ldG .str ⟨m28, 2, none⟩
 (fun (s138 : ByteArray) => ldG .slice ⟨m28, 3, none⟩
 (fun (l139 : Sl) => ldG .slice ⟨m28, 4, none⟩
 (fun (l140 : Sl) => ldG .slice ⟨m10, 4, none⟩
 (fun (l141 : Sl) => assumeG (Decidable.decide ((↑l141.c : Int) ≤ (↑l141.c : Int)))
 (resliceG l141.a l141.c n52 ((↑l141.n : Int)) ((↑l141.c : Int)) 5
 (fun (p142 : Option Addr) => fun (m143 : Nat) => fun (m144 : Nat) => bothG
 (newG (Obj.cells #[] 25 (Prod.mk 0 0))
 (fun (m145 : Nat) => keepG [(Prod.mk ⟨m10, 4, none⟩ [(.slice l141.a l141.n l141.c)]), (Prod.mk ⟨m28, 0, none⟩ [(.int .i64 n136), (.string s137), (.string s138), (.slice l139.a l139.n l139.c), (.slice l140.a l140.n l140.c)]), (Prod.mk ⟨m10, 4, none⟩ [(.slice l132.a l132.n l132.c)])]
 (bothG
 (opG Tryz.prog (Builtin.append_ #[23, 23] 23 #[(.slice (some ⟨m145, 0, none⟩) 0 0), (.slice p133 m134 m135)]) (.one .slice)
 (fun (l146 : Sl) => keepG [(Prod.mk ⟨m10, 4, none⟩ [(.slice l141.a l141.n l141.c)]), (Prod.mk ⟨m28, 0, none⟩ [(.int .i64 n136), (.string s137), (.string s138), (.slice l139.a l139.n l139.c), (.slice l140.a l140.n l140.c)])]
 (newG (Obj.cells #[(.int .i64 n136), (.string s137), (.string s138), (.slice l139.a l139.n l139.c), (.slice l140.a l140.n l140.c)] 25 (Prod.mk 0 0))
 (fun (m147 : Nat) => keepG [(Prod.mk ⟨m10, 4, none⟩ [(.slice l141.a l141.n l141.c)]), (Prod.mk ⟨m10, 4, none⟩ [(.slice l132.a l132.n l132.c)])]
 (opG Tryz.prog (Builtin.append_ #[23, 23] 23 #[(.slice l146.a l146.n l146.c), (.slice (some ⟨m147, 0, none⟩) 1 1)]) (.one .slice)
 (fun (l148 : Sl) => keepG [(Prod.mk ⟨m10, 4, none⟩ [(.slice l141.a l141.n l141.c)]), (Prod.mk ⟨m10, 4, none⟩ [(.slice l132.a l132.n l132.c)])]
 (opG Tryz.prog (Builtin.append_ #[23, 23] 23 #[(.slice l148.a l148.n l148.c), (.slice p142 m143 m144)]) (.one .slice)
 (fun (l149 : Sl) => keepG [(Prod.mk ⟨m28, 0, none⟩ [(.int .i64 n136), (.string s137), (.string s138), (.slice l139.a l139.n l139.c), (.slice l140.a l140.n l140.c)]), (Prod.mk ⟨m10, 4, none⟩ [(.slice l132.a l132.n l132.c)])]
 (stG ⟨m10, 4, none⟩ (.slice l149.a l149.n l149.c)
 (k15))))))))))
 (newG (Obj.cells #[(.int .i64 n136), (.string s137), (.string s138), (.slice l139.a l139.n l139.c), (.slice l140.a l140.n l140.c)] 25 (Prod.mk 0 0))
 (fun (m150 : Nat) => keepG [(Prod.mk ⟨m10, 4, none⟩ [(.slice l141.a l141.n l141.c)]), (Prod.mk ⟨m10, 4, none⟩ [(.slice l132.a l132.n l132.c)])]
 (opG Tryz.prog (Builtin.append_ #[23, 23] 23 #[(.slice (some ⟨m145, 0, none⟩) 0 0), (.slice p133 m134 m135)]) (.one .slice)
 (fun (l151 : Sl) => keepG [(Prod.mk ⟨m10, 4, none⟩ [(.slice l141.a l141.n l141.c)]), (Prod.mk ⟨m28, 0, none⟩ [(.int .i64 n136), (.string s137), (.string s138), (.slice l139.a l139.n l139.c), (.slice l140.a l140.n l140.c)])]
 (opG Tryz.prog (Builtin.append_ #[23, 23] 23 #[(.slice l151.a l151.n l151.c), (.slice (some ⟨m150, 0, none⟩) 1 1)]) (.one .slice)
 (fun (l152 : Sl) => keepG [(Prod.mk ⟨m10, 4, none⟩ [(.slice l141.a l141.n l141.c)]), (Prod.mk ⟨m10, 4, none⟩ [(.slice l132.a l132.n l132.c)])]
 (opG Tryz.prog (Builtin.append_ #[23, 23] 23 #[(.slice l152.a l152.n l152.c), (.slice p142 m143 m144)]) (.one .slice)
 (fun (l153 : Sl) => keepG [(Prod.mk ⟨m28, 0, none⟩ [(.int .i64 n136), (.string s137), (.string s138), (.slice l139.a l139.n l139.c), (.slice l140.a l140.n l140.c)]), (Prod.mk ⟨m10, 4, none⟩ [(.slice l132.a l132.n l132.c)])]
 (stG ⟨m10, 4, none⟩ (.slice l153.a l153.n l153.c)
 (k15)))))))))))))
 (newG (Obj.cells #[(.int .i64 n136), (.string s137), (.string s138), (.slice l139.a l139.n l139.c), (.slice l140.a l140.n l140.c)] 25 (Prod.mk 0 0))
 (fun (m154 : Nat) => keepG [(Prod.mk ⟨m10, 4, none⟩ [(.slice l141.a l141.n l141.c)]), (Prod.mk ⟨m10, 4, none⟩ [(.slice l132.a l132.n l132.c)])]
 (newG (Obj.cells #[] 25 (Prod.mk 0 0))
 (fun (m155 : Nat) => keepG [(Prod.mk ⟨m10, 4, none⟩ [(.slice l141.a l141.n l141.c)]), (Prod.mk ⟨m28, 0, none⟩ [(.int .i64 n136), (.string s137), (.string s138), (.slice l139.a l139.n l139.c), (.slice l140.a l140.n l140.c)]), (Prod.mk ⟨m10, 4, none⟩ [(.slice l132.a l132.n l132.c)])]
 (opG Tryz.prog (Builtin.append_ #[23, 23] 23 #[(.slice (some ⟨m155, 0, none⟩) 0 0), (.slice p133 m134 m135)]) (.one .slice)
 (fun (l156 : Sl) => keepG [(Prod.mk ⟨m10, 4, none⟩ [(.slice l141.a l141.n l141.c)]), (Prod.mk ⟨m28, 0, none⟩ [(.int .i64 n136), (.string s137), (.string s138), (.slice l139.a l139.n l139.c), (.slice l140.a l140.n l140.c)])]
 (opG Tryz.prog (Builtin.append_ #[23, 23] 23 #[(.slice l156.a l156.n l156.c), (.slice (some ⟨m154, 0, none⟩) 1 1)]) (.one .slice)
 (fun (l157 : Sl) => keepG [(Prod.mk ⟨m10, 4, none⟩ [(.slice l141.a l141.n l141.c)]), (Prod.mk ⟨m10, 4, none⟩ [(.slice l132.a l132.n l132.c)])]
 (opG Tryz.prog (Builtin.append_ #[23, 23] 23 #[(.slice l157.a l157.n l157.c), (.slice p142 m143 m144)]) (.one .slice)
 (fun (l158 : Sl) => keepG [(Prod.mk ⟨m28, 0, none⟩ [(.int .i64 n136), (.string s137), (.string s138), (.slice l139.a l139.n l139.c), (.slice l140.a l140.n l140.c)]), (Prod.mk ⟨m10, 4, none⟩ [(.slice l132.a l132.n l132.c)])]
 (stG ⟨m10, 4, none⟩ (.slice l158.a l158.n l158.c)
 (k15))))))))))))))))))))))))))))))))))))))))))))))))))))))))))))))))
 (k12 (IntKind.wrap IntKind.i64 (n13 + (1 : Int)))))
 (k11))) (0 : Int))
 (ldG (.int .i64) ⟨m10, 0, none⟩
 (fun (n159 : Int) => ldG .str ⟨m10, 1, none⟩
 (fun (s160 : ByteArray) => ldG .str ⟨m10, 2, none⟩
 (fun (s161 : ByteArray) => ldG .slice ⟨m10, 3, none⟩
 (fun (l162 : Sl) => ldG .slice ⟨m10, 4, none⟩
 (fun (l163 : Sl) => stG ⟨m6, 0, none⟩ (.int .i64 n159)
 (stG ⟨m6, 1, none⟩ (.string s160)
 (stG ⟨m6, 2, none⟩ (.string s161)
 (stG ⟨m6, 3, none⟩ (.slice l162.a l162.n l162.c)
 (stG ⟨m6, 4, none⟩ (.slice l163.a l163.n l163.c)
 (ldG (.int .i64) ⟨m6, 0, none⟩
 (fun (n164 : Int) => ldG .str ⟨m6, 1, none⟩
 (fun (s165 : ByteArray) => ldG .str ⟨m6, 2, none⟩
 (fun (s166 : ByteArray) => ldG .slice ⟨m6, 3, none⟩
 (fun (l167 : Sl) => ldG .slice ⟨m6, 4, none⟩
 (fun (l168 : Sl) => retG (.agg #[(.int .i64 n164), (.string s165), (.string s166), (.slice l167.a l167.n l167.c), (.slice l168.a l168.n l168.c)]))))))))))))))))))))))))))))
theorem e46 : denF Tryz.prog (GA Tryz.prog) Tryz.f46 [(VT.agg [(CT.int IntKind.i64), CT.str, CT.str, CT.slice, CT.slice])] (.seq .leaf (.seq .leaf (.seq (.seq .leaf (.block (sl Tryz.prog []) (.loop (sl Tryz.prog [(4, 3)]) (.seq .leaf (.seq (.block (sl Tryz.prog []) (.seq .leaf (.seq .leaf (.seq .leaf (.seq (.block (sl Tryz.prog [(6, 3)]) (.loop (sl Tryz.prog [(6, 3)]) (.seq (.seq (.r (sl Tryz.prog [(54, 4)])) .leaf) (.block (sl Tryz.prog [(6, 3)]) .leaf)))) .leaf))))) .leaf))))) .leaf))) = t46 := by kernel_rfl
theorem c46 (x0 : Int) (x1 : ByteArray) (x2 : ByteArray) (x3 : Sl) (x4 : Sl) {R : Ending → World → Prop} {w : World} (h : t46 x0 x1 x2 x3 x4 R w) : Calls Tryz.prog 46 #[.agg #[.int .i64 x0, .string x1, .string x2, .slice x3.a x3.n x3.c, .slice x4.a x4.n x4.c]] w R :=
  lift mixed Tryz.func46 e46 rfl ((x0, x1, x2, x3, x4, ()), ()) R w h
def t47 : Int → ByteArray → ByteArray → Sl → Sl → Int → ByteArray → ByteArray → Sl → Sl → G :=
 fun (n0 : Int) => fun (s1 : ByteArray) => fun (s2 : ByteArray) => fun (l3 : Sl) => fun (l4 : Sl) => fun (n5 : Int) => fun (s6 : ByteArray) => fun (s7 : ByteArray) => fun (l8 : Sl) => fun (l9 : Sl) => newG (Obj.cells #[(.int .i64 n0), (.string s1), (.string s2), (.slice l3.a l3.n l3.c), (.slice l4.a l4.n l4.c)] 25 (Prod.mk 0 0))
 (fun (m10 : Nat) => newG (Obj.cells #[(.int .i64 n5), (.string s6), (.string s7), (.slice l8.a l8.n l8.c), (.slice l9.a l9.n l9.c)] 25 (Prod.mk 0 0))
 (fun (m11 : Nat) => joinG [(.one .bool)]
 (fun k12 => ldG (.int .i64) ⟨m10, 0, none⟩
 (fun (n13 : Int) => ldG (.int .i64) ⟨m11, 0, none⟩
 (fun (n14 : Int) => iteG (n13 != n14)
 (k12 true)
 (ldG .str ⟨m10, 1, none⟩
 (fun (s15 : ByteArray) => ldG .str ⟨m11, 1, none⟩
 (fun (s16 : ByteArray) => iteG (!ByteArray.toList s15 == ByteArray.toList s16)
 (k12 true)
 (ldG .str ⟨m10, 2, none⟩
 (fun (s17 : ByteArray) => ldG .str ⟨m11, 2, none⟩
 (fun (s18 : ByteArray) => k12 (!ByteArray.toList s17 == ByteArray.toList s18))))))))))
 (fun (b19 : Bool) => iteG b19
 (retG (.bool false))
 (ldG (.int .i64) ⟨m10, 0, none⟩
 (fun (n20 : Int) => iteG (n20 == (6 : Int))
 (joinG []
 (fun k21 => loopG [(.one (.int .i64))]
 (fun k22 => fun (n23 : Int) => ldG .slice ⟨m11, 3, none⟩
 (fun (l24 : Sl) => iteG (Decidable.decide (n23 < (↑l24.n : Int)))
 (joinG []
 (fun k25 => drewG
 (ldG (.int .i64) ⟨m10, 0, none⟩
 (fun (n26 : Int) => ldG .str ⟨m10, 1, none⟩
 (fun (s27 : ByteArray) => ldG .str ⟨m10, 2, none⟩
 (fun (s28 : ByteArray) => ldG .slice ⟨m10, 3, none⟩
 (fun (l29 : Sl) => ldG .slice ⟨m10, 4, none⟩
 (fun (l30 : Sl) => ldG .slice ⟨m11, 3, none⟩
 (fun (l31 : Sl) => idxG l31.a l31.n n23 1
 (fun (a32 : Addr) => ldG .str a32
 (fun (s33 : ByteArray) => bothG
 (callG Tryz.prog 78 #[(.agg #[(.int .i64 n26), (.string s27), (.string s28), (.slice l29.a l29.n l29.c), (.slice l30.a l30.n l30.c)]), (.string s33)] [(VT.agg [(.int .i64), CT.str, CT.str, CT.slice, CT.slice]), (.one .bool)]
 (fun (n34 : Int) => fun (s35 : ByteArray) => fun (s36 : ByteArray) => fun (l37 : Sl) => fun (l38 : Sl) => fun (b39 : Bool) => keepG [(Prod.mk ⟨m11, 3, none⟩ [(.slice l31.a l31.n l31.c)])]
 (newG (Obj.cells #[(.int .i64 (0 : Int)), (.string (ByteArray.mk #[])), (.string (ByteArray.mk #[])), (.slice none 0 0), (.slice none 0 0)] 25 (Prod.mk 0 0))
 (fun (m40 : Nat) => keepG [(Prod.mk a32 [(.string s33)]), (Prod.mk ⟨m11, 3, none⟩ [(.slice l31.a l31.n l31.c)]), (Prod.mk ⟨m10, 0, none⟩ [(.int .i64 n26), (.string s27), (.string s28), (.slice l29.a l29.n l29.c), (.slice l30.a l30.n l30.c)])]
 (stG ⟨m40, 0, none⟩ (.int .i64 n34)
 (stG ⟨m40, 1, none⟩ (.string s35)
 (stG ⟨m40, 2, none⟩ (.string s36)
 (stG ⟨m40, 3, none⟩ (.slice l37.a l37.n l37.c)
 (stG ⟨m40, 4, none⟩ (.slice l38.a l38.n l38.c)
 (joinG [(.one .bool)]
 (fun k41 => drewG
 (iteG (!b39)
 (k41 true)
 (ldG (.int .i64) ⟨m40, 0, none⟩
 (fun (n42 : Int) => ldG .str ⟨m40, 1, none⟩
 (fun (s43 : ByteArray) => ldG .str ⟨m40, 2, none⟩
 (fun (s44 : ByteArray) => ldG .slice ⟨m40, 3, none⟩
 (fun (l45 : Sl) => ldG .slice ⟨m40, 4, none⟩
 (fun (l46 : Sl) => ldG .slice ⟨m11, 4, none⟩
 (fun (l47 : Sl) => idxG l47.a l47.n n23 5
 (fun (a48 : Addr) => ldG (.int .i64) (Addr.add a48 0)
 (fun (n49 : Int) => ldG .str (Addr.add a48 1)
 (fun (s50 : ByteArray) => ldG .str (Addr.add a48 2)
 (fun (s51 : ByteArray) => ldG .slice (Addr.add a48 3)
 (fun (l52 : Sl) => ldG .slice (Addr.add a48 4)
 (fun (l53 : Sl) => callG Tryz.prog 47 #[(.agg #[(.int .i64 n42), (.string s43), (.string s44), (.slice l45.a l45.n l45.c), (.slice l46.a l46.n l46.c)]), (.agg #[(.int .i64 n49), (.string s50), (.string s51), (.slice l52.a l52.n l52.c), (.slice l53.a l53.n l53.c)])] [(.one .bool)]
 (fun (b54 : Bool) => keepG [(Prod.mk ⟨m11, 4, none⟩ [(.slice l47.a l47.n l47.c)])]
 (k41 (!b54))))))))))))))))))
 (fun (b55 : Bool) => iteG b55
 (retG (.bool false))
 (k25))))))))))))
 (newG (Obj.cells #[(.int .i64 (0 : Int)), (.string (ByteArray.mk #[])), (.string (ByteArray.mk #[])), (.slice none 0 0), (.slice none 0 0)] 25 (Prod.mk 0 0))
 (fun (m56 : Nat) => keepG [(Prod.mk a32 [(.string s33)]), (Prod.mk ⟨m11, 3, none⟩ [(.slice l31.a l31.n l31.c)]), (Prod.mk ⟨m10, 0, none⟩ [(.int .i64 n26), (.string s27), (.string s28), (.slice l29.a l29.n l29.c), (.slice l30.a l30.n l30.c)])]
 (callG Tryz.prog 78 #[(.agg #[(.int .i64 n26), (.string s27), (.string s28), (.slice l29.a l29.n l29.c), (.slice l30.a l30.n l30.c)]), (.string s33)] [(VT.agg [(.int .i64), CT.str, CT.str, CT.slice, CT.slice]), (.one .bool)]
 (fun (n57 : Int) => fun (s58 : ByteArray) => fun (s59 : ByteArray) => fun (l60 : Sl) => fun (l61 : Sl) => fun (b62 : Bool) => keepG [(Prod.mk ⟨m11, 3, none⟩ [(.slice l31.a l31.n l31.c)])]
 (stG ⟨m56, 0, none⟩ (.int .i64 n57)
 (stG ⟨m56, 1, none⟩ (.string s58)
 (stG ⟨m56, 2, none⟩ (.string s59)
 (stG ⟨m56, 3, none⟩ (.slice l60.a l60.n l60.c)
 (stG ⟨m56, 4, none⟩ (.slice l61.a l61.n l61.c)
 (joinG [(.one .bool)]
 (fun k63 => drewG
 (iteG (!b62)
 (k63 true)
 (ldG (.int .i64) ⟨m56, 0, none⟩
 (fun (n64 : Int) => ldG .str ⟨m56, 1, none⟩
 (fun (s65 : ByteArray) => ldG .str ⟨m56, 2, none⟩
 (fun (s66 : ByteArray) => ldG .slice ⟨m56, 3, none⟩
 (fun (l67 : Sl) => ldG .slice ⟨m56, 4, none⟩
 (fun (l68 : Sl) => ldG .slice ⟨m11, 4, none⟩
 (fun (l69 : Sl) => idxG l69.a l69.n n23 5
 (fun (a70 : Addr) => ldG (.int .i64) (Addr.add a70 0)
 (fun (n71 : Int) => ldG .str (Addr.add a70 1)
 (fun (s72 : ByteArray) => ldG .str (Addr.add a70 2)
 (fun (s73 : ByteArray) => ldG .slice (Addr.add a70 3)
 (fun (l74 : Sl) => ldG .slice (Addr.add a70 4)
 (fun (l75 : Sl) => callG Tryz.prog 47 #[(.agg #[(.int .i64 n64), (.string s65), (.string s66), (.slice l67.a l67.n l67.c), (.slice l68.a l68.n l68.c)]), (.agg #[(.int .i64 n71), (.string s72), (.string s73), (.slice l74.a l74.n l74.c), (.slice l75.a l75.n l75.c)])] [(.one .bool)]
 (fun (b76 : Bool) => keepG [(Prod.mk ⟨m11, 4, none⟩ [(.slice l69.a l69.n l69.c)])]
 (k63 (!b76))))))))))))))))))
 (fun (b77 : Bool) => iteG b77
 (retG (.bool false))
 (k25))))))))))))))))))))))
 (k22 (IntKind.wrap IntKind.i64 (n23 + (1 : Int)))))
 (k21))) (0 : Int))
 (retG (.bool true)))
 (ldG (.int .i64) ⟨m10, 0, none⟩
 (fun (n78 : Int) => iteG (n78 == (7 : Int))
 (joinG []
 (fun k79 => loopG [(.one (.int .i64))]
 (fun k80 => fun (n81 : Int) => ldG .slice ⟨m10, 3, none⟩
 (fun (l82 : Sl) => iteG (Decidable.decide (n81 < (↑l82.n : Int)))
 (joinG []
 (fun k83 => drewG
 (ldG (.int .i64) ⟨m11, 0, none⟩
 (fun (n84 : Int) => ldG .str ⟨m11, 1, none⟩
 (fun (s85 : ByteArray) => ldG .str ⟨m11, 2, none⟩
 (fun (s86 : ByteArray) => ldG .slice ⟨m11, 3, none⟩
 (fun (l87 : Sl) => ldG .slice ⟨m11, 4, none⟩
 (fun (l88 : Sl) => ldG .slice ⟨m10, 3, none⟩
 (fun (l89 : Sl) => idxG l89.a l89.n n81 1
 (fun (a90 : Addr) => ldG .str a90
 (fun (s91 : ByteArray) => bothG
 (callG Tryz.prog 78 #[(.agg #[(.int .i64 n84), (.string s85), (.string s86), (.slice l87.a l87.n l87.c), (.slice l88.a l88.n l88.c)]), (.string s91)] [(VT.agg [(.int .i64), CT.str, CT.str, CT.slice, CT.slice]), (.one .bool)]
 (fun (n92 : Int) => fun (s93 : ByteArray) => fun (s94 : ByteArray) => fun (l95 : Sl) => fun (l96 : Sl) => fun (b97 : Bool) => keepG [(Prod.mk ⟨m10, 3, none⟩ [(.slice l89.a l89.n l89.c)])]
 (newG (Obj.cells #[(.int .i64 (0 : Int)), (.string (ByteArray.mk #[])), (.string (ByteArray.mk #[])), (.slice none 0 0), (.slice none 0 0)] 25 (Prod.mk 0 0))
 (fun (m98 : Nat) => keepG [(Prod.mk a90 [(.string s91)]), (Prod.mk ⟨m10, 3, none⟩ [(.slice l89.a l89.n l89.c)]), (Prod.mk ⟨m11, 0, none⟩ [(.int .i64 n84), (.string s85), (.string s86), (.slice l87.a l87.n l87.c), (.slice l88.a l88.n l88.c)])]
 (stG ⟨m98, 0, none⟩ (.int .i64 n92)
 (stG ⟨m98, 1, none⟩ (.string s93)
 (stG ⟨m98, 2, none⟩ (.string s94)
 (stG ⟨m98, 3, none⟩ (.slice l95.a l95.n l95.c)
 (stG ⟨m98, 4, none⟩ (.slice l96.a l96.n l96.c)
 (joinG [(.one .bool)]
 (fun k99 => drewG
 (iteG (!b97)
 (k99 true)
 (ldG .slice ⟨m10, 4, none⟩
 (fun (l100 : Sl) => idxG l100.a l100.n n81 5
 (fun (a101 : Addr) => ldG (.int .i64) (Addr.add a101 0)
 (fun (n102 : Int) => ldG .str (Addr.add a101 1)
 (fun (s103 : ByteArray) => ldG .str (Addr.add a101 2)
 (fun (s104 : ByteArray) => ldG .slice (Addr.add a101 3)
 (fun (l105 : Sl) => ldG .slice (Addr.add a101 4)
 (fun (l106 : Sl) => ldG (.int .i64) ⟨m98, 0, none⟩
 (fun (n107 : Int) => ldG .str ⟨m98, 1, none⟩
 (fun (s108 : ByteArray) => ldG .str ⟨m98, 2, none⟩
 (fun (s109 : ByteArray) => ldG .slice ⟨m98, 3, none⟩
 (fun (l110 : Sl) => ldG .slice ⟨m98, 4, none⟩
 (fun (l111 : Sl) => callG Tryz.prog 47 #[(.agg #[(.int .i64 n102), (.string s103), (.string s104), (.slice l105.a l105.n l105.c), (.slice l106.a l106.n l106.c)]), (.agg #[(.int .i64 n107), (.string s108), (.string s109), (.slice l110.a l110.n l110.c), (.slice l111.a l111.n l111.c)])] [(.one .bool)]
 (fun (b112 : Bool) => keepG [(Prod.mk ⟨m10, 4, none⟩ [(.slice l100.a l100.n l100.c)])]
 (k99 (!b112))))))))))))))))))
 (fun (b113 : Bool) => iteG b113
 (retG (.bool false))
 (k83))))))))))))
 (newG (Obj.cells #[(.int .i64 (0 : Int)), (.string (ByteArray.mk #[])), (.string (ByteArray.mk #[])), (.slice none 0 0), (.slice none 0 0)] 25 (Prod.mk 0 0))
 (fun (m114 : Nat) => keepG [(Prod.mk a90 [(.string s91)]), (Prod.mk ⟨m10, 3, none⟩ [(.slice l89.a l89.n l89.c)]), (Prod.mk ⟨m11, 0, none⟩ [(.int .i64 n84), (.string s85), (.string s86), (.slice l87.a l87.n l87.c), (.slice l88.a l88.n l88.c)])]
 (callG Tryz.prog 78 #[(.agg #[(.int .i64 n84), (.string s85), (.string s86), (.slice l87.a l87.n l87.c), (.slice l88.a l88.n l88.c)]), (.string s91)] [(VT.agg [(.int .i64), CT.str, CT.str, CT.slice, CT.slice]), (.one .bool)]
 (fun (n115 : Int) => fun (s116 : ByteArray) => fun (s117 : ByteArray) => fun (l118 : Sl) => fun (l119 : Sl) => fun (b120 : Bool) => keepG [(Prod.mk ⟨m10, 3, none⟩ [(.slice l89.a l89.n l89.c)])]
 (stG ⟨m114, 0, none⟩ (.int .i64 n115)
 (stG ⟨m114, 1, none⟩ (.string s116)
 (stG ⟨m114, 2, none⟩ (.string s117)
 (stG ⟨m114, 3, none⟩ (.slice l118.a l118.n l118.c)
 (stG ⟨m114, 4, none⟩ (.slice l119.a l119.n l119.c)
 (joinG [(.one .bool)]
 (fun k121 => drewG
 (iteG (!b120)
 (k121 true)
 (ldG .slice ⟨m10, 4, none⟩
 (fun (l122 : Sl) => idxG l122.a l122.n n81 5
 (fun (a123 : Addr) => ldG (.int .i64) (Addr.add a123 0)
 (fun (n124 : Int) => ldG .str (Addr.add a123 1)
 (fun (s125 : ByteArray) => ldG .str (Addr.add a123 2)
 (fun (s126 : ByteArray) => ldG .slice (Addr.add a123 3)
 (fun (l127 : Sl) => ldG .slice (Addr.add a123 4)
 (fun (l128 : Sl) => ldG (.int .i64) ⟨m114, 0, none⟩
 (fun (n129 : Int) => ldG .str ⟨m114, 1, none⟩
 (fun (s130 : ByteArray) => ldG .str ⟨m114, 2, none⟩
 (fun (s131 : ByteArray) => ldG .slice ⟨m114, 3, none⟩
 (fun (l132 : Sl) => ldG .slice ⟨m114, 4, none⟩
 (fun (l133 : Sl) => callG Tryz.prog 47 #[(.agg #[(.int .i64 n124), (.string s125), (.string s126), (.slice l127.a l127.n l127.c), (.slice l128.a l128.n l128.c)]), (.agg #[(.int .i64 n129), (.string s130), (.string s131), (.slice l132.a l132.n l132.c), (.slice l133.a l133.n l133.c)])] [(.one .bool)]
 (fun (b134 : Bool) => keepG [(Prod.mk ⟨m10, 4, none⟩ [(.slice l122.a l122.n l122.c)])]
 (k121 (!b134))))))))))))))))))
 (fun (b135 : Bool) => iteG b135
 (retG (.bool false))
 (k83))))))))))))))))))))))
 (k80 (IntKind.wrap IntKind.i64 (n81 + (1 : Int)))))
 (k79))) (0 : Int))
 (retG (.bool true)))
 (ldG .slice ⟨m10, 4, none⟩
 (fun (l136 : Sl) => ldG .slice ⟨m11, 4, none⟩
 (fun (l137 : Sl) => iteG ((↑l136.n : Int) != (↑l137.n : Int))
 (retG (.bool false))
 (joinG []
 (fun k138 => loopG [(.one (.int .i64))]
 (fun k139 => fun (n140 : Int) => ldG .slice ⟨m10, 4, none⟩
 (fun (l141 : Sl) => iteG (Decidable.decide (n140 < (↑l141.n : Int)))
 (joinG []
 (fun k142 => joinG [(.one .bool)]
 (fun k143 => drewG
 (ldG .slice ⟨m10, 4, none⟩
 (fun (l144 : Sl) => iteG (n140 == IntKind.wrap IntKind.i64 ((↑l144.n : Int) - (1 : Int)))
 (ldG .slice ⟨m10, 4, none⟩
 (fun (l145 : Sl) => idxG l145.a l145.n n140 5
 (fun (a146 : Addr) => ldG (.int .i64) (Addr.add a146 0)
 (fun (n147 : Int) => ldG .str (Addr.add a146 1)
 (fun (s148 : ByteArray) => ldG .str (Addr.add a146 2)
 (fun (s149 : ByteArray) => ldG .slice (Addr.add a146 3)
 (fun (l150 : Sl) => ldG .slice (Addr.add a146 4)
 (fun (l151 : Sl) => ldG .slice ⟨m11, 4, none⟩
 (fun (l152 : Sl) => idxG l152.a l152.n n140 5
 (fun (a153 : Addr) => ldG (.int .i64) (Addr.add a153 0)
 (fun (n154 : Int) => ldG .str (Addr.add a153 1)
 (fun (s155 : ByteArray) => ldG .str (Addr.add a153 2)
 (fun (s156 : ByteArray) => ldG .slice (Addr.add a153 3)
 (fun (l157 : Sl) => ldG .slice (Addr.add a153 4)
 (fun (l158 : Sl) => callG Tryz.prog 47 #[(.agg #[(.int .i64 n147), (.string s148), (.string s149), (.slice l150.a l150.n l150.c), (.slice l151.a l151.n l151.c)]), (.agg #[(.int .i64 n154), (.string s155), (.string s156), (.slice l157.a l157.n l157.c), (.slice l158.a l158.n l158.c)])] [(.one .bool)]
 (fun (b159 : Bool) => keepG [(Prod.mk ⟨m11, 4, none⟩ [(.slice l152.a l152.n l152.c)]), (Prod.mk ⟨m10, 4, none⟩ [(.slice l145.a l145.n l145.c)]), (Prod.mk ⟨m10, 4, none⟩ [(.slice l144.a l144.n l144.c)])]
 (k143 (!b159))))))))))))))))))
 (k143 false))))
 (fun (b160 : Bool) => iteG b160
 (retG (.bool false))
 (joinG [(.one .bool)]
 (fun k161 => drewG
 (ldG .slice ⟨m10, 4, none⟩
 (fun (l162 : Sl) => iteG (Decidable.decide (n140 < IntKind.wrap IntKind.i64 ((↑l162.n : Int) - (1 : Int))))
 (ldG .slice ⟨m11, 4, none⟩
 (fun (l163 : Sl) => idxG l163.a l163.n n140 5
 (fun (a164 : Addr) => ldG (.int .i64) (Addr.add a164 0)
 (fun (n165 : Int) => ldG .str (Addr.add a164 1)
 (fun (s166 : ByteArray) => ldG .str (Addr.add a164 2)
 (fun (s167 : ByteArray) => ldG .slice (Addr.add a164 3)
 (fun (l168 : Sl) => ldG .slice (Addr.add a164 4)
 (fun (l169 : Sl) => ldG .slice ⟨m10, 4, none⟩
 (fun (l170 : Sl) => idxG l170.a l170.n n140 5
 (fun (a171 : Addr) => ldG (.int .i64) (Addr.add a171 0)
 (fun (n172 : Int) => ldG .str (Addr.add a171 1)
 (fun (s173 : ByteArray) => ldG .str (Addr.add a171 2)
 (fun (s174 : ByteArray) => ldG .slice (Addr.add a171 3)
 (fun (l175 : Sl) => ldG .slice (Addr.add a171 4)
 (fun (l176 : Sl) => callG Tryz.prog 47 #[(.agg #[(.int .i64 n165), (.string s166), (.string s167), (.slice l168.a l168.n l168.c), (.slice l169.a l169.n l169.c)]), (.agg #[(.int .i64 n172), (.string s173), (.string s174), (.slice l175.a l175.n l175.c), (.slice l176.a l176.n l176.c)])] [(.one .bool)]
 (fun (b177 : Bool) => keepG [(Prod.mk ⟨m10, 4, none⟩ [(.slice l170.a l170.n l170.c)]), (Prod.mk ⟨m11, 4, none⟩ [(.slice l163.a l163.n l163.c)]), (Prod.mk ⟨m10, 4, none⟩ [(.slice l162.a l162.n l162.c)])]
 (k161 (!b177))))))))))))))))))
 (k161 false))))
 (fun (b178 : Bool) => iteG b178
 (retG (.bool false))
 (k142)))))
 (k139 (IntKind.wrap IntKind.i64 (n140 + (1 : Int)))))
 (k138))) (0 : Int))
 (retG (.bool true)))))))))))))
theorem e47 : denF Tryz.prog (GA Tryz.prog) Tryz.f47 [(VT.agg [(CT.int IntKind.i64), CT.str, CT.str, CT.slice, CT.slice]), (VT.agg [(CT.int IntKind.i64), CT.str, CT.str, CT.slice, CT.slice])] (.seq .leaf (.seq (.seq (.r (sl Tryz.prog [(30, 4)])) .leaf) (.seq (.seq .leaf (.cond (.seq (.seq .leaf (.block (sl Tryz.prog []) (.loop (sl Tryz.prog [(5, 3)]) (.seq .leaf (.seq (.block (sl Tryz.prog []) (.seq .leaf (.seq (.r (sl Tryz.prog [(62, 4)])) .leaf))) .leaf))))) .leaf) .leaf)) (.seq (.seq .leaf (.cond (.seq (.seq .leaf (.block (sl Tryz.prog []) (.loop (sl Tryz.prog [(8, 3)]) (.seq .leaf (.seq (.block (sl Tryz.prog []) (.seq .leaf (.seq (.r (sl Tryz.prog [(94, 4)])) .leaf))) .leaf))))) .leaf) .leaf)) (.seq .leaf (.seq (.seq .leaf (.block (sl Tryz.prog []) (.loop (sl Tryz.prog [(11, 3)]) (.seq .leaf (.seq (.block (sl Tryz.prog []) (.seq (.seq (.r (sl Tryz.prog [(128, 4)])) .leaf) (.seq (.r (sl Tryz.prog [(148, 4)])) .leaf))) .leaf))))) .leaf)))))) = t47 := by kernel_rfl
theorem c47 (x0 : Int) (x1 : ByteArray) (x2 : ByteArray) (x3 : Sl) (x4 : Sl) (x5 : Int) (x6 : ByteArray) (x7 : ByteArray) (x8 : Sl) (x9 : Sl) {R : Ending → World → Prop} {w : World} (h : t47 x0 x1 x2 x3 x4 x5 x6 x7 x8 x9 R w) : Calls Tryz.prog 47 #[.agg #[.int .i64 x0, .string x1, .string x2, .slice x3.a x3.n x3.c, .slice x4.a x4.n x4.c], .agg #[.int .i64 x5, .string x6, .string x7, .slice x8.a x8.n x8.c, .slice x9.a x9.n x9.c]] w R :=
  lift mixed Tryz.func47 e47 rfl ((x0, x1, x2, x3, x4, ()), (x5, x6, x7, x8, x9, ()), ()) R w h
def t48 : Int → ByteArray → ByteArray → Sl → Sl → Int → ByteArray → ByteArray → Sl → Sl → G :=
 fun (n0 : Int) => fun (s1 : ByteArray) => fun (s2 : ByteArray) => fun (l3 : Sl) => fun (l4 : Sl) => fun (n5 : Int) => fun (s6 : ByteArray) => fun (s7 : ByteArray) => fun (l8 : Sl) => fun (l9 : Sl) => newG (Obj.cells #[(.int .i64 n0), (.string s1), (.string s2), (.slice l3.a l3.n l3.c), (.slice l4.a l4.n l4.c)] 25 (Prod.mk 0 0))
 (fun (m10 : Nat) => newG (Obj.cells #[(.int .i64 n5), (.string s6), (.string s7), (.slice l8.a l8.n l8.c), (.slice l9.a l9.n l9.c)] 25 (Prod.mk 0 0))
 (fun (m11 : Nat) => joinG [(.one .bool)]
 (fun k12 => ldG (.int .i64) ⟨m10, 0, none⟩
 (fun (n13 : Int) => iteG (n13 == (4 : Int))
 (k12 true)
 (ldG (.int .i64) ⟨m11, 0, none⟩
 (fun (n14 : Int) => k12 (n14 == (4 : Int))))))
 (fun (b15 : Bool) => iteG b15
 (retG (.bool true))
 (joinG [(.one .bool)]
 (fun k16 => ldG (.int .i64) ⟨m10, 0, none⟩
 (fun (n17 : Int) => ldG (.int .i64) ⟨m11, 0, none⟩
 (fun (n18 : Int) => iteG (n17 != n18)
 (k16 true)
 (ldG .str ⟨m10, 1, none⟩
 (fun (s19 : ByteArray) => ldG .str ⟨m11, 1, none⟩
 (fun (s20 : ByteArray) => iteG (!ByteArray.toList s19 == ByteArray.toList s20)
 (k16 true)
 (ldG .str ⟨m10, 2, none⟩
 (fun (s21 : ByteArray) => ldG .str ⟨m11, 2, none⟩
 (fun (s22 : ByteArray) => k16 (!ByteArray.toList s21 == ByteArray.toList s22))))))))))
 (fun (b23 : Bool) => iteG b23
 (retG (.bool false))
 (ldG (.int .i64) ⟨m10, 0, none⟩
 (fun (n24 : Int) => joinG []
 (fun k25 => iteG (n24 == (6 : Int))
 (joinG []
 (fun k26 => loopG [(.one (.int .i64))]
 (fun k27 => fun (n28 : Int) => ldG .slice ⟨m11, 3, none⟩
 (fun (l29 : Sl) => iteG (Decidable.decide (n28 < (↑l29.n : Int)))
 (joinG []
 (fun k30 => drewG
 (ldG (.int .i64) ⟨m10, 0, none⟩
 (fun (n31 : Int) => ldG .str ⟨m10, 1, none⟩
 (fun (s32 : ByteArray) => ldG .str ⟨m10, 2, none⟩
 (fun (s33 : ByteArray) => ldG .slice ⟨m10, 3, none⟩
 (fun (l34 : Sl) => ldG .slice ⟨m10, 4, none⟩
 (fun (l35 : Sl) => ldG .slice ⟨m11, 3, none⟩
 (fun (l36 : Sl) => idxG l36.a l36.n n28 1
 (fun (a37 : Addr) => ldG .str a37
 (fun (s38 : ByteArray) => bothG
 (callG Tryz.prog 79 #[(.agg #[(.int .i64 n31), (.string s32), (.string s33), (.slice l34.a l34.n l34.c), (.slice l35.a l35.n l35.c)]), (.string s38)] [(VT.agg [(.int .i64), CT.str, CT.str, CT.slice, CT.slice]), (.one .bool)]
 (fun (n39 : Int) => fun (s40 : ByteArray) => fun (s41 : ByteArray) => fun (l42 : Sl) => fun (l43 : Sl) => fun (b44 : Bool) => keepG [(Prod.mk ⟨m11, 3, none⟩ [(.slice l36.a l36.n l36.c)])]
 (newG (Obj.cells #[(.int .i64 (0 : Int)), (.string (ByteArray.mk #[])), (.string (ByteArray.mk #[])), (.slice none 0 0), (.slice none 0 0)] 25 (Prod.mk 0 0))
 (fun (m45 : Nat) => keepG [(Prod.mk a37 [(.string s38)]), (Prod.mk ⟨m11, 3, none⟩ [(.slice l36.a l36.n l36.c)]), (Prod.mk ⟨m10, 0, none⟩ [(.int .i64 n31), (.string s32), (.string s33), (.slice l34.a l34.n l34.c), (.slice l35.a l35.n l35.c)])]
 (stG ⟨m45, 0, none⟩ (.int .i64 n39)
 (stG ⟨m45, 1, none⟩ (.string s40)
 (stG ⟨m45, 2, none⟩ (.string s41)
 (stG ⟨m45, 3, none⟩ (.slice l42.a l42.n l42.c)
 (stG ⟨m45, 4, none⟩ (.slice l43.a l43.n l43.c)
 (joinG [(.one .bool)]
 (fun k46 => drewG
 (iteG (!b44)
 (k46 true)
 (ldG (.int .i64) ⟨m45, 0, none⟩
 (fun (n47 : Int) => ldG .str ⟨m45, 1, none⟩
 (fun (s48 : ByteArray) => ldG .str ⟨m45, 2, none⟩
 (fun (s49 : ByteArray) => ldG .slice ⟨m45, 3, none⟩
 (fun (l50 : Sl) => ldG .slice ⟨m45, 4, none⟩
 (fun (l51 : Sl) => ldG .slice ⟨m11, 4, none⟩
 (fun (l52 : Sl) => idxG l52.a l52.n n28 5
 (fun (a53 : Addr) => ldG (.int .i64) (Addr.add a53 0)
 (fun (n54 : Int) => ldG .str (Addr.add a53 1)
 (fun (s55 : ByteArray) => ldG .str (Addr.add a53 2)
 (fun (s56 : ByteArray) => ldG .slice (Addr.add a53 3)
 (fun (l57 : Sl) => ldG .slice (Addr.add a53 4)
 (fun (l58 : Sl) => callG Tryz.prog 48 #[(.agg #[(.int .i64 n47), (.string s48), (.string s49), (.slice l50.a l50.n l50.c), (.slice l51.a l51.n l51.c)]), (.agg #[(.int .i64 n54), (.string s55), (.string s56), (.slice l57.a l57.n l57.c), (.slice l58.a l58.n l58.c)])] [(.one .bool)]
 (fun (b59 : Bool) => keepG [(Prod.mk ⟨m11, 4, none⟩ [(.slice l52.a l52.n l52.c)])]
 (k46 (!b59))))))))))))))))))
 (fun (b60 : Bool) => iteG b60
 (retG (.bool false))
 (k30))))))))))))
 (newG (Obj.cells #[(.int .i64 (0 : Int)), (.string (ByteArray.mk #[])), (.string (ByteArray.mk #[])), (.slice none 0 0), (.slice none 0 0)] 25 (Prod.mk 0 0))
 (fun (m61 : Nat) => keepG [(Prod.mk a37 [(.string s38)]), (Prod.mk ⟨m11, 3, none⟩ [(.slice l36.a l36.n l36.c)]), (Prod.mk ⟨m10, 0, none⟩ [(.int .i64 n31), (.string s32), (.string s33), (.slice l34.a l34.n l34.c), (.slice l35.a l35.n l35.c)])]
 (callG Tryz.prog 79 #[(.agg #[(.int .i64 n31), (.string s32), (.string s33), (.slice l34.a l34.n l34.c), (.slice l35.a l35.n l35.c)]), (.string s38)] [(VT.agg [(.int .i64), CT.str, CT.str, CT.slice, CT.slice]), (.one .bool)]
 (fun (n62 : Int) => fun (s63 : ByteArray) => fun (s64 : ByteArray) => fun (l65 : Sl) => fun (l66 : Sl) => fun (b67 : Bool) => keepG [(Prod.mk ⟨m11, 3, none⟩ [(.slice l36.a l36.n l36.c)])]
 (stG ⟨m61, 0, none⟩ (.int .i64 n62)
 (stG ⟨m61, 1, none⟩ (.string s63)
 (stG ⟨m61, 2, none⟩ (.string s64)
 (stG ⟨m61, 3, none⟩ (.slice l65.a l65.n l65.c)
 (stG ⟨m61, 4, none⟩ (.slice l66.a l66.n l66.c)
 (joinG [(.one .bool)]
 (fun k68 => drewG
 (iteG (!b67)
 (k68 true)
 (ldG (.int .i64) ⟨m61, 0, none⟩
 (fun (n69 : Int) => ldG .str ⟨m61, 1, none⟩
 (fun (s70 : ByteArray) => ldG .str ⟨m61, 2, none⟩
 (fun (s71 : ByteArray) => ldG .slice ⟨m61, 3, none⟩
 (fun (l72 : Sl) => ldG .slice ⟨m61, 4, none⟩
 (fun (l73 : Sl) => ldG .slice ⟨m11, 4, none⟩
 (fun (l74 : Sl) => idxG l74.a l74.n n28 5
 (fun (a75 : Addr) => ldG (.int .i64) (Addr.add a75 0)
 (fun (n76 : Int) => ldG .str (Addr.add a75 1)
 (fun (s77 : ByteArray) => ldG .str (Addr.add a75 2)
 (fun (s78 : ByteArray) => ldG .slice (Addr.add a75 3)
 (fun (l79 : Sl) => ldG .slice (Addr.add a75 4)
 (fun (l80 : Sl) => callG Tryz.prog 48 #[(.agg #[(.int .i64 n69), (.string s70), (.string s71), (.slice l72.a l72.n l72.c), (.slice l73.a l73.n l73.c)]), (.agg #[(.int .i64 n76), (.string s77), (.string s78), (.slice l79.a l79.n l79.c), (.slice l80.a l80.n l80.c)])] [(.one .bool)]
 (fun (b81 : Bool) => keepG [(Prod.mk ⟨m11, 4, none⟩ [(.slice l74.a l74.n l74.c)])]
 (k68 (!b81))))))))))))))))))
 (fun (b82 : Bool) => iteG b82
 (retG (.bool false))
 (k30))))))))))))))))))))))
 (k27 (IntKind.wrap IntKind.i64 (n28 + (1 : Int)))))
 (k26))) (0 : Int))
 (retG (.bool true)))
 (iteG (n24 == (7 : Int))
 (joinG []
 (fun k83 => loopG [(.one (.int .i64))]
 (fun k84 => fun (n85 : Int) => ldG .slice ⟨m10, 3, none⟩
 (fun (l86 : Sl) => iteG (Decidable.decide (n85 < (↑l86.n : Int)))
 (joinG []
 (fun k87 => drewG
 (ldG (.int .i64) ⟨m11, 0, none⟩
 (fun (n88 : Int) => ldG .str ⟨m11, 1, none⟩
 (fun (s89 : ByteArray) => ldG .str ⟨m11, 2, none⟩
 (fun (s90 : ByteArray) => ldG .slice ⟨m11, 3, none⟩
 (fun (l91 : Sl) => ldG .slice ⟨m11, 4, none⟩
 (fun (l92 : Sl) => ldG .slice ⟨m10, 3, none⟩
 (fun (l93 : Sl) => idxG l93.a l93.n n85 1
 (fun (a94 : Addr) => ldG .str a94
 (fun (s95 : ByteArray) => bothG
 (callG Tryz.prog 79 #[(.agg #[(.int .i64 n88), (.string s89), (.string s90), (.slice l91.a l91.n l91.c), (.slice l92.a l92.n l92.c)]), (.string s95)] [(VT.agg [(.int .i64), CT.str, CT.str, CT.slice, CT.slice]), (.one .bool)]
 (fun (n96 : Int) => fun (s97 : ByteArray) => fun (s98 : ByteArray) => fun (l99 : Sl) => fun (l100 : Sl) => fun (b101 : Bool) => keepG [(Prod.mk ⟨m10, 3, none⟩ [(.slice l93.a l93.n l93.c)])]
 (newG (Obj.cells #[(.int .i64 (0 : Int)), (.string (ByteArray.mk #[])), (.string (ByteArray.mk #[])), (.slice none 0 0), (.slice none 0 0)] 25 (Prod.mk 0 0))
 (fun (m102 : Nat) => keepG [(Prod.mk a94 [(.string s95)]), (Prod.mk ⟨m10, 3, none⟩ [(.slice l93.a l93.n l93.c)]), (Prod.mk ⟨m11, 0, none⟩ [(.int .i64 n88), (.string s89), (.string s90), (.slice l91.a l91.n l91.c), (.slice l92.a l92.n l92.c)])]
 (stG ⟨m102, 0, none⟩ (.int .i64 n96)
 (stG ⟨m102, 1, none⟩ (.string s97)
 (stG ⟨m102, 2, none⟩ (.string s98)
 (stG ⟨m102, 3, none⟩ (.slice l99.a l99.n l99.c)
 (stG ⟨m102, 4, none⟩ (.slice l100.a l100.n l100.c)
 (joinG [(.one .bool)]
 (fun k103 => drewG
 (iteG (!b101)
 (k103 true)
 (ldG .slice ⟨m10, 4, none⟩
 (fun (l104 : Sl) => idxG l104.a l104.n n85 5
 (fun (a105 : Addr) => ldG (.int .i64) (Addr.add a105 0)
 (fun (n106 : Int) => ldG .str (Addr.add a105 1)
 (fun (s107 : ByteArray) => ldG .str (Addr.add a105 2)
 (fun (s108 : ByteArray) => ldG .slice (Addr.add a105 3)
 (fun (l109 : Sl) => ldG .slice (Addr.add a105 4)
 (fun (l110 : Sl) => ldG (.int .i64) ⟨m102, 0, none⟩
 (fun (n111 : Int) => ldG .str ⟨m102, 1, none⟩
 (fun (s112 : ByteArray) => ldG .str ⟨m102, 2, none⟩
 (fun (s113 : ByteArray) => ldG .slice ⟨m102, 3, none⟩
 (fun (l114 : Sl) => ldG .slice ⟨m102, 4, none⟩
 (fun (l115 : Sl) => callG Tryz.prog 48 #[(.agg #[(.int .i64 n106), (.string s107), (.string s108), (.slice l109.a l109.n l109.c), (.slice l110.a l110.n l110.c)]), (.agg #[(.int .i64 n111), (.string s112), (.string s113), (.slice l114.a l114.n l114.c), (.slice l115.a l115.n l115.c)])] [(.one .bool)]
 (fun (b116 : Bool) => keepG [(Prod.mk ⟨m10, 4, none⟩ [(.slice l104.a l104.n l104.c)])]
 (k103 (!b116))))))))))))))))))
 (fun (b117 : Bool) => iteG b117
 (retG (.bool false))
 (k87))))))))))))
 (newG (Obj.cells #[(.int .i64 (0 : Int)), (.string (ByteArray.mk #[])), (.string (ByteArray.mk #[])), (.slice none 0 0), (.slice none 0 0)] 25 (Prod.mk 0 0))
 (fun (m118 : Nat) => keepG [(Prod.mk a94 [(.string s95)]), (Prod.mk ⟨m10, 3, none⟩ [(.slice l93.a l93.n l93.c)]), (Prod.mk ⟨m11, 0, none⟩ [(.int .i64 n88), (.string s89), (.string s90), (.slice l91.a l91.n l91.c), (.slice l92.a l92.n l92.c)])]
 (callG Tryz.prog 79 #[(.agg #[(.int .i64 n88), (.string s89), (.string s90), (.slice l91.a l91.n l91.c), (.slice l92.a l92.n l92.c)]), (.string s95)] [(VT.agg [(.int .i64), CT.str, CT.str, CT.slice, CT.slice]), (.one .bool)]
 (fun (n119 : Int) => fun (s120 : ByteArray) => fun (s121 : ByteArray) => fun (l122 : Sl) => fun (l123 : Sl) => fun (b124 : Bool) => keepG [(Prod.mk ⟨m10, 3, none⟩ [(.slice l93.a l93.n l93.c)])]
 (stG ⟨m118, 0, none⟩ (.int .i64 n119)
 (stG ⟨m118, 1, none⟩ (.string s120)
 (stG ⟨m118, 2, none⟩ (.string s121)
 (stG ⟨m118, 3, none⟩ (.slice l122.a l122.n l122.c)
 (stG ⟨m118, 4, none⟩ (.slice l123.a l123.n l123.c)
 (joinG [(.one .bool)]
 (fun k125 => drewG
 (iteG (!b124)
 (k125 true)
 (ldG .slice ⟨m10, 4, none⟩
 (fun (l126 : Sl) => idxG l126.a l126.n n85 5
 (fun (a127 : Addr) => ldG (.int .i64) (Addr.add a127 0)
 (fun (n128 : Int) => ldG .str (Addr.add a127 1)
 (fun (s129 : ByteArray) => ldG .str (Addr.add a127 2)
 (fun (s130 : ByteArray) => ldG .slice (Addr.add a127 3)
 (fun (l131 : Sl) => ldG .slice (Addr.add a127 4)
 (fun (l132 : Sl) => ldG (.int .i64) ⟨m118, 0, none⟩
 (fun (n133 : Int) => ldG .str ⟨m118, 1, none⟩
 (fun (s134 : ByteArray) => ldG .str ⟨m118, 2, none⟩
 (fun (s135 : ByteArray) => ldG .slice ⟨m118, 3, none⟩
 (fun (l136 : Sl) => ldG .slice ⟨m118, 4, none⟩
 (fun (l137 : Sl) => callG Tryz.prog 48 #[(.agg #[(.int .i64 n128), (.string s129), (.string s130), (.slice l131.a l131.n l131.c), (.slice l132.a l132.n l132.c)]), (.agg #[(.int .i64 n133), (.string s134), (.string s135), (.slice l136.a l136.n l136.c), (.slice l137.a l137.n l137.c)])] [(.one .bool)]
 (fun (b138 : Bool) => keepG [(Prod.mk ⟨m10, 4, none⟩ [(.slice l126.a l126.n l126.c)])]
 (k125 (!b138))))))))))))))))))
 (fun (b139 : Bool) => iteG b139
 (retG (.bool false))
 (k87))))))))))))))))))))))
 (k84 (IntKind.wrap IntKind.i64 (n85 + (1 : Int)))))
 (k83))) (0 : Int))
 (retG (.bool true)))
 (iteG (n24 == (8 : Int))
 (ldG .slice ⟨m10, 4, none⟩
 (fun (l140 : Sl) => joinG [(.one .bool)]
 (fun k141 => drewG
 (ldG .slice ⟨m11, 4, none⟩
 (fun (l142 : Sl) => iteG ((↑l142.n : Int) != IntKind.wrap IntKind.i64 (IntKind.wrap IntKind.i64 ((↑l140.n : Int) - (1 : Int)) + (1 : Int)))
 (k141 true)
 (ldG .slice ⟨m10, 4, none⟩
 (fun (l143 : Sl) => idxG l143.a l143.n (IntKind.wrap IntKind.i64 ((↑l140.n : Int) - (1 : Int))) 5
 (fun (a144 : Addr) => ldG (.int .i64) (Addr.add a144 0)
 (fun (n145 : Int) => ldG .str (Addr.add a144 1)
 (fun (s146 : ByteArray) => ldG .str (Addr.add a144 2)
 (fun (s147 : ByteArray) => ldG .slice (Addr.add a144 3)
 (fun (l148 : Sl) => ldG .slice (Addr.add a144 4)
 (fun (l149 : Sl) => ldG .slice ⟨m11, 4, none⟩
 (fun (l150 : Sl) => idxG l150.a l150.n (IntKind.wrap IntKind.i64 ((↑l140.n : Int) - (1 : Int))) 5
 (fun (a151 : Addr) => ldG (.int .i64) (Addr.add a151 0)
 (fun (n152 : Int) => ldG .str (Addr.add a151 1)
 (fun (s153 : ByteArray) => ldG .str (Addr.add a151 2)
 (fun (s154 : ByteArray) => ldG .slice (Addr.add a151 3)
 (fun (l155 : Sl) => ldG .slice (Addr.add a151 4)
 (fun (l156 : Sl) => callG Tryz.prog 48 #[(.agg #[(.int .i64 n145), (.string s146), (.string s147), (.slice l148.a l148.n l148.c), (.slice l149.a l149.n l149.c)]), (.agg #[(.int .i64 n152), (.string s153), (.string s154), (.slice l155.a l155.n l155.c), (.slice l156.a l156.n l156.c)])] [(.one .bool)]
 (fun (b157 : Bool) => keepG [(Prod.mk ⟨m11, 4, none⟩ [(.slice l150.a l150.n l150.c)]), (Prod.mk ⟨m10, 4, none⟩ [(.slice l143.a l143.n l143.c)]), (Prod.mk ⟨m11, 4, none⟩ [(.slice l142.a l142.n l142.c)])]
 (k141 (!b157)))))))))))))))))))))
 (fun (b158 : Bool) => iteG b158
 (retG (.bool false))
 (joinG []
 (fun k159 => loopG [(.one (.int .i64))]
 (fun k160 => fun (n161 : Int) => iteG (Decidable.decide (n161 < IntKind.wrap IntKind.i64 ((↑l140.n : Int) - (1 : Int))))
 (joinG []
 (fun k162 => drewG
 (ldG .slice ⟨m11, 4, none⟩
 (fun (l163 : Sl) => idxG l163.a l163.n n161 5
 (fun (a164 : Addr) => ldG (.int .i64) (Addr.add a164 0)
 (fun (n165 : Int) => ldG .str (Addr.add a164 1)
 (fun (s166 : ByteArray) => ldG .str (Addr.add a164 2)
 (fun (s167 : ByteArray) => ldG .slice (Addr.add a164 3)
 (fun (l168 : Sl) => ldG .slice (Addr.add a164 4)
 (fun (l169 : Sl) => ldG .slice ⟨m10, 4, none⟩
 (fun (l170 : Sl) => idxG l170.a l170.n n161 5
 (fun (a171 : Addr) => ldG (.int .i64) (Addr.add a171 0)
 (fun (n172 : Int) => ldG .str (Addr.add a171 1)
 (fun (s173 : ByteArray) => ldG .str (Addr.add a171 2)
 (fun (s174 : ByteArray) => ldG .slice (Addr.add a171 3)
 (fun (l175 : Sl) => ldG .slice (Addr.add a171 4)
 (fun (l176 : Sl) => callG Tryz.prog 48 #[(.agg #[(.int .i64 n165), (.string s166), (.string s167), (.slice l168.a l168.n l168.c), (.slice l169.a l169.n l169.c)]), (.agg #[(.int .i64 n172), (.string s173), (.string s174), (.slice l175.a l175.n l175.c), (.slice l176.a l176.n l176.c)])] [(.one .bool)]
 (fun (b177 : Bool) => keepG [(Prod.mk ⟨m10, 4, none⟩ [(.slice l170.a l170.n l170.c)]), (Prod.mk ⟨m11, 4, none⟩ [(.slice l163.a l163.n l163.c)])]
 (iteG (!b177)
 (retG (.bool false))
 (k162)))))))))))))))))))
 (k160 (IntKind.wrap IntKind.i64 (n161 + (1 : Int)))))
 (k159)) (0 : Int))
 (retG (.bool true))))))
 (iteG (n24 == (5 : Int))
 (drewG
 (ldG .slice ⟨m10, 4, none⟩
 (fun (l178 : Sl) => idxG l178.a l178.n (0 : Int) 5
 (fun (a179 : Addr) => ldG (.int .i64) (Addr.add a179 0)
 (fun (n180 : Int) => ldG .str (Addr.add a179 1)
 (fun (s181 : ByteArray) => ldG .str (Addr.add a179 2)
 (fun (s182 : ByteArray) => ldG .slice (Addr.add a179 3)
 (fun (l183 : Sl) => ldG .slice (Addr.add a179 4)
 (fun (l184 : Sl) => ldG .slice ⟨m11, 4, none⟩
 (fun (l185 : Sl) => idxG l185.a l185.n (0 : Int) 5
 (fun (a186 : Addr) => ldG (.int .i64) (Addr.add a186 0)
 (fun (n187 : Int) => ldG .str (Addr.add a186 1)
 (fun (s188 : ByteArray) => ldG .str (Addr.add a186 2)
 (fun (s189 : ByteArray) => ldG .slice (Addr.add a186 3)
 (fun (l190 : Sl) => ldG .slice (Addr.add a186 4)
 (fun (l191 : Sl) => callG Tryz.prog 48 #[(.agg #[(.int .i64 n180), (.string s181), (.string s182), (.slice l183.a l183.n l183.c), (.slice l184.a l184.n l184.c)]), (.agg #[(.int .i64 n187), (.string s188), (.string s189), (.slice l190.a l190.n l190.c), (.slice l191.a l191.n l191.c)])] [(.one .bool)]
 (fun (b192 : Bool) => keepG [(Prod.mk ⟨m11, 4, none⟩ [(.slice l185.a l185.n l185.c)]), (Prod.mk ⟨m10, 4, none⟩ [(.slice l178.a l178.n l178.c)])]
 (retG (.bool b192)))))))))))))))))))
 (k25)))))
 (retG (.bool true)))))))))
theorem e48 : denF Tryz.prog (GA Tryz.prog) Tryz.f48 [(VT.agg [(CT.int IntKind.i64), CT.str, CT.str, CT.slice, CT.slice]), (VT.agg [(CT.int IntKind.i64), CT.str, CT.str, CT.slice, CT.slice])] (.seq .leaf (.seq (.seq (.r (sl Tryz.prog [(20, 4)])) .leaf) (.seq (.seq (.r (sl Tryz.prog [(39, 4)])) .leaf) (.seq (.seq .leaf (.block (sl Tryz.prog []) (.seq .leaf (.cond (.seq (.seq .leaf (.block (sl Tryz.prog []) (.loop (sl Tryz.prog [(5, 3)]) (.seq .leaf (.seq (.block (sl Tryz.prog []) (.seq .leaf (.seq (.r (sl Tryz.prog [(72, 4)])) .leaf))) .leaf))))) .leaf) (.seq .leaf (.cond (.seq (.seq .leaf (.block (sl Tryz.prog []) (.loop (sl Tryz.prog [(8, 3)]) (.seq .leaf (.seq (.block (sl Tryz.prog []) (.seq .leaf (.seq (.r (sl Tryz.prog [(103, 4)])) .leaf))) .leaf))))) .leaf) (.seq .leaf (.cond (.seq .leaf (.seq (.seq (.r (sl Tryz.prog [(129, 4)])) .leaf) (.seq (.seq .leaf (.block (sl Tryz.prog []) (.loop (sl Tryz.prog [(12, 3)]) (.seq .leaf (.seq (.block (sl Tryz.prog []) .leaf) .leaf))))) .leaf))) .leaf)))))))) .leaf)))) = t48 := by kernel_rfl
theorem c48 (x0 : Int) (x1 : ByteArray) (x2 : ByteArray) (x3 : Sl) (x4 : Sl) (x5 : Int) (x6 : ByteArray) (x7 : ByteArray) (x8 : Sl) (x9 : Sl) {R : Ending → World → Prop} {w : World} (h : t48 x0 x1 x2 x3 x4 x5 x6 x7 x8 x9 R w) : Calls Tryz.prog 48 #[.agg #[.int .i64 x0, .string x1, .string x2, .slice x3.a x3.n x3.c, .slice x4.a x4.n x4.c], .agg #[.int .i64 x5, .string x6, .string x7, .slice x8.a x8.n x8.c, .slice x9.a x9.n x9.c]] w R :=
  lift mixed Tryz.func48 e48 rfl ((x0, x1, x2, x3, x4, ()), (x5, x6, x7, x8, x9, ()), ()) R w h
def t50 : Int → ByteArray → ByteArray → Sl → Sl → Int → G :=
 fun (n0 : Int) => fun (s1 : ByteArray) => fun (s2 : ByteArray) => fun (l3 : Sl) => fun (l4 : Sl) => fun (n5 : Int) => newG (Obj.cells #[(.int .i64 n0), (.string s1), (.string s2), (.slice l3.a l3.n l3.c), (.slice l4.a l4.n l4.c)] 25 (Prod.mk 0 0))
 (fun (m6 : Nat) => joinG [(.one (.int .i64))]
 (fun k7 => loopG [(.one (.int .i64)), (.one (.int .i64))]
 (fun k8 => fun (n9 : Int) => fun (n10 : Int) => joinG [(.one .bool)]
 (fun k11 => ldG .slice ⟨m6, 4, none⟩
 (fun (l12 : Sl) => iteG (Decidable.decide (n10 < (↑l12.n : Int)))
 (k11 (Decidable.decide (n9 ≤ n5)))
 (k11 false)))
 (fun (b13 : Bool) => iteG b13
 (joinG [(.one (.int .i64))]
 (fun k14 => ldG .slice ⟨m6, 4, none⟩
 (fun (l15 : Sl) => idxG l15.a l15.n n10 5
 (fun (a16 : Addr) => ldG (.int .i64) (Addr.add a16 0)
 (fun (n17 : Int) => ldG .str (Addr.add a16 1)
 (fun (s18 : ByteArray) => ldG .str (Addr.add a16 2)
 (fun (s19 : ByteArray) => ldG .slice (Addr.add a16 3)
 (fun (l20 : Sl) => ldG .slice (Addr.add a16 4)
 (fun (l21 : Sl) => callG Tryz.prog 50 #[(.agg #[(.int .i64 n17), (.string s18), (.string s19), (.slice l20.a l20.n l20.c), (.slice l21.a l21.n l21.c)]), (.int .i64 (IntKind.wrap IntKind.i64 (n5 - n9)))] [(.one (.int .i64))]
 (fun (n22 : Int) => k14 (IntKind.wrap IntKind.i64 (n9 + n22)))))))))))
 (fun (n23 : Int) => k8 n23 (IntKind.wrap IntKind.i64 (n10 + (1 : Int)))))
 (k7 n9))) (1 : Int) (0 : Int))
 (fun (n24 : Int) => retG (.int .i64 n24)))
theorem e50 : denF Tryz.prog (GA Tryz.prog) Tryz.f50 [(VT.agg [(CT.int IntKind.i64), CT.str, CT.str, CT.slice, CT.slice]), (VT.one (CT.int IntKind.i64))] (.seq .leaf (.seq .leaf (.seq (.seq .leaf (.block (sl Tryz.prog [(5, 3)]) (.loop (sl Tryz.prog [(5, 3), (6, 3)]) (.seq (.seq (.r (sl Tryz.prog [(16, 4)])) .leaf) (.seq (.block (sl Tryz.prog [(5, 3)]) .leaf) .leaf))))) .leaf))) = t50 := by kernel_rfl
theorem c50 (x0 : Int) (x1 : ByteArray) (x2 : ByteArray) (x3 : Sl) (x4 : Sl) (x5 : Int) {R : Ending → World → Prop} {w : World} (h : t50 x0 x1 x2 x3 x4 x5 R w) : Calls Tryz.prog 50 #[.agg #[.int .i64 x0, .string x1, .string x2, .slice x3.a x3.n x3.c, .slice x4.a x4.n x4.c], .int .i64 x5] w R :=
  lift mixed Tryz.func50 e50 rfl ((x0, x1, x2, x3, x4, ()), (x5, ()), ()) R w h
def t76 : Int → ByteArray → ByteArray → Sl → Sl → G :=
 fun (n0 : Int) => fun (s1 : ByteArray) => fun (s2 : ByteArray) => fun (l3 : Sl) => fun (l4 : Sl) => newG (Obj.cells #[(.int .i64 n0), (.string s1), (.string s2), (.slice l3.a l3.n l3.c), (.slice l4.a l4.n l4.c)] 25 (Prod.mk 0 0))
 (fun (m5 : Nat) => joinG [(.one (.int .i64))]
 (fun k6 => loopG [(.one (.int .i64)), (.one (.int .i64))]
 (fun k7 => fun (n8 : Int) => fun (n9 : Int) => ldG .slice ⟨m5, 4, none⟩
 (fun (l10 : Sl) => iteG (Decidable.decide (n9 < (↑l10.n : Int)))
 (joinG [(.one (.int .i64))]
 (fun k11 => ldG .slice ⟨m5, 4, none⟩
 (fun (l12 : Sl) => idxG l12.a l12.n n9 5
 (fun (a13 : Addr) => ldG (.int .i64) (Addr.add a13 0)
 (fun (n14 : Int) => ldG .str (Addr.add a13 1)
 (fun (s15 : ByteArray) => ldG .str (Addr.add a13 2)
 (fun (s16 : ByteArray) => ldG .slice (Addr.add a13 3)
 (fun (l17 : Sl) => ldG .slice (Addr.add a13 4)
 (fun (l18 : Sl) => callG Tryz.prog 76 #[(.agg #[(.int .i64 n14), (.string s15), (.string s16), (.slice l17.a l17.n l17.c), (.slice l18.a l18.n l18.c)])] [(.one (.int .i64))]
 (fun (n19 : Int) => joinG [(.one (.int .i64))]
 (fun k20 => iteG (Decidable.decide (n19 > n8))
 (k20 n19)
 (k20 n8))
 (fun (n21 : Int) => k11 n21))))))))))
 (fun (n22 : Int) => k7 n22 (IntKind.wrap IntKind.i64 (n9 + (1 : Int)))))
 (k6 n8))) (0 : Int) (0 : Int))
 (fun (n23 : Int) => retG (.int .i64 (IntKind.wrap IntKind.i64 (n23 + (1 : Int))))))
theorem e76 : denF Tryz.prog (GA Tryz.prog) Tryz.f76 [(VT.agg [(CT.int IntKind.i64), CT.str, CT.str, CT.slice, CT.slice])] (.seq .leaf (.seq .leaf (.seq (.seq .leaf (.block (sl Tryz.prog [(3, 3)]) (.loop (sl Tryz.prog [(3, 3), (4, 3)]) (.seq .leaf (.seq (.block (sl Tryz.prog [(3, 3)]) (.seq .leaf (.seq .leaf (.condj (sl Tryz.prog [(3, 3)]) .leaf .leaf)))) .leaf))))) .leaf))) = t76 := by kernel_rfl
theorem c76 (x0 : Int) (x1 : ByteArray) (x2 : ByteArray) (x3 : Sl) (x4 : Sl) {R : Ending → World → Prop} {w : World} (h : t76 x0 x1 x2 x3 x4 R w) : Calls Tryz.prog 76 #[.agg #[.int .i64 x0, .string x1, .string x2, .slice x3.a x3.n x3.c, .slice x4.a x4.n x4.c]] w R :=
  lift mixed Tryz.func76 e76 rfl ((x0, x1, x2, x3, x4, ()), ()) R w h
def t77 : Int → ByteArray → ByteArray → Sl → Sl → G :=
 fun (n0 : Int) => fun (s1 : ByteArray) => fun (s2 : ByteArray) => fun (l3 : Sl) => fun (l4 : Sl) => newG (Obj.cells #[(.int .i64 n0), (.string s1), (.string s2), (.slice l3.a l3.n l3.c), (.slice l4.a l4.n l4.c)] 25 (Prod.mk 0 0))
 (fun (m5 : Nat) => ldG (.int .i64) ⟨m5, 0, none⟩
 (fun (n6 : Int) => ldG .str ⟨m5, 1, none⟩
 (fun (s7 : ByteArray) => ldG .str ⟨m5, 2, none⟩
 (fun (s8 : ByteArray) => ldG .slice ⟨m5, 3, none⟩
 (fun (l9 : Sl) => ldG .slice ⟨m5, 4, none⟩
 (fun (l10 : Sl) => callG Tryz.prog 101 #[(.agg #[(.int .i64 n6), (.string s7), (.string s8), (.slice l9.a l9.n l9.c), (.slice l10.a l10.n l10.c)])] [(.one .bool)]
 (fun (b11 : Bool) => iteG (!b11)
 (retG (.bool false))
 (joinG []
 (fun k12 => loopG [(.one (.int .i64))]
 (fun k13 => fun (n14 : Int) => ldG .slice ⟨m5, 4, none⟩
 (fun (l15 : Sl) => iteG (Decidable.decide (n14 < (↑l15.n : Int)))
 (joinG []
 (fun k16 => ldG .slice ⟨m5, 4, none⟩
 (fun (l17 : Sl) => idxG l17.a l17.n n14 5
 (fun (a18 : Addr) => ldG (.int .i64) (Addr.add a18 0)
 (fun (n19 : Int) => ldG .str (Addr.add a18 1)
 (fun (s20 : ByteArray) => ldG .str (Addr.add a18 2)
 (fun (s21 : ByteArray) => ldG .slice (Addr.add a18 3)
 (fun (l22 : Sl) => ldG .slice (Addr.add a18 4)
 (fun (l23 : Sl) => callG Tryz.prog 77 #[(.agg #[(.int .i64 n19), (.string s20), (.string s21), (.slice l22.a l22.n l22.c), (.slice l23.a l23.n l23.c)])] [(.one .bool)]
 (fun (b24 : Bool) => iteG (!b24)
 (retG (.bool false))
 (k16))))))))))
 (k13 (IntKind.wrap IntKind.i64 (n14 + (1 : Int)))))
 (k12))) (0 : Int))
 (retG (.bool true))))))))))
theorem e77 : denF Tryz.prog (GA Tryz.prog) Tryz.f77 [(VT.agg [(CT.int IntKind.i64), CT.str, CT.str, CT.slice, CT.slice])] (.seq .leaf (.seq .leaf (.seq (.seq .leaf (.block (sl Tryz.prog []) (.loop (sl Tryz.prog [(3, 3)]) (.seq .leaf (.seq (.block (sl Tryz.prog []) .leaf) .leaf))))) .leaf))) = t77 := by kernel_rfl
theorem c77 (x0 : Int) (x1 : ByteArray) (x2 : ByteArray) (x3 : Sl) (x4 : Sl) {R : Ending → World → Prop} {w : World} (h : t77 x0 x1 x2 x3 x4 R w) : Calls Tryz.prog 77 #[.agg #[.int .i64 x0, .string x1, .string x2, .slice x3.a x3.n x3.c, .slice x4.a x4.n x4.c]] w R :=
  lift mixed Tryz.func77 e77 rfl ((x0, x1, x2, x3, x4, ()), ()) R w h
def t78 : Int → ByteArray → ByteArray → Sl → Sl → ByteArray → G :=
 fun (n0 : Int) => fun (s1 : ByteArray) => fun (s2 : ByteArray) => fun (l3 : Sl) => fun (l4 : Sl) => fun (s5 : ByteArray) => newG (Obj.cells #[(.int .i64 n0), (.string s1), (.string s2), (.slice l3.a l3.n l3.c), (.slice l4.a l4.n l4.c)] 25 (Prod.mk 0 0))
 (fun (m6 : Nat) => newG (Obj.cells #[(.int .i64 (0 : Int)), (.string (ByteArray.mk #[])), (.string (ByteArray.mk #[])), (.slice none 0 0), (.slice none 0 0)] 25 (Prod.mk 0 0))
 (fun (m7 : Nat) => joinG []
 (fun k8 => loopG [(.one (.int .i64))]
 (fun k9 => fun (n10 : Int) => ldG .slice ⟨m6, 3, none⟩
 (fun (l11 : Sl) => iteG (Decidable.decide (n10 < (↑l11.n : Int)))
 (joinG []
 (fun k12 => ldG .slice ⟨m6, 3, none⟩
 (fun (l13 : Sl) => idxG l13.a l13.n n10 1
 (fun (a14 : Addr) => ldG .str a14
 (fun (s15 : ByteArray) => iteG (ByteArray.toList s15 == ByteArray.toList s5)
 (ldG .slice ⟨m6, 4, none⟩
 (fun (l16 : Sl) => idxG l16.a l16.n n10 5
 (fun (a17 : Addr) => ldG (.int .i64) (Addr.add a17 0)
 (fun (n18 : Int) => ldG .str (Addr.add a17 1)
 (fun (s19 : ByteArray) => ldG .str (Addr.add a17 2)
 (fun (s20 : ByteArray) => ldG .slice (Addr.add a17 3)
 (fun (l21 : Sl) => ldG .slice (Addr.add a17 4)
 (fun (l22 : Sl) => stG ⟨m7, 0, none⟩ (.int .i64 n18)
 (stG ⟨m7, 1, none⟩ (.string s19)
 (stG ⟨m7, 2, none⟩ (.string s20)
 (stG ⟨m7, 3, none⟩ (.slice l21.a l21.n l21.c)
 (stG ⟨m7, 4, none⟩ (.slice l22.a l22.n l22.c)
 (ldG (.int .i64) ⟨m7, 0, none⟩
 (fun (n23 : Int) => ldG .str ⟨m7, 1, none⟩
 (fun (s24 : ByteArray) => ldG .str ⟨m7, 2, none⟩
 (fun (s25 : ByteArray) => ldG .slice ⟨m7, 3, none⟩
 (fun (l26 : Sl) => ldG .slice ⟨m7, 4, none⟩
 (fun (l27 : Sl) => retG (.tuple #[(.agg #[(.int .i64 n23), (.string s24), (.string s25), (.slice l26.a l26.n l26.c), (.slice l27.a l27.n l27.c)]), (.bool true)])))))))))))))))))))
 (k12)))))
 (k9 (IntKind.wrap IntKind.i64 (n10 + (1 : Int)))))
 (k8))) (0 : Int))
 (stG ⟨m7, 0, none⟩ (.int .i64 (0 : Int))
 (stG ⟨m7, 1, none⟩ (.string (ByteArray.mk #[]))
 (stG ⟨m7, 2, none⟩ (.string (ByteArray.mk #[]))
 (stG ⟨m7, 3, none⟩ (.slice none 0 0)
 (stG ⟨m7, 4, none⟩ (.slice none 0 0)
 (ldG (.int .i64) ⟨m7, 0, none⟩
 (fun (n28 : Int) => ldG .str ⟨m7, 1, none⟩
 (fun (s29 : ByteArray) => ldG .str ⟨m7, 2, none⟩
 (fun (s30 : ByteArray) => ldG .slice ⟨m7, 3, none⟩
 (fun (l31 : Sl) => ldG .slice ⟨m7, 4, none⟩
 (fun (l32 : Sl) => retG (.tuple #[(.agg #[(.int .i64 n28), (.string s29), (.string s30), (.slice l31.a l31.n l31.c), (.slice l32.a l32.n l32.c)]), (.bool false)]))))))))))))))
theorem e78 : denF Tryz.prog (GA Tryz.prog) Tryz.f78 [(VT.agg [(CT.int IntKind.i64), CT.str, CT.str, CT.slice, CT.slice]), (VT.one CT.str)] (.seq .leaf (.seq (.seq .leaf (.block (sl Tryz.prog []) (.loop (sl Tryz.prog [(6, 3)]) (.seq .leaf (.seq (.block (sl Tryz.prog []) .leaf) .leaf))))) .leaf)) = t78 := by kernel_rfl
theorem c78 (x0 : Int) (x1 : ByteArray) (x2 : ByteArray) (x3 : Sl) (x4 : Sl) (x5 : ByteArray) {R : Ending → World → Prop} {w : World} (h : t78 x0 x1 x2 x3 x4 x5 R w) : Calls Tryz.prog 78 #[.agg #[.int .i64 x0, .string x1, .string x2, .slice x3.a x3.n x3.c, .slice x4.a x4.n x4.c], .string x5] w R :=
  lift mixed Tryz.func78 e78 rfl ((x0, x1, x2, x3, x4, ()), (x5, ()), ()) R w h
def t79 : Int → ByteArray → ByteArray → Sl → Sl → ByteArray → G :=
 fun (n0 : Int) => fun (s1 : ByteArray) => fun (s2 : ByteArray) => fun (l3 : Sl) => fun (l4 : Sl) => fun (s5 : ByteArray) => newG (Obj.cells #[(.int .i64 n0), (.string s1), (.string s2), (.slice l3.a l3.n l3.c), (.slice l4.a l4.n l4.c)] 25 (Prod.mk 0 0))
 (fun (m6 : Nat) => newG (Obj.cells #[(.int .i64 (0 : Int)), (.string (ByteArray.mk #[])), (.string (ByteArray.mk #[])), (.slice none 0 0), (.slice none 0 0)] 25 (Prod.mk 0 0))
 (fun (m7 : Nat) => joinG []
 (fun k8 => loopG [(.one (.int .i64))]
 (fun k9 => fun (n10 : Int) => ldG .slice ⟨m6, 3, none⟩
 (fun (l11 : Sl) => iteG (Decidable.decide (n10 < (↑l11.n : Int)))
 (joinG []
 (fun k12 => ldG .slice ⟨m6, 3, none⟩
 (fun (l13 : Sl) => idxG l13.a l13.n n10 1
 (fun (a14 : Addr) => ldG .str a14
 (fun (s15 : ByteArray) => iteG (ByteArray.toList s15 == ByteArray.toList s5)
 (ldG .slice ⟨m6, 4, none⟩
 (fun (l16 : Sl) => idxG l16.a l16.n n10 5
 (fun (a17 : Addr) => ldG (.int .i64) (Addr.add a17 0)
 (fun (n18 : Int) => ldG .str (Addr.add a17 1)
 (fun (s19 : ByteArray) => ldG .str (Addr.add a17 2)
 (fun (s20 : ByteArray) => ldG .slice (Addr.add a17 3)
 (fun (l21 : Sl) => ldG .slice (Addr.add a17 4)
 (fun (l22 : Sl) => stG ⟨m7, 0, none⟩ (.int .i64 n18)
 (stG ⟨m7, 1, none⟩ (.string s19)
 (stG ⟨m7, 2, none⟩ (.string s20)
 (stG ⟨m7, 3, none⟩ (.slice l21.a l21.n l21.c)
 (stG ⟨m7, 4, none⟩ (.slice l22.a l22.n l22.c)
 (ldG (.int .i64) ⟨m7, 0, none⟩
 (fun (n23 : Int) => ldG .str ⟨m7, 1, none⟩
 (fun (s24 : ByteArray) => ldG .str ⟨m7, 2, none⟩
 (fun (s25 : ByteArray) => ldG .slice ⟨m7, 3, none⟩
 (fun (l26 : Sl) => ldG .slice ⟨m7, 4, none⟩
 (fun (l27 : Sl) => retG (.tuple #[(.agg #[(.int .i64 n23), (.string s24), (.string s25), (.slice l26.a l26.n l26.c), (.slice l27.a l27.n l27.c)]), (.bool true)])))))))))))))))))))
 (k12)))))
 (k9 (IntKind.wrap IntKind.i64 (n10 + (1 : Int)))))
 (k8))) (0 : Int))
 (stG ⟨m7, 0, none⟩ (.int .i64 (0 : Int))
 (stG ⟨m7, 1, none⟩ (.string (ByteArray.mk #[]))
 (stG ⟨m7, 2, none⟩ (.string (ByteArray.mk #[]))
 (stG ⟨m7, 3, none⟩ (.slice none 0 0)
 (stG ⟨m7, 4, none⟩ (.slice none 0 0)
 (ldG (.int .i64) ⟨m7, 0, none⟩
 (fun (n28 : Int) => ldG .str ⟨m7, 1, none⟩
 (fun (s29 : ByteArray) => ldG .str ⟨m7, 2, none⟩
 (fun (s30 : ByteArray) => ldG .slice ⟨m7, 3, none⟩
 (fun (l31 : Sl) => ldG .slice ⟨m7, 4, none⟩
 (fun (l32 : Sl) => retG (.tuple #[(.agg #[(.int .i64 n28), (.string s29), (.string s30), (.slice l31.a l31.n l31.c), (.slice l32.a l32.n l32.c)]), (.bool false)]))))))))))))))
theorem e79 : denF Tryz.prog (GA Tryz.prog) Tryz.f79 [(VT.agg [(CT.int IntKind.i64), CT.str, CT.str, CT.slice, CT.slice]), (VT.one CT.str)] (.seq .leaf (.seq (.seq .leaf (.block (sl Tryz.prog []) (.loop (sl Tryz.prog [(6, 3)]) (.seq .leaf (.seq (.block (sl Tryz.prog []) .leaf) .leaf))))) .leaf)) = t79 := by kernel_rfl
theorem c79 (x0 : Int) (x1 : ByteArray) (x2 : ByteArray) (x3 : Sl) (x4 : Sl) (x5 : ByteArray) {R : Ending → World → Prop} {w : World} (h : t79 x0 x1 x2 x3 x4 x5 R w) : Calls Tryz.prog 79 #[.agg #[.int .i64 x0, .string x1, .string x2, .slice x3.a x3.n x3.c, .slice x4.a x4.n x4.c], .string x5] w R :=
  lift mixed Tryz.func79 e79 rfl ((x0, x1, x2, x3, x4, ()), (x5, ()), ()) R w h
def t101 : Int → ByteArray → ByteArray → Sl → Sl → G :=
 fun (n0 : Int) => fun (s1 : ByteArray) => fun (s2 : ByteArray) => fun (l3 : Sl) => fun (l4 : Sl) => newG (Obj.cells #[(.int .i64 n0), (.string s1), (.string s2), (.slice l3.a l3.n l3.c), (.slice l4.a l4.n l4.c)] 25 (Prod.mk 0 0))
 (fun (m5 : Nat) => joinG [(.one .bool)]
 (fun k6 => ldG (.int .i64) ⟨m5, 0, none⟩
 (fun (n7 : Int) => iteG (n7 == (9 : Int))
 (k6 true)
 (ldG (.int .i64) ⟨m5, 0, none⟩
 (fun (n8 : Int) => k6 (n8 == (10 : Int))))))
 (fun (b9 : Bool) => iteG b9
 (joinG [(.one .bool)]
 (fun k10 => ldG .str ⟨m5, 2, none⟩
 (fun (s11 : ByteArray) => iteG (ByteArray.toList s11 == ByteArray.toList (ByteArray.mk #[(73 : UInt8), (110 : UInt8), (116 : UInt8)]))
 (k10 true)
 (ldG .str ⟨m5, 2, none⟩
 (fun (s12 : ByteArray) => iteG (ByteArray.toList s12 == ByteArray.toList (ByteArray.mk #[(66 : UInt8), (111 : UInt8), (111 : UInt8), (108 : UInt8)]))
 (k10 true)
 (ldG .str ⟨m5, 2, none⟩
 (fun (s13 : ByteArray) => iteG (ByteArray.toList s13 == ByteArray.toList (ByteArray.mk #[(84 : UInt8), (101 : UInt8), (120 : UInt8), (116 : UInt8)]))
 (k10 true)
 (ldG .str ⟨m5, 2, none⟩
 (fun (s14 : ByteArray) => k10 (ByteArray.toList s14 == ByteArray.toList (ByteArray.mk #[(65 : UInt8), (110 : UInt8), (121 : UInt8)]))))))))))
 (fun (b15 : Bool) => joinG [(.one .bool)]
 (fun k16 => ldG .str ⟨m5, 1, none⟩
 (fun (s17 : ByteArray) => callG Tryz.prog 134 #[(.string s17)] [(.one .bool)]
 (fun (b18 : Bool) => iteG b18
 (k16 true)
 (ldG .str ⟨m5, 1, none⟩
 (fun (s19 : ByteArray) => iteG (ByteArray.toList s19 == ByteArray.toList (ByteArray.mk #[]))
 (ldG (.int .i64) ⟨m5, 0, none⟩
 (fun (n20 : Int) => iteG (n20 == (9 : Int))
 (k16 (!b15))
 (k16 false)))
 (k16 false))))))
 (fun (b21 : Bool) => joinG [(.one .bool)]
 (fun k22 => ldG .str ⟨m5, 2, none⟩
 (fun (s23 : ByteArray) => callG Tryz.prog 135 #[(.string s23)] [(.one .bool)]
 (fun (b24 : Bool) => iteG b24
 (iteG b21
 (ldG .slice ⟨m5, 3, none⟩
 (fun (l25 : Sl) => iteG ((↑l25.n : Int) == (0 : Int))
 (ldG .slice ⟨m5, 4, none⟩
 (fun (l26 : Sl) => k22 ((↑l26.n : Int) == (0 : Int))))
 (k22 false)))
 (k22 false))
 (k22 false))))
 (fun (b27 : Bool) => retG (.bool b27)))))
 (joinG [(.one .bool)]
 (fun k28 => ldG .str ⟨m5, 1, none⟩
 (fun (s29 : ByteArray) => iteG (!ByteArray.toList s29 == ByteArray.toList (ByteArray.mk #[]))
 (k28 true)
 (ldG .str ⟨m5, 2, none⟩
 (fun (s30 : ByteArray) => k28 (!ByteArray.toList s30 == ByteArray.toList (ByteArray.mk #[]))))))
 (fun (b31 : Bool) => iteG b31
 (retG (.bool false))
 (joinG [(.one .bool)]
 (fun k32 => ldG (.int .i64) ⟨m5, 0, none⟩
 (fun (n33 : Int) => iteG (n33 == (6 : Int))
 (k32 true)
 (ldG (.int .i64) ⟨m5, 0, none⟩
 (fun (n34 : Int) => k32 (n34 == (7 : Int))))))
 (fun (b35 : Bool) => iteG b35
 (ldG .slice ⟨m5, 3, none⟩
 (fun (l36 : Sl) => ldG .slice ⟨m5, 4, none⟩
 (fun (l37 : Sl) => callG Tryz.prog 136 #[(.slice l36.a l36.n l36.c), (.int .i64 ((↑l37.n : Int)))] [(.one .bool)]
 (fun (b38 : Bool) => retG (.bool b38)))))
 (ldG .slice ⟨m5, 3, none⟩
 (fun (l39 : Sl) => iteG (Decidable.decide ((↑l39.n : Int) > (0 : Int)))
 (retG (.bool false))
 (ldG (.int .i64) ⟨m5, 0, none⟩
 (fun (n40 : Int) => iteG (n40 == (8 : Int))
 (ldG .slice ⟨m5, 4, none⟩
 (fun (l41 : Sl) => retG (.bool (Decidable.decide ((↑l41.n : Int) ≥ (1 : Int))))))
 (ldG (.int .i64) ⟨m5, 0, none⟩
 (fun (n42 : Int) => iteG (n42 == (5 : Int))
 (ldG .slice ⟨m5, 4, none⟩
 (fun (l43 : Sl) => retG (.bool ((↑l43.n : Int) == (1 : Int)))))
 (joinG [(.one .bool)]
 (fun k44 => ldG (.int .i64) ⟨m5, 0, none⟩
 (fun (n45 : Int) => iteG (Decidable.decide (n45 ≥ (1 : Int)))
 (ldG (.int .i64) ⟨m5, 0, none⟩
 (fun (n46 : Int) => iteG (Decidable.decide (n46 ≤ (4 : Int)))
 (ldG .slice ⟨m5, 4, none⟩
 (fun (l47 : Sl) => k44 ((↑l47.n : Int) == (0 : Int))))
 (k44 false)))
 (k44 false)))
 (fun (b48 : Bool) => retG (.bool b48)))))))))))))))
theorem e101 : denF Tryz.prog (GA Tryz.prog) Tryz.f101 [(VT.agg [(CT.int IntKind.i64), CT.str, CT.str, CT.slice, CT.slice])] (.seq .leaf (.seq (.seq (.r (sl Tryz.prog [(12, 4)])) (.cond (.seq (.r (sl Tryz.prog [(3, 4)])) (.seq (.r (sl Tryz.prog [(4, 4)])) (.seq (.r (sl Tryz.prog [(2, 4)])) .leaf))) .leaf)) (.seq (.seq (.r (sl Tryz.prog [(73, 4)])) .leaf) (.seq (.seq (.r (sl Tryz.prog [(81, 4)])) .leaf) (.seq .leaf (.seq .leaf (.seq .leaf (.seq (.r (sl Tryz.prog [(2, 4)])) .leaf)))))))) = t101 := by kernel_rfl
theorem c101 (x0 : Int) (x1 : ByteArray) (x2 : ByteArray) (x3 : Sl) (x4 : Sl) {R : Ending → World → Prop} {w : World} (h : t101 x0 x1 x2 x3 x4 R w) : Calls Tryz.prog 101 #[.agg #[.int .i64 x0, .string x1, .string x2, .slice x3.a x3.n x3.c, .slice x4.a x4.n x4.c]] w R :=
  lift mixed Tryz.func101 e101 rfl ((x0, x1, x2, x3, x4, ()), ()) R w h
def t136 : Sl → Int → G :=
 fun (l0 : Sl) => fun (n1 : Int) => joinG []
 (fun k2 => loopG [(.one (.int .i64))]
 (fun k3 => fun (n4 : Int) => iteG (Decidable.decide (n4 < (↑l0.n : Int)))
 (joinG []
 (fun k5 => idxG l0.a l0.n n4 1
 (fun (a6 : Addr) => ldG .str a6
 (fun (s7 : ByteArray) => callG Tryz.prog 134 #[(.string s7)] [(.one .bool)]
 (fun (b8 : Bool) => iteG (!b8)
 (retG (.bool false))
 (joinG []
 (fun k9 => loopG [(.one (.int .i64))]
 (fun k10 => fun (n11 : Int) => iteG (Decidable.decide (n11 < n4))
 (joinG []
 (fun k12 => drewG
 (idxG l0.a l0.n n11 1
 (fun (a13 : Addr) => ldG .str a13
 (fun (s14 : ByteArray) => idxG l0.a l0.n n4 1
 (fun (a15 : Addr) => ldG .str a15
 (fun (s16 : ByteArray) => iteG (ByteArray.toList s14 == ByteArray.toList s16)
 (retG (.bool false))
 (k12)))))))
 (k10 (IntKind.wrap IntKind.i64 (n11 + (1 : Int)))))
 (k9)) (0 : Int))
 (k5))))))
 (k3 (IntKind.wrap IntKind.i64 (n4 + (1 : Int)))))
 (k2)) (0 : Int))
 (retG (.bool ((↑l0.n : Int) == n1)))
theorem e136 : denF Tryz.prog (GA Tryz.prog) Tryz.f136 [(VT.one CT.slice), (VT.one (CT.int IntKind.i64))] (.seq .leaf (.seq (.seq .leaf (.block (sl Tryz.prog []) (.loop (sl Tryz.prog [(5, 3)]) (.seq .leaf (.seq (.block (sl Tryz.prog []) (.seq .leaf (.seq .leaf (.block (sl Tryz.prog []) (.loop (sl Tryz.prog [(6, 3)]) (.seq .leaf (.seq (.block (sl Tryz.prog []) .leaf) .leaf))))))) .leaf))))) .leaf)) = t136 := by kernel_rfl
theorem c136 (x0 : Sl) (x1 : Int) {R : Ending → World → Prop} {w : World} (h : t136 x0 x1 R w) : Calls Tryz.prog 136 #[.slice x0.a x0.n x0.c, .int .i64 x1] w R :=
  lift mixed Tryz.func136 e136 rfl ((x0, ()), (x1, ()), ()) R w h
end Go.Proofs.YticokfpaoiekgaaGreatDoor
end
