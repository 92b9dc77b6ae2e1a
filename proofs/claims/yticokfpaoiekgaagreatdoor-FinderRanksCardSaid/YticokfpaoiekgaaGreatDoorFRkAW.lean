/- The finder law behind FRanksCard: one part of its proof (joined by program out of my own texts). No condition. -/
import Derived.Test.YticokfpaoiekgaaGreatDoorFRkAV
section
set_option maxRecDepth 100000
namespace Go.Proofs.YticokfpaoiekgaaGreatDoor
open Go.Lift
def t19 : Int → ByteArray → ByteArray → Sl → Sl → Int → ByteArray → ByteArray → Sl → Sl → G :=
 fun (n0 : Int) (s1 : ByteArray) => fun (s2 : ByteArray) (l3 : Sl) => fun (l4 : Sl) (n5 : Int) => fun (s6 : ByteArray) (s7 : ByteArray) => fun (l8 : Sl) (l9 : Sl) => newG (Obj.cells #[(.int .i64 n0), (.string s1), (.string s2), (.slice l3.a l3.n l3.c), (.slice l4.a l4.n l4.c)] 25 (Prod.mk 0 0))
 (fun (m10 : Nat) => newG (Obj.cells #[(.int .i64 n5), (.string s6), (.string s7), (.slice l8.a l8.n l8.c), (.slice l9.a l9.n l9.c)] 25 (Prod.mk 0 0))
 (fun (m11 : Nat) => joinG [(.one .bool)]
 (fun k12 => ldG (.int .i64) ⟨m10, 0, none⟩
 (fun (n13 : Int) => ldG .str ⟨m10, 1, none⟩
 (fun (s14 : ByteArray) => ldG .str ⟨m10, 2, none⟩
 (fun (s15 : ByteArray) => ldG .slice ⟨m10, 3, none⟩
 (fun (l16 : Sl) => ldG .slice ⟨m10, 4, none⟩
 (fun (l17 : Sl) => callG Tryz.prog 36 #[(.agg #[(.int .i64 n13), (.string s14), (.string s15), (.slice l16.a l16.n l16.c), (.slice l17.a l17.n l17.c)])] [(.one (.int .i64))]
 (fun (n18 : Int) => iteG (n18 == (0 : Int))
 (ldG (.int .i64) ⟨m11, 0, none⟩
 (fun (n19 : Int) => ldG .str ⟨m11, 1, none⟩
 (fun (s20 : ByteArray) => ldG .str ⟨m11, 2, none⟩
 (fun (s21 : ByteArray) => ldG .slice ⟨m11, 3, none⟩
 (fun (l22 : Sl) => ldG .slice ⟨m11, 4, none⟩
 (fun (l23 : Sl) => callG Tryz.prog 36 #[(.agg #[(.int .i64 n19), (.string s20), (.string s21), (.slice l22.a l22.n l22.c), (.slice l23.a l23.n l23.c)])] [(.one (.int .i64))]
 (fun (n24 : Int) => iteG (n24 == (0 : Int))
 (ldG (.int .i64) ⟨m10, 0, none⟩
 (fun (n25 : Int) => ldG .str ⟨m10, 1, none⟩
 (fun (s26 : ByteArray) => ldG .str ⟨m10, 2, none⟩
 (fun (s27 : ByteArray) => ldG .slice ⟨m10, 3, none⟩
 (fun (l28 : Sl) => ldG .slice ⟨m10, 4, none⟩
 (fun (l29 : Sl) => ldG (.int .i64) ⟨m11, 0, none⟩
 (fun (n30 : Int) => ldG .str ⟨m11, 1, none⟩
 (fun (s31 : ByteArray) => ldG .str ⟨m11, 2, none⟩
 (fun (s32 : ByteArray) => ldG .slice ⟨m11, 3, none⟩
 (fun (l33 : Sl) => ldG .slice ⟨m11, 4, none⟩
 (fun (l34 : Sl) => callG Tryz.prog 37 #[(.agg #[(.int .i64 n25), (.string s26), (.string s27), (.slice l28.a l28.n l28.c), (.slice l29.a l29.n l29.c)]), (.agg #[(.int .i64 n30), (.string s31), (.string s32), (.slice l33.a l33.n l33.c), (.slice l34.a l34.n l34.c)])] [(.one .bool)]
 (fun (b35 : Bool) => k12 b35))))))))))))
 (k12 false))))))))
 (k12 false))))))))
 (fun (b36 : Bool) => retG (.bool b36))))
theorem e19 : denF Tryz.prog (GA Tryz.prog) Tryz.f19 [(.agg [(.int .i64), .str, .str, .slice, .slice]), (.agg [(.int .i64), .str, .str, .slice, .slice])] (.seq .leaf (.seq (.r (sl Tryz.prog [(4, 4)])) .leaf)) = t19 := by kernel_rfl
theorem c19 (x0 : Int) (x1 : ByteArray) (x2 : ByteArray) (x3 : Sl) (x4 : Sl) (x5 : Int) (x6 : ByteArray) (x7 : ByteArray) (x8 : Sl) (x9 : Sl) {R : Ending → World → Prop} {w : World} (h : t19 x0 x1 x2 x3 x4 x5 x6 x7 x8 x9 R w) : Calls Tryz.prog 19 #[.agg #[.int .i64 x0, .string x1, .string x2, .slice x3.a x3.n x3.c, .slice x4.a x4.n x4.c], .agg #[.int .i64 x5, .string x6, .string x7, .slice x8.a x8.n x8.c, .slice x9.a x9.n x9.c]] w R :=
  lift mixed Tryz.func19 e19 rfl ((x0, x1, x2, x3, x4, ()), (x5, x6, x7, x8, x9, ()), ()) R w h
def t20 : Int → ByteArray → ByteArray → Sl → Sl → G :=
 fun (n0 : Int) (s1 : ByteArray) => fun (s2 : ByteArray) (l3 : Sl) (l4 : Sl) => newG (Obj.cells #[(.int .i64 n0), (.string s1), (.string s2), (.slice l3.a l3.n l3.c), (.slice l4.a l4.n l4.c)] 25 (Prod.mk 0 0))
 (fun (m5 : Nat) => joinG [(.one .bool)]
 (fun k6 => ldG (.int .i64) ⟨m5, 0, none⟩
 (fun (n7 : Int) => ldG .str ⟨m5, 1, none⟩
 (fun (s8 : ByteArray) => ldG .str ⟨m5, 2, none⟩
 (fun (s9 : ByteArray) => ldG .slice ⟨m5, 3, none⟩
 (fun (l10 : Sl) => ldG .slice ⟨m5, 4, none⟩
 (fun (l11 : Sl) => callG Tryz.prog 36 #[(.agg #[(.int .i64 n7), (.string s8), (.string s9), (.slice l10.a l10.n l10.c), (.slice l11.a l11.n l11.c)])] [(.one (.int .i64))]
 (fun (n12 : Int) => iteG (n12 == (0 : Int))
 (ldG (.int .i64) ⟨m5, 0, none⟩
 (fun (n13 : Int) => ldG .str ⟨m5, 1, none⟩
 (fun (s14 : ByteArray) => ldG .str ⟨m5, 2, none⟩
 (fun (s15 : ByteArray) => ldG .slice ⟨m5, 3, none⟩
 (fun (l16 : Sl) => ldG .slice ⟨m5, 4, none⟩
 (fun (l17 : Sl) => callG Tryz.prog 38 #[(.agg #[(.int .i64 n13), (.string s14), (.string s15), (.slice l16.a l16.n l16.c), (.slice l17.a l17.n l17.c)])] [(.one .bool)]
 (fun (b18 : Bool) => k6 b18)))))))
 (k6 false))))))))
 (fun (b19 : Bool) => retG (.bool b19)))
def t21 : Int → ByteArray → ByteArray → Sl → Sl → Int → ByteArray → ByteArray → Sl → Sl → G :=
 fun (n0 : Int) (s1 : ByteArray) => fun (s2 : ByteArray) (l3 : Sl) => fun (l4 : Sl) (n5 : Int) => fun (s6 : ByteArray) (s7 : ByteArray) => fun (l8 : Sl) (l9 : Sl) => newG (Obj.cells #[(.int .i64 n0), (.string s1), (.string s2), (.slice l3.a l3.n l3.c), (.slice l4.a l4.n l4.c)] 25 (Prod.mk 0 0))
 (fun (m10 : Nat) => newG (Obj.cells #[(.int .i64 n5), (.string s6), (.string s7), (.slice l8.a l8.n l8.c), (.slice l9.a l9.n l9.c)] 25 (Prod.mk 0 0))
 (fun (m11 : Nat) => joinG [(.one .bool)]
 (fun k12 => drewG
 (ldG (.int .i64) ⟨m10, 0, none⟩
 (fun (n13 : Int) => ldG .str ⟨m10, 1, none⟩
 (fun (s14 : ByteArray) => ldG .str ⟨m10, 2, none⟩
 (fun (s15 : ByteArray) => ldG .slice ⟨m10, 3, none⟩
 (fun (l16 : Sl) => ldG .slice ⟨m10, 4, none⟩
 (fun (l17 : Sl) => callG Tryz.prog 36 #[(.agg #[(.int .i64 n13), (.string s14), (.string s15), (.slice l16.a l16.n l16.c), (.slice l17.a l17.n l17.c)])] [(.one (.int .i64))]
 (fun (n18 : Int) => iteG (n18 == (0 : Int))
 (ldG (.int .i64) ⟨m11, 0, none⟩
 (fun (n19 : Int) => ldG .str ⟨m11, 1, none⟩
 (fun (s20 : ByteArray) => ldG .str ⟨m11, 2, none⟩
 (fun (s21 : ByteArray) => ldG .slice ⟨m11, 3, none⟩
 (fun (l22 : Sl) => ldG .slice ⟨m11, 4, none⟩
 (fun (l23 : Sl) => callG Tryz.prog 36 #[(.agg #[(.int .i64 n19), (.string s20), (.string s21), (.slice l22.a l22.n l22.c), (.slice l23.a l23.n l23.c)])] [(.one (.int .i64))]
 (fun (n24 : Int) => keepG [(Prod.mk ⟨m10, 0, none⟩ [(.int .i64 n13), (.string s14), (.string s15), (.slice l16.a l16.n l16.c), (.slice l17.a l17.n l17.c)])]
 (iteG (n24 == (0 : Int))
 (ldG (.int .i64) ⟨m10, 0, none⟩
 (fun (n25 : Int) => ldG .str ⟨m10, 1, none⟩
 (fun (s26 : ByteArray) => ldG .str ⟨m10, 2, none⟩
 (fun (s27 : ByteArray) => ldG .slice ⟨m10, 3, none⟩
 (fun (l28 : Sl) => ldG .slice ⟨m10, 4, none⟩
 (fun (l29 : Sl) => ldG (.int .i64) ⟨m11, 0, none⟩
 (fun (n30 : Int) => ldG .str ⟨m11, 1, none⟩
 (fun (s31 : ByteArray) => ldG .str ⟨m11, 2, none⟩
 (fun (s32 : ByteArray) => ldG .slice ⟨m11, 3, none⟩
 (fun (l33 : Sl) => ldG .slice ⟨m11, 4, none⟩
 (fun (l34 : Sl) => callG Tryz.prog 40 #[(.agg #[(.int .i64 n25), (.string s26), (.string s27), (.slice l28.a l28.n l28.c), (.slice l29.a l29.n l29.c)])] [(VT.agg [(.int .i64), CT.str, CT.str, CT.slice, CT.slice])]
 (fun (n35 : Int) (s36 : ByteArray) => fun (s37 : ByteArray) (l38 : Sl) (l39 : Sl) => keepG [(Prod.mk ⟨m11, 0, none⟩ [(.int .i64 n30), (.string s31), (.string s32), (.slice l33.a l33.n l33.c), (.slice l34.a l34.n l34.c)]), (Prod.mk ⟨m11, 0, none⟩ [(.int .i64 n19), (.string s20), (.string s21), (.slice l22.a l22.n l22.c), (.slice l23.a l23.n l23.c)]), (Prod.mk ⟨m10, 0, none⟩ [(.int .i64 n13), (.string s14), (.string s15), (.slice l16.a l16.n l16.c), (.slice l17.a l17.n l17.c)])]
 (callG Tryz.prog 40 #[(.agg #[(.int .i64 n30), (.string s31), (.string s32), (.slice l33.a l33.n l33.c), (.slice l34.a l34.n l34.c)])] [(VT.agg [(.int .i64), CT.str, CT.str, CT.slice, CT.slice])]
 (fun (n40 : Int) (s41 : ByteArray) => fun (s42 : ByteArray) (l43 : Sl) (l44 : Sl) => keepG [(Prod.mk ⟨m11, 0, none⟩ [(.int .i64 n19), (.string s20), (.string s21), (.slice l22.a l22.n l22.c), (.slice l23.a l23.n l23.c)]), (Prod.mk ⟨m10, 0, none⟩ [(.int .i64 n13), (.string s14), (.string s15), (.slice l16.a l16.n l16.c), (.slice l17.a l17.n l17.c)])]
 (callG Tryz.prog 39 #[(.agg #[(.int .i64 n35), (.string s36), (.string s37), (.slice l38.a l38.n l38.c), (.slice l39.a l39.n l39.c)]), (.agg #[(.int .i64 n40), (.string s41), (.string s42), (.slice l43.a l43.n l43.c), (.slice l44.a l44.n l44.c)])] [(.one .bool)]
 (fun (b45 : Bool) => keepG [(Prod.mk ⟨m11, 0, none⟩ [(.int .i64 n19), (.string s20), (.string s21), (.slice l22.a l22.n l22.c), (.slice l23.a l23.n l23.c)]), (Prod.mk ⟨m10, 0, none⟩ [(.int .i64 n13), (.string s14), (.string s15), (.slice l16.a l16.n l16.c), (.slice l17.a l17.n l17.c)])]
 (k12 b45)))))))))))))))))
 (k12 false)))))))))
 (k12 false)))))))))
 (fun (b46 : Bool) => retG (.bool b46))))
theorem e21 : denF Tryz.prog (GA Tryz.prog) Tryz.f21 [(.agg [(.int .i64), .str, .str, .slice, .slice]), (.agg [(.int .i64), .str, .str, .slice, .slice])] (.seq .leaf (.seq (.r (sl Tryz.prog [(4, 4)])) .leaf)) = t21 := by kernel_rfl
theorem c21 (x0 : Int) (x1 : ByteArray) (x2 : ByteArray) (x3 : Sl) (x4 : Sl) (x5 : Int) (x6 : ByteArray) (x7 : ByteArray) (x8 : Sl) (x9 : Sl) {R : Ending → World → Prop} {w : World} (h : t21 x0 x1 x2 x3 x4 x5 x6 x7 x8 x9 R w) : Calls Tryz.prog 21 #[.agg #[.int .i64 x0, .string x1, .string x2, .slice x3.a x3.n x3.c, .slice x4.a x4.n x4.c], .agg #[.int .i64 x5, .string x6, .string x7, .slice x8.a x8.n x8.c, .slice x9.a x9.n x9.c]] w R :=
  lift mixed Tryz.func21 e21 rfl ((x0, x1, x2, x3, x4, ()), (x5, x6, x7, x8, x9, ()), ()) R w h
def t22 : Int → ByteArray → ByteArray → Sl → Sl → Int → ByteArray → ByteArray → Sl → Sl → G :=
 fun (n0 : Int) (s1 : ByteArray) => fun (s2 : ByteArray) (l3 : Sl) => fun (l4 : Sl) (n5 : Int) => fun (s6 : ByteArray) (s7 : ByteArray) => fun (l8 : Sl) (l9 : Sl) => newG (Obj.cells #[(.int .i64 n0), (.string s1), (.string s2), (.slice l3.a l3.n l3.c), (.slice l4.a l4.n l4.c)] 25 (Prod.mk 0 0))
 (fun (m10 : Nat) => newG (Obj.cells #[(.int .i64 n5), (.string s6), (.string s7), (.slice l8.a l8.n l8.c), (.slice l9.a l9.n l9.c)] 25 (Prod.mk 0 0))
 (fun (m11 : Nat) => joinG [(.one .bool)]
 (fun k12 => drewG
 (ldG (.int .i64) ⟨m10, 0, none⟩
 (fun (n13 : Int) => ldG .str ⟨m10, 1, none⟩
 (fun (s14 : ByteArray) => ldG .str ⟨m10, 2, none⟩
 (fun (s15 : ByteArray) => ldG .slice ⟨m10, 3, none⟩
 (fun (l16 : Sl) => ldG .slice ⟨m10, 4, none⟩
 (fun (l17 : Sl) => ldG (.int .i64) ⟨m11, 0, none⟩
 (fun (n18 : Int) => ldG .str ⟨m11, 1, none⟩
 (fun (s19 : ByteArray) => ldG .str ⟨m11, 2, none⟩
 (fun (s20 : ByteArray) => ldG .slice ⟨m11, 3, none⟩
 (fun (l21 : Sl) => ldG .slice ⟨m11, 4, none⟩
 (fun (l22 : Sl) => callG Tryz.prog 41 #[(.agg #[(.int .i64 n13), (.string s14), (.string s15), (.slice l16.a l16.n l16.c), (.slice l17.a l17.n l17.c)]), (.agg #[(.int .i64 n18), (.string s19), (.string s20), (.slice l21.a l21.n l21.c), (.slice l22.a l22.n l22.c)])] [(.one .bool)]
 (fun (b23 : Bool) => iteG b23
 (ldG (.int .i64) ⟨m10, 0, none⟩
 (fun (n24 : Int) => ldG .str ⟨m10, 1, none⟩
 (fun (s25 : ByteArray) => ldG .str ⟨m10, 2, none⟩
 (fun (s26 : ByteArray) => ldG .slice ⟨m10, 3, none⟩
 (fun (l27 : Sl) => ldG .slice ⟨m10, 4, none⟩
 (fun (l28 : Sl) => ldG (.int .i64) ⟨m11, 0, none⟩
 (fun (n29 : Int) => ldG .str ⟨m11, 1, none⟩
 (fun (s30 : ByteArray) => ldG .str ⟨m11, 2, none⟩
 (fun (s31 : ByteArray) => ldG .slice ⟨m11, 3, none⟩
 (fun (l32 : Sl) => ldG .slice ⟨m11, 4, none⟩
 (fun (l33 : Sl) => callG Tryz.prog 42 #[] [(.one .ptr)]
 (fun (p34 : Option Addr) => keepG [(Prod.mk ⟨m11, 0, none⟩ [(.int .i64 n29), (.string s30), (.string s31), (.slice l32.a l32.n l32.c), (.slice l33.a l33.n l33.c)]), (Prod.mk ⟨m10, 0, none⟩ [(.int .i64 n24), (.string s25), (.string s26), (.slice l27.a l27.n l27.c), (.slice l28.a l28.n l28.c)]), (Prod.mk ⟨m11, 0, none⟩ [(.int .i64 n18), (.string s19), (.string s20), (.slice l21.a l21.n l21.c), (.slice l22.a l22.n l22.c)]), (Prod.mk ⟨m10, 0, none⟩ [(.int .i64 n13), (.string s14), (.string s15), (.slice l16.a l16.n l16.c), (.slice l17.a l17.n l17.c)])]
 (callG Tryz.prog 43 #[(.pointer p34), (.agg #[(.int .i64 n24), (.string s25), (.string s26), (.slice l27.a l27.n l27.c), (.slice l28.a l28.n l28.c)]), (.agg #[(.int .i64 n29), (.string s30), (.string s31), (.slice l32.a l32.n l32.c), (.slice l33.a l33.n l33.c)])] [(.one .bool)]
 (fun (b35 : Bool) => keepG [(Prod.mk ⟨m11, 0, none⟩ [(.int .i64 n18), (.string s19), (.string s20), (.slice l21.a l21.n l21.c), (.slice l22.a l22.n l22.c)]), (Prod.mk ⟨m10, 0, none⟩ [(.int .i64 n13), (.string s14), (.string s15), (.slice l16.a l16.n l16.c), (.slice l17.a l17.n l17.c)])]
 (k12 b35)))))))))))))))
 (k12 false))))))))))))))
 (fun (b36 : Bool) => retG (.bool b36))))
theorem e22 : denF Tryz.prog (GA Tryz.prog) Tryz.f22 [(.agg [(.int .i64), .str, .str, .slice, .slice]), (.agg [(.int .i64), .str, .str, .slice, .slice])] (.seq .leaf (.seq (.r (sl Tryz.prog [(4, 4)])) .leaf)) = t22 := by kernel_rfl
theorem c22 (x0 : Int) (x1 : ByteArray) (x2 : ByteArray) (x3 : Sl) (x4 : Sl) (x5 : Int) (x6 : ByteArray) (x7 : ByteArray) (x8 : Sl) (x9 : Sl) {R : Ending → World → Prop} {w : World} (h : t22 x0 x1 x2 x3 x4 x5 x6 x7 x8 x9 R w) : Calls Tryz.prog 22 #[.agg #[.int .i64 x0, .string x1, .string x2, .slice x3.a x3.n x3.c, .slice x4.a x4.n x4.c], .agg #[.int .i64 x5, .string x6, .string x7, .slice x8.a x8.n x8.c, .slice x9.a x9.n x9.c]] w R :=
  lift mixed Tryz.func22 e22 rfl ((x0, x1, x2, x3, x4, ()), (x5, x6, x7, x8, x9, ()), ()) R w h
def t36 : Int → ByteArray → ByteArray → Sl → Sl → G :=
 fun (n0 : Int) (s1 : ByteArray) => fun (s2 : ByteArray) (l3 : Sl) (l4 : Sl) => newG (Obj.cells #[(.int .i64 n0), (.string s1), (.string s2), (.slice l3.a l3.n l3.c), (.slice l4.a l4.n l4.c)] 25 (Prod.mk 0 0))
 (fun (m5 : Nat) => ldG (.int .i64) ⟨m5, 0, none⟩
 (fun (n6 : Int) => ldG .str ⟨m5, 1, none⟩
 (fun (s7 : ByteArray) => ldG .str ⟨m5, 2, none⟩
 (fun (s8 : ByteArray) => ldG .slice ⟨m5, 3, none⟩
 (fun (l9 : Sl) => ldG .slice ⟨m5, 4, none⟩
 (fun (l10 : Sl) => callG Tryz.prog 60 #[(.agg #[(.int .i64 n6), (.string s7), (.string s8), (.slice l9.a l9.n l9.c), (.slice l10.a l10.n l10.c)])] [(.one (.int .i64)), (.one (.int .i64)), (.one .bool)]
 (fun (_ : Int) (n12 : Int) (b13 : Bool) => joinG []
 (fun k14 => iteG (!b13)
 (retG (.int .i64 (3 : Int)))
 (iteG (Decidable.decide (n12 > (40 : Int)))
 (retG (.int .i64 (91 : Int)))
 (ldG (.int .i64) ⟨m5, 0, none⟩
 (fun (n15 : Int) => ldG .str ⟨m5, 1, none⟩
 (fun (s16 : ByteArray) => ldG .str ⟨m5, 2, none⟩
 (fun (s17 : ByteArray) => ldG .slice ⟨m5, 3, none⟩
 (fun (l18 : Sl) => ldG .slice ⟨m5, 4, none⟩
 (fun (l19 : Sl) => callG Tryz.prog 61 #[(.agg #[(.int .i64 n15), (.string s16), (.string s17), (.slice l18.a l18.n l18.c), (.slice l19.a l19.n l19.c)]), (.func (Fn.func 62) #[] #[])] [(.one .bool)]
 (fun (b20 : Bool) => iteG (!b20)
 (retG (.int .i64 (70 : Int)))
 (k14))))))))))
 (retG (.int .i64 (0 : Int))))))))))
theorem e36 : denF Tryz.prog (GA Tryz.prog) Tryz.f36 [(.agg [(.int .i64), .str, .str, .slice, .slice])] (.seq .leaf (.seq .leaf (.seq (.block (sl Tryz.prog []) .leaf) .leaf))) = t36 := by kernel_rfl
theorem c36 (x0 : Int) (x1 : ByteArray) (x2 : ByteArray) (x3 : Sl) (x4 : Sl) {R : Ending → World → Prop} {w : World} (h : t36 x0 x1 x2 x3 x4 R w) : Calls Tryz.prog 36 #[.agg #[.int .i64 x0, .string x1, .string x2, .slice x3.a x3.n x3.c, .slice x4.a x4.n x4.c]] w R :=
  lift mixed Tryz.func36 e36 rfl ((x0, x1, x2, x3, x4, ()), ()) R w h
def t37 : Int → ByteArray → ByteArray → Sl → Sl → Int → ByteArray → ByteArray → Sl → Sl → G :=
 fun (n0 : Int) (s1 : ByteArray) => fun (s2 : ByteArray) (l3 : Sl) => fun (l4 : Sl) (n5 : Int) => fun (s6 : ByteArray) (s7 : ByteArray) => fun (l8 : Sl) (l9 : Sl) => newG (Obj.cells #[(.int .i64 n0), (.string s1), (.string s2), (.slice l3.a l3.n l3.c), (.slice l4.a l4.n l4.c)] 25 (Prod.mk 0 0))
 (fun (m10 : Nat) => newG (Obj.cells #[(.int .i64 n5), (.string s6), (.string s7), (.slice l8.a l8.n l8.c), (.slice l9.a l9.n l9.c)] 25 (Prod.mk 0 0))
 (fun (m11 : Nat) => ldG (.int .i64) ⟨m10, 0, none⟩
 (fun (n12 : Int) => ldG (.int .i64) ⟨m11, 0, none⟩
 (fun (n13 : Int) => iteG (n12 != n13)
 (retG (.bool false))
 (ldG (.int .i64) ⟨m10, 0, none⟩
 (fun (n14 : Int) => joinG []
 (fun k15 => joinG [(.one .bool)]
 (fun k16 => iteG (n14 == (9 : Int))
 (k16 (n14 == (9 : Int)))
 (k16 (n14 == (10 : Int))))
 (fun (b17 : Bool) => iteG b17
 (joinG [(.one .bool)]
 (fun k18 => ldG .str ⟨m10, 1, none⟩
 (fun (s19 : ByteArray) => ldG .str ⟨m11, 1, none⟩
 (fun (s20 : ByteArray) => iteG (ByteArray.toList s19 == ByteArray.toList s20)
 (ldG .str ⟨m10, 2, none⟩
 (fun (s21 : ByteArray) => ldG .str ⟨m11, 2, none⟩
 (fun (s22 : ByteArray) => k18 (ByteArray.toList s21 == ByteArray.toList s22))))
 (k18 false))))
 (fun (b23 : Bool) => retG (.bool b23)))
 (iteG (n14 == (5 : Int))
 (drewG
 (ldG .slice ⟨m10, 4, none⟩
 (fun (l24 : Sl) => idxG l24.a l24.n (0 : Int) 5
 (fun (a25 : Addr) => ldG (.int .i64) (Addr.add a25 0)
 (fun (n26 : Int) => ldG .str (Addr.add a25 1)
 (fun (s27 : ByteArray) => ldG .str (Addr.add a25 2)
 (fun (s28 : ByteArray) => ldG .slice (Addr.add a25 3)
 (fun (l29 : Sl) => ldG .slice (Addr.add a25 4)
 (fun (l30 : Sl) => ldG .slice ⟨m11, 4, none⟩
 (fun (l31 : Sl) => idxG l31.a l31.n (0 : Int) 5
 (fun (a32 : Addr) => ldG (.int .i64) (Addr.add a32 0)
 (fun (n33 : Int) => ldG .str (Addr.add a32 1)
 (fun (s34 : ByteArray) => ldG .str (Addr.add a32 2)
 (fun (s35 : ByteArray) => ldG .slice (Addr.add a32 3)
 (fun (l36 : Sl) => ldG .slice (Addr.add a32 4)
 (fun (l37 : Sl) => callG Tryz.prog 37 #[(.agg #[(.int .i64 n26), (.string s27), (.string s28), (.slice l29.a l29.n l29.c), (.slice l30.a l30.n l30.c)]), (.agg #[(.int .i64 n33), (.string s34), (.string s35), (.slice l36.a l36.n l36.c), (.slice l37.a l37.n l37.c)])] [(.one .bool)]
 (fun (b38 : Bool) => keepG [(Prod.mk ⟨m11, 4, none⟩ [(.slice l31.a l31.n l31.c)]), (Prod.mk ⟨m10, 4, none⟩ [(.slice l24.a l24.n l24.c)])]
 (retG (.bool b38)))))))))))))))))))
 (iteG (n14 == (6 : Int))
 (ldG (.int .i64) ⟨m11, 0, none⟩
 (fun (n39 : Int) => ldG .str ⟨m11, 1, none⟩
 (fun (s40 : ByteArray) => ldG .str ⟨m11, 2, none⟩
 (fun (s41 : ByteArray) => ldG .slice ⟨m11, 3, none⟩
 (fun (l42 : Sl) => ldG .slice ⟨m11, 4, none⟩
 (fun (l43 : Sl) => ldG (.int .i64) ⟨m10, 0, none⟩
 (fun (n44 : Int) => ldG .str ⟨m10, 1, none⟩
 (fun (s45 : ByteArray) => ldG .str ⟨m10, 2, none⟩
 (fun (s46 : ByteArray) => ldG .slice ⟨m10, 3, none⟩
 (fun (l47 : Sl) => ldG .slice ⟨m10, 4, none⟩
 (fun (l48 : Sl) => callG Tryz.prog 63 #[(.agg #[(.int .i64 n39), (.string s40), (.string s41), (.slice l42.a l42.n l42.c), (.slice l43.a l43.n l43.c)]), (.agg #[(.int .i64 n44), (.string s45), (.string s46), (.slice l47.a l47.n l47.c), (.slice l48.a l48.n l48.c)]), (.func (Fn.func 64) #[] #[])] [(.one .bool)]
 (fun (b49 : Bool) => retG (.bool b49)))))))))))))
 (iteG (n14 == (7 : Int))
 (ldG (.int .i64) ⟨m10, 0, none⟩
 (fun (n50 : Int) => ldG .str ⟨m10, 1, none⟩
 (fun (s51 : ByteArray) => ldG .str ⟨m10, 2, none⟩
 (fun (s52 : ByteArray) => ldG .slice ⟨m10, 3, none⟩
 (fun (l53 : Sl) => ldG .slice ⟨m10, 4, none⟩
 (fun (l54 : Sl) => ldG (.int .i64) ⟨m11, 0, none⟩
 (fun (n55 : Int) => ldG .str ⟨m11, 1, none⟩
 (fun (s56 : ByteArray) => ldG .str ⟨m11, 2, none⟩
 (fun (s57 : ByteArray) => ldG .slice ⟨m11, 3, none⟩
 (fun (l58 : Sl) => ldG .slice ⟨m11, 4, none⟩
 (fun (l59 : Sl) => callG Tryz.prog 63 #[(.agg #[(.int .i64 n50), (.string s51), (.string s52), (.slice l53.a l53.n l53.c), (.slice l54.a l54.n l54.c)]), (.agg #[(.int .i64 n55), (.string s56), (.string s57), (.slice l58.a l58.n l58.c), (.slice l59.a l59.n l59.c)]), (.func (Fn.func 37) #[] #[])] [(.one .bool)]
 (fun (b60 : Bool) => retG (.bool b60)))))))))))))
 (joinG []
 (fun k61 => iteG (n14 == (8 : Int))
 (ldG .slice ⟨m10, 4, none⟩
 (fun (l62 : Sl) => joinG [(.one .bool)]
 (fun k63 => drewG
 (ldG .slice ⟨m11, 4, none⟩
 (fun (l64 : Sl) => iteG ((↑l64.n : Int) != IntKind.wrap IntKind.i64 (IntKind.wrap IntKind.i64 ((↑l62.n : Int) - (1 : Int)) + (1 : Int)))
 (k63 true)
 (ldG .slice ⟨m10, 4, none⟩
 (fun (l65 : Sl) => idxG l65.a l65.n (IntKind.wrap IntKind.i64 ((↑l62.n : Int) - (1 : Int))) 5
 (fun (a66 : Addr) => ldG (.int .i64) (Addr.add a66 0)
 (fun (n67 : Int) => ldG .str (Addr.add a66 1)
 (fun (s68 : ByteArray) => ldG .str (Addr.add a66 2)
 (fun (s69 : ByteArray) => ldG .slice (Addr.add a66 3)
 (fun (l70 : Sl) => ldG .slice (Addr.add a66 4)
 (fun (l71 : Sl) => ldG .slice ⟨m11, 4, none⟩
 (fun (l72 : Sl) => idxG l72.a l72.n (IntKind.wrap IntKind.i64 ((↑l62.n : Int) - (1 : Int))) 5
 (fun (a73 : Addr) => ldG (.int .i64) (Addr.add a73 0)
 (fun (n74 : Int) => ldG .str (Addr.add a73 1)
 (fun (s75 : ByteArray) => ldG .str (Addr.add a73 2)
 (fun (s76 : ByteArray) => ldG .slice (Addr.add a73 3)
 (fun (l77 : Sl) => ldG .slice (Addr.add a73 4)
 (fun (l78 : Sl) => callG Tryz.prog 37 #[(.agg #[(.int .i64 n67), (.string s68), (.string s69), (.slice l70.a l70.n l70.c), (.slice l71.a l71.n l71.c)]), (.agg #[(.int .i64 n74), (.string s75), (.string s76), (.slice l77.a l77.n l77.c), (.slice l78.a l78.n l78.c)])] [(.one .bool)]
 (fun (b79 : Bool) => keepG [(Prod.mk ⟨m11, 4, none⟩ [(.slice l72.a l72.n l72.c)]), (Prod.mk ⟨m10, 4, none⟩ [(.slice l65.a l65.n l65.c)]), (Prod.mk ⟨m11, 4, none⟩ [(.slice l64.a l64.n l64.c)])]
 (k63 (!b79)))))))))))))))))))))
 (fun (b80 : Bool) => iteG b80
 (retG (.bool false))
 (joinG []
 (fun k81 => loopG [(.one (.int .i64))]
 (fun k82 => fun (n83 : Int) => iteG (Decidable.decide (n83 < IntKind.wrap IntKind.i64 ((↑l62.n : Int) - (1 : Int))))
 (joinG []
 (fun k84 => drewG
 (ldG .slice ⟨m11, 4, none⟩
 (fun (l85 : Sl) => idxG l85.a l85.n n83 5
 (fun (a86 : Addr) => ldG (.int .i64) (Addr.add a86 0)
 (fun (n87 : Int) => ldG .str (Addr.add a86 1)
 (fun (s88 : ByteArray) => ldG .str (Addr.add a86 2)
 (fun (s89 : ByteArray) => ldG .slice (Addr.add a86 3)
 (fun (l90 : Sl) => ldG .slice (Addr.add a86 4)
 (fun (l91 : Sl) => ldG .slice ⟨m10, 4, none⟩
 (fun (l92 : Sl) => idxG l92.a l92.n n83 5
 (fun (a93 : Addr) => ldG (.int .i64) (Addr.add a93 0)
 (fun (n94 : Int) => ldG .str (Addr.add a93 1)
 (fun (s95 : ByteArray) => ldG .str (Addr.add a93 2)
 (fun (s96 : ByteArray) => ldG .slice (Addr.add a93 3)
 (fun (l97 : Sl) => ldG .slice (Addr.add a93 4)
 (fun (l98 : Sl) => callG Tryz.prog 37 #[(.agg #[(.int .i64 n87), (.string s88), (.string s89), (.slice l90.a l90.n l90.c), (.slice l91.a l91.n l91.c)]), (.agg #[(.int .i64 n94), (.string s95), (.string s96), (.slice l97.a l97.n l97.c), (.slice l98.a l98.n l98.c)])] [(.one .bool)]
 (fun (b99 : Bool) => keepG [(Prod.mk ⟨m10, 4, none⟩ [(.slice l92.a l92.n l92.c)]), (Prod.mk ⟨m11, 4, none⟩ [(.slice l85.a l85.n l85.c)])]
 (iteG (!b99)
 (retG (.bool false))
 (k84)))))))))))))))))))
 (k82 (IntKind.wrap IntKind.i64 (n83 + (1 : Int)))))
 (k81)) (0 : Int))
 (k61)))))
 (k61))
 (k15)))))))
 (retG (.bool true))))))))
theorem e37 : denF Tryz.prog (GA Tryz.prog) Tryz.f37 [(.agg [(.int .i64), .str, .str, .slice, .slice]), (.agg [(.int .i64), .str, .str, .slice, .slice])] (.seq .leaf (.seq .leaf (.seq (.seq .leaf (.block (sl Tryz.prog []) (.seq (.seq .leaf (.condj (sl Tryz.prog [(14, 4)]) .leaf .leaf)) (.cond (.seq (.r (sl Tryz.prog [(4, 4)])) .leaf) (.seq .leaf (.cond .leaf (.seq .leaf (.cond .leaf (.seq .leaf (.cond .leaf (.seq .leaf (.condj (sl Tryz.prog []) (.seq .leaf (.seq (.seq (.r (sl Tryz.prog [(75, 4)])) .leaf) (.seq .leaf (.block (sl Tryz.prog []) (.loop (sl Tryz.prog [(77, 3)]) (.seq .leaf (.seq .leaf (.seq (.block (sl Tryz.prog []) .leaf) .leaf)))))))) .leaf)))))))))))) .leaf))) = t37 := by kernel_rfl
theorem c37 (x0 : Int) (x1 : ByteArray) (x2 : ByteArray) (x3 : Sl) (x4 : Sl) (x5 : Int) (x6 : ByteArray) (x7 : ByteArray) (x8 : Sl) (x9 : Sl) {R : Ending → World → Prop} {w : World} (h : t37 x0 x1 x2 x3 x4 x5 x6 x7 x8 x9 R w) : Calls Tryz.prog 37 #[.agg #[.int .i64 x0, .string x1, .string x2, .slice x3.a x3.n x3.c, .slice x4.a x4.n x4.c], .agg #[.int .i64 x5, .string x6, .string x7, .slice x8.a x8.n x8.c, .slice x9.a x9.n x9.c]] w R :=
  lift mixed Tryz.func37 e37 rfl ((x0, x1, x2, x3, x4, ()), (x5, x6, x7, x8, x9, ()), ()) R w h
def t39 : Int → ByteArray → ByteArray → Sl → Sl → Int → ByteArray → ByteArray → Sl → Sl → G :=
 fun (n0 : Int) (s1 : ByteArray) => fun (s2 : ByteArray) (l3 : Sl) => fun (l4 : Sl) (n5 : Int) => fun (s6 : ByteArray) (s7 : ByteArray) => fun (l8 : Sl) (l9 : Sl) => newG (Obj.cells #[(.int .i64 n0), (.string s1), (.string s2), (.slice l3.a l3.n l3.c), (.slice l4.a l4.n l4.c)] 25 (Prod.mk 0 0))
 (fun (m10 : Nat) => newG (Obj.cells #[(.int .i64 n5), (.string s6), (.string s7), (.slice l8.a l8.n l8.c), (.slice l9.a l9.n l9.c)] 25 (Prod.mk 0 0))
 (fun (m11 : Nat) => joinG [(.one .bool)]
 (fun k12 => ldG (.int .i64) ⟨m10, 0, none⟩
 (fun (n13 : Int) => ldG (.int .i64) ⟨m11, 0, none⟩
 (fun (n14 : Int) => iteG (n13 == n14)
 (ldG .str ⟨m10, 1, none⟩
 (fun (s15 : ByteArray) => ldG .str ⟨m11, 1, none⟩
 (fun (s16 : ByteArray) => iteG (ByteArray.toList s15 == ByteArray.toList s16)
 (ldG .str ⟨m10, 2, none⟩
 (fun (s17 : ByteArray) => ldG .str ⟨m11, 2, none⟩
 (fun (s18 : ByteArray) => iteG (ByteArray.toList s17 == ByteArray.toList s18)
 (ldG .slice ⟨m10, 3, none⟩
 (fun (l19 : Sl) => ldG .slice ⟨m11, 3, none⟩
 (fun (l20 : Sl) => callG Tryz.prog 67 #[(.slice l19.a l19.n l19.c), (.slice l20.a l20.n l20.c)] [(.one .bool)]
 (fun (b21 : Bool) => iteG b21
 (ldG .slice ⟨m10, 4, none⟩
 (fun (l22 : Sl) => ldG .slice ⟨m11, 4, none⟩
 (fun (l23 : Sl) => callG Tryz.prog 68 #[(.slice l22.a l22.n l22.c), (.slice l23.a l23.n l23.c), (.func (Fn.func 39) #[] #[])] [(.one .bool)]
 (fun (b24 : Bool) => k12 b24))))
 (k12 false)))))
 (k12 false))))
 (k12 false))))
 (k12 false))))
 (fun (b25 : Bool) => retG (.bool b25))))
theorem e39 : denF Tryz.prog (GA Tryz.prog) Tryz.f39 [(.agg [(.int .i64), .str, .str, .slice, .slice]), (.agg [(.int .i64), .str, .str, .slice, .slice])] (.seq .leaf (.seq (.r (sl Tryz.prog [(4, 4)])) .leaf)) = t39 := by kernel_rfl
theorem c39 (x0 : Int) (x1 : ByteArray) (x2 : ByteArray) (x3 : Sl) (x4 : Sl) (x5 : Int) (x6 : ByteArray) (x7 : ByteArray) (x8 : Sl) (x9 : Sl) {R : Ending → World → Prop} {w : World} (h : t39 x0 x1 x2 x3 x4 x5 x6 x7 x8 x9 R w) : Calls Tryz.prog 39 #[.agg #[.int .i64 x0, .string x1, .string x2, .slice x3.a x3.n x3.c, .slice x4.a x4.n x4.c], .agg #[.int .i64 x5, .string x6, .string x7, .slice x8.a x8.n x8.c, .slice x9.a x9.n x9.c]] w R :=
  lift mixed Tryz.func39 e39 rfl ((x0, x1, x2, x3, x4, ()), (x5, x6, x7, x8, x9, ()), ()) R w h
def t40 : Int → ByteArray → ByteArray → Sl → Sl → G :=
 fun (n0 : Int) (s1 : ByteArray) => fun (s2 : ByteArray) (l3 : Sl) (l4 : Sl) => newG (Obj.cells #[(.int .i64 n0), (.string s1), (.string s2), (.slice l3.a l3.n l3.c), (.slice l4.a l4.n l4.c)] 25 (Prod.mk 0 0))
 (fun (m5 : Nat) => newG (Obj.cells #[(.int .i64 (0 : Int)), (.string (ByteArray.mk #[])), (.string (ByteArray.mk #[])), (.slice none 0 0), (.slice none 0 0)] 25 (Prod.mk 0 0))
 (fun (m6 : Nat) => ldG (.int .i64) ⟨m5, 0, none⟩
 (fun (n7 : Int) => ldG .str ⟨m5, 1, none⟩
 (fun (s8 : ByteArray) => ldG .str ⟨m5, 2, none⟩
 (fun (s9 : ByteArray) => newG (Obj.cells #[(.int .i64 (0 : Int)), (.string (ByteArray.mk #[])), (.string (ByteArray.mk #[])), (.slice none 0 0), (.slice none 0 0)] 25 (Prod.mk 0 0))
 (fun (m10 : Nat) => stG ⟨m10, 0, none⟩ (.int .i64 n7)
 (stG ⟨m10, 1, none⟩ (.string s8)
 (stG ⟨m10, 2, none⟩ (.string s9)
 (stG ⟨m10, 3, none⟩ (.slice none 0 0)
 (stG ⟨m10, 4, none⟩ (.slice none 0 0)
 (ldG .slice ⟨m5, 4, none⟩
 (fun (l11 : Sl) => opG Tryz.prog (Instr.makeSlice 39 (.int .i64 ((↑l11.n : Int))) (.int .i64 ((↑l11.n : Int)))) (.one .slice)
 (fun (l12 : Sl) => joinG []
 (fun k13 => loopG [(.one (.int .i64))]
 (fun k14 => fun (n15 : Int) => iteG (Decidable.decide (n15 < (↑l12.n : Int)))
 (joinG []
 (fun k16 => idxG l12.a l12.n n15 1
 (fun (a17 : Addr) => stG a17 (.int .i64 n15)
 (k16)))
 (k14 (IntKind.wrap IntKind.i64 (n15 + (1 : Int)))))
 (k13)) (0 : Int))
 (ldG .slice ⟨m5, 3, none⟩
 (fun (l18 : Sl) => joinG []
 (fun k19 => iteG (Decidable.decide ((↑l18.n : Int) > (0 : Int)))
 (callG Tryz.prog 69 #[(.slice l12.a l12.n l12.c), (.func (Fn.func 70) #[] #[(.pointer (some ⟨m5, 0, none⟩))])] []
 (k19))
 (k19))
 (joinG []
 (fun k20 => loopG [(.one (.int .i64))]
 (fun k21 => fun (n22 : Int) => iteG (Decidable.decide (n22 < (↑l12.n : Int)))
 (joinG []
 (fun k23 => idxG l12.a l12.n n22 1
 (fun (a24 : Addr) => ldG (.int .i64) a24
 (fun (n25 : Int) => ldG .slice ⟨m5, 3, none⟩
 (fun (l26 : Sl) => joinG []
 (fun k27 => iteG (Decidable.decide ((↑l26.n : Int) > (0 : Int)))
 (drewG
 (ldG .slice ⟨m10, 3, none⟩
 (fun (l28 : Sl) => ldG .slice ⟨m5, 3, none⟩
 (fun (l29 : Sl) => idxG l29.a l29.n n25 1
 (fun (a30 : Addr) => ldG .str a30
 (fun (s31 : ByteArray) => newG (Obj.cells #[(.string s31)] 9 (Prod.mk 0 0))
 (fun (m32 : Nat) => keepG [(Prod.mk ⟨m5, 3, none⟩ [(.slice l29.a l29.n l29.c)]), (Prod.mk ⟨m10, 3, none⟩ [(.slice l28.a l28.n l28.c)])]
 (opG Tryz.prog (Builtin.append_ #[22, 22] 22 #[(.slice l28.a l28.n l28.c), (.slice (some ⟨m32, 0, none⟩) 1 1)]) (.one .slice)
 (fun (l33 : Sl) => keepG [(Prod.mk ⟨m5, 3, none⟩ [(.slice l29.a l29.n l29.c)])]
 (stG ⟨m10, 3, none⟩ (.slice l33.a l33.n l33.c)
 (k27)))))))))))
 (k27))
 (drewG
 (ldG .slice ⟨m10, 4, none⟩
 (fun (l34 : Sl) => ldG .slice ⟨m5, 4, none⟩
 (fun (l35 : Sl) => idxG l35.a l35.n n25 5
 (fun (a36 : Addr) => ldG (.int .i64) (Addr.add a36 0)
 (fun (n37 : Int) => ldG .str (Addr.add a36 1)
 (fun (s38 : ByteArray) => ldG .str (Addr.add a36 2)
 (fun (s39 : ByteArray) => ldG .slice (Addr.add a36 3)
 (fun (l40 : Sl) => ldG .slice (Addr.add a36 4)
 (fun (l41 : Sl) => callG Tryz.prog 40 #[(.agg #[(.int .i64 n37), (.string s38), (.string s39), (.slice l40.a l40.n l40.c), (.slice l41.a l41.n l41.c)])] [(VT.agg [(.int .i64), CT.str, CT.str, CT.slice, CT.slice])]
 (fun (n42 : Int) (s43 : ByteArray) => fun (s44 : ByteArray) (l45 : Sl) (l46 : Sl) => keepG [(Prod.mk ⟨m5, 4, none⟩ [(.slice l35.a l35.n l35.c)]), (Prod.mk ⟨m10, 4, none⟩ [(.slice l34.a l34.n l34.c)])]
 (newG (Obj.cells #[(.int .i64 n42), (.string s43), (.string s44), (.slice l45.a l45.n l45.c), (.slice l46.a l46.n l46.c)] 25 (Prod.mk 0 0))
 (fun (m47 : Nat) => keepG [(Prod.mk ⟨m5, 4, none⟩ [(.slice l35.a l35.n l35.c)]), (Prod.mk ⟨m10, 4, none⟩ [(.slice l34.a l34.n l34.c)])]
 (opG Tryz.prog (Builtin.append_ #[23, 23] 23 #[(.slice l34.a l34.n l34.c), (.slice (some ⟨m47, 0, none⟩) 1 1)]) (.one .slice)
 (fun (l48 : Sl) => keepG [(Prod.mk ⟨m5, 4, none⟩ [(.slice l35.a l35.n l35.c)])]
 (stG ⟨m10, 4, none⟩ (.slice l48.a l48.n l48.c)
 (k23)))))))))))))))))))))
 (k21 (IntKind.wrap IntKind.i64 (n22 + (1 : Int)))))
 (k20)) (0 : Int))
 (ldG (.int .i64) ⟨m10, 0, none⟩
 (fun (n49 : Int) => ldG .str ⟨m10, 1, none⟩
 (fun (s50 : ByteArray) => ldG .str ⟨m10, 2, none⟩
 (fun (s51 : ByteArray) => ldG .slice ⟨m10, 3, none⟩
 (fun (l52 : Sl) => ldG .slice ⟨m10, 4, none⟩
 (fun (l53 : Sl) => stG ⟨m6, 0, none⟩ (.int .i64 n49)
 (stG ⟨m6, 1, none⟩ (.string s50)
 (stG ⟨m6, 2, none⟩ (.string s51)
 (stG ⟨m6, 3, none⟩ (.slice l52.a l52.n l52.c)
 (stG ⟨m6, 4, none⟩ (.slice l53.a l53.n l53.c)
 (ldG (.int .i64) ⟨m6, 0, none⟩
 (fun (n54 : Int) => ldG .str ⟨m6, 1, none⟩
 (fun (s55 : ByteArray) => ldG .str ⟨m6, 2, none⟩
 (fun (s56 : ByteArray) => ldG .slice ⟨m6, 3, none⟩
 (fun (l57 : Sl) => ldG .slice ⟨m6, 4, none⟩
 (fun (l58 : Sl) => retG (.agg #[(.int .i64 n54), (.string s55), (.string s56), (.slice l57.a l57.n l57.c), (.slice l58.a l58.n l58.c)])))))))))))))))))))))))))))))))))
theorem e40 : denF Tryz.prog (GA Tryz.prog) Tryz.f40 [(.agg [(.int .i64), .str, .str, .slice, .slice])] (.seq .leaf (.seq .leaf (.seq .leaf (.seq (.seq .leaf (.block (sl Tryz.prog []) (.loop (sl Tryz.prog [(21, 3)]) (.seq .leaf (.seq .leaf (.seq (.block (sl Tryz.prog []) .leaf) .leaf)))))) (.seq (.seq .leaf (.condj (sl Tryz.prog []) .leaf .leaf)) (.seq (.seq .leaf (.block (sl Tryz.prog []) (.loop (sl Tryz.prog [(38, 3)]) (.seq .leaf (.seq .leaf (.seq (.block (sl Tryz.prog []) (.seq .leaf (.seq (.seq .leaf (.condj (sl Tryz.prog []) .leaf .leaf)) .leaf))) .leaf)))))) .leaf)))))) = t40 := by kernel_rfl
theorem c40 (x0 : Int) (x1 : ByteArray) (x2 : ByteArray) (x3 : Sl) (x4 : Sl) {R : Ending → World → Prop} {w : World} (h : t40 x0 x1 x2 x3 x4 R w) : Calls Tryz.prog 40 #[.agg #[.int .i64 x0, .string x1, .string x2, .slice x3.a x3.n x3.c, .slice x4.a x4.n x4.c]] w R :=
  lift mixed Tryz.func40 e40 rfl ((x0, x1, x2, x3, x4, ()), ()) R w h
def t41 : Int → ByteArray → ByteArray → Sl → Sl → Int → ByteArray → ByteArray → Sl → Sl → G :=
 fun (n0 : Int) (s1 : ByteArray) => fun (s2 : ByteArray) (l3 : Sl) => fun (l4 : Sl) (n5 : Int) => fun (s6 : ByteArray) (s7 : ByteArray) => fun (l8 : Sl) (l9 : Sl) => newG (Obj.cells #[(.int .i64 n0), (.string s1), (.string s2), (.slice l3.a l3.n l3.c), (.slice l4.a l4.n l4.c)] 25 (Prod.mk 0 0))
 (fun (m10 : Nat) => newG (Obj.cells #[(.int .i64 n5), (.string s6), (.string s7), (.slice l8.a l8.n l8.c), (.slice l9.a l9.n l9.c)] 25 (Prod.mk 0 0))
 (fun (m11 : Nat) => joinG [(.one .bool)]
 (fun k12 => ldG (.int .i64) ⟨m10, 0, none⟩
 (fun (n13 : Int) => ldG .str ⟨m10, 1, none⟩
 (fun (s14 : ByteArray) => ldG .str ⟨m10, 2, none⟩
 (fun (s15 : ByteArray) => ldG .slice ⟨m10, 3, none⟩
 (fun (l16 : Sl) => ldG .slice ⟨m10, 4, none⟩
 (fun (l17 : Sl) => callG Tryz.prog 36 #[(.agg #[(.int .i64 n13), (.string s14), (.string s15), (.slice l16.a l16.n l16.c), (.slice l17.a l17.n l17.c)])] [(.one (.int .i64))]
 (fun (n18 : Int) => iteG (n18 == (0 : Int))
 (ldG (.int .i64) ⟨m11, 0, none⟩
 (fun (n19 : Int) => ldG .str ⟨m11, 1, none⟩
 (fun (s20 : ByteArray) => ldG .str ⟨m11, 2, none⟩
 (fun (s21 : ByteArray) => ldG .slice ⟨m11, 3, none⟩
 (fun (l22 : Sl) => ldG .slice ⟨m11, 4, none⟩
 (fun (l23 : Sl) => callG Tryz.prog 36 #[(.agg #[(.int .i64 n19), (.string s20), (.string s21), (.slice l22.a l22.n l22.c), (.slice l23.a l23.n l23.c)])] [(.one (.int .i64))]
 (fun (n24 : Int) => k12 (n24 == (0 : Int)))))))))
 (k12 false))))))))
 (fun (b25 : Bool) => retG (.bool b25))))
theorem e41 : denF Tryz.prog (GA Tryz.prog) Tryz.f41 [(.agg [(.int .i64), .str, .str, .slice, .slice]), (.agg [(.int .i64), .str, .str, .slice, .slice])] (.seq .leaf (.seq (.r (sl Tryz.prog [(4, 4)])) .leaf)) = t41 := by kernel_rfl
theorem c41 (x0 : Int) (x1 : ByteArray) (x2 : ByteArray) (x3 : Sl) (x4 : Sl) (x5 : Int) (x6 : ByteArray) (x7 : ByteArray) (x8 : Sl) (x9 : Sl) {R : Ending → World → Prop} {w : World} (h : t41 x0 x1 x2 x3 x4 x5 x6 x7 x8 x9 R w) : Calls Tryz.prog 41 #[.agg #[.int .i64 x0, .string x1, .string x2, .slice x3.a x3.n x3.c, .slice x4.a x4.n x4.c], .agg #[.int .i64 x5, .string x6, .string x7, .slice x8.a x8.n x8.c, .slice x9.a x9.n x9.c]] w R :=
  lift mixed Tryz.func41 e41 rfl ((x0, x1, x2, x3, x4, ()), (x5, x6, x7, x8, x9, ()), ()) R w h
def t42 : G :=
 newG (Obj.cells #[(.func (Fn.func 72) #[] #[])] 86 (Prod.mk 0 0))
 (fun (m0 : Nat) => retG (.pointer (some ⟨m0, 0, none⟩)))
theorem e42 : denF Tryz.prog (GA Tryz.prog) Tryz.f42 [] .leaf = t42 := by kernel_rfl
theorem c42 {R : Ending → World → Prop} {w : World} (h : t42 R w) : Calls Tryz.prog 42 #[] w R :=
  lift mixed Tryz.func42 e42 rfl (()) R w h
def t43 : Option Addr → Int → ByteArray → ByteArray → Sl → Sl → Int → ByteArray → ByteArray → Sl → Sl → G :=
 fun (p0 : Option Addr) => fun (n1 : Int) (s2 : ByteArray) => fun (s3 : ByteArray) (l4 : Sl) => fun (l5 : Sl) (n6 : Int) => fun (s7 : ByteArray) (s8 : ByteArray) => fun (l9 : Sl) (l10 : Sl) => newG (Obj.cells #[(.int .i64 n1), (.string s2), (.string s3), (.slice l4.a l4.n l4.c), (.slice l5.a l5.n l5.c)] 25 (Prod.mk 0 0))
 (fun (m11 : Nat) => newG (Obj.cells #[(.int .i64 n6), (.string s7), (.string s8), (.slice l9.a l9.n l9.c), (.slice l10.a l10.n l10.c)] 25 (Prod.mk 0 0))
 (fun (m12 : Nat) => joinG []
 (fun k13 => joinG [(.one .bool)]
 (fun k14 => ldG (.int .i64) ⟨m11, 0, none⟩
 (fun (n15 : Int) => iteG (n15 == (4 : Int))
 (k14 true)
 (ldG (.int .i64) ⟨m12, 0, none⟩
 (fun (n16 : Int) => k14 (n16 == (4 : Int))))))
 (fun (b17 : Bool) => iteG b17
 (retG (.bool true))
 (joinG [(.one .bool)]
 (fun k18 => ldG (.int .i64) ⟨m11, 0, none⟩
 (fun (n19 : Int) => ldG (.int .i64) ⟨m12, 0, none⟩
 (fun (n20 : Int) => iteG (n19 != n20)
 (k18 true)
 (ldG .str ⟨m11, 1, none⟩
 (fun (s21 : ByteArray) => ldG .str ⟨m12, 1, none⟩
 (fun (s22 : ByteArray) => iteG (!ByteArray.toList s21 == ByteArray.toList s22)
 (k18 true)
 (ldG .str ⟨m11, 2, none⟩
 (fun (s23 : ByteArray) => ldG .str ⟨m12, 2, none⟩
 (fun (s24 : ByteArray) => k18 (!ByteArray.toList s23 == ByteArray.toList s24))))))))))
 (fun (b25 : Bool) => iteG b25
 (retG (.bool false))
 (joinG [(.one .bool)]
 (fun k26 => ldG (.int .i64) ⟨m11, 0, none⟩
 (fun (n27 : Int) => iteG (n27 == (6 : Int))
 (k26 true)
 (ldG (.int .i64) ⟨m11, 0, none⟩
 (fun (n28 : Int) => k26 (n28 == (7 : Int))))))
 (fun (b29 : Bool) => iteG b29
 (ldG .slice ⟨m11, 3, none⟩
 (fun (l30 : Sl) => joinG []
 (fun k31 => loopG [(.one (.int .i64))]
 (fun k32 => fun (n33 : Int) => iteG (Decidable.decide (n33 < (↑l30.n : Int)))
 (joinG []
 (fun k34 => idxG l30.a l30.n n33 1
 (fun (a35 : Addr) => ldG .str a35
 (fun (s36 : ByteArray) => ldG (.int .i64) ⟨m12, 0, none⟩
 (fun (n37 : Int) => ldG .str ⟨m12, 1, none⟩
 (fun (s38 : ByteArray) => ldG .str ⟨m12, 2, none⟩
 (fun (s39 : ByteArray) => ldG .slice ⟨m12, 3, none⟩
 (fun (l40 : Sl) => ldG .slice ⟨m12, 4, none⟩
 (fun (l41 : Sl) => callG Tryz.prog 73 #[(.agg #[(.int .i64 n37), (.string s38), (.string s39), (.slice l40.a l40.n l40.c), (.slice l41.a l41.n l41.c)]), (.string s36)] [(.one .ptr)]
 (fun (p42 : Option Addr) => joinG [(.one .bool)]
 (fun k43 => drewG
 (iteG (Option.isNone p42)
 (nnG p0
 (fun (a44 : Addr) => ldG .any (Addr.add a44 0)
 (fun (v45 : Value) => ldG (.int .i64) ⟨m11, 0, none⟩
 (fun (n46 : Int) => ldG .str ⟨m11, 1, none⟩
 (fun (s47 : ByteArray) => ldG .str ⟨m11, 2, none⟩
 (fun (s48 : ByteArray) => ldG .slice ⟨m11, 3, none⟩
 (fun (l49 : Sl) => ldG .slice ⟨m11, 4, none⟩
 (fun (l50 : Sl) => ldG (.int .i64) ⟨m12, 0, none⟩
 (fun (n51 : Int) => ldG .str ⟨m12, 1, none⟩
 (fun (s52 : ByteArray) => ldG .str ⟨m12, 2, none⟩
 (fun (s53 : ByteArray) => ldG .slice ⟨m12, 3, none⟩
 (fun (l54 : Sl) => ldG .slice ⟨m12, 4, none⟩
 (fun (l55 : Sl) => callVG Tryz.prog v45 #[(.agg #[(.int .i64 n46), (.string s47), (.string s48), (.slice l49.a l49.n l49.c), (.slice l50.a l50.n l50.c)]), (.agg #[(.int .i64 n51), (.string s52), (.string s53), (.slice l54.a l54.n l54.c), (.slice l55.a l55.n l55.c)]), (.bool true)] [(.one .bool)]
 (fun (b56 : Bool) => iteG (!b56)
 (k43 true)
 (iteG (!Option.isNone p42)
 (ldG .slice ⟨m11, 4, none⟩
 (fun (l57 : Sl) => idxG l57.a l57.n n33 5
 (fun (a58 : Addr) => ldG (.int .i64) (Addr.add a58 0)
 (fun (n59 : Int) => ldG .str (Addr.add a58 1)
 (fun (s60 : ByteArray) => ldG .str (Addr.add a58 2)
 (fun (s61 : ByteArray) => ldG .slice (Addr.add a58 3)
 (fun (l62 : Sl) => ldG .slice (Addr.add a58 4)
 (fun (l63 : Sl) => nnG p42
 (fun (a64 : Addr) => ldG (.int .i64) (Addr.add a64 0)
 (fun (n65 : Int) => ldG .str (Addr.add a64 1)
 (fun (s66 : ByteArray) => ldG .str (Addr.add a64 2)
 (fun (s67 : ByteArray) => ldG .slice (Addr.add a64 3)
 (fun (l68 : Sl) => ldG .slice (Addr.add a64 4)
 (fun (l69 : Sl) => callG Tryz.prog 43 #[(.pointer p0), (.agg #[(.int .i64 n59), (.string s60), (.string s61), (.slice l62.a l62.n l62.c), (.slice l63.a l63.n l63.c)]), (.agg #[(.int .i64 n65), (.string s66), (.string s67), (.slice l68.a l68.n l68.c), (.slice l69.a l69.n l69.c)])] [(.one .bool)]
 (fun (b70 : Bool) => keepG [(Prod.mk ⟨m11, 4, none⟩ [(.slice l57.a l57.n l57.c)]), (Prod.mk ⟨m12, 0, none⟩ [(.int .i64 n51), (.string s52), (.string s53), (.slice l54.a l54.n l54.c), (.slice l55.a l55.n l55.c)]), (Prod.mk ⟨m11, 0, none⟩ [(.int .i64 n46), (.string s47), (.string s48), (.slice l49.a l49.n l49.c), (.slice l50.a l50.n l50.c)]), (Prod.mk (Addr.add a44 0) [v45])]
 (k43 (!b70)))))))))))))))))
 (k43 false))))))))))))))))
 (iteG (!Option.isNone p42)
 (ldG .slice ⟨m11, 4, none⟩
 (fun (l71 : Sl) => idxG l71.a l71.n n33 5
 (fun (a72 : Addr) => ldG (.int .i64) (Addr.add a72 0)
 (fun (n73 : Int) => ldG .str (Addr.add a72 1)
 (fun (s74 : ByteArray) => ldG .str (Addr.add a72 2)
 (fun (s75 : ByteArray) => ldG .slice (Addr.add a72 3)
 (fun (l76 : Sl) => ldG .slice (Addr.add a72 4)
 (fun (l77 : Sl) => nnG p42
 (fun (a78 : Addr) => ldG (.int .i64) (Addr.add a78 0)
 (fun (n79 : Int) => ldG .str (Addr.add a78 1)
 (fun (s80 : ByteArray) => ldG .str (Addr.add a78 2)
 (fun (s81 : ByteArray) => ldG .slice (Addr.add a78 3)
 (fun (l82 : Sl) => ldG .slice (Addr.add a78 4)
 (fun (l83 : Sl) => callG Tryz.prog 43 #[(.pointer p0), (.agg #[(.int .i64 n73), (.string s74), (.string s75), (.slice l76.a l76.n l76.c), (.slice l77.a l77.n l77.c)]), (.agg #[(.int .i64 n79), (.string s80), (.string s81), (.slice l82.a l82.n l82.c), (.slice l83.a l83.n l83.c)])] [(.one .bool)]
 (fun (b84 : Bool) => keepG [(Prod.mk ⟨m11, 4, none⟩ [(.slice l71.a l71.n l71.c)])]
 (k43 (!b84)))))))))))))))))
 (k43 false))))
 (fun (b85 : Bool) => iteG b85
 (retG (.bool false))
 (k34)))))))))))
 (k32 (IntKind.wrap IntKind.i64 (n33 + (1 : Int)))))
 (k31)) (0 : Int))
 (joinG [(.one .bool)]
 (fun k86 => drewG
 (nnG p0
 (fun (a87 : Addr) => ldG .any (Addr.add a87 0)
 (fun (v88 : Value) => ldG (.int .i64) ⟨m12, 0, none⟩
 (fun (n89 : Int) => ldG .str ⟨m12, 1, none⟩
 (fun (s90 : ByteArray) => ldG .str ⟨m12, 2, none⟩
 (fun (s91 : ByteArray) => ldG .slice ⟨m12, 3, none⟩
 (fun (l92 : Sl) => ldG .slice ⟨m12, 4, none⟩
 (fun (l93 : Sl) => ldG (.int .i64) ⟨m11, 0, none⟩
 (fun (n94 : Int) => ldG .str ⟨m11, 1, none⟩
 (fun (s95 : ByteArray) => ldG .str ⟨m11, 2, none⟩
 (fun (s96 : ByteArray) => ldG .slice ⟨m11, 3, none⟩
 (fun (l97 : Sl) => ldG .slice ⟨m11, 4, none⟩
 (fun (l98 : Sl) => callVG Tryz.prog v88 #[(.agg #[(.int .i64 n89), (.string s90), (.string s91), (.slice l92.a l92.n l92.c), (.slice l93.a l93.n l93.c)]), (.agg #[(.int .i64 n94), (.string s95), (.string s96), (.slice l97.a l97.n l97.c), (.slice l98.a l98.n l98.c)]), (.bool false)] [(.one .bool)]
 (fun (b99 : Bool) => iteG b99
 (k86 true)
 (ldG .slice ⟨m12, 3, none⟩
 (fun (l100 : Sl) => callG Tryz.prog 74 #[(.slice l100.a l100.n l100.c), (.func (Fn.func 75) #[] #[(.pointer (some ⟨m11, 0, none⟩))])] [(.one .bool)]
 (fun (b101 : Bool) => keepG [(Prod.mk ⟨m11, 0, none⟩ [(.int .i64 n94), (.string s95), (.string s96), (.slice l97.a l97.n l97.c), (.slice l98.a l98.n l98.c)]), (Prod.mk ⟨m12, 0, none⟩ [(.int .i64 n89), (.string s90), (.string s91), (.slice l92.a l92.n l92.c), (.slice l93.a l93.n l93.c)]), (Prod.mk (Addr.add a87 0) [v88])]
 (k86 (!b101))))))))))))))))))))
 (fun (b102 : Bool) => retG (.bool b102)))))
 (ldG .slice ⟨m11, 4, none⟩
 (fun (l103 : Sl) => ldG .slice ⟨m12, 4, none⟩
 (fun (l104 : Sl) => iteG ((↑l103.n : Int) != (↑l104.n : Int))
 (retG (.bool false))
 (k13))))))))))
 (ldG .slice ⟨m11, 4, none⟩
 (fun (l105 : Sl) => joinG []
 (fun k106 => loopG [(.one (.int .i64))]
 (fun k107 => fun (n108 : Int) => iteG (Decidable.decide (n108 < (↑l105.n : Int)))
 (joinG []
 (fun k109 => drewG
 (ldG .slice ⟨m11, 4, none⟩
 (fun (l110 : Sl) => idxG l110.a l110.n n108 5
 (fun (a111 : Addr) => ldG (.int .i64) (Addr.add a111 0)
 (fun (n112 : Int) => ldG .str (Addr.add a111 1)
 (fun (s113 : ByteArray) => ldG .str (Addr.add a111 2)
 (fun (s114 : ByteArray) => ldG .slice (Addr.add a111 3)
 (fun (l115 : Sl) => ldG .slice (Addr.add a111 4)
 (fun (l116 : Sl) => ldG .slice ⟨m12, 4, none⟩
 (fun (l117 : Sl) => idxG l117.a l117.n n108 5
 (fun (a118 : Addr) => ldG (.int .i64) (Addr.add a118 0)
 (fun (n119 : Int) => ldG .str (Addr.add a118 1)
 (fun (s120 : ByteArray) => ldG .str (Addr.add a118 2)
 (fun (s121 : ByteArray) => ldG .slice (Addr.add a118 3)
 (fun (l122 : Sl) => ldG .slice (Addr.add a118 4)
 (fun (l123 : Sl) => bothG
 (newG (Obj.cells #[(.int .i64 (0 : Int)), (.string (ByteArray.mk #[])), (.string (ByteArray.mk #[])), (.slice none 0 0), (.slice none 0 0)] 25 (Prod.mk 0 0))
 (fun (m124 : Nat) => keepG [(Prod.mk a118 [(.int .i64 n119), (.string s120), (.string s121), (.slice l122.a l122.n l122.c), (.slice l123.a l123.n l123.c)]), (Prod.mk ⟨m12, 4, none⟩ [(.slice l117.a l117.n l117.c)]), (Prod.mk a111 [(.int .i64 n112), (.string s113), (.string s114), (.slice l115.a l115.n l115.c), (.slice l116.a l116.n l116.c)]), (Prod.mk ⟨m11, 4, none⟩ [(.slice l110.a l110.n l110.c)])]
 (newG (Obj.cells #[(.int .i64 (0 : Int)), (.string (ByteArray.mk #[])), (.string (ByteArray.mk #[])), (.slice none 0 0), (.slice none 0 0)] 25 (Prod.mk 0 0))
 (fun (m125 : Nat) => keepG [(Prod.mk a118 [(.int .i64 n119), (.string s120), (.string s121), (.slice l122.a l122.n l122.c), (.slice l123.a l123.n l123.c)]), (Prod.mk ⟨m12, 4, none⟩ [(.slice l117.a l117.n l117.c)]), (Prod.mk a111 [(.int .i64 n112), (.string s113), (.string s114), (.slice l115.a l115.n l115.c), (.slice l116.a l116.n l116.c)]), (Prod.mk ⟨m11, 4, none⟩ [(.slice l110.a l110.n l110.c)])]
 (stG ⟨m124, 0, none⟩ (.int .i64 n112)
 (stG ⟨m124, 1, none⟩ (.string s113)
 (stG ⟨m124, 2, none⟩ (.string s114)
 (stG ⟨m124, 3, none⟩ (.slice l115.a l115.n l115.c)
 (stG ⟨m124, 4, none⟩ (.slice l116.a l116.n l116.c)
 (keepG [(Prod.mk a118 [(.int .i64 n119), (.string s120), (.string s121), (.slice l122.a l122.n l122.c), (.slice l123.a l123.n l123.c)]), (Prod.mk ⟨m12, 4, none⟩ [(.slice l117.a l117.n l117.c)])]
 (stG ⟨m125, 0, none⟩ (.int .i64 n119)
 (stG ⟨m125, 1, none⟩ (.string s120)
 (stG ⟨m125, 2, none⟩ (.string s121)
 (stG ⟨m125, 3, none⟩ (.slice l122.a l122.n l122.c)
 (stG ⟨m125, 4, none⟩ (.slice l123.a l123.n l123.c)
 (joinG [(.one .bool)]
 (fun k126 => ldG (.int .i64) ⟨m11, 0, none⟩
 (fun (n127 : Int) => iteG (n127 == (8 : Int))
 (ldG .slice ⟨m11, 4, none⟩
 (fun (l128 : Sl) => k126 (Decidable.decide (n108 < IntKind.wrap IntKind.i64 ((↑l128.n : Int) - (1 : Int))))))
 (k126 false)))
 (fun (b129 : Bool) => joinG []
 (fun k130 => iteG b129
 (ldG (.int .i64) ⟨m125, 0, none⟩
 (fun (n131 : Int) => ldG .str ⟨m125, 1, none⟩
 (fun (s132 : ByteArray) => ldG .str ⟨m125, 2, none⟩
 (fun (s133 : ByteArray) => ldG .slice ⟨m125, 3, none⟩
 (fun (l134 : Sl) => ldG .slice ⟨m125, 4, none⟩
 (fun (l135 : Sl) => ldG (.int .i64) ⟨m124, 0, none⟩
 (fun (n136 : Int) => ldG .str ⟨m124, 1, none⟩
 (fun (s137 : ByteArray) => ldG .str ⟨m124, 2, none⟩
 (fun (s138 : ByteArray) => ldG .slice ⟨m124, 3, none⟩
 (fun (l139 : Sl) => ldG .slice ⟨m124, 4, none⟩
 (fun (l140 : Sl) => stG ⟨m124, 0, none⟩ (.int .i64 n131)
 (stG ⟨m124, 1, none⟩ (.string s132)
 (stG ⟨m124, 2, none⟩ (.string s133)
 (stG ⟨m124, 3, none⟩ (.slice l134.a l134.n l134.c)
 (stG ⟨m124, 4, none⟩ (.slice l135.a l135.n l135.c)
 (stG ⟨m125, 0, none⟩ (.int .i64 n136)
 (stG ⟨m125, 1, none⟩ (.string s137)
 (stG ⟨m125, 2, none⟩ (.string s138)
 (stG ⟨m125, 3, none⟩ (.slice l139.a l139.n l139.c)
 (stG ⟨m125, 4, none⟩ (.slice l140.a l140.n l140.c)
 (k130)))))))))))))))))))))
 (k130))
 (ldG (.int .i64) ⟨m124, 0, none⟩
 (fun (n141 : Int) => ldG .str ⟨m124, 1, none⟩
 (fun (s142 : ByteArray) => ldG .str ⟨m124, 2, none⟩
 (fun (s143 : ByteArray) => ldG .slice ⟨m124, 3, none⟩
 (fun (l144 : Sl) => ldG .slice ⟨m124, 4, none⟩
 (fun (l145 : Sl) => ldG (.int .i64) ⟨m125, 0, none⟩
 (fun (n146 : Int) => ldG .str ⟨m125, 1, none⟩
 (fun (s147 : ByteArray) => ldG .str ⟨m125, 2, none⟩
 (fun (s148 : ByteArray) => ldG .slice ⟨m125, 3, none⟩
 (fun (l149 : Sl) => ldG .slice ⟨m125, 4, none⟩
 (fun (l150 : Sl) => callG Tryz.prog 43 #[(.pointer p0), (.agg #[(.int .i64 n141), (.string s142), (.string s143), (.slice l144.a l144.n l144.c), (.slice l145.a l145.n l145.c)]), (.agg #[(.int .i64 n146), (.string s147), (.string s148), (.slice l149.a l149.n l149.c), (.slice l150.a l150.n l150.c)])] [(.one .bool)]
 (fun (b151 : Bool) => iteG (!b151)
 (retG (.bool false))
 (k109))))))))))))))))))))))))))))))
 (newG (Obj.cells #[(.int .i64 (0 : Int)), (.string (ByteArray.mk #[])), (.string (ByteArray.mk #[])), (.slice none 0 0), (.slice none 0 0)] 25 (Prod.mk 0 0))
 (fun (m152 : Nat) => keepG [(Prod.mk a118 [(.int .i64 n119), (.string s120), (.string s121), (.slice l122.a l122.n l122.c), (.slice l123.a l123.n l123.c)]), (Prod.mk ⟨m12, 4, none⟩ [(.slice l117.a l117.n l117.c)]), (Prod.mk a111 [(.int .i64 n112), (.string s113), (.string s114), (.slice l115.a l115.n l115.c), (.slice l116.a l116.n l116.c)]), (Prod.mk ⟨m11, 4, none⟩ [(.slice l110.a l110.n l110.c)])]
 (newG (Obj.cells #[(.int .i64 (0 : Int)), (.string (ByteArray.mk #[])), (.string (ByteArray.mk #[])), (.slice none 0 0), (.slice none 0 0)] 25 (Prod.mk 0 0))
 (fun (m153 : Nat) => keepG [(Prod.mk a118 [(.int .i64 n119), (.string s120), (.string s121), (.slice l122.a l122.n l122.c), (.slice l123.a l123.n l123.c)]), (Prod.mk ⟨m12, 4, none⟩ [(.slice l117.a l117.n l117.c)]), (Prod.mk a111 [(.int .i64 n112), (.string s113), (.string s114), (.slice l115.a l115.n l115.c), (.slice l116.a l116.n l116.c)]), (Prod.mk ⟨m11, 4, none⟩ [(.slice l110.a l110.n l110.c)])]
 (stG ⟨m153, 0, none⟩ (.int .i64 n112)
 (stG ⟨m153, 1, none⟩ (.string s113)
 (stG ⟨m153, 2, none⟩ (.string s114)
 (stG ⟨m153, 3, none⟩ (.slice l115.a l115.n l115.c)
 (stG ⟨m153, 4, none⟩ (.slice l116.a l116.n l116.c)
 (keepG [(Prod.mk a118 [(.int .i64 n119), (.string s120), (.string s121), (.slice l122.a l122.n l122.c), (.slice l123.a l123.n l123.c)]), (Prod.mk ⟨m12, 4, none⟩ [(.slice l117.a l117.n l117.c)])]
 (stG ⟨m152, 0, none⟩ (.int .i64 n119)
 (stG ⟨m152, 1, none⟩ (.string s120)
 (stG ⟨m152, 2, none⟩ (.string s121)
 (stG ⟨m152, 3, none⟩ (.slice l122.a l122.n l122.c)
 (stG ⟨m152, 4, none⟩ (.slice l123.a l123.n l123.c)
 (joinG [(.one .bool)]
 (fun k154 => ldG (.int .i64) ⟨m11, 0, none⟩
 (fun (n155 : Int) => iteG (n155 == (8 : Int))
 (ldG .slice ⟨m11, 4, none⟩
 (fun (l156 : Sl) => k154 (Decidable.decide (n108 < IntKind.wrap IntKind.i64 ((↑l156.n : Int) - (1 : Int))))))
 (k154 false)))
 (fun (b157 : Bool) => joinG []
 (fun k158 => iteG b157
 (ldG (.int .i64) ⟨m152, 0, none⟩
 (fun (n159 : Int) => ldG .str ⟨m152, 1, none⟩
 (fun (s160 : ByteArray) => ldG .str ⟨m152, 2, none⟩
 (fun (s161 : ByteArray) => ldG .slice ⟨m152, 3, none⟩
 (fun (l162 : Sl) => ldG .slice ⟨m152, 4, none⟩
 (fun (l163 : Sl) => ldG (.int .i64) ⟨m153, 0, none⟩
 (fun (n164 : Int) => ldG .str ⟨m153, 1, none⟩
 (fun (s165 : ByteArray) => ldG .str ⟨m153, 2, none⟩
 (fun (s166 : ByteArray) => ldG .slice ⟨m153, 3, none⟩
 (fun (l167 : Sl) => ldG .slice ⟨m153, 4, none⟩
 (fun (l168 : Sl) => stG ⟨m153, 0, none⟩ (.int .i64 n159)
 (stG ⟨m153, 1, none⟩ (.string s160)
 (stG ⟨m153, 2, none⟩ (.string s161)
 (stG ⟨m153, 3, none⟩ (.slice l162.a l162.n l162.c)
 (stG ⟨m153, 4, none⟩ (.slice l163.a l163.n l163.c)
 (stG ⟨m152, 0, none⟩ (.int .i64 n164)
 (stG ⟨m152, 1, none⟩ (.string s165)
 (stG ⟨m152, 2, none⟩ (.string s166)
 (stG ⟨m152, 3, none⟩ (.slice l167.a l167.n l167.c)
 (stG ⟨m152, 4, none⟩ (.slice l168.a l168.n l168.c)
 (k158)))))))))))))))))))))
 (k158))
 (ldG (.int .i64) ⟨m153, 0, none⟩
 (fun (n169 : Int) => ldG .str ⟨m153, 1, none⟩
 (fun (s170 : ByteArray) => ldG .str ⟨m153, 2, none⟩
 (fun (s171 : ByteArray) => ldG .slice ⟨m153, 3, none⟩
 (fun (l172 : Sl) => ldG .slice ⟨m153, 4, none⟩
 (fun (l173 : Sl) => ldG (.int .i64) ⟨m152, 0, none⟩
 (fun (n174 : Int) => ldG .str ⟨m152, 1, none⟩
 (fun (s175 : ByteArray) => ldG .str ⟨m152, 2, none⟩
 (fun (s176 : ByteArray) => ldG .slice ⟨m152, 3, none⟩
 (fun (l177 : Sl) => ldG .slice ⟨m152, 4, none⟩
 (fun (l178 : Sl) => callG Tryz.prog 43 #[(.pointer p0), (.agg #[(.int .i64 n169), (.string s170), (.string s171), (.slice l172.a l172.n l172.c), (.slice l173.a l173.n l173.c)]), (.agg #[(.int .i64 n174), (.string s175), (.string s176), (.slice l177.a l177.n l177.c), (.slice l178.a l178.n l178.c)])] [(.one .bool)]
 (fun (b179 : Bool) => iteG (!b179)
 (retG (.bool false))
 (k109))))))))))))))))))))))))))))))))))))))))))))))
 (k107 (IntKind.wrap IntKind.i64 (n108 + (1 : Int)))))
 (k106)) (0 : Int))
 (retG (.bool true))))))
theorem e43 : denF Tryz.prog (GA Tryz.prog) Tryz.f43 [(.one .ptr), (.agg [(.int .i64), .str, .str, .slice, .slice]), (.agg [(.int .i64), .str, .str, .slice, .slice])] (.seq .leaf (.seq (.block (sl Tryz.prog []) (.seq (.r (sl Tryz.prog [(13, 4)])) (.cond .leaf (.seq (.r (sl Tryz.prog [(22, 4)])) (.cond .leaf (.seq (.r (sl Tryz.prog [(42, 4)])) (.cond (.seq (.seq .leaf (.block (sl Tryz.prog []) (.loop (sl Tryz.prog [(54, 3)]) (.seq .leaf (.seq .leaf (.seq (.block (sl Tryz.prog []) (.seq .leaf (.seq .leaf (.seq (.r (sl Tryz.prog [(90, 4)])) .leaf)))) .leaf)))))) (.seq (.r (sl Tryz.prog [(6, 4)])) .leaf)) .leaf))))))) (.seq (.seq .leaf (.block (sl Tryz.prog []) (.loop (sl Tryz.prog [(117, 3)]) (.seq .leaf (.seq .leaf (.seq (.block (sl Tryz.prog []) (.seq .leaf (.seq .leaf (.seq (.seq (.r (sl Tryz.prog [(140, 4)])) (.condj (sl Tryz.prog []) .leaf .leaf)) .leaf)))) .leaf)))))) .leaf))) = t43 := by kernel_rfl
theorem c43 (x0 : Option Addr) (x1 : Int) (x2 : ByteArray) (x3 : ByteArray) (x4 : Sl) (x5 : Sl) (x6 : Int) (x7 : ByteArray) (x8 : ByteArray) (x9 : Sl) (x10 : Sl) {R : Ending → World → Prop} {w : World} (h : t43 x0 x1 x2 x3 x4 x5 x6 x7 x8 x9 x10 R w) : Calls Tryz.prog 43 #[.pointer x0, .agg #[.int .i64 x1, .string x2, .string x3, .slice x4.a x4.n x4.c, .slice x5.a x5.n x5.c], .agg #[.int .i64 x6, .string x7, .string x8, .slice x9.a x9.n x9.c, .slice x10.a x10.n x10.c]] w R :=
  lift mixed Tryz.func43 e43 rfl ((x0, ()), (x1, x2, x3, x4, x5, ()), (x6, x7, x8, x9, x10, ()), ()) R w h
def t61 : Int → ByteArray → ByteArray → Sl → Sl → Value → G :=
 fun (n0 : Int) (s1 : ByteArray) => fun (s2 : ByteArray) (l3 : Sl) => fun (l4 : Sl) (v5 : Value) => newG (Obj.cells #[(.int .i64 n0), (.string s1), (.string s2), (.slice l3.a l3.n l3.c), (.slice l4.a l4.n l4.c)] 25 (Prod.mk 0 0))
 (fun (m6 : Nat) => ldG (.int .i64) ⟨m6, 0, none⟩
 (fun (n7 : Int) => ldG .str ⟨m6, 1, none⟩
 (fun (s8 : ByteArray) => ldG .str ⟨m6, 2, none⟩
 (fun (s9 : ByteArray) => ldG .slice ⟨m6, 3, none⟩
 (fun (l10 : Sl) => ldG .slice ⟨m6, 4, none⟩
 (fun (l11 : Sl) => callVG Tryz.prog v5 #[(.agg #[(.int .i64 n7), (.string s8), (.string s9), (.slice l10.a l10.n l10.c), (.slice l11.a l11.n l11.c)])] [(.one .bool)]
 (fun (b12 : Bool) => iteG (!b12)
 (retG (.bool false))
 (ldG .slice ⟨m6, 4, none⟩
 (fun (l13 : Sl) => joinG []
 (fun k14 => loopG [(.one (.int .i64))]
 (fun k15 => fun (n16 : Int) => iteG (Decidable.decide (n16 < (↑l13.n : Int)))
 (joinG []
 (fun k17 => idxG l13.a l13.n n16 5
 (fun (a18 : Addr) => ldG (.int .i64) (Addr.add a18 0)
 (fun (n19 : Int) => ldG .str (Addr.add a18 1)
 (fun (s20 : ByteArray) => ldG .str (Addr.add a18 2)
 (fun (s21 : ByteArray) => ldG .slice (Addr.add a18 3)
 (fun (l22 : Sl) => ldG .slice (Addr.add a18 4)
 (fun (l23 : Sl) => newG (Obj.cells #[(.int .i64 (0 : Int)), (.string (ByteArray.mk #[])), (.string (ByteArray.mk #[])), (.slice none 0 0), (.slice none 0 0)] 25 (Prod.mk 0 0))
 (fun (m24 : Nat) => stG ⟨m24, 0, none⟩ (.int .i64 n19)
 (stG ⟨m24, 1, none⟩ (.string s20)
 (stG ⟨m24, 2, none⟩ (.string s21)
 (stG ⟨m24, 3, none⟩ (.slice l22.a l22.n l22.c)
 (stG ⟨m24, 4, none⟩ (.slice l23.a l23.n l23.c)
 (ldG (.int .i64) ⟨m24, 0, none⟩
 (fun (n25 : Int) => ldG .str ⟨m24, 1, none⟩
 (fun (s26 : ByteArray) => ldG .str ⟨m24, 2, none⟩
 (fun (s27 : ByteArray) => ldG .slice ⟨m24, 3, none⟩
 (fun (l28 : Sl) => ldG .slice ⟨m24, 4, none⟩
 (fun (l29 : Sl) => callG Tryz.prog 61 #[(.agg #[(.int .i64 n25), (.string s26), (.string s27), (.slice l28.a l28.n l28.c), (.slice l29.a l29.n l29.c)]), v5] [(.one .bool)]
 (fun (b30 : Bool) => iteG (!b30)
 (retG (.bool false))
 (k17))))))))))))))))))))
 (k15 (IntKind.wrap IntKind.i64 (n16 + (1 : Int)))))
 (k14)) (0 : Int))
 (retG (.bool true)))))))))))
theorem e61 : denF Tryz.prog (GA Tryz.prog) Tryz.f61 [(.agg [(.int .i64), .str, .str, .slice, .slice]), (.one .any)] (.seq .leaf (.seq .leaf (.seq (.seq .leaf (.block (sl Tryz.prog []) (.loop (sl Tryz.prog [(14, 3)]) (.seq .leaf (.seq .leaf (.seq (.block (sl Tryz.prog []) .leaf) .leaf)))))) .leaf))) = t61 := by kernel_rfl
theorem c61 (x0 : Int) (x1 : ByteArray) (x2 : ByteArray) (x3 : Sl) (x4 : Sl) (x5 : Value) {R : Ending → World → Prop} {w : World} (h : t61 x0 x1 x2 x3 x4 x5 R w) : Calls Tryz.prog 61 #[.agg #[.int .i64 x0, .string x1, .string x2, .slice x3.a x3.n x3.c, .slice x4.a x4.n x4.c], x5] w R :=
  lift mixed Tryz.func61 e61 rfl ((x0, x1, x2, x3, x4, ()), (x5, ()), ()) R w h
def t62 : Int → ByteArray → ByteArray → Sl → Sl → G :=
 fun (n0 : Int) (s1 : ByteArray) => fun (s2 : ByteArray) (l3 : Sl) (l4 : Sl) => newG (Obj.cells #[(.int .i64 n0), (.string s1), (.string s2), (.slice l3.a l3.n l3.c), (.slice l4.a l4.n l4.c)] 25 (Prod.mk 0 0))
 (fun (m5 : Nat) => joinG [(.one .bool)]
 (fun k6 => ldG .str ⟨m5, 1, none⟩
 (fun (s7 : ByteArray) => iteG (ByteArray.toList s7 == ByteArray.toList (ByteArray.mk #[]))
 (ldG .str ⟨m5, 2, none⟩
 (fun (s8 : ByteArray) => k6 (ByteArray.toList s8 == ByteArray.toList (ByteArray.mk #[]))))
 (k6 false)))
 (fun (b9 : Bool) => ldG (.int .i64) ⟨m5, 0, none⟩
 (fun (n10 : Int) => joinG []
 (fun k11 => joinG [(.one .bool)]
 (fun k12 => iteG (n10 == (1 : Int))
 (k12 (n10 == (1 : Int)))
 (joinG [(.one .bool)]
 (fun k13 => iteG (n10 == (2 : Int))
 (k13 (n10 == (2 : Int)))
 (joinG [(.one .bool)]
 (fun k14 => iteG (n10 == (3 : Int))
 (k14 (n10 == (3 : Int)))
 (k14 (n10 == (4 : Int))))
 (fun (b15 : Bool) => k13 b15)))
 (fun (b16 : Bool) => k12 b16)))
 (fun (b17 : Bool) => iteG b17
 (joinG [(.one .bool)]
 (fun k18 => iteG b9
 (ldG .slice ⟨m5, 3, none⟩
 (fun (l19 : Sl) => iteG ((↑l19.n : Int) == (0 : Int))
 (ldG .slice ⟨m5, 4, none⟩
 (fun (l20 : Sl) => k18 ((↑l20.n : Int) == (0 : Int))))
 (k18 false)))
 (k18 false))
 (fun (b21 : Bool) => retG (.bool b21)))
 (iteG (n10 == (5 : Int))
 (joinG [(.one .bool)]
 (fun k22 => iteG b9
 (ldG .slice ⟨m5, 3, none⟩
 (fun (l23 : Sl) => iteG ((↑l23.n : Int) == (0 : Int))
 (ldG .slice ⟨m5, 4, none⟩
 (fun (l24 : Sl) => k22 ((↑l24.n : Int) == (1 : Int))))
 (k22 false)))
 (k22 false))
 (fun (b25 : Bool) => retG (.bool b25)))
 (joinG [(.one .bool)]
 (fun k26 => iteG (n10 == (6 : Int))
 (k26 (n10 == (6 : Int)))
 (k26 (n10 == (7 : Int))))
 (fun (b27 : Bool) => iteG b27
 (joinG [(.one .bool)]
 (fun k28 => iteG b9
 (ldG (.int .i64) ⟨m5, 0, none⟩
 (fun (n29 : Int) => ldG .str ⟨m5, 1, none⟩
 (fun (s30 : ByteArray) => ldG .str ⟨m5, 2, none⟩
 (fun (s31 : ByteArray) => ldG .slice ⟨m5, 3, none⟩
 (fun (l32 : Sl) => ldG .slice ⟨m5, 4, none⟩
 (fun (l33 : Sl) => callG Tryz.prog 90 #[(.agg #[(.int .i64 n29), (.string s30), (.string s31), (.slice l32.a l32.n l32.c), (.slice l33.a l33.n l33.c)])] [(.one .bool)]
 (fun (b34 : Bool) => k28 b34)))))))
 (k28 false))
 (fun (b35 : Bool) => retG (.bool b35)))
 (iteG (n10 == (8 : Int))
 (joinG [(.one .bool)]
 (fun k36 => iteG b9
 (ldG .slice ⟨m5, 3, none⟩
 (fun (l37 : Sl) => iteG ((↑l37.n : Int) == (0 : Int))
 (ldG .slice ⟨m5, 4, none⟩
 (fun (l38 : Sl) => k36 (Decidable.decide ((↑l38.n : Int) > (0 : Int)))))
 (k36 false)))
 (k36 false))
 (fun (b39 : Bool) => retG (.bool b39)))
 (iteG (n10 == (9 : Int))
 (joinG [(.one .bool)]
 (fun k40 => ldG .str ⟨m5, 2, none⟩
 (fun (s41 : ByteArray) => callG Tryz.prog 91 #[(.string s41)] [(.one .bool)]
 (fun (b42 : Bool) => iteG b42
 (ldG .str ⟨m5, 1, none⟩
 (fun (s43 : ByteArray) => iteG (ByteArray.toList s43 == ByteArray.toList (ByteArray.mk #[]))
 (ldG .str ⟨m5, 2, none⟩
 (fun (s44 : ByteArray) => callG Tryz.prog 92 #[(.string s44)] [(.one .bool)]
 (fun (b45 : Bool) => iteG (!b45)
 (ldG .slice ⟨m5, 3, none⟩
 (fun (l46 : Sl) => iteG ((↑l46.n : Int) == (0 : Int))
 (ldG .slice ⟨m5, 4, none⟩
 (fun (l47 : Sl) => k40 ((↑l47.n : Int) == (0 : Int))))
 (k40 false)))
 (ldG .str ⟨m5, 1, none⟩
 (fun (s48 : ByteArray) => callG Tryz.prog 93 #[(.string s48)] [(.one .bool)]
 (fun (b49 : Bool) => iteG b49
 (ldG .slice ⟨m5, 3, none⟩
 (fun (l50 : Sl) => iteG ((↑l50.n : Int) == (0 : Int))
 (ldG .slice ⟨m5, 4, none⟩
 (fun (l51 : Sl) => k40 ((↑l51.n : Int) == (0 : Int))))
 (k40 false)))
 (k40 false)))))))
 (ldG .str ⟨m5, 1, none⟩
 (fun (s52 : ByteArray) => callG Tryz.prog 93 #[(.string s52)] [(.one .bool)]
 (fun (b53 : Bool) => iteG b53
 (ldG .slice ⟨m5, 3, none⟩
 (fun (l54 : Sl) => iteG ((↑l54.n : Int) == (0 : Int))
 (ldG .slice ⟨m5, 4, none⟩
 (fun (l55 : Sl) => k40 ((↑l55.n : Int) == (0 : Int))))
 (k40 false)))
 (k40 false))))))
 (k40 false))))
 (fun (b56 : Bool) => retG (.bool b56)))
 (iteG (n10 == (10 : Int))
 (joinG [(.one .bool)]
 (fun k57 => ldG .str ⟨m5, 2, none⟩
 (fun (s58 : ByteArray) => callG Tryz.prog 91 #[(.string s58)] [(.one .bool)]
 (fun (b59 : Bool) => iteG b59
 (ldG .str ⟨m5, 1, none⟩
 (fun (s60 : ByteArray) => callG Tryz.prog 93 #[(.string s60)] [(.one .bool)]
 (fun (b61 : Bool) => iteG b61
 (ldG .slice ⟨m5, 3, none⟩
 (fun (l62 : Sl) => iteG ((↑l62.n : Int) == (0 : Int))
 (ldG .slice ⟨m5, 4, none⟩
 (fun (l63 : Sl) => k57 ((↑l63.n : Int) == (0 : Int))))
 (k57 false)))
 (k57 false))))
 (k57 false))))
 (fun (b64 : Bool) => retG (.bool b64)))
 (k11)))))))))
 (retG (.bool false)))))
theorem e62 : denF Tryz.prog (GA Tryz.prog) Tryz.f62 [(.agg [(.int .i64), .str, .str, .slice, .slice])] (.seq .leaf (.seq (.r (sl Tryz.prog [(3, 4)])) (.seq (.seq .leaf (.block (sl Tryz.prog []) (.seq (.seq .leaf (.condj (sl Tryz.prog [(14, 4)]) .leaf (.seq .leaf (.condj (sl Tryz.prog [(14, 4)]) .leaf (.seq .leaf (.condj (sl Tryz.prog [(14, 4)]) .leaf .leaf)))))) (.cond (.seq (.r (sl Tryz.prog [(2, 4)])) .leaf) (.seq .leaf (.cond (.seq (.r (sl Tryz.prog [(2, 4)])) .leaf) (.seq (.seq .leaf (.condj (sl Tryz.prog [(47, 4)]) .leaf .leaf)) (.cond (.seq (.r (sl Tryz.prog [(2, 4)])) .leaf) (.seq .leaf (.cond (.seq (.r (sl Tryz.prog [(2, 4)])) .leaf) (.seq .leaf (.cond (.seq (.r (sl Tryz.prog [(2, 4)])) .leaf) (.seq .leaf (.cond (.seq (.r (sl Tryz.prog [(2, 4)])) .leaf) .leaf)))))))))))))) .leaf))) = t62 := by kernel_rfl
theorem c62 (x0 : Int) (x1 : ByteArray) (x2 : ByteArray) (x3 : Sl) (x4 : Sl) {R : Ending → World → Prop} {w : World} (h : t62 x0 x1 x2 x3 x4 R w) : Calls Tryz.prog 62 #[.agg #[.int .i64 x0, .string x1, .string x2, .slice x3.a x3.n x3.c, .slice x4.a x4.n x4.c]] w R :=
  lift mixed Tryz.func62 e62 rfl ((x0, x1, x2, x3, x4, ()), ()) R w h
def t64 : Int → ByteArray → ByteArray → Sl → Sl → Int → ByteArray → ByteArray → Sl → Sl → G :=
 fun (n0 : Int) (s1 : ByteArray) => fun (s2 : ByteArray) (l3 : Sl) => fun (l4 : Sl) (n5 : Int) => fun (s6 : ByteArray) (s7 : ByteArray) => fun (l8 : Sl) (l9 : Sl) => newG (Obj.cells #[(.int .i64 n0), (.string s1), (.string s2), (.slice l3.a l3.n l3.c), (.slice l4.a l4.n l4.c)] 25 (Prod.mk 0 0))
 (fun (m10 : Nat) => newG (Obj.cells #[(.int .i64 n5), (.string s6), (.string s7), (.slice l8.a l8.n l8.c), (.slice l9.a l9.n l9.c)] 25 (Prod.mk 0 0))
 (fun (m11 : Nat) => ldG (.int .i64) ⟨m11, 0, none⟩
 (fun (n12 : Int) => ldG .str ⟨m11, 1, none⟩
 (fun (s13 : ByteArray) => ldG .str ⟨m11, 2, none⟩
 (fun (s14 : ByteArray) => ldG .slice ⟨m11, 3, none⟩
 (fun (l15 : Sl) => ldG .slice ⟨m11, 4, none⟩
 (fun (l16 : Sl) => ldG (.int .i64) ⟨m10, 0, none⟩
 (fun (n17 : Int) => ldG .str ⟨m10, 1, none⟩
 (fun (s18 : ByteArray) => ldG .str ⟨m10, 2, none⟩
 (fun (s19 : ByteArray) => ldG .slice ⟨m10, 3, none⟩
 (fun (l20 : Sl) => ldG .slice ⟨m10, 4, none⟩
 (fun (l21 : Sl) => callG Tryz.prog 37 #[(.agg #[(.int .i64 n12), (.string s13), (.string s14), (.slice l15.a l15.n l15.c), (.slice l16.a l16.n l16.c)]), (.agg #[(.int .i64 n17), (.string s18), (.string s19), (.slice l20.a l20.n l20.c), (.slice l21.a l21.n l21.c)])] [(.one .bool)]
 (fun (b22 : Bool) => retG (.bool b22))))))))))))))
theorem e64 : denF Tryz.prog (GA Tryz.prog) Tryz.f64 [(.agg [(.int .i64), .str, .str, .slice, .slice]), (.agg [(.int .i64), .str, .str, .slice, .slice])] .leaf = t64 := by kernel_rfl
theorem c64 (x0 : Int) (x1 : ByteArray) (x2 : ByteArray) (x3 : Sl) (x4 : Sl) (x5 : Int) (x6 : ByteArray) (x7 : ByteArray) (x8 : Sl) (x9 : Sl) {R : Ending → World → Prop} {w : World} (h : t64 x0 x1 x2 x3 x4 x5 x6 x7 x8 x9 R w) : Calls Tryz.prog 64 #[.agg #[.int .i64 x0, .string x1, .string x2, .slice x3.a x3.n x3.c, .slice x4.a x4.n x4.c], .agg #[.int .i64 x5, .string x6, .string x7, .slice x8.a x8.n x8.c, .slice x9.a x9.n x9.c]] w R :=
  lift mixed Tryz.func64 e64 rfl ((x0, x1, x2, x3, x4, ()), (x5, x6, x7, x8, x9, ()), ()) R w h
def t66 : Int → ByteArray → ByteArray → Sl → Sl → G :=
 fun (n0 : Int) (s1 : ByteArray) => fun (s2 : ByteArray) (l3 : Sl) (l4 : Sl) => newG (Obj.cells #[(.int .i64 n0), (.string s1), (.string s2), (.slice l3.a l3.n l3.c), (.slice l4.a l4.n l4.c)] 25 (Prod.mk 0 0))
 (fun (m5 : Nat) => ldG (.int .i64) ⟨m5, 0, none⟩
 (fun (n6 : Int) => ldG .str ⟨m5, 1, none⟩
 (fun (s7 : ByteArray) => ldG .str ⟨m5, 2, none⟩
 (fun (s8 : ByteArray) => ldG .slice ⟨m5, 3, none⟩
 (fun (l9 : Sl) => ldG .slice ⟨m5, 4, none⟩
 (fun (l10 : Sl) => callG Tryz.prog 38 #[(.agg #[(.int .i64 n6), (.string s7), (.string s8), (.slice l9.a l9.n l9.c), (.slice l10.a l10.n l10.c)])] [(.one .bool)]
 (fun (b11 : Bool) => retG (.bool (!b11)))))))))
def t70 : Int → Int → Addr → G :=
 fun (n0 : Int) (n1 : Int) (a2 : Addr) => drewG
 (ldG .slice (Addr.add a2 3)
 (fun (l3 : Sl) => idxG l3.a l3.n n0 1
 (fun (a4 : Addr) => ldG .str a4
 (fun (s5 : ByteArray) => ldG .slice (Addr.add a2 3)
 (fun (l6 : Sl) => idxG l6.a l6.n n1 1
 (fun (a7 : Addr) => ldG .str a7
 (fun (s8 : ByteArray) => callG Tryz.prog 71 #[(.string s5), (.string s8)] [(.one (.int .i64))]
 (fun (n9 : Int) => keepG [(Prod.mk (Addr.add a2 3) [(.slice l6.a l6.n l6.c)]), (Prod.mk (Addr.add a2 3) [(.slice l3.a l3.n l3.c)])]
 (retG (.int .i64 n9))))))))))
theorem e70 : denF Tryz.prog (GA Tryz.prog) Tryz.f70 [(.one (.int .i64)), (.one (.int .i64)), (.one .addr)] .leaf = t70 := by kernel_rfl
theorem c70 (x0 : Int) (x1 : Int) (x2 : Addr) {R : Ending → World → Prop} {w : World} (h : t70 x0 x1 x2 R w) : Calls Tryz.prog 70 #[.int .i64 x0, .int .i64 x1, .pointer (some x2)] w R :=
  lift mixed Tryz.func70 e70 rfl ((x0, ()), (x1, ()), (x2, ()), ()) R w h
def t72 : Int → ByteArray → ByteArray → Sl → Sl → Int → ByteArray → ByteArray → Sl → Sl → Bool → G :=
 fun (n0 : Int) (s1 : ByteArray) => fun (s2 : ByteArray) (l3 : Sl) => fun (l4 : Sl) (n5 : Int) => fun (s6 : ByteArray) (s7 : ByteArray) => fun (l8 : Sl) (l9 : Sl) (b10 : Bool) => newG (Obj.cells #[(.int .i64 n0), (.string s1), (.string s2), (.slice l3.a l3.n l3.c), (.slice l4.a l4.n l4.c)] 25 (Prod.mk 0 0))
 (fun (m11 : Nat) => newG (Obj.cells #[(.int .i64 n5), (.string s6), (.string s7), (.slice l8.a l8.n l8.c), (.slice l9.a l9.n l9.c)] 25 (Prod.mk 0 0))
 (fun (_ : Nat) => ldG (.int .i64) ⟨m11, 0, none⟩
 (fun (n13 : Int) => retG (.bool (b10 == (n13 == (6 : Int)))))))
theorem e72 : denF Tryz.prog (GA Tryz.prog) Tryz.f72 [(.agg [(.int .i64), .str, .str, .slice, .slice]), (.agg [(.int .i64), .str, .str, .slice, .slice]), (.one .bool)] .leaf = t72 := by kernel_rfl
theorem c72 (x0 : Int) (x1 : ByteArray) (x2 : ByteArray) (x3 : Sl) (x4 : Sl) (x5 : Int) (x6 : ByteArray) (x7 : ByteArray) (x8 : Sl) (x9 : Sl) (x10 : Bool) {R : Ending → World → Prop} {w : World} (h : t72 x0 x1 x2 x3 x4 x5 x6 x7 x8 x9 x10 R w) : Calls Tryz.prog 72 #[.agg #[.int .i64 x0, .string x1, .string x2, .slice x3.a x3.n x3.c, .slice x4.a x4.n x4.c], .agg #[.int .i64 x5, .string x6, .string x7, .slice x8.a x8.n x8.c, .slice x9.a x9.n x9.c], .bool x10] w R :=
  lift mixed Tryz.func72 e72 rfl ((x0, x1, x2, x3, x4, ()), (x5, x6, x7, x8, x9, ()), (x10, ()), ()) R w h
def t73 : Int → ByteArray → ByteArray → Sl → Sl → ByteArray → G :=
 fun (n0 : Int) (s1 : ByteArray) => fun (s2 : ByteArray) (l3 : Sl) => fun (l4 : Sl) (s5 : ByteArray) => newG (Obj.cells #[(.int .i64 n0), (.string s1), (.string s2), (.slice l3.a l3.n l3.c), (.slice l4.a l4.n l4.c)] 25 (Prod.mk 0 0))
 (fun (m6 : Nat) => ldG .slice ⟨m6, 3, none⟩
 (fun (l7 : Sl) => callG Tryz.prog 99 #[(.slice l7.a l7.n l7.c), (.string s5)] [(.one (.int .i64))]
 (fun (n8 : Int) => iteG (Decidable.decide (n8 ≥ (0 : Int)))
 (ldG .slice ⟨m6, 4, none⟩
 (fun (l9 : Sl) => idxG l9.a l9.n n8 5
 (fun (a10 : Addr) => retG (.pointer (some a10)))))
 (retG (.pointer none)))))
theorem e73 : denF Tryz.prog (GA Tryz.prog) Tryz.f73 [(.agg [(.int .i64), .str, .str, .slice, .slice]), (.one .str)] .leaf = t73 := by kernel_rfl
theorem c73 (x0 : Int) (x1 : ByteArray) (x2 : ByteArray) (x3 : Sl) (x4 : Sl) (x5 : ByteArray) {R : Ending → World → Prop} {w : World} (h : t73 x0 x1 x2 x3 x4 x5 R w) : Calls Tryz.prog 73 #[.agg #[.int .i64 x0, .string x1, .string x2, .slice x3.a x3.n x3.c, .slice x4.a x4.n x4.c], .string x5] w R :=
  lift mixed Tryz.func73 e73 rfl ((x0, x1, x2, x3, x4, ()), (x5, ()), ()) R w h
def t75 : ByteArray → Addr → G :=
 fun (s0 : ByteArray) (a1 : Addr) => ldG (.int .i64) (Addr.add a1 0)
 (fun (n2 : Int) => ldG .str (Addr.add a1 1)
 (fun (s3 : ByteArray) => ldG .str (Addr.add a1 2)
 (fun (s4 : ByteArray) => ldG .slice (Addr.add a1 3)
 (fun (l5 : Sl) => ldG .slice (Addr.add a1 4)
 (fun (l6 : Sl) => callG Tryz.prog 73 #[(.agg #[(.int .i64 n2), (.string s3), (.string s4), (.slice l5.a l5.n l5.c), (.slice l6.a l6.n l6.c)]), (.string s0)] [(.one .ptr)]
 (fun (p7 : Option Addr) => retG (.bool (Option.isNone p7))))))))
theorem e75 : denF Tryz.prog (GA Tryz.prog) Tryz.f75 [(.one .str), (.one .addr)] .leaf = t75 := by kernel_rfl
theorem c75 (x0 : ByteArray) (x1 : Addr) {R : Ending → World → Prop} {w : World} (h : t75 x0 x1 R w) : Calls Tryz.prog 75 #[.string x0, .pointer (some x1)] w R :=
  lift mixed Tryz.func75 e75 rfl ((x0, ()), (x1, ()), ()) R w h
def t90 : Int → ByteArray → ByteArray → Sl → Sl → G :=
 fun (n0 : Int) (s1 : ByteArray) => fun (s2 : ByteArray) (l3 : Sl) (l4 : Sl) => newG (Obj.cells #[(.int .i64 n0), (.string s1), (.string s2), (.slice l3.a l3.n l3.c), (.slice l4.a l4.n l4.c)] 25 (Prod.mk 0 0))
 (fun (m5 : Nat) => ldG .slice ⟨m5, 3, none⟩
 (fun (l6 : Sl) => ldG .slice ⟨m5, 4, none⟩
 (fun (l7 : Sl) => iteG ((↑l6.n : Int) != (↑l7.n : Int))
 (retG (.bool false))
 (ldG .slice ⟨m5, 3, none⟩
 (fun (l8 : Sl) => joinG []
 (fun k9 => loopG [(.one (.int .i64))]
 (fun k10 => fun (n11 : Int) => iteG (Decidable.decide (n11 < (↑l8.n : Int)))
 (joinG []
 (fun k12 => idxG l8.a l8.n n11 1
 (fun (a13 : Addr) => ldG .str a13
 (fun (s14 : ByteArray) => callG Tryz.prog 93 #[(.string s14)] [(.one .bool)]
 (fun (b15 : Bool) => iteG (!b15)
 (retG (.bool false))
 (k12)))))
 (k10 (IntKind.wrap IntKind.i64 (n11 + (1 : Int)))))
 (k9)) (0 : Int))
 (ldG .slice ⟨m5, 3, none⟩
 (fun (l16 : Sl) => callG Tryz.prog 117 #[(.slice l16.a l16.n l16.c)] [(.one .any)]
 (fun (v17 : Value) => callG Tryz.prog 116 #[v17] [(.one .slice)]
 (fun (l18 : Sl) => drewG
 (ldG .slice ⟨m5, 3, none⟩
 (fun (l19 : Sl) => callG Tryz.prog 118 #[(.slice l18.a l18.n l18.c)] [(.one .slice)]
 (fun (l20 : Sl) => keepG [(Prod.mk ⟨m5, 3, none⟩ [(.slice l19.a l19.n l19.c)])]
 (retG (.bool ((↑l20.n : Int) == (↑l19.n : Int))))))))))))))))
theorem e90 : denF Tryz.prog (GA Tryz.prog) Tryz.f90 [(.agg [(.int .i64), .str, .str, .slice, .slice])] (.seq .leaf (.seq .leaf (.seq (.seq .leaf (.block (sl Tryz.prog []) (.loop (sl Tryz.prog [(16, 3)]) (.seq .leaf (.seq .leaf (.seq (.block (sl Tryz.prog []) .leaf) .leaf)))))) .leaf))) = t90 := by kernel_rfl
theorem c90 (x0 : Int) (x1 : ByteArray) (x2 : ByteArray) (x3 : Sl) (x4 : Sl) {R : Ending → World → Prop} {w : World} (h : t90 x0 x1 x2 x3 x4 R w) : Calls Tryz.prog 90 #[.agg #[.int .i64 x0, .string x1, .string x2, .slice x3.a x3.n x3.c, .slice x4.a x4.n x4.c]] w R :=
  lift mixed Tryz.func90 e90 rfl ((x0, x1, x2, x3, x4, ()), ()) R w h
def t92 : ByteArray → G :=
 fun (s0 : ByteArray) => joinG [(.one .bool)]
 (fun k1 => iteG (ByteArray.toList s0 == ByteArray.toList (ByteArray.mk #[(73 : UInt8), (110 : UInt8), (116 : UInt8)]))
 (k1 true)
 (iteG (ByteArray.toList s0 == ByteArray.toList (ByteArray.mk #[(66 : UInt8), (111 : UInt8), (111 : UInt8), (108 : UInt8)]))
 (k1 true)
 (iteG (ByteArray.toList s0 == ByteArray.toList (ByteArray.mk #[(84 : UInt8), (101 : UInt8), (120 : UInt8), (116 : UInt8)]))
 (k1 true)
 (k1 (ByteArray.toList s0 == ByteArray.toList (ByteArray.mk #[(65 : UInt8), (110 : UInt8), (121 : UInt8)]))))))
 (fun (b2 : Bool) => retG (.bool b2))
theorem e92 : denF Tryz.prog (GA Tryz.prog) Tryz.f92 [(.one .str)] (.seq .leaf (.seq (.r (sl Tryz.prog [(2, 4)])) .leaf)) = t92 := by kernel_rfl
theorem c92 (x0 : ByteArray) {R : Ending → World → Prop} {w : World} (h : t92 x0 R w) : Calls Tryz.prog 92 #[.string x0] w R :=
  lift mixed Tryz.func92 e92 rfl ((x0, ()), ()) R w h
end Go.Proofs.YticokfpaoiekgaaGreatDoor
end
