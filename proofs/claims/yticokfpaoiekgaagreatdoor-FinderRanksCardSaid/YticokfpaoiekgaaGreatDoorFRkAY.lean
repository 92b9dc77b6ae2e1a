/- The finder law behind FRanksCard: one part of its proof (joined by program out of my own texts). No condition. -/
import Derived.Test.YticokfpaoiekgaaGreatDoorFRkAX
section
set_option maxRecDepth 100000
namespace Go.Proofs.YticokfpaoiekgaaGreatDoor
open Go.Lift
def t3 : Int → ByteArray → ByteArray → Sl → Sl → Int → ByteArray → ByteArray → Sl → Sl → G :=
 fun (n0 : Int) (s1 : ByteArray) => fun (s2 : ByteArray) (l3 : Sl) => fun (l4 : Sl) (n5 : Int) => fun (s6 : ByteArray) (s7 : ByteArray) => fun (l8 : Sl) (l9 : Sl) => newG (Obj.cells #[(.int .i64 n0), (.string s1), (.string s2), (.slice l3.a l3.n l3.c), (.slice l4.a l4.n l4.c)] 25 (Prod.mk 0 0))
 (fun (m10 : Nat) => newG (Obj.cells #[(.int .i64 n5), (.string s6), (.string s7), (.slice l8.a l8.n l8.c), (.slice l9.a l9.n l9.c)] 25 (Prod.mk 0 0))
 (fun (m11 : Nat) => joinG [(.one .bool)]
 (fun k12 => drewG
 (ldG (.int .i64) ⟨m10, 0, none⟩
 (fun (n13 : Int) => ldG .str ⟨m10, 1, none⟩
 (fun (s14 : ByteArray) => ldG .str ⟨m10, 2, none⟩
 (fun (s15 : ByteArray) => ldG .slice ⟨m10, 3, none⟩
 (fun (l16 : Sl) => ldG .slice ⟨m10, 4, none⟩
 (fun (l17 : Sl) => ldG (.int .i64) ⟨m11, 0, none⟩
 (fun (n18 : Int) => ldG .str ⟨m11, 1, none⟩
 (fun (s19 : ByteArray) => ldG .str ⟨m11, 2, none⟩
 (fun (s20 : ByteArray) => ldG .slice ⟨m11, 3, none⟩
 (fun (l21 : Sl) => ldG .slice ⟨m11, 4, none⟩
 (fun (l22 : Sl) => ldG (.int .i64) ⟨m10, 0, none⟩
 (fun (n23 : Int) => ldG .str ⟨m10, 1, none⟩
 (fun (s24 : ByteArray) => ldG .str ⟨m10, 2, none⟩
 (fun (s25 : ByteArray) => ldG .slice ⟨m10, 3, none⟩
 (fun (l26 : Sl) => ldG .slice ⟨m10, 4, none⟩
 (fun (l27 : Sl) => ldG (.int .i64) ⟨m11, 0, none⟩
 (fun (n28 : Int) => ldG .str ⟨m11, 1, none⟩
 (fun (s29 : ByteArray) => ldG .str ⟨m11, 2, none⟩
 (fun (s30 : ByteArray) => ldG .slice ⟨m11, 3, none⟩
 (fun (l31 : Sl) => ldG .slice ⟨m11, 4, none⟩
 (fun (l32 : Sl) => callG Tryz.prog 9 #[(.agg #[(.int .i64 n13), (.string s14), (.string s15), (.slice l16.a l16.n l16.c), (.slice l17.a l17.n l17.c)]), (.agg #[(.int .i64 n18), (.string s19), (.string s20), (.slice l21.a l21.n l21.c), (.slice l22.a l22.n l22.c)])] [(.one (.int .i64))]
 (fun (n33 : Int) => keepG [(Prod.mk ⟨m11, 0, none⟩ [(.int .i64 n28), (.string s29), (.string s30), (.slice l31.a l31.n l31.c), (.slice l32.a l32.n l32.c)]), (Prod.mk ⟨m10, 0, none⟩ [(.int .i64 n23), (.string s24), (.string s25), (.slice l26.a l26.n l26.c), (.slice l27.a l27.n l27.c)])]
 (callG Tryz.prog 10 #[(.agg #[(.int .i64 n23), (.string s24), (.string s25), (.slice l26.a l26.n l26.c), (.slice l27.a l27.n l27.c)]), (.agg #[(.int .i64 n28), (.string s29), (.string s30), (.slice l31.a l31.n l31.c), (.slice l32.a l32.n l32.c)])] [(.one (.int .i64))]
 (fun (n34 : Int) => iteG (n33 == n34)
 (ldG (.int .i64) ⟨m11, 0, none⟩
 (fun (n35 : Int) => ldG .str ⟨m11, 1, none⟩
 (fun (s36 : ByteArray) => ldG .str ⟨m11, 2, none⟩
 (fun (s37 : ByteArray) => ldG .slice ⟨m11, 3, none⟩
 (fun (l38 : Sl) => ldG .slice ⟨m11, 4, none⟩
 (fun (l39 : Sl) => ldG (.int .i64) ⟨m10, 0, none⟩
 (fun (n40 : Int) => ldG .str ⟨m10, 1, none⟩
 (fun (s41 : ByteArray) => ldG .str ⟨m10, 2, none⟩
 (fun (s42 : ByteArray) => ldG .slice ⟨m10, 3, none⟩
 (fun (l43 : Sl) => ldG .slice ⟨m10, 4, none⟩
 (fun (l44 : Sl) => ldG (.int .i64) ⟨m11, 0, none⟩
 (fun (n45 : Int) => ldG .str ⟨m11, 1, none⟩
 (fun (s46 : ByteArray) => ldG .str ⟨m11, 2, none⟩
 (fun (s47 : ByteArray) => ldG .slice ⟨m11, 3, none⟩
 (fun (l48 : Sl) => ldG .slice ⟨m11, 4, none⟩
 (fun (l49 : Sl) => ldG (.int .i64) ⟨m10, 0, none⟩
 (fun (n50 : Int) => ldG .str ⟨m10, 1, none⟩
 (fun (s51 : ByteArray) => ldG .str ⟨m10, 2, none⟩
 (fun (s52 : ByteArray) => ldG .slice ⟨m10, 3, none⟩
 (fun (l53 : Sl) => ldG .slice ⟨m10, 4, none⟩
 (fun (l54 : Sl) => callG Tryz.prog 9 #[(.agg #[(.int .i64 n35), (.string s36), (.string s37), (.slice l38.a l38.n l38.c), (.slice l39.a l39.n l39.c)]), (.agg #[(.int .i64 n40), (.string s41), (.string s42), (.slice l43.a l43.n l43.c), (.slice l44.a l44.n l44.c)])] [(.one (.int .i64))]
 (fun (n55 : Int) => keepG [(Prod.mk ⟨m10, 0, none⟩ [(.int .i64 n50), (.string s51), (.string s52), (.slice l53.a l53.n l53.c), (.slice l54.a l54.n l54.c)]), (Prod.mk ⟨m11, 0, none⟩ [(.int .i64 n45), (.string s46), (.string s47), (.slice l48.a l48.n l48.c), (.slice l49.a l49.n l49.c)]), (Prod.mk ⟨m11, 0, none⟩ [(.int .i64 n28), (.string s29), (.string s30), (.slice l31.a l31.n l31.c), (.slice l32.a l32.n l32.c)]), (Prod.mk ⟨m10, 0, none⟩ [(.int .i64 n23), (.string s24), (.string s25), (.slice l26.a l26.n l26.c), (.slice l27.a l27.n l27.c)]), (Prod.mk ⟨m11, 0, none⟩ [(.int .i64 n18), (.string s19), (.string s20), (.slice l21.a l21.n l21.c), (.slice l22.a l22.n l22.c)]), (Prod.mk ⟨m10, 0, none⟩ [(.int .i64 n13), (.string s14), (.string s15), (.slice l16.a l16.n l16.c), (.slice l17.a l17.n l17.c)])]
 (callG Tryz.prog 10 #[(.agg #[(.int .i64 n45), (.string s46), (.string s47), (.slice l48.a l48.n l48.c), (.slice l49.a l49.n l49.c)]), (.agg #[(.int .i64 n50), (.string s51), (.string s52), (.slice l53.a l53.n l53.c), (.slice l54.a l54.n l54.c)])] [(.one (.int .i64))]
 (fun (n56 : Int) => keepG [(Prod.mk ⟨m11, 0, none⟩ [(.int .i64 n28), (.string s29), (.string s30), (.slice l31.a l31.n l31.c), (.slice l32.a l32.n l32.c)]), (Prod.mk ⟨m10, 0, none⟩ [(.int .i64 n23), (.string s24), (.string s25), (.slice l26.a l26.n l26.c), (.slice l27.a l27.n l27.c)]), (Prod.mk ⟨m11, 0, none⟩ [(.int .i64 n18), (.string s19), (.string s20), (.slice l21.a l21.n l21.c), (.slice l22.a l22.n l22.c)]), (Prod.mk ⟨m10, 0, none⟩ [(.int .i64 n13), (.string s14), (.string s15), (.slice l16.a l16.n l16.c), (.slice l17.a l17.n l17.c)])]
 (iteG (n55 == n56)
 (callG Tryz.prog 11 #[] [(.one .bool)]
 (fun (b57 : Bool) => keepG [(Prod.mk ⟨m10, 0, none⟩ [(.int .i64 n50), (.string s51), (.string s52), (.slice l53.a l53.n l53.c), (.slice l54.a l54.n l54.c)]), (Prod.mk ⟨m11, 0, none⟩ [(.int .i64 n45), (.string s46), (.string s47), (.slice l48.a l48.n l48.c), (.slice l49.a l49.n l49.c)]), (Prod.mk ⟨m10, 0, none⟩ [(.int .i64 n40), (.string s41), (.string s42), (.slice l43.a l43.n l43.c), (.slice l44.a l44.n l44.c)]), (Prod.mk ⟨m11, 0, none⟩ [(.int .i64 n35), (.string s36), (.string s37), (.slice l38.a l38.n l38.c), (.slice l39.a l39.n l39.c)]), (Prod.mk ⟨m11, 0, none⟩ [(.int .i64 n28), (.string s29), (.string s30), (.slice l31.a l31.n l31.c), (.slice l32.a l32.n l32.c)]), (Prod.mk ⟨m10, 0, none⟩ [(.int .i64 n23), (.string s24), (.string s25), (.slice l26.a l26.n l26.c), (.slice l27.a l27.n l27.c)]), (Prod.mk ⟨m11, 0, none⟩ [(.int .i64 n18), (.string s19), (.string s20), (.slice l21.a l21.n l21.c), (.slice l22.a l22.n l22.c)]), (Prod.mk ⟨m10, 0, none⟩ [(.int .i64 n13), (.string s14), (.string s15), (.slice l16.a l16.n l16.c), (.slice l17.a l17.n l17.c)])]
 (k12 b57)))
 (k12 false))))))))))))))))))))))))))
 (k12 false))))))))))))))))))))))))))
 (fun (b58 : Bool) => retG (.bool b58))))
theorem e3 : denF Tryz.prog (GA Tryz.prog) Tryz.f3 [(.agg [(.int .i64), .str, .str, .slice, .slice]), (.agg [(.int .i64), .str, .str, .slice, .slice])] (.seq .leaf (.seq (.r (sl Tryz.prog [(4, 4)])) .leaf)) = t3 := by kernel_rfl
theorem c3 (x0 : Int) (x1 : ByteArray) (x2 : ByteArray) (x3 : Sl) (x4 : Sl) (x5 : Int) (x6 : ByteArray) (x7 : ByteArray) (x8 : Sl) (x9 : Sl) {R : Ending → World → Prop} {w : World} (h : t3 x0 x1 x2 x3 x4 x5 x6 x7 x8 x9 R w) : Calls Tryz.prog 3 #[.agg #[.int .i64 x0, .string x1, .string x2, .slice x3.a x3.n x3.c, .slice x4.a x4.n x4.c], .agg #[.int .i64 x5, .string x6, .string x7, .slice x8.a x8.n x8.c, .slice x9.a x9.n x9.c]] w R :=
  lift mixed Tryz.func3 e3 rfl ((x0, x1, x2, x3, x4, ()), (x5, x6, x7, x8, x9, ()), ()) R w h
def t4 : Int → ByteArray → ByteArray → Sl → Sl → Int → Sl → G :=
 fun (n0 : Int) (s1 : ByteArray) => fun (s2 : ByteArray) (l3 : Sl) => fun (l4 : Sl) (n5 : Int) (l6 : Sl) => newG (Obj.cells #[(.int .i64 n0), (.string s1), (.string s2), (.slice l3.a l3.n l3.c), (.slice l4.a l4.n l4.c)] 25 (Prod.mk 0 0))
 (fun (m7 : Nat) => callG Tryz.prog 12 #[(.slice l6.a l6.n l6.c)] [(.one .bool)]
 (fun (b8 : Bool) => iteG (!b8)
 (callG Tryz.prog 11 #[] [(.one .bool)]
 (fun (b9 : Bool) => retG (.bool b9)))
 (joinG [(.one .bool)]
 (fun k10 => drewG
 (ldG (.int .i64) ⟨m7, 0, none⟩
 (fun (n11 : Int) => ldG .str ⟨m7, 1, none⟩
 (fun (s12 : ByteArray) => ldG .str ⟨m7, 2, none⟩
 (fun (s13 : ByteArray) => ldG .slice ⟨m7, 3, none⟩
 (fun (l14 : Sl) => ldG .slice ⟨m7, 4, none⟩
 (fun (l15 : Sl) => ldG (.int .i64) ⟨m7, 0, none⟩
 (fun (n16 : Int) => ldG .str ⟨m7, 1, none⟩
 (fun (s17 : ByteArray) => ldG .str ⟨m7, 2, none⟩
 (fun (s18 : ByteArray) => ldG .slice ⟨m7, 3, none⟩
 (fun (l19 : Sl) => ldG .slice ⟨m7, 4, none⟩
 (fun (l20 : Sl) => callG Tryz.prog 14 #[(.agg #[(.int .i64 n11), (.string s12), (.string s13), (.slice l14.a l14.n l14.c), (.slice l15.a l15.n l15.c)]), (.int .i64 n5), (.slice l6.a l6.n l6.c)] [(.one .slice)]
 (fun (l21 : Sl) => keepG [(Prod.mk ⟨m7, 0, none⟩ [(.int .i64 n16), (.string s17), (.string s18), (.slice l19.a l19.n l19.c), (.slice l20.a l20.n l20.c)])]
 (callG Tryz.prog 15 #[(.agg #[(.int .i64 n16), (.string s17), (.string s18), (.slice l19.a l19.n l19.c), (.slice l20.a l20.n l20.c)]), (.int .i64 n5), (.slice l6.a l6.n l6.c)] [(.one .slice)]
 (fun (l22 : Sl) => callG Tryz.prog 13 #[(.slice l21.a l21.n l21.c), (.slice l22.a l22.n l22.c)] [(.one .bool)]
 (fun (b23 : Bool) => iteG b23
 (callG Tryz.prog 11 #[] [(.one .bool)]
 (fun (b24 : Bool) => keepG [(Prod.mk ⟨m7, 0, none⟩ [(.int .i64 n16), (.string s17), (.string s18), (.slice l19.a l19.n l19.c), (.slice l20.a l20.n l20.c)]), (Prod.mk ⟨m7, 0, none⟩ [(.int .i64 n11), (.string s12), (.string s13), (.slice l14.a l14.n l14.c), (.slice l15.a l15.n l15.c)])]
 (k10 b24)))
 (k10 false)))))))))))))))))
 (fun (b25 : Bool) => retG (.bool b25)))))
theorem e4 : denF Tryz.prog (GA Tryz.prog) Tryz.f4 [(.agg [(.int .i64), .str, .str, .slice, .slice]), (.one (.int .i64)), (.one .slice)] (.seq .leaf (.seq .leaf (.seq (.r (sl Tryz.prog [(6, 4)])) .leaf))) = t4 := by kernel_rfl
theorem c4 (x0 : Int) (x1 : ByteArray) (x2 : ByteArray) (x3 : Sl) (x4 : Sl) (x5 : Int) (x6 : Sl) {R : Ending → World → Prop} {w : World} (h : t4 x0 x1 x2 x3 x4 x5 x6 R w) : Calls Tryz.prog 4 #[.agg #[.int .i64 x0, .string x1, .string x2, .slice x3.a x3.n x3.c, .slice x4.a x4.n x4.c], .int .i64 x5, .slice x6.a x6.n x6.c] w R :=
  lift mixed Tryz.func4 e4 rfl ((x0, x1, x2, x3, x4, ()), (x5, ()), (x6, ()), ()) R w h
def t5 : ByteArray → Int → Sl → G :=
 fun (s0 : ByteArray) (n1 : Int) (l2 : Sl) => callG Tryz.prog 12 #[(.slice l2.a l2.n l2.c)] [(.one .bool)]
 (fun (b3 : Bool) => iteG (!b3)
 (callG Tryz.prog 11 #[] [(.one .bool)]
 (fun (b4 : Bool) => retG (.bool b4)))
 (joinG [(.one .bool)]
 (fun k5 => callG Tryz.prog 16 #[(.string s0), (.int .i64 n1), (.slice l2.a l2.n l2.c)] [(.one .slice)]
 (fun (l6 : Sl) => callG Tryz.prog 17 #[(.string s0), (.int .i64 n1), (.slice l2.a l2.n l2.c)] [(.one .slice)]
 (fun (l7 : Sl) => callG Tryz.prog 13 #[(.slice l6.a l6.n l6.c), (.slice l7.a l7.n l7.c)] [(.one .bool)]
 (fun (b8 : Bool) => iteG b8
 (callG Tryz.prog 11 #[] [(.one .bool)]
 (fun (b9 : Bool) => k5 b9))
 (k5 false)))))
 (fun (b10 : Bool) => retG (.bool b10))))
theorem e5 : denF Tryz.prog (GA Tryz.prog) Tryz.f5 [(.one .str), (.one (.int .i64)), (.one .slice)] (.seq .leaf (.seq .leaf (.seq (.r (sl Tryz.prog [(6, 4)])) .leaf))) = t5 := by kernel_rfl
theorem c5 (x0 : ByteArray) (x1 : Int) (x2 : Sl) {R : Ending → World → Prop} {w : World} (h : t5 x0 x1 x2 R w) : Calls Tryz.prog 5 #[.string x0, .int .i64 x1, .slice x2.a x2.n x2.c] w R :=
  lift mixed Tryz.func5 e5 rfl ((x0, ()), (x1, ()), (x2, ()), ()) R w h
def t6 : Int → ByteArray → ByteArray → Sl → Sl → Int → Sl → G :=
 fun (n0 : Int) (s1 : ByteArray) => fun (s2 : ByteArray) (l3 : Sl) => fun (l4 : Sl) (n5 : Int) (l6 : Sl) => newG (Obj.cells #[(.int .i64 n0), (.string s1), (.string s2), (.slice l3.a l3.n l3.c), (.slice l4.a l4.n l4.c)] 25 (Prod.mk 0 0))
 (fun (m7 : Nat) => joinG [(.one .bool)]
 (fun k8 => callG Tryz.prog 12 #[(.slice l6.a l6.n l6.c)] [(.one .bool)]
 (fun (b9 : Bool) => iteG (!b9)
 (k8 true)
 (k8 (Decidable.decide (n5 < (0 : Int))))))
 (fun (b10 : Bool) => iteG b10
 (callG Tryz.prog 11 #[] [(.one .bool)]
 (fun (b11 : Bool) => retG (.bool b11)))
 (ldG (.int .i64) ⟨m7, 0, none⟩
 (fun (n12 : Int) => ldG .str ⟨m7, 1, none⟩
 (fun (s13 : ByteArray) => ldG .str ⟨m7, 2, none⟩
 (fun (s14 : ByteArray) => ldG .slice ⟨m7, 3, none⟩
 (fun (l15 : Sl) => ldG .slice ⟨m7, 4, none⟩
 (fun (l16 : Sl) => callG Tryz.prog 14 #[(.agg #[(.int .i64 n12), (.string s13), (.string s14), (.slice l15.a l15.n l15.c), (.slice l16.a l16.n l16.c)]), (.int .i64 n5), (.slice l6.a l6.n l6.c)] [(.one .slice)]
 (fun (l17 : Sl) => iteG (Decidable.decide ((↑l17.n : Int) > n5))
 (retG (.bool false))
 (newG (Obj.cells #[(.int .i64 (0 : Int)), (.int .i64 (0 : Int)), (.int .i64 (0 : Int)), (.int .i64 (0 : Int))] 3 (Prod.mk 0 0))
 (fun (m18 : Nat) => joinG []
 (fun k19 => loopG [(.one (.int .i64))]
 (fun k20 => fun (n21 : Int) => iteG (Decidable.decide (n21 < (↑l6.n : Int)))
 (joinG []
 (fun k22 => joinG []
 (fun k23 => loopG [(.one (.int .i64))]
 (fun k24 => fun (n25 : Int) => idxG l6.a l6.n n21 2
 (fun (a26 : Addr) => ldG .slice (Addr.add a26 1)
 (fun (l27 : Sl) => iteG (Decidable.decide (n25 < (↑l27.n : Int)))
 (joinG []
 (fun k28 => idxG l6.a l6.n n21 2
 (fun (a29 : Addr) => ldG .slice (Addr.add a29 1)
 (fun (l30 : Sl) => idxG l30.a l30.n n25 7
 (fun (a31 : Addr) => ldG (.int .i64) (Addr.add a31 0)
 (fun (n32 : Int) => ldG .str (Addr.add a31 1)
 (fun (s33 : ByteArray) => ldG (.int .i64) (Addr.add a31 2)
 (fun (n34 : Int) => ldG .str (Addr.add a31 3)
 (fun (s35 : ByteArray) => ldG .str (Addr.add a31 4)
 (fun (s36 : ByteArray) => ldG .slice (Addr.add a31 5)
 (fun (l37 : Sl) => ldG .slice (Addr.add a31 6)
 (fun (l38 : Sl) => newG (Obj.cells #[(.int .i64 (0 : Int)), (.string (ByteArray.mk #[])), (.int .i64 (0 : Int)), (.string (ByteArray.mk #[])), (.string (ByteArray.mk #[])), (.slice none 0 0), (.slice none 0 0)] 44 (Prod.mk 0 0))
 (fun (m39 : Nat) => stG ⟨m39, 0, none⟩ (.int .i64 n32)
 (stG ⟨m39, 1, none⟩ (.string s33)
 (stG ⟨m39, 2, none⟩ (.int .i64 n34)
 (stG ⟨m39, 3, none⟩ (.string s35)
 (stG ⟨m39, 4, none⟩ (.string s36)
 (stG ⟨m39, 5, none⟩ (.slice l37.a l37.n l37.c)
 (stG ⟨m39, 6, none⟩ (.slice l38.a l38.n l38.c)
 (ldG (.int .i64) ⟨m39, 0, none⟩
 (fun (n40 : Int) => joinG []
 (fun k41 => iteG (n40 == (3 : Int))
 (ldG (.int .i64) ⟨m39, 2, none⟩
 (fun (n42 : Int) => ldG .str ⟨m39, 3, none⟩
 (fun (s43 : ByteArray) => ldG .str ⟨m39, 4, none⟩
 (fun (s44 : ByteArray) => ldG .slice ⟨m39, 5, none⟩
 (fun (l45 : Sl) => ldG .slice ⟨m39, 6, none⟩
 (fun (l46 : Sl) => ldG (.int .i64) ⟨m7, 0, none⟩
 (fun (n47 : Int) => ldG .str ⟨m7, 1, none⟩
 (fun (s48 : ByteArray) => ldG .str ⟨m7, 2, none⟩
 (fun (s49 : ByteArray) => ldG .slice ⟨m7, 3, none⟩
 (fun (l50 : Sl) => ldG .slice ⟨m7, 4, none⟩
 (fun (l51 : Sl) => callG Tryz.prog 9 #[(.agg #[(.int .i64 n42), (.string s43), (.string s44), (.slice l45.a l45.n l45.c), (.slice l46.a l46.n l46.c)]), (.agg #[(.int .i64 n47), (.string s48), (.string s49), (.slice l50.a l50.n l50.c), (.slice l51.a l51.n l51.c)])] [(.one (.int .i64))]
 (fun (n52 : Int) => idxG (some ⟨m18, 0, none⟩) 4 n52 1
 (fun (a53 : Addr) => ldG (.int .i64) a53
 (fun (n54 : Int) => idxG (some ⟨m18, 0, none⟩) 4 n52 1
 (fun (a55 : Addr) => stG a55 (.int .i64 (IntKind.wrap IntKind.i64 (n54 + (1 : Int))))
 (k41))))))))))))))))
 (k41))
 (k28)))))))))))))))))))))
 (k24 (IntKind.wrap IntKind.i64 (n25 + (1 : Int)))))
 (k23)))) (0 : Int))
 (k22))
 (k20 (IntKind.wrap IntKind.i64 (n21 + (1 : Int)))))
 (k19)) (0 : Int))
 (joinG []
 (fun k56 => loopG [(.one (.int .i64))]
 (fun k57 => fun (n58 : Int) => iteG (Decidable.decide (n58 < (↑l17.n : Int)))
 (joinG []
 (fun k59 => joinG [(.one .bool)]
 (fun k60 => drewG
 (idxG l17.a l17.n n58 3
 (fun (a61 : Addr) => ldG (.int .i64) (Addr.add a61 2)
 (fun (n62 : Int) => iteG (Decidable.decide (n62 < (1 : Int)))
 (k60 true)
 (idxG l17.a l17.n n58 3
 (fun (a63 : Addr) => ldG (.int .i64) (Addr.add a63 2)
 (fun (n64 : Int) => iteG (Decidable.decide (n64 > (3 : Int)))
 (k60 true)
 (iteG (Decidable.decide (n58 > (0 : Int)))
 (idxG l17.a l17.n (IntKind.wrap IntKind.i64 (n58 - (1 : Int))) 3
 (fun (a65 : Addr) => ldG (.int .i64) (Addr.add a65 2)
 (fun (n66 : Int) => idxG l17.a l17.n n58 3
 (fun (a67 : Addr) => ldG (.int .i64) (Addr.add a67 2)
 (fun (n68 : Int) => iteG (Decidable.decide (n66 < n68))
 (k60 true)
 (idxG l17.a l17.n n58 3
 (fun (a69 : Addr) => ldG .str (Addr.add a69 0)
 (fun (s70 : ByteArray) => ldG .str (Addr.add a69 1)
 (fun (s71 : ByteArray) => ldG (.int .i64) (Addr.add a69 2)
 (fun (n72 : Int) => ldG (.int .i64) ⟨m7, 0, none⟩
 (fun (n73 : Int) => ldG .str ⟨m7, 1, none⟩
 (fun (s74 : ByteArray) => ldG .str ⟨m7, 2, none⟩
 (fun (s75 : ByteArray) => ldG .slice ⟨m7, 3, none⟩
 (fun (l76 : Sl) => ldG .slice ⟨m7, 4, none⟩
 (fun (l77 : Sl) => callG Tryz.prog 18 #[(.agg #[(.string s70), (.string s71), (.int .i64 n72)]), (.agg #[(.int .i64 n73), (.string s74), (.string s75), (.slice l76.a l76.n l76.c), (.slice l77.a l77.n l77.c)]), (.slice l6.a l6.n l6.c)] [(.one .bool)]
 (fun (b78 : Bool) => keepG [(Prod.mk (Addr.add a67 2) [(.int .i64 n68)]), (Prod.mk (Addr.add a65 2) [(.int .i64 n66)]), (Prod.mk (Addr.add a63 2) [(.int .i64 n64)]), (Prod.mk (Addr.add a61 2) [(.int .i64 n62)])]
 (k60 (!b78))))))))))))))))))
 (idxG l17.a l17.n n58 3
 (fun (a79 : Addr) => ldG .str (Addr.add a79 0)
 (fun (s80 : ByteArray) => ldG .str (Addr.add a79 1)
 (fun (s81 : ByteArray) => ldG (.int .i64) (Addr.add a79 2)
 (fun (n82 : Int) => ldG (.int .i64) ⟨m7, 0, none⟩
 (fun (n83 : Int) => ldG .str ⟨m7, 1, none⟩
 (fun (s84 : ByteArray) => ldG .str ⟨m7, 2, none⟩
 (fun (s85 : ByteArray) => ldG .slice ⟨m7, 3, none⟩
 (fun (l86 : Sl) => ldG .slice ⟨m7, 4, none⟩
 (fun (l87 : Sl) => callG Tryz.prog 18 #[(.agg #[(.string s80), (.string s81), (.int .i64 n82)]), (.agg #[(.int .i64 n83), (.string s84), (.string s85), (.slice l86.a l86.n l86.c), (.slice l87.a l87.n l87.c)]), (.slice l6.a l6.n l6.c)] [(.one .bool)]
 (fun (b88 : Bool) => keepG [(Prod.mk (Addr.add a63 2) [(.int .i64 n64)]), (Prod.mk (Addr.add a61 2) [(.int .i64 n62)])]
 (k60 (!b88)))))))))))))))))))))
 (fun (b89 : Bool) => iteG b89
 (retG (.bool false))
 (idxG l17.a l17.n n58 3
 (fun (a90 : Addr) => ldG (.int .i64) (Addr.add a90 2)
 (fun (n91 : Int) => idxG (some ⟨m18, 0, none⟩) 4 n91 1
 (fun (a92 : Addr) => ldG (.int .i64) a92
 (fun (n93 : Int) => idxG (some ⟨m18, 0, none⟩) 4 n91 1
 (fun (a94 : Addr) => stG a94 (.int .i64 (IntKind.wrap IntKind.i64 (n93 - (1 : Int))))
 (k59)))))))))
 (k57 (IntKind.wrap IntKind.i64 (n58 + (1 : Int)))))
 (k56)) (0 : Int))
 (joinG []
 (fun k95 => loopG [(.one (.int .i64))]
 (fun k96 => fun (n97 : Int) => iteG (Decidable.decide (n97 ≤ (3 : Int)))
 (joinG []
 (fun k98 => joinG [(.one .bool)]
 (fun k99 => idxG (some ⟨m18, 0, none⟩) 4 n97 1
 (fun (a100 : Addr) => ldG (.int .i64) a100
 (fun (n101 : Int) => iteG (Decidable.decide (n101 < (0 : Int)))
 (k99 true)
 (idxG (some ⟨m18, 0, none⟩) 4 n97 1
 (fun (a102 : Addr) => ldG (.int .i64) a102
 (fun (n103 : Int) => iteG (Decidable.decide (n103 > (0 : Int)))
 (iteG (Decidable.decide ((↑l17.n : Int) < n5))
 (k99 true)
 (iteG (Decidable.decide ((↑l17.n : Int) > (0 : Int)))
 (idxG l17.a l17.n (IntKind.wrap IntKind.i64 ((↑l17.n : Int) - (1 : Int))) 3
 (fun (a104 : Addr) => ldG (.int .i64) (Addr.add a104 2)
 (fun (n105 : Int) => k99 (Decidable.decide (n97 > n105)))))
 (k99 false)))
 (k99 false)))))))
 (fun (b106 : Bool) => iteG b106
 (retG (.bool false))
 (k98)))
 (k96 (IntKind.wrap IntKind.i64 (n97 + (1 : Int)))))
 (k95)) (1 : Int))
 (callG Tryz.prog 11 #[] [(.one .bool)]
 (fun (b107 : Bool) => retG (.bool b107))))))))))))))))
theorem e6 : denF Tryz.prog (GA Tryz.prog) Tryz.f6 [(.agg [(.int .i64), .str, .str, .slice, .slice]), (.one (.int .i64)), (.one .slice)] (.seq .leaf (.seq (.seq (.r (sl Tryz.prog [(20, 4)])) .leaf) (.seq .leaf (.seq .leaf (.seq .leaf (.seq (.seq .leaf (.block (sl Tryz.prog []) (.loop (sl Tryz.prog [(9, 3)]) (.seq .leaf (.seq (.block (sl Tryz.prog []) (.seq .leaf (.block (sl Tryz.prog []) (.loop (sl Tryz.prog [(10, 3)]) (.seq .leaf (.seq (.block (sl Tryz.prog []) (.seq .leaf (.seq .leaf (.condj (sl Tryz.prog []) .leaf .leaf)))) .leaf)))))) .leaf))))) (.seq (.seq .leaf (.block (sl Tryz.prog []) (.loop (sl Tryz.prog [(12, 3)]) (.seq .leaf (.seq (.block (sl Tryz.prog []) (.seq (.seq (.r (sl Tryz.prog [(114, 4)])) .leaf) .leaf)) .leaf))))) (.seq (.seq .leaf (.block (sl Tryz.prog []) (.loop (sl Tryz.prog [(13, 3)]) (.seq .leaf (.seq (.block (sl Tryz.prog []) (.seq (.r (sl Tryz.prog [(162, 4)])) .leaf)) .leaf))))) .leaf)))))))) = t6 := by kernel_rfl
theorem c6 (x0 : Int) (x1 : ByteArray) (x2 : ByteArray) (x3 : Sl) (x4 : Sl) (x5 : Int) (x6 : Sl) {R : Ending → World → Prop} {w : World} (h : t6 x0 x1 x2 x3 x4 x5 x6 R w) : Calls Tryz.prog 6 #[.agg #[.int .i64 x0, .string x1, .string x2, .slice x3.a x3.n x3.c, .slice x4.a x4.n x4.c], .int .i64 x5, .slice x6.a x6.n x6.c] w R :=
  lift mixed Tryz.func6 e6 rfl ((x0, x1, x2, x3, x4, ()), (x5, ()), (x6, ()), ()) R w h
def t7 : Int → ByteArray → ByteArray → Sl → Sl → Int → Int → Sl → G :=
 fun (n0 : Int) (s1 : ByteArray) => fun (s2 : ByteArray) (l3 : Sl) => fun (l4 : Sl) (n5 : Int) => fun (n6 : Int) (l7 : Sl) => newG (Obj.cells #[(.int .i64 n0), (.string s1), (.string s2), (.slice l3.a l3.n l3.c), (.slice l4.a l4.n l4.c)] 25 (Prod.mk 0 0))
 (fun (m8 : Nat) => newG (Obj.cells #[(.int .i64 n5), (.int .i64 n6)] 48 (Prod.mk 0 0))
 (fun (m9 : Nat) => joinG [(.one .bool)]
 (fun k10 => callG Tryz.prog 12 #[(.slice l7.a l7.n l7.c)] [(.one .bool)]
 (fun (b11 : Bool) => iteG (!b11)
 (k10 true)
 (idxG (some ⟨m9, 0, none⟩) 2 (0 : Int) 1
 (fun (a12 : Addr) => ldG (.int .i64) a12
 (fun (n13 : Int) => iteG (Decidable.decide (n13 < (0 : Int)))
 (k10 true)
 (idxG (some ⟨m9, 0, none⟩) 2 (1 : Int) 1
 (fun (a14 : Addr) => ldG (.int .i64) a14
 (fun (n15 : Int) => idxG (some ⟨m9, 0, none⟩) 2 (0 : Int) 1
 (fun (a16 : Addr) => ldG (.int .i64) a16
 (fun (n17 : Int) => k10 (Decidable.decide (n15 < n17))))))))))))
 (fun (b18 : Bool) => iteG b18
 (callG Tryz.prog 11 #[] [(.one .bool)]
 (fun (b19 : Bool) => retG (.bool b19)))
 (drewG
 (ldG (.int .i64) ⟨m8, 0, none⟩
 (fun (n20 : Int) => ldG .str ⟨m8, 1, none⟩
 (fun (s21 : ByteArray) => ldG .str ⟨m8, 2, none⟩
 (fun (s22 : ByteArray) => ldG .slice ⟨m8, 3, none⟩
 (fun (l23 : Sl) => ldG .slice ⟨m8, 4, none⟩
 (fun (l24 : Sl) => idxG (some ⟨m9, 0, none⟩) 2 (0 : Int) 1
 (fun (a25 : Addr) => ldG (.int .i64) a25
 (fun (n26 : Int) => ldG (.int .i64) ⟨m8, 0, none⟩
 (fun (n27 : Int) => ldG .str ⟨m8, 1, none⟩
 (fun (s28 : ByteArray) => ldG .str ⟨m8, 2, none⟩
 (fun (s29 : ByteArray) => ldG .slice ⟨m8, 3, none⟩
 (fun (l30 : Sl) => ldG .slice ⟨m8, 4, none⟩
 (fun (l31 : Sl) => idxG (some ⟨m9, 0, none⟩) 2 (1 : Int) 1
 (fun (a32 : Addr) => ldG (.int .i64) a32
 (fun (n33 : Int) => callG Tryz.prog 14 #[(.agg #[(.int .i64 n20), (.string s21), (.string s22), (.slice l23.a l23.n l23.c), (.slice l24.a l24.n l24.c)]), (.int .i64 n26), (.slice l7.a l7.n l7.c)] [(.one .slice)]
 (fun (l34 : Sl) => keepG [(Prod.mk a32 [(.int .i64 n33)]), (Prod.mk ⟨m8, 0, none⟩ [(.int .i64 n27), (.string s28), (.string s29), (.slice l30.a l30.n l30.c), (.slice l31.a l31.n l31.c)])]
 (callG Tryz.prog 14 #[(.agg #[(.int .i64 n27), (.string s28), (.string s29), (.slice l30.a l30.n l30.c), (.slice l31.a l31.n l31.c)]), (.int .i64 n33), (.slice l7.a l7.n l7.c)] [(.one .slice)]
 (fun (l35 : Sl) => drewG
 (ldG .str ⟨m8, 2, none⟩
 (fun (s36 : ByteArray) => idxG (some ⟨m9, 0, none⟩) 2 (0 : Int) 1
 (fun (a37 : Addr) => ldG (.int .i64) a37
 (fun (n38 : Int) => ldG .str ⟨m8, 2, none⟩
 (fun (s39 : ByteArray) => idxG (some ⟨m9, 0, none⟩) 2 (1 : Int) 1
 (fun (a40 : Addr) => ldG (.int .i64) a40
 (fun (n41 : Int) => callG Tryz.prog 16 #[(.string s36), (.int .i64 n38), (.slice l7.a l7.n l7.c)] [(.one .slice)]
 (fun (l42 : Sl) => keepG [(Prod.mk a40 [(.int .i64 n41)]), (Prod.mk ⟨m8, 2, none⟩ [(.string s39)])]
 (callG Tryz.prog 16 #[(.string s39), (.int .i64 n41), (.slice l7.a l7.n l7.c)] [(.one .slice)]
 (fun (l43 : Sl) => joinG [(.one .bool)]
 (fun k44 => iteG (Decidable.decide ((↑l35.n : Int) ≥ (↑l34.n : Int)))
 (assumeG (Decidable.decide ((↑l35.c : Int) ≤ (↑l35.c : Int)))
 (resliceG l35.a l35.c (0 : Int) ((↑l34.n : Int)) ((↑l35.c : Int)) 3
 (fun (p45 : Option Addr) => fun (m46 : Nat) (m47 : Nat) => callG Tryz.prog 13 #[(.slice p45 m46 m47), (.slice l34.a l34.n l34.c)] [(.one .bool)]
 (fun (b48 : Bool) => iteG b48
 (iteG (Decidable.decide ((↑l43.n : Int) ≥ (↑l42.n : Int)))
 (assumeG (Decidable.decide ((↑l43.c : Int) ≤ (↑l43.c : Int)))
 (resliceG l43.a l43.c (0 : Int) ((↑l42.n : Int)) ((↑l43.c : Int)) 3
 (fun (p49 : Option Addr) => fun (m50 : Nat) (m51 : Nat) => callG Tryz.prog 13 #[(.slice p49 m50 m51), (.slice l42.a l42.n l42.c)] [(.one .bool)]
 (fun (b52 : Bool) => iteG b52
 (callG Tryz.prog 11 #[] [(.one .bool)]
 (fun (b53 : Bool) => k44 b53))
 (k44 false)))))
 (k44 false))
 (k44 false)))))
 (k44 false))
 (fun (b54 : Bool) => retG (.bool b54))))))))))))))))))))))))))))))))))
theorem e7 : denF Tryz.prog (GA Tryz.prog) Tryz.f7 [(.agg [(.int .i64), .str, .str, .slice, .slice]), (.agg [(.int .i64), (.int .i64)]), (.one .slice)] (.seq .leaf (.seq (.seq (.r (sl Tryz.prog [(25, 4)])) .leaf) (.seq .leaf (.seq .leaf (.seq (.r (sl Tryz.prog [(6, 4)])) .leaf))))) = t7 := by kernel_rfl
theorem c7 (x0 : Int) (x1 : ByteArray) (x2 : ByteArray) (x3 : Sl) (x4 : Sl) (x5 : Int) (x6 : Int) (x7 : Sl) {R : Ending → World → Prop} {w : World} (h : t7 x0 x1 x2 x3 x4 x5 x6 x7 R w) : Calls Tryz.prog 7 #[.agg #[.int .i64 x0, .string x1, .string x2, .slice x3.a x3.n x3.c, .slice x4.a x4.n x4.c], .agg #[.int .i64 x5, .int .i64 x6], .slice x7.a x7.n x7.c] w R :=
  lift mixed Tryz.func7 e7 rfl ((x0, x1, x2, x3, x4, ()), (x5, x6, ()), (x7, ()), ()) R w h
def t8 : Int → ByteArray → ByteArray → Sl → Sl → Int → ByteArray → ByteArray → Sl → Sl → Int → ByteArray → ByteArray → Sl → Sl → G :=
 fun (n0 : Int) (s1 : ByteArray) => fun (s2 : ByteArray) (l3 : Sl) => fun (l4 : Sl) (n5 : Int) => fun (s6 : ByteArray) (s7 : ByteArray) => fun (l8 : Sl) (l9 : Sl) => fun (n10 : Int) (s11 : ByteArray) => fun (s12 : ByteArray) (l13 : Sl) (l14 : Sl) => newG (Obj.cells #[(.int .i64 n0), (.string s1), (.string s2), (.slice l3.a l3.n l3.c), (.slice l4.a l4.n l4.c)] 25 (Prod.mk 0 0))
 (fun (m15 : Nat) => newG (Obj.cells #[(.int .i64 n5), (.string s6), (.string s7), (.slice l8.a l8.n l8.c), (.slice l9.a l9.n l9.c)] 25 (Prod.mk 0 0))
 (fun (m16 : Nat) => newG (Obj.cells #[(.int .i64 n10), (.string s11), (.string s12), (.slice l13.a l13.n l13.c), (.slice l14.a l14.n l14.c)] 25 (Prod.mk 0 0))
 (fun (m17 : Nat) => ldG (.int .i64) ⟨m16, 0, none⟩
 (fun (n18 : Int) => ldG .str ⟨m16, 1, none⟩
 (fun (s19 : ByteArray) => ldG .str ⟨m16, 2, none⟩
 (fun (s20 : ByteArray) => ldG .slice ⟨m16, 3, none⟩
 (fun (l21 : Sl) => ldG .slice ⟨m16, 4, none⟩
 (fun (l22 : Sl) => ldG (.int .i64) ⟨m17, 0, none⟩
 (fun (n23 : Int) => ldG .str ⟨m17, 1, none⟩
 (fun (s24 : ByteArray) => ldG .str ⟨m17, 2, none⟩
 (fun (s25 : ByteArray) => ldG .slice ⟨m17, 3, none⟩
 (fun (l26 : Sl) => ldG .slice ⟨m17, 4, none⟩
 (fun (l27 : Sl) => callG Tryz.prog 19 #[(.agg #[(.int .i64 n18), (.string s19), (.string s20), (.slice l21.a l21.n l21.c), (.slice l22.a l22.n l22.c)]), (.agg #[(.int .i64 n23), (.string s24), (.string s25), (.slice l26.a l26.n l26.c), (.slice l27.a l27.n l27.c)])] [(.one .bool)]
 (fun (b28 : Bool) => iteG (!b28)
 (callG Tryz.prog 11 #[] [(.one .bool)]
 (fun (b29 : Bool) => retG (.bool b29)))
 (drewG
 (ldG (.int .i64) ⟨m15, 0, none⟩
 (fun (n30 : Int) => ldG .str ⟨m15, 1, none⟩
 (fun (s31 : ByteArray) => ldG .str ⟨m15, 2, none⟩
 (fun (s32 : ByteArray) => ldG .slice ⟨m15, 3, none⟩
 (fun (l33 : Sl) => ldG .slice ⟨m15, 4, none⟩
 (fun (l34 : Sl) => ldG (.int .i64) ⟨m16, 0, none⟩
 (fun (n35 : Int) => ldG .str ⟨m16, 1, none⟩
 (fun (s36 : ByteArray) => ldG .str ⟨m16, 2, none⟩
 (fun (s37 : ByteArray) => ldG .slice ⟨m16, 3, none⟩
 (fun (l38 : Sl) => ldG .slice ⟨m16, 4, none⟩
 (fun (l39 : Sl) => ldG (.int .i64) ⟨m15, 0, none⟩
 (fun (n40 : Int) => ldG .str ⟨m15, 1, none⟩
 (fun (s41 : ByteArray) => ldG .str ⟨m15, 2, none⟩
 (fun (s42 : ByteArray) => ldG .slice ⟨m15, 3, none⟩
 (fun (l43 : Sl) => ldG .slice ⟨m15, 4, none⟩
 (fun (l44 : Sl) => ldG (.int .i64) ⟨m17, 0, none⟩
 (fun (n45 : Int) => ldG .str ⟨m17, 1, none⟩
 (fun (s46 : ByteArray) => ldG .str ⟨m17, 2, none⟩
 (fun (s47 : ByteArray) => ldG .slice ⟨m17, 3, none⟩
 (fun (l48 : Sl) => ldG .slice ⟨m17, 4, none⟩
 (fun (l49 : Sl) => callG Tryz.prog 9 #[(.agg #[(.int .i64 n30), (.string s31), (.string s32), (.slice l33.a l33.n l33.c), (.slice l34.a l34.n l34.c)]), (.agg #[(.int .i64 n35), (.string s36), (.string s37), (.slice l38.a l38.n l38.c), (.slice l39.a l39.n l39.c)])] [(.one (.int .i64))]
 (fun (n50 : Int) => keepG [(Prod.mk ⟨m17, 0, none⟩ [(.int .i64 n45), (.string s46), (.string s47), (.slice l48.a l48.n l48.c), (.slice l49.a l49.n l49.c)]), (Prod.mk ⟨m15, 0, none⟩ [(.int .i64 n40), (.string s41), (.string s42), (.slice l43.a l43.n l43.c), (.slice l44.a l44.n l44.c)])]
 (callG Tryz.prog 9 #[(.agg #[(.int .i64 n40), (.string s41), (.string s42), (.slice l43.a l43.n l43.c), (.slice l44.a l44.n l44.c)]), (.agg #[(.int .i64 n45), (.string s46), (.string s47), (.slice l48.a l48.n l48.c), (.slice l49.a l49.n l49.c)])] [(.one (.int .i64))]
 (fun (n51 : Int) => joinG [(.one .bool)]
 (fun k52 => iteG (Decidable.decide (n50 ≥ (2 : Int)))
 (iteG (Decidable.decide (n51 < (2 : Int)))
 (k52 true)
 (iteG (Decidable.decide (n50 ≥ (1 : Int)))
 (k52 (Decidable.decide (n51 < (1 : Int))))
 (k52 false)))
 (iteG (Decidable.decide (n50 ≥ (1 : Int)))
 (k52 (Decidable.decide (n51 < (1 : Int))))
 (k52 false)))
 (fun (b53 : Bool) => iteG b53
 (retG (.bool false))
 (joinG [(.one .bool)]
 (fun k54 => ldG (.int .i64) ⟨m15, 0, none⟩
 (fun (n55 : Int) => ldG .str ⟨m15, 1, none⟩
 (fun (s56 : ByteArray) => ldG .str ⟨m15, 2, none⟩
 (fun (s57 : ByteArray) => ldG .slice ⟨m15, 3, none⟩
 (fun (l58 : Sl) => ldG .slice ⟨m15, 4, none⟩
 (fun (l59 : Sl) => callG Tryz.prog 20 #[(.agg #[(.int .i64 n55), (.string s56), (.string s57), (.slice l58.a l58.n l58.c), (.slice l59.a l59.n l59.c)])] [(.one .bool)]
 (fun (b60 : Bool) => iteG (!b60)
 (callG Tryz.prog 11 #[] [(.one .bool)]
 (fun (b61 : Bool) => k54 b61))
 (ldG (.int .i64) ⟨m16, 0, none⟩
 (fun (n62 : Int) => ldG .str ⟨m16, 1, none⟩
 (fun (s63 : ByteArray) => ldG .str ⟨m16, 2, none⟩
 (fun (s64 : ByteArray) => ldG .slice ⟨m16, 3, none⟩
 (fun (l65 : Sl) => ldG .slice ⟨m16, 4, none⟩
 (fun (l66 : Sl) => callG Tryz.prog 20 #[(.agg #[(.int .i64 n62), (.string s63), (.string s64), (.slice l65.a l65.n l65.c), (.slice l66.a l66.n l66.c)])] [(.one .bool)]
 (fun (b67 : Bool) => iteG (!b67)
 (callG Tryz.prog 11 #[] [(.one .bool)]
 (fun (b68 : Bool) => k54 b68))
 (iteG (n50 != (1 : Int))
 (callG Tryz.prog 11 #[] [(.one .bool)]
 (fun (b69 : Bool) => k54 b69))
 (k54 false))))))))))))))))
 (fun (b70 : Bool) => retG (.bool b70)))))))))))))))))))))))))))))))))))))))))))
theorem e8 : denF Tryz.prog (GA Tryz.prog) Tryz.f8 [(.agg [(.int .i64), .str, .str, .slice, .slice]), (.agg [(.int .i64), .str, .str, .slice, .slice]), (.agg [(.int .i64), .str, .str, .slice, .slice])] (.seq .leaf (.seq .leaf (.seq .leaf (.seq (.seq (.r (sl Tryz.prog [(33, 4)])) .leaf) (.seq (.r (sl Tryz.prog [(6, 4)])) .leaf))))) = t8 := by kernel_rfl
def t9 : Int → ByteArray → ByteArray → Sl → Sl → Int → ByteArray → ByteArray → Sl → Sl → G :=
 fun (n0 : Int) (s1 : ByteArray) => fun (s2 : ByteArray) (l3 : Sl) => fun (l4 : Sl) (n5 : Int) => fun (s6 : ByteArray) (s7 : ByteArray) => fun (l8 : Sl) (l9 : Sl) => newG (Obj.cells #[(.int .i64 n0), (.string s1), (.string s2), (.slice l3.a l3.n l3.c), (.slice l4.a l4.n l4.c)] 25 (Prod.mk 0 0))
 (fun (m10 : Nat) => newG (Obj.cells #[(.int .i64 n5), (.string s6), (.string s7), (.slice l8.a l8.n l8.c), (.slice l9.a l9.n l9.c)] 25 (Prod.mk 0 0))
 (fun (m11 : Nat) => joinG []
 (fun k12 => ldG (.int .i64) ⟨m10, 0, none⟩
 (fun (n13 : Int) => ldG .str ⟨m10, 1, none⟩
 (fun (s14 : ByteArray) => ldG .str ⟨m10, 2, none⟩
 (fun (s15 : ByteArray) => ldG .slice ⟨m10, 3, none⟩
 (fun (l16 : Sl) => ldG .slice ⟨m10, 4, none⟩
 (fun (l17 : Sl) => ldG (.int .i64) ⟨m11, 0, none⟩
 (fun (n18 : Int) => ldG .str ⟨m11, 1, none⟩
 (fun (s19 : ByteArray) => ldG .str ⟨m11, 2, none⟩
 (fun (s20 : ByteArray) => ldG .slice ⟨m11, 3, none⟩
 (fun (l21 : Sl) => ldG .slice ⟨m11, 4, none⟩
 (fun (l22 : Sl) => callG Tryz.prog 21 #[(.agg #[(.int .i64 n13), (.string s14), (.string s15), (.slice l16.a l16.n l16.c), (.slice l17.a l17.n l17.c)]), (.agg #[(.int .i64 n18), (.string s19), (.string s20), (.slice l21.a l21.n l21.c), (.slice l22.a l22.n l22.c)])] [(.one .bool)]
 (fun (b23 : Bool) => iteG b23
 (retG (.int .i64 (3 : Int)))
 (ldG (.int .i64) ⟨m10, 0, none⟩
 (fun (n24 : Int) => ldG .str ⟨m10, 1, none⟩
 (fun (s25 : ByteArray) => ldG .str ⟨m10, 2, none⟩
 (fun (s26 : ByteArray) => ldG .slice ⟨m10, 3, none⟩
 (fun (l27 : Sl) => ldG .slice ⟨m10, 4, none⟩
 (fun (l28 : Sl) => ldG (.int .i64) ⟨m11, 0, none⟩
 (fun (n29 : Int) => ldG .str ⟨m11, 1, none⟩
 (fun (s30 : ByteArray) => ldG .str ⟨m11, 2, none⟩
 (fun (s31 : ByteArray) => ldG .slice ⟨m11, 3, none⟩
 (fun (l32 : Sl) => ldG .slice ⟨m11, 4, none⟩
 (fun (l33 : Sl) => callG Tryz.prog 19 #[(.agg #[(.int .i64 n24), (.string s25), (.string s26), (.slice l27.a l27.n l27.c), (.slice l28.a l28.n l28.c)]), (.agg #[(.int .i64 n29), (.string s30), (.string s31), (.slice l32.a l32.n l32.c), (.slice l33.a l33.n l33.c)])] [(.one .bool)]
 (fun (b34 : Bool) => iteG b34
 (retG (.int .i64 (2 : Int)))
 (ldG (.int .i64) ⟨m10, 0, none⟩
 (fun (n35 : Int) => ldG .str ⟨m10, 1, none⟩
 (fun (s36 : ByteArray) => ldG .str ⟨m10, 2, none⟩
 (fun (s37 : ByteArray) => ldG .slice ⟨m10, 3, none⟩
 (fun (l38 : Sl) => ldG .slice ⟨m10, 4, none⟩
 (fun (l39 : Sl) => ldG (.int .i64) ⟨m11, 0, none⟩
 (fun (n40 : Int) => ldG .str ⟨m11, 1, none⟩
 (fun (s41 : ByteArray) => ldG .str ⟨m11, 2, none⟩
 (fun (s42 : ByteArray) => ldG .slice ⟨m11, 3, none⟩
 (fun (l43 : Sl) => ldG .slice ⟨m11, 4, none⟩
 (fun (l44 : Sl) => callG Tryz.prog 22 #[(.agg #[(.int .i64 n35), (.string s36), (.string s37), (.slice l38.a l38.n l38.c), (.slice l39.a l39.n l39.c)]), (.agg #[(.int .i64 n40), (.string s41), (.string s42), (.slice l43.a l43.n l43.c), (.slice l44.a l44.n l44.c)])] [(.one .bool)]
 (fun (b45 : Bool) => iteG b45
 (retG (.int .i64 (1 : Int)))
 (k12)))))))))))))))))))))))))))))))))))))
 (retG (.int .i64 (0 : Int)))))
theorem e9 : denF Tryz.prog (GA Tryz.prog) Tryz.f9 [(.agg [(.int .i64), .str, .str, .slice, .slice]), (.agg [(.int .i64), .str, .str, .slice, .slice])] (.seq .leaf (.seq (.block (sl Tryz.prog []) .leaf) .leaf)) = t9 := by kernel_rfl
theorem c9 (x0 : Int) (x1 : ByteArray) (x2 : ByteArray) (x3 : Sl) (x4 : Sl) (x5 : Int) (x6 : ByteArray) (x7 : ByteArray) (x8 : Sl) (x9 : Sl) {R : Ending → World → Prop} {w : World} (h : t9 x0 x1 x2 x3 x4 x5 x6 x7 x8 x9 R w) : Calls Tryz.prog 9 #[.agg #[.int .i64 x0, .string x1, .string x2, .slice x3.a x3.n x3.c, .slice x4.a x4.n x4.c], .agg #[.int .i64 x5, .string x6, .string x7, .slice x8.a x8.n x8.c, .slice x9.a x9.n x9.c]] w R :=
  lift mixed Tryz.func9 e9 rfl ((x0, x1, x2, x3, x4, ()), (x5, x6, x7, x8, x9, ()), ()) R w h
def t11 : G :=
 callG Tryz.prog 26 #[(.string (ByteArray.mk #[40, 65, 110, 121, 41, 32, 45, 62, 32, 123, 125]))] [(VT.agg [(.int .i64), CT.str, CT.str, CT.slice, CT.slice])]
 (fun (n0 : Int) (s1 : ByteArray) => fun (s2 : ByteArray) (l3 : Sl) (l4 : Sl) => callG Tryz.prog 26 #[(.string (ByteArray.mk (#[40, 73, 110, 116, 41, 32, 45, 62, 32, 123, 97, 58, 32, 73, 110, 116, 125])))] [(VT.agg [(.int .i64), CT.str, CT.str, CT.slice, CT.slice])]
 (fun (n5 : Int) (s6 : ByteArray) => fun (s7 : ByteArray) (l8 : Sl) (l9 : Sl) => newG (Obj.cells (#[(.int .i64 (3 : Int)), (.string (ByteArray.mk #[103])), (.int .i64 n0), (.string s1), (.string s2), (.slice l3.a l3.n l3.c), (.slice l4.a l4.n l4.c), (.int .i64 (3 : Int)), (.string (ByteArray.mk #[102])), (.int .i64 n5), (.string s6), (.string s7), (.slice l8.a l8.n l8.c), (.slice l9.a l9.n l9.c), (.int .i64 (2 : Int)), (.string (ByteArray.mk #[79, 102])), (.int .i64 (0 : Int)), (.string (ByteArray.mk #[])), (.string (ByteArray.mk #[])), (.slice none 0 0), (.slice none 0 0)]) 44 (Prod.mk 0 0))
 (fun (m10 : Nat) => newG (Obj.cells #[(.string (ByteArray.mk #[])), (.slice none 0 0)] 42 (Prod.mk 0 0))
 (fun (m11 : Nat) => stG ⟨m11, 0, none⟩ (.string (ByteArray.mk #[113]))
 (stG ⟨m11, 1, none⟩ (.slice (some ⟨m10, 0, none⟩) 3 3)
 (drewG
 (ldG .str ⟨m11, 0, none⟩
 (fun (s12 : ByteArray) => ldG .slice ⟨m11, 1, none⟩
 (fun (l13 : Sl) => bothG
 (callG Tryz.prog 26 #[(.string (ByteArray.mk #[40, 73, 110, 116, 41, 32, 45, 62, 32, 123, 125]))] [(VT.agg [(.int .i64), CT.str, CT.str, CT.slice, CT.slice])]
 (fun (n14 : Int) (s15 : ByteArray) => fun (s16 : ByteArray) (l17 : Sl) (l18 : Sl) => keepG [(Prod.mk ⟨m11, 0, none⟩ [(.string s12), (.slice l13.a l13.n l13.c)])]
 (newG (Obj.cells #[(.string s12), (.slice l13.a l13.n l13.c)] 42 (Prod.mk 0 0))
 (fun (m19 : Nat) => callG Tryz.prog 14 #[(.agg #[(.int .i64 n14), (.string s15), (.string s16), (.slice l17.a l17.n l17.c), (.slice l18.a l18.n l18.c)]), (.int .i64 (9 : Int)), (.slice (some ⟨m19, 0, none⟩) 1 1)] [(.one .slice)]
 (fun (l20 : Sl) => ldG .str ⟨m11, 0, none⟩
 (fun (s21 : ByteArray) => ldG .slice ⟨m11, 1, none⟩
 (fun (l22 : Sl) => newG (Obj.cells #[(.string s21), (.slice l22.a l22.n l22.c)] 42 (Prod.mk 0 0))
 (fun (m23 : Nat) => callG Tryz.prog 16 #[(.string (ByteArray.mk #[102])), (.int .i64 (1 : Int)), (.slice (some ⟨m23, 0, none⟩) 1 1)] [(.one .slice)]
 (fun (l24 : Sl) => joinG [(.one .bool)]
 (fun k25 => newG (Obj.cells #[(.string (ByteArray.mk #[113])), (.string (ByteArray.mk #[102])), (.int .i64 (2 : Int)), (.string (ByteArray.mk #[113])), (.string (ByteArray.mk #[103])), (.int .i64 (1 : Int))] 46 (Prod.mk 0 0))
 (fun (m26 : Nat) => callG Tryz.prog 13 #[(.slice l20.a l20.n l20.c), (.slice (some ⟨m26, 0, none⟩) 2 2)] [(.one .bool)]
 (fun (b27 : Bool) => iteG b27
 (newG (Obj.cells #[(.string (ByteArray.mk #[113])), (.string (ByteArray.mk #[102])), (.int .i64 (3 : Int))] 46 (Prod.mk 0 0))
 (fun (m28 : Nat) => callG Tryz.prog 13 #[(.slice l24.a l24.n l24.c), (.slice (some ⟨m28, 0, none⟩) 1 1)] [(.one .bool)]
 (fun (b29 : Bool) => iteG b29
 (callG Tryz.prog 26 #[(.string (ByteArray.mk #[73, 110, 116]))] [(VT.agg [(.int .i64), CT.str, CT.str, CT.slice, CT.slice])]
 (fun (n30 : Int) (s31 : ByteArray) => fun (s32 : ByteArray) (l33 : Sl) (l34 : Sl) => callG Tryz.prog 26 #[(.string (ByteArray.mk #[73, 110, 116]))] [(VT.agg [(.int .i64), CT.str, CT.str, CT.slice, CT.slice])]
 (fun (n35 : Int) (s36 : ByteArray) => fun (s37 : ByteArray) (l38 : Sl) (l39 : Sl) => callG Tryz.prog 9 #[(.agg #[(.int .i64 n30), (.string s31), (.string s32), (.slice l33.a l33.n l33.c), (.slice l34.a l34.n l34.c)]), (.agg #[(.int .i64 n35), (.string s36), (.string s37), (.slice l38.a l38.n l38.c), (.slice l39.a l39.n l39.c)])] [(.one (.int .i64))]
 (fun (n40 : Int) => k25 (n40 == (3 : Int))))))
 (k25 false))))
 (k25 false))))
 (fun (b41 : Bool) => retG (.bool b41)))))))))))
 (newG (Obj.cells #[(.string s12), (.slice l13.a l13.n l13.c)] 42 (Prod.mk 0 0))
 (fun (m42 : Nat) => callG Tryz.prog 26 #[(.string (ByteArray.mk #[40, 73, 110, 116, 41, 32, 45, 62, 32, 123, 125]))] [(VT.agg [(.int .i64), CT.str, CT.str, CT.slice, CT.slice])]
 (fun (n43 : Int) (s44 : ByteArray) => fun (s45 : ByteArray) (l46 : Sl) (l47 : Sl) => keepG [(Prod.mk ⟨m11, 0, none⟩ [(.string s12), (.slice l13.a l13.n l13.c)])]
 (callG Tryz.prog 14 #[(.agg #[(.int .i64 n43), (.string s44), (.string s45), (.slice l46.a l46.n l46.c), (.slice l47.a l47.n l47.c)]), (.int .i64 (9 : Int)), (.slice (some ⟨m42, 0, none⟩) 1 1)] [(.one .slice)]
 (fun (l48 : Sl) => ldG .str ⟨m11, 0, none⟩
 (fun (s49 : ByteArray) => ldG .slice ⟨m11, 1, none⟩
 (fun (l50 : Sl) => newG (Obj.cells #[(.string s49), (.slice l50.a l50.n l50.c)] 42 (Prod.mk 0 0))
 (fun (m51 : Nat) => callG Tryz.prog 16 #[(.string (ByteArray.mk #[102])), (.int .i64 (1 : Int)), (.slice (some ⟨m51, 0, none⟩) 1 1)] [(.one .slice)]
 (fun (l52 : Sl) => joinG [(.one .bool)]
 (fun k53 => newG (Obj.cells #[(.string (ByteArray.mk #[113])), (.string (ByteArray.mk #[102])), (.int .i64 (2 : Int)), (.string (ByteArray.mk #[113])), (.string (ByteArray.mk #[103])), (.int .i64 (1 : Int))] 46 (Prod.mk 0 0))
 (fun (m54 : Nat) => callG Tryz.prog 13 #[(.slice l48.a l48.n l48.c), (.slice (some ⟨m54, 0, none⟩) 2 2)] [(.one .bool)]
 (fun (b55 : Bool) => iteG b55
 (newG (Obj.cells #[(.string (ByteArray.mk #[113])), (.string (ByteArray.mk #[102])), (.int .i64 (3 : Int))] 46 (Prod.mk 0 0))
 (fun (m56 : Nat) => callG Tryz.prog 13 #[(.slice l52.a l52.n l52.c), (.slice (some ⟨m56, 0, none⟩) 1 1)] [(.one .bool)]
 (fun (b57 : Bool) => iteG b57
 (callG Tryz.prog 26 #[(.string (ByteArray.mk #[73, 110, 116]))] [(VT.agg [(.int .i64), CT.str, CT.str, CT.slice, CT.slice])]
 (fun (n58 : Int) (s59 : ByteArray) => fun (s60 : ByteArray) (l61 : Sl) (l62 : Sl) => callG Tryz.prog 26 #[(.string (ByteArray.mk #[73, 110, 116]))] [(VT.agg [(.int .i64), CT.str, CT.str, CT.slice, CT.slice])]
 (fun (n63 : Int) (s64 : ByteArray) => fun (s65 : ByteArray) (l66 : Sl) (l67 : Sl) => callG Tryz.prog 9 #[(.agg #[(.int .i64 n58), (.string s59), (.string s60), (.slice l61.a l61.n l61.c), (.slice l62.a l62.n l62.c)]), (.agg #[(.int .i64 n63), (.string s64), (.string s65), (.slice l66.a l66.n l66.c), (.slice l67.a l67.n l67.c)])] [(.one (.int .i64))]
 (fun (n68 : Int) => k53 (n68 == (3 : Int))))))
 (k53 false))))
 (k53 false))))
 (fun (b69 : Bool) => retG (.bool b69))))))))))))))))))))
theorem e11 : denF Tryz.prog (GA Tryz.prog) Tryz.f11 [] (.seq .leaf (.seq .leaf (.seq .leaf (.seq .leaf (.seq (.r (sl Tryz.prog [(0, 4)])) .leaf))))) = t11 := by kernel_rfl
theorem c11 {R : Ending → World → Prop} {w : World} (h : t11 R w) : Calls Tryz.prog 11 #[] w R :=
  lift mixed Tryz.func11 e11 rfl (()) R w h
def t14 : Int → ByteArray → ByteArray → Sl → Sl → Int → Sl → G :=
 fun (n0 : Int) (s1 : ByteArray) => fun (s2 : ByteArray) (l3 : Sl) => fun (l4 : Sl) (n5 : Int) (l6 : Sl) => newG (Obj.cells #[(.int .i64 n0), (.string s1), (.string s2), (.slice l3.a l3.n l3.c), (.slice l4.a l4.n l4.c)] 25 (Prod.mk 0 0))
 (fun (m7 : Nat) => callG Tryz.prog 28 #[(.slice l6.a l6.n l6.c), (.int .i64 n5), (.func (Fn.func 29) #[] #[(.pointer (some ⟨m7, 0, none⟩))])] [(.one .slice)]
 (fun (l8 : Sl) => retG (.slice l8.a l8.n l8.c)))
theorem e14 : denF Tryz.prog (GA Tryz.prog) Tryz.f14 [(.agg [(.int .i64), .str, .str, .slice, .slice]), (.one (.int .i64)), (.one .slice)] .leaf = t14 := by kernel_rfl
theorem c14 (x0 : Int) (x1 : ByteArray) (x2 : ByteArray) (x3 : Sl) (x4 : Sl) (x5 : Int) (x6 : Sl) {R : Ending → World → Prop} {w : World} (h : t14 x0 x1 x2 x3 x4 x5 x6 R w) : Calls Tryz.prog 14 #[.agg #[.int .i64 x0, .string x1, .string x2, .slice x3.a x3.n x3.c, .slice x4.a x4.n x4.c], .int .i64 x5, .slice x6.a x6.n x6.c] w R :=
  lift mixed Tryz.func14 e14 rfl ((x0, x1, x2, x3, x4, ()), (x5, ()), (x6, ()), ()) R w h
def t16 : ByteArray → Int → Sl → G :=
 fun (s0 : ByteArray) (n1 : Int) (l2 : Sl) => newG (Obj.cells #[(.string s0)] 9 (Prod.mk 0 0))
 (fun (m3 : Nat) => callG Tryz.prog 28 #[(.slice l2.a l2.n l2.c), (.int .i64 n1), (.func (Fn.func 32) #[] #[(.pointer (some ⟨m3, 0, none⟩))])] [(.one .slice)]
 (fun (l4 : Sl) => retG (.slice l4.a l4.n l4.c)))
theorem e16 : denF Tryz.prog (GA Tryz.prog) Tryz.f16 [(.one .str), (.one (.int .i64)), (.one .slice)] .leaf = t16 := by kernel_rfl
theorem c16 (x0 : ByteArray) (x1 : Int) (x2 : Sl) {R : Ending → World → Prop} {w : World} (h : t16 x0 x1 x2 R w) : Calls Tryz.prog 16 #[.string x0, .int .i64 x1, .slice x2.a x2.n x2.c] w R :=
  lift mixed Tryz.func16 e16 rfl ((x0, ()), (x1, ()), (x2, ()), ()) R w h
def t26 : ByteArray → G :=
 fun (s0 : ByteArray) => newG (Obj.cells #[(.int .i64 (0 : Int)), (.string (ByteArray.mk #[])), (.string (ByteArray.mk #[])), (.slice none 0 0), (.slice none 0 0)] 25 (Prod.mk 0 0))
 (fun (m1 : Nat) => callG Tryz.prog 49 #[(.string s0)] [(VT.agg [(.int .i64), CT.str, CT.str, CT.slice, CT.slice]), (VT.agg [(.int .i64), (.int .i64)])]
 (fun (n2 : Int) (s3 : ByteArray) => fun (s4 : ByteArray) (l5 : Sl) => fun (l6 : Sl) (n7 : Int) (n8 : Int) => newG (Obj.cells #[(.int .i64 (0 : Int)), (.string (ByteArray.mk #[])), (.string (ByteArray.mk #[])), (.slice none 0 0), (.slice none 0 0)] 25 (Prod.mk 0 0))
 (fun (m9 : Nat) => newG (Obj.cells #[(.int .i64 (0 : Int)), (.int .i64 (0 : Int))] 66 (Prod.mk 0 0))
 (fun (m10 : Nat) => stG ⟨m9, 0, none⟩ (.int .i64 n2)
 (stG ⟨m9, 1, none⟩ (.string s3)
 (stG ⟨m9, 2, none⟩ (.string s4)
 (stG ⟨m9, 3, none⟩ (.slice l5.a l5.n l5.c)
 (stG ⟨m9, 4, none⟩ (.slice l6.a l6.n l6.c)
 (stG ⟨m10, 0, none⟩ (.int .i64 n7)
 (stG ⟨m10, 1, none⟩ (.int .i64 n8)
 (ldG (.int .i64) ⟨m9, 0, none⟩
 (fun (n11 : Int) => ldG .str ⟨m9, 1, none⟩
 (fun (s12 : ByteArray) => ldG .str ⟨m9, 2, none⟩
 (fun (s13 : ByteArray) => ldG .slice ⟨m9, 3, none⟩
 (fun (l14 : Sl) => ldG .slice ⟨m9, 4, none⟩
 (fun (l15 : Sl) => stG ⟨m1, 0, none⟩ (.int .i64 n11)
 (stG ⟨m1, 1, none⟩ (.string s12)
 (stG ⟨m1, 2, none⟩ (.string s13)
 (stG ⟨m1, 3, none⟩ (.slice l14.a l14.n l14.c)
 (stG ⟨m1, 4, none⟩ (.slice l15.a l15.n l15.c)
 (ldG (.int .i64) ⟨m1, 0, none⟩
 (fun (n16 : Int) => ldG .str ⟨m1, 1, none⟩
 (fun (s17 : ByteArray) => ldG .str ⟨m1, 2, none⟩
 (fun (s18 : ByteArray) => ldG .slice ⟨m1, 3, none⟩
 (fun (l19 : Sl) => ldG .slice ⟨m1, 4, none⟩
 (fun (l20 : Sl) => retG (.agg #[(.int .i64 n16), (.string s17), (.string s18), (.slice l19.a l19.n l19.c), (.slice l20.a l20.n l20.c)])))))))))))))))))))))))))))
theorem e26 : denF Tryz.prog (GA Tryz.prog) Tryz.f26 [(.one .str)] .leaf = t26 := by kernel_rfl
theorem c26 (x0 : ByteArray) {R : Ending → World → Prop} {w : World} (h : t26 x0 R w) : Calls Tryz.prog 26 #[.string x0] w R :=
  lift mixed Tryz.func26 e26 rfl ((x0, ()), ()) R w h
def t28 : Sl → Int → Value → G :=
 fun (l0 : Sl) (n1 : Int) (v2 : Value) => joinG [(.one .slice)]
 (fun k3 => loopG [(.one .slice), (.one (.int .i64))]
 (fun k4 => fun (l5 : Sl) (n6 : Int) => iteG (Decidable.decide (n6 < (↑l0.n : Int)))
 (joinG [(.one .slice)]
 (fun k7 => idxG l0.a l0.n n6 2
 (fun (a8 : Addr) => ldG .str (Addr.add a8 0)
 (fun (s9 : ByteArray) => ldG .slice (Addr.add a8 1)
 (fun (l10 : Sl) => newG (Obj.cells #[(.string (ByteArray.mk #[])), (.slice none 0 0)] 42 (Prod.mk 0 0))
 (fun (m11 : Nat) => stG ⟨m11, 0, none⟩ (.string s9)
 (stG ⟨m11, 1, none⟩ (.slice l10.a l10.n l10.c)
 (ldG .slice ⟨m11, 1, none⟩
 (fun (l12 : Sl) => joinG [(.one .slice)]
 (fun k13 => loopG [(.one .slice), (.one (.int .i64))]
 (fun k14 => fun (l15 : Sl) (n16 : Int) => iteG (Decidable.decide (n16 < (↑l12.n : Int)))
 (joinG [(.one .slice)]
 (fun k17 => idxG l12.a l12.n n16 7
 (fun (a18 : Addr) => ldG (.int .i64) (Addr.add a18 0)
 (fun (n19 : Int) => ldG .str (Addr.add a18 1)
 (fun (s20 : ByteArray) => ldG (.int .i64) (Addr.add a18 2)
 (fun (n21 : Int) => ldG .str (Addr.add a18 3)
 (fun (s22 : ByteArray) => ldG .str (Addr.add a18 4)
 (fun (s23 : ByteArray) => ldG .slice (Addr.add a18 5)
 (fun (l24 : Sl) => ldG .slice (Addr.add a18 6)
 (fun (l25 : Sl) => newG (Obj.cells #[(.int .i64 (0 : Int)), (.string (ByteArray.mk #[])), (.int .i64 (0 : Int)), (.string (ByteArray.mk #[])), (.string (ByteArray.mk #[])), (.slice none 0 0), (.slice none 0 0)] 44 (Prod.mk 0 0))
 (fun (m26 : Nat) => stG ⟨m26, 0, none⟩ (.int .i64 n19)
 (stG ⟨m26, 1, none⟩ (.string s20)
 (stG ⟨m26, 2, none⟩ (.int .i64 n21)
 (stG ⟨m26, 3, none⟩ (.string s22)
 (stG ⟨m26, 4, none⟩ (.string s23)
 (stG ⟨m26, 5, none⟩ (.slice l24.a l24.n l24.c)
 (stG ⟨m26, 6, none⟩ (.slice l25.a l25.n l25.c)
 (ldG (.int .i64) ⟨m26, 0, none⟩
 (fun (n27 : Int) => ldG .str ⟨m26, 1, none⟩
 (fun (s28 : ByteArray) => ldG (.int .i64) ⟨m26, 2, none⟩
 (fun (n29 : Int) => ldG .str ⟨m26, 3, none⟩
 (fun (s30 : ByteArray) => ldG .str ⟨m26, 4, none⟩
 (fun (s31 : ByteArray) => ldG .slice ⟨m26, 5, none⟩
 (fun (l32 : Sl) => ldG .slice ⟨m26, 6, none⟩
 (fun (l33 : Sl) => callVG Tryz.prog v2 #[(.agg #[(.int .i64 n27), (.string s28), (.int .i64 n29), (.string s30), (.string s31), (.slice l32.a l32.n l32.c), (.slice l33.a l33.n l33.c)])] [(.one (.int .i64))]
 (fun (n34 : Int) => joinG [(.one .slice)]
 (fun k35 => iteG (Decidable.decide (n34 > (0 : Int)))
 (ldG .str ⟨m11, 0, none⟩
 (fun (s36 : ByteArray) => ldG .str ⟨m26, 1, none⟩
 (fun (s37 : ByteArray) => newG (Obj.cells #[(.string s36), (.string s37), (.int .i64 n34)] 46 (Prod.mk 0 0))
 (fun (m38 : Nat) => opG Tryz.prog (Builtin.append_ #[32, 32] 32 #[(.slice l15.a l15.n l15.c), (.slice (some ⟨m38, 0, none⟩) 1 1)]) (.one .slice)
 (fun (l39 : Sl) => k35 l39)))))
 (k35 l15))
 (fun (l40 : Sl) => k17 l40))))))))))))))))))))))))))
 (fun (l41 : Sl) => k14 l41 (IntKind.wrap IntKind.i64 (n16 + (1 : Int)))))
 (k13 l15)) l5 (0 : Int))
 (fun (l42 : Sl) => k7 l42)))))))))
 (fun (l43 : Sl) => k4 l43 (IntKind.wrap IntKind.i64 (n6 + (1 : Int)))))
 (k3 l5)) (Sl.mk none 0 0) (0 : Int))
 (fun (l44 : Sl) => callG Tryz.prog 51 #[(.slice l44.a l44.n l44.c), (.func (Fn.func 52) #[] #[])] []
 (assumeG (Decidable.decide ((↑l44.c : Int) ≤ (↑l44.c : Int)))
 (resliceG l44.a l44.c (0 : Int) (if (0 : Int) > if (↑l44.n : Int) < n1 then (↑l44.n : Int) else n1 then (0 : Int) else if (↑l44.n : Int) < n1 then (↑l44.n : Int) else n1) ((↑l44.c : Int)) 3
 (fun (p45 : Option Addr) => fun (m46 : Nat) (m47 : Nat) => callG Tryz.prog 56 #[(.slice p45 m46 m47)] [(.one .slice)]
 (fun (l48 : Sl) => retG (.slice l48.a l48.n l48.c))))))
theorem e28 : denF Tryz.prog (GA Tryz.prog) Tryz.f28 [(.one .slice), (.one (.int .i64)), (.one .any)] (.seq .leaf (.seq .leaf (.seq (.seq .leaf (.block (sl Tryz.prog [(7, 32)]) (.loop (sl Tryz.prog [(7, 32), (15, 3)]) (.seq .leaf (.seq .leaf (.seq (.block (sl Tryz.prog [(7, 32)]) (.seq .leaf (.seq .leaf (.block (sl Tryz.prog [(7, 32)]) (.loop (sl Tryz.prog [(7, 32), (22, 3)]) (.seq .leaf (.seq .leaf (.seq (.block (sl Tryz.prog [(7, 32)]) (.seq .leaf (.seq .leaf (.seq .leaf (.condj (sl Tryz.prog [(7, 32)]) .leaf .leaf))))) .leaf)))))))) .leaf)))))) .leaf))) = t28 := by kernel_rfl
theorem c28 (x0 : Sl) (x1 : Int) (x2 : Value) {R : Ending → World → Prop} {w : World} (h : t28 x0 x1 x2 R w) : Calls Tryz.prog 28 #[.slice x0.a x0.n x0.c, .int .i64 x1, x2] w R :=
  lift mixed Tryz.func28 e28 rfl ((x0, ()), (x1, ()), (x2, ()), ()) R w h
def t29 : Int → ByteArray → Int → ByteArray → ByteArray → Sl → Sl → Addr → G :=
 fun (n0 : Int) (s1 : ByteArray) => fun (n2 : Int) (s3 : ByteArray) => fun (s4 : ByteArray) (l5 : Sl) => fun (l6 : Sl) (a7 : Addr) => newG (Obj.cells #[(.int .i64 n0), (.string s1), (.int .i64 n2), (.string s3), (.string s4), (.slice l5.a l5.n l5.c), (.slice l6.a l6.n l6.c)] 44 (Prod.mk 0 0))
 (fun (m8 : Nat) => ldG (.int .i64) ⟨m8, 0, none⟩
 (fun (n9 : Int) => iteG (n9 != (3 : Int))
 (retG (.int .i64 (0 : Int)))
 (ldG (.int .i64) ⟨m8, 2, none⟩
 (fun (n10 : Int) => ldG .str ⟨m8, 3, none⟩
 (fun (s11 : ByteArray) => ldG .str ⟨m8, 4, none⟩
 (fun (s12 : ByteArray) => ldG .slice ⟨m8, 5, none⟩
 (fun (l13 : Sl) => ldG .slice ⟨m8, 6, none⟩
 (fun (l14 : Sl) => ldG (.int .i64) (Addr.add a7 0)
 (fun (n15 : Int) => ldG .str (Addr.add a7 1)
 (fun (s16 : ByteArray) => ldG .str (Addr.add a7 2)
 (fun (s17 : ByteArray) => ldG .slice (Addr.add a7 3)
 (fun (l18 : Sl) => ldG .slice (Addr.add a7 4)
 (fun (l19 : Sl) => callG Tryz.prog 9 #[(.agg #[(.int .i64 n10), (.string s11), (.string s12), (.slice l13.a l13.n l13.c), (.slice l14.a l14.n l14.c)]), (.agg #[(.int .i64 n15), (.string s16), (.string s17), (.slice l18.a l18.n l18.c), (.slice l19.a l19.n l19.c)])] [(.one (.int .i64))]
 (fun (n20 : Int) => retG (.int .i64 n20)))))))))))))))
theorem e29 : denF Tryz.prog (GA Tryz.prog) Tryz.f29 [(.agg [(.int .i64), .str, (.int .i64), .str, .str, .slice, .slice]), (.one .addr)] .leaf = t29 := by kernel_rfl
theorem c29 (x0 : Int) (x1 : ByteArray) (x2 : Int) (x3 : ByteArray) (x4 : ByteArray) (x5 : Sl) (x6 : Sl) (x7 : Addr) {R : Ending → World → Prop} {w : World} (h : t29 x0 x1 x2 x3 x4 x5 x6 x7 R w) : Calls Tryz.prog 29 #[.agg #[.int .i64 x0, .string x1, .int .i64 x2, .string x3, .string x4, .slice x5.a x5.n x5.c, .slice x6.a x6.n x6.c], .pointer (some x7)] w R :=
  lift mixed Tryz.func29 e29 rfl ((x0, x1, x2, x3, x4, x5, x6, ()), (x7, ()), ()) R w h
def t32 : Int → ByteArray → Int → ByteArray → ByteArray → Sl → Sl → Addr → G :=
 fun (n0 : Int) (s1 : ByteArray) => fun (n2 : Int) (s3 : ByteArray) => fun (s4 : ByteArray) (l5 : Sl) => fun (l6 : Sl) (a7 : Addr) => newG (Obj.cells #[(.int .i64 n0), (.string s1), (.int .i64 n2), (.string s3), (.string s4), (.slice l5.a l5.n l5.c), (.slice l6.a l6.n l6.c)] 44 (Prod.mk 0 0))
 (fun (m8 : Nat) => joinG []
 (fun k9 => ldG .str ⟨m8, 1, none⟩
 (fun (s10 : ByteArray) => ldG .str a7
 (fun (s11 : ByteArray) => iteG (ByteArray.toList s10 == ByteArray.toList s11)
 (retG (.int .i64 (3 : Int)))
 (ldG .str ⟨m8, 1, none⟩
 (fun (s12 : ByteArray) => ldG .str a7
 (fun (s13 : ByteArray) => callG Tryz.prog 33 #[(.string s12), (.string s13)] [(.one .bool)]
 (fun (b14 : Bool) => iteG b14
 (retG (.int .i64 (2 : Int)))
 (ldG .str ⟨m8, 1, none⟩
 (fun (s15 : ByteArray) => ldG .str a7
 (fun (s16 : ByteArray) => callG Tryz.prog 34 #[(.string s15), (.string s16)] [(.one .bool)]
 (fun (b17 : Bool) => iteG b17
 (retG (.int .i64 (1 : Int)))
 (k9))))))))))))
 (retG (.int .i64 (0 : Int))))
theorem e32 : denF Tryz.prog (GA Tryz.prog) Tryz.f32 [(.agg [(.int .i64), .str, (.int .i64), .str, .str, .slice, .slice]), (.one .addr)] (.seq .leaf (.seq (.block (sl Tryz.prog []) .leaf) .leaf)) = t32 := by kernel_rfl
theorem c32 (x0 : Int) (x1 : ByteArray) (x2 : Int) (x3 : ByteArray) (x4 : ByteArray) (x5 : Sl) (x6 : Sl) (x7 : Addr) {R : Ending → World → Prop} {w : World} (h : t32 x0 x1 x2 x3 x4 x5 x6 x7 R w) : Calls Tryz.prog 32 #[.agg #[.int .i64 x0, .string x1, .int .i64 x2, .string x3, .string x4, .slice x5.a x5.n x5.c, .slice x6.a x6.n x6.c], .pointer (some x7)] w R :=
  lift mixed Tryz.func32 e32 rfl ((x0, x1, x2, x3, x4, x5, x6, ()), (x7, ()), ()) R w h
def t52 : ByteArray → ByteArray → Int → ByteArray → ByteArray → Int → G :=
 fun (s0 : ByteArray) (s1 : ByteArray) => fun (n2 : Int) (s3 : ByteArray) => fun (s4 : ByteArray) (n5 : Int) => newG (Obj.cells #[(.string s0), (.string s1), (.int .i64 n2)] 46 (Prod.mk 0 0))
 (fun (m6 : Nat) => newG (Obj.cells #[(.string s3), (.string s4), (.int .i64 n5)] 46 (Prod.mk 0 0))
 (fun (m7 : Nat) => drewG
 (ldG (.int .i64) ⟨m7, 2, none⟩
 (fun (n8 : Int) => ldG (.int .i64) ⟨m6, 2, none⟩
 (fun (n9 : Int) => ldG .str ⟨m6, 0, none⟩
 (fun (s10 : ByteArray) => ldG .str ⟨m7, 0, none⟩
 (fun (s11 : ByteArray) => ldG .str ⟨m6, 1, none⟩
 (fun (s12 : ByteArray) => ldG .str ⟨m7, 1, none⟩
 (fun (s13 : ByteArray) => callG Tryz.prog 54 #[(.int .i64 n8), (.int .i64 n9)] [(.one (.int .i64))]
 (fun (n14 : Int) => keepG [(Prod.mk ⟨m7, 1, none⟩ [(.string s13)]), (Prod.mk ⟨m6, 1, none⟩ [(.string s12)]), (Prod.mk ⟨m7, 0, none⟩ [(.string s11)]), (Prod.mk ⟨m6, 0, none⟩ [(.string s10)])]
 (callG Tryz.prog 55 #[(.string s10), (.string s11)] [(.one (.int .i64))]
 (fun (n15 : Int) => keepG [(Prod.mk ⟨m7, 1, none⟩ [(.string s13)]), (Prod.mk ⟨m6, 1, none⟩ [(.string s12)])]
 (callG Tryz.prog 55 #[(.string s12), (.string s13)] [(.one (.int .i64))]
 (fun (n16 : Int) => keepG [(Prod.mk ⟨m6, 2, none⟩ [(.int .i64 n9)]), (Prod.mk ⟨m7, 2, none⟩ [(.int .i64 n8)])]
 (newG (Obj.cells #[(.int .i64 n14), (.int .i64 n15), (.int .i64 n16)] 3 (Prod.mk 0 0))
 (fun (m17 : Nat) => callG Tryz.prog 53 #[(.slice (some ⟨m17, 0, none⟩) 3 3)] [(.one (.int .i64))]
 (fun (n18 : Int) => keepG [(Prod.mk ⟨m7, 0, none⟩ [(.string s11)]), (Prod.mk ⟨m6, 0, none⟩ [(.string s10)]), (Prod.mk ⟨m6, 2, none⟩ [(.int .i64 n9)]), (Prod.mk ⟨m7, 2, none⟩ [(.int .i64 n8)])]
 (retG (.int .i64 n18)))))))))))))))))))
theorem e52 : denF Tryz.prog (GA Tryz.prog) Tryz.f52 [(.agg [.str, .str, (.int .i64)]), (.agg [.str, .str, (.int .i64)])] .leaf = t52 := by kernel_rfl
theorem c52 (x0 : ByteArray) (x1 : ByteArray) (x2 : Int) (x3 : ByteArray) (x4 : ByteArray) (x5 : Int) {R : Ending → World → Prop} {w : World} (h : t52 x0 x1 x2 x3 x4 x5 R w) : Calls Tryz.prog 52 #[.agg #[.string x0, .string x1, .int .i64 x2], .agg #[.string x3, .string x4, .int .i64 x5]] w R :=
  lift mixed Tryz.func52 e52 rfl ((x0, x1, x2, ()), (x3, x4, x5, ()), ()) R w h
end Go.Proofs.YticokfpaoiekgaaGreatDoor
end
