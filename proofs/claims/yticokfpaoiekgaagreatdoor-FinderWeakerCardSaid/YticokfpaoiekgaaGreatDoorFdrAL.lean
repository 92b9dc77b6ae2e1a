/- The law behind: one part of its proof (joined by program out of my own texts). No condition. -/
import Derived.Test.YticokfpaoiekgaaGreatDoorFdrAK
section
set_option maxRecDepth 100000
namespace Go.Proofs.YticokfpaoiekgaaGreatDoor
open Go.Lift
variable {R : Ending → World → Prop} {w : World}
def t49 : ByteArray → G := fun s0 => nz5Z 25 fun m1 => nwZ #[ivZ 0, ivZ 0] 66 fun m2 => caZ 80 #[tvZ s0] [(.one .slice), (.agg [(.int .i64), (.int .i64)])] fun (l3 : Sl) (n4 : Int) (n5 : Int) => nwZ #[ivZ 0, ivZ 0] 66 fun m6 => stG ⟨m6, 0,
 none⟩ (ivZ n4) (stG ⟨m6, 1, none⟩ (ivZ n5) (ldIZ ⟨m6, 0, none⟩ fun n7 => iteG (n7 != 0) (drewG (ldIZ ⟨m6, 0, none⟩ fun n8 => ldIZ ⟨m6, 1, none⟩ fun n9 => st5Z m1 0 ⟨#[]⟩ ⟨#[]⟩ ⟨none, 0, 0⟩ ⟨none, 0, 0⟩ (keepG [(⟨m6, 0, none⟩, [ivZ n8, ivZ
 n9])] (stG ⟨m2, 0, none⟩ (ivZ n8) (stG ⟨m2, 1, none⟩ (ivZ n9) (ld5mZ m1 fun n10 s11 s12 l13 l14 => ldIZ ⟨m2, 0, none⟩ fun n15 => ldIZ ⟨m2, 1, none⟩ fun n16 => retG (.tuple #[(.agg #[(.int .i64 n10), (.string s11), (.string s12), (.slice
 l13.a l13.n l13.c), (.slice l14.a l14.n l14.c)]), (.agg #[(.int .i64 n15), (.int .i64 n16)])]))))))) (caZ 81 #[svZ l3, ivZ 0] [(.agg [(.int .i64), .str, .str, .slice, .slice]), (.one (.int .i64)), (.agg [(.int .i64), (.int .i64)])] fun
 (n17 : Int) (s18 : ByteArray) (s19 : ByteArray) (l20 : Sl) (l21 : Sl) (n22 : Int) (n23 : Int) (n24 : Int) => nz5Z 25 fun m25 => st5Z m25 n17 s18 s19 l20 l21 (stG ⟨m6, 0, none⟩ (ivZ n23) (stG ⟨m6, 1, none⟩ (ivZ n24) (ldIZ ⟨m6, 0, none⟩ fun
 n26 => jn0Z (fun k27 => iteG (n26 == 0) (caZ 82 #[svZ l3, ivZ n22] [(.agg [(.int .i64), (.int .i64)])] fun (n28 : Int) (n29 : Int) => stG ⟨m6, 0, none⟩ (ivZ n28) (stG ⟨m6, 1, none⟩ (ivZ n29) k27)) k27) (ldIZ ⟨m6, 0, none⟩ fun n30 => iteG
 (n30 != 0) (drewG (ldIZ ⟨m6, 0, none⟩ fun n31 => ldIZ ⟨m6, 1, none⟩ fun n32 => st5Z m1 0 ⟨#[]⟩ ⟨#[]⟩ ⟨none, 0, 0⟩ ⟨none, 0, 0⟩ (keepG [(⟨m6, 0, none⟩, [ivZ n31, ivZ n32])] (stG ⟨m2, 0, none⟩ (ivZ n31) (stG ⟨m2, 1, none⟩ (ivZ n32) (ld5mZ m1
 fun n33 s34 s35 l36 l37 => ldIZ ⟨m2, 0, none⟩ fun n38 => ldIZ ⟨m2, 1, none⟩ fun n39 => retG (.tuple #[(.agg #[(.int .i64 n33), (.string s34), (.string s35), (.slice l36.a l36.n l36.c), (.slice l37.a l37.n l37.c)]), (.agg #[(.int .i64 n38),
 (.int .i64 n39)])]))))))) (drewG (ld5mZ m25 fun n40 s41 s42 l43 l44 => ldIZ ⟨m6, 0, none⟩ fun n45 => ldIZ ⟨m6, 1, none⟩ fun n46 => st5Z m1 n40 s41 s42 l43 l44 (keepG [(⟨m6, 0, none⟩, [ivZ n45, ivZ n46])] (stG ⟨m2, 0, none⟩ (ivZ n45) (stG
 ⟨m2, 1, none⟩ (ivZ n46) (ld5mZ m1 fun n47 s48 s49 l50 l51 => ldIZ ⟨m2, 0, none⟩ fun n52 => ldIZ ⟨m2, 1, none⟩ fun n53 => retG (.tuple #[(.agg #[(.int .i64 n47), (.string s48), (.string s49), (.slice l50.a l50.n l50.c), (.slice l51.a l51.n
 l51.c)]), (.agg #[(.int .i64 n52), (.int .i64 n53)])]))))))))))))))
theorem e49 : denF Tryz.prog (GA Tryz.prog) Tryz.f49 [(.one .str)] (.seq .leaf (.seq .leaf (.seq .leaf (.seq .leaf (.seq (.seq .leaf (.condj (sl Tryz.prog []) .leaf .leaf)) .leaf))))) = t49 := by kernel_rfl
theorem c49 (x0 : ByteArray) (h : t49 x0 R w) : Calls Tryz.prog 49 #[.string x0] w R := lift mixed Tryz.func49 e49 rfl ((x0, ()), ()) R w h
def t81 : Sl → Int → G := fun l0 n1 => nz5Z 25 fun m2 => nwZ #[ivZ 0, ivZ 0] 66 fun m3 => caZ 107 #[svZ l0, ivZ n1] [(.one .ptr)] fun (p4 : Option Addr) => nnG p4 fun (a5 : Addr) => caBZ 108 #[(.pointer (some (a5.add 0)))] fun b6 => iteG b6
 (drewG (nnG p4 fun (a7 : Addr) => ldIZ ((Addr.add (a7.add 0) 2).add 0) fun n8 => ldIZ ((Addr.add (a7.add 0) 2).add 1) fun n9 => st5Z m2 0 ⟨#[]⟩ ⟨#[]⟩ ⟨none, 0, 0⟩ ⟨none, 0, 0⟩ (keepG [(((a7.add 0).add 2), [ivZ n8, ivZ n9])] (stG ⟨m3, 0,
 none⟩ (ivZ n8) (stG ⟨m3, 1, none⟩ (ivZ n9) (ld5mZ m2 fun n10 s11 s12 l13 l14 => ldIZ ⟨m3, 0, none⟩ fun n15 => ldIZ ⟨m3, 1, none⟩ fun n16 => retG (.tuple #[(.agg #[(.int .i64 n10), (.string s11), (.string s12), (.slice l13.a l13.n l13.c),
 (.slice l14.a l14.n l14.c)]), (.int .i64 (0 : Int)), (.agg #[(.int .i64 n15), (.int .i64 n16)])]))))))) (ca5Z 109 #[(.pointer p4)] fun n17 s18 s19 l20 l21 => nz5Z 25 fun m22 => st5Z m22 n17 s18 s19 l20 l21 (nnG p4 fun (a23 : Addr) => caBZ
 108 #[(.pointer (some (a23.add 0)))] fun b24 => iteG b24 (drewG (nnG p4 fun (a25 : Addr) => ldIZ ((Addr.add (a25.add 0) 2).add 0) fun n26 => ldIZ ((Addr.add (a25.add 0) 2).add 1) fun n27 => st5Z m2 0 ⟨#[]⟩ ⟨#[]⟩ ⟨none, 0, 0⟩ ⟨none, 0, 0⟩
 (keepG [(((a25.add 0).add 2), [ivZ n26, ivZ n27])] (stG ⟨m3, 0, none⟩ (ivZ n26) (stG ⟨m3, 1, none⟩ (ivZ n27) (ld5mZ m2 fun n28 s29 s30 l31 l32 => ldIZ ⟨m3, 0, none⟩ fun n33 => ldIZ ⟨m3, 1, none⟩ fun n34 => retG (.tuple #[(.agg #[(.int .i64
 n28), (.string s29), (.string s30), (.slice l31.a l31.n l31.c), (.slice l32.a l32.n l32.c)]), (.int .i64 (0 : Int)), (.agg #[(.int .i64 n33), (.int .i64 n34)])]))))))) (drewG (ld5mZ m22 fun n35 s36 s37 l38 l39 => nnG p4 fun (a40 : Addr) =>
 ldIZ ((a40.add 0).add 1) fun n41 => st5Z m2 n35 s36 s37 l38 l39 (keepG [(((a40.add 0).add 1), [ivZ n41])] (stG ⟨m3, 0, none⟩ (ivZ 0) (stG ⟨m3, 1, none⟩ (ivZ 0) (ld5mZ m2 fun n42 s43 s44 l45 l46 => ldIZ ⟨m3, 0, none⟩ fun n47 => ldIZ ⟨m3, 1,
 none⟩ fun n48 => retG (.tuple #[(.agg #[(.int .i64 n42), (.string s43), (.string s44), (.slice l45.a l45.n l45.c), (.slice l46.a l46.n l46.c)]), (.int .i64 n41), (.agg #[(.int .i64 n47), (.int .i64 n48)])])))))))))
theorem e81 : denF Tryz.prog (GA Tryz.prog) Tryz.f81 [(.one .slice), (.one (.int .i64))] .leaf = t81 := by kernel_rfl
theorem c81 (x0 : Sl)(x1 : Int) (h : t81 x0 x1 R w) : Calls Tryz.prog 81 #[.slice x0.a x0.n x0.c, .int .i64 x1] w R := lift mixed Tryz.func81 e81 rfl ((x0, ()), (x1, ()), ()) R w h
def t82 : Sl → Int → G := fun l0 n1 => nwZ #[ivZ 0, ivZ 0] 66 fun m2 => iteG (n1 != wrZ ((l0.n : Int) - 1)) (ixZ l0 n1 3 fun a3 => ldIZ (a3.add 2) fun n4 => stG ⟨m2, 0, none⟩ (ivZ 90) (stG ⟨m2, 1, none⟩ (ivZ n4) (ldIZ ⟨m2, 0, none⟩ fun n5
 => ldIZ ⟨m2, 1, none⟩ fun n6 => retG (.agg #[ivZ n5, ivZ n6])))) (stG ⟨m2, 0, none⟩ (ivZ 0) (stG ⟨m2, 1, none⟩ (ivZ 0) (ldIZ ⟨m2, 0, none⟩ fun n7 => ldIZ ⟨m2, 1, none⟩ fun n8 => retG (.agg #[ivZ n7, ivZ n8]))))
theorem e82 : denF Tryz.prog (GA Tryz.prog) Tryz.f82 [(.one .slice), (.one (.int .i64))] .leaf = t82 := by kernel_rfl
theorem c82 (x0 : Sl)(x1 : Int) (h : t82 x0 x1 R w) : Calls Tryz.prog 82 #[.slice x0.a x0.n x0.c, .int .i64 x1] w R := lift mixed Tryz.func82 e82 rfl ((x0, ()), (x1, ()), ()) R w h
def t107 : Sl → Int → G := fun l0 n1 => nwZ #[svZ l0, ivZ n1, ivZ 0, ivZ 0] 130 fun m2 => jnBZ (fun k3 => iteG (decide (n1 < 0)) (k3 true) (k3 (decide (n1 > (l0.n : Int))))) fun b4 => jn0Z (fun k5 => iteG b4 (ca0Z 147 #[(.pointer (some ⟨m2,
 0, none⟩)), ivZ 2, ivZ 0] k5) (jn0Z (fun k6 => iteG (decide ((l0.n : Int) > 4097)) (ca0Z 147 #[(.pointer (some ⟨m2, 0, none⟩)), ivZ 3, ivZ 0] k6) k6) k5)) (retG (.pointer (some ⟨m2, 0, none⟩)))
theorem e107 : denF Tryz.prog (GA Tryz.prog) Tryz.f107 [(.one .slice), (.one (.int .i64))] (.seq .leaf (.seq .leaf (.seq (.seq (.r (sl Tryz.prog [(18, 4)])) (.condj (sl Tryz.prog []) .leaf (.seq .leaf (.condj (sl Tryz.prog []) .leaf .leaf)))) .leaf))) = t107 := by kernel_rfl
theorem c107 (x0 : Sl)(x1 : Int) (h : t107 x0 x1 R w) : Calls Tryz.prog 107 #[.slice x0.a x0.n x0.c, .int .i64 x1] w R := lift mixed Tryz.func107 e107 rfl ((x0, ()), (x1, ()), ()) R w h
def t108 : Option Addr → G := fun p0 => nnG p0 fun (a1 : Addr) => ldIZ ((a1.add 2).add 0) fun n2 => retG (.bool (n2 != 0))
theorem e108 : denF Tryz.prog (GA Tryz.prog) Tryz.f108 [(.one .ptr)] .leaf = t108 := by kernel_rfl
theorem c108 (x0 : Option Addr) (h : t108 x0 R w) : Calls Tryz.prog 108 #[.pointer x0] w R := lift mixed Tryz.func108 e108 rfl ((x0, ()), ()) R w h
def t109 : Option Addr → G := fun p0 => nz5Z 25 fun m1 => nnG p0 fun (a2 : Addr) => caZ 148 #[(.pointer (some (a2.add 0)))] [(.agg [(.int .i64), .str, (.int .i64)])] fun (_ : Int) (_ : ByteArray) (n5 : Int) => ca5Z 149 #[(.pointer p0)] fun
 n6 s7 s8 l9 l10 => nz5Z 25 fun m11 => st5Z m11 n6 s7 s8 l9 l10 (nnG p0 fun (a12 : Addr) => caBZ 108 #[(.pointer (some (a12.add 0)))] fun b13 => jn0Z (fun k14 => iteG (!b13) (ld5mZ m11 fun n15 s16 s17 l18 l19 => caIZ 36 #[shZ n15 s16 s17
 l18 l19] fun n20 => jn0Z (fun k21 => iteG (n20 != 0) (nnG p0 fun (a22 : Addr) => ca0Z 147 #[(.pointer (some (a22.add 0))), ivZ n20, ivZ n5] k21) k21) k14) k14) (ld5mZ m11 fun n23 s24 s25 l26 l27 => st5Z m1 n23 s24 s25 l26 l27 (ld5mZ m1 fun
 n28 s29 s30 l31 l32 => retG (shZ n28 s29 s30 l31 l32))))
theorem e109 : denF Tryz.prog (GA Tryz.prog) Tryz.f109 [(.one .ptr)] (.seq .leaf (.seq .leaf (.seq .leaf (.seq (.seq .leaf (.condj (sl Tryz.prog []) (.seq .leaf (.seq .leaf (.condj (sl Tryz.prog []) .leaf .leaf))) .leaf)) .leaf)))) = t109 := by kernel_rfl
theorem c109 (x0 : Option Addr) (h : t109 x0 R w) : Calls Tryz.prog 109 #[.pointer x0] w R := lift mixed Tryz.func109 e109 rfl ((x0, ()), ()) R w h
def t147 : Option Addr → Int → Int → G := fun p0 n1 n2 => caBZ 108 #[(.pointer p0)] fun b3 => jn0Z (fun k4 => iteG (!b3) (nnG p0 fun (a5 : Addr) => stG ((a5.add 2).add 0) (ivZ n1) (stG ((a5.add 2).add 1) (ivZ n2) k4)) k4) (retG (.tuple
 #[]))
theorem e147 : denF Tryz.prog (GA Tryz.prog) Tryz.f147 [(.one .ptr), (.one (.int .i64)), (.one (.int .i64))] (.seq .leaf (.condj (sl Tryz.prog []) .leaf .leaf)) = t147 := by kernel_rfl
theorem c147 (x0 : Option Addr)(x1 : Int)(x2 : Int) (h : t147 x0 x1 x2 R w) : Calls Tryz.prog 147 #[.pointer x0, .int .i64 x1, .int .i64 x2] w R := lift mixed Tryz.func147 e147 rfl ((x0, ()), (x1, ()), (x2, ()), ()) R w h
def t148 : Option Addr → G := fun p0 => nwZ #[ivZ 0, tvZ ⟨#[]⟩, ivZ 0] 124 fun m1 => drewG (nnG p0 fun (a2 : Addr) => ldIZ (a2.add 1) fun n3 => nnG p0 fun (a4 : Addr) => ldLZ (a4.add 0) fun l5 => iteG (decide (n3 < (l5.n : Int))) (drewG
 (nnG p0 fun (a6 : Addr) => ldLZ (a6.add 0) fun l7 => nnG p0 fun (a8 : Addr) => ldIZ (a8.add 1) fun n9 => ixZ l7 n9 3 fun a10 => ldIZ (a10.add 0) fun n11 => ldSZ (a10.add 1) fun s12 => ldIZ (a10.add 2) fun n13 => stG ⟨m1, 0, none⟩ (ivZ n11)
 (stG ⟨m1, 1, none⟩ (tvZ s12) (stG ⟨m1, 2, none⟩ (ivZ n13) (ldIZ ⟨m1, 0, none⟩ fun n14 => ldSZ ⟨m1, 1, none⟩ fun s15 => ldIZ ⟨m1, 2, none⟩ fun n16 => retG (.agg #[ivZ n14, tvZ s15, ivZ n16])))))) (nnG p0 fun (a17 : Addr) => ldLZ (a17.add 0)
 fun l18 => iteG ((l18.n : Int) == 0) (stG ⟨m1, 0, none⟩ (ivZ 0) (stG ⟨m1, 1, none⟩ (tvZ ⟨#[]⟩) (stG ⟨m1, 2, none⟩ (ivZ 0) (ldIZ ⟨m1, 0, none⟩ fun n19 => ldSZ ⟨m1, 1, none⟩ fun s20 => ldIZ ⟨m1, 2, none⟩ fun n21 => retG (.agg #[ivZ n19, tvZ
 s20, ivZ n21]))))) (drewG (nnG p0 fun (a22 : Addr) => ldLZ (a22.add 0) fun l23 => nnG p0 fun (a24 : Addr) => ldLZ (a24.add 0) fun l25 => ixZ l23 (wrZ ((l25.n : Int) - 1)) 3 fun a26 => ldIZ (a26.add 2) fun n27 => stG ⟨m1, 0, none⟩ (ivZ 0)
 (stG ⟨m1, 1, none⟩ (tvZ ⟨#[]⟩) (stG ⟨m1, 2, none⟩ (ivZ n27) (ldIZ ⟨m1, 0, none⟩ fun n28 => ldSZ ⟨m1, 1, none⟩ fun s29 => ldIZ ⟨m1, 2, none⟩ fun n30 => retG (.agg #[ivZ n28, tvZ s29, ivZ n30]))))))))
theorem e148 : denF Tryz.prog (GA Tryz.prog) Tryz.f148 [(.one .ptr)] .leaf = t148 := by kernel_rfl
theorem c148 (x0 : Option Addr) (h : t148 x0 R w) : Calls Tryz.prog 148 #[.pointer x0] w R := lift mixed Tryz.func148 e148 rfl ((x0, ()), ()) R w h
def t149 : Option Addr → G := fun p0 => nwZ #[(.pointer p0)] 125 fun m1 => nz5Z 25 fun m2 => nz5Z 25 fun m3 => ldPZ ⟨m1, 0, none⟩ fun p4 => nnG p4 fun (a5 : Addr) => caZ 148 #[(.pointer (some (a5.add 0)))] [(.agg [(.int .i64), .str, (.int
 .i64)])] fun (n6 : Int) (s7 : ByteArray) (n8 : Int) => nwZ #[ivZ 0, tvZ ⟨#[]⟩, ivZ 0] 124 fun m9 => stG ⟨m9, 0, none⟩ (ivZ n6) (stG ⟨m9, 1, none⟩ (tvZ s7) (stG ⟨m9, 2, none⟩ (ivZ n8) (jn0Z (fun k10 => jnBZ (fun k11 => ldIZ ⟨m9, 0, none⟩
 fun n12 => iteG (n12 == 2) (ldPZ ⟨m1, 0, none⟩ fun p13 => nnG p13 fun (a14 : Addr) => caBZ 108 #[(.pointer (some (a14.add 0)))] fun b15 => k11 (!b15)) (k11 false)) fun b16 => iteG b16 (ldPZ ⟨m1, 0, none⟩ fun p17 => nnG p17 fun (a18 : Addr)
 => ldIZ ((a18.add 0).add 1) fun n19 => nnG p17 fun (a20 : Addr) => stG ((a20.add 0).add 1) (ivZ (wrZ (n19 + 1))) (ldSZ ⟨m9, 1, none⟩ fun s21 => ca5Z 183 #[tvZ ⟨#[]⟩, tvZ s21] fun n22 s23 s24 l25 l26 => st5Z m2 n22 s23 s24 l25 l26 (ld5mZ m2
 fun n27 s28 s29 l30 l31 => retG (shZ n27 s28 s29 l30 l31)))) (jnBZ (fun k32 => ldIZ ⟨m9, 0, none⟩ fun n33 => iteG (n33 == 1) (ldPZ ⟨m1, 0, none⟩ fun p34 => nnG p34 fun (a35 : Addr) => caBZ 108 #[(.pointer (some (a35.add 0)))] fun b36 =>
 k32 (!b36)) (k32 false)) fun b37 => iteG b37 (ldPZ ⟨m1, 0, none⟩ fun p38 => nnG p38 fun (a39 : Addr) => ldIZ ((a39.add 0).add 1) fun n40 => nnG p38 fun (a41 : Addr) => stG ((a41.add 0).add 1) (ivZ (wrZ (n40 + 1))) (ldPZ ⟨m1, 0, none⟩ fun
 p42 => nnG p42 fun (a43 : Addr) => ca0Z 184 #[(.pointer (some (a43.add 0))), tvZ ⟨#[47]⟩] (drewG (ldSZ ⟨m9, 1, none⟩ fun s44 => ldPZ ⟨m1, 0, none⟩ fun p45 => nnG p45 fun (a46 : Addr) => caZ 185 #[(.pointer (some (a46.add 0))), ivZ 2]
 [(.agg [(.int .i64), .str, (.int .i64)])] fun (_ : Int) (s48 : ByteArray) (_ : Int) => keepG [(⟨m1, 0, none⟩, [(.pointer p45)]), (⟨m9, 1, none⟩, [tvZ s44])] (ca5Z 183 #[tvZ s44, tvZ s48] fun n50 s51 s52 l53 l54 => keepG [(⟨m1, 0, none⟩,
 [(.pointer p45)])] (st5Z m2 n50 s51 s52 l53 l54 (ld5mZ m2 fun n55 s56 s57 l58 l59 => retG (shZ n55 s56 s57 l58 l59)))))))) (ldPZ ⟨m1, 0, none⟩ fun p60 => nnG p60 fun (a61 : Addr) => caBZ 186 #[(.pointer (some (a61.add 0))), tvZ ⟨#[91]⟩]
 fun b62 => jn0Z (fun k63 => iteG b62 (ldPZ ⟨m1, 0, none⟩ fun p64 => ca5Z 149 #[(.pointer p64)] fun n65 s66 s67 l68 l69 => nw5Z n65 s66 s67 l68 l69 25 fun m70 => stG ⟨m3, 0, none⟩ (ivZ 5) (stG ⟨m3, 4, none⟩ (.slice (some ⟨m70, 0, none⟩) 1
 1) (ldPZ ⟨m1, 0, none⟩ fun p71 => nnG p71 fun (a72 : Addr) => ca0Z 184 #[(.pointer (some (a72.add 0))), tvZ ⟨#[93]⟩] k63))) (ldPZ ⟨m1, 0, none⟩ fun p73 => nnG p73 fun (a74 : Addr) => caBZ 186 #[(.pointer (some (a74.add 0))), tvZ ⟨#[123]⟩]
 fun b75 => jn0Z (fun k76 => iteG b75 (stG ⟨m3, 0, none⟩ (ivZ 6) (ldPZ ⟨m1, 0, none⟩ fun p77 => nnG p77 fun (a78 : Addr) => ca0Z 187 #[(.pointer (some (a78.add 0))), tvZ ⟨#[44]⟩, tvZ ⟨#[125]⟩, (.func (Fn.func 180) #[] #[(.pointer (some ⟨m1,
 0, none⟩)), (.pointer (some ⟨m3, 0, none⟩))])] k76)) (ldPZ ⟨m1, 0, none⟩ fun p79 => nnG p79 fun (a80 : Addr) => caBZ 186 #[(.pointer (some (a80.add 0))), tvZ ⟨#[60]⟩] fun b81 => jn0Z (fun k82 => iteG b81 (stG ⟨m3, 0, none⟩ (ivZ 7) (ldPZ
 ⟨m1, 0, none⟩ fun p83 => nnG p83 fun (a84 : Addr) => ca0Z 187 #[(.pointer (some (a84.add 0))), tvZ ⟨#[124]⟩, tvZ ⟨#[62]⟩, (.func (Fn.func 180) #[] #[(.pointer (some ⟨m1, 0, none⟩)), (.pointer (some ⟨m3, 0, none⟩))])] k82)) (ldPZ ⟨m1, 0,
 none⟩ fun p85 => nnG p85 fun (a86 : Addr) => caBZ 186 #[(.pointer (some (a86.add 0))), tvZ ⟨#[40]⟩] fun b87 => jn0Z (fun k88 => iteG b87 (stG ⟨m3, 0, none⟩ (ivZ 8) (ldPZ ⟨m1, 0, none⟩ fun p89 => nnG p89 fun (a90 : Addr) => ca0Z 187
 #[(.pointer (some (a90.add 0))), tvZ ⟨#[44]⟩, tvZ ⟨#[41]⟩, (.func (Fn.func 188) #[] #[(.pointer (some ⟨m3, 0, none⟩)), (.pointer (some ⟨m1, 0, none⟩))])] (ldPZ ⟨m1, 0, none⟩ fun p91 => nnG p91 fun (a92 : Addr) => ca0Z 184 #[(.pointer (some
 (a92.add 0))), tvZ ⟨#[45, 62]⟩] (drewG (ldLZ ⟨m3, 4, none⟩ fun l93 => ldPZ ⟨m1, 0, none⟩ fun p94 => bothG (ca5Z 149 #[(.pointer p94)] fun n95 s96 s97 l98 l99 => keepG [(⟨m3, 4, none⟩, [svZ l93])] (nz5Z 25 fun m100 => keepG [(⟨m1, 0, none⟩,
 [(.pointer p94)]), (⟨m3, 4, none⟩, [svZ l93])] (opG Tryz.prog (Builtin.append_ #[23, 23] 23 #[(.slice l93.a l93.n l93.c), (.slice (some ⟨m100, 0, none⟩) 1 1)]) (.one .slice) fun (l101 : Sl) => ixZ l101 (l93.n : Int) 5 fun a102 => bothG
 (stG (a102.add 0) (ivZ n95) (stG (a102.add 1) (tvZ s96) (stG (a102.add 2) (tvZ s97) (stG (a102.add 3) (svZ l98) (stG (a102.add 4) (svZ l99) (stG ⟨m3, 4, none⟩ (svZ l101) k88)))))) (stG ⟨m3, 4, none⟩ (svZ l101) (stG (a102.add 0) (ivZ n95)
 (stG (a102.add 1) (tvZ s96) (stG (a102.add 2) (tvZ s97) (stG (a102.add 3) (svZ l98) (stG (a102.add 4) (svZ l99) k88))))))))) (nz5Z 25 fun m103 => keepG [(⟨m1, 0, none⟩, [(.pointer p94)]), (⟨m3, 4, none⟩, [svZ l93])] (ca5Z 149 #[(.pointer
 p94)] fun n104 s105 s106 l107 l108 => keepG [(⟨m3, 4, none⟩, [svZ l93])] (opG Tryz.prog (Builtin.append_ #[23, 23] 23 #[(.slice l93.a l93.n l93.c), (.slice (some ⟨m103, 0, none⟩) 1 1)]) (.one .slice) fun (l109 : Sl) => ixZ l109 (l93.n :
 Int) 5 fun a110 => bothG (stG (a110.add 0) (ivZ n104) (stG (a110.add 1) (tvZ s105) (stG (a110.add 2) (tvZ s106) (stG (a110.add 3) (svZ l107) (stG (a110.add 4) (svZ l108) (stG ⟨m3, 4, none⟩ (svZ l109) k88)))))) (stG ⟨m3, 4, none⟩ (svZ l109)
 (stG (a110.add 0) (ivZ n104) (stG (a110.add 1) (tvZ s105) (stG (a110.add 2) (tvZ s106) (stG (a110.add 3) (svZ l107) (stG (a110.add 4) (svZ l108) k88)))))))))))))) (drewG (ldPZ ⟨m1, 0, none⟩ fun p111 => nnG p111 fun (a112 : Addr) => ldIZ
 ⟨m9, 2, none⟩ fun n113 => ca0Z 147 #[(.pointer (some (a112.add 0))), ivZ 90, ivZ n113] (keepG [(⟨m1, 0, none⟩, [(.pointer p111)])] k88)))) k82)) k76)) k63)) k10))) (ld5mZ m3 fun n114 s115 s116 l117 l118 => st5Z m2 n114 s115 s116 l117 l118
 (ld5mZ m2 fun n119 s120 s121 l122 l123 => retG (shZ n119 s120 s121 l122 l123))))))
theorem e149 : denF Tryz.prog (GA Tryz.prog) Tryz.f149 [(.one .ptr)] (.seq .leaf (.seq .leaf (.seq .leaf (.seq (.seq .leaf (.block (sl Tryz.prog []) (.seq (.r (sl Tryz.prog [(17, 4)])) (.cond .leaf (.seq (.r (sl Tryz.prog [(40, 4)])) (.cond .leaf (.seq .leaf (.condj (sl Tryz.prog []) .leaf (.seq .leaf (.condj (sl Tryz.prog []) .leaf (.seq .leaf (.condj (sl Tryz.prog []) .leaf (.seq .leaf (.condj (sl Tryz.prog []) .leaf .leaf)))))))))))))) .leaf)))) = t149 := by kernel_rfl
theorem c149 (x0 : Option Addr) (h : t149 x0 R w) : Calls Tryz.prog 149 #[.pointer x0] w R := lift mixed Tryz.func149 e149 rfl ((x0, ()), ()) R w h
def t180 : Addr → Addr → G := fun a0 a1 => drewG (ldPZ a0 fun p2 => nnG p2 fun (a3 : Addr) => ldLZ (a1.add 3) fun l4 => caSZ 181 #[(.pointer (some (a3.add 0))), svZ l4] fun s5 => keepG [(a0, [(.pointer p2)])] (ldLZ (a1.add 3) fun l6 => nwZ
 #[tvZ s5] 9 fun m7 => opG Tryz.prog (Builtin.append_ #[22, 22] 22 #[(.slice l6.a l6.n l6.c), (.slice (some ⟨m7, 0, none⟩) 1 1)]) (.one .slice) fun (l8 : Sl) => stG (a1.add 3) (svZ l8) (drewG (ldLZ (a1.add 4) fun l9 => ldPZ a0 fun p10 =>
 bothG (ca5Z 182 #[(.pointer p10)] fun n11 s12 s13 l14 l15 => keepG [((a1.add 4), [svZ l9])] (nz5Z 25 fun m16 => keepG [(a0, [(.pointer p10)]), ((a1.add 4), [svZ l9])] (opG Tryz.prog (Builtin.append_ #[23, 23] 23 #[(.slice l9.a l9.n l9.c),
 (.slice (some ⟨m16, 0, none⟩) 1 1)]) (.one .slice) fun (l17 : Sl) => ixZ l17 (l9.n : Int) 5 fun a18 => bothG (stG (a18.add 0) (ivZ n11) (stG (a18.add 1) (tvZ s12) (stG (a18.add 2) (tvZ s13) (stG (a18.add 3) (svZ l14) (stG (a18.add 4) (svZ
 l15) (stG (a1.add 4) (svZ l17) (retG (.tuple #[])))))))) (stG (a1.add 4) (svZ l17) (stG (a18.add 0) (ivZ n11) (stG (a18.add 1) (tvZ s12) (stG (a18.add 2) (tvZ s13) (stG (a18.add 3) (svZ l14) (stG (a18.add 4) (svZ l15) (retG (.tuple
 #[]))))))))))) (nz5Z 25 fun m19 => keepG [(a0, [(.pointer p10)]), ((a1.add 4), [svZ l9])] (ca5Z 182 #[(.pointer p10)] fun n20 s21 s22 l23 l24 => keepG [((a1.add 4), [svZ l9])] (opG Tryz.prog (Builtin.append_ #[23, 23] 23 #[(.slice l9.a
 l9.n l9.c), (.slice (some ⟨m19, 0, none⟩) 1 1)]) (.one .slice) fun (l25 : Sl) => ixZ l25 (l9.n : Int) 5 fun a26 => bothG (stG (a26.add 0) (ivZ n20) (stG (a26.add 1) (tvZ s21) (stG (a26.add 2) (tvZ s22) (stG (a26.add 3) (svZ l23) (stG
 (a26.add 4) (svZ l24) (stG (a1.add 4) (svZ l25) (retG (.tuple #[])))))))) (stG (a1.add 4) (svZ l25) (stG (a26.add 0) (ivZ n20) (stG (a26.add 1) (tvZ s21) (stG (a26.add 2) (tvZ s22) (stG (a26.add 3) (svZ l23) (stG (a26.add 4) (svZ l24)
 (retG (.tuple #[])))))))))))))))
theorem e180 : denF Tryz.prog (GA Tryz.prog) Tryz.f180 [(.one .addr), (.one .addr)] .leaf = t180 := by kernel_rfl
theorem c180 (x0 : Addr)(x1 : Addr) (h : t180 x0 x1 R w) : Calls Tryz.prog 180 #[.pointer (some x0), .pointer (some x1)] w R := lift mixed Tryz.func180 e180 rfl ((x0, ()), (x1, ()), ()) R w h
def t181 : Option Addr → Sl → G := fun p0 l1 => caZ 185 #[(.pointer p0), ivZ 1] [(.agg [(.int .i64), .str, (.int .i64)])] fun (n2 : Int) (s3 : ByteArray) (n4 : Int) => nwZ #[ivZ 0, tvZ ⟨#[]⟩, ivZ 0] 124 fun m5 => stG ⟨m5, 0, none⟩ (ivZ n2)
 (stG ⟨m5, 1, none⟩ (tvZ s3) (stG ⟨m5, 2, none⟩ (ivZ n4) (jnBZ (fun k6 => caBZ 108 #[(.pointer p0)] fun b7 => iteG (!b7) (ldSZ ⟨m5, 1, none⟩ fun s8 => caBZ 204 #[svZ l1, tvZ s8] fun b9 => k6 b9) (k6 false)) fun b10 => jn0Z (fun k11 => iteG
 b10 (ldIZ ⟨m5, 2, none⟩ fun n12 => ca0Z 147 #[(.pointer p0), ivZ 111, ivZ n12] k11) k11) (ldSZ ⟨m5, 1, none⟩ fun s13 => retG (tvZ s13)))))
theorem e181 : denF Tryz.prog (GA Tryz.prog) Tryz.f181 [(.one .ptr), (.one .slice)] (.seq .leaf (.seq .leaf (.seq (.seq (.r (sl Tryz.prog [(16, 4)])) (.condj (sl Tryz.prog []) .leaf .leaf)) .leaf))) = t181 := by kernel_rfl
theorem c181 (x0 : Option Addr)(x1 : Sl) (h : t181 x0 x1 R w) : Calls Tryz.prog 181 #[.pointer x0, .slice x1.a x1.n x1.c] w R := lift mixed Tryz.func181 e181 rfl ((x0, ()), (x1, ()), ()) R w h
def t182 : Option Addr → G := fun p0 => nz5Z 25 fun m1 => nnG p0 fun (a2 : Addr) => ca0Z 184 #[(.pointer (some (a2.add 0))), tvZ ⟨#[58]⟩] (ca5Z 149 #[(.pointer p0)] fun n3 s4 s5 l6 l7 => st5Z m1 n3 s4 s5 l6 l7 (ld5mZ m1 fun n8 s9 s10 l11
 l12 => retG (shZ n8 s9 s10 l11 l12)))
theorem e182 : denF Tryz.prog (GA Tryz.prog) Tryz.f182 [(.one .ptr)] .leaf = t182 := by kernel_rfl
theorem c182 (x0 : Option Addr) (h : t182 x0 R w) : Calls Tryz.prog 182 #[.pointer x0] w R := lift mixed Tryz.func182 e182 rfl ((x0, ()), ()) R w h
def t183 : ByteArray → ByteArray → G := fun s0 s1 => nz5Z 25 fun m2 => jn0Z (fun k3 => iteG (s0.toList == ByteArray.toList ⟨#[]⟩) (jn0Z (fun k4 => iteG (s1.toList == ByteArray.toList (ByteArray.mk #[(73 : UInt8), (110 : UInt8), (116 :
 UInt8)])) (st5Z m2 1 ⟨#[]⟩ ⟨#[]⟩ ⟨none, 0, 0⟩ ⟨none, 0, 0⟩ (ld5mZ m2 fun n5 s6 s7 l8 l9 => retG (shZ n5 s6 s7 l8 l9))) (iteG (s1.toList == ByteArray.toList (ByteArray.mk #[(66 : UInt8), (111 : UInt8), (111 : UInt8), (108 : UInt8)])) (st5Z
 m2 2 ⟨#[]⟩ ⟨#[]⟩ ⟨none, 0, 0⟩ ⟨none, 0, 0⟩ (ld5mZ m2 fun n10 s11 s12 l13 l14 => retG (shZ n10 s11 s12 l13 l14))) (iteG (s1.toList == ByteArray.toList (ByteArray.mk #[(84 : UInt8), (101 : UInt8), (120 : UInt8), (116 : UInt8)])) (st5Z m2 3
 ⟨#[]⟩ ⟨#[]⟩ ⟨none, 0, 0⟩ ⟨none, 0, 0⟩ (ld5mZ m2 fun n15 s16 s17 l18 l19 => retG (shZ n15 s16 s17 l18 l19))) (iteG (s1.toList == ByteArray.toList (ByteArray.mk #[(65 : UInt8), (110 : UInt8), (121 : UInt8)])) (st5Z m2 4 ⟨#[]⟩ ⟨#[]⟩ ⟨none, 0,
 0⟩ ⟨none, 0, 0⟩ (ld5mZ m2 fun n20 s21 s22 l23 l24 => retG (shZ n20 s21 s22 l23 l24))) k4)))) k3) k3) (st5Z m2 9 s0 s1 ⟨none, 0, 0⟩ ⟨none, 0, 0⟩ (ld5mZ m2 fun n25 s26 s27 l28 l29 => retG (shZ n25 s26 s27 l28 l29)))
theorem e183 : denF Tryz.prog (GA Tryz.prog) Tryz.f183 [(.one .str), (.one .str)] (.seq .leaf (.seq (.seq .leaf (.condj (sl Tryz.prog []) (.seq .leaf (.block (sl Tryz.prog []) .leaf)) .leaf)) .leaf)) = t183 := by kernel_rfl
theorem c183 (x0 : ByteArray)(x1 : ByteArray) (h : t183 x0 x1 R w) : Calls Tryz.prog 183 #[.string x0, .string x1] w R := lift mixed Tryz.func183 e183 rfl ((x0, ()), (x1, ()), ()) R w h
def t184 : Option Addr → ByteArray → G := fun p0 s1 => caBZ 186 #[(.pointer p0), tvZ s1] fun b2 => jn0Z (fun k3 => iteG (!b2) (caZ 148 #[(.pointer p0)] [(.agg [(.int .i64), .str, (.int .i64)])] fun (_ : Int) (_ : ByteArray) (n6 : Int) =>
 ca0Z 147 #[(.pointer p0), ivZ 90, ivZ n6] k3) k3) (retG (.tuple #[]))
theorem e184 : denF Tryz.prog (GA Tryz.prog) Tryz.f184 [(.one .ptr), (.one .str)] (.seq .leaf (.condj (sl Tryz.prog []) .leaf .leaf)) = t184 := by kernel_rfl
theorem c184 (x0 : Option Addr)(x1 : ByteArray) (h : t184 x0 x1 R w) : Calls Tryz.prog 184 #[.pointer x0, .string x1] w R := lift mixed Tryz.func184 e184 rfl ((x0, ()), (x1, ()), ()) R w h
def t185 : Option Addr → Int → G := fun p0 n1 => nwZ #[ivZ 0, tvZ ⟨#[]⟩, ivZ 0] 124 fun m2 => caZ 148 #[(.pointer p0)] [(.agg [(.int .i64), .str, (.int .i64)])] fun (n3 : Int) (s4 : ByteArray) (n5 : Int) => nwZ #[ivZ 0, tvZ ⟨#[]⟩, ivZ 0]
 124 fun m6 => stG ⟨m6, 0, none⟩ (ivZ n3) (stG ⟨m6, 1, none⟩ (tvZ s4) (stG ⟨m6, 2, none⟩ (ivZ n5) (jnBZ (fun k7 => ldIZ ⟨m6, 0, none⟩ fun n8 => iteG (n8 != n1) (k7 true) (caBZ 108 #[(.pointer p0)] fun b9 => k7 b9)) fun b10 => iteG b10 (ldIZ
 ⟨m6, 2, none⟩ fun n11 => ca0Z 147 #[(.pointer p0), ivZ 90, ivZ n11] (stG ⟨m2, 0, none⟩ (ivZ 0) (stG ⟨m2, 1, none⟩ (tvZ ⟨#[]⟩) (stG ⟨m2, 2, none⟩ (ivZ 0) (ldIZ ⟨m2, 0, none⟩ fun n12 => ldSZ ⟨m2, 1, none⟩ fun s13 => ldIZ ⟨m2, 2, none⟩ fun
 n14 => retG (.agg #[ivZ n12, tvZ s13, ivZ n14])))))) (nnG p0 fun (a15 : Addr) => ldIZ (a15.add 1) fun n16 => nnG p0 fun (a17 : Addr) => stG (a17.add 1) (ivZ (wrZ (n16 + 1))) (ldIZ ⟨m6, 0, none⟩ fun n18 => ldSZ ⟨m6, 1, none⟩ fun s19 => ldIZ
 ⟨m6, 2, none⟩ fun n20 => stG ⟨m2, 0, none⟩ (ivZ n18) (stG ⟨m2, 1, none⟩ (tvZ s19) (stG ⟨m2, 2, none⟩ (ivZ n20) (ldIZ ⟨m2, 0, none⟩ fun n21 => ldSZ ⟨m2, 1, none⟩ fun s22 => ldIZ ⟨m2, 2, none⟩ fun n23 => retG (.agg #[ivZ n21, tvZ s22, ivZ
 n23])))))))))
theorem e185 : denF Tryz.prog (GA Tryz.prog) Tryz.f185 [(.one .ptr), (.one (.int .i64))] (.seq .leaf (.seq .leaf (.seq (.seq (.r (sl Tryz.prog [(15, 4)])) .leaf) .leaf))) = t185 := by kernel_rfl
theorem c185 (x0 : Option Addr)(x1 : Int) (h : t185 x0 x1 R w) : Calls Tryz.prog 185 #[.pointer x0, .int .i64 x1] w R := lift mixed Tryz.func185 e185 rfl ((x0, ()), (x1, ()), ()) R w h
def t186 : Option Addr → ByteArray → G := fun p0 s1 => caBZ 205 #[(.pointer p0), tvZ s1] fun b2 => iteG (!b2) (retG (.bool false)) (nnG p0 fun (a3 : Addr) => ldIZ (a3.add 1) fun n4 => nnG p0 fun (a5 : Addr) => stG (a5.add 1) (ivZ (wrZ (n4 +
 1))) (retG (.bool true)))
theorem e186 : denF Tryz.prog (GA Tryz.prog) Tryz.f186 [(.one .ptr), (.one .str)] .leaf = t186 := by kernel_rfl
theorem c186 (x0 : Option Addr)(x1 : ByteArray) (h : t186 x0 x1 R w) : Calls Tryz.prog 186 #[.pointer x0, .string x1] w R := lift mixed Tryz.func186 e186 rfl ((x0, ()), (x1, ()), ()) R w h
def t188 : Addr → Addr → G := fun a0 a1 => drewG (ldLZ (a0.add 4) fun l2 => ldPZ a1 fun p3 => bothG (ca5Z 149 #[(.pointer p3)] fun n4 s5 s6 l7 l8 => keepG [((a0.add 4), [svZ l2])] (nz5Z 25 fun m9 => keepG [(a1, [(.pointer p3)]), ((a0.add
 4), [svZ l2])] (opG Tryz.prog (Builtin.append_ #[23, 23] 23 #[(.slice l2.a l2.n l2.c), (.slice (some ⟨m9, 0, none⟩) 1 1)]) (.one .slice) fun (l10 : Sl) => ixZ l10 (l2.n : Int) 5 fun a11 => bothG (stG (a11.add 0) (ivZ n4) (stG (a11.add 1)
 (tvZ s5) (stG (a11.add 2) (tvZ s6) (stG (a11.add 3) (svZ l7) (stG (a11.add 4) (svZ l8) (stG (a0.add 4) (svZ l10) (retG (.tuple #[])))))))) (stG (a0.add 4) (svZ l10) (stG (a11.add 0) (ivZ n4) (stG (a11.add 1) (tvZ s5) (stG (a11.add 2) (tvZ
 s6) (stG (a11.add 3) (svZ l7) (stG (a11.add 4) (svZ l8) (retG (.tuple #[]))))))))))) (nz5Z 25 fun m12 => keepG [(a1, [(.pointer p3)]), ((a0.add 4), [svZ l2])] (ca5Z 149 #[(.pointer p3)] fun n13 s14 s15 l16 l17 => keepG [((a0.add 4), [svZ
 l2])] (opG Tryz.prog (Builtin.append_ #[23, 23] 23 #[(.slice l2.a l2.n l2.c), (.slice (some ⟨m12, 0, none⟩) 1 1)]) (.one .slice) fun (l18 : Sl) => ixZ l18 (l2.n : Int) 5 fun a19 => bothG (stG (a19.add 0) (ivZ n13) (stG (a19.add 1) (tvZ
 s14) (stG (a19.add 2) (tvZ s15) (stG (a19.add 3) (svZ l16) (stG (a19.add 4) (svZ l17) (stG (a0.add 4) (svZ l18) (retG (.tuple #[])))))))) (stG (a0.add 4) (svZ l18) (stG (a19.add 0) (ivZ n13) (stG (a19.add 1) (tvZ s14) (stG (a19.add 2) (tvZ
 s15) (stG (a19.add 3) (svZ l16) (stG (a19.add 4) (svZ l17) (retG (.tuple #[]))))))))))))
theorem e188 : denF Tryz.prog (GA Tryz.prog) Tryz.f188 [(.one .addr), (.one .addr)] .leaf = t188 := by kernel_rfl
theorem c188 (x0 : Addr)(x1 : Addr) (h : t188 x0 x1 R w) : Calls Tryz.prog 188 #[.pointer (some x0), .pointer (some x1)] w R := lift mixed Tryz.func188 e188 rfl ((x0, ()), (x1, ()), ()) R w h
def t205 : Option Addr → ByteArray → G := fun p0 s1 => caZ 148 #[(.pointer p0)] [(.agg [(.int .i64), .str, (.int .i64)])] fun (n2 : Int) (s3 : ByteArray) (n4 : Int) => nwZ #[ivZ 0, tvZ ⟨#[]⟩, ivZ 0] 124 fun m5 => stG ⟨m5, 0, none⟩ (ivZ n2)
 (stG ⟨m5, 1, none⟩ (tvZ s3) (stG ⟨m5, 2, none⟩ (ivZ n4) (jnBZ (fun k6 => ldIZ ⟨m5, 0, none⟩ fun n7 => iteG (n7 == 6) (ldSZ ⟨m5, 1, none⟩ fun s8 => iteG (s8.toList == s1.toList) (caBZ 108 #[(.pointer p0)] fun b9 => k6 (!b9)) (k6 false))
 (ldIZ ⟨m5, 0, none⟩ fun n10 => iteG (n10 == 5) (ldSZ ⟨m5, 1, none⟩ fun s11 => iteG (s11.toList == s1.toList) (caBZ 108 #[(.pointer p0)] fun b12 => k6 (!b12)) (k6 false)) (k6 false))) fun b13 => retG (.bool b13))))
theorem e205 : denF Tryz.prog (GA Tryz.prog) Tryz.f205 [(.one .ptr), (.one .str)] (.seq .leaf (.seq .leaf (.seq (.r (sl Tryz.prog [(4, 4)])) .leaf))) = t205 := by kernel_rfl
theorem c205 (x0 : Option Addr)(x1 : ByteArray) (h : t205 x0 x1 R w) : Calls Tryz.prog 205 #[.pointer x0, .string x1] w R := lift mixed Tryz.func205 e205 rfl ((x0, ()), (x1, ()), ()) R w h
end Go.Proofs.YticokfpaoiekgaaGreatDoor
end
section
namespace Go.Shp
open Go.Lex
theorem deep_mem : ∀ {l : List Shape} {s : Shape}, s ∈ l → deep s ≤ deeps l
 | x :: r, s, h => by
  unfold deeps
  rcases List.mem_cons.1 h with rfl | h
  ·exact Nat.le_max_left _ _
  ·exact Nat.le_trans (deep_mem h) (Nat.le_max_right _ _)
theorem size_mem : ∀ {l : List Shape} {s : Shape}, s ∈ l → size s ≤ sizes l
 | x :: r, s, h => by
  unfold sizes
  rcases List.mem_cons.1 h with rfl | h
  ·exact Nat.le_add_right _ _
  ·exact Nat.le_trans (size_mem h) (Nat.le_add_left _ _)
theorem deep_mk (k : Int) (o n : B) (ns : List B) (ps : List Shape) : deep (.mk k o n ns ps) = 1 + deeps ps := by rw [deep]
theorem size_mk (k : Int) (o n : B) (ns : List B) (ps : List Shape) : size (.mk k o n ns ps) = 1 + sizes ps := by rw [size]
theorem size_pos (s : Shape) : 1 ≤ size s := by cases s; rw [size_mk]; omega
theorem deep_pos (s : Shape) : 1 ≤ deep s := by cases s; rw [deep_mk]; omega
theorem sizes_len : ∀ l : List Shape, l.length ≤ sizes l
 | [] => Nat.le_refl _
 | s :: r => by
  have := sizes_len r
  have := size_pos s
  rw [sizes, List.length_cons]
  omega
mutual
theorem deep_size : ∀ s : Shape, deep s ≤ size s
 | .mk k o n ns ps => by
  have := deeps_sizes ps
  rw [deep_mk, size_mk]
  omega
theorem deeps_sizes : ∀ l : List Shape, deeps l ≤ sizes l
 | [] => Nat.le_refl _
 | s :: r => by
  have := deep_size s
  have := deeps_sizes r
  rw [deeps, sizes]
  omega
end
theorem find_mem : ∀ {ns : List B} {ps : List Shape} {n : B} {p : Shape}, find ns ps n = some p → p ∈ ps
 | [], _, _, _, h => by simp [find] at h
 | _ :: _, [], _, _, h => by simp [find] at h
 | x :: ns, q :: ps, n, p, h => by
  unfold find at h
  split at h
  ·cases h; exact List.mem_cons_self
  ·exact List.mem_cons_of_mem _ (find_mem h)
theorem withinF_congr {f g : Shape → Shape → Bool} {os : List B} {qs : List Shape} : ∀ {ns : List B} {ps : List Shape}, (∀ p ∈ ps, ∀ q ∈ qs, f p q = g p q) → withinF f ns ps os qs = withinF g ns ps os qs
 | [], _, _ => by simp [withinF]
 | _ :: _, [], _ => by simp [withinF]
 | n :: ns, p :: ps, h => by
  unfold withinF
  rw [withinF_congr fun p hp q hq => h p (List.mem_cons_of_mem _ hp) q hq]
  cases hf : find os qs n with
  | none => rfl
  | some q =>
   simp only []
   rw [h p List.mem_cons_self q (find_mem hf)]
theorem funAll_congr {f g : Shape → Shape → Bool} : ∀ {ps qs : List Shape}, (∀ p ∈ ps, ∀ q ∈ qs, f p q = g p q ∧ f q p = g q p) → funAll f ps qs = funAll g ps qs
 | [], [], _ => rfl
 | [], _ :: _, _ => rfl
 | [_], [], _ => rfl
 | [x], [y], h => (h x List.mem_cons_self y List.mem_cons_self).1
 | [x], y :: z :: t, h => by
  unfold funAll
  rw [(h x List.mem_cons_self y List.mem_cons_self).2]
  unfold funAll
  rfl
 | x :: y :: r, [], _ => by simp [funAll]
 | x :: y :: r, [z], h => by
  unfold funAll
  rw [(h x List.mem_cons_self z List.mem_cons_self).2]
  cases r <;> simp [funAll]
 | x :: y :: r, z :: u :: t, h => by
  unfold funAll
  rw [(h x List.mem_cons_self z List.mem_cons_self).2, funAll_congr fun p hp q hq => h p (List.mem_cons_of_mem _ hp) q (List.mem_cons_of_mem _ hq)]
theorem belowF_fuel : ∀ (f g : Nat) (a b : Shape), deep a ≤ f → deep b ≤ f → deep a ≤ g → deep b ≤ g → belowF f a b = belowF g a b
 | 0, _, a, _, h, _, _, _ => by have := deep_pos a; omega
 | _, 0, a, _, _, _, h, _ => by have := deep_pos a; omega
 | f + 1, g + 1, .mk ka oa na nsa psa, .mk kb ob nb nsb psb, h1, h2, h3, h4 => by
  rw [deep_mk] at h1 h2 h3 h4
  have key : ∀ p, p ∈ psa → ∀ q, q ∈ psb → belowF f p q = belowF g p q ∧ belowF f q p = belowF g q p := fun p hp q hq => by
   have a1 := deep_mem hp
   have a2 := deep_mem hq
   exact ⟨belowF_fuel f g p q (by omega) (by omega) (by omega) (by omega), belowF_fuel f g q p (by omega) (by omega) (by omega) (by omega)⟩
  unfold belowF
  rw [withinF_congr (f := fun x y => belowF f y x) (g := fun x y => belowF g y x) fun p hp q hq => (key q hq p hp).1, withinF_congr (f := belowF f) (g := belowF g) fun p hp q hq => (key p hp q hq).1, funAll_congr (f := belowF f) (g := belowF g) fun p hp q hq => key p hp q hq]
theorem nearF_fuel : ∀ (f g : Nat) (a b : Shape), deep a ≤ f → deep b ≤ f → deep a ≤ g → deep b ≤ g → nearF f a b = nearF g a b
 | 0, _, a, _, h, _, _, _ => by have := deep_pos a; omega
 | _, 0, a, _, _, _, h, _ => by have := deep_pos a; omega
 | f + 1, g + 1, .mk ka oa na nsa psa, .mk kb ob nb nsb psb, h1, h2, h3, h4 => by
  rw [deep_mk] at h1 h2 h3 h4
  have key : ∀ p, p ∈ psa → ∀ q, q ∈ psb → nearF f p q = nearF g p q ∧ nearF f q p = nearF g q p := fun p hp q hq => by
   have a1 := deep_mem hp
   have a2 := deep_mem hq
   exact ⟨nearF_fuel f g p q (by omega) (by omega) (by omega) (by omega), nearF_fuel f g q p (by omega) (by omega) (by omega) (by omega)⟩
  unfold nearF
  rw [withinF_congr (f := fun x y => nearF f y x) (g := fun x y => nearF g y x) fun p hp q hq => (key q hq p hp).1, withinF_congr (f := nearF f) (g := nearF g) fun p hp q hq => (key p hp q hq).1, funAll_congr (f := nearF f) (g := nearF g) fun p hp q hq => key p hp q hq]
end Go.Shp
end
section
namespace Go.Lift
open Go.Shp
mutual
def ShV (w : World) (k : Int) (o n : ByteArray) (ns ps : Sl) : Shape → Prop
 | .mk k' o' n' names parts => k = k' ∧ bl o = o' ∧ bl n = n' ∧ (RdS w ns (names.map bs) ∧ names.length < 4611686018427387904 ∧ ps.n = parts.length ∧ parts.length < 4611686018427387904 ∧ o.size < 4611686018427387904 ∧ n.size < 4611686018427387904 ∧ ∀ x ∈ names, x.length < 4611686018427387904) ∧ ShL w ps.a 0 parts
def ShL (w : World) (a : Option Addr) (i : Nat) : List Shape → Prop
 | [] => True
 | s :: r => (∃ (g off : Nat) (k : Int) (o n : ByteArray) (ns ps : Sl), a = some ⟨g, off, none⟩ ∧ w.cell? ⟨g, off + i * 5, none⟩ = some (.int .i64 k) ∧ w.cell? ⟨g, off + i * 5 + 1, none⟩ = some (.string o) ∧ w.cell? ⟨g, off + i * 5 + 2, none⟩ = some (.string n) ∧
   w.cell? ⟨g, off + i * 5 + 3, none⟩ = some (.slice ns.a ns.n ns.c) ∧ w.cell? ⟨g, off + i * 5 + 4, none⟩ = some (.slice ps.a ps.n ps.c) ∧ ShV w k o n ns ps s) ∧ ShL w a (i + 1) r
end
mutual
theorem ShV.fr {w w' : World} (F : Fr noB w w') : ∀ {s : Shape} {k : Int} {o n : ByteArray} {ns ps : Sl}, ShV w k o n ns ps s → ShV w' k o n ns ps s
 | .mk _ _ _ _ _, _, _, _, _, _, h => by
  unfold ShV at h ⊢
  exact ⟨h.1, h.2.1, h.2.2.1, ⟨h.2.2.2.1.1.fr F, h.2.2.2.1.2⟩, ShL.fr F h.2.2.2.2⟩
theorem ShL.fr {w w' : World} (F : Fr noB w w') : ∀ {l : List Shape} {a : Option Addr} {i : Nat}, ShL w a i l → ShL w' a i l
 | [], _, _, _ => by unfold ShL; trivial
 | s :: r, _, _, h => by
  unfold ShL at h ⊢
  obtain ⟨⟨g, off, k, o, n, ns, ps, h0, h1, h2, h3, h4, h5, h6⟩, hr⟩ := h
  exact ⟨⟨g, off, k, o, n, ns, ps, h0, F.cell h1 (fun h => h), F.cell h2 (fun h => h), F.cell h3 (fun h => h), F.cell h4 (fun h => h), F.cell h5 (fun h => h), ShV.fr F h6⟩, ShL.fr F hr⟩
end
theorem ShL.at {w : World} {a : Option Addr} : ∀ {l : List Shape} {i j : Nat} {s : Shape}, ShL w a i l → l[j]? = some s → ∃ (g off : Nat) (k : Int) (o n : ByteArray) (ns ps : Sl), a = some ⟨g, off, none⟩ ∧ w.cell? ⟨g, off + (i + j) * 5, none⟩ = some (.int .i64 k) ∧ w.cell? ⟨g, off + (i + j) * 5 + 1, none⟩ = some (.string o) ∧ w.cell? ⟨g, off + (i + j) * 5 + 2, none⟩ = some (.string n) ∧
   w.cell? ⟨g, off + (i + j) * 5 + 3, none⟩ = some (.slice ns.a ns.n ns.c) ∧ w.cell? ⟨g, off + (i + j) * 5 + 4, none⟩ = some (.slice ps.a ps.n ps.c) ∧ ShV w k o n ns ps s
 | [], _, _, _, _, hj => by simp at hj
 | x :: r, i, 0, s, h, hj => by
  unfold ShL at h
  simp only [List.getElem?_cons_zero, Option.some.injEq] at hj
  subst hj
  exact h.1
 | x :: r, i, j + 1, s, h, hj => by
  unfold ShL at h
  have := ShL.at h.2 (by simpa using hj)
  rw [show i + (j + 1) = i + 1 + j by omega]
  exact this
def shCells (k : Int) (o n : ByteArray) (ns ps : Sl) : List Value := [.int .i64 k, .string o, .string n, .slice ns.a ns.n ns.c, .slice ps.a ps.n ps.c]
@[reducible] def shArg (k : Int) (o n : ByteArray) (ns ps : Sl) : Value := .agg #[.int .i64 k, .string o, .string n, .slice ns.a ns.n ns.c, .slice ps.a ps.n ps.c]
section
variable {R : Ending → World → Prop} {w : World}
theorem part_ld {l : List Shape} {a : Option Addr} {len i : Nat} {s : Shape} {K : Int → ByteArray → ByteArray → Sl → Sl → G} (h : ShL w a 0 l) (hs : l[i]? = some s) (hl : len = l.length)
  (hk : ∀ k o n ns ps, ShV w k o n ns ps s → K k o n ns ps R w) :
  idxG a len (i : Int) 5 (fun (x : Addr) => ldG (.int .i64) (x.add 0) (fun (k : Int) => ldG .str (x.add 1) (fun (o : ByteArray) => ldG .str (x.add 2) (fun (n : ByteArray) => ldG .slice (x.add 3) (fun (ns : Sl) => ldG .slice (x.add 4) (fun (ps : Sl) => K k o n ns ps)))))) R w := by
 obtain ⟨g, off, k, o, n, ns, ps, rfl, c0, c1, c2, c3, c4, hv⟩ := h.at hs
 have hi := (List.getElem?_eq_some_iff.1 hs).1
 rw [Nat.zero_add] at c0 c1 c2 c3 c4
 refine idxB_ok (n := len) (i := i) (by omega) ?_
 simp only [Addr.add_lit, Nat.add_zero]
 exact ld_ok (c := .int .i64) c0 (ld_ok (c := .str) c1 (ld_ok (c := .str) c2 (ld_ok (c := .slice) (x := ns) c3 (ld_ok (c := .slice) (x := ps) c4 (hk k o n ns ps hv)))))
theorem ShV.parts {k : Int} {o n : ByteArray} {ns ps : Sl} {s : Shape} (h : ShV w k o n ns ps s) : k = s.kind ∧ bl o = s.of ∧ bl n = s.name ∧ (RdS w ns (s.names.map bs) ∧ s.names.length < 4611686018427387904 ∧ ps.n = s.parts.length ∧ s.parts.length < 4611686018427387904 ∧ o.size < 4611686018427387904 ∧ n.size < 4611686018427387904 ∧ ∀ x ∈ s.names, x.length < 4611686018427387904) ∧ ShL w ps.a 0 s.parts := by
 cases s
 unfold ShV at h
 exact h
end
end Go.Lift
end
