/- The functions as trees, each with its contract (by program). No condition. -/
import Derived.Test.YthnfcbjfmghomaaGreatDoorTreeA
import Derived.Test.YthnfcbjfmghomaaGreatDoorProg
set_option maxRecDepth 100000
namespace Go.Proofs.YthnfcbjfmghomaaGreatDoor
open Go.Lift

/-- strings.NewReplacer -/
def t57 : Sl → G :=
  fun (l0 : Sl) => joinG []
    (fun k1 => iteG (Int.tmod (↑(Sl.n l0) : Int) (2 : Int) == (1 : Int))
      (failG ("sem"))
      (k1))
    (opG Tryz.prog (Builtin.append_ #[40, 40] 40 #[(Value.slice Option.none 0 0), (Value.slice (Sl.a l0) (Sl.n l0) (Sl.c l0))]) (VT.one CT.slice)
      (fun (l2 : Sl) => newG (Obj.cells #[(Value.int IntKind.u32 (0 : Int)), (Value.int IntKind.i32 (0 : Int)), (Value.int IntKind.u32 (0 : Int)), Value.nilIface, (Value.slice (Sl.a l2) (Sl.n l2) (Sl.c l2))] 122 (Prod.mk 0 0))
        (fun (m3 : Nat) => retG (Value.pointer (Option.some (Addr.mk m3 0 Option.none))))))
theorem e57 : denF Tryz.prog (GA Tryz.prog) Tryz.f57 [(VT.one CT.slice)] (.seq .leaf (.seq (.seq .leaf (.condj (sl Tryz.prog []) .leaf .leaf)) .leaf)) = t57 := by kernel_rfl
theorem c57 (x0 : Sl) {R : Ending → World → Prop} {w : World} (h : t57 x0 R w) : Calls Tryz.prog 57 #[.slice x0.a x0.n x0.c] w R :=
  lift mixed Tryz.func57 e57 rfl ((x0, ()), ()) R w h

/-- (*sync.Once).Do -/
def t81 : Option Addr → Value → G :=
  fun (p0 : Option Addr) => fun (v1 : Value) => nnG p0
    (fun (a2 : Addr) => callG Tryz.prog 100 #[(Value.pointer (Option.some (Addr.add a2 0)))] [(VT.one CT.bool)]
      (fun (b3 : Bool) => joinG []
        (fun k4 => iteG (!b3)
          (callG Tryz.prog 101 #[(Value.pointer p0), v1] []
            (k4))
          (k4))
        (retG (Value.tuple #[]))))
theorem e81 : denF Tryz.prog (GA Tryz.prog) Tryz.f81 [(VT.one CT.ptr), (VT.one CT.any)] (.seq .leaf (.condj (sl Tryz.prog []) .leaf .leaf)) = t81 := by kernel_rfl
theorem c81 (x0 : Option Addr) (x1 : Value) {R : Ending → World → Prop} {w : World} (h : t81 x0 x1 R w) : Calls Tryz.prog 81 #[.pointer x0, x1] w R :=
  lift mixed Tryz.func81 e81 rfl ((x0, ()), (x1, ()), ()) R w h

/-- (*strings.Replacer).buildOnce -/
def t82 : Option Addr → G :=
  fun (p0 : Option Addr) => callG Tryz.prog 102 #[(Value.pointer p0)] [(VT.one CT.any)]
    (fun (v1 : Value) => nnG p0
      (fun (a2 : Addr) => stG (Addr.add a2 3) v1
        (nnG p0
          (fun (a3 : Addr) => stG (Addr.add a3 4) (Value.slice Option.none 0 0)
            (retG (Value.tuple #[]))))))
theorem e82 : denF Tryz.prog (GA Tryz.prog) Tryz.f82 [(VT.one CT.ptr)] .leaf = t82 := by kernel_rfl
theorem c82 (x0 : Option Addr) {R : Ending → World → Prop} {w : World} (h : t82 x0 R w) : Calls Tryz.prog 82 #[.pointer x0] w R :=
  lift mixed Tryz.func82 e82 rfl ((x0, ()), ()) R w h

/-- (*strings.Replacer).build -/
def t102 : Option Addr → G :=
  fun (p0 : Option Addr) => nnG p0
    (fun (a1 : Addr) => ldG CT.slice (Addr.add a1 4)
      (fun (l2 : Sl) => joinG [(VT.one CT.bool)]
        (fun k3 => iteG ((↑(Sl.n l2) : Int) == (2 : Int))
          (idxG (Sl.a l2) (Sl.n l2) (0 : Int) 1
            (fun (a4 : Addr) => ldG CT.str a4
              (fun (s5 : ByteArray) => k3 (Decidable.decide ((↑(ByteArray.size s5) : Int) > (1 : Int))))))
          (k3 false))
        (fun (b6 : Bool) => iteG b6
          (drewG
            (idxG (Sl.a l2) (Sl.n l2) (0 : Int) 1
              (fun (a7 : Addr) => ldG CT.str a7
                (fun (s8 : ByteArray) => idxG (Sl.a l2) (Sl.n l2) (1 : Int) 1
                  (fun (a9 : Addr) => ldG CT.str a9
                    (fun (s10 : ByteArray) => callG Tryz.prog 122 #[(Value.string s8), (Value.string s10)] [(VT.one CT.ptr)]
                      (fun (p11 : Option Addr) => retG (Value.iface 155 (Value.pointer p11)))))))))
          (joinG [(VT.one CT.bool)]
            (fun k12 => loopG [(VT.one CT.bool), (VT.one (CT.int IntKind.i64))]
              (fun k13 => fun (b14 : Bool) => fun (n15 : Int) => iteG (Decidable.decide (n15 < (↑(Sl.n l2) : Int)))
                (joinG [(VT.one CT.bool)]
                  (fun k16 => idxG (Sl.a l2) (Sl.n l2) n15 1
                    (fun (a17 : Addr) => ldG CT.str a17
                      (fun (s18 : ByteArray) => iteG ((↑(ByteArray.size s18) : Int) != (1 : Int))
                        (callG Tryz.prog 123 #[(Value.slice (Sl.a l2) (Sl.n l2) (Sl.c l2))] [(VT.one CT.ptr)]
                          (fun (p19 : Option Addr) => retG (Value.iface 157 (Value.pointer p19))))
                        (idxG (Sl.a l2) (Sl.n l2) (IntKind.wrap IntKind.i64 (n15 + (1 : Int))) 1
                          (fun (a20 : Addr) => ldG CT.str a20
                            (fun (s21 : ByteArray) => joinG [(VT.one CT.bool)]
                              (fun k22 => iteG ((↑(ByteArray.size s21) : Int) != (1 : Int))
                                (k22 false)
                                (k22 b14))
                              (fun (b23 : Bool) => k16 b23)))))))
                  (fun (b24 : Bool) => k13 b24 (IntKind.wrap IntKind.i64 (n15 + (2 : Int)))))
                (k12 b14)) true (0 : Int))
            (fun (b25 : Bool) => iteG b25
              (newG (Obj.cells (Array.replicate 256 (Value.int IntKind.u8 (0 : Int))) 159 (Prod.mk 0 0))
                (fun (m26 : Nat) => opUG Tryz.prog (storeVar 159 (Addr.mk m26 0 Option.none) (Value.agg (Array.replicate 256 (Value.int IntKind.u8 (0 : Int)))))
                  (joinG []
                    (fun k27 => loopG [(VT.one (CT.int IntKind.i64))]
                      (fun k28 => fun (n29 : Int) => iteG (Decidable.decide (n29 < (256 : Int)))
                        (joinG []
                          (fun k30 => idxG (Option.some (Addr.mk m26 0 Option.none)) 256 n29 1
                            (fun (a31 : Addr) => stG a31 (Value.int IntKind.u8 (IntKind.wrap IntKind.u8 n29))
                              (k30)))
                          (k28 (IntKind.wrap IntKind.i64 (n29 + (1 : Int)))))
                        (k27)) (0 : Int))
                    (joinG []
                      (fun k32 => loopG [(VT.one (CT.int IntKind.i64))]
                        (fun k33 => fun (n34 : Int) => iteG (Decidable.decide (n34 ≥ (0 : Int)))
                          (joinG []
                            (fun k35 => idxG (Sl.a l2) (Sl.n l2) n34 1
                              (fun (a36 : Addr) => ldG CT.str a36
                                (fun (s37 : ByteArray) => chrG s37 (0 : Int)
                                  (fun (n38 : Int) => idxG (Sl.a l2) (Sl.n l2) (IntKind.wrap IntKind.i64 (n34 + (1 : Int))) 1
                                    (fun (a39 : Addr) => ldG CT.str a39
                                      (fun (s40 : ByteArray) => chrG s40 (0 : Int)
                                        (fun (n41 : Int) => idxG (Option.some (Addr.mk m26 0 Option.none)) 256 n38 1
                                          (fun (a42 : Addr) => stG a42 (Value.int IntKind.u8 n41)
                                            (k35)))))))))
                            (k33 (IntKind.wrap IntKind.i64 (n34 - (2 : Int)))))
                          (k32)) (IntKind.wrap IntKind.i64 ((↑(Sl.n l2) : Int) - (2 : Int))))
                      (retG (Value.iface 160 (Value.pointer (Option.some (Addr.mk m26 0 Option.none)))))))))
              (opG Tryz.prog (Instr.makeSlice 40 (Value.int IntKind.i64 (0 : Int)) (Value.int IntKind.i64 (IntKind.wrap IntKind.i64 (Int.tdiv (↑(Sl.n l2) : Int) (2 : Int))))) (VT.one CT.slice)
                (fun (l43 : Sl) => newG (Obj.cells (Array.replicate 257 (Value.slice Option.none 0 0)) 163 (Prod.mk 0 0))
                  (fun (m44 : Nat) => opUG Tryz.prog (storeVar 163 (Addr.mk m44 0 Option.none) (Value.agg (Array.replicate 256 (Value.slice Option.none 0 0) ++ #[(Value.slice (Sl.a l43) (Sl.n l43) (Sl.c l43))])))
                    (joinG []
                      (fun k45 => loopG [(VT.one (CT.int IntKind.i64))]
                        (fun k46 => fun (n47 : Int) => iteG (Decidable.decide (n47 ≥ (0 : Int)))
                          (joinG []
                            (fun k48 => idxG (Sl.a l2) (Sl.n l2) n47 1
                              (fun (a49 : Addr) => ldG CT.str a49
                                (fun (s50 : ByteArray) => chrG s50 (0 : Int)
                                  (fun (n51 : Int) => idxG (Sl.a l2) (Sl.n l2) (IntKind.wrap IntKind.i64 (n47 + (1 : Int))) 1
                                    (fun (a52 : Addr) => ldG CT.str a52
                                      (fun (s53 : ByteArray) => idxG (Option.some (Addr.mk m44 0 Option.none)) 256 n51 1
                                        (fun (a54 : Addr) => ldG CT.slice a54
                                          (fun (l55 : Sl) => joinG []
                                            (fun k56 => iteG (Option.isNone (Sl.a l55))
                                              (ldG CT.slice (Addr.mk m44 256 Option.none)
                                                (fun (l57 : Sl) => newG (Obj.cells #[(Value.int IntKind.u8 n51)] 5 (Prod.mk 0 0))
                                                  (fun (m58 : Nat) => opG Tryz.prog (convert 80 9 (Value.slice (Option.some (Addr.mk m58 0 Option.none)) 1 1)) (VT.one CT.str)
                                                    (fun (s59 : ByteArray) => newG (Obj.cells #[(Value.string s59)] 9 (Prod.mk 0 0))
                                                      (fun (m60 : Nat) => opG Tryz.prog (Builtin.append_ #[40, 40] 40 #[(Value.slice (Sl.a l57) (Sl.n l57) (Sl.c l57)), (Value.slice (Option.some (Addr.mk m60 0 Option.none)) 1 1)]) (VT.one CT.slice)
                                                        (fun (l61 : Sl) => stG (Addr.mk m44 256 Option.none) (Value.slice (Sl.a l61) (Sl.n l61) (Sl.c l61))
                                                          (k56)))))))
                                              (k56))
                                            (opG Tryz.prog (convert 9 80 (Value.string s53)) (VT.one CT.slice)
                                              (fun (l62 : Sl) => idxG (Option.some (Addr.mk m44 0 Option.none)) 256 n51 1
                                                (fun (a63 : Addr) => stG a63 (Value.slice (Sl.a l62) (Sl.n l62) (Sl.c l62))
                                                  (k48))))))))))))
                            (k46 (IntKind.wrap IntKind.i64 (n47 - (2 : Int)))))
                          (k45)) (IntKind.wrap IntKind.i64 ((↑(Sl.n l2) : Int) - (2 : Int))))
                      (retG (Value.iface 164 (Value.pointer (Option.some (Addr.mk m44 0 Option.none))))))))))))))
theorem e102 : denF Tryz.prog (GA Tryz.prog) Tryz.f102 [(VT.one CT.ptr)] (.seq .leaf (.seq .leaf (.seq (.seq (.r (sl Tryz.prog [(28, 4)])) .leaf) (.seq .leaf (.seq (.seq .leaf (.block (sl Tryz.prog [(4, 4)]) (.loop (sl Tryz.prog [(4, 4), (5, 3)]) (.seq .leaf (.seq (.block (sl Tryz.prog [(4, 4)]) (.seq .leaf (.seq .leaf (.condj (sl Tryz.prog [(4, 4)]) .leaf .leaf)))) .leaf))))) (.seq (.seq .leaf (.cond (.seq .leaf (.seq (.seq .leaf (.block (sl Tryz.prog []) (.loop (sl Tryz.prog [(61, 3)]) (.seq .leaf (.seq .leaf (.seq (.block (sl Tryz.prog []) .leaf) .leaf)))))) (.seq (.seq .leaf (.block (sl Tryz.prog []) (.loop (sl Tryz.prog [(8, 3)]) (.seq .leaf (.seq (.block (sl Tryz.prog []) .leaf) .leaf))))) .leaf))) .leaf)) (.seq .leaf (.seq (.seq .leaf (.block (sl Tryz.prog []) (.loop (sl Tryz.prog [(12, 3)]) (.seq .leaf (.seq (.block (sl Tryz.prog []) (.seq .leaf (.seq .leaf (.seq (.seq .leaf (.condj (sl Tryz.prog []) .leaf .leaf)) .leaf)))) .leaf))))) .leaf)))))))) = t102 := by kernel_rfl
theorem c102 (x0 : Option Addr) {R : Ending → World → Prop} {w : World} (h : t102 x0 R w) : Calls Tryz.prog 102 #[.pointer x0] w R :=
  lift mixed Tryz.func102 e102 rfl ((x0, ()), ()) R w h

/-- (*strings.byteStringReplacer).Replace -/
def t199 : Option Addr → ByteArray → G :=
  fun (p0 : Option Addr) => fun (s1 : ByteArray) => nnG p0
    (fun (a2 : Addr) => ldG CT.slice (Addr.add a2 256)
      (fun (l3 : Sl) => joinG [(VT.one (CT.int IntKind.i64)), (VT.one CT.bool)]
        (fun k4 => iteG (Decidable.decide (IntKind.wrap IntKind.i64 ((↑(Sl.n l3) : Int) * (8 : Int)) ≤ (↑(ByteArray.size s1) : Int)))
          (nnG p0
            (fun (a5 : Addr) => ldG CT.slice (Addr.add a5 256)
              (fun (l6 : Sl) => joinG [(VT.one (CT.int IntKind.i64)), (VT.one CT.bool)]
                (fun k7 => loopG [(VT.one (CT.int IntKind.i64)), (VT.one CT.bool), (VT.one (CT.int IntKind.i64))]
                  (fun k8 => fun (n9 : Int) => fun (b10 : Bool) => fun (n11 : Int) => iteG (Decidable.decide (n11 < (↑(Sl.n l6) : Int)))
                    (joinG [(VT.one (CT.int IntKind.i64)), (VT.one CT.bool)]
                      (fun k12 => idxG (Sl.a l6) (Sl.n l6) n11 1
                        (fun (a13 : Addr) => ldG CT.str a13
                          (fun (s14 : ByteArray) => callG Tryz.prog 110 #[(Value.string s1), (Value.string s14)] [(VT.one (CT.int IntKind.i64))]
                            (fun (n15 : Int) => joinG [(VT.one (CT.int IntKind.i64)), (VT.one CT.bool)]
                              (fun k16 => iteG (n15 != (0 : Int))
                                (drewG
                                  (chrG s14 (0 : Int)
                                    (fun (n17 : Int) => nnG p0
                                      (fun (a18 : Addr) => idxG (Option.some (Addr.add a18 0)) 256 n17 1
                                        (fun (a19 : Addr) => ldG CT.slice a19
                                          (fun (l20 : Sl) => k16 (IntKind.wrap IntKind.i64 (n9 + IntKind.wrap IntKind.i64 (n15 * IntKind.wrap IntKind.i64 ((↑(Sl.n l20) : Int) - (1 : Int))))) true))))))
                                (k16 n9 b10))
                              (fun (n21 : Int) => fun (b22 : Bool) => k12 n21 b22)))))
                      (fun (n23 : Int) => fun (b24 : Bool) => k8 n23 b24 (IntKind.wrap IntKind.i64 (n11 + (1 : Int)))))
                    (k7 n9 b10)) ((↑(ByteArray.size s1) : Int)) false (0 : Int))
                (fun (n25 : Int) => fun (b26 : Bool) => k4 n25 b26))))
          (joinG [(VT.one (CT.int IntKind.i64)), (VT.one CT.bool)]
            (fun k27 => loopG [(VT.one (CT.int IntKind.i64)), (VT.one CT.bool), (VT.one (CT.int IntKind.i64))]
              (fun k28 => fun (n29 : Int) => fun (b30 : Bool) => fun (n31 : Int) => iteG (Decidable.decide (n31 < (↑(ByteArray.size s1) : Int)))
                (joinG [(VT.one (CT.int IntKind.i64)), (VT.one CT.bool)]
                  (fun k32 => chrG s1 n31
                    (fun (n33 : Int) => nnG p0
                      (fun (a34 : Addr) => idxG (Option.some (Addr.add a34 0)) 256 n33 1
                        (fun (a35 : Addr) => ldG CT.slice a35
                          (fun (l36 : Sl) => joinG [(VT.one (CT.int IntKind.i64)), (VT.one CT.bool)]
                            (fun k37 => iteG (!Option.isNone (Sl.a l36))
                              (nnG p0
                                (fun (a38 : Addr) => idxG (Option.some (Addr.add a38 0)) 256 n33 1
                                  (fun (a39 : Addr) => ldG CT.slice a39
                                    (fun (l40 : Sl) => k37 (IntKind.wrap IntKind.i64 (n29 + IntKind.wrap IntKind.i64 ((↑(Sl.n l40) : Int) - (1 : Int)))) true))))
                              (k37 n29 b30))
                            (fun (n41 : Int) => fun (b42 : Bool) => k32 n41 b42))))))
                  (fun (n43 : Int) => fun (b44 : Bool) => k28 n43 b44 (IntKind.wrap IntKind.i64 (n31 + (1 : Int)))))
                (k27 n29 b30)) ((↑(ByteArray.size s1) : Int)) false (0 : Int))
            (fun (n45 : Int) => fun (b46 : Bool) => k4 n45 b46)))
        (fun (n47 : Int) => fun (b48 : Bool) => iteG (!b48)
          (retG (Value.string s1))
          (opG Tryz.prog (Instr.makeSlice 80 (Value.int IntKind.i64 n47) (Value.int IntKind.i64 n47)) (VT.one CT.slice)
            (fun (l49 : Sl) => joinG []
              (fun k50 => loopG [(VT.one (CT.int IntKind.i64)), (VT.one (CT.int IntKind.i64))]
                (fun k51 => fun (n52 : Int) => fun (n53 : Int) => iteG (Decidable.decide (n53 < (↑(ByteArray.size s1) : Int)))
                  (joinG [(VT.one (CT.int IntKind.i64))]
                    (fun k54 => chrG s1 n53
                      (fun (n55 : Int) => nnG p0
                        (fun (a56 : Addr) => idxG (Option.some (Addr.add a56 0)) 256 n55 1
                          (fun (a57 : Addr) => ldG CT.slice a57
                            (fun (l58 : Sl) => joinG [(VT.one (CT.int IntKind.i64))]
                              (fun k59 => iteG (!Option.isNone (Sl.a l58))
                                (drewG
                                  (assumeG (Decidable.decide ((↑(Sl.c l49) : Int) ≤ (↑(Sl.c l49) : Int)))
                                    (resliceG (Sl.a l49) (Sl.c l49) n52 ((↑(Sl.n l49) : Int)) ((↑(Sl.c l49) : Int)) 1
                                      (fun (p60 : Option Addr) => fun (m61 : Nat) => fun (m62 : Nat) => nnG p0
                                        (fun (a63 : Addr) => idxG (Option.some (Addr.add a63 0)) 256 n55 1
                                          (fun (a64 : Addr) => ldG CT.slice a64
                                            (fun (l65 : Sl) => opG Tryz.prog (Builtin.copy_ #[80, 80] 3 #[(Value.slice p60 m61 m62), (Value.slice (Sl.a l65) (Sl.n l65) (Sl.c l65))]) (VT.one (CT.int IntKind.i64))
                                              (fun (n66 : Int) => k59 (IntKind.wrap IntKind.i64 (n52 + n66))))))))))
                                (idxG (Sl.a l49) (Sl.n l49) n52 1
                                  (fun (a67 : Addr) => stG a67 (Value.int IntKind.u8 n55)
                                    (k59 (IntKind.wrap IntKind.i64 (n52 + (1 : Int)))))))
                              (fun (n68 : Int) => k54 n68))))))
                    (fun (n69 : Int) => k51 n69 (IntKind.wrap IntKind.i64 (n53 + (1 : Int)))))
                  (k50)) (0 : Int) (0 : Int))
              (opG Tryz.prog (convert 80 9 (Value.slice (Sl.a l49) (Sl.n l49) (Sl.c l49))) (VT.one CT.str)
                (fun (s70 : ByteArray) => retG (Value.string s70))))))))
theorem e199 : denF Tryz.prog (GA Tryz.prog) Tryz.f199 [(VT.one CT.ptr), (VT.one CT.str)] (.seq .leaf (.seq .leaf (.seq .leaf (.seq (.seq .leaf (.condj (sl Tryz.prog [(5, 3), (6, 4)]) (.seq .leaf (.block (sl Tryz.prog [(5, 3), (6, 4)]) (.loop (sl Tryz.prog [(5, 3), (6, 4), (32, 3)]) (.seq .leaf (.seq .leaf (.seq (.block (sl Tryz.prog [(5, 3), (6, 4)]) (.seq .leaf (.seq .leaf (.seq .leaf (.condj (sl Tryz.prog [(5, 3), (6, 4)]) .leaf .leaf))))) .leaf)))))) (.seq .leaf (.block (sl Tryz.prog [(5, 3), (6, 4)]) (.loop (sl Tryz.prog [(5, 3), (6, 4), (10, 3)]) (.seq .leaf (.seq (.block (sl Tryz.prog [(5, 3), (6, 4)]) (.seq .leaf (.seq .leaf (.condj (sl Tryz.prog [(5, 3), (6, 4)]) .leaf .leaf)))) .leaf))))))) (.seq .leaf (.seq .leaf (.seq .leaf (.seq (.seq .leaf (.block (sl Tryz.prog []) (.loop (sl Tryz.prog [(13, 3), (14, 3)]) (.seq .leaf (.seq (.block (sl Tryz.prog [(13, 3)]) (.seq .leaf (.seq .leaf (.condj (sl Tryz.prog [(13, 3)]) .leaf .leaf)))) .leaf))))) .leaf)))))))) = t199 := by kernel_rfl
theorem c199 (x0 : Option Addr) (x1 : ByteArray) {R : Ending → World → Prop} {w : World} (h : t199 x0 x1 R w) : Calls Tryz.prog 199 #[.pointer x0, .string x1] w R :=
  lift mixed Tryz.func199 e199 rfl ((x0, ()), (x1, ()), ()) R w h

end Go.Proofs.YthnfcbjfmghomaaGreatDoor
