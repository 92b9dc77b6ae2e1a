/- The functions as trees, each with its contract (by program). No condition. -/
import Derived.Test.YtmklfedlifcoiaaSound
import Derived.Test.YtmklfedlifcoiaaProg
set_option maxRecDepth 100000
namespace Go.Proofs.Ytmklfedlifcoiaa
open Go.Lift
theorem mixed : Try.prog.follows .mixedOrders = true := by kernel_rfl

/-- disk.New -/
def t10 : Int → G :=
  fun (n0 : Int) => joinG [(VT.one CT.bool)]
    (fun k1 => iteG (Decidable.decide (n0 < (1 : Int)))
      (k1 true)
      (k1 (Decidable.decide (n0 > (4096 : Int)))))
    (fun (b2 : Bool) => iteG b2
      (retG (Value.tuple #[(Value.pointer Option.none), (Value.int IntKind.i64 (2 : Int))]))
      (opG Try.prog (Instr.makeSlice 58 (Value.int IntKind.i64 n0) (Value.int IntKind.i64 n0)) (VT.one CT.slice)
        (fun (l3 : Sl) => newG (Obj.cells #[(Value.slice (Sl.a l3) (Sl.n l3) (Sl.c l3)), (Value.slice Option.none 0 0), (Value.slice Option.none 0 0), (Value.int IntKind.i64 (0 : Int)), (Value.int IntKind.i64 (0 : Int)), (Value.int IntKind.i64 (0 : Int)), (Value.int IntKind.i64 (0 : Int)), (Value.bool false)] 61 (Prod.mk 0 0))
          (fun (m4 : Nat) => retG (Value.tuple #[(Value.pointer (Option.some (Addr.mk m4 0 Option.none))), (Value.int IntKind.i64 (0 : Int))])))))
theorem e10 : denF Try.prog (GA Try.prog) Try.f10 [(VT.one (CT.int IntKind.i64))] (.seq .leaf (.seq (.seq (.r (sl Try.prog [(9, 4)])) .leaf) .leaf)) = t10 := by kernel_rfl
theorem c10 (x0 : Int) {R : Ending → World → Prop} {w : World} (h : t10 x0 R w) : Calls Try.prog 10 #[.int .i64 x0] w R :=
  lift mixed Try.func10 e10 rfl ((x0, ()), ()) R w h

/-- (*disk.Disk).Arm -/
def t11 : Option Addr → Int → Sl → Int → Int → G :=
  fun (p0 : Option Addr) => fun (n1 : Int) => fun (l2 : Sl) => fun (n3 : Int) => fun (n4 : Int) => newG (Obj.cells #[(Value.slice (Sl.a l2) (Sl.n l2) (Sl.c l2)), (Value.int IntKind.i64 n3), (Value.int IntKind.i64 n4)] 25 (Prod.mk 0 0))
    (fun (m5 : Nat) => callG Try.prog 30 #[(Value.pointer p0), (Value.int IntKind.i64 (0 : Int))] [(VT.one (CT.int IntKind.i64))]
      (fun (n6 : Int) => iteG (n6 != (0 : Int))
        (retG (Value.int IntKind.i64 n6))
        (iteG (Decidable.decide (n1 < (0 : Int)))
          (retG (Value.int IntKind.i64 (2 : Int)))
          (nnG p0
            (fun (a7 : Addr) => stG (Addr.add a7 5) (Value.int IntKind.i64 n1)
              (drewG
                (ldG CT.slice (Addr.mk m5 0 Option.none)
                  (fun (l8 : Sl) => ldG (CT.int IntKind.i64) (Addr.mk m5 1 Option.none)
                    (fun (n9 : Int) => ldG (CT.int IntKind.i64) (Addr.mk m5 2 Option.none)
                      (fun (n10 : Int) => callG Try.prog 31 #[(Value.slice (Sl.a l8) (Sl.n l8) (Sl.c l8))] [(VT.one CT.slice)]
                        (fun (l11 : Sl) => keepG [(Prod.mk (Addr.mk m5 2 Option.none) [(Value.int IntKind.i64 n10)]), (Prod.mk (Addr.mk m5 1 Option.none) [(Value.int IntKind.i64 n9)])]
                          (nnG p0
                            (fun (a12 : Addr) => stG (Addr.add (Addr.add a12 2) 0) (Value.slice (Sl.a l11) (Sl.n l11) (Sl.c l11))
                              (stG (Addr.add (Addr.add a12 2) 1) (Value.int IntKind.i64 n9)
                                (stG (Addr.add (Addr.add a12 2) 2) (Value.int IntKind.i64 n10)
                                  (retG (Value.int IntKind.i64 (0 : Int))))))))))))))))))
theorem e11 : denF Try.prog (GA Try.prog) Try.f11 [(VT.one CT.ptr), (VT.one (CT.int IntKind.i64)), (VT.agg [CT.slice, (CT.int IntKind.i64), (CT.int IntKind.i64)])] .leaf = t11 := by kernel_rfl
theorem c11 (x0 : Option Addr) (x1 : Int) (x2 : Sl) (x3 : Int) (x4 : Int) {R : Ending → World → Prop} {w : World} (h : t11 x0 x1 x2 x3 x4 R w) : Calls Try.prog 11 #[.pointer x0, .int .i64 x1, .agg #[.slice x2.a x2.n x2.c, .int .i64 x3, .int .i64 x4]] w R :=
  lift mixed Try.func11 e11 rfl ((x0, ()), (x1, ()), (x2, x3, x4, ()), ()) R w h

/-- (*disk.Disk).Write -/
def t12 : Option Addr → Int → ByteArray → G :=
  fun (p0 : Option Addr) => fun (n1 : Int) => fun (s2 : ByteArray) => callG Try.prog 30 #[(Value.pointer p0), (Value.int IntKind.i64 n1)] [(VT.one (CT.int IntKind.i64))]
    (fun (n3 : Int) => iteG (n3 != (0 : Int))
      (retG (Value.int IntKind.i64 n3))
      (iteG ((↑(ByteArray.size s2) : Int) != (64 : Int))
        (retG (Value.int IntKind.i64 (2 : Int)))
        (newG (Obj.cells (#[(Value.int IntKind.i64 (0 : Int))] ++ Array.replicate 64 (Value.int IntKind.u8 (0 : Int))) 74 (Prod.mk 0 0))
          (fun (m4 : Nat) => opUG Try.prog (storeVar 74 (Addr.mk m4 0 Option.none) (Value.agg (#[(Value.int IntKind.i64 n1)] ++ Array.replicate 64 (Value.int IntKind.u8 (0 : Int)))))
            (assumeG true
              (resliceG (Option.some (Addr.mk m4 1 Option.none)) 64 (0 : Int) (64 : Int) (64 : Int) 1
                (fun (p5 : Option Addr) => fun (m6 : Nat) => fun (m7 : Nat) => opG Try.prog (Builtin.copy_ #[75, 9] 3 #[(Value.slice p5 m6 m7), (Value.string s2)]) (VT.one (CT.int IntKind.i64))
                  (fun (_ : Int) => drewG
                    (nnG p0
                      (fun (a9 : Addr) => ldG CT.slice (Addr.add a9 1)
                        (fun (l10 : Sl) => ldRowG 65 (Addr.mk m4 0 Option.none)
                          (fun (cs11 : Array Value) => assumeG (Nat.beq (Array.size cs11) (Program.cellsOf Proofs.Try.prog (74 : Nat)))
                            (newG (Obj.cells cs11 74 (Prod.mk 0 0))
                              (fun (m12 : Nat) => keepG [(Prod.mk (Addr.add a9 1) [(Value.slice (Sl.a l10) (Sl.n l10) (Sl.c l10))])]
                                (opG Try.prog (Builtin.append_ #[59, 59] 59 #[(Value.slice (Sl.a l10) (Sl.n l10) (Sl.c l10)), (Value.slice (Option.some (Addr.mk m12 0 Option.none)) 1 1)]) (VT.one CT.slice)
                                  (fun (l13 : Sl) => nnG p0
                                    (fun (a14 : Addr) => stG (Addr.add a14 1) (Value.slice (Sl.a l13) (Sl.n l13) (Sl.c l13))
                                      (callG Try.prog 32 #[(Value.pointer p0)] [(VT.one CT.bool)]
                                        (fun (b15 : Bool) => iteG b15
                                          (nnG p0
                                            (fun (a16 : Addr) => ldG CT.slice (Addr.add (Addr.add a16 2) 0)
                                              (fun (l17 : Sl) => ldG (CT.int IntKind.i64) (Addr.add (Addr.add a16 2) 1)
                                                (fun (n18 : Int) => ldG (CT.int IntKind.i64) (Addr.add (Addr.add a16 2) 2)
                                                  (fun (n19 : Int) => callG Try.prog 33 #[(Value.pointer p0), (Value.agg #[(Value.slice (Sl.a l17) (Sl.n l17) (Sl.c l17)), (Value.int IntKind.i64 n18), (Value.int IntKind.i64 n19)])] []
                                                    (retG (Value.int IntKind.i64 (190 : Int))))))))
                                          (retG (Value.int IntKind.i64 (0 : Int))))))))))))))))))))))
theorem e12 : denF Try.prog (GA Try.prog) Try.f12 [(VT.one CT.ptr), (VT.one (CT.int IntKind.i64)), (VT.one CT.str)] .leaf = t12 := by kernel_rfl
theorem c12 (x0 : Option Addr) (x1 : Int) (x2 : ByteArray) {R : Ending → World → Prop} {w : World} (h : t12 x0 x1 x2 R w) : Calls Try.prog 12 #[.pointer x0, .int .i64 x1, .string x2] w R :=
  lift mixed Try.func12 e12 rfl ((x0, ()), (x1, ()), (x2, ()), ()) R w h

/-- (*disk.Disk).Crash -/
def t14 : Option Addr → Sl → Int → Int → G :=
  fun (p0 : Option Addr) => fun (l1 : Sl) => fun (n2 : Int) => fun (n3 : Int) => newG (Obj.cells #[(Value.slice (Sl.a l1) (Sl.n l1) (Sl.c l1)), (Value.int IntKind.i64 n2), (Value.int IntKind.i64 n3)] 25 (Prod.mk 0 0))
    (fun (m4 : Nat) => callG Try.prog 30 #[(Value.pointer p0), (Value.int IntKind.i64 (0 : Int))] [(VT.one (CT.int IntKind.i64))]
      (fun (n5 : Int) => iteG (n5 != (0 : Int))
        (retG (Value.int IntKind.i64 n5))
        (ldG CT.slice (Addr.mk m4 0 Option.none)
          (fun (l6 : Sl) => ldG (CT.int IntKind.i64) (Addr.mk m4 1 Option.none)
            (fun (n7 : Int) => ldG (CT.int IntKind.i64) (Addr.mk m4 2 Option.none)
              (fun (n8 : Int) => callG Try.prog 33 #[(Value.pointer p0), (Value.agg #[(Value.slice (Sl.a l6) (Sl.n l6) (Sl.c l6)), (Value.int IntKind.i64 n7), (Value.int IntKind.i64 n8)])] []
                (retG (Value.int IntKind.i64 (0 : Int)))))))))
theorem e14 : denF Try.prog (GA Try.prog) Try.f14 [(VT.one CT.ptr), (VT.agg [CT.slice, (CT.int IntKind.i64), (CT.int IntKind.i64)])] .leaf = t14 := by kernel_rfl
theorem c14 (x0 : Option Addr) (x1 : Sl) (x2 : Int) (x3 : Int) {R : Ending → World → Prop} {w : World} (h : t14 x0 x1 x2 x3 R w) : Calls Try.prog 14 #[.pointer x0, .agg #[.slice x1.a x1.n x1.c, .int .i64 x2, .int .i64 x3]] w R :=
  lift mixed Try.func14 e14 rfl ((x0, ()), (x1, x2, x3, ()), ()) R w h

/-- (*disk.Disk).Dead -/
def t15 : Option Addr → G :=
  fun (p0 : Option Addr) => joinG [(VT.one CT.bool)]
    (fun k1 => callG Try.prog 34 #[(Value.pointer p0)] [(VT.one CT.bool)]
      (fun (b2 : Bool) => iteG (!b2)
        (nnG p0
          (fun (a3 : Addr) => ldG CT.bool (Addr.add a3 7)
            (fun (b4 : Bool) => k1 b4)))
        (k1 false)))
    (fun (b5 : Bool) => retG (Value.bool b5))
theorem e15 : denF Try.prog (GA Try.prog) Try.f15 [(VT.one CT.ptr)] (.seq .leaf (.seq (.r (sl Try.prog [(2, 4)])) .leaf)) = t15 := by kernel_rfl
theorem c15 (x0 : Option Addr) {R : Ending → World → Prop} {w : World} (h : t15 x0 R w) : Calls Try.prog 15 #[.pointer x0] w R :=
  lift mixed Try.func15 e15 rfl ((x0, ()), ()) R w h

/-- (*disk.Disk).Image -/
def t16 : Option Addr → G :=
  fun (p0 : Option Addr) => callG Try.prog 34 #[(Value.pointer p0)] [(VT.one CT.bool)]
    (fun (b1 : Bool) => iteG b1
      (retG (Value.string (ByteArray.mk #[])))
      (nnG p0
        (fun (a2 : Addr) => ldG CT.slice (Addr.add a2 0)
          (fun (l3 : Sl) => callG Try.prog 35 #[(Value.slice (Sl.a l3) (Sl.n l3) (Sl.c l3))] [(VT.one CT.slice)]
            (fun (l4 : Sl) => nnG p0
              (fun (a5 : Addr) => ldG CT.slice (Addr.add a5 1)
                (fun (l6 : Sl) => joinG []
                  (fun k7 => loopG [(VT.one (CT.int IntKind.i64))]
                    (fun k8 => fun (n9 : Int) => iteG (Decidable.decide (n9 < (↑(Sl.n l6) : Int)))
                      (joinG []
                        (fun k10 => idxG (Sl.a l6) (Sl.n l6) n9 65
                          (fun (a11 : Addr) => ldRowG 65 a11
                            (fun (cs12 : Array Value) => newG (Obj.cells (#[(Value.int IntKind.i64 (0 : Int))] ++ Array.replicate 64 (Value.int IntKind.u8 (0 : Int))) 74 (Prod.mk 0 0))
                              (fun (m13 : Nat) => opUG Try.prog (storeVar 74 (Addr.mk m13 0 Option.none) (Value.agg cs12))
                                (ldG (CT.int IntKind.i64) (Addr.mk m13 0 Option.none)
                                  (fun (n14 : Int) => ldRowG 64 (Addr.mk m13 1 Option.none)
                                    (fun (cs15 : Array Value) => idxG (Sl.a l4) (Sl.n l4) n14 64
                                      (fun (a16 : Addr) => opUG Try.prog (storeVar 72 a16 (Value.agg cs15))
                                        (k10)))))))))
                        (k8 (IntKind.wrap IntKind.i64 (n9 + (1 : Int)))))
                      (k7)) (0 : Int))
                  (opG Try.prog (Instr.makeSlice 75 (Value.int IntKind.i64 (0 : Int)) (Value.int IntKind.i64 (IntKind.wrap IntKind.i64 ((↑(Sl.n l4) : Int) * (64 : Int))))) (VT.one CT.slice)
                    (fun (l17 : Sl) => joinG [(VT.one CT.slice)]
                      (fun k18 => loopG [(VT.one CT.slice), (VT.one (CT.int IntKind.i64))]
                        (fun k19 => fun (l20 : Sl) => fun (n21 : Int) => iteG (Decidable.decide (n21 < (↑(Sl.n l4) : Int)))
                          (joinG [(VT.one CT.slice)]
                            (fun k22 => idxG (Sl.a l4) (Sl.n l4) n21 64
                              (fun (a23 : Addr) => assumeG true
                                (resliceG (Option.some a23) 64 (0 : Int) (64 : Int) (64 : Int) 1
                                  (fun (p24 : Option Addr) => fun (m25 : Nat) => fun (m26 : Nat) => opG Try.prog (Builtin.append_ #[75, 75] 75 #[(Value.slice (Sl.a l20) (Sl.n l20) (Sl.c l20)), (Value.slice p24 m25 m26)]) (VT.one CT.slice)
                                    (fun (l27 : Sl) => k22 (Sl.mk (Sl.a l27) (Sl.n l27) (Sl.c l27)))))))
                            (fun (l28 : Sl) => k19 (Sl.mk (Sl.a l28) (Sl.n l28) (Sl.c l28)) (IntKind.wrap IntKind.i64 (n21 + (1 : Int)))))
                          (k18 (Sl.mk (Sl.a l20) (Sl.n l20) (Sl.c l20)))) (Sl.mk (Sl.a l17) (Sl.n l17) (Sl.c l17)) (0 : Int))
                      (fun (l29 : Sl) => opG Try.prog (convert 75 9 (Value.slice (Sl.a l29) (Sl.n l29) (Sl.c l29))) (VT.one CT.str)
                        (fun (s30 : ByteArray) => retG (Value.string s30))))))))))))
theorem e16 : denF Try.prog (GA Try.prog) Try.f16 [(VT.one CT.ptr)] (.seq .leaf (.seq .leaf (.seq .leaf (.seq (.seq .leaf (.block (sl Try.prog []) (.loop (sl Try.prog [(20, 3)]) (.seq .leaf (.seq .leaf (.seq (.block (sl Try.prog []) .leaf) .leaf)))))) (.seq .leaf (.seq (.seq .leaf (.block (sl Try.prog [(6, 75)]) (.loop (sl Try.prog [(6, 75), (37, 3)]) (.seq .leaf (.seq .leaf (.seq (.block (sl Try.prog [(6, 75)]) .leaf) .leaf)))))) .leaf)))))) = t16 := by kernel_rfl
theorem c16 (x0 : Option Addr) {R : Ending → World → Prop} {w : World} (h : t16 x0 R w) : Calls Try.prog 16 #[.pointer x0] w R :=
  lift mixed Try.func16 e16 rfl ((x0, ()), ()) R w h

/-- (*disk.Disk).Ops -/
def t17 : Option Addr → G :=
  fun (p0 : Option Addr) => callG Try.prog 34 #[(Value.pointer p0)] [(VT.one CT.bool)]
    (fun (b1 : Bool) => iteG b1
      (retG (Value.int IntKind.i64 (0 : Int)))
      (nnG p0
        (fun (a2 : Addr) => ldG (CT.int IntKind.i64) (Addr.add a2 6)
          (fun (n3 : Int) => retG (Value.int IntKind.i64 n3)))))
theorem e17 : denF Try.prog (GA Try.prog) Try.f17 [(VT.one CT.ptr)] .leaf = t17 := by kernel_rfl
theorem c17 (x0 : Option Addr) {R : Ending → World → Prop} {w : World} (h : t17 x0 R w) : Calls Try.prog 17 #[.pointer x0] w R :=
  lift mixed Try.func17 e17 rfl ((x0, ()), ()) R w h

/-- (*disk.Disk).Flush -/
def t19 : Option Addr → G :=
  fun (p0 : Option Addr) => callG Try.prog 30 #[(Value.pointer p0), (Value.int IntKind.i64 (0 : Int))] [(VT.one (CT.int IntKind.i64))]
    (fun (n1 : Int) => iteG (n1 != (0 : Int))
      (retG (Value.int IntKind.i64 n1))
      (callG Try.prog 32 #[(Value.pointer p0)] [(VT.one CT.bool)]
        (fun (b2 : Bool) => iteG b2
          (nnG p0
            (fun (a3 : Addr) => ldG CT.slice (Addr.add (Addr.add a3 2) 0)
              (fun (l4 : Sl) => ldG (CT.int IntKind.i64) (Addr.add (Addr.add a3 2) 1)
                (fun (n5 : Int) => ldG (CT.int IntKind.i64) (Addr.add (Addr.add a3 2) 2)
                  (fun (n6 : Int) => callG Try.prog 33 #[(Value.pointer p0), (Value.agg #[(Value.slice (Sl.a l4) (Sl.n l4) (Sl.c l4)), (Value.int IntKind.i64 n5), (Value.int IntKind.i64 n6)])] []
                    (retG (Value.int IntKind.i64 (190 : Int))))))))
          (nnG p0
            (fun (a7 : Addr) => ldG CT.slice (Addr.add a7 1)
              (fun (l8 : Sl) => joinG []
                (fun k9 => loopG [(VT.one (CT.int IntKind.i64))]
                  (fun k10 => fun (n11 : Int) => iteG (Decidable.decide (n11 < (↑(Sl.n l8) : Int)))
                    (joinG []
                      (fun k12 => idxG (Sl.a l8) (Sl.n l8) n11 65
                        (fun (a13 : Addr) => ldRowG 65 a13
                          (fun (cs14 : Array Value) => newG (Obj.cells (#[(Value.int IntKind.i64 (0 : Int))] ++ Array.replicate 64 (Value.int IntKind.u8 (0 : Int))) 74 (Prod.mk 0 0))
                            (fun (m15 : Nat) => opUG Try.prog (storeVar 74 (Addr.mk m15 0 Option.none) (Value.agg cs14))
                              (drewG
                                (nnG p0
                                  (fun (a16 : Addr) => ldG CT.slice (Addr.add a16 0)
                                    (fun (l17 : Sl) => ldG (CT.int IntKind.i64) (Addr.mk m15 0 Option.none)
                                      (fun (n18 : Int) => ldRowG 64 (Addr.mk m15 1 Option.none)
                                        (fun (cs19 : Array Value) => idxG (Sl.a l17) (Sl.n l17) n18 64
                                          (fun (a20 : Addr) => opUG Try.prog (storeVar 72 a20 (Value.agg cs19))
                                            (k12))))))))))))
                      (k10 (IntKind.wrap IntKind.i64 (n11 + (1 : Int)))))
                    (k9)) (0 : Int))
                (nnG p0
                  (fun (a21 : Addr) => stG (Addr.add a21 1) (Value.slice Option.none 0 0)
                    (retG (Value.int IntKind.i64 (0 : Int)))))))))))
theorem e19 : denF Try.prog (GA Try.prog) Try.f19 [(VT.one CT.ptr)] (.seq .leaf (.seq .leaf (.seq .leaf (.seq (.seq .leaf (.block (sl Try.prog []) (.loop (sl Try.prog [(24, 3)]) (.seq .leaf (.seq .leaf (.seq (.block (sl Try.prog []) .leaf) .leaf)))))) .leaf)))) = t19 := by kernel_rfl
theorem c19 (x0 : Option Addr) {R : Ending → World → Prop} {w : World} (h : t19 x0 R w) : Calls Try.prog 19 #[.pointer x0] w R :=
  lift mixed Try.func19 e19 rfl ((x0, ()), ()) R w h

/-- (*disk.Disk).Boot -/
def t20 : Option Addr → G :=
  fun (p0 : Option Addr) => callG Try.prog 34 #[(Value.pointer p0)] [(VT.one CT.bool)]
    (fun (b1 : Bool) => iteG b1
      (retG (Value.int IntKind.i64 (1 : Int)))
      (nnG p0
        (fun (a2 : Addr) => stG (Addr.add a2 7) (Value.bool false)
          (retG (Value.int IntKind.i64 (0 : Int))))))
theorem e20 : denF Try.prog (GA Try.prog) Try.f20 [(VT.one CT.ptr)] .leaf = t20 := by kernel_rfl
theorem c20 (x0 : Option Addr) {R : Ending → World → Prop} {w : World} (h : t20 x0 R w) : Calls Try.prog 20 #[.pointer x0] w R :=
  lift mixed Try.func20 e20 rfl ((x0, ()), ()) R w h

/-- (*disk.Disk).Sectors -/
def t25 : Option Addr → G :=
  fun (p0 : Option Addr) => callG Try.prog 34 #[(Value.pointer p0)] [(VT.one CT.bool)]
    (fun (b1 : Bool) => iteG b1
      (retG (Value.int IntKind.i64 (0 : Int)))
      (nnG p0
        (fun (a2 : Addr) => ldG CT.slice (Addr.add a2 0)
          (fun (l3 : Sl) => retG (Value.int IntKind.i64 ((↑(Sl.n l3) : Int)))))))
theorem e25 : denF Try.prog (GA Try.prog) Try.f25 [(VT.one CT.ptr)] .leaf = t25 := by kernel_rfl
theorem c25 (x0 : Option Addr) {R : Ending → World → Prop} {w : World} (h : t25 x0 R w) : Calls Try.prog 25 #[.pointer x0] w R :=
  lift mixed Try.func25 e25 rfl ((x0, ()), ()) R w h

/-- disk.Load -/
def t28 : ByteArray → G :=
  fun (s0 : ByteArray) => assumeG true
    (iteG (Int.tmod (↑(ByteArray.size s0) : Int) (64 : Int) != (0 : Int))
      (retG (Value.tuple #[(Value.pointer Option.none), (Value.int IntKind.i64 (2 : Int))]))
      (assumeG true
        (callG Try.prog 10 #[(Value.int IntKind.i64 (IntKind.wrap IntKind.i64 (Int.tdiv (↑(ByteArray.size s0) : Int) (64 : Int))))] [(VT.one CT.ptr), (VT.one (CT.int IntKind.i64))]
          (fun (p1 : Option Addr) => fun (n2 : Int) => iteG (n2 != (0 : Int))
            (retG (Value.tuple #[(Value.pointer Option.none), (Value.int IntKind.i64 n2)]))
            (nnG p1
              (fun (a3 : Addr) => ldG CT.slice (Addr.add a3 0)
                (fun (l4 : Sl) => joinG []
                  (fun k5 => loopG [(VT.one (CT.int IntKind.i64))]
                    (fun k6 => fun (n7 : Int) => iteG (Decidable.decide (n7 < (↑(Sl.n l4) : Int)))
                      (joinG []
                        (fun k8 => drewG
                          (nnG p1
                            (fun (a9 : Addr) => ldG CT.slice (Addr.add a9 0)
                              (fun (l10 : Sl) => idxG (Sl.a l10) (Sl.n l10) n7 64
                                (fun (a11 : Addr) => assumeG true
                                  (resliceG (Option.some a11) 64 (0 : Int) (64 : Int) (64 : Int) 1
                                    (fun (p12 : Option Addr) => fun (m13 : Nat) => fun (m14 : Nat) => subG s0 (IntKind.wrap IntKind.i64 (n7 * (64 : Int))) ((↑(ByteArray.size s0) : Int))
                                      (fun (s15 : ByteArray) => opG Try.prog (Builtin.copy_ #[75, 9] 3 #[(Value.slice p12 m13 m14), (Value.string s15)]) (VT.one (CT.int IntKind.i64))
                                        (fun (_ : Int) => keepG [(Prod.mk (Addr.add a9 0) [(Value.slice (Sl.a l10) (Sl.n l10) (Sl.c l10))])]
                                          (k8))))))))))
                        (k6 (IntKind.wrap IntKind.i64 (n7 + (1 : Int)))))
                      (k5)) (0 : Int))
                  (retG (Value.tuple #[(Value.pointer p1), (Value.int IntKind.i64 (0 : Int))])))))))))
theorem e28 : denF Try.prog (GA Try.prog) Try.f28 [(VT.one CT.str)] (.seq .leaf (.seq .leaf (.seq .leaf (.seq .leaf (.seq (.seq .leaf (.block (sl Try.prog []) (.loop (sl Try.prog [(26, 3)]) (.seq .leaf (.seq .leaf (.seq (.block (sl Try.prog []) .leaf) .leaf)))))) .leaf))))) = t28 := by kernel_rfl
theorem c28 (x0 : ByteArray) {R : Ending → World → Prop} {w : World} (h : t28 x0 R w) : Calls Try.prog 28 #[.string x0] w R :=
  lift mixed Try.func28 e28 rfl ((x0, ()), ()) R w h

/-- (*disk.Disk).ready -/
def t30 : Option Addr → Int → G :=
  fun (p0 : Option Addr) => fun (n1 : Int) => joinG []
    (fun k2 => callG Try.prog 34 #[(Value.pointer p0)] [(VT.one CT.bool)]
      (fun (b3 : Bool) => iteG b3
        (retG (Value.int IntKind.i64 (1 : Int)))
        (nnG p0
          (fun (a4 : Addr) => ldG CT.bool (Addr.add a4 7)
            (fun (b5 : Bool) => iteG b5
              (retG (Value.int IntKind.i64 (190 : Int)))
              (joinG [(VT.one CT.bool)]
                (fun k6 => iteG (Decidable.decide (n1 < (0 : Int)))
                  (k6 true)
                  (nnG p0
                    (fun (a7 : Addr) => ldG CT.slice (Addr.add a7 0)
                      (fun (l8 : Sl) => k6 (Decidable.decide (n1 ≥ (↑(Sl.n l8) : Int)))))))
                (fun (b9 : Bool) => iteG b9
                  (retG (Value.int IntKind.i64 (191 : Int)))
                  (k2))))))))
    (retG (Value.int IntKind.i64 (0 : Int)))
theorem e30 : denF Try.prog (GA Try.prog) Try.f30 [(VT.one CT.ptr), (VT.one (CT.int IntKind.i64))] (.seq .leaf (.seq (.block (sl Try.prog []) (.seq .leaf (.cond .leaf (.seq .leaf (.cond .leaf (.seq (.r (sl Try.prog [(13, 4)])) .leaf)))))) .leaf)) = t30 := by kernel_rfl
theorem c30 (x0 : Option Addr) (x1 : Int) {R : Ending → World → Prop} {w : World} (h : t30 x0 x1 R w) : Calls Try.prog 30 #[.pointer x0, .int .i64 x1] w R :=
  lift mixed Try.func30 e30 rfl ((x0, ()), (x1, ()), ()) R w h

/-- slices.Clone[[]bool,bool] -/
def t31 : Sl → G :=
  fun (l0 : Sl) => iteG (Option.isNone (Sl.a l0))
    (retG (Value.slice Option.none 0 0))
    (newG (Obj.cells #[] 4 (Prod.mk 0 0))
      (fun (m1 : Nat) => opG Try.prog (Builtin.append_ #[23, 23] 23 #[(Value.slice (Option.some (Addr.mk m1 0 Option.none)) 0 0), (Value.slice (Sl.a l0) (Sl.n l0) (Sl.c l0))]) (VT.one CT.slice)
        (fun (l2 : Sl) => retG (Value.slice (Sl.a l2) (Sl.n l2) (Sl.c l2)))))
theorem e31 : denF Try.prog (GA Try.prog) Try.f31 [(VT.one CT.slice)] .leaf = t31 := by kernel_rfl
theorem c31 (x0 : Sl) {R : Ending → World → Prop} {w : World} (h : t31 x0 R w) : Calls Try.prog 31 #[.slice x0.a x0.n x0.c] w R :=
  lift mixed Try.func31 e31 rfl ((x0, ()), ()) R w h

/-- (*disk.Disk).falls -/
def t32 : Option Addr → G :=
  fun (p0 : Option Addr) => nnG p0
    (fun (a1 : Addr) => ldG (CT.int IntKind.i64) (Addr.add a1 6)
      (fun (n2 : Int) => nnG p0
        (fun (a3 : Addr) => stG (Addr.add a3 6) (Value.int IntKind.i64 (IntKind.wrap IntKind.i64 (n2 + (1 : Int))))
          (nnG p0
            (fun (a4 : Addr) => ldG (CT.int IntKind.i64) (Addr.add a4 5)
              (fun (n5 : Int) => iteG (n5 == (0 : Int))
                (retG (Value.bool false))
                (nnG p0
                  (fun (a6 : Addr) => ldG (CT.int IntKind.i64) (Addr.add a6 5)
                    (fun (n7 : Int) => nnG p0
                      (fun (a8 : Addr) => stG (Addr.add a8 5) (Value.int IntKind.i64 (IntKind.wrap IntKind.i64 (n7 - (1 : Int))))
                        (nnG p0
                          (fun (a9 : Addr) => ldG (CT.int IntKind.i64) (Addr.add a9 5)
                            (fun (n10 : Int) => retG (Value.bool (n10 == (0 : Int))))))))))))))))
theorem e32 : denF Try.prog (GA Try.prog) Try.f32 [(VT.one CT.ptr)] .leaf = t32 := by kernel_rfl
theorem c32 (x0 : Option Addr) {R : Ending → World → Prop} {w : World} (h : t32 x0 R w) : Calls Try.prog 32 #[.pointer x0] w R :=
  lift mixed Try.func32 e32 rfl ((x0, ()), ()) R w h

/-- (*disk.Disk).drop -/
def t33 : Option Addr → Sl → Int → Int → G :=
  fun (p0 : Option Addr) => fun (l1 : Sl) => fun (n2 : Int) => fun (n3 : Int) => newG (Obj.cells #[(Value.slice (Sl.a l1) (Sl.n l1) (Sl.c l1)), (Value.int IntKind.i64 n2), (Value.int IntKind.i64 n3)] 25 (Prod.mk 0 0))
    (fun (m4 : Nat) => nnG p0
      (fun (a5 : Addr) => ldG CT.slice (Addr.add a5 1)
        (fun (l6 : Sl) => joinG []
          (fun k7 => loopG [(VT.one (CT.int IntKind.i64))]
            (fun k8 => fun (n9 : Int) => iteG (Decidable.decide (n9 < (↑(Sl.n l6) : Int)))
              (joinG []
                (fun k10 => idxG (Sl.a l6) (Sl.n l6) n9 65
                  (fun (a11 : Addr) => ldRowG 65 a11
                    (fun (cs12 : Array Value) => newG (Obj.cells (#[(Value.int IntKind.i64 (0 : Int))] ++ Array.replicate 64 (Value.int IntKind.u8 (0 : Int))) 74 (Prod.mk 0 0))
                      (fun (m13 : Nat) => opUG Try.prog (storeVar 74 (Addr.mk m13 0 Option.none) (Value.agg cs12))
                        (joinG [(VT.one (CT.int IntKind.i64))]
                          (fun k14 => ldG (CT.int IntKind.i64) (Addr.mk m4 1 Option.none)
                            (fun (n15 : Int) => joinG [(VT.one (CT.int IntKind.i64))]
                              (fun k16 => iteG (IntKind.wrap IntKind.i64 (n9 + (1 : Int)) == n15)
                                (ldG (CT.int IntKind.i64) (Addr.mk m4 2 Option.none)
                                  (fun (n17 : Int) => k16 (if (64 : Int) < if (0 : Int) > n17 then (0 : Int) else n17 then (64 : Int) else if (0 : Int) > n17 then (0 : Int) else n17)))
                                (joinG [(VT.one CT.bool)]
                                  (fun k18 => ldG CT.slice (Addr.mk m4 0 Option.none)
                                    (fun (l19 : Sl) => iteG (Decidable.decide (n9 < (↑(Sl.n l19) : Int)))
                                      (ldG CT.slice (Addr.mk m4 0 Option.none)
                                        (fun (l20 : Sl) => idxG (Sl.a l20) (Sl.n l20) n9 1
                                          (fun (a21 : Addr) => ldG CT.bool a21
                                            (fun (b22 : Bool) => k18 b22))))
                                      (k18 false)))
                                  (fun (b23 : Bool) => joinG [(VT.one (CT.int IntKind.i64))]
                                    (fun k24 => iteG b23
                                      (k24 (64 : Int))
                                      (k24 (0 : Int)))
                                    (fun (n25 : Int) => k16 n25))))
                              (fun (n26 : Int) => k14 n26)))
                          (fun (n27 : Int) => drewG
                            (nnG p0
                              (fun (a28 : Addr) => ldG CT.slice (Addr.add a28 0)
                                (fun (l29 : Sl) => ldG (CT.int IntKind.i64) (Addr.mk m13 0 Option.none)
                                  (fun (n30 : Int) => idxG (Sl.a l29) (Sl.n l29) n30 64
                                    (fun (a31 : Addr) => assumeG true
                                      (resliceG (Option.some a31) 64 (0 : Int) (64 : Int) (64 : Int) 1
                                        (fun (p32 : Option Addr) => fun (m33 : Nat) => fun (m34 : Nat) => assumeG true
                                          (resliceG (Option.some (Addr.mk m13 1 Option.none)) 64 (0 : Int) n27 (64 : Int) 1
                                            (fun (p35 : Option Addr) => fun (m36 : Nat) => fun (m37 : Nat) => opG Try.prog (Builtin.copy_ #[75, 75] 3 #[(Value.slice p32 m33 m34), (Value.slice p35 m36 m37)]) (VT.one (CT.int IntKind.i64))
                                              (fun (_ : Int) => keepG [(Prod.mk (Addr.mk m13 0 Option.none) [(Value.int IntKind.i64 n30)]), (Prod.mk (Addr.add a28 0) [(Value.slice (Sl.a l29) (Sl.n l29) (Sl.c l29))])]
                                                (k10)))))))))))))))))
                (k8 (IntKind.wrap IntKind.i64 (n9 + (1 : Int)))))
              (k7)) (0 : Int))
          (nnG p0
            (fun (a39 : Addr) => stG (Addr.add a39 1) (Value.slice Option.none 0 0)
              (nnG p0
                (fun (a40 : Addr) => stG (Addr.add a40 5) (Value.int IntKind.i64 (0 : Int))
                  (nnG p0
                    (fun (a41 : Addr) => stG (Addr.add (Addr.add a41 2) 0) (Value.slice Option.none 0 0)
                      (stG (Addr.add (Addr.add a41 2) 1) (Value.int IntKind.i64 (0 : Int))
                        (stG (Addr.add (Addr.add a41 2) 2) (Value.int IntKind.i64 (0 : Int))
                          (nnG p0
                            (fun (a42 : Addr) => stG (Addr.add a42 7) (Value.bool true)
                              (retG (Value.tuple #[])))))))))))))))
theorem e33 : denF Try.prog (GA Try.prog) Try.f33 [(VT.one CT.ptr), (VT.agg [CT.slice, (CT.int IntKind.i64), (CT.int IntKind.i64)])] (.seq .leaf (.seq (.seq .leaf (.block (sl Try.prog []) (.loop (sl Try.prog [(12, 3)]) (.seq .leaf (.seq .leaf (.seq (.block (sl Try.prog []) (.seq .leaf (.seq .leaf (.seq (.block (sl Try.prog [(6, 3)]) (.seq .leaf (.condj (sl Try.prog [(6, 3)]) .leaf (.seq (.r (sl Try.prog [(27, 4)])) (.condj (sl Try.prog [(6, 3)]) .leaf .leaf))))) .leaf)))) .leaf)))))) .leaf)) = t33 := by kernel_rfl
theorem c33 (x0 : Option Addr) (x1 : Sl) (x2 : Int) (x3 : Int) {R : Ending → World → Prop} {w : World} (h : t33 x0 x1 x2 x3 R w) : Calls Try.prog 33 #[.pointer x0, .agg #[.slice x1.a x1.n x1.c, .int .i64 x2, .int .i64 x3]] w R :=
  lift mixed Try.func33 e33 rfl ((x0, ()), (x1, x2, x3, ()), ()) R w h

/-- (*disk.Disk).none -/
def t34 : Option Addr → G :=
  fun (p0 : Option Addr) => joinG [(VT.one CT.bool)]
    (fun k1 => iteG (Option.isNone p0)
      (k1 true)
      (nnG p0
        (fun (a2 : Addr) => ldG CT.slice (Addr.add a2 0)
          (fun (l3 : Sl) => k1 ((↑(Sl.n l3) : Int) == (0 : Int))))))
    (fun (b4 : Bool) => retG (Value.bool b4))
theorem e34 : denF Try.prog (GA Try.prog) Try.f34 [(VT.one CT.ptr)] (.seq .leaf (.seq (.r (sl Try.prog [(2, 4)])) .leaf)) = t34 := by kernel_rfl
theorem c34 (x0 : Option Addr) {R : Ending → World → Prop} {w : World} (h : t34 x0 R w) : Calls Try.prog 34 #[.pointer x0] w R :=
  lift mixed Try.func34 e34 rfl ((x0, ()), ()) R w h

/-- slices.Clone[[]disk.sector,disk.sector] -/
def t35 : Sl → G :=
  fun (l0 : Sl) => iteG (Option.isNone (Sl.a l0))
    (retG (Value.slice Option.none 0 0))
    (newG (Obj.cells #[] 72 (Prod.mk 0 0))
      (fun (m1 : Nat) => opG Try.prog (Builtin.append_ #[58, 58] 58 #[(Value.slice (Option.some (Addr.mk m1 0 Option.none)) 0 0), (Value.slice (Sl.a l0) (Sl.n l0) (Sl.c l0))]) (VT.one CT.slice)
        (fun (l2 : Sl) => retG (Value.slice (Sl.a l2) (Sl.n l2) (Sl.c l2)))))
theorem e35 : denF Try.prog (GA Try.prog) Try.f35 [(VT.one CT.slice)] .leaf = t35 := by kernel_rfl
theorem c35 (x0 : Sl) {R : Ending → World → Prop} {w : World} (h : t35 x0 R w) : Calls Try.prog 35 #[.slice x0.a x0.n x0.c] w R :=
  lift mixed Try.func35 e35 rfl ((x0, ()), ()) R w h

end Go.Proofs.Ytmklfedlifcoiaa
