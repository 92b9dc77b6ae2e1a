/- The functions as trees, each with its contract (by program). No condition. -/
import Derived.Test.YthnfcbjfmghomaaGreatDoorTreeA
import Derived.Test.YthnfcbjfmghomaaGreatDoorProg
set_option maxRecDepth 100000
namespace Go.Proofs.YthnfcbjfmghomaaGreatDoor
open Go.Lift

/-- pandectlaw06.LexWords -/
def t3 : ByteArray → G :=
  fun (s0 : ByteArray) => joinG [(VT.one CT.bool)]
    (fun k1 => callG Tryz.prog 10 #[(Value.string s0)] [(VT.one CT.bool)]
      (fun (b2 : Bool) => callG Tryz.prog 11 #[(Value.string s0)] [(VT.one CT.bool)]
        (fun (b3 : Bool) => iteG (b2 == b3)
          (callG Tryz.prog 12 #[(Value.string s0)] [(VT.one CT.bool)]
            (fun (b4 : Bool) => callG Tryz.prog 13 #[(Value.string s0)] [(VT.one CT.bool)]
              (fun (b5 : Bool) => iteG (b4 == b5)
                (callG Tryz.prog 14 #[(Value.string s0)] [(VT.one CT.bool)]
                  (fun (b6 : Bool) => callG Tryz.prog 15 #[(Value.string s0)] [(VT.one CT.bool)]
                    (fun (b7 : Bool) => iteG (b6 == b7)
                      (callG Tryz.prog 16 #[(Value.string s0)] [(VT.one CT.bool)]
                        (fun (b8 : Bool) => callG Tryz.prog 17 #[(Value.string s0)] [(VT.one CT.bool)]
                          (fun (b9 : Bool) => iteG (b8 == b9)
                            (callG Tryz.prog 18 #[] [(VT.one CT.bool)]
                              (fun (b10 : Bool) => k1 b10))
                            (k1 false))))
                      (k1 false))))
                (k1 false))))
          (k1 false))))
    (fun (b11 : Bool) => retG (Value.bool b11))
theorem e3 : denF Tryz.prog (GA Tryz.prog) Tryz.f3 [(VT.one CT.str)] (.seq .leaf (.seq (.r (sl Tryz.prog [(2, 4)])) .leaf)) = t3 := by kernel_rfl
theorem c3 (x0 : ByteArray) {R : Ending → World → Prop} {w : World} (h : t3 x0 R w) : Calls Tryz.prog 3 #[.string x0] w R :=
  lift mixed Tryz.func3 e3 rfl ((x0, ()), ()) R w h

/-- pandectlaw06.LexScans -/
def t4 : ByteArray → G :=
  fun (s0 : ByteArray) => callG Tryz.prog 19 #[(Value.string s0)] [(VT.one CT.slice), (VT.agg [(CT.int IntKind.i64), (CT.int IntKind.i64)])]
    (fun (l1 : Sl) => fun (n2 : Int) => fun (n3 : Int) => newG (Obj.cells #[(Value.int IntKind.i64 (0 : Int)), (Value.int IntKind.i64 (0 : Int))] 27 (Prod.mk 0 0))
      (fun (m4 : Nat) => stG (Addr.mk m4 0 Option.none) (Value.int IntKind.i64 n2)
        (stG (Addr.mk m4 1 Option.none) (Value.int IntKind.i64 n3)
          (callG Tryz.prog 20 #[(Value.string s0)] [(VT.one CT.slice), (VT.agg [(CT.int IntKind.i64), (CT.int IntKind.i64)])]
            (fun (l5 : Sl) => fun (n6 : Int) => fun (n7 : Int) => newG (Obj.cells #[(Value.int IntKind.i64 (0 : Int)), (Value.int IntKind.i64 (0 : Int))] 27 (Prod.mk 0 0))
              (fun (m8 : Nat) => stG (Addr.mk m8 0 Option.none) (Value.int IntKind.i64 n6)
                (stG (Addr.mk m8 1 Option.none) (Value.int IntKind.i64 n7)
                  (joinG [(VT.one CT.bool)]
                    (fun k9 => callG Tryz.prog 21 #[(Value.slice (Sl.a l1) (Sl.n l1) (Sl.c l1)), (Value.slice (Sl.a l5) (Sl.n l5) (Sl.c l5)), (Value.bool true)] [(VT.one CT.bool)]
                      (fun (b10 : Bool) => iteG b10
                        (ldG (CT.int IntKind.i64) (Addr.mk m4 0 Option.none)
                          (fun (n11 : Int) => ldG (CT.int IntKind.i64) (Addr.mk m4 1 Option.none)
                            (fun (n12 : Int) => ldG (CT.int IntKind.i64) (Addr.mk m8 0 Option.none)
                              (fun (n13 : Int) => ldG (CT.int IntKind.i64) (Addr.mk m8 1 Option.none)
                                (fun (n14 : Int) => opG Tryz.prog (eqSem BinOp.eql 27 (Operand.tmp 21) (Operand.tmp 22) (Value.agg #[(Value.int IntKind.i64 n11), (Value.int IntKind.i64 n12)]) (Value.agg #[(Value.int IntKind.i64 n13), (Value.int IntKind.i64 n14)])) (VT.one CT.bool)
                                  (fun (b15 : Bool) => iteG b15
                                    (callG Tryz.prog 18 #[] [(VT.one CT.bool)]
                                      (fun (b16 : Bool) => k9 b16))
                                    (k9 false)))))))
                        (k9 false)))
                    (fun (b17 : Bool) => retG (Value.bool b17))))))))))
theorem e4 : denF Tryz.prog (GA Tryz.prog) Tryz.f4 [(VT.one CT.str)] (.seq .leaf (.seq .leaf (.seq .leaf (.seq (.r (sl Tryz.prog [(2, 4)])) .leaf)))) = t4 := by kernel_rfl
theorem c4 (x0 : ByteArray) {R : Ending → World → Prop} {w : World} (h : t4 x0 R w) : Calls Tryz.prog 4 #[.string x0] w R :=
  lift mixed Tryz.func4 e4 rfl ((x0, ()), ()) R w h

/-- pandectlaw06.LexShows -/
def t5 : Sl → G :=
  fun (l0 : Sl) => joinG []
    (fun k1 => loopG [(VT.one (CT.int IntKind.i64)), (VT.one (CT.int IntKind.i64))]
      (fun k2 => fun (n3 : Int) => fun (n4 : Int) => iteG (Decidable.decide (n4 < (↑(Sl.n l0) : Int)))
        (joinG [(VT.one (CT.int IntKind.i64))]
          (fun k5 => idxG (Sl.a l0) (Sl.n l0) n4 3
            (fun (a6 : Addr) => ldG CT.str (Addr.add a6 1)
              (fun (s7 : ByteArray) => iteG (Decidable.decide (IntKind.wrap IntKind.i64 (n3 + IntKind.wrap IntKind.i64 ((if (20000 : Int) < (↑(ByteArray.size s7) : Int) then (20000 : Int) else (↑(ByteArray.size s7) : Int)) + (5 : Int))) > (20000 : Int)))
                (callG Tryz.prog 18 #[] [(VT.one CT.bool)]
                  (fun (b8 : Bool) => retG (Value.bool b8)))
                (k5 (IntKind.wrap IntKind.i64 (n3 + IntKind.wrap IntKind.i64 ((if (20000 : Int) < (↑(ByteArray.size s7) : Int) then (20000 : Int) else (↑(ByteArray.size s7) : Int)) + (5 : Int))))))))
          (fun (n9 : Int) => k2 n9 (IntKind.wrap IntKind.i64 (n4 + (1 : Int)))))
        (k1)) (0 : Int) (0 : Int))
    (callG Tryz.prog 22 #[(Value.slice (Sl.a l0) (Sl.n l0) (Sl.c l0))] [(VT.one CT.str), (VT.one (CT.int IntKind.i64))]
      (fun (s10 : ByteArray) => fun (n11 : Int) => callG Tryz.prog 23 #[(Value.slice (Sl.a l0) (Sl.n l0) (Sl.c l0))] [(VT.one CT.str), (VT.one (CT.int IntKind.i64))]
        (fun (s12 : ByteArray) => fun (n13 : Int) => joinG [(VT.one CT.bool)]
          (fun k14 => iteG (ByteArray.toList s10 == ByteArray.toList s12)
            (iteG (n11 == n13)
              (callG Tryz.prog 18 #[] [(VT.one CT.bool)]
                (fun (b15 : Bool) => k14 b15))
              (k14 false))
            (k14 false))
          (fun (b16 : Bool) => retG (Value.bool b16)))))
theorem e5 : denF Tryz.prog (GA Tryz.prog) Tryz.f5 [(VT.one CT.slice)] (.seq .leaf (.seq .leaf (.seq (.seq .leaf (.block (sl Tryz.prog []) (.loop (sl Tryz.prog [(3, 3), (4, 3)]) (.seq .leaf (.seq (.block (sl Tryz.prog [(3, 3)]) .leaf) .leaf))))) (.seq .leaf (.seq .leaf (.seq (.r (sl Tryz.prog [(2, 4)])) .leaf)))))) = t5 := by kernel_rfl
theorem c5 (x0 : Sl) {R : Ending → World → Prop} {w : World} (h : t5 x0 R w) : Calls Tryz.prog 5 #[.slice x0.a x0.n x0.c] w R :=
  lift mixed Tryz.func5 e5 rfl ((x0, ()), ()) R w h

/-- pandectlaw06.LexBack -/
def t6 : Sl → G :=
  fun (l0 : Sl) => joinG [(VT.one CT.slice)]
    (fun k1 => loopG [(VT.one (CT.int IntKind.i64)), (VT.one CT.slice), (VT.one (CT.int IntKind.i64))]
      (fun k2 => fun (n3 : Int) => fun (l4 : Sl) => fun (n5 : Int) => iteG (Decidable.decide (n5 < (↑(Sl.n l0) : Int)))
        (joinG [(VT.one (CT.int IntKind.i64)), (VT.one CT.slice)]
          (fun k6 => idxG (Sl.a l0) (Sl.n l0) n5 3
            (fun (a7 : Addr) => ldG CT.str (Addr.add a7 1)
              (fun (s8 : ByteArray) => iteG (Decidable.decide (IntKind.wrap IntKind.i64 (n3 + IntKind.wrap IntKind.i64 ((if (20000 : Int) < (↑(ByteArray.size s8) : Int) then (20000 : Int) else (↑(ByteArray.size s8) : Int)) + (5 : Int))) > (20000 : Int)))
                (callG Tryz.prog 18 #[] [(VT.one CT.bool)]
                  (fun (b9 : Bool) => retG (Value.bool b9)))
                (idxG (Sl.a l0) (Sl.n l0) n5 3
                  (fun (a10 : Addr) => ldG (CT.int IntKind.i64) (Addr.add a10 0)
                    (fun (n11 : Int) => joinG [(VT.one CT.slice)]
                      (fun k12 => iteG (n11 != (0 : Int))
                        (idxG (Sl.a l0) (Sl.n l0) n5 3
                          (fun (a13 : Addr) => ldG (CT.int IntKind.i64) (Addr.add a13 0)
                            (fun (n14 : Int) => ldG CT.str (Addr.add a13 1)
                              (fun (s15 : ByteArray) => ldG (CT.int IntKind.i64) (Addr.add a13 2)
                                (fun (n16 : Int) => newG (Obj.cells #[(Value.int IntKind.i64 n14), (Value.string s15), (Value.int IntKind.i64 n16)] 32 (Prod.mk 0 0))
                                  (fun (m17 : Nat) => opG Tryz.prog (Builtin.append_ #[24, 24] 24 #[(Value.slice (Sl.a l4) (Sl.n l4) (Sl.c l4)), (Value.slice (Option.some (Addr.mk m17 0 Option.none)) 1 1)]) (VT.one CT.slice)
                                    (fun (l18 : Sl) => k12 l18)))))))
                        (k12 l4))
                      (fun (l19 : Sl) => k6 (IntKind.wrap IntKind.i64 (n3 + IntKind.wrap IntKind.i64 ((if (20000 : Int) < (↑(ByteArray.size s8) : Int) then (20000 : Int) else (↑(ByteArray.size s8) : Int)) + (5 : Int)))) l19)))))))
          (fun (n20 : Int) => fun (l21 : Sl) => k2 n20 l21 (IntKind.wrap IntKind.i64 (n5 + (1 : Int)))))
        (k1 l4)) (0 : Int) (Sl.mk Option.none 0 0) (0 : Int))
    (fun (l22 : Sl) => callG Tryz.prog 22 #[(Value.slice (Sl.a l0) (Sl.n l0) (Sl.c l0))] [(VT.one CT.str), (VT.one (CT.int IntKind.i64))]
      (fun (s23 : ByteArray) => fun (n24 : Int) => iteG (n24 != (0 : Int))
        (joinG [(VT.one CT.bool)]
          (fun k25 => iteG (ByteArray.toList s23 == ByteArray.toList (ByteArray.mk #[]))
            (iteG (n24 == (60 : Int))
              (callG Tryz.prog 18 #[] [(VT.one CT.bool)]
                (fun (b26 : Bool) => k25 b26))
              (k25 false))
            (k25 false))
          (fun (b27 : Bool) => retG (Value.bool b27)))
        (callG Tryz.prog 19 #[(Value.string s23)] [(VT.one CT.slice), (VT.agg [(CT.int IntKind.i64), (CT.int IntKind.i64)])]
          (fun (l28 : Sl) => fun (n29 : Int) => fun (n30 : Int) => newG (Obj.cells #[(Value.int IntKind.i64 (0 : Int)), (Value.int IntKind.i64 (0 : Int))] 27 (Prod.mk 0 0))
            (fun (m31 : Nat) => stG (Addr.mk m31 0 Option.none) (Value.int IntKind.i64 n29)
              (stG (Addr.mk m31 1 Option.none) (Value.int IntKind.i64 n30)
                (iteG (Decidable.decide ((↑(ByteArray.size s23) : Int) > (4096 : Int)))
                  (joinG [(VT.one CT.bool)]
                    (fun k32 => ldG (CT.int IntKind.i64) (Addr.mk m31 0 Option.none)
                      (fun (n33 : Int) => iteG (n33 == (3 : Int))
                        (iteG ((↑(Sl.n l28) : Int) == (0 : Int))
                          (callG Tryz.prog 18 #[] [(VT.one CT.bool)]
                            (fun (b34 : Bool) => k32 b34))
                          (k32 false))
                        (k32 false)))
                    (fun (b35 : Bool) => retG (Value.bool b35)))
                  (joinG [(VT.one CT.bool)]
                    (fun k36 => ldG (CT.int IntKind.i64) (Addr.mk m31 0 Option.none)
                      (fun (n37 : Int) => ldG (CT.int IntKind.i64) (Addr.mk m31 1 Option.none)
                        (fun (n38 : Int) => opG Tryz.prog (eqSem BinOp.eql 27 (Operand.tmp 77) (Operand.tmp 78) (Value.agg #[(Value.int IntKind.i64 n37), (Value.int IntKind.i64 n38)]) (Value.agg #[(Value.int IntKind.i64 (0 : Int)), (Value.int IntKind.i64 (0 : Int))])) (VT.one CT.bool)
                          (fun (b39 : Bool) => iteG b39
                            (newG (Obj.cells #[(Value.int IntKind.i64 (0 : Int)), (Value.string (ByteArray.mk #[])), (Value.int IntKind.i64 (0 : Int))] 32 (Prod.mk 0 0))
                              (fun (m40 : Nat) => opG Tryz.prog (Builtin.append_ #[24, 24] 24 #[(Value.slice (Sl.a l22) (Sl.n l22) (Sl.c l22)), (Value.slice (Option.some (Addr.mk m40 0 Option.none)) 1 1)]) (VT.one CT.slice)
                                (fun (l41 : Sl) => callG Tryz.prog 21 #[(Value.slice (Sl.a l28) (Sl.n l28) (Sl.c l28)), (Value.slice (Sl.a l41) (Sl.n l41) (Sl.c l41)), (Value.bool false)] [(VT.one CT.bool)]
                                  (fun (b42 : Bool) => iteG b42
                                    (callG Tryz.prog 18 #[] [(VT.one CT.bool)]
                                      (fun (b43 : Bool) => k36 b43))
                                    (k36 false)))))
                            (k36 false)))))
                    (fun (b44 : Bool) => retG (Value.bool b44))))))))))
theorem e6 : denF Tryz.prog (GA Tryz.prog) Tryz.f6 [(VT.one CT.slice)] (.seq .leaf (.seq .leaf (.seq .leaf (.seq (.seq .leaf (.block (sl Tryz.prog [(4, 24)]) (.loop (sl Tryz.prog [(3, 3), (4, 24), (5, 3)]) (.seq .leaf (.seq (.block (sl Tryz.prog [(3, 3), (4, 24)]) (.seq .leaf (.seq .leaf (.seq .leaf (.condj (sl Tryz.prog [(4, 24)]) .leaf .leaf))))) .leaf))))) (.seq .leaf (.seq (.seq .leaf (.cond (.seq (.r (sl Tryz.prog [(2, 4)])) .leaf) .leaf)) (.seq .leaf (.seq (.seq .leaf (.cond (.seq (.r (sl Tryz.prog [(2, 4)])) .leaf) .leaf)) (.seq (.r (sl Tryz.prog [(2, 4)])) .leaf))))))))) = t6 := by kernel_rfl
theorem c6 (x0 : Sl) {R : Ending → World → Prop} {w : World} (h : t6 x0 R w) : Calls Tryz.prog 6 #[.slice x0.a x0.n x0.c] w R :=
  lift mixed Tryz.func6 e6 rfl ((x0, ()), ()) R w h

/-- pandectlaw06.LexBlanks -/
def t7 : ByteArray → G :=
  fun (s0 : ByteArray) => callG Tryz.prog 19 #[(Value.string s0)] [(VT.one CT.slice), (VT.agg [(CT.int IntKind.i64), (CT.int IntKind.i64)])]
    (fun (l1 : Sl) => fun (n2 : Int) => fun (n3 : Int) => newG (Obj.cells #[(Value.int IntKind.i64 (0 : Int)), (Value.int IntKind.i64 (0 : Int))] 27 (Prod.mk 0 0))
      (fun (m4 : Nat) => stG (Addr.mk m4 0 Option.none) (Value.int IntKind.i64 n2)
        (stG (Addr.mk m4 1 Option.none) (Value.int IntKind.i64 n3)
          (joinG [(VT.one CT.bool)]
            (fun k5 => ldG (CT.int IntKind.i64) (Addr.mk m4 0 Option.none)
              (fun (n6 : Int) => iteG (n6 != (0 : Int))
                (k5 true)
                (k5 (Decidable.decide ((↑(ByteArray.size s0) : Int) > (2000 : Int))))))
            (fun (b7 : Bool) => iteG b7
              (joinG [(VT.one CT.bool)]
                (fun k8 => ldG (CT.int IntKind.i64) (Addr.mk m4 0 Option.none)
                  (fun (n9 : Int) => iteG (n9 == (0 : Int))
                    (callG Tryz.prog 18 #[] [(VT.one CT.bool)]
                      (fun (b10 : Bool) => k8 b10))
                    (iteG ((↑(Sl.n l1) : Int) == (0 : Int))
                      (callG Tryz.prog 18 #[] [(VT.one CT.bool)]
                        (fun (b11 : Bool) => k8 b11))
                      (k8 false))))
                (fun (b12 : Bool) => retG (Value.bool b12)))
              (catG (ByteArray.mk (#[32, 45, 45, 32, 97, 32, 114, 101, 109, 97, 114, 107, 32, 195, 169, 10, 9])) s0
                (fun (s13 : ByteArray) => catG s13 (ByteArray.mk #[10, 45, 45, 32, 97, 110, 111, 116, 104, 101, 114])
                  (fun (s14 : ByteArray) => callG Tryz.prog 19 #[(Value.string s14)] [(VT.one CT.slice), (VT.agg [(CT.int IntKind.i64), (CT.int IntKind.i64)])]
                    (fun (l15 : Sl) => fun (n16 : Int) => fun (n17 : Int) => newG (Obj.cells #[(Value.int IntKind.i64 (0 : Int)), (Value.int IntKind.i64 (0 : Int))] 27 (Prod.mk 0 0))
                      (fun (m18 : Nat) => stG (Addr.mk m18 0 Option.none) (Value.int IntKind.i64 n16)
                        (stG (Addr.mk m18 1 Option.none) (Value.int IntKind.i64 n17)
                          (joinG [(VT.one CT.bool)]
                            (fun k19 => ldG (CT.int IntKind.i64) (Addr.mk m18 0 Option.none)
                              (fun (n20 : Int) => iteG (n20 != (0 : Int))
                                (k19 true)
                                (callG Tryz.prog 21 #[(Value.slice (Sl.a l15) (Sl.n l15) (Sl.c l15)), (Value.slice (Sl.a l1) (Sl.n l1) (Sl.c l1)), (Value.bool false)] [(VT.one CT.bool)]
                                  (fun (b21 : Bool) => k19 (!b21)))))
                            (fun (b22 : Bool) => iteG b22
                              (retG (Value.bool false))
                              (joinG []
                                (fun k23 => loopG [(VT.one (CT.int IntKind.i64))]
                                  (fun k24 => fun (n25 : Int) => iteG (Decidable.decide (IntKind.wrap IntKind.i64 (n25 + (1 : Int)) < (↑(Sl.n l1) : Int)))
                                    (joinG []
                                      (fun k26 => drewG
                                        (idxG (Sl.a l15) (Sl.n l15) n25 3
                                          (fun (a27 : Addr) => ldG (CT.int IntKind.i64) (Addr.add a27 2)
                                            (fun (n28 : Int) => idxG (Sl.a l1) (Sl.n l1) n25 3
                                              (fun (a29 : Addr) => ldG (CT.int IntKind.i64) (Addr.add a29 2)
                                                (fun (n30 : Int) => iteG (n28 != IntKind.wrap IntKind.i64 (n30 + (17 : Int)))
                                                  (retG (Value.bool false))
                                                  (k26)))))))
                                      (k24 (IntKind.wrap IntKind.i64 (n25 + (1 : Int)))))
                                    (k23)) (0 : Int))
                                (callG Tryz.prog 22 #[(Value.slice (Sl.a l1) (Sl.n l1) (Sl.c l1))] [(VT.one CT.str), (VT.one (CT.int IntKind.i64))]
                                  (fun (s31 : ByteArray) => fun (n32 : Int) => callG Tryz.prog 19 #[(Value.string s31)] [(VT.one CT.slice), (VT.agg [(CT.int IntKind.i64), (CT.int IntKind.i64)])]
                                    (fun (l33 : Sl) => fun (n34 : Int) => fun (n35 : Int) => newG (Obj.cells #[(Value.int IntKind.i64 (0 : Int)), (Value.int IntKind.i64 (0 : Int))] 27 (Prod.mk 0 0))
                                      (fun (m36 : Nat) => stG (Addr.mk m36 0 Option.none) (Value.int IntKind.i64 n34)
                                        (stG (Addr.mk m36 1 Option.none) (Value.int IntKind.i64 n35)
                                          (joinG [(VT.one CT.bool)]
                                            (fun k37 => iteG (n32 == (0 : Int))
                                              (iteG (Decidable.decide ((↑(ByteArray.size s31) : Int) > (4096 : Int)))
                                                (callG Tryz.prog 18 #[] [(VT.one CT.bool)]
                                                  (fun (b38 : Bool) => k37 b38))
                                                (ldG (CT.int IntKind.i64) (Addr.mk m36 0 Option.none)
                                                  (fun (n39 : Int) => iteG (n39 == (0 : Int))
                                                    (callG Tryz.prog 21 #[(Value.slice (Sl.a l33) (Sl.n l33) (Sl.c l33)), (Value.slice (Sl.a l1) (Sl.n l1) (Sl.c l1)), (Value.bool false)] [(VT.one CT.bool)]
                                                      (fun (b40 : Bool) => iteG b40
                                                        (callG Tryz.prog 18 #[] [(VT.one CT.bool)]
                                                          (fun (b41 : Bool) => k37 b41))
                                                        (k37 false)))
                                                    (k37 false))))
                                              (k37 false))
                                            (fun (b42 : Bool) => retG (Value.bool b42))))))))))))))))))))))
theorem e7 : denF Tryz.prog (GA Tryz.prog) Tryz.f7 [(VT.one CT.str)] (.seq .leaf (.seq .leaf (.seq (.seq (.r (sl Tryz.prog [(24, 4)])) (.cond (.seq (.r (sl Tryz.prog [(2, 4)])) .leaf) .leaf)) (.seq .leaf (.seq (.seq (.r (sl Tryz.prog [(51, 4)])) .leaf) (.seq (.seq .leaf (.block (sl Tryz.prog []) (.loop (sl Tryz.prog [(7, 3)]) (.seq .leaf (.seq (.block (sl Tryz.prog []) .leaf) .leaf))))) (.seq .leaf (.seq .leaf (.seq (.r (sl Tryz.prog [(2, 4)])) .leaf))))))))) = t7 := by kernel_rfl
theorem c7 (x0 : ByteArray) {R : Ending → World → Prop} {w : World} (h : t7 x0 R w) : Calls Tryz.prog 7 #[.string x0] w R :=
  lift mixed Tryz.func7 e7 rfl ((x0, ()), ()) R w h

/-- pandectlaw06.LexParts -/
def t8 : ByteArray → ByteArray → G :=
  fun (s0 : ByteArray) => fun (s1 : ByteArray) => iteG (Decidable.decide (IntKind.wrap IntKind.i64 ((↑(ByteArray.size s0) : Int) + (↑(ByteArray.size s1) : Int)) ≥ (4096 : Int)))
    (callG Tryz.prog 18 #[] [(VT.one CT.bool)]
      (fun (b2 : Bool) => retG (Value.bool b2)))
    (callG Tryz.prog 19 #[(Value.string s0)] [(VT.one CT.slice), (VT.agg [(CT.int IntKind.i64), (CT.int IntKind.i64)])]
      (fun (l3 : Sl) => fun (n4 : Int) => fun (n5 : Int) => newG (Obj.cells #[(Value.int IntKind.i64 (0 : Int)), (Value.int IntKind.i64 (0 : Int))] 27 (Prod.mk 0 0))
        (fun (m6 : Nat) => stG (Addr.mk m6 0 Option.none) (Value.int IntKind.i64 n4)
          (stG (Addr.mk m6 1 Option.none) (Value.int IntKind.i64 n5)
            (callG Tryz.prog 19 #[(Value.string s1)] [(VT.one CT.slice), (VT.agg [(CT.int IntKind.i64), (CT.int IntKind.i64)])]
              (fun (l7 : Sl) => fun (n8 : Int) => fun (n9 : Int) => newG (Obj.cells #[(Value.int IntKind.i64 (0 : Int)), (Value.int IntKind.i64 (0 : Int))] 27 (Prod.mk 0 0))
                (fun (m10 : Nat) => stG (Addr.mk m10 0 Option.none) (Value.int IntKind.i64 n8)
                  (stG (Addr.mk m10 1 Option.none) (Value.int IntKind.i64 n9)
                    (catG s0 (ByteArray.mk #[10])
                      (fun (s11 : ByteArray) => catG s11 s1
                        (fun (s12 : ByteArray) => callG Tryz.prog 19 #[(Value.string s12)] [(VT.one CT.slice), (VT.agg [(CT.int IntKind.i64), (CT.int IntKind.i64)])]
                          (fun (l13 : Sl) => fun (n14 : Int) => fun (n15 : Int) => newG (Obj.cells #[(Value.int IntKind.i64 (0 : Int)), (Value.int IntKind.i64 (0 : Int))] 27 (Prod.mk 0 0))
                            (fun (m16 : Nat) => stG (Addr.mk m16 0 Option.none) (Value.int IntKind.i64 n14)
                              (stG (Addr.mk m16 1 Option.none) (Value.int IntKind.i64 n15)
                                (ldG (CT.int IntKind.i64) (Addr.mk m6 0 Option.none)
                                  (fun (n17 : Int) => iteG (n17 != (0 : Int))
                                    (joinG [(VT.one CT.bool)]
                                      (fun k18 => iteG ((↑(Sl.n l13) : Int) == (0 : Int))
                                        (ldG (CT.int IntKind.i64) (Addr.mk m16 0 Option.none)
                                          (fun (n19 : Int) => iteG (n19 != (0 : Int))
                                            (ldG (CT.int IntKind.i64) (Addr.mk m16 1 Option.none)
                                              (fun (n20 : Int) => ldG (CT.int IntKind.i64) (Addr.mk m6 1 Option.none)
                                                (fun (n21 : Int) => iteG (Decidable.decide (n20 ≤ n21))
                                                  (callG Tryz.prog 18 #[] [(VT.one CT.bool)]
                                                    (fun (b22 : Bool) => k18 b22))
                                                  (k18 false))))
                                            (k18 false)))
                                        (k18 false))
                                      (fun (b23 : Bool) => retG (Value.bool b23)))
                                    (ldG (CT.int IntKind.i64) (Addr.mk m10 0 Option.none)
                                      (fun (n24 : Int) => iteG (n24 != (0 : Int))
                                        (joinG [(VT.one CT.bool)]
                                          (fun k25 => iteG ((↑(Sl.n l13) : Int) == (0 : Int))
                                            (ldG (CT.int IntKind.i64) (Addr.mk m16 0 Option.none)
                                              (fun (n26 : Int) => ldG (CT.int IntKind.i64) (Addr.mk m16 1 Option.none)
                                                (fun (n27 : Int) => ldG (CT.int IntKind.i64) (Addr.mk m10 0 Option.none)
                                                  (fun (n28 : Int) => ldG (CT.int IntKind.i64) (Addr.mk m10 1 Option.none)
                                                    (fun (n29 : Int) => opG Tryz.prog (eqSem BinOp.eql 27 (Operand.tmp 66) (Operand.tmp 75) (Value.agg #[(Value.int IntKind.i64 n26), (Value.int IntKind.i64 n27)]) (Value.agg #[(Value.int IntKind.i64 n28), (Value.int IntKind.i64 (IntKind.wrap IntKind.i64 (IntKind.wrap IntKind.i64 ((↑(ByteArray.size s0) : Int) + (1 : Int)) + n29)))])) (VT.one CT.bool)
                                                      (fun (b30 : Bool) => iteG b30
                                                        (callG Tryz.prog 18 #[] [(VT.one CT.bool)]
                                                          (fun (b31 : Bool) => k25 b31))
                                                        (k25 false)))))))
                                            (k25 false))
                                          (fun (b32 : Bool) => retG (Value.bool b32)))
                                        (iteG ((↑(Sl.n l3) : Int) == (0 : Int))
                                          (retG (Value.bool false))
                                          (newG (Obj.cells #[] 32 (Prod.mk 0 0))
                                            (fun (m33 : Nat) => assumeG (Decidable.decide ((↑(Sl.c l3) : Int) ≤ (↑(Sl.c l3) : Int)))
                                              (resliceG (Sl.a l3) (Sl.c l3) (0 : Int) (IntKind.wrap IntKind.i64 ((↑(Sl.n l3) : Int) - (1 : Int))) ((↑(Sl.c l3) : Int)) 3
                                                (fun (p34 : Option Addr) => fun (m35 : Nat) => fun (m36 : Nat) => opG Tryz.prog (Builtin.append_ #[24, 24] 24 #[(Value.slice (Option.some (Addr.mk m33 0 Option.none)) 0 0), (Value.slice p34 m35 m36)]) (VT.one CT.slice)
                                                  (fun (l37 : Sl) => joinG [(VT.one CT.slice)]
                                                    (fun k38 => loopG [(VT.one CT.slice), (VT.one (CT.int IntKind.i64))]
                                                      (fun k39 => fun (l40 : Sl) => fun (n41 : Int) => iteG (Decidable.decide (n41 < (↑(Sl.n l7) : Int)))
                                                        (joinG [(VT.one CT.slice)]
                                                          (fun k42 => idxG (Sl.a l7) (Sl.n l7) n41 3
                                                            (fun (a43 : Addr) => ldG (CT.int IntKind.i64) (Addr.add a43 2)
                                                              (fun (n44 : Int) => idxG (Sl.a l7) (Sl.n l7) n41 3
                                                                (fun (a45 : Addr) => stG (Addr.add a45 2) (Value.int IntKind.i64 (IntKind.wrap IntKind.i64 (n44 + IntKind.wrap IntKind.i64 ((↑(ByteArray.size s0) : Int) + (1 : Int)))))
                                                                  (idxG (Sl.a l7) (Sl.n l7) n41 3
                                                                    (fun (a46 : Addr) => ldG (CT.int IntKind.i64) (Addr.add a46 0)
                                                                      (fun (n47 : Int) => ldG CT.str (Addr.add a46 1)
                                                                        (fun (s48 : ByteArray) => ldG (CT.int IntKind.i64) (Addr.add a46 2)
                                                                          (fun (n49 : Int) => newG (Obj.cells #[(Value.int IntKind.i64 n47), (Value.string s48), (Value.int IntKind.i64 n49)] 32 (Prod.mk 0 0))
                                                                            (fun (m50 : Nat) => opG Tryz.prog (Builtin.append_ #[24, 24] 24 #[(Value.slice (Sl.a l40) (Sl.n l40) (Sl.c l40)), (Value.slice (Option.some (Addr.mk m50 0 Option.none)) 1 1)]) (VT.one CT.slice)
                                                                              (fun (l51 : Sl) => k42 l51)))))))))))
                                                          (fun (l52 : Sl) => k39 l52 (IntKind.wrap IntKind.i64 (n41 + (1 : Int)))))
                                                        (k38 l40)) l37 (0 : Int))
                                                    (fun (l53 : Sl) => joinG [(VT.one CT.bool)]
                                                      (fun k54 => ldG (CT.int IntKind.i64) (Addr.mk m16 0 Option.none)
                                                        (fun (n55 : Int) => ldG (CT.int IntKind.i64) (Addr.mk m16 1 Option.none)
                                                          (fun (n56 : Int) => opG Tryz.prog (eqSem BinOp.eql 27 (Operand.tmp 115) (Operand.tmp 116) (Value.agg #[(Value.int IntKind.i64 n55), (Value.int IntKind.i64 n56)]) (Value.agg #[(Value.int IntKind.i64 (0 : Int)), (Value.int IntKind.i64 (0 : Int))])) (VT.one CT.bool)
                                                            (fun (b57 : Bool) => iteG b57
                                                              (callG Tryz.prog 21 #[(Value.slice (Sl.a l13) (Sl.n l13) (Sl.c l13)), (Value.slice (Sl.a l53) (Sl.n l53) (Sl.c l53)), (Value.bool true)] [(VT.one CT.bool)]
                                                                (fun (b58 : Bool) => iteG b58
                                                                  (callG Tryz.prog 18 #[] [(VT.one CT.bool)]
                                                                    (fun (b59 : Bool) => k54 b59))
                                                                  (k54 false)))
                                                              (k54 false)))))
                                                      (fun (b60 : Bool) => retG (Value.bool b60)))))))))))))))))))))))))))
theorem e8 : denF Tryz.prog (GA Tryz.prog) Tryz.f8 [(VT.one CT.str), (VT.one CT.str)] (.seq .leaf (.seq .leaf (.seq .leaf (.seq .leaf (.seq .leaf (.seq (.seq .leaf (.cond (.seq (.r (sl Tryz.prog [(4, 4)])) .leaf) .leaf)) (.seq (.seq .leaf (.cond (.seq (.r (sl Tryz.prog [(4, 4)])) .leaf) .leaf)) (.seq .leaf (.seq .leaf (.seq (.seq .leaf (.block (sl Tryz.prog [(11, 24)]) (.loop (sl Tryz.prog [(11, 24), (12, 3)]) (.seq .leaf (.seq (.block (sl Tryz.prog [(11, 24)]) .leaf) .leaf))))) (.seq (.r (sl Tryz.prog [(4, 4)])) .leaf))))))))))) = t8 := by kernel_rfl
theorem c8 (x0 : ByteArray) (x1 : ByteArray) {R : Ending → World → Prop} {w : World} (h : t8 x0 x1 R w) : Calls Tryz.prog 8 #[.string x0, .string x1] w R :=
  lift mixed Tryz.func8 e8 rfl ((x0, ()), (x1, ()), ()) R w h

/-- pandectlaw06.LexPlaces -/
def t9 : ByteArray → G :=
  fun (s0 : ByteArray) => callG Tryz.prog 19 #[(Value.string s0)] [(VT.one CT.slice), (VT.agg [(CT.int IntKind.i64), (CT.int IntKind.i64)])]
    (fun (l1 : Sl) => fun (n2 : Int) => fun (n3 : Int) => newG (Obj.cells #[(Value.int IntKind.i64 (0 : Int)), (Value.int IntKind.i64 (0 : Int))] 27 (Prod.mk 0 0))
      (fun (m4 : Nat) => stG (Addr.mk m4 0 Option.none) (Value.int IntKind.i64 n2)
        (stG (Addr.mk m4 1 Option.none) (Value.int IntKind.i64 n3)
          (ldG (CT.int IntKind.i64) (Addr.mk m4 0 Option.none)
            (fun (n5 : Int) => iteG (n5 != (0 : Int))
              (joinG [(VT.one CT.bool)]
                (fun k6 => ldG (CT.int IntKind.i64) (Addr.mk m4 1 Option.none)
                  (fun (n7 : Int) => iteG (Decidable.decide (n7 ≥ (0 : Int)))
                    (ldG (CT.int IntKind.i64) (Addr.mk m4 1 Option.none)
                      (fun (n8 : Int) => iteG (Decidable.decide (n8 ≤ (↑(ByteArray.size s0) : Int)))
                        (callG Tryz.prog 18 #[] [(VT.one CT.bool)]
                          (fun (b9 : Bool) => k6 b9))
                        (k6 false)))
                    (k6 false)))
                (fun (b10 : Bool) => retG (Value.bool b10)))
              (joinG []
                (fun k11 => loopG [(VT.one (CT.int IntKind.i64)), (VT.one (CT.int IntKind.i64))]
                  (fun k12 => fun (n13 : Int) => fun (n14 : Int) => iteG (Decidable.decide (n14 < (↑(Sl.n l1) : Int)))
                    (joinG [(VT.one (CT.int IntKind.i64))]
                      (fun k15 => idxG (Sl.a l1) (Sl.n l1) n14 3
                        (fun (a16 : Addr) => ldG (CT.int IntKind.i64) (Addr.add a16 0)
                          (fun (n17 : Int) => ldG CT.str (Addr.add a16 1)
                            (fun (s18 : ByteArray) => ldG (CT.int IntKind.i64) (Addr.add a16 2)
                              (fun (n19 : Int) => newG (Obj.cells #[(Value.int IntKind.i64 (0 : Int)), (Value.string (ByteArray.mk #[])), (Value.int IntKind.i64 (0 : Int))] 32 (Prod.mk 0 0))
                                (fun (m20 : Nat) => stG (Addr.mk m20 0 Option.none) (Value.int IntKind.i64 n17)
                                  (stG (Addr.mk m20 1 Option.none) (Value.string s18)
                                    (stG (Addr.mk m20 2 Option.none) (Value.int IntKind.i64 n19)
                                      (joinG [(VT.one CT.bool)]
                                        (fun k21 => ldG (CT.int IntKind.i64) (Addr.mk m20 2 Option.none)
                                          (fun (n22 : Int) => iteG (Decidable.decide (n22 < n13))
                                            (k21 true)
                                            (ldG (CT.int IntKind.i64) (Addr.mk m20 2 Option.none)
                                              (fun (n23 : Int) => iteG (Decidable.decide (n23 > (↑(ByteArray.size s0) : Int)))
                                                (k21 true)
                                                (ldG (CT.int IntKind.i64) (Addr.mk m20 0 Option.none)
                                                  (fun (n24 : Int) => k21 (!(n24 == (0 : Int)) == (n14 == IntKind.wrap IntKind.i64 ((↑(Sl.n l1) : Int) - (1 : Int))))))))))
                                        (fun (b25 : Bool) => iteG b25
                                          (retG (Value.bool false))
                                          (ldG (CT.int IntKind.i64) (Addr.mk m20 0 Option.none)
                                            (fun (n26 : Int) => iteG (n26 == (4 : Int))
                                              (ldG (CT.int IntKind.i64) (Addr.mk m20 2 Option.none)
                                                (fun (n27 : Int) => k15 (IntKind.wrap IntKind.i64 (n27 + (2 : Int)))))
                                              (joinG [(VT.one CT.bool)]
                                                (fun k28 => drewG
                                                  (ldG CT.str (Addr.mk m20 1 Option.none)
                                                    (fun (s29 : ByteArray) => ldG (CT.int IntKind.i64) (Addr.mk m20 2 Option.none)
                                                      (fun (n30 : Int) => iteG (Decidable.decide ((↑(ByteArray.size s29) : Int) > IntKind.wrap IntKind.i64 ((↑(ByteArray.size s0) : Int) - n30)))
                                                        (k28 true)
                                                        (ldG (CT.int IntKind.i64) (Addr.mk m20 2 Option.none)
                                                          (fun (n31 : Int) => ldG (CT.int IntKind.i64) (Addr.mk m20 2 Option.none)
                                                            (fun (n32 : Int) => ldG CT.str (Addr.mk m20 1 Option.none)
                                                              (fun (s33 : ByteArray) => subG s0 n31 (IntKind.wrap IntKind.i64 (n32 + (↑(ByteArray.size s33) : Int)))
                                                                (fun (s34 : ByteArray) => ldG CT.str (Addr.mk m20 1 Option.none)
                                                                  (fun (s35 : ByteArray) => k28 (!ByteArray.toList s34 == ByteArray.toList s35)))))))))))
                                                (fun (b36 : Bool) => iteG b36
                                                  (retG (Value.bool false))
                                                  (ldG (CT.int IntKind.i64) (Addr.mk m20 2 Option.none)
                                                    (fun (n37 : Int) => ldG CT.str (Addr.mk m20 1 Option.none)
                                                      (fun (s38 : ByteArray) => k15 (IntKind.wrap IntKind.i64 (n37 + (↑(ByteArray.size s38) : Int))))))))))))))))))))
                      (fun (n39 : Int) => k12 n39 (IntKind.wrap IntKind.i64 (n14 + (1 : Int)))))
                    (k11)) (0 : Int) (0 : Int))
                (joinG [(VT.one CT.bool)]
                  (fun k40 => iteG (Decidable.decide ((↑(Sl.n l1) : Int) > (0 : Int)))
                    (idxG (Sl.a l1) (Sl.n l1) (IntKind.wrap IntKind.i64 ((↑(Sl.n l1) : Int) - (1 : Int))) 3
                      (fun (a41 : Addr) => ldG (CT.int IntKind.i64) (Addr.add a41 2)
                        (fun (n42 : Int) => iteG (n42 == (↑(ByteArray.size s0) : Int))
                          (callG Tryz.prog 18 #[] [(VT.one CT.bool)]
                            (fun (b43 : Bool) => k40 b43))
                          (k40 false))))
                    (k40 false))
                  (fun (b44 : Bool) => retG (Value.bool b44)))))))))
theorem e9 : denF Tryz.prog (GA Tryz.prog) Tryz.f9 [(VT.one CT.str)] (.seq .leaf (.seq .leaf (.seq (.seq .leaf (.cond (.seq (.r (sl Tryz.prog [(2, 4)])) .leaf) .leaf)) (.seq .leaf (.seq (.seq .leaf (.block (sl Tryz.prog []) (.loop (sl Tryz.prog [(5, 3), (6, 3)]) (.seq .leaf (.seq (.block (sl Tryz.prog [(5, 3)]) (.seq .leaf (.seq (.seq (.r (sl Tryz.prog [(60, 4)])) .leaf) (.seq .leaf (.seq (.seq (.r (sl Tryz.prog [(90, 4)])) .leaf) .leaf))))) .leaf))))) (.seq (.r (sl Tryz.prog [(2, 4)])) .leaf)))))) = t9 := by kernel_rfl
theorem c9 (x0 : ByteArray) {R : Ending → World → Prop} {w : World} (h : t9 x0 R w) : Calls Tryz.prog 9 #[.string x0] w R :=
  lift mixed Tryz.func9 e9 rfl ((x0, ()), ()) R w h

/-- pandectlaw06.awake -/
def t18 : G :=
  callG Tryz.prog 19 #[(Value.string (ByteArray.mk #[108, 101, 116, 32, 120, 61, 49, 32, 45, 45, 32, 97]))] [(VT.one CT.slice), (VT.agg [(CT.int IntKind.i64), (CT.int IntKind.i64)])]
    (fun (l0 : Sl) => fun (n1 : Int) => fun (n2 : Int) => newG (Obj.cells #[(Value.int IntKind.i64 (0 : Int)), (Value.int IntKind.i64 (0 : Int))] 27 (Prod.mk 0 0))
      (fun (m3 : Nat) => stG (Addr.mk m3 0 Option.none) (Value.int IntKind.i64 n1)
        (stG (Addr.mk m3 1 Option.none) (Value.int IntKind.i64 n2)
          (callG Tryz.prog 19 #[(Value.string (ByteArray.mk #[49, 46, 50]))] [(VT.one CT.slice), (VT.agg [(CT.int IntKind.i64), (CT.int IntKind.i64)])]
            (fun (_ : Sl) => fun (n5 : Int) => fun (n6 : Int) => newG (Obj.cells #[(Value.int IntKind.i64 (0 : Int)), (Value.int IntKind.i64 (0 : Int))] 27 (Prod.mk 0 0))
              (fun (m7 : Nat) => stG (Addr.mk m7 0 Option.none) (Value.int IntKind.i64 n5)
                (stG (Addr.mk m7 1 Option.none) (Value.int IntKind.i64 n6)
                  (newG (Obj.cells #[(Value.int IntKind.i64 (4 : Int)), (Value.string (ByteArray.mk #[97, 34, 98])), (Value.int IntKind.i64 (0 : Int))] 32 (Prod.mk 0 0))
                    (fun (m8 : Nat) => callG Tryz.prog 22 #[(Value.slice (Option.some (Addr.mk m8 0 Option.none)) 1 1)] [(VT.one CT.str), (VT.one (CT.int IntKind.i64))]
                      (fun (s9 : ByteArray) => fun (n10 : Int) => newG (Obj.cells (#[(Value.int IntKind.i64 (5 : Int)), (Value.string (ByteArray.mk #[108, 101, 116])), (Value.int IntKind.i64 (0 : Int)), (Value.int IntKind.i64 (1 : Int)), (Value.string (ByteArray.mk #[120])), (Value.int IntKind.i64 (4 : Int)), (Value.int IntKind.i64 (6 : Int)), (Value.string (ByteArray.mk #[61])), (Value.int IntKind.i64 (5 : Int)), (Value.int IntKind.i64 (3 : Int)), (Value.string (ByteArray.mk #[49])), (Value.int IntKind.i64 (6 : Int)), (Value.int IntKind.i64 (0 : Int)), (Value.string (ByteArray.mk #[])), (Value.int IntKind.i64 (12 : Int))]) 32 (Prod.mk 0 0))
                        (fun (m11 : Nat) => joinG [(VT.one CT.bool)]
                          (fun k12 => ldG (CT.int IntKind.i64) (Addr.mk m3 0 Option.none)
                            (fun (n13 : Int) => ldG (CT.int IntKind.i64) (Addr.mk m3 1 Option.none)
                              (fun (n14 : Int) => opG Tryz.prog (eqSem BinOp.eql 27 (Operand.tmp 28) (Operand.tmp 29) (Value.agg #[(Value.int IntKind.i64 n13), (Value.int IntKind.i64 n14)]) (Value.agg #[(Value.int IntKind.i64 (0 : Int)), (Value.int IntKind.i64 (0 : Int))])) (VT.one CT.bool)
                                (fun (b15 : Bool) => iteG b15
                                  (callG Tryz.prog 21 #[(Value.slice (Sl.a l0) (Sl.n l0) (Sl.c l0)), (Value.slice (Option.some (Addr.mk m11 0 Option.none)) 5 5), (Value.bool true)] [(VT.one CT.bool)]
                                    (fun (b16 : Bool) => iteG b16
                                      (ldG (CT.int IntKind.i64) (Addr.mk m7 0 Option.none)
                                        (fun (n17 : Int) => ldG (CT.int IntKind.i64) (Addr.mk m7 1 Option.none)
                                          (fun (n18 : Int) => opG Tryz.prog (eqSem BinOp.eql 27 (Operand.tmp 37) (Operand.tmp 38) (Value.agg #[(Value.int IntKind.i64 n17), (Value.int IntKind.i64 n18)]) (Value.agg #[(Value.int IntKind.i64 (60 : Int)), (Value.int IntKind.i64 (0 : Int))])) (VT.one CT.bool)
                                            (fun (b19 : Bool) => iteG b19
                                              (iteG (ByteArray.toList s9 == ByteArray.toList (ByteArray.mk #[(34 : UInt8), (97 : UInt8), (92 : UInt8), (34 : UInt8), (98 : UInt8), (34 : UInt8)]))
                                                (k12 (n10 == (0 : Int)))
                                                (k12 false))
                                              (k12 false)))))
                                      (k12 false)))
                                  (k12 false)))))
                          (fun (b20 : Bool) => retG (Value.bool b20)))))))))))))
theorem e18 : denF Tryz.prog (GA Tryz.prog) Tryz.f18 [] (.seq .leaf (.seq .leaf (.seq .leaf (.seq .leaf (.seq .leaf (.seq (.r (sl Tryz.prog [(0, 4)])) .leaf)))))) = t18 := by kernel_rfl
theorem c18 {R : Ending → World → Prop} {w : World} (h : t18 R w) : Calls Tryz.prog 18 #[] w R :=
  lift mixed Tryz.func18 e18 rfl (()) R w h

end Go.Proofs.YthnfcbjfmghomaaGreatDoor
