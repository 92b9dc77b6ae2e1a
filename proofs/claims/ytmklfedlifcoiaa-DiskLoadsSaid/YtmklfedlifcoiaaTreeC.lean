/- The functions as trees, each with its contract (by program). No condition. -/
import Derived.Test.YtmklfedlifcoiaaTreeA
import Derived.Test.YtmklfedlifcoiaaProg
set_option maxRecDepth 100000
namespace Go.Proofs.Ytmklfedlifcoiaa
open Go.Lift


/-- pandectlaw19.DiskArmed -/
def t3 : Sl → Int → Sl → Int → Int → G :=
  fun (l0 : Sl) => fun (n1 : Int) => fun (l2 : Sl) => fun (n3 : Int) => fun (n4 : Int) => newG (Obj.cells #[(Value.slice (Sl.a l2) (Sl.n l2) (Sl.c l2)), (Value.int IntKind.i64 n3), (Value.int IntKind.i64 n4)] 25 (Prod.mk 0 0))
    (fun (m5 : Nat) => joinG [(VT.one CT.bool)]
      (fun k6 => iteG (Decidable.decide ((↑(Sl.n l0) : Int) > (60 : Int)))
        (iteG true
          (k6 true)
          (k6 (Decidable.decide (n1 > (200 : Int)))))
        (iteG (Decidable.decide (n1 < (1 : Int)))
          (k6 true)
          (k6 (Decidable.decide (n1 > (200 : Int))))))
      (fun (b7 : Bool) => iteG b7
        (callG Try.prog 9 #[] [(VT.one CT.bool)]
          (fun (b8 : Bool) => retG (Value.bool b8)))
        (callG Try.prog 10 #[(Value.int IntKind.i64 (9 : Int))] [(VT.one CT.ptr), (VT.one (CT.int IntKind.i64))]
          (fun (p9 : Option Addr) => fun (n10 : Int) => callG Try.prog 10 #[(Value.int IntKind.i64 (9 : Int))] [(VT.one CT.ptr), (VT.one (CT.int IntKind.i64))]
            (fun (p11 : Option Addr) => fun (n12 : Int) => joinG [(VT.one CT.bool)]
              (fun k13 => iteG (n10 != (0 : Int))
                (iteG true
                  (iteG true
                    (iteG true
                      (k13 true)
                      (ldG CT.slice (Addr.mk m5 0 Option.none)
                        (fun (l14 : Sl) => ldG (CT.int IntKind.i64) (Addr.mk m5 1 Option.none)
                          (fun (n15 : Int) => ldG (CT.int IntKind.i64) (Addr.mk m5 2 Option.none)
                            (fun (n16 : Int) => callG Try.prog 11 #[(Value.pointer p9), (Value.int IntKind.i64 n1), (Value.agg #[(Value.slice (Sl.a l14) (Sl.n l14) (Sl.c l14)), (Value.int IntKind.i64 n15), (Value.int IntKind.i64 n16)])] [(VT.one (CT.int IntKind.i64))]
                              (fun (n17 : Int) => k13 (n17 != (0 : Int))))))))
                    (iteG (Option.isNone p11)
                      (k13 true)
                      (ldG CT.slice (Addr.mk m5 0 Option.none)
                        (fun (l18 : Sl) => ldG (CT.int IntKind.i64) (Addr.mk m5 1 Option.none)
                          (fun (n19 : Int) => ldG (CT.int IntKind.i64) (Addr.mk m5 2 Option.none)
                            (fun (n20 : Int) => callG Try.prog 11 #[(Value.pointer p9), (Value.int IntKind.i64 n1), (Value.agg #[(Value.slice (Sl.a l18) (Sl.n l18) (Sl.c l18)), (Value.int IntKind.i64 n19), (Value.int IntKind.i64 n20)])] [(VT.one (CT.int IntKind.i64))]
                              (fun (n21 : Int) => k13 (n21 != (0 : Int)))))))))
                  (iteG (Option.isNone p9)
                    (iteG true
                      (k13 true)
                      (ldG CT.slice (Addr.mk m5 0 Option.none)
                        (fun (l22 : Sl) => ldG (CT.int IntKind.i64) (Addr.mk m5 1 Option.none)
                          (fun (n23 : Int) => ldG (CT.int IntKind.i64) (Addr.mk m5 2 Option.none)
                            (fun (n24 : Int) => callG Try.prog 11 #[(Value.pointer p9), (Value.int IntKind.i64 n1), (Value.agg #[(Value.slice (Sl.a l22) (Sl.n l22) (Sl.c l22)), (Value.int IntKind.i64 n23), (Value.int IntKind.i64 n24)])] [(VT.one (CT.int IntKind.i64))]
                              (fun (n25 : Int) => k13 (n25 != (0 : Int))))))))
                    (iteG (Option.isNone p11)
                      (k13 true)
                      (ldG CT.slice (Addr.mk m5 0 Option.none)
                        (fun (l26 : Sl) => ldG (CT.int IntKind.i64) (Addr.mk m5 1 Option.none)
                          (fun (n27 : Int) => ldG (CT.int IntKind.i64) (Addr.mk m5 2 Option.none)
                            (fun (n28 : Int) => callG Try.prog 11 #[(Value.pointer p9), (Value.int IntKind.i64 n1), (Value.agg #[(Value.slice (Sl.a l26) (Sl.n l26) (Sl.c l26)), (Value.int IntKind.i64 n27), (Value.int IntKind.i64 n28)])] [(VT.one (CT.int IntKind.i64))]
                              (fun (n29 : Int) => k13 (n29 != (0 : Int))))))))))
                (iteG (n12 != (0 : Int))
                  (iteG true
                    (iteG true
                      (k13 true)
                      (ldG CT.slice (Addr.mk m5 0 Option.none)
                        (fun (l30 : Sl) => ldG (CT.int IntKind.i64) (Addr.mk m5 1 Option.none)
                          (fun (n31 : Int) => ldG (CT.int IntKind.i64) (Addr.mk m5 2 Option.none)
                            (fun (n32 : Int) => callG Try.prog 11 #[(Value.pointer p9), (Value.int IntKind.i64 n1), (Value.agg #[(Value.slice (Sl.a l30) (Sl.n l30) (Sl.c l30)), (Value.int IntKind.i64 n31), (Value.int IntKind.i64 n32)])] [(VT.one (CT.int IntKind.i64))]
                              (fun (n33 : Int) => k13 (n33 != (0 : Int))))))))
                    (iteG (Option.isNone p11)
                      (k13 true)
                      (ldG CT.slice (Addr.mk m5 0 Option.none)
                        (fun (l34 : Sl) => ldG (CT.int IntKind.i64) (Addr.mk m5 1 Option.none)
                          (fun (n35 : Int) => ldG (CT.int IntKind.i64) (Addr.mk m5 2 Option.none)
                            (fun (n36 : Int) => callG Try.prog 11 #[(Value.pointer p9), (Value.int IntKind.i64 n1), (Value.agg #[(Value.slice (Sl.a l34) (Sl.n l34) (Sl.c l34)), (Value.int IntKind.i64 n35), (Value.int IntKind.i64 n36)])] [(VT.one (CT.int IntKind.i64))]
                              (fun (n37 : Int) => k13 (n37 != (0 : Int)))))))))
                  (iteG (Option.isNone p9)
                    (iteG true
                      (k13 true)
                      (ldG CT.slice (Addr.mk m5 0 Option.none)
                        (fun (l38 : Sl) => ldG (CT.int IntKind.i64) (Addr.mk m5 1 Option.none)
                          (fun (n39 : Int) => ldG (CT.int IntKind.i64) (Addr.mk m5 2 Option.none)
                            (fun (n40 : Int) => callG Try.prog 11 #[(Value.pointer p9), (Value.int IntKind.i64 n1), (Value.agg #[(Value.slice (Sl.a l38) (Sl.n l38) (Sl.c l38)), (Value.int IntKind.i64 n39), (Value.int IntKind.i64 n40)])] [(VT.one (CT.int IntKind.i64))]
                              (fun (n41 : Int) => k13 (n41 != (0 : Int))))))))
                    (iteG (Option.isNone p11)
                      (k13 true)
                      (ldG CT.slice (Addr.mk m5 0 Option.none)
                        (fun (l42 : Sl) => ldG (CT.int IntKind.i64) (Addr.mk m5 1 Option.none)
                          (fun (n43 : Int) => ldG (CT.int IntKind.i64) (Addr.mk m5 2 Option.none)
                            (fun (n44 : Int) => callG Try.prog 11 #[(Value.pointer p9), (Value.int IntKind.i64 n1), (Value.agg #[(Value.slice (Sl.a l42) (Sl.n l42) (Sl.c l42)), (Value.int IntKind.i64 n43), (Value.int IntKind.i64 n44)])] [(VT.one (CT.int IntKind.i64))]
                              (fun (n45 : Int) => k13 (n45 != (0 : Int)))))))))))
              (fun (b46 : Bool) => iteG b46
                (retG (Value.bool false))
                (joinG []
                  (fun k47 => loopG [(VT.one (CT.int IntKind.i64)), (VT.one (CT.int IntKind.i64))]
                    (fun k48 => fun (n49 : Int) => fun (n50 : Int) => joinG [(VT.one CT.bool)]
                      (fun k51 => iteG (Decidable.decide (n50 < (↑(Sl.n l0) : Int)))
                        (k51 (Decidable.decide (n49 < n1)))
                        (k51 false))
                      (fun (b52 : Bool) => iteG b52
                        (joinG [(VT.one (CT.int IntKind.i64))]
                          (fun k53 => drewG
                            (idxG (Sl.a l0) (Sl.n l0) n50 2
                              (fun (a54 : Addr) => ldG (CT.int IntKind.i64) (Addr.add a54 0)
                                (fun (n55 : Int) => idxG (Sl.a l0) (Sl.n l0) n50 2
                                  (fun (a56 : Addr) => ldG CT.str (Addr.add a56 1)
                                    (fun (s57 : ByteArray) => idxG (Sl.a l0) (Sl.n l0) n50 2
                                      (fun (a58 : Addr) => ldG (CT.int IntKind.i64) (Addr.add a58 0)
                                        (fun (n59 : Int) => idxG (Sl.a l0) (Sl.n l0) n50 2
                                          (fun (a60 : Addr) => ldG CT.str (Addr.add a60 1)
                                            (fun (s61 : ByteArray) => callG Try.prog 13 #[(Value.string s57)] [(VT.one CT.str)]
                                              (fun (s62 : ByteArray) => keepG [(Prod.mk (Addr.add a60 1) [(Value.string s61)]), (Prod.mk (Addr.add a58 0) [(Value.int IntKind.i64 n59)]), (Prod.mk (Addr.add a54 0) [(Value.int IntKind.i64 n55)])]
                                                (callG Try.prog 12 #[(Value.pointer p9), (Value.int IntKind.i64 n55), (Value.string s62)] [(VT.one (CT.int IntKind.i64))]
                                                  (fun (n63 : Int) => keepG [(Prod.mk (Addr.add a60 1) [(Value.string s61)]), (Prod.mk (Addr.add a58 0) [(Value.int IntKind.i64 n59)])]
                                                    (callG Try.prog 13 #[(Value.string s61)] [(VT.one CT.str)]
                                                      (fun (s64 : ByteArray) => keepG [(Prod.mk (Addr.add a58 0) [(Value.int IntKind.i64 n59)]), (Prod.mk (Addr.add a56 1) [(Value.string s57)])]
                                                        (callG Try.prog 12 #[(Value.pointer p11), (Value.int IntKind.i64 n59), (Value.string s64)] [(VT.one (CT.int IntKind.i64))]
                                                          (fun (n65 : Int) => keepG [(Prod.mk (Addr.add a56 1) [(Value.string s57)]), (Prod.mk (Addr.add a54 0) [(Value.int IntKind.i64 n55)])]
                                                            (joinG [(VT.one (CT.int IntKind.i64))]
                                                              (fun k66 => iteG (n65 == (0 : Int))
                                                                (k66 (IntKind.wrap IntKind.i64 (n49 + (1 : Int))))
                                                                (k66 n49))
                                                              (fun (n67 : Int) => joinG [(VT.one CT.bool)]
                                                                (fun k68 => iteG (n67 == n1)
                                                                  (k68 (n65 == (0 : Int)))
                                                                  (k68 false))
                                                                (fun (b69 : Bool) => iteG b69
                                                                  (joinG [(VT.one CT.bool)]
                                                                    (fun k70 => iteG (n63 == (190 : Int))
                                                                      (ldG CT.slice (Addr.mk m5 0 Option.none)
                                                                        (fun (l71 : Sl) => ldG (CT.int IntKind.i64) (Addr.mk m5 1 Option.none)
                                                                          (fun (n72 : Int) => ldG (CT.int IntKind.i64) (Addr.mk m5 2 Option.none)
                                                                            (fun (n73 : Int) => callG Try.prog 14 #[(Value.pointer p11), (Value.agg #[(Value.slice (Sl.a l71) (Sl.n l71) (Sl.c l71)), (Value.int IntKind.i64 n72), (Value.int IntKind.i64 n73)])] [(VT.one (CT.int IntKind.i64))]
                                                                              (fun (n74 : Int) => iteG (n74 == (0 : Int))
                                                                                (callG Try.prog 15 #[(Value.pointer p9)] [(VT.one CT.bool)]
                                                                                  (fun (b75 : Bool) => iteG b75
                                                                                    (callG Try.prog 16 #[(Value.pointer p9)] [(VT.one CT.str)]
                                                                                      (fun (s76 : ByteArray) => callG Try.prog 16 #[(Value.pointer p11)] [(VT.one CT.str)]
                                                                                        (fun (s77 : ByteArray) => iteG (ByteArray.toList s76 == ByteArray.toList s77)
                                                                                          (callG Try.prog 17 #[(Value.pointer p9)] [(VT.one (CT.int IntKind.i64))]
                                                                                            (fun (n78 : Int) => callG Try.prog 17 #[(Value.pointer p11)] [(VT.one (CT.int IntKind.i64))]
                                                                                              (fun (n79 : Int) => iteG (n78 == n79)
                                                                                                (callG Try.prog 9 #[] [(VT.one CT.bool)]
                                                                                                  (fun (b80 : Bool) => k70 b80))
                                                                                                (k70 false))))
                                                                                          (iteG false
                                                                                            (callG Try.prog 9 #[] [(VT.one CT.bool)]
                                                                                              (fun (b81 : Bool) => k70 b81))
                                                                                            (k70 false)))))
                                                                                    (iteG false
                                                                                      (callG Try.prog 17 #[(Value.pointer p9)] [(VT.one (CT.int IntKind.i64))]
                                                                                        (fun (n82 : Int) => callG Try.prog 17 #[(Value.pointer p11)] [(VT.one (CT.int IntKind.i64))]
                                                                                          (fun (n83 : Int) => iteG (n82 == n83)
                                                                                            (callG Try.prog 9 #[] [(VT.one CT.bool)]
                                                                                              (fun (b84 : Bool) => k70 b84))
                                                                                            (k70 false))))
                                                                                      (iteG false
                                                                                        (callG Try.prog 9 #[] [(VT.one CT.bool)]
                                                                                          (fun (b85 : Bool) => k70 b85))
                                                                                        (k70 false)))))
                                                                                (iteG false
                                                                                  (callG Try.prog 16 #[(Value.pointer p9)] [(VT.one CT.str)]
                                                                                    (fun (s86 : ByteArray) => callG Try.prog 16 #[(Value.pointer p11)] [(VT.one CT.str)]
                                                                                      (fun (s87 : ByteArray) => iteG (ByteArray.toList s86 == ByteArray.toList s87)
                                                                                        (callG Try.prog 17 #[(Value.pointer p9)] [(VT.one (CT.int IntKind.i64))]
                                                                                          (fun (n88 : Int) => callG Try.prog 17 #[(Value.pointer p11)] [(VT.one (CT.int IntKind.i64))]
                                                                                            (fun (n89 : Int) => iteG (n88 == n89)
                                                                                              (callG Try.prog 9 #[] [(VT.one CT.bool)]
                                                                                                (fun (b90 : Bool) => k70 b90))
                                                                                              (k70 false))))
                                                                                        (iteG false
                                                                                          (callG Try.prog 9 #[] [(VT.one CT.bool)]
                                                                                            (fun (b91 : Bool) => k70 b91))
                                                                                          (k70 false)))))
                                                                                  (iteG false
                                                                                    (callG Try.prog 17 #[(Value.pointer p9)] [(VT.one (CT.int IntKind.i64))]
                                                                                      (fun (n92 : Int) => callG Try.prog 17 #[(Value.pointer p11)] [(VT.one (CT.int IntKind.i64))]
                                                                                        (fun (n93 : Int) => iteG (n92 == n93)
                                                                                          (callG Try.prog 9 #[] [(VT.one CT.bool)]
                                                                                            (fun (b94 : Bool) => k70 b94))
                                                                                          (k70 false))))
                                                                                    (iteG false
                                                                                      (callG Try.prog 9 #[] [(VT.one CT.bool)]
                                                                                        (fun (b95 : Bool) => k70 b95))
                                                                                      (k70 false)))))))))
                                                                      (iteG false
                                                                        (callG Try.prog 15 #[(Value.pointer p9)] [(VT.one CT.bool)]
                                                                          (fun (b96 : Bool) => iteG b96
                                                                            (callG Try.prog 16 #[(Value.pointer p9)] [(VT.one CT.str)]
                                                                              (fun (s97 : ByteArray) => callG Try.prog 16 #[(Value.pointer p11)] [(VT.one CT.str)]
                                                                                (fun (s98 : ByteArray) => iteG (ByteArray.toList s97 == ByteArray.toList s98)
                                                                                  (callG Try.prog 17 #[(Value.pointer p9)] [(VT.one (CT.int IntKind.i64))]
                                                                                    (fun (n99 : Int) => callG Try.prog 17 #[(Value.pointer p11)] [(VT.one (CT.int IntKind.i64))]
                                                                                      (fun (n100 : Int) => iteG (n99 == n100)
                                                                                        (callG Try.prog 9 #[] [(VT.one CT.bool)]
                                                                                          (fun (b101 : Bool) => k70 b101))
                                                                                        (k70 false))))
                                                                                  (iteG false
                                                                                    (callG Try.prog 9 #[] [(VT.one CT.bool)]
                                                                                      (fun (b102 : Bool) => k70 b102))
                                                                                    (k70 false)))))
                                                                            (iteG false
                                                                              (callG Try.prog 17 #[(Value.pointer p9)] [(VT.one (CT.int IntKind.i64))]
                                                                                (fun (n103 : Int) => callG Try.prog 17 #[(Value.pointer p11)] [(VT.one (CT.int IntKind.i64))]
                                                                                  (fun (n104 : Int) => iteG (n103 == n104)
                                                                                    (callG Try.prog 9 #[] [(VT.one CT.bool)]
                                                                                      (fun (b105 : Bool) => k70 b105))
                                                                                    (k70 false))))
                                                                              (iteG false
                                                                                (callG Try.prog 9 #[] [(VT.one CT.bool)]
                                                                                  (fun (b106 : Bool) => k70 b106))
                                                                                (k70 false)))))
                                                                        (iteG false
                                                                          (callG Try.prog 16 #[(Value.pointer p9)] [(VT.one CT.str)]
                                                                            (fun (s107 : ByteArray) => callG Try.prog 16 #[(Value.pointer p11)] [(VT.one CT.str)]
                                                                              (fun (s108 : ByteArray) => iteG (ByteArray.toList s107 == ByteArray.toList s108)
                                                                                (callG Try.prog 17 #[(Value.pointer p9)] [(VT.one (CT.int IntKind.i64))]
                                                                                  (fun (n109 : Int) => callG Try.prog 17 #[(Value.pointer p11)] [(VT.one (CT.int IntKind.i64))]
                                                                                    (fun (n110 : Int) => iteG (n109 == n110)
                                                                                      (callG Try.prog 9 #[] [(VT.one CT.bool)]
                                                                                        (fun (b111 : Bool) => k70 b111))
                                                                                      (k70 false))))
                                                                                (iteG false
                                                                                  (callG Try.prog 9 #[] [(VT.one CT.bool)]
                                                                                    (fun (b112 : Bool) => k70 b112))
                                                                                  (k70 false)))))
                                                                          (iteG false
                                                                            (callG Try.prog 17 #[(Value.pointer p9)] [(VT.one (CT.int IntKind.i64))]
                                                                              (fun (n113 : Int) => callG Try.prog 17 #[(Value.pointer p11)] [(VT.one (CT.int IntKind.i64))]
                                                                                (fun (n114 : Int) => iteG (n113 == n114)
                                                                                  (callG Try.prog 9 #[] [(VT.one CT.bool)]
                                                                                    (fun (b115 : Bool) => k70 b115))
                                                                                  (k70 false))))
                                                                            (iteG false
                                                                              (callG Try.prog 9 #[] [(VT.one CT.bool)]
                                                                                (fun (b116 : Bool) => k70 b116))
                                                                              (k70 false))))))
                                                                    (fun (b117 : Bool) => retG (Value.bool b117)))
                                                                  (iteG (n63 != n65)
                                                                    (retG (Value.bool false))
                                                                    (k53 n67))))))))))))))))))))))
                          (fun (n118 : Int) => k48 n118 (IntKind.wrap IntKind.i64 (n50 + (1 : Int)))))
                        (k47))) (0 : Int) (0 : Int))
                  (joinG [(VT.one CT.bool)]
                    (fun k119 => callG Try.prog 15 #[(Value.pointer p9)] [(VT.one CT.bool)]
                      (fun (b120 : Bool) => iteG (!b120)
                        (callG Try.prog 16 #[(Value.pointer p9)] [(VT.one CT.str)]
                          (fun (s121 : ByteArray) => callG Try.prog 16 #[(Value.pointer p11)] [(VT.one CT.str)]
                            (fun (s122 : ByteArray) => iteG (ByteArray.toList s121 == ByteArray.toList s122)
                              (callG Try.prog 17 #[(Value.pointer p9)] [(VT.one (CT.int IntKind.i64))]
                                (fun (n123 : Int) => callG Try.prog 17 #[(Value.pointer p11)] [(VT.one (CT.int IntKind.i64))]
                                  (fun (n124 : Int) => iteG (n123 == n124)
                                    (callG Try.prog 9 #[] [(VT.one CT.bool)]
                                      (fun (b125 : Bool) => k119 b125))
                                    (k119 false))))
                              (iteG false
                                (callG Try.prog 9 #[] [(VT.one CT.bool)]
                                  (fun (b126 : Bool) => k119 b126))
                                (k119 false)))))
                        (iteG false
                          (callG Try.prog 17 #[(Value.pointer p9)] [(VT.one (CT.int IntKind.i64))]
                            (fun (n127 : Int) => callG Try.prog 17 #[(Value.pointer p11)] [(VT.one (CT.int IntKind.i64))]
                              (fun (n128 : Int) => iteG (n127 == n128)
                                (callG Try.prog 9 #[] [(VT.one CT.bool)]
                                  (fun (b129 : Bool) => k119 b129))
                                (k119 false))))
                          (iteG false
                            (callG Try.prog 9 #[] [(VT.one CT.bool)]
                              (fun (b130 : Bool) => k119 b130))
                            (k119 false)))))
                    (fun (b131 : Bool) => retG (Value.bool b131))))))))))
theorem e3 : denF Try.prog (GA Try.prog) Try.f3 [(VT.one CT.slice), (VT.one (CT.int IntKind.i64)), (VT.agg [CT.slice, (CT.int IntKind.i64), (CT.int IntKind.i64)])] (.seq .leaf (.seq (.seq (.r (sl Try.prog [(25, 4)])) .leaf) (.seq .leaf (.seq .leaf (.seq (.seq (.r (sl Try.prog [(55, 4)])) .leaf) (.seq .leaf (.seq (.seq .leaf (.block (sl Try.prog []) (.loop (sl Try.prog [(11, 3), (12, 3)]) (.seq (.seq (.r (sl Try.prog [(64, 4)])) .leaf) (.seq (.block (sl Try.prog [(11, 3)]) (.seq .leaf (.seq (.seq .leaf (.condj (sl Try.prog [(11, 3)]) .leaf .leaf)) (.seq (.seq (.r (sl Try.prog [(103, 4)])) (.cond (.seq (.r (sl Try.prog [(6, 4)])) .leaf) .leaf)) .leaf)))) .leaf))))) (.seq (.r (sl Try.prog [(6, 4)])) .leaf)))))))) = t3 := by kernel_rfl
theorem c3 (x0 : Sl) (x1 : Int) (x2 : Sl) (x3 : Int) (x4 : Int) {R : Ending → World → Prop} {w : World} (h : t3 x0 x1 x2 x3 x4 R w) : Calls Try.prog 3 #[.slice x0.a x0.n x0.c, .int .i64 x1, .agg #[.slice x2.a x2.n x2.c, .int .i64 x3, .int .i64 x4]] w R :=
  lift mixed Try.func3 e3 rfl ((x0, ()), (x1, ()), (x2, x3, x4, ()), ()) R w h

/-- pandectlaw19.DiskFlushes -/
def t4 : Sl → Sl → Sl → Int → Int → G :=
  fun (l0 : Sl) => fun (l1 : Sl) => fun (l2 : Sl) => fun (n3 : Int) => fun (n4 : Int) => newG (Obj.cells #[(Value.slice (Sl.a l2) (Sl.n l2) (Sl.c l2)), (Value.int IntKind.i64 n3), (Value.int IntKind.i64 n4)] 25 (Prod.mk 0 0))
    (fun (m5 : Nat) => joinG [(VT.one CT.bool)]
      (fun k6 => iteG (Decidable.decide ((↑(Sl.n l0) : Int) > (100 : Int)))
        (k6 true)
        (k6 (Decidable.decide ((↑(Sl.n l1) : Int) > (100 : Int)))))
      (fun (b7 : Bool) => iteG b7
        (callG Try.prog 9 #[] [(VT.one CT.bool)]
          (fun (b8 : Bool) => retG (Value.bool b8)))
        (callG Try.prog 10 #[(Value.int IntKind.i64 (9 : Int))] [(VT.one CT.ptr), (VT.one (CT.int IntKind.i64))]
          (fun (p9 : Option Addr) => fun (n10 : Int) => joinG [(VT.one CT.bool)]
            (fun k11 => iteG (n10 != (0 : Int))
              (iteG true
                (iteG true
                  (k11 true)
                  (callG Try.prog 19 #[(Value.pointer p9)] [(VT.one (CT.int IntKind.i64))]
                    (fun (n12 : Int) => k11 (n12 != (0 : Int)))))
                (callG Try.prog 18 #[(Value.pointer p9), (Value.slice (Sl.a l0) (Sl.n l0) (Sl.c l0))] [(VT.one CT.bool)]
                  (fun (b13 : Bool) => iteG (!b13)
                    (k11 true)
                    (callG Try.prog 19 #[(Value.pointer p9)] [(VT.one (CT.int IntKind.i64))]
                      (fun (n14 : Int) => k11 (n14 != (0 : Int)))))))
              (iteG (Option.isNone p9)
                (iteG true
                  (k11 true)
                  (callG Try.prog 19 #[(Value.pointer p9)] [(VT.one (CT.int IntKind.i64))]
                    (fun (n15 : Int) => k11 (n15 != (0 : Int)))))
                (callG Try.prog 18 #[(Value.pointer p9), (Value.slice (Sl.a l0) (Sl.n l0) (Sl.c l0))] [(VT.one CT.bool)]
                  (fun (b16 : Bool) => iteG (!b16)
                    (k11 true)
                    (callG Try.prog 19 #[(Value.pointer p9)] [(VT.one (CT.int IntKind.i64))]
                      (fun (n17 : Int) => k11 (n17 != (0 : Int))))))))
            (fun (b18 : Bool) => iteG b18
              (retG (Value.bool false))
              (callG Try.prog 16 #[(Value.pointer p9)] [(VT.one CT.str)]
                (fun (s19 : ByteArray) => joinG [(VT.one CT.bool)]
                  (fun k20 => callG Try.prog 18 #[(Value.pointer p9), (Value.slice (Sl.a l1) (Sl.n l1) (Sl.c l1))] [(VT.one CT.bool)]
                    (fun (b21 : Bool) => iteG (!b21)
                      (iteG true
                        (iteG true
                          (k20 true)
                          (callG Try.prog 16 #[(Value.pointer p9)] [(VT.one CT.str)]
                            (fun (s22 : ByteArray) => k20 ((↑(ByteArray.size s22) : Int) != (↑(ByteArray.size s19) : Int)))))
                        (callG Try.prog 20 #[(Value.pointer p9)] [(VT.one (CT.int IntKind.i64))]
                          (fun (n23 : Int) => iteG (n23 != (0 : Int))
                            (k20 true)
                            (callG Try.prog 16 #[(Value.pointer p9)] [(VT.one CT.str)]
                              (fun (s24 : ByteArray) => k20 ((↑(ByteArray.size s24) : Int) != (↑(ByteArray.size s19) : Int)))))))
                      (ldG CT.slice (Addr.mk m5 0 Option.none)
                        (fun (l25 : Sl) => ldG (CT.int IntKind.i64) (Addr.mk m5 1 Option.none)
                          (fun (n26 : Int) => ldG (CT.int IntKind.i64) (Addr.mk m5 2 Option.none)
                            (fun (n27 : Int) => callG Try.prog 14 #[(Value.pointer p9), (Value.agg #[(Value.slice (Sl.a l25) (Sl.n l25) (Sl.c l25)), (Value.int IntKind.i64 n26), (Value.int IntKind.i64 n27)])] [(VT.one (CT.int IntKind.i64))]
                              (fun (n28 : Int) => iteG (n28 != (0 : Int))
                                (iteG true
                                  (k20 true)
                                  (callG Try.prog 16 #[(Value.pointer p9)] [(VT.one CT.str)]
                                    (fun (s29 : ByteArray) => k20 ((↑(ByteArray.size s29) : Int) != (↑(ByteArray.size s19) : Int)))))
                                (callG Try.prog 20 #[(Value.pointer p9)] [(VT.one (CT.int IntKind.i64))]
                                  (fun (n30 : Int) => iteG (n30 != (0 : Int))
                                    (k20 true)
                                    (callG Try.prog 16 #[(Value.pointer p9)] [(VT.one CT.str)]
                                      (fun (s31 : ByteArray) => k20 ((↑(ByteArray.size s31) : Int) != (↑(ByteArray.size s19) : Int)))))))))))))
                  (fun (b32 : Bool) => iteG b32
                    (retG (Value.bool false))
                    (joinG []
                      (fun k33 => loopG [(VT.one (CT.int IntKind.i64))]
                        (fun k34 => fun (n35 : Int) => iteG (Decidable.decide (n35 < (9 : Int)))
                          (joinG []
                            (fun k36 => callG Try.prog 16 #[(Value.pointer p9)] [(VT.one CT.str)]
                              (fun (s37 : ByteArray) => subG s37 (IntKind.wrap IntKind.i64 ((64 : Int) * n35)) (IntKind.wrap IntKind.i64 (IntKind.wrap IntKind.i64 ((64 : Int) * n35) + (64 : Int)))
                                (fun (s38 : ByteArray) => subG s19 (IntKind.wrap IntKind.i64 ((64 : Int) * n35)) (IntKind.wrap IntKind.i64 (IntKind.wrap IntKind.i64 ((64 : Int) * n35) + (64 : Int)))
                                  (fun (s39 : ByteArray) => assumeG (Value.oneCell' (EV.val (EV.v (Value.string s39))))
                                    (newG (Obj.cells #[(Value.string s39)] 9 (Prod.mk 0 0))
                                      (fun (m40 : Nat) => joinG [(VT.one CT.slice)]
                                        (fun k41 => loopG [(VT.one CT.slice), (VT.one (CT.int IntKind.i64))]
                                          (fun k42 => fun (l43 : Sl) => fun (n44 : Int) => iteG (Decidable.decide (n44 < (↑(Sl.n l1) : Int)))
                                            (joinG [(VT.one CT.slice)]
                                              (fun k45 => idxG (Sl.a l1) (Sl.n l1) n44 2
                                                (fun (a46 : Addr) => ldG (CT.int IntKind.i64) (Addr.add a46 0)
                                                  (fun (n47 : Int) => joinG [(VT.one CT.slice)]
                                                    (fun k48 => iteG (n47 == n35)
                                                      (idxG (Sl.a l1) (Sl.n l1) n44 2
                                                        (fun (a49 : Addr) => ldG CT.str (Addr.add a49 1)
                                                          (fun (s50 : ByteArray) => callG Try.prog 13 #[(Value.string s50)] [(VT.one CT.str)]
                                                            (fun (s51 : ByteArray) => assumeG (Value.oneCell' (EV.val (EV.v (VT.val (VT.one CT.str) (s51, ())))))
                                                              (newG (Obj.cells #[(Value.string s51)] 9 (Prod.mk 0 0))
                                                                (fun (m52 : Nat) => opG Try.prog (Builtin.append_ #[42, 42] 42 #[(Value.slice (Sl.a l43) (Sl.n l43) (Sl.c l43)), (Value.slice (Option.some (Addr.mk m52 0 Option.none)) 1 1)]) (VT.one CT.slice)
                                                                  (fun (l53 : Sl) => k48 (Sl.mk (Sl.a l53) (Sl.n l53) (Sl.c l53)))))))))
                                                      (k48 (Sl.mk (Sl.a l43) (Sl.n l43) (Sl.c l43))))
                                                    (fun (l54 : Sl) => k45 (Sl.mk (Sl.a l54) (Sl.n l54) (Sl.c l54))))))
                                              (fun (l55 : Sl) => k42 (Sl.mk (Sl.a l55) (Sl.n l55) (Sl.c l55)) (IntKind.wrap IntKind.i64 (n44 + (1 : Int)))))
                                            (k41 (Sl.mk (Sl.a l43) (Sl.n l43) (Sl.c l43)))) (Sl.mk (Option.some (Addr.mk m40 0 Option.none)) 1 1) (0 : Int))
                                        (fun (l56 : Sl) => callG Try.prog 21 #[(Value.string s38), (Value.slice (Sl.a l56) (Sl.n l56) (Sl.c l56))] [(VT.one CT.bool)]
                                          (fun (b57 : Bool) => iteG (!b57)
                                            (retG (Value.bool false))
                                            (k36)))))))))
                            (k34 (IntKind.wrap IntKind.i64 (n35 + (1 : Int)))))
                          (k33)) (0 : Int))
                      (callG Try.prog 9 #[] [(VT.one CT.bool)]
                        (fun (b58 : Bool) => retG (Value.bool b58))))))))))))
theorem e4 : denF Try.prog (GA Try.prog) Try.f4 [(VT.one CT.slice), (VT.one CT.slice), (VT.agg [CT.slice, (CT.int IntKind.i64), (CT.int IntKind.i64)])] (.seq .leaf (.seq (.seq (.r (sl Try.prog [(21, 4)])) .leaf) (.seq .leaf (.seq (.seq (.r (sl Try.prog [(43, 4)])) .leaf) (.seq .leaf (.seq (.seq (.r (sl Try.prog [(68, 4)])) .leaf) (.seq (.seq .leaf (.block (sl Try.prog []) (.loop (sl Try.prog [(10, 3)]) (.seq .leaf (.seq (.block (sl Try.prog []) (.seq .leaf (.seq .leaf (.seq (.seq .leaf (.block (sl Try.prog [(12, 42)]) (.loop (sl Try.prog [(12, 42), (13, 3)]) (.seq .leaf (.seq (.block (sl Try.prog [(12, 42)]) (.seq .leaf (.condj (sl Try.prog [(12, 42)]) .leaf .leaf))) .leaf))))) .leaf)))) .leaf))))) .leaf))))))) = t4 := by kernel_rfl
theorem c4 (x0 : Sl) (x1 : Sl) (x2 : Sl) (x3 : Int) (x4 : Int) {R : Ending → World → Prop} {w : World} (h : t4 x0 x1 x2 x3 x4 R w) : Calls Try.prog 4 #[.slice x0.a x0.n x0.c, .slice x1.a x1.n x1.c, .agg #[.slice x2.a x2.n x2.c, .int .i64 x3, .int .i64 x4]] w R :=
  lift mixed Try.func4 e4 rfl ((x0, ()), (x1, ()), (x2, x3, x4, ()), ()) R w h

/-- pandectlaw19.DiskKeeps -/
def t5 : Sl → Sl → Int → G :=
  fun (l0 : Sl) => fun (l1 : Sl) => fun (n2 : Int) => joinG [(VT.one CT.bool)]
    (fun k3 => iteG (Decidable.decide ((↑(Sl.n l0) : Int) > (100 : Int)))
      (k3 true)
      (k3 (Decidable.decide ((↑(Sl.n l1) : Int) > (100 : Int)))))
    (fun (b4 : Bool) => iteG b4
      (callG Try.prog 9 #[] [(VT.one CT.bool)]
        (fun (b5 : Bool) => retG (Value.bool b5)))
      (joinG []
        (fun k6 => loopG [(VT.one (CT.int IntKind.i64))]
          (fun k7 => fun (n8 : Int) => iteG (Decidable.decide (n8 < (2 : Int)))
            (joinG []
              (fun k9 => callG Try.prog 10 #[(Value.int IntKind.i64 (9 : Int))] [(VT.one CT.ptr), (VT.one (CT.int IntKind.i64))]
                (fun (p10 : Option Addr) => fun (n11 : Int) => joinG [(VT.one CT.bool)]
                  (fun k12 => iteG (n11 != (0 : Int))
                    (iteG true
                      (iteG true
                        (k12 true)
                        (callG Try.prog 19 #[(Value.pointer p10)] [(VT.one (CT.int IntKind.i64))]
                          (fun (n13 : Int) => k12 (n13 != (0 : Int)))))
                      (callG Try.prog 18 #[(Value.pointer p10), (Value.slice (Sl.a l0) (Sl.n l0) (Sl.c l0))] [(VT.one CT.bool)]
                        (fun (b14 : Bool) => iteG (!b14)
                          (k12 true)
                          (callG Try.prog 19 #[(Value.pointer p10)] [(VT.one (CT.int IntKind.i64))]
                            (fun (n15 : Int) => k12 (n15 != (0 : Int)))))))
                    (iteG (Option.isNone p10)
                      (iteG true
                        (k12 true)
                        (callG Try.prog 19 #[(Value.pointer p10)] [(VT.one (CT.int IntKind.i64))]
                          (fun (n16 : Int) => k12 (n16 != (0 : Int)))))
                      (callG Try.prog 18 #[(Value.pointer p10), (Value.slice (Sl.a l0) (Sl.n l0) (Sl.c l0))] [(VT.one CT.bool)]
                        (fun (b17 : Bool) => iteG (!b17)
                          (k12 true)
                          (callG Try.prog 19 #[(Value.pointer p10)] [(VT.one (CT.int IntKind.i64))]
                            (fun (n18 : Int) => k12 (n18 != (0 : Int))))))))
                  (fun (b19 : Bool) => iteG b19
                    (retG (Value.bool false))
                    (callG Try.prog 16 #[(Value.pointer p10)] [(VT.one CT.str)]
                      (fun (s20 : ByteArray) => callG Try.prog 18 #[(Value.pointer p10), (Value.slice (Sl.a l1) (Sl.n l1) (Sl.c l1))] [(VT.one CT.bool)]
                        (fun (b21 : Bool) => iteG (!b21)
                          (retG (Value.bool false))
                          (newG (Obj.cells #[(Value.slice Option.none 0 0), (Value.int IntKind.i64 (0 : Int)), (Value.int IntKind.i64 (0 : Int))] 25 (Prod.mk 0 0))
                            (fun (m22 : Nat) => stG (Addr.mk m22 0 Option.none) (Value.slice Option.none 0 0)
                              (stG (Addr.mk m22 1 Option.none) (Value.int IntKind.i64 (if (0 : Int) < n2 then (0 : Int) else n2))
                                (stG (Addr.mk m22 2 Option.none) (Value.int IntKind.i64 (0 : Int))
                                  (joinG [(VT.one CT.str)]
                                    (fun k23 => iteG (n8 == (1 : Int))
                                      (callG Try.prog 16 #[(Value.pointer p10)] [(VT.one CT.str)]
                                        (fun (s24 : ByteArray) => joinG []
                                          (fun k25 => loopG [(VT.one (CT.int IntKind.i64))]
                                            (fun k26 => fun (n27 : Int) => iteG (Decidable.decide (n27 < (↑(Sl.n l1) : Int)))
                                              (joinG []
                                                (fun k28 => ldG CT.slice (Addr.mk m22 0 Option.none)
                                                  (fun (l29 : Sl) => assumeG true
                                                    (newG (Obj.cells #[(Value.bool true)] 4 (Prod.mk 0 0))
                                                      (fun (m30 : Nat) => opG Try.prog (Builtin.append_ #[23, 23] 23 #[(Value.slice (Sl.a l29) (Sl.n l29) (Sl.c l29)), (Value.slice (Option.some (Addr.mk m30 0 Option.none)) 1 1)]) (VT.one CT.slice)
                                                        (fun (l31 : Sl) => stG (Addr.mk m22 0 Option.none) (Value.slice (Sl.a l31) (Sl.n l31) (Sl.c l31))
                                                          (k28))))))
                                                (k26 (IntKind.wrap IntKind.i64 (n27 + (1 : Int)))))
                                              (k25)) (0 : Int))
                                          (k23 s24)))
                                      (k23 s20))
                                    (fun (s32 : ByteArray) => joinG [(VT.one CT.bool)]
                                      (fun k33 => ldG CT.slice (Addr.mk m22 0 Option.none)
                                        (fun (l34 : Sl) => ldG (CT.int IntKind.i64) (Addr.mk m22 1 Option.none)
                                          (fun (n35 : Int) => ldG (CT.int IntKind.i64) (Addr.mk m22 2 Option.none)
                                            (fun (n36 : Int) => callG Try.prog 14 #[(Value.pointer p10), (Value.agg #[(Value.slice (Sl.a l34) (Sl.n l34) (Sl.c l34)), (Value.int IntKind.i64 n35), (Value.int IntKind.i64 n36)])] [(VT.one (CT.int IntKind.i64))]
                                              (fun (n37 : Int) => iteG (n37 != (0 : Int))
                                                (iteG true
                                                  (iteG true
                                                    (iteG true
                                                      (k33 true)
                                                      (callG Try.prog 15 #[(Value.pointer p10)] [(VT.one CT.bool)]
                                                        (fun (b38 : Bool) => k33 b38)))
                                                    (callG Try.prog 16 #[(Value.pointer p10)] [(VT.one CT.str)]
                                                      (fun (s39 : ByteArray) => iteG (!ByteArray.toList s39 == ByteArray.toList s32)
                                                        (k33 true)
                                                        (callG Try.prog 15 #[(Value.pointer p10)] [(VT.one CT.bool)]
                                                          (fun (b40 : Bool) => k33 b40)))))
                                                  (callG Try.prog 20 #[(Value.pointer p10)] [(VT.one (CT.int IntKind.i64))]
                                                    (fun (n41 : Int) => iteG (n41 != (0 : Int))
                                                      (iteG true
                                                        (k33 true)
                                                        (callG Try.prog 15 #[(Value.pointer p10)] [(VT.one CT.bool)]
                                                          (fun (b42 : Bool) => k33 b42)))
                                                      (callG Try.prog 16 #[(Value.pointer p10)] [(VT.one CT.str)]
                                                        (fun (s43 : ByteArray) => iteG (!ByteArray.toList s43 == ByteArray.toList s32)
                                                          (k33 true)
                                                          (callG Try.prog 15 #[(Value.pointer p10)] [(VT.one CT.bool)]
                                                            (fun (b44 : Bool) => k33 b44)))))))
                                                (callG Try.prog 16 #[(Value.pointer p10)] [(VT.one CT.str)]
                                                  (fun (s45 : ByteArray) => iteG (!ByteArray.toList s45 == ByteArray.toList s32)
                                                    (iteG true
                                                      (iteG true
                                                        (k33 true)
                                                        (callG Try.prog 15 #[(Value.pointer p10)] [(VT.one CT.bool)]
                                                          (fun (b46 : Bool) => k33 b46)))
                                                      (callG Try.prog 16 #[(Value.pointer p10)] [(VT.one CT.str)]
                                                        (fun (s47 : ByteArray) => iteG (!ByteArray.toList s47 == ByteArray.toList s32)
                                                          (k33 true)
                                                          (callG Try.prog 15 #[(Value.pointer p10)] [(VT.one CT.bool)]
                                                            (fun (b48 : Bool) => k33 b48)))))
                                                    (callG Try.prog 20 #[(Value.pointer p10)] [(VT.one (CT.int IntKind.i64))]
                                                      (fun (n49 : Int) => iteG (n49 != (0 : Int))
                                                        (iteG true
                                                          (k33 true)
                                                          (callG Try.prog 15 #[(Value.pointer p10)] [(VT.one CT.bool)]
                                                            (fun (b50 : Bool) => k33 b50)))
                                                        (callG Try.prog 16 #[(Value.pointer p10)] [(VT.one CT.str)]
                                                          (fun (s51 : ByteArray) => iteG (!ByteArray.toList s51 == ByteArray.toList s32)
                                                            (k33 true)
                                                            (callG Try.prog 15 #[(Value.pointer p10)] [(VT.one CT.bool)]
                                                              (fun (b52 : Bool) => k33 b52)))))))))))))
                                      (fun (b53 : Bool) => iteG b53
                                        (retG (Value.bool false))
                                        (k9))))))))))))))
              (k7 (IntKind.wrap IntKind.i64 (n8 + (1 : Int)))))
            (k6)) (0 : Int))
        (callG Try.prog 9 #[] [(VT.one CT.bool)]
          (fun (b54 : Bool) => retG (Value.bool b54)))))
theorem e5 : denF Try.prog (GA Try.prog) Try.f5 [(VT.one CT.slice), (VT.one CT.slice), (VT.one (CT.int IntKind.i64))] (.seq .leaf (.seq (.seq (.r (sl Try.prog [(20, 4)])) .leaf) (.seq (.seq .leaf (.block (sl Try.prog []) (.loop (sl Try.prog [(7, 3)]) (.seq .leaf (.seq (.block (sl Try.prog []) (.seq .leaf (.seq (.seq (.r (sl Try.prog [(46, 4)])) .leaf) (.seq .leaf (.seq .leaf (.seq .leaf (.seq (.seq .leaf (.condj (sl Try.prog [(10, 9)]) (.seq .leaf (.seq .leaf (.block (sl Try.prog []) (.loop (sl Try.prog [(12, 3)]) (.seq .leaf (.seq (.block (sl Try.prog []) .leaf) .leaf)))))) .leaf)) (.seq (.r (sl Try.prog [(95, 4)])) .leaf)))))))) .leaf))))) .leaf))) = t5 := by kernel_rfl
theorem c5 (x0 : Sl) (x1 : Sl) (x2 : Int) {R : Ending → World → Prop} {w : World} (h : t5 x0 x1 x2 R w) : Calls Try.prog 5 #[.slice x0.a x0.n x0.c, .slice x1.a x1.n x1.c, .int .i64 x2] w R :=
  lift mixed Try.func5 e5 rfl ((x0, ()), (x1, ()), (x2, ()), ()) R w h

/-- pandectlaw19.DiskPlays -/
def t6 : Int → Sl → G :=
  fun (n0 : Int) => fun (l1 : Sl) => callG Try.prog 10 #[(Value.int IntKind.i64 n0)] [(VT.one CT.ptr), (VT.one (CT.int IntKind.i64))]
    (fun (p2 : Option Addr) => fun (n3 : Int) => callG Try.prog 22 #[(Value.int IntKind.i64 n0)] [(VT.one CT.ptr), (VT.one (CT.int IntKind.i64))]
      (fun (p4 : Option Addr) => fun (n5 : Int) => joinG [(VT.one CT.bool)]
        (fun k6 => iteG (n3 != n5)
          (iteG true
            (k6 true)
            (k6 (Option.isNone p4)))
          (iteG (!Option.isNone p2 == Option.isNone p4)
            (k6 true)
            (k6 (Option.isNone p4))))
        (fun (b7 : Bool) => iteG b7
          (joinG [(VT.one CT.bool)]
            (fun k8 => iteG (n3 == n5)
              (iteG (Option.isNone p2 == Option.isNone p4)
                (callG Try.prog 9 #[] [(VT.one CT.bool)]
                  (fun (b9 : Bool) => k8 b9))
                (k8 false))
              (iteG false
                (callG Try.prog 9 #[] [(VT.one CT.bool)]
                  (fun (b10 : Bool) => k8 b10))
                (k8 false)))
            (fun (b11 : Bool) => retG (Value.bool b11)))
          (joinG [(VT.one CT.bool)]
            (fun k12 => iteG (Decidable.decide (n0 > (40 : Int)))
              (k12 true)
              (callG Try.prog 23 #[(Value.slice (Sl.a l1) (Sl.n l1) (Sl.c l1))] [(VT.one CT.bool)]
                (fun (b13 : Bool) => k12 (!b13))))
            (fun (b14 : Bool) => iteG b14
              (callG Try.prog 9 #[] [(VT.one CT.bool)]
                (fun (b15 : Bool) => retG (Value.bool b15)))
              (joinG []
                (fun k16 => loopG [(VT.one (CT.int IntKind.i64))]
                  (fun k17 => fun (n18 : Int) => iteG (Decidable.decide (n18 < (↑(Sl.n l1) : Int)))
                    (joinG []
                      (fun k19 => joinG [(VT.one CT.bool)]
                        (fun k20 => drewG
                          (idxG (Sl.a l1) (Sl.n l1) n18 7
                            (fun (a21 : Addr) => ldG (CT.int IntKind.i64) (Addr.add a21 0)
                              (fun (n22 : Int) => ldG (CT.int IntKind.i64) (Addr.add a21 1)
                                (fun (n23 : Int) => ldG CT.str (Addr.add a21 2)
                                  (fun (s24 : ByteArray) => ldG CT.bool (Addr.add a21 3)
                                    (fun (b25 : Bool) => ldG CT.slice (Addr.add a21 4)
                                      (fun (l26 : Sl) => ldG (CT.int IntKind.i64) (Addr.add a21 5)
                                        (fun (n27 : Int) => ldG (CT.int IntKind.i64) (Addr.add a21 6)
                                          (fun (n28 : Int) => callG Try.prog 24 #[(Value.pointer p2), (Value.pointer p4), (Value.agg #[(Value.int IntKind.i64 n22), (Value.int IntKind.i64 n23), (Value.string s24), (Value.bool b25), (Value.slice (Sl.a l26) (Sl.n l26) (Sl.c l26)), (Value.int IntKind.i64 n27), (Value.int IntKind.i64 n28)])] [(VT.one CT.bool)]
                                            (fun (b29 : Bool) => iteG (!b29)
                                              (iteG true
                                                (iteG true
                                                  (iteG true
                                                    (k20 true)
                                                    (callG Try.prog 16 #[(Value.pointer p2)] [(VT.one CT.str)]
                                                      (fun (s30 : ByteArray) => keepG [(Prod.mk a21 [(Value.int IntKind.i64 n22), (Value.int IntKind.i64 n23), (Value.string s24), (Value.bool b25), (Value.slice (Sl.a l26) (Sl.n l26) (Sl.c l26)), (Value.int IntKind.i64 n27), (Value.int IntKind.i64 n28)])]
                                                        (callG Try.prog 26 #[(Value.pointer p4)] [(VT.one CT.str)]
                                                          (fun (s31 : ByteArray) => keepG [(Prod.mk a21 [(Value.int IntKind.i64 n22), (Value.int IntKind.i64 n23), (Value.string s24), (Value.bool b25), (Value.slice (Sl.a l26) (Sl.n l26) (Sl.c l26)), (Value.int IntKind.i64 n27), (Value.int IntKind.i64 n28)])]
                                                            (k20 (!ByteArray.toList s30 == ByteArray.toList s31)))))))
                                                  (nnG p4
                                                    (fun (a32 : Addr) => ldG CT.slice (Addr.add a32 0)
                                                      (fun (l33 : Sl) => callG Try.prog 25 #[(Value.pointer p2)] [(VT.one (CT.int IntKind.i64))]
                                                        (fun (n34 : Int) => keepG [(Prod.mk (Addr.add a32 0) [(Value.slice (Sl.a l33) (Sl.n l33) (Sl.c l33))]), (Prod.mk a21 [(Value.int IntKind.i64 n22), (Value.int IntKind.i64 n23), (Value.string s24), (Value.bool b25), (Value.slice (Sl.a l26) (Sl.n l26) (Sl.c l26)), (Value.int IntKind.i64 n27), (Value.int IntKind.i64 n28)])]
                                                          (iteG (n34 != (↑(Sl.n l33) : Int))
                                                            (k20 true)
                                                            (callG Try.prog 16 #[(Value.pointer p2)] [(VT.one CT.str)]
                                                              (fun (s35 : ByteArray) => keepG [(Prod.mk (Addr.add a32 0) [(Value.slice (Sl.a l33) (Sl.n l33) (Sl.c l33))]), (Prod.mk a21 [(Value.int IntKind.i64 n22), (Value.int IntKind.i64 n23), (Value.string s24), (Value.bool b25), (Value.slice (Sl.a l26) (Sl.n l26) (Sl.c l26)), (Value.int IntKind.i64 n27), (Value.int IntKind.i64 n28)])]
                                                                (callG Try.prog 26 #[(Value.pointer p4)] [(VT.one CT.str)]
                                                                  (fun (s36 : ByteArray) => keepG [(Prod.mk (Addr.add a32 0) [(Value.slice (Sl.a l33) (Sl.n l33) (Sl.c l33))]), (Prod.mk a21 [(Value.int IntKind.i64 n22), (Value.int IntKind.i64 n23), (Value.string s24), (Value.bool b25), (Value.slice (Sl.a l26) (Sl.n l26) (Sl.c l26)), (Value.int IntKind.i64 n27), (Value.int IntKind.i64 n28)])]
                                                                    (k20 (!ByteArray.toList s35 == ByteArray.toList s36))))))))))))
                                                (nnG p4
                                                  (fun (a37 : Addr) => ldG (CT.int IntKind.i64) (Addr.add a37 7)
                                                    (fun (n38 : Int) => callG Try.prog 17 #[(Value.pointer p2)] [(VT.one (CT.int IntKind.i64))]
                                                      (fun (n39 : Int) => keepG [(Prod.mk (Addr.add a37 7) [(Value.int IntKind.i64 n38)]), (Prod.mk a21 [(Value.int IntKind.i64 n22), (Value.int IntKind.i64 n23), (Value.string s24), (Value.bool b25), (Value.slice (Sl.a l26) (Sl.n l26) (Sl.c l26)), (Value.int IntKind.i64 n27), (Value.int IntKind.i64 n28)])]
                                                        (iteG (n39 != n38)
                                                          (iteG true
                                                            (k20 true)
                                                            (callG Try.prog 16 #[(Value.pointer p2)] [(VT.one CT.str)]
                                                              (fun (s40 : ByteArray) => keepG [(Prod.mk (Addr.add a37 7) [(Value.int IntKind.i64 n38)]), (Prod.mk a21 [(Value.int IntKind.i64 n22), (Value.int IntKind.i64 n23), (Value.string s24), (Value.bool b25), (Value.slice (Sl.a l26) (Sl.n l26) (Sl.c l26)), (Value.int IntKind.i64 n27), (Value.int IntKind.i64 n28)])]
                                                                (callG Try.prog 26 #[(Value.pointer p4)] [(VT.one CT.str)]
                                                                  (fun (s41 : ByteArray) => keepG [(Prod.mk (Addr.add a37 7) [(Value.int IntKind.i64 n38)]), (Prod.mk a21 [(Value.int IntKind.i64 n22), (Value.int IntKind.i64 n23), (Value.string s24), (Value.bool b25), (Value.slice (Sl.a l26) (Sl.n l26) (Sl.c l26)), (Value.int IntKind.i64 n27), (Value.int IntKind.i64 n28)])]
                                                                    (k20 (!ByteArray.toList s40 == ByteArray.toList s41)))))))
                                                          (nnG p4
                                                            (fun (a42 : Addr) => ldG CT.slice (Addr.add a42 0)
                                                              (fun (l43 : Sl) => callG Try.prog 25 #[(Value.pointer p2)] [(VT.one (CT.int IntKind.i64))]
                                                                (fun (n44 : Int) => keepG [(Prod.mk (Addr.add a42 0) [(Value.slice (Sl.a l43) (Sl.n l43) (Sl.c l43))]), (Prod.mk (Addr.add a37 7) [(Value.int IntKind.i64 n38)]), (Prod.mk a21 [(Value.int IntKind.i64 n22), (Value.int IntKind.i64 n23), (Value.string s24), (Value.bool b25), (Value.slice (Sl.a l26) (Sl.n l26) (Sl.c l26)), (Value.int IntKind.i64 n27), (Value.int IntKind.i64 n28)])]
                                                                  (iteG (n44 != (↑(Sl.n l43) : Int))
                                                                    (k20 true)
                                                                    (callG Try.prog 16 #[(Value.pointer p2)] [(VT.one CT.str)]
                                                                      (fun (s45 : ByteArray) => keepG [(Prod.mk (Addr.add a42 0) [(Value.slice (Sl.a l43) (Sl.n l43) (Sl.c l43))]), (Prod.mk (Addr.add a37 7) [(Value.int IntKind.i64 n38)]), (Prod.mk a21 [(Value.int IntKind.i64 n22), (Value.int IntKind.i64 n23), (Value.string s24), (Value.bool b25), (Value.slice (Sl.a l26) (Sl.n l26) (Sl.c l26)), (Value.int IntKind.i64 n27), (Value.int IntKind.i64 n28)])]
                                                                        (callG Try.prog 26 #[(Value.pointer p4)] [(VT.one CT.str)]
                                                                          (fun (s46 : ByteArray) => keepG [(Prod.mk (Addr.add a42 0) [(Value.slice (Sl.a l43) (Sl.n l43) (Sl.c l43))]), (Prod.mk (Addr.add a37 7) [(Value.int IntKind.i64 n38)]), (Prod.mk a21 [(Value.int IntKind.i64 n22), (Value.int IntKind.i64 n23), (Value.string s24), (Value.bool b25), (Value.slice (Sl.a l26) (Sl.n l26) (Sl.c l26)), (Value.int IntKind.i64 n27), (Value.int IntKind.i64 n28)])]
                                                                            (k20 (!ByteArray.toList s45 == ByteArray.toList s46)))))))))))))))))
                                              (nnG p4
                                                (fun (a47 : Addr) => ldG CT.bool (Addr.add a47 6)
                                                  (fun (b48 : Bool) => callG Try.prog 15 #[(Value.pointer p2)] [(VT.one CT.bool)]
                                                    (fun (b49 : Bool) => keepG [(Prod.mk (Addr.add a47 6) [(Value.bool b48)]), (Prod.mk a21 [(Value.int IntKind.i64 n22), (Value.int IntKind.i64 n23), (Value.string s24), (Value.bool b25), (Value.slice (Sl.a l26) (Sl.n l26) (Sl.c l26)), (Value.int IntKind.i64 n27), (Value.int IntKind.i64 n28)])]
                                                      (iteG (!b49 == b48)
                                                        (iteG true
                                                          (iteG true
                                                            (k20 true)
                                                            (callG Try.prog 16 #[(Value.pointer p2)] [(VT.one CT.str)]
                                                              (fun (s50 : ByteArray) => keepG [(Prod.mk (Addr.add a47 6) [(Value.bool b48)]), (Prod.mk a21 [(Value.int IntKind.i64 n22), (Value.int IntKind.i64 n23), (Value.string s24), (Value.bool b25), (Value.slice (Sl.a l26) (Sl.n l26) (Sl.c l26)), (Value.int IntKind.i64 n27), (Value.int IntKind.i64 n28)])]
                                                                (callG Try.prog 26 #[(Value.pointer p4)] [(VT.one CT.str)]
                                                                  (fun (s51 : ByteArray) => keepG [(Prod.mk (Addr.add a47 6) [(Value.bool b48)]), (Prod.mk a21 [(Value.int IntKind.i64 n22), (Value.int IntKind.i64 n23), (Value.string s24), (Value.bool b25), (Value.slice (Sl.a l26) (Sl.n l26) (Sl.c l26)), (Value.int IntKind.i64 n27), (Value.int IntKind.i64 n28)])]
                                                                    (k20 (!ByteArray.toList s50 == ByteArray.toList s51)))))))
                                                          (nnG p4
                                                            (fun (a52 : Addr) => ldG CT.slice (Addr.add a52 0)
                                                              (fun (l53 : Sl) => callG Try.prog 25 #[(Value.pointer p2)] [(VT.one (CT.int IntKind.i64))]
                                                                (fun (n54 : Int) => keepG [(Prod.mk (Addr.add a52 0) [(Value.slice (Sl.a l53) (Sl.n l53) (Sl.c l53))]), (Prod.mk (Addr.add a47 6) [(Value.bool b48)]), (Prod.mk a21 [(Value.int IntKind.i64 n22), (Value.int IntKind.i64 n23), (Value.string s24), (Value.bool b25), (Value.slice (Sl.a l26) (Sl.n l26) (Sl.c l26)), (Value.int IntKind.i64 n27), (Value.int IntKind.i64 n28)])]
                                                                  (iteG (n54 != (↑(Sl.n l53) : Int))
                                                                    (k20 true)
                                                                    (callG Try.prog 16 #[(Value.pointer p2)] [(VT.one CT.str)]
                                                                      (fun (s55 : ByteArray) => keepG [(Prod.mk (Addr.add a52 0) [(Value.slice (Sl.a l53) (Sl.n l53) (Sl.c l53))]), (Prod.mk (Addr.add a47 6) [(Value.bool b48)]), (Prod.mk a21 [(Value.int IntKind.i64 n22), (Value.int IntKind.i64 n23), (Value.string s24), (Value.bool b25), (Value.slice (Sl.a l26) (Sl.n l26) (Sl.c l26)), (Value.int IntKind.i64 n27), (Value.int IntKind.i64 n28)])]
                                                                        (callG Try.prog 26 #[(Value.pointer p4)] [(VT.one CT.str)]
                                                                          (fun (s56 : ByteArray) => keepG [(Prod.mk (Addr.add a52 0) [(Value.slice (Sl.a l53) (Sl.n l53) (Sl.c l53))]), (Prod.mk (Addr.add a47 6) [(Value.bool b48)]), (Prod.mk a21 [(Value.int IntKind.i64 n22), (Value.int IntKind.i64 n23), (Value.string s24), (Value.bool b25), (Value.slice (Sl.a l26) (Sl.n l26) (Sl.c l26)), (Value.int IntKind.i64 n27), (Value.int IntKind.i64 n28)])]
                                                                            (k20 (!ByteArray.toList s55 == ByteArray.toList s56))))))))))))
                                                        (nnG p4
                                                          (fun (a57 : Addr) => ldG (CT.int IntKind.i64) (Addr.add a57 7)
                                                            (fun (n58 : Int) => callG Try.prog 17 #[(Value.pointer p2)] [(VT.one (CT.int IntKind.i64))]
                                                              (fun (n59 : Int) => keepG [(Prod.mk (Addr.add a57 7) [(Value.int IntKind.i64 n58)]), (Prod.mk (Addr.add a47 6) [(Value.bool b48)]), (Prod.mk a21 [(Value.int IntKind.i64 n22), (Value.int IntKind.i64 n23), (Value.string s24), (Value.bool b25), (Value.slice (Sl.a l26) (Sl.n l26) (Sl.c l26)), (Value.int IntKind.i64 n27), (Value.int IntKind.i64 n28)])]
                                                                (iteG (n59 != n58)
                                                                  (iteG true
                                                                    (k20 true)
                                                                    (callG Try.prog 16 #[(Value.pointer p2)] [(VT.one CT.str)]
                                                                      (fun (s60 : ByteArray) => keepG [(Prod.mk (Addr.add a57 7) [(Value.int IntKind.i64 n58)]), (Prod.mk (Addr.add a47 6) [(Value.bool b48)]), (Prod.mk a21 [(Value.int IntKind.i64 n22), (Value.int IntKind.i64 n23), (Value.string s24), (Value.bool b25), (Value.slice (Sl.a l26) (Sl.n l26) (Sl.c l26)), (Value.int IntKind.i64 n27), (Value.int IntKind.i64 n28)])]
                                                                        (callG Try.prog 26 #[(Value.pointer p4)] [(VT.one CT.str)]
                                                                          (fun (s61 : ByteArray) => keepG [(Prod.mk (Addr.add a57 7) [(Value.int IntKind.i64 n58)]), (Prod.mk (Addr.add a47 6) [(Value.bool b48)]), (Prod.mk a21 [(Value.int IntKind.i64 n22), (Value.int IntKind.i64 n23), (Value.string s24), (Value.bool b25), (Value.slice (Sl.a l26) (Sl.n l26) (Sl.c l26)), (Value.int IntKind.i64 n27), (Value.int IntKind.i64 n28)])]
                                                                            (k20 (!ByteArray.toList s60 == ByteArray.toList s61)))))))
                                                                  (nnG p4
                                                                    (fun (a62 : Addr) => ldG CT.slice (Addr.add a62 0)
                                                                      (fun (l63 : Sl) => callG Try.prog 25 #[(Value.pointer p2)] [(VT.one (CT.int IntKind.i64))]
                                                                        (fun (n64 : Int) => keepG [(Prod.mk (Addr.add a62 0) [(Value.slice (Sl.a l63) (Sl.n l63) (Sl.c l63))]), (Prod.mk (Addr.add a57 7) [(Value.int IntKind.i64 n58)]), (Prod.mk (Addr.add a47 6) [(Value.bool b48)]), (Prod.mk a21 [(Value.int IntKind.i64 n22), (Value.int IntKind.i64 n23), (Value.string s24), (Value.bool b25), (Value.slice (Sl.a l26) (Sl.n l26) (Sl.c l26)), (Value.int IntKind.i64 n27), (Value.int IntKind.i64 n28)])]
                                                                          (iteG (n64 != (↑(Sl.n l63) : Int))
                                                                            (k20 true)
                                                                            (callG Try.prog 16 #[(Value.pointer p2)] [(VT.one CT.str)]
                                                                              (fun (s65 : ByteArray) => keepG [(Prod.mk (Addr.add a62 0) [(Value.slice (Sl.a l63) (Sl.n l63) (Sl.c l63))]), (Prod.mk (Addr.add a57 7) [(Value.int IntKind.i64 n58)]), (Prod.mk (Addr.add a47 6) [(Value.bool b48)]), (Prod.mk a21 [(Value.int IntKind.i64 n22), (Value.int IntKind.i64 n23), (Value.string s24), (Value.bool b25), (Value.slice (Sl.a l26) (Sl.n l26) (Sl.c l26)), (Value.int IntKind.i64 n27), (Value.int IntKind.i64 n28)])]
                                                                                (callG Try.prog 26 #[(Value.pointer p4)] [(VT.one CT.str)]
                                                                                  (fun (s66 : ByteArray) => keepG [(Prod.mk (Addr.add a62 0) [(Value.slice (Sl.a l63) (Sl.n l63) (Sl.c l63))]), (Prod.mk (Addr.add a57 7) [(Value.int IntKind.i64 n58)]), (Prod.mk (Addr.add a47 6) [(Value.bool b48)]), (Prod.mk a21 [(Value.int IntKind.i64 n22), (Value.int IntKind.i64 n23), (Value.string s24), (Value.bool b25), (Value.slice (Sl.a l26) (Sl.n l26) (Sl.c l26)), (Value.int IntKind.i64 n27), (Value.int IntKind.i64 n28)])]
                                                                                    (k20 (!ByteArray.toList s65 == ByteArray.toList s66))))))))))))))))))))))))))))))))
                        (fun (b67 : Bool) => iteG b67
                          (retG (Value.bool false))
                          (k19)))
                      (k17 (IntKind.wrap IntKind.i64 (n18 + (1 : Int)))))
                    (k16)) (0 : Int))
                (callG Try.prog 9 #[] [(VT.one CT.bool)]
                  (fun (b68 : Bool) => retG (Value.bool b68)))))))))
theorem e6 : denF Try.prog (GA Try.prog) Try.f6 [(VT.one (CT.int IntKind.i64)), (VT.one CT.slice)] (.seq .leaf (.seq .leaf (.seq .leaf (.seq (.seq (.r (sl Try.prog [(33, 4)])) (.cond (.seq (.r (sl Try.prog [(4, 4)])) .leaf) .leaf)) (.seq (.seq (.r (sl Try.prog [(53, 4)])) .leaf) (.seq (.seq .leaf (.block (sl Try.prog []) (.loop (sl Try.prog [(9, 3)]) (.seq .leaf (.seq (.block (sl Try.prog []) (.seq (.r (sl Try.prog [(103, 4)])) .leaf)) .leaf))))) .leaf)))))) = t6 := by kernel_rfl
theorem c6 (x0 : Int) (x1 : Sl) {R : Ending → World → Prop} {w : World} (h : t6 x0 x1 R w) : Calls Try.prog 6 #[.int .i64 x0, .slice x1.a x1.n x1.c] w R :=
  lift mixed Try.func6 e6 rfl ((x0, ()), (x1, ()), ()) R w h

/-- pandectlaw19.DiskNobody -/
def t7 : Int → Int → ByteArray → Bool → Sl → Int → Int → G :=
  fun (n0 : Int) => fun (n1 : Int) => fun (s2 : ByteArray) => fun (b3 : Bool) => fun (l4 : Sl) => fun (n5 : Int) => fun (n6 : Int) => newG (Obj.cells #[(Value.int IntKind.i64 n0), (Value.int IntKind.i64 n1), (Value.string s2), (Value.bool b3), (Value.slice (Sl.a l4) (Sl.n l4) (Sl.c l4)), (Value.int IntKind.i64 n5), (Value.int IntKind.i64 n6)] 53 (Prod.mk 0 0))
    (fun (m7 : Nat) => newG (Obj.cells #[(Value.slice Option.none 0 0), (Value.slice Option.none 0 0), (Value.slice Option.none 0 0), (Value.int IntKind.i64 (0 : Int)), (Value.int IntKind.i64 (0 : Int)), (Value.int IntKind.i64 (0 : Int)), (Value.int IntKind.i64 (0 : Int)), (Value.bool false)] 61 (Prod.mk 0 0))
      (fun (m8 : Nat) => newG (Obj.cells #[(Value.pointer Option.none), (Value.pointer (Option.some (Addr.mk m8 0 Option.none)))] 27 (Prod.mk 0 0))
        (fun (m9 : Nat) => joinG []
          (fun k10 => loopG [(VT.one (CT.int IntKind.i64))]
            (fun k11 => fun (n12 : Int) => iteG (Decidable.decide (n12 < (↑(2 : Nat) : Int)))
              (joinG []
                (fun k13 => idxG (Option.some (Addr.mk m9 0 Option.none)) 2 n12 1
                  (fun (a14 : Addr) => ldG CT.ptr a14
                    (fun (p15 : Option Addr) => ldG (CT.int IntKind.i64) (Addr.mk m7 1 Option.none)
                      (fun (n16 : Int) => callG Try.prog 27 #[(Value.pointer p15), (Value.int IntKind.i64 n16)] [(VT.one CT.str), (VT.one (CT.int IntKind.i64))]
                        (fun (s17 : ByteArray) => fun (n18 : Int) => joinG [(VT.one CT.bool)]
                          (fun k19 => iteG (!ByteArray.toList s17 == ByteArray.toList (ByteArray.mk #[]))
                            (iteG true
                              (iteG true
                                (iteG true
                                  (iteG true
                                    (iteG true
                                      (k19 true)
                                      (callG Try.prog 20 #[(Value.pointer p15)] [(VT.one (CT.int IntKind.i64))]
                                        (fun (n20 : Int) => k19 (n20 != (1 : Int)))))
                                    (ldG CT.slice (Addr.mk m7 4 Option.none)
                                      (fun (l21 : Sl) => ldG (CT.int IntKind.i64) (Addr.mk m7 5 Option.none)
                                        (fun (n22 : Int) => ldG (CT.int IntKind.i64) (Addr.mk m7 6 Option.none)
                                          (fun (n23 : Int) => callG Try.prog 14 #[(Value.pointer p15), (Value.agg #[(Value.slice (Sl.a l21) (Sl.n l21) (Sl.c l21)), (Value.int IntKind.i64 n22), (Value.int IntKind.i64 n23)])] [(VT.one (CT.int IntKind.i64))]
                                            (fun (n24 : Int) => iteG (n24 != (1 : Int))
                                              (k19 true)
                                              (callG Try.prog 20 #[(Value.pointer p15)] [(VT.one (CT.int IntKind.i64))]
                                                (fun (n25 : Int) => k19 (n25 != (1 : Int))))))))))
                                  (ldG (CT.int IntKind.i64) (Addr.mk m7 1 Option.none)
                                    (fun (n26 : Int) => ldG CT.slice (Addr.mk m7 4 Option.none)
                                      (fun (l27 : Sl) => ldG (CT.int IntKind.i64) (Addr.mk m7 5 Option.none)
                                        (fun (n28 : Int) => ldG (CT.int IntKind.i64) (Addr.mk m7 6 Option.none)
                                          (fun (n29 : Int) => callG Try.prog 11 #[(Value.pointer p15), (Value.int IntKind.i64 n26), (Value.agg #[(Value.slice (Sl.a l27) (Sl.n l27) (Sl.c l27)), (Value.int IntKind.i64 n28), (Value.int IntKind.i64 n29)])] [(VT.one (CT.int IntKind.i64))]
                                            (fun (n30 : Int) => iteG (n30 != (1 : Int))
                                              (iteG true
                                                (k19 true)
                                                (callG Try.prog 20 #[(Value.pointer p15)] [(VT.one (CT.int IntKind.i64))]
                                                  (fun (n31 : Int) => k19 (n31 != (1 : Int)))))
                                              (ldG CT.slice (Addr.mk m7 4 Option.none)
                                                (fun (l32 : Sl) => ldG (CT.int IntKind.i64) (Addr.mk m7 5 Option.none)
                                                  (fun (n33 : Int) => ldG (CT.int IntKind.i64) (Addr.mk m7 6 Option.none)
                                                    (fun (n34 : Int) => callG Try.prog 14 #[(Value.pointer p15), (Value.agg #[(Value.slice (Sl.a l32) (Sl.n l32) (Sl.c l32)), (Value.int IntKind.i64 n33), (Value.int IntKind.i64 n34)])] [(VT.one (CT.int IntKind.i64))]
                                                      (fun (n35 : Int) => iteG (n35 != (1 : Int))
                                                        (k19 true)
                                                        (callG Try.prog 20 #[(Value.pointer p15)] [(VT.one (CT.int IntKind.i64))]
                                                          (fun (n36 : Int) => k19 (n36 != (1 : Int))))))))))))))))
                                (callG Try.prog 19 #[(Value.pointer p15)] [(VT.one (CT.int IntKind.i64))]
                                  (fun (n37 : Int) => iteG (n37 != (1 : Int))
                                    (iteG true
                                      (iteG true
                                        (k19 true)
                                        (callG Try.prog 20 #[(Value.pointer p15)] [(VT.one (CT.int IntKind.i64))]
                                          (fun (n38 : Int) => k19 (n38 != (1 : Int)))))
                                      (ldG CT.slice (Addr.mk m7 4 Option.none)
                                        (fun (l39 : Sl) => ldG (CT.int IntKind.i64) (Addr.mk m7 5 Option.none)
                                          (fun (n40 : Int) => ldG (CT.int IntKind.i64) (Addr.mk m7 6 Option.none)
                                            (fun (n41 : Int) => callG Try.prog 14 #[(Value.pointer p15), (Value.agg #[(Value.slice (Sl.a l39) (Sl.n l39) (Sl.c l39)), (Value.int IntKind.i64 n40), (Value.int IntKind.i64 n41)])] [(VT.one (CT.int IntKind.i64))]
                                              (fun (n42 : Int) => iteG (n42 != (1 : Int))
                                                (k19 true)
                                                (callG Try.prog 20 #[(Value.pointer p15)] [(VT.one (CT.int IntKind.i64))]
                                                  (fun (n43 : Int) => k19 (n43 != (1 : Int))))))))))
                                    (ldG (CT.int IntKind.i64) (Addr.mk m7 1 Option.none)
                                      (fun (n44 : Int) => ldG CT.slice (Addr.mk m7 4 Option.none)
                                        (fun (l45 : Sl) => ldG (CT.int IntKind.i64) (Addr.mk m7 5 Option.none)
                                          (fun (n46 : Int) => ldG (CT.int IntKind.i64) (Addr.mk m7 6 Option.none)
                                            (fun (n47 : Int) => callG Try.prog 11 #[(Value.pointer p15), (Value.int IntKind.i64 n44), (Value.agg #[(Value.slice (Sl.a l45) (Sl.n l45) (Sl.c l45)), (Value.int IntKind.i64 n46), (Value.int IntKind.i64 n47)])] [(VT.one (CT.int IntKind.i64))]
                                              (fun (n48 : Int) => iteG (n48 != (1 : Int))
                                                (iteG true
                                                  (k19 true)
                                                  (callG Try.prog 20 #[(Value.pointer p15)] [(VT.one (CT.int IntKind.i64))]
                                                    (fun (n49 : Int) => k19 (n49 != (1 : Int)))))
                                                (ldG CT.slice (Addr.mk m7 4 Option.none)
                                                  (fun (l50 : Sl) => ldG (CT.int IntKind.i64) (Addr.mk m7 5 Option.none)
                                                    (fun (n51 : Int) => ldG (CT.int IntKind.i64) (Addr.mk m7 6 Option.none)
                                                      (fun (n52 : Int) => callG Try.prog 14 #[(Value.pointer p15), (Value.agg #[(Value.slice (Sl.a l50) (Sl.n l50) (Sl.c l50)), (Value.int IntKind.i64 n51), (Value.int IntKind.i64 n52)])] [(VT.one (CT.int IntKind.i64))]
                                                        (fun (n53 : Int) => iteG (n53 != (1 : Int))
                                                          (k19 true)
                                                          (callG Try.prog 20 #[(Value.pointer p15)] [(VT.one (CT.int IntKind.i64))]
                                                            (fun (n54 : Int) => k19 (n54 != (1 : Int))))))))))))))))))
                              (ldG (CT.int IntKind.i64) (Addr.mk m7 1 Option.none)
                                (fun (n55 : Int) => ldG CT.str (Addr.mk m7 2 Option.none)
                                  (fun (s56 : ByteArray) => callG Try.prog 12 #[(Value.pointer p15), (Value.int IntKind.i64 n55), (Value.string s56)] [(VT.one (CT.int IntKind.i64))]
                                    (fun (n57 : Int) => iteG (n57 != (1 : Int))
                                      (iteG true
                                        (iteG true
                                          (iteG true
                                            (k19 true)
                                            (callG Try.prog 20 #[(Value.pointer p15)] [(VT.one (CT.int IntKind.i64))]
                                              (fun (n58 : Int) => k19 (n58 != (1 : Int)))))
                                          (ldG CT.slice (Addr.mk m7 4 Option.none)
                                            (fun (l59 : Sl) => ldG (CT.int IntKind.i64) (Addr.mk m7 5 Option.none)
                                              (fun (n60 : Int) => ldG (CT.int IntKind.i64) (Addr.mk m7 6 Option.none)
                                                (fun (n61 : Int) => callG Try.prog 14 #[(Value.pointer p15), (Value.agg #[(Value.slice (Sl.a l59) (Sl.n l59) (Sl.c l59)), (Value.int IntKind.i64 n60), (Value.int IntKind.i64 n61)])] [(VT.one (CT.int IntKind.i64))]
                                                  (fun (n62 : Int) => iteG (n62 != (1 : Int))
                                                    (k19 true)
                                                    (callG Try.prog 20 #[(Value.pointer p15)] [(VT.one (CT.int IntKind.i64))]
                                                      (fun (n63 : Int) => k19 (n63 != (1 : Int))))))))))
                                        (ldG (CT.int IntKind.i64) (Addr.mk m7 1 Option.none)
                                          (fun (n64 : Int) => ldG CT.slice (Addr.mk m7 4 Option.none)
                                            (fun (l65 : Sl) => ldG (CT.int IntKind.i64) (Addr.mk m7 5 Option.none)
                                              (fun (n66 : Int) => ldG (CT.int IntKind.i64) (Addr.mk m7 6 Option.none)
                                                (fun (n67 : Int) => callG Try.prog 11 #[(Value.pointer p15), (Value.int IntKind.i64 n64), (Value.agg #[(Value.slice (Sl.a l65) (Sl.n l65) (Sl.c l65)), (Value.int IntKind.i64 n66), (Value.int IntKind.i64 n67)])] [(VT.one (CT.int IntKind.i64))]
                                                  (fun (n68 : Int) => iteG (n68 != (1 : Int))
                                                    (iteG true
                                                      (k19 true)
                                                      (callG Try.prog 20 #[(Value.pointer p15)] [(VT.one (CT.int IntKind.i64))]
                                                        (fun (n69 : Int) => k19 (n69 != (1 : Int)))))
                                                    (ldG CT.slice (Addr.mk m7 4 Option.none)
                                                      (fun (l70 : Sl) => ldG (CT.int IntKind.i64) (Addr.mk m7 5 Option.none)
                                                        (fun (n71 : Int) => ldG (CT.int IntKind.i64) (Addr.mk m7 6 Option.none)
                                                          (fun (n72 : Int) => callG Try.prog 14 #[(Value.pointer p15), (Value.agg #[(Value.slice (Sl.a l70) (Sl.n l70) (Sl.c l70)), (Value.int IntKind.i64 n71), (Value.int IntKind.i64 n72)])] [(VT.one (CT.int IntKind.i64))]
                                                            (fun (n73 : Int) => iteG (n73 != (1 : Int))
                                                              (k19 true)
                                                              (callG Try.prog 20 #[(Value.pointer p15)] [(VT.one (CT.int IntKind.i64))]
                                                                (fun (n74 : Int) => k19 (n74 != (1 : Int))))))))))))))))
                                      (callG Try.prog 19 #[(Value.pointer p15)] [(VT.one (CT.int IntKind.i64))]
                                        (fun (n75 : Int) => iteG (n75 != (1 : Int))
                                          (iteG true
                                            (iteG true
                                              (k19 true)
                                              (callG Try.prog 20 #[(Value.pointer p15)] [(VT.one (CT.int IntKind.i64))]
                                                (fun (n76 : Int) => k19 (n76 != (1 : Int)))))
                                            (ldG CT.slice (Addr.mk m7 4 Option.none)
                                              (fun (l77 : Sl) => ldG (CT.int IntKind.i64) (Addr.mk m7 5 Option.none)
                                                (fun (n78 : Int) => ldG (CT.int IntKind.i64) (Addr.mk m7 6 Option.none)
                                                  (fun (n79 : Int) => callG Try.prog 14 #[(Value.pointer p15), (Value.agg #[(Value.slice (Sl.a l77) (Sl.n l77) (Sl.c l77)), (Value.int IntKind.i64 n78), (Value.int IntKind.i64 n79)])] [(VT.one (CT.int IntKind.i64))]
                                                    (fun (n80 : Int) => iteG (n80 != (1 : Int))
                                                      (k19 true)
                                                      (callG Try.prog 20 #[(Value.pointer p15)] [(VT.one (CT.int IntKind.i64))]
                                                        (fun (n81 : Int) => k19 (n81 != (1 : Int))))))))))
                                          (ldG (CT.int IntKind.i64) (Addr.mk m7 1 Option.none)
                                            (fun (n82 : Int) => ldG CT.slice (Addr.mk m7 4 Option.none)
                                              (fun (l83 : Sl) => ldG (CT.int IntKind.i64) (Addr.mk m7 5 Option.none)
                                                (fun (n84 : Int) => ldG (CT.int IntKind.i64) (Addr.mk m7 6 Option.none)
                                                  (fun (n85 : Int) => callG Try.prog 11 #[(Value.pointer p15), (Value.int IntKind.i64 n82), (Value.agg #[(Value.slice (Sl.a l83) (Sl.n l83) (Sl.c l83)), (Value.int IntKind.i64 n84), (Value.int IntKind.i64 n85)])] [(VT.one (CT.int IntKind.i64))]
                                                    (fun (n86 : Int) => iteG (n86 != (1 : Int))
                                                      (iteG true
                                                        (k19 true)
                                                        (callG Try.prog 20 #[(Value.pointer p15)] [(VT.one (CT.int IntKind.i64))]
                                                          (fun (n87 : Int) => k19 (n87 != (1 : Int)))))
                                                      (ldG CT.slice (Addr.mk m7 4 Option.none)
                                                        (fun (l88 : Sl) => ldG (CT.int IntKind.i64) (Addr.mk m7 5 Option.none)
                                                          (fun (n89 : Int) => ldG (CT.int IntKind.i64) (Addr.mk m7 6 Option.none)
                                                            (fun (n90 : Int) => callG Try.prog 14 #[(Value.pointer p15), (Value.agg #[(Value.slice (Sl.a l88) (Sl.n l88) (Sl.c l88)), (Value.int IntKind.i64 n89), (Value.int IntKind.i64 n90)])] [(VT.one (CT.int IntKind.i64))]
                                                              (fun (n91 : Int) => iteG (n91 != (1 : Int))
                                                                (k19 true)
                                                                (callG Try.prog 20 #[(Value.pointer p15)] [(VT.one (CT.int IntKind.i64))]
                                                                  (fun (n92 : Int) => k19 (n92 != (1 : Int))))))))))))))))))))))
                            (iteG (n18 != (1 : Int))
                              (iteG true
                                (iteG true
                                  (iteG true
                                    (iteG true
                                      (k19 true)
                                      (callG Try.prog 20 #[(Value.pointer p15)] [(VT.one (CT.int IntKind.i64))]
                                        (fun (n93 : Int) => k19 (n93 != (1 : Int)))))
                                    (ldG CT.slice (Addr.mk m7 4 Option.none)
                                      (fun (l94 : Sl) => ldG (CT.int IntKind.i64) (Addr.mk m7 5 Option.none)
                                        (fun (n95 : Int) => ldG (CT.int IntKind.i64) (Addr.mk m7 6 Option.none)
                                          (fun (n96 : Int) => callG Try.prog 14 #[(Value.pointer p15), (Value.agg #[(Value.slice (Sl.a l94) (Sl.n l94) (Sl.c l94)), (Value.int IntKind.i64 n95), (Value.int IntKind.i64 n96)])] [(VT.one (CT.int IntKind.i64))]
                                            (fun (n97 : Int) => iteG (n97 != (1 : Int))
                                              (k19 true)
                                              (callG Try.prog 20 #[(Value.pointer p15)] [(VT.one (CT.int IntKind.i64))]
                                                (fun (n98 : Int) => k19 (n98 != (1 : Int))))))))))
                                  (ldG (CT.int IntKind.i64) (Addr.mk m7 1 Option.none)
                                    (fun (n99 : Int) => ldG CT.slice (Addr.mk m7 4 Option.none)
                                      (fun (l100 : Sl) => ldG (CT.int IntKind.i64) (Addr.mk m7 5 Option.none)
                                        (fun (n101 : Int) => ldG (CT.int IntKind.i64) (Addr.mk m7 6 Option.none)
                                          (fun (n102 : Int) => callG Try.prog 11 #[(Value.pointer p15), (Value.int IntKind.i64 n99), (Value.agg #[(Value.slice (Sl.a l100) (Sl.n l100) (Sl.c l100)), (Value.int IntKind.i64 n101), (Value.int IntKind.i64 n102)])] [(VT.one (CT.int IntKind.i64))]
                                            (fun (n103 : Int) => iteG (n103 != (1 : Int))
                                              (iteG true
                                                (k19 true)
                                                (callG Try.prog 20 #[(Value.pointer p15)] [(VT.one (CT.int IntKind.i64))]
                                                  (fun (n104 : Int) => k19 (n104 != (1 : Int)))))
                                              (ldG CT.slice (Addr.mk m7 4 Option.none)
                                                (fun (l105 : Sl) => ldG (CT.int IntKind.i64) (Addr.mk m7 5 Option.none)
                                                  (fun (n106 : Int) => ldG (CT.int IntKind.i64) (Addr.mk m7 6 Option.none)
                                                    (fun (n107 : Int) => callG Try.prog 14 #[(Value.pointer p15), (Value.agg #[(Value.slice (Sl.a l105) (Sl.n l105) (Sl.c l105)), (Value.int IntKind.i64 n106), (Value.int IntKind.i64 n107)])] [(VT.one (CT.int IntKind.i64))]
                                                      (fun (n108 : Int) => iteG (n108 != (1 : Int))
                                                        (k19 true)
                                                        (callG Try.prog 20 #[(Value.pointer p15)] [(VT.one (CT.int IntKind.i64))]
                                                          (fun (n109 : Int) => k19 (n109 != (1 : Int))))))))))))))))
                                (callG Try.prog 19 #[(Value.pointer p15)] [(VT.one (CT.int IntKind.i64))]
                                  (fun (n110 : Int) => iteG (n110 != (1 : Int))
                                    (iteG true
                                      (iteG true
                                        (k19 true)
                                        (callG Try.prog 20 #[(Value.pointer p15)] [(VT.one (CT.int IntKind.i64))]
                                          (fun (n111 : Int) => k19 (n111 != (1 : Int)))))
                                      (ldG CT.slice (Addr.mk m7 4 Option.none)
                                        (fun (l112 : Sl) => ldG (CT.int IntKind.i64) (Addr.mk m7 5 Option.none)
                                          (fun (n113 : Int) => ldG (CT.int IntKind.i64) (Addr.mk m7 6 Option.none)
                                            (fun (n114 : Int) => callG Try.prog 14 #[(Value.pointer p15), (Value.agg #[(Value.slice (Sl.a l112) (Sl.n l112) (Sl.c l112)), (Value.int IntKind.i64 n113), (Value.int IntKind.i64 n114)])] [(VT.one (CT.int IntKind.i64))]
                                              (fun (n115 : Int) => iteG (n115 != (1 : Int))
                                                (k19 true)
                                                (callG Try.prog 20 #[(Value.pointer p15)] [(VT.one (CT.int IntKind.i64))]
                                                  (fun (n116 : Int) => k19 (n116 != (1 : Int))))))))))
                                    (ldG (CT.int IntKind.i64) (Addr.mk m7 1 Option.none)
                                      (fun (n117 : Int) => ldG CT.slice (Addr.mk m7 4 Option.none)
                                        (fun (l118 : Sl) => ldG (CT.int IntKind.i64) (Addr.mk m7 5 Option.none)
                                          (fun (n119 : Int) => ldG (CT.int IntKind.i64) (Addr.mk m7 6 Option.none)
                                            (fun (n120 : Int) => callG Try.prog 11 #[(Value.pointer p15), (Value.int IntKind.i64 n117), (Value.agg #[(Value.slice (Sl.a l118) (Sl.n l118) (Sl.c l118)), (Value.int IntKind.i64 n119), (Value.int IntKind.i64 n120)])] [(VT.one (CT.int IntKind.i64))]
                                              (fun (n121 : Int) => iteG (n121 != (1 : Int))
                                                (iteG true
                                                  (k19 true)
                                                  (callG Try.prog 20 #[(Value.pointer p15)] [(VT.one (CT.int IntKind.i64))]
                                                    (fun (n122 : Int) => k19 (n122 != (1 : Int)))))
                                                (ldG CT.slice (Addr.mk m7 4 Option.none)
                                                  (fun (l123 : Sl) => ldG (CT.int IntKind.i64) (Addr.mk m7 5 Option.none)
                                                    (fun (n124 : Int) => ldG (CT.int IntKind.i64) (Addr.mk m7 6 Option.none)
                                                      (fun (n125 : Int) => callG Try.prog 14 #[(Value.pointer p15), (Value.agg #[(Value.slice (Sl.a l123) (Sl.n l123) (Sl.c l123)), (Value.int IntKind.i64 n124), (Value.int IntKind.i64 n125)])] [(VT.one (CT.int IntKind.i64))]
                                                        (fun (n126 : Int) => iteG (n126 != (1 : Int))
                                                          (k19 true)
                                                          (callG Try.prog 20 #[(Value.pointer p15)] [(VT.one (CT.int IntKind.i64))]
                                                            (fun (n127 : Int) => k19 (n127 != (1 : Int))))))))))))))))))
                              (ldG (CT.int IntKind.i64) (Addr.mk m7 1 Option.none)
                                (fun (n128 : Int) => ldG CT.str (Addr.mk m7 2 Option.none)
                                  (fun (s129 : ByteArray) => callG Try.prog 12 #[(Value.pointer p15), (Value.int IntKind.i64 n128), (Value.string s129)] [(VT.one (CT.int IntKind.i64))]
                                    (fun (n130 : Int) => iteG (n130 != (1 : Int))
                                      (iteG true
                                        (iteG true
                                          (iteG true
                                            (k19 true)
                                            (callG Try.prog 20 #[(Value.pointer p15)] [(VT.one (CT.int IntKind.i64))]
                                              (fun (n131 : Int) => k19 (n131 != (1 : Int)))))
                                          (ldG CT.slice (Addr.mk m7 4 Option.none)
                                            (fun (l132 : Sl) => ldG (CT.int IntKind.i64) (Addr.mk m7 5 Option.none)
                                              (fun (n133 : Int) => ldG (CT.int IntKind.i64) (Addr.mk m7 6 Option.none)
                                                (fun (n134 : Int) => callG Try.prog 14 #[(Value.pointer p15), (Value.agg #[(Value.slice (Sl.a l132) (Sl.n l132) (Sl.c l132)), (Value.int IntKind.i64 n133), (Value.int IntKind.i64 n134)])] [(VT.one (CT.int IntKind.i64))]
                                                  (fun (n135 : Int) => iteG (n135 != (1 : Int))
                                                    (k19 true)
                                                    (callG Try.prog 20 #[(Value.pointer p15)] [(VT.one (CT.int IntKind.i64))]
                                                      (fun (n136 : Int) => k19 (n136 != (1 : Int))))))))))
                                        (ldG (CT.int IntKind.i64) (Addr.mk m7 1 Option.none)
                                          (fun (n137 : Int) => ldG CT.slice (Addr.mk m7 4 Option.none)
                                            (fun (l138 : Sl) => ldG (CT.int IntKind.i64) (Addr.mk m7 5 Option.none)
                                              (fun (n139 : Int) => ldG (CT.int IntKind.i64) (Addr.mk m7 6 Option.none)
                                                (fun (n140 : Int) => callG Try.prog 11 #[(Value.pointer p15), (Value.int IntKind.i64 n137), (Value.agg #[(Value.slice (Sl.a l138) (Sl.n l138) (Sl.c l138)), (Value.int IntKind.i64 n139), (Value.int IntKind.i64 n140)])] [(VT.one (CT.int IntKind.i64))]
                                                  (fun (n141 : Int) => iteG (n141 != (1 : Int))
                                                    (iteG true
                                                      (k19 true)
                                                      (callG Try.prog 20 #[(Value.pointer p15)] [(VT.one (CT.int IntKind.i64))]
                                                        (fun (n142 : Int) => k19 (n142 != (1 : Int)))))
                                                    (ldG CT.slice (Addr.mk m7 4 Option.none)
                                                      (fun (l143 : Sl) => ldG (CT.int IntKind.i64) (Addr.mk m7 5 Option.none)
                                                        (fun (n144 : Int) => ldG (CT.int IntKind.i64) (Addr.mk m7 6 Option.none)
                                                          (fun (n145 : Int) => callG Try.prog 14 #[(Value.pointer p15), (Value.agg #[(Value.slice (Sl.a l143) (Sl.n l143) (Sl.c l143)), (Value.int IntKind.i64 n144), (Value.int IntKind.i64 n145)])] [(VT.one (CT.int IntKind.i64))]
                                                            (fun (n146 : Int) => iteG (n146 != (1 : Int))
                                                              (k19 true)
                                                              (callG Try.prog 20 #[(Value.pointer p15)] [(VT.one (CT.int IntKind.i64))]
                                                                (fun (n147 : Int) => k19 (n147 != (1 : Int))))))))))))))))
                                      (callG Try.prog 19 #[(Value.pointer p15)] [(VT.one (CT.int IntKind.i64))]
                                        (fun (n148 : Int) => iteG (n148 != (1 : Int))
                                          (iteG true
                                            (iteG true
                                              (k19 true)
                                              (callG Try.prog 20 #[(Value.pointer p15)] [(VT.one (CT.int IntKind.i64))]
                                                (fun (n149 : Int) => k19 (n149 != (1 : Int)))))
                                            (ldG CT.slice (Addr.mk m7 4 Option.none)
                                              (fun (l150 : Sl) => ldG (CT.int IntKind.i64) (Addr.mk m7 5 Option.none)
                                                (fun (n151 : Int) => ldG (CT.int IntKind.i64) (Addr.mk m7 6 Option.none)
                                                  (fun (n152 : Int) => callG Try.prog 14 #[(Value.pointer p15), (Value.agg #[(Value.slice (Sl.a l150) (Sl.n l150) (Sl.c l150)), (Value.int IntKind.i64 n151), (Value.int IntKind.i64 n152)])] [(VT.one (CT.int IntKind.i64))]
                                                    (fun (n153 : Int) => iteG (n153 != (1 : Int))
                                                      (k19 true)
                                                      (callG Try.prog 20 #[(Value.pointer p15)] [(VT.one (CT.int IntKind.i64))]
                                                        (fun (n154 : Int) => k19 (n154 != (1 : Int))))))))))
                                          (ldG (CT.int IntKind.i64) (Addr.mk m7 1 Option.none)
                                            (fun (n155 : Int) => ldG CT.slice (Addr.mk m7 4 Option.none)
                                              (fun (l156 : Sl) => ldG (CT.int IntKind.i64) (Addr.mk m7 5 Option.none)
                                                (fun (n157 : Int) => ldG (CT.int IntKind.i64) (Addr.mk m7 6 Option.none)
                                                  (fun (n158 : Int) => callG Try.prog 11 #[(Value.pointer p15), (Value.int IntKind.i64 n155), (Value.agg #[(Value.slice (Sl.a l156) (Sl.n l156) (Sl.c l156)), (Value.int IntKind.i64 n157), (Value.int IntKind.i64 n158)])] [(VT.one (CT.int IntKind.i64))]
                                                    (fun (n159 : Int) => iteG (n159 != (1 : Int))
                                                      (iteG true
                                                        (k19 true)
                                                        (callG Try.prog 20 #[(Value.pointer p15)] [(VT.one (CT.int IntKind.i64))]
                                                          (fun (n160 : Int) => k19 (n160 != (1 : Int)))))
                                                      (ldG CT.slice (Addr.mk m7 4 Option.none)
                                                        (fun (l161 : Sl) => ldG (CT.int IntKind.i64) (Addr.mk m7 5 Option.none)
                                                          (fun (n162 : Int) => ldG (CT.int IntKind.i64) (Addr.mk m7 6 Option.none)
                                                            (fun (n163 : Int) => callG Try.prog 14 #[(Value.pointer p15), (Value.agg #[(Value.slice (Sl.a l161) (Sl.n l161) (Sl.c l161)), (Value.int IntKind.i64 n162), (Value.int IntKind.i64 n163)])] [(VT.one (CT.int IntKind.i64))]
                                                              (fun (n164 : Int) => iteG (n164 != (1 : Int))
                                                                (k19 true)
                                                                (callG Try.prog 20 #[(Value.pointer p15)] [(VT.one (CT.int IntKind.i64))]
                                                                  (fun (n165 : Int) => k19 (n165 != (1 : Int)))))))))))))))))))))))
                          (fun (b166 : Bool) => iteG b166
                            (retG (Value.bool false))
                            (joinG [(VT.one CT.bool)]
                              (fun k167 => callG Try.prog 15 #[(Value.pointer p15)] [(VT.one CT.bool)]
                                (fun (b168 : Bool) => iteG b168
                                  (iteG true
                                    (k167 true)
                                    (callG Try.prog 16 #[(Value.pointer p15)] [(VT.one CT.str)]
                                      (fun (s169 : ByteArray) => k167 (!ByteArray.toList s169 == ByteArray.toList (ByteArray.mk #[])))))
                                  (callG Try.prog 25 #[(Value.pointer p15)] [(VT.one (CT.int IntKind.i64))]
                                    (fun (n170 : Int) => callG Try.prog 17 #[(Value.pointer p15)] [(VT.one (CT.int IntKind.i64))]
                                      (fun (n171 : Int) => iteG (IntKind.wrap IntKind.i64 (n170 + n171) != (0 : Int))
                                        (k167 true)
                                        (callG Try.prog 16 #[(Value.pointer p15)] [(VT.one CT.str)]
                                          (fun (s172 : ByteArray) => k167 (!ByteArray.toList s172 == ByteArray.toList (ByteArray.mk #[])))))))))
                              (fun (b173 : Bool) => iteG b173
                                (retG (Value.bool false))
                                (k13)))))))))
                (k11 (IntKind.wrap IntKind.i64 (n12 + (1 : Int)))))
              (k10)) (0 : Int))
          (callG Try.prog 9 #[] [(VT.one CT.bool)]
            (fun (b174 : Bool) => retG (Value.bool b174))))))
theorem e7 : denF Try.prog (GA Try.prog) Try.f7 [(VT.agg [(CT.int IntKind.i64), (CT.int IntKind.i64), CT.str, CT.bool, CT.slice, (CT.int IntKind.i64), (CT.int IntKind.i64)])] (.seq .leaf (.seq (.seq .leaf (.block (sl Try.prog []) (.loop (sl Try.prog [(11, 3)]) (.seq .leaf (.seq .leaf (.seq (.block (sl Try.prog []) (.seq .leaf (.seq .leaf (.seq (.seq (.r (sl Try.prog [(62, 4)])) .leaf) (.seq (.r (sl Try.prog [(77, 4)])) .leaf))))) .leaf)))))) .leaf)) = t7 := by kernel_rfl
theorem c7 (x0 : Int) (x1 : Int) (x2 : ByteArray) (x3 : Bool) (x4 : Sl) (x5 : Int) (x6 : Int) {R : Ending → World → Prop} {w : World} (h : t7 x0 x1 x2 x3 x4 x5 x6 R w) : Calls Try.prog 7 #[.agg #[.int .i64 x0, .int .i64 x1, .string x2, .bool x3, .slice x4.a x4.n x4.c, .int .i64 x5, .int .i64 x6]] w R :=
  lift mixed Try.func7 e7 rfl ((x0, x1, x2, x3, x4, x5, x6, ()), ()) R w h

/-- pandectlaw19.DiskLoads -/
def t8 : ByteArray → Sl → G :=
  fun (s0 : ByteArray) => fun (l1 : Sl) => joinG [(VT.one CT.bool)]
    (fun k2 => callG Try.prog 23 #[(Value.slice (Sl.a l1) (Sl.n l1) (Sl.c l1))] [(VT.one CT.bool)]
      (fun (b3 : Bool) => iteG (!b3)
        (k2 true)
        (k2 (Decidable.decide ((↑(ByteArray.size s0) : Int) > (300000 : Int))))))
    (fun (b4 : Bool) => iteG b4
      (callG Try.prog 9 #[] [(VT.one CT.bool)]
        (fun (b5 : Bool) => retG (Value.bool b5)))
      (callG Try.prog 28 #[(Value.string s0)] [(VT.one CT.ptr), (VT.one (CT.int IntKind.i64))]
        (fun (p6 : Option Addr) => fun (n7 : Int) => callG Try.prog 29 #[(Value.string s0)] [(VT.one CT.ptr), (VT.one (CT.int IntKind.i64))]
          (fun (p8 : Option Addr) => fun (n9 : Int) => joinG [(VT.one CT.bool)]
            (fun k10 => iteG (n7 != n9)
              (iteG true
                (k10 true)
                (k10 (Option.isNone p8)))
              (iteG (!Option.isNone p6 == Option.isNone p8)
                (k10 true)
                (k10 (Option.isNone p8))))
            (fun (b11 : Bool) => iteG b11
              (joinG [(VT.one CT.bool)]
                (fun k12 => iteG (n7 == n9)
                  (iteG (Option.isNone p6 == Option.isNone p8)
                    (callG Try.prog 9 #[] [(VT.one CT.bool)]
                      (fun (b13 : Bool) => k12 b13))
                    (k12 false))
                  (iteG false
                    (callG Try.prog 9 #[] [(VT.one CT.bool)]
                      (fun (b14 : Bool) => k12 b14))
                    (k12 false)))
                (fun (b15 : Bool) => retG (Value.bool b15)))
              (iteG (Decidable.decide ((↑(ByteArray.size s0) : Int) > (2560 : Int)))
                (joinG [(VT.one CT.bool)]
                  (fun k16 => callG Try.prog 16 #[(Value.pointer p6)] [(VT.one CT.str)]
                    (fun (s17 : ByteArray) => iteG (ByteArray.toList s17 == ByteArray.toList s0)
                      (callG Try.prog 9 #[] [(VT.one CT.bool)]
                        (fun (b18 : Bool) => k16 b18))
                      (k16 false)))
                  (fun (b19 : Bool) => retG (Value.bool b19)))
                (joinG []
                  (fun k20 => loopG [(VT.one (CT.int IntKind.i64))]
                    (fun k21 => fun (n22 : Int) => iteG (Decidable.decide (n22 < (↑(Sl.n l1) : Int)))
                      (joinG []
                        (fun k23 => joinG [(VT.one CT.bool)]
                          (fun k24 => idxG (Sl.a l1) (Sl.n l1) n22 7
                            (fun (a25 : Addr) => ldG (CT.int IntKind.i64) (Addr.add a25 0)
                              (fun (n26 : Int) => ldG (CT.int IntKind.i64) (Addr.add a25 1)
                                (fun (n27 : Int) => ldG CT.str (Addr.add a25 2)
                                  (fun (s28 : ByteArray) => ldG CT.bool (Addr.add a25 3)
                                    (fun (b29 : Bool) => ldG CT.slice (Addr.add a25 4)
                                      (fun (l30 : Sl) => ldG (CT.int IntKind.i64) (Addr.add a25 5)
                                        (fun (n31 : Int) => ldG (CT.int IntKind.i64) (Addr.add a25 6)
                                          (fun (n32 : Int) => callG Try.prog 24 #[(Value.pointer p6), (Value.pointer p8), (Value.agg #[(Value.int IntKind.i64 n26), (Value.int IntKind.i64 n27), (Value.string s28), (Value.bool b29), (Value.slice (Sl.a l30) (Sl.n l30) (Sl.c l30)), (Value.int IntKind.i64 n31), (Value.int IntKind.i64 n32)])] [(VT.one CT.bool)]
                                            (fun (b33 : Bool) => iteG (!b33)
                                              (k24 true)
                                              (callG Try.prog 16 #[(Value.pointer p6)] [(VT.one CT.str)]
                                                (fun (s34 : ByteArray) => callG Try.prog 26 #[(Value.pointer p8)] [(VT.one CT.str)]
                                                  (fun (s35 : ByteArray) => k24 (!ByteArray.toList s34 == ByteArray.toList s35))))))))))))))
                          (fun (b36 : Bool) => iteG b36
                            (retG (Value.bool false))
                            (k23)))
                        (k21 (IntKind.wrap IntKind.i64 (n22 + (1 : Int)))))
                      (k20)) (0 : Int))
                  (joinG [(VT.one CT.bool)]
                    (fun k37 => callG Try.prog 16 #[(Value.pointer p6)] [(VT.one CT.str)]
                      (fun (s38 : ByteArray) => callG Try.prog 26 #[(Value.pointer p8)] [(VT.one CT.str)]
                        (fun (s39 : ByteArray) => iteG (ByteArray.toList s38 == ByteArray.toList s39)
                          (callG Try.prog 9 #[] [(VT.one CT.bool)]
                            (fun (b40 : Bool) => k37 b40))
                          (k37 false))))
                    (fun (b41 : Bool) => retG (Value.bool b41))))))))))
theorem e8 : denF Try.prog (GA Try.prog) Try.f8 [(VT.one CT.str), (VT.one CT.slice)] (.seq .leaf (.seq (.seq (.r (sl Try.prog [(17, 4)])) .leaf) (.seq .leaf (.seq .leaf (.seq (.seq (.r (sl Try.prog [(42, 4)])) (.cond (.seq (.r (sl Try.prog [(4, 4)])) .leaf) .leaf)) (.seq (.seq .leaf (.cond (.seq (.r (sl Try.prog [(4, 4)])) .leaf) .leaf)) (.seq (.seq .leaf (.block (sl Try.prog []) (.loop (sl Try.prog [(9, 3)]) (.seq .leaf (.seq (.block (sl Try.prog []) (.seq (.r (sl Try.prog [(86, 4)])) .leaf)) .leaf))))) (.seq (.r (sl Try.prog [(4, 4)])) .leaf)))))))) = t8 := by kernel_rfl
theorem c8 (x0 : ByteArray) (x1 : Sl) {R : Ending → World → Prop} {w : World} (h : t8 x0 x1 R w) : Calls Try.prog 8 #[.string x0, .slice x1.a x1.n x1.c] w R :=
  lift mixed Try.func8 e8 rfl ((x0, ()), (x1, ()), ()) R w h

/-- pandectlaw19.awake -/
def t9 : G :=
  callG Try.prog 10 #[(Value.int IntKind.i64 (2 : Int))] [(VT.one CT.ptr), (VT.one (CT.int IntKind.i64))]
    (fun (p0 : Option Addr) => fun (n1 : Int) => joinG [(VT.one CT.bool)]
      (fun k2 => iteG (n1 != (0 : Int))
        (iteG true
          (iteG true
            (iteG true
              (iteG true
                (iteG true
                  (k2 true)
                  (callG Try.prog 20 #[(Value.pointer p0)] [(VT.one (CT.int IntKind.i64))]
                    (fun (n3 : Int) => k2 (n3 != (0 : Int)))))
                (callG Try.prog 15 #[(Value.pointer p0)] [(VT.one CT.bool)]
                  (fun (b4 : Bool) => iteG (!b4)
                    (k2 true)
                    (callG Try.prog 20 #[(Value.pointer p0)] [(VT.one (CT.int IntKind.i64))]
                      (fun (n5 : Int) => k2 (n5 != (0 : Int)))))))
              (callG Try.prog 14 #[(Value.pointer p0), (Value.agg #[(Value.slice Option.none 0 0), (Value.int IntKind.i64 (1 : Int)), (Value.int IntKind.i64 (2 : Int))])] [(VT.one (CT.int IntKind.i64))]
                (fun (n6 : Int) => iteG (n6 != (0 : Int))
                  (iteG true
                    (k2 true)
                    (callG Try.prog 20 #[(Value.pointer p0)] [(VT.one (CT.int IntKind.i64))]
                      (fun (n7 : Int) => k2 (n7 != (0 : Int)))))
                  (callG Try.prog 15 #[(Value.pointer p0)] [(VT.one CT.bool)]
                    (fun (b8 : Bool) => iteG (!b8)
                      (k2 true)
                      (callG Try.prog 20 #[(Value.pointer p0)] [(VT.one (CT.int IntKind.i64))]
                        (fun (n9 : Int) => k2 (n9 != (0 : Int)))))))))
            (callG Try.prog 13 #[(Value.string (ByteArray.mk #[120, 121, 122]))] [(VT.one CT.str)]
              (fun (s10 : ByteArray) => callG Try.prog 12 #[(Value.pointer p0), (Value.int IntKind.i64 (0 : Int)), (Value.string s10)] [(VT.one (CT.int IntKind.i64))]
                (fun (n11 : Int) => iteG (n11 != (0 : Int))
                  (iteG true
                    (iteG true
                      (k2 true)
                      (callG Try.prog 20 #[(Value.pointer p0)] [(VT.one (CT.int IntKind.i64))]
                        (fun (n12 : Int) => k2 (n12 != (0 : Int)))))
                    (callG Try.prog 15 #[(Value.pointer p0)] [(VT.one CT.bool)]
                      (fun (b13 : Bool) => iteG (!b13)
                        (k2 true)
                        (callG Try.prog 20 #[(Value.pointer p0)] [(VT.one (CT.int IntKind.i64))]
                          (fun (n14 : Int) => k2 (n14 != (0 : Int)))))))
                  (callG Try.prog 14 #[(Value.pointer p0), (Value.agg #[(Value.slice Option.none 0 0), (Value.int IntKind.i64 (1 : Int)), (Value.int IntKind.i64 (2 : Int))])] [(VT.one (CT.int IntKind.i64))]
                    (fun (n15 : Int) => iteG (n15 != (0 : Int))
                      (iteG true
                        (k2 true)
                        (callG Try.prog 20 #[(Value.pointer p0)] [(VT.one (CT.int IntKind.i64))]
                          (fun (n16 : Int) => k2 (n16 != (0 : Int)))))
                      (callG Try.prog 15 #[(Value.pointer p0)] [(VT.one CT.bool)]
                        (fun (b17 : Bool) => iteG (!b17)
                          (k2 true)
                          (callG Try.prog 20 #[(Value.pointer p0)] [(VT.one (CT.int IntKind.i64))]
                            (fun (n18 : Int) => k2 (n18 != (0 : Int))))))))))))
          (callG Try.prog 25 #[(Value.pointer p0)] [(VT.one (CT.int IntKind.i64))]
            (fun (n19 : Int) => iteG (n19 != (2 : Int))
              (iteG true
                (iteG true
                  (iteG true
                    (k2 true)
                    (callG Try.prog 20 #[(Value.pointer p0)] [(VT.one (CT.int IntKind.i64))]
                      (fun (n20 : Int) => k2 (n20 != (0 : Int)))))
                  (callG Try.prog 15 #[(Value.pointer p0)] [(VT.one CT.bool)]
                    (fun (b21 : Bool) => iteG (!b21)
                      (k2 true)
                      (callG Try.prog 20 #[(Value.pointer p0)] [(VT.one (CT.int IntKind.i64))]
                        (fun (n22 : Int) => k2 (n22 != (0 : Int)))))))
                (callG Try.prog 14 #[(Value.pointer p0), (Value.agg #[(Value.slice Option.none 0 0), (Value.int IntKind.i64 (1 : Int)), (Value.int IntKind.i64 (2 : Int))])] [(VT.one (CT.int IntKind.i64))]
                  (fun (n23 : Int) => iteG (n23 != (0 : Int))
                    (iteG true
                      (k2 true)
                      (callG Try.prog 20 #[(Value.pointer p0)] [(VT.one (CT.int IntKind.i64))]
                        (fun (n24 : Int) => k2 (n24 != (0 : Int)))))
                    (callG Try.prog 15 #[(Value.pointer p0)] [(VT.one CT.bool)]
                      (fun (b25 : Bool) => iteG (!b25)
                        (k2 true)
                        (callG Try.prog 20 #[(Value.pointer p0)] [(VT.one (CT.int IntKind.i64))]
                          (fun (n26 : Int) => k2 (n26 != (0 : Int)))))))))
              (callG Try.prog 13 #[(Value.string (ByteArray.mk #[120, 121, 122]))] [(VT.one CT.str)]
                (fun (s27 : ByteArray) => callG Try.prog 12 #[(Value.pointer p0), (Value.int IntKind.i64 (0 : Int)), (Value.string s27)] [(VT.one (CT.int IntKind.i64))]
                  (fun (n28 : Int) => iteG (n28 != (0 : Int))
                    (iteG true
                      (iteG true
                        (k2 true)
                        (callG Try.prog 20 #[(Value.pointer p0)] [(VT.one (CT.int IntKind.i64))]
                          (fun (n29 : Int) => k2 (n29 != (0 : Int)))))
                      (callG Try.prog 15 #[(Value.pointer p0)] [(VT.one CT.bool)]
                        (fun (b30 : Bool) => iteG (!b30)
                          (k2 true)
                          (callG Try.prog 20 #[(Value.pointer p0)] [(VT.one (CT.int IntKind.i64))]
                            (fun (n31 : Int) => k2 (n31 != (0 : Int)))))))
                    (callG Try.prog 14 #[(Value.pointer p0), (Value.agg #[(Value.slice Option.none 0 0), (Value.int IntKind.i64 (1 : Int)), (Value.int IntKind.i64 (2 : Int))])] [(VT.one (CT.int IntKind.i64))]
                      (fun (n32 : Int) => iteG (n32 != (0 : Int))
                        (iteG true
                          (k2 true)
                          (callG Try.prog 20 #[(Value.pointer p0)] [(VT.one (CT.int IntKind.i64))]
                            (fun (n33 : Int) => k2 (n33 != (0 : Int)))))
                        (callG Try.prog 15 #[(Value.pointer p0)] [(VT.one CT.bool)]
                          (fun (b34 : Bool) => iteG (!b34)
                            (k2 true)
                            (callG Try.prog 20 #[(Value.pointer p0)] [(VT.one (CT.int IntKind.i64))]
                              (fun (n35 : Int) => k2 (n35 != (0 : Int))))))))))))))
        (iteG (Option.isNone p0)
          (iteG true
            (iteG true
              (iteG true
                (iteG true
                  (k2 true)
                  (callG Try.prog 20 #[(Value.pointer p0)] [(VT.one (CT.int IntKind.i64))]
                    (fun (n36 : Int) => k2 (n36 != (0 : Int)))))
                (callG Try.prog 15 #[(Value.pointer p0)] [(VT.one CT.bool)]
                  (fun (b37 : Bool) => iteG (!b37)
                    (k2 true)
                    (callG Try.prog 20 #[(Value.pointer p0)] [(VT.one (CT.int IntKind.i64))]
                      (fun (n38 : Int) => k2 (n38 != (0 : Int)))))))
              (callG Try.prog 14 #[(Value.pointer p0), (Value.agg #[(Value.slice Option.none 0 0), (Value.int IntKind.i64 (1 : Int)), (Value.int IntKind.i64 (2 : Int))])] [(VT.one (CT.int IntKind.i64))]
                (fun (n39 : Int) => iteG (n39 != (0 : Int))
                  (iteG true
                    (k2 true)
                    (callG Try.prog 20 #[(Value.pointer p0)] [(VT.one (CT.int IntKind.i64))]
                      (fun (n40 : Int) => k2 (n40 != (0 : Int)))))
                  (callG Try.prog 15 #[(Value.pointer p0)] [(VT.one CT.bool)]
                    (fun (b41 : Bool) => iteG (!b41)
                      (k2 true)
                      (callG Try.prog 20 #[(Value.pointer p0)] [(VT.one (CT.int IntKind.i64))]
                        (fun (n42 : Int) => k2 (n42 != (0 : Int)))))))))
            (callG Try.prog 13 #[(Value.string (ByteArray.mk #[120, 121, 122]))] [(VT.one CT.str)]
              (fun (s43 : ByteArray) => callG Try.prog 12 #[(Value.pointer p0), (Value.int IntKind.i64 (0 : Int)), (Value.string s43)] [(VT.one (CT.int IntKind.i64))]
                (fun (n44 : Int) => iteG (n44 != (0 : Int))
                  (iteG true
                    (iteG true
                      (k2 true)
                      (callG Try.prog 20 #[(Value.pointer p0)] [(VT.one (CT.int IntKind.i64))]
                        (fun (n45 : Int) => k2 (n45 != (0 : Int)))))
                    (callG Try.prog 15 #[(Value.pointer p0)] [(VT.one CT.bool)]
                      (fun (b46 : Bool) => iteG (!b46)
                        (k2 true)
                        (callG Try.prog 20 #[(Value.pointer p0)] [(VT.one (CT.int IntKind.i64))]
                          (fun (n47 : Int) => k2 (n47 != (0 : Int)))))))
                  (callG Try.prog 14 #[(Value.pointer p0), (Value.agg #[(Value.slice Option.none 0 0), (Value.int IntKind.i64 (1 : Int)), (Value.int IntKind.i64 (2 : Int))])] [(VT.one (CT.int IntKind.i64))]
                    (fun (n48 : Int) => iteG (n48 != (0 : Int))
                      (iteG true
                        (k2 true)
                        (callG Try.prog 20 #[(Value.pointer p0)] [(VT.one (CT.int IntKind.i64))]
                          (fun (n49 : Int) => k2 (n49 != (0 : Int)))))
                      (callG Try.prog 15 #[(Value.pointer p0)] [(VT.one CT.bool)]
                        (fun (b50 : Bool) => iteG (!b50)
                          (k2 true)
                          (callG Try.prog 20 #[(Value.pointer p0)] [(VT.one (CT.int IntKind.i64))]
                            (fun (n51 : Int) => k2 (n51 != (0 : Int))))))))))))
          (callG Try.prog 25 #[(Value.pointer p0)] [(VT.one (CT.int IntKind.i64))]
            (fun (n52 : Int) => iteG (n52 != (2 : Int))
              (iteG true
                (iteG true
                  (iteG true
                    (k2 true)
                    (callG Try.prog 20 #[(Value.pointer p0)] [(VT.one (CT.int IntKind.i64))]
                      (fun (n53 : Int) => k2 (n53 != (0 : Int)))))
                  (callG Try.prog 15 #[(Value.pointer p0)] [(VT.one CT.bool)]
                    (fun (b54 : Bool) => iteG (!b54)
                      (k2 true)
                      (callG Try.prog 20 #[(Value.pointer p0)] [(VT.one (CT.int IntKind.i64))]
                        (fun (n55 : Int) => k2 (n55 != (0 : Int)))))))
                (callG Try.prog 14 #[(Value.pointer p0), (Value.agg #[(Value.slice Option.none 0 0), (Value.int IntKind.i64 (1 : Int)), (Value.int IntKind.i64 (2 : Int))])] [(VT.one (CT.int IntKind.i64))]
                  (fun (n56 : Int) => iteG (n56 != (0 : Int))
                    (iteG true
                      (k2 true)
                      (callG Try.prog 20 #[(Value.pointer p0)] [(VT.one (CT.int IntKind.i64))]
                        (fun (n57 : Int) => k2 (n57 != (0 : Int)))))
                    (callG Try.prog 15 #[(Value.pointer p0)] [(VT.one CT.bool)]
                      (fun (b58 : Bool) => iteG (!b58)
                        (k2 true)
                        (callG Try.prog 20 #[(Value.pointer p0)] [(VT.one (CT.int IntKind.i64))]
                          (fun (n59 : Int) => k2 (n59 != (0 : Int)))))))))
              (callG Try.prog 13 #[(Value.string (ByteArray.mk #[120, 121, 122]))] [(VT.one CT.str)]
                (fun (s60 : ByteArray) => callG Try.prog 12 #[(Value.pointer p0), (Value.int IntKind.i64 (0 : Int)), (Value.string s60)] [(VT.one (CT.int IntKind.i64))]
                  (fun (n61 : Int) => iteG (n61 != (0 : Int))
                    (iteG true
                      (iteG true
                        (k2 true)
                        (callG Try.prog 20 #[(Value.pointer p0)] [(VT.one (CT.int IntKind.i64))]
                          (fun (n62 : Int) => k2 (n62 != (0 : Int)))))
                      (callG Try.prog 15 #[(Value.pointer p0)] [(VT.one CT.bool)]
                        (fun (b63 : Bool) => iteG (!b63)
                          (k2 true)
                          (callG Try.prog 20 #[(Value.pointer p0)] [(VT.one (CT.int IntKind.i64))]
                            (fun (n64 : Int) => k2 (n64 != (0 : Int)))))))
                    (callG Try.prog 14 #[(Value.pointer p0), (Value.agg #[(Value.slice Option.none 0 0), (Value.int IntKind.i64 (1 : Int)), (Value.int IntKind.i64 (2 : Int))])] [(VT.one (CT.int IntKind.i64))]
                      (fun (n65 : Int) => iteG (n65 != (0 : Int))
                        (iteG true
                          (k2 true)
                          (callG Try.prog 20 #[(Value.pointer p0)] [(VT.one (CT.int IntKind.i64))]
                            (fun (n66 : Int) => k2 (n66 != (0 : Int)))))
                        (callG Try.prog 15 #[(Value.pointer p0)] [(VT.one CT.bool)]
                          (fun (b67 : Bool) => iteG (!b67)
                            (k2 true)
                            (callG Try.prog 20 #[(Value.pointer p0)] [(VT.one (CT.int IntKind.i64))]
                              (fun (n68 : Int) => k2 (n68 != (0 : Int)))))))))))))))
      (fun (b69 : Bool) => iteG b69
        (retG (Value.bool false))
        (callG Try.prog 27 #[(Value.pointer p0), (Value.int IntKind.i64 (0 : Int))] [(VT.one CT.str), (VT.one (CT.int IntKind.i64))]
          (fun (s70 : ByteArray) => fun (n71 : Int) => joinG [(VT.one CT.bool)]
            (fun k72 => callG Try.prog 13 #[(Value.string (ByteArray.mk #[120, 121]))] [(VT.one CT.str)]
              (fun (s73 : ByteArray) => iteG (ByteArray.toList s70 == ByteArray.toList s73)
                (iteG (n71 == (0 : Int))
                  (callG Try.prog 17 #[(Value.pointer p0)] [(VT.one (CT.int IntKind.i64))]
                    (fun (n74 : Int) => iteG (n74 == (1 : Int))
                      (callG Try.prog 12 #[(Value.pointer p0), (Value.int IntKind.i64 (2 : Int)), (Value.string s70)] [(VT.one (CT.int IntKind.i64))]
                        (fun (n75 : Int) => k72 (n75 == (191 : Int))))
                      (k72 false)))
                  (iteG false
                    (callG Try.prog 12 #[(Value.pointer p0), (Value.int IntKind.i64 (2 : Int)), (Value.string s70)] [(VT.one (CT.int IntKind.i64))]
                      (fun (n76 : Int) => k72 (n76 == (191 : Int))))
                    (k72 false)))
                (iteG false
                  (callG Try.prog 17 #[(Value.pointer p0)] [(VT.one (CT.int IntKind.i64))]
                    (fun (n77 : Int) => iteG (n77 == (1 : Int))
                      (callG Try.prog 12 #[(Value.pointer p0), (Value.int IntKind.i64 (2 : Int)), (Value.string s70)] [(VT.one (CT.int IntKind.i64))]
                        (fun (n78 : Int) => k72 (n78 == (191 : Int))))
                      (k72 false)))
                  (iteG false
                    (callG Try.prog 12 #[(Value.pointer p0), (Value.int IntKind.i64 (2 : Int)), (Value.string s70)] [(VT.one (CT.int IntKind.i64))]
                      (fun (n79 : Int) => k72 (n79 == (191 : Int))))
                    (k72 false)))))
            (fun (b80 : Bool) => retG (Value.bool b80))))))
theorem e9 : denF Try.prog (GA Try.prog) Try.f9 [] (.seq .leaf (.seq .leaf (.seq (.seq (.r (sl Try.prog [(41, 4)])) .leaf) (.seq .leaf (.seq (.r (sl Try.prog [(0, 4)])) .leaf))))) = t9 := by kernel_rfl
theorem c9 {R : Ending → World → Prop} {w : World} (h : t9 R w) : Calls Try.prog 9 #[] w R :=
  lift mixed Try.func9 e9 rfl (()) R w h

/-- pandectlaw19.Sector -/
def t13 : ByteArray → G :=
  fun (s0 : ByteArray) => subG s0 (0 : Int) (if (64 : Int) < (↑(ByteArray.size s0) : Int) then (64 : Int) else (↑(ByteArray.size s0) : Int))
    (fun (s1 : ByteArray) => opG Try.prog (Instr.makeSlice 75 (Value.int IntKind.i64 (IntKind.wrap IntKind.i64 ((64 : Int) - (↑(ByteArray.size s1) : Int)))) (Value.int IntKind.i64 (IntKind.wrap IntKind.i64 ((64 : Int) - (↑(ByteArray.size s1) : Int))))) (VT.one CT.slice)
      (fun (l2 : Sl) => opG Try.prog (convert 75 9 (Value.slice (Sl.a l2) (Sl.n l2) (Sl.c l2))) (VT.one CT.str)
        (fun (s3 : ByteArray) => catG s1 s3
          (fun (s4 : ByteArray) => retG (Value.string s4)))))
theorem e13 : denF Try.prog (GA Try.prog) Try.f13 [(VT.one CT.str)] .leaf = t13 := by kernel_rfl
theorem c13 (x0 : ByteArray) {R : Ending → World → Prop} {w : World} (h : t13 x0 R w) : Calls Try.prog 13 #[.string x0] w R :=
  lift mixed Try.func13 e13 rfl ((x0, ()), ()) R w h

/-- pandectlaw19.puts -/
def t18 : Option Addr → Sl → G :=
  fun (p0 : Option Addr) => fun (l1 : Sl) => joinG []
    (fun k2 => loopG [(VT.one (CT.int IntKind.i64))]
      (fun k3 => fun (n4 : Int) => iteG (Decidable.decide (n4 < (↑(Sl.n l1) : Int)))
        (joinG []
          (fun k5 => drewG
            (idxG (Sl.a l1) (Sl.n l1) n4 2
              (fun (a6 : Addr) => ldG (CT.int IntKind.i64) (Addr.add a6 0)
                (fun (n7 : Int) => idxG (Sl.a l1) (Sl.n l1) n4 2
                  (fun (a8 : Addr) => ldG CT.str (Addr.add a8 1)
                    (fun (s9 : ByteArray) => callG Try.prog 13 #[(Value.string s9)] [(VT.one CT.str)]
                      (fun (s10 : ByteArray) => keepG [(Prod.mk (Addr.add a6 0) [(Value.int IntKind.i64 n7)])]
                        (callG Try.prog 12 #[(Value.pointer p0), (Value.int IntKind.i64 n7), (Value.string s10)] [(VT.one (CT.int IntKind.i64))]
                          (fun (n11 : Int) => joinG [(VT.one CT.bool)]
                            (fun k12 => iteG (n11 != (0 : Int))
                              (k12 (n11 != (191 : Int)))
                              (k12 false))
                            (fun (b13 : Bool) => iteG b13
                              (retG (Value.bool false))
                              (k5)))))))))))
          (k3 (IntKind.wrap IntKind.i64 (n4 + (1 : Int)))))
        (k2)) (0 : Int))
    (retG (Value.bool true))
theorem e18 : denF Try.prog (GA Try.prog) Try.f18 [(VT.one CT.ptr), (VT.one CT.slice)] (.seq .leaf (.seq (.seq .leaf (.block (sl Try.prog []) (.loop (sl Try.prog [(5, 3)]) (.seq .leaf (.seq (.block (sl Try.prog []) (.seq .leaf (.seq (.r (sl Try.prog [(31, 4)])) .leaf))) .leaf))))) .leaf)) = t18 := by kernel_rfl
theorem c18 (x0 : Option Addr) (x1 : Sl) {R : Ending → World → Prop} {w : World} (h : t18 x0 x1 R w) : Calls Try.prog 18 #[.pointer x0, .slice x1.a x1.n x1.c] w R :=
  lift mixed Try.func18 e18 rfl ((x0, ()), (x1, ()), ()) R w h

/-- pandectlaw19.mixed -/
def t21 : ByteArray → Sl → G :=
  fun (s0 : ByteArray) => fun (l1 : Sl) => joinG []
    (fun k2 => loopG [(VT.one (CT.int IntKind.i64))]
      (fun k3 => fun (n4 : Int) => iteG (Decidable.decide (n4 < (↑(Sl.n l1) : Int)))
        (joinG []
          (fun k5 => idxG (Sl.a l1) (Sl.n l1) n4 1
            (fun (a6 : Addr) => ldG CT.str a6
              (fun (s7 : ByteArray) => iteG (ByteArray.toList s0 == ByteArray.toList s7)
                (retG (Value.bool true))
                (joinG []
                  (fun k8 => loopG [(VT.one (CT.int IntKind.i64))]
                    (fun k9 => fun (n10 : Int) => iteG (Decidable.decide (n10 < n4))
                      (joinG []
                        (fun k11 => joinG []
                          (fun k12 => loopG [(VT.one (CT.int IntKind.i64))]
                            (fun k13 => fun (n14 : Int) => iteG (Decidable.decide (n14 ≤ (64 : Int)))
                              (joinG []
                                (fun k15 => drewG
                                  (idxG (Sl.a l1) (Sl.n l1) n4 1
                                    (fun (a16 : Addr) => ldG CT.str a16
                                      (fun (s17 : ByteArray) => subG s17 (0 : Int) n14
                                        (fun (s18 : ByteArray) => idxG (Sl.a l1) (Sl.n l1) n10 1
                                          (fun (a19 : Addr) => ldG CT.str a19
                                            (fun (s20 : ByteArray) => subG s20 n14 ((↑(ByteArray.size s20) : Int))
                                              (fun (s21 : ByteArray) => catG s18 s21
                                                (fun (s22 : ByteArray) => iteG (ByteArray.toList s0 == ByteArray.toList s22)
                                                  (retG (Value.bool true))
                                                  (k15))))))))))
                                (k13 (IntKind.wrap IntKind.i64 (n14 + (1 : Int)))))
                              (k12)) (0 : Int))
                          (k11))
                        (k9 (IntKind.wrap IntKind.i64 (n10 + (1 : Int)))))
                      (k8)) (0 : Int))
                  (k5)))))
          (k3 (IntKind.wrap IntKind.i64 (n4 + (1 : Int)))))
        (k2)) (0 : Int))
    (retG (Value.bool false))
theorem e21 : denF Try.prog (GA Try.prog) Try.f21 [(VT.one CT.str), (VT.one CT.slice)] (.seq .leaf (.seq (.seq .leaf (.block (sl Try.prog []) (.loop (sl Try.prog [(5, 3)]) (.seq .leaf (.seq (.block (sl Try.prog []) (.seq .leaf (.seq .leaf (.block (sl Try.prog []) (.loop (sl Try.prog [(6, 3)]) (.seq .leaf (.seq (.block (sl Try.prog []) (.seq .leaf (.block (sl Try.prog []) (.loop (sl Try.prog [(7, 3)]) (.seq .leaf (.seq (.block (sl Try.prog []) .leaf) .leaf)))))) .leaf))))))) .leaf))))) .leaf)) = t21 := by kernel_rfl
theorem c21 (x0 : ByteArray) (x1 : Sl) {R : Ending → World → Prop} {w : World} (h : t21 x0 x1 R w) : Calls Try.prog 21 #[.string x0, .slice x1.a x1.n x1.c] w R :=
  lift mixed Try.func21 e21 rfl ((x0, ()), (x1, ()), ()) R w h

/-- pandectlaw19.few -/
def t23 : Sl → G :=
  fun (l0 : Sl) => iteG (Decidable.decide ((↑(Sl.n l0) : Int) > (300 : Int)))
    (retG (Value.bool false))
    (joinG []
      (fun k1 => loopG [(VT.one (CT.int IntKind.i64))]
        (fun k2 => fun (n3 : Int) => iteG (Decidable.decide (n3 < (↑(Sl.n l0) : Int)))
          (joinG []
            (fun k4 => idxG (Sl.a l0) (Sl.n l0) n3 7
              (fun (a5 : Addr) => ldG CT.str (Addr.add a5 2)
                (fun (s6 : ByteArray) => iteG (Decidable.decide ((↑(ByteArray.size s6) : Int) > (1000 : Int)))
                  (retG (Value.bool false))
                  (k4))))
            (k2 (IntKind.wrap IntKind.i64 (n3 + (1 : Int)))))
          (k1)) (0 : Int))
      (retG (Value.bool true)))
theorem e23 : denF Try.prog (GA Try.prog) Try.f23 [(VT.one CT.slice)] (.seq .leaf (.seq .leaf (.seq (.seq .leaf (.block (sl Try.prog []) (.loop (sl Try.prog [(3, 3)]) (.seq .leaf (.seq (.block (sl Try.prog []) .leaf) .leaf))))) .leaf))) = t23 := by kernel_rfl
theorem c23 (x0 : Sl) {R : Ending → World → Prop} {w : World} (h : t23 x0 R w) : Calls Try.prog 23 #[.slice x0.a x0.n x0.c] w R :=
  lift mixed Try.func23 e23 rfl ((x0, ()), ()) R w h

/-- pandectlaw19.both -/
def t24 : Option Addr → Option Addr → Int → Int → ByteArray → Bool → Sl → Int → Int → G :=
  fun (p0 : Option Addr) => fun (p1 : Option Addr) => fun (n2 : Int) => fun (n3 : Int) => fun (s4 : ByteArray) => fun (b5 : Bool) => fun (l6 : Sl) => fun (n7 : Int) => fun (n8 : Int) => newG (Obj.cells #[(Value.int IntKind.i64 n2), (Value.int IntKind.i64 n3), (Value.string s4), (Value.bool b5), (Value.slice (Sl.a l6) (Sl.n l6) (Sl.c l6)), (Value.int IntKind.i64 n7), (Value.int IntKind.i64 n8)] 53 (Prod.mk 0 0))
    (fun (m9 : Nat) => ldG CT.str (Addr.mk m9 2 Option.none)
      (fun (s10 : ByteArray) => ldG CT.bool (Addr.mk m9 3 Option.none)
        (fun (b11 : Bool) => joinG [(VT.one CT.str)]
          (fun k12 => iteG (!b11)
            (callG Try.prog 13 #[(Value.string s10)] [(VT.one CT.str)]
              (fun (s13 : ByteArray) => k12 s13))
            (k12 s10))
          (fun (s14 : ByteArray) => ldG (CT.int IntKind.i64) (Addr.mk m9 0 Option.none)
            (fun (n15 : Int) => joinG []
              (fun k16 => iteG (n15 == (0 : Int))
                (ldG (CT.int IntKind.i64) (Addr.mk m9 1 Option.none)
                  (fun (n17 : Int) => callG Try.prog 27 #[(Value.pointer p0), (Value.int IntKind.i64 n17)] [(VT.one CT.str), (VT.one (CT.int IntKind.i64))]
                    (fun (s18 : ByteArray) => fun (n19 : Int) => ldG (CT.int IntKind.i64) (Addr.mk m9 1 Option.none)
                      (fun (n20 : Int) => callG Try.prog 36 #[(Value.pointer p1), (Value.int IntKind.i64 n20)] [(VT.one CT.str), (VT.one (CT.int IntKind.i64))]
                        (fun (s21 : ByteArray) => fun (n22 : Int) => joinG [(VT.one CT.bool)]
                          (fun k23 => iteG (ByteArray.toList s18 == ByteArray.toList s21)
                            (k23 (n19 == n22))
                            (k23 false))
                          (fun (b24 : Bool) => retG (Value.bool b24)))))))
                (iteG (n15 == (1 : Int))
                  (drewG
                    (ldG (CT.int IntKind.i64) (Addr.mk m9 1 Option.none)
                      (fun (n25 : Int) => ldG (CT.int IntKind.i64) (Addr.mk m9 1 Option.none)
                        (fun (n26 : Int) => callG Try.prog 12 #[(Value.pointer p0), (Value.int IntKind.i64 n25), (Value.string s14)] [(VT.one (CT.int IntKind.i64))]
                          (fun (n27 : Int) => keepG [(Prod.mk (Addr.mk m9 1 Option.none) [(Value.int IntKind.i64 n26)])]
                            (callG Try.prog 37 #[(Value.pointer p1), (Value.int IntKind.i64 n26), (Value.string s14)] [(VT.one (CT.int IntKind.i64))]
                              (fun (n28 : Int) => retG (Value.bool (n27 == n28)))))))))
                  (iteG (n15 == (2 : Int))
                    (callG Try.prog 19 #[(Value.pointer p0)] [(VT.one (CT.int IntKind.i64))]
                      (fun (n29 : Int) => callG Try.prog 38 #[(Value.pointer p1)] [(VT.one (CT.int IntKind.i64))]
                        (fun (n30 : Int) => retG (Value.bool (n29 == n30)))))
                    (iteG (n15 == (3 : Int))
                      (drewG
                        (ldG (CT.int IntKind.i64) (Addr.mk m9 1 Option.none)
                          (fun (n31 : Int) => ldG CT.slice (Addr.mk m9 4 Option.none)
                            (fun (l32 : Sl) => ldG (CT.int IntKind.i64) (Addr.mk m9 5 Option.none)
                              (fun (n33 : Int) => ldG (CT.int IntKind.i64) (Addr.mk m9 6 Option.none)
                                (fun (n34 : Int) => ldG (CT.int IntKind.i64) (Addr.mk m9 1 Option.none)
                                  (fun (n35 : Int) => ldG CT.slice (Addr.mk m9 4 Option.none)
                                    (fun (l36 : Sl) => ldG (CT.int IntKind.i64) (Addr.mk m9 5 Option.none)
                                      (fun (n37 : Int) => ldG (CT.int IntKind.i64) (Addr.mk m9 6 Option.none)
                                        (fun (n38 : Int) => callG Try.prog 11 #[(Value.pointer p0), (Value.int IntKind.i64 n31), (Value.agg #[(Value.slice (Sl.a l32) (Sl.n l32) (Sl.c l32)), (Value.int IntKind.i64 n33), (Value.int IntKind.i64 n34)])] [(VT.one (CT.int IntKind.i64))]
                                          (fun (n39 : Int) => keepG [(Prod.mk (Addr.mk m9 4 Option.none) [(Value.slice (Sl.a l36) (Sl.n l36) (Sl.c l36)), (Value.int IntKind.i64 n37), (Value.int IntKind.i64 n38)]), (Prod.mk (Addr.mk m9 1 Option.none) [(Value.int IntKind.i64 n35)])]
                                            (callG Try.prog 39 #[(Value.pointer p1), (Value.int IntKind.i64 n35), (Value.agg #[(Value.slice (Sl.a l36) (Sl.n l36) (Sl.c l36)), (Value.int IntKind.i64 n37), (Value.int IntKind.i64 n38)])] [(VT.one (CT.int IntKind.i64))]
                                              (fun (n40 : Int) => retG (Value.bool (n39 == n40)))))))))))))))
                      (iteG (n15 == (4 : Int))
                        (drewG
                          (ldG CT.slice (Addr.mk m9 4 Option.none)
                            (fun (l41 : Sl) => ldG (CT.int IntKind.i64) (Addr.mk m9 5 Option.none)
                              (fun (n42 : Int) => ldG (CT.int IntKind.i64) (Addr.mk m9 6 Option.none)
                                (fun (n43 : Int) => ldG CT.slice (Addr.mk m9 4 Option.none)
                                  (fun (l44 : Sl) => ldG (CT.int IntKind.i64) (Addr.mk m9 5 Option.none)
                                    (fun (n45 : Int) => ldG (CT.int IntKind.i64) (Addr.mk m9 6 Option.none)
                                      (fun (n46 : Int) => callG Try.prog 14 #[(Value.pointer p0), (Value.agg #[(Value.slice (Sl.a l41) (Sl.n l41) (Sl.c l41)), (Value.int IntKind.i64 n42), (Value.int IntKind.i64 n43)])] [(VT.one (CT.int IntKind.i64))]
                                        (fun (n47 : Int) => keepG [(Prod.mk (Addr.mk m9 4 Option.none) [(Value.slice (Sl.a l44) (Sl.n l44) (Sl.c l44)), (Value.int IntKind.i64 n45), (Value.int IntKind.i64 n46)])]
                                          (callG Try.prog 40 #[(Value.pointer p1), (Value.agg #[(Value.slice (Sl.a l44) (Sl.n l44) (Sl.c l44)), (Value.int IntKind.i64 n45), (Value.int IntKind.i64 n46)])] [(VT.one (CT.int IntKind.i64))]
                                            (fun (n48 : Int) => retG (Value.bool (n47 == n48)))))))))))))
                        (iteG (n15 == (5 : Int))
                          (callG Try.prog 20 #[(Value.pointer p0)] [(VT.one (CT.int IntKind.i64))]
                            (fun (n49 : Int) => callG Try.prog 41 #[(Value.pointer p1)] [(VT.one (CT.int IntKind.i64))]
                              (fun (n50 : Int) => retG (Value.bool (n49 == n50)))))
                          (k16)))))))
              (retG (Value.bool true)))))))
theorem e24 : denF Try.prog (GA Try.prog) Try.f24 [(VT.one CT.ptr), (VT.one CT.ptr), (VT.agg [(CT.int IntKind.i64), (CT.int IntKind.i64), CT.str, CT.bool, CT.slice, (CT.int IntKind.i64), (CT.int IntKind.i64)])] (.seq .leaf (.seq .leaf (.seq (.seq .leaf (.condj (sl Try.prog [(7, 9)]) .leaf .leaf)) (.seq (.seq .leaf (.block (sl Try.prog []) (.seq .leaf (.cond (.seq .leaf (.seq .leaf (.seq (.r (sl Try.prog [(6, 4)])) .leaf))) .leaf)))) .leaf)))) = t24 := by kernel_rfl
theorem c24 (x0 : Option Addr) (x1 : Option Addr) (x2 : Int) (x3 : Int) (x4 : ByteArray) (x5 : Bool) (x6 : Sl) (x7 : Int) (x8 : Int) {R : Ending → World → Prop} {w : World} (h : t24 x0 x1 x2 x3 x4 x5 x6 x7 x8 R w) : Calls Try.prog 24 #[.pointer x0, .pointer x1, .agg #[.int .i64 x2, .int .i64 x3, .string x4, .bool x5, .slice x6.a x6.n x6.c, .int .i64 x7, .int .i64 x8]] w R :=
  lift mixed Try.func24 e24 rfl ((x0, ()), (x1, ()), (x2, x3, x4, x5, x6, x7, x8, ()), ()) R w h

end Go.Proofs.Ytmklfedlifcoiaa
