/- The functions as trees, each with its contract (by program). No condition. -/
import Derived.Test.YthnfcbjfmghomaaGreatDoorSound
import Derived.Test.YthnfcbjfmghomaaGreatDoorProg
set_option maxRecDepth 100000
namespace Go.Proofs.YthnfcbjfmghomaaGreatDoor
open Go.Lift
theorem mixed : Tryz.prog.follows .mixedOrders = true := by kernel_rfl

/-- lex.Word -/
def t10 : ByteArray → G :=
  fun (s0 : ByteArray) => joinG []
    (fun k1 => joinG [(VT.one CT.bool)]
      (fun k2 => iteG (ByteArray.toList s0 == ByteArray.toList (ByteArray.mk #[(109 : UInt8), (111 : UInt8), (100 : UInt8), (117 : UInt8), (108 : UInt8), (101 : UInt8)]))
        (k2 (ByteArray.toList s0 == ByteArray.toList (ByteArray.mk #[(109 : UInt8), (111 : UInt8), (100 : UInt8), (117 : UInt8), (108 : UInt8), (101 : UInt8)])))
        (joinG [(VT.one CT.bool)]
          (fun k3 => iteG (ByteArray.toList s0 == ByteArray.toList (ByteArray.mk #[(105 : UInt8), (109 : UInt8), (112 : UInt8), (111 : UInt8), (114 : UInt8), (116 : UInt8)]))
            (k3 (ByteArray.toList s0 == ByteArray.toList (ByteArray.mk #[(105 : UInt8), (109 : UInt8), (112 : UInt8), (111 : UInt8), (114 : UInt8), (116 : UInt8)])))
            (joinG [(VT.one CT.bool)]
              (fun k4 => iteG (ByteArray.toList s0 == ByteArray.toList (ByteArray.mk #[(112 : UInt8), (105 : UInt8), (110 : UInt8)]))
                (k4 (ByteArray.toList s0 == ByteArray.toList (ByteArray.mk #[(112 : UInt8), (105 : UInt8), (110 : UInt8)])))
                (joinG [(VT.one CT.bool)]
                  (fun k5 => iteG (ByteArray.toList s0 == ByteArray.toList (ByteArray.mk #[(114 : UInt8), (97 : UInt8), (110 : UInt8), (103 : UInt8), (101 : UInt8)]))
                    (k5 (ByteArray.toList s0 == ByteArray.toList (ByteArray.mk #[(114 : UInt8), (97 : UInt8), (110 : UInt8), (103 : UInt8), (101 : UInt8)])))
                    (joinG [(VT.one CT.bool)]
                      (fun k6 => iteG (ByteArray.toList s0 == ByteArray.toList (ByteArray.mk #[(116 : UInt8), (121 : UInt8), (112 : UInt8), (101 : UInt8)]))
                        (k6 (ByteArray.toList s0 == ByteArray.toList (ByteArray.mk #[(116 : UInt8), (121 : UInt8), (112 : UInt8), (101 : UInt8)])))
                        (joinG [(VT.one CT.bool)]
                          (fun k7 => iteG (ByteArray.toList s0 == ByteArray.toList (ByteArray.mk #[(111 : UInt8), (112 : UInt8), (97 : UInt8), (113 : UInt8), (117 : UInt8), (101 : UInt8)]))
                            (k7 (ByteArray.toList s0 == ByteArray.toList (ByteArray.mk #[(111 : UInt8), (112 : UInt8), (97 : UInt8), (113 : UInt8), (117 : UInt8), (101 : UInt8)])))
                            (joinG [(VT.one CT.bool)]
                              (fun k8 => iteG (ByteArray.toList s0 == ByteArray.toList (ByteArray.mk #[(108 : UInt8), (101 : UInt8), (116 : UInt8)]))
                                (k8 (ByteArray.toList s0 == ByteArray.toList (ByteArray.mk #[(108 : UInt8), (101 : UInt8), (116 : UInt8)])))
                                (joinG [(VT.one CT.bool)]
                                  (fun k9 => iteG (ByteArray.toList s0 == ByteArray.toList (ByteArray.mk #[(105 : UInt8), (110 : UInt8)]))
                                    (k9 (ByteArray.toList s0 == ByteArray.toList (ByteArray.mk #[(105 : UInt8), (110 : UInt8)])))
                                    (joinG [(VT.one CT.bool)]
                                      (fun k10 => iteG (ByteArray.toList s0 == ByteArray.toList (ByteArray.mk #[(101 : UInt8), (120 : UInt8), (112 : UInt8), (111 : UInt8), (114 : UInt8), (116 : UInt8)]))
                                        (k10 (ByteArray.toList s0 == ByteArray.toList (ByteArray.mk #[(101 : UInt8), (120 : UInt8), (112 : UInt8), (111 : UInt8), (114 : UInt8), (116 : UInt8)])))
                                        (joinG [(VT.one CT.bool)]
                                          (fun k11 => iteG (ByteArray.toList s0 == ByteArray.toList (ByteArray.mk #[(102 : UInt8), (117 : UInt8), (110 : UInt8)]))
                                            (k11 (ByteArray.toList s0 == ByteArray.toList (ByteArray.mk #[(102 : UInt8), (117 : UInt8), (110 : UInt8)])))
                                            (joinG [(VT.one CT.bool)]
                                              (fun k12 => iteG (ByteArray.toList s0 == ByteArray.toList (ByteArray.mk #[(105 : UInt8), (102 : UInt8)]))
                                                (k12 (ByteArray.toList s0 == ByteArray.toList (ByteArray.mk #[(105 : UInt8), (102 : UInt8)])))
                                                (joinG [(VT.one CT.bool)]
                                                  (fun k13 => iteG (ByteArray.toList s0 == ByteArray.toList (ByteArray.mk #[(116 : UInt8), (104 : UInt8), (101 : UInt8), (110 : UInt8)]))
                                                    (k13 (ByteArray.toList s0 == ByteArray.toList (ByteArray.mk #[(116 : UInt8), (104 : UInt8), (101 : UInt8), (110 : UInt8)])))
                                                    (joinG [(VT.one CT.bool)]
                                                      (fun k14 => iteG (ByteArray.toList s0 == ByteArray.toList (ByteArray.mk #[(101 : UInt8), (108 : UInt8), (115 : UInt8), (101 : UInt8)]))
                                                        (k14 (ByteArray.toList s0 == ByteArray.toList (ByteArray.mk #[(101 : UInt8), (108 : UInt8), (115 : UInt8), (101 : UInt8)])))
                                                        (joinG [(VT.one CT.bool)]
                                                          (fun k15 => iteG (ByteArray.toList s0 == ByteArray.toList (ByteArray.mk #[(99 : UInt8), (97 : UInt8), (115 : UInt8), (101 : UInt8)]))
                                                            (k15 (ByteArray.toList s0 == ByteArray.toList (ByteArray.mk #[(99 : UInt8), (97 : UInt8), (115 : UInt8), (101 : UInt8)])))
                                                            (joinG [(VT.one CT.bool)]
                                                              (fun k16 => iteG (ByteArray.toList s0 == ByteArray.toList (ByteArray.mk #[(111 : UInt8), (102 : UInt8)]))
                                                                (k16 (ByteArray.toList s0 == ByteArray.toList (ByteArray.mk #[(111 : UInt8), (102 : UInt8)])))
                                                                (joinG [(VT.one CT.bool)]
                                                                  (fun k17 => iteG (ByteArray.toList s0 == ByteArray.toList (ByteArray.mk #[(97 : UInt8), (115 : UInt8)]))
                                                                    (k17 (ByteArray.toList s0 == ByteArray.toList (ByteArray.mk #[(97 : UInt8), (115 : UInt8)])))
                                                                    (joinG [(VT.one CT.bool)]
                                                                      (fun k18 => iteG (ByteArray.toList s0 == ByteArray.toList (ByteArray.mk #[(110 : UInt8), (101 : UInt8), (119 : UInt8)]))
                                                                        (k18 (ByteArray.toList s0 == ByteArray.toList (ByteArray.mk #[(110 : UInt8), (101 : UInt8), (119 : UInt8)])))
                                                                        (joinG [(VT.one CT.bool)]
                                                                          (fun k19 => iteG (ByteArray.toList s0 == ByteArray.toList (ByteArray.mk #[(114 : UInt8), (97 : UInt8), (119 : UInt8)]))
                                                                            (k19 (ByteArray.toList s0 == ByteArray.toList (ByteArray.mk #[(114 : UInt8), (97 : UInt8), (119 : UInt8)])))
                                                                            (joinG [(VT.one CT.bool)]
                                                                              (fun k20 => iteG (ByteArray.toList s0 == ByteArray.toList (ByteArray.mk #[(116 : UInt8), (114 : UInt8), (117 : UInt8), (101 : UInt8)]))
                                                                                (k20 (ByteArray.toList s0 == ByteArray.toList (ByteArray.mk #[(116 : UInt8), (114 : UInt8), (117 : UInt8), (101 : UInt8)])))
                                                                                (k20 (ByteArray.toList s0 == ByteArray.toList (ByteArray.mk #[(102 : UInt8), (97 : UInt8), (108 : UInt8), (115 : UInt8), (101 : UInt8)]))))
                                                                              (fun (b21 : Bool) => k19 b21)))
                                                                          (fun (b22 : Bool) => k18 b22)))
                                                                      (fun (b23 : Bool) => k17 b23)))
                                                                  (fun (b24 : Bool) => k16 b24)))
                                                              (fun (b25 : Bool) => k15 b25)))
                                                          (fun (b26 : Bool) => k14 b26)))
                                                      (fun (b27 : Bool) => k13 b27)))
                                                  (fun (b28 : Bool) => k12 b28)))
                                              (fun (b29 : Bool) => k11 b29)))
                                          (fun (b30 : Bool) => k10 b30)))
                                      (fun (b31 : Bool) => k9 b31)))
                                  (fun (b32 : Bool) => k8 b32)))
                              (fun (b33 : Bool) => k7 b33)))
                          (fun (b34 : Bool) => k6 b34)))
                      (fun (b35 : Bool) => k5 b35)))
                  (fun (b36 : Bool) => k4 b36)))
              (fun (b37 : Bool) => k3 b37)))
          (fun (b38 : Bool) => k2 b38)))
      (fun (b39 : Bool) => iteG b39
        (retG (Value.bool true))
        (k1)))
    (retG (Value.bool false))
theorem e10 : denF Tryz.prog (GA Tryz.prog) Tryz.f10 [(VT.one CT.str)] (.seq .leaf (.seq (.seq .leaf (.block (sl Tryz.prog []) (.seq (.seq .leaf (.condj (sl Tryz.prog [(4, 4)]) .leaf (.seq .leaf (.condj (sl Tryz.prog [(4, 4)]) .leaf (.seq .leaf (.condj (sl Tryz.prog [(4, 4)]) .leaf (.seq .leaf (.condj (sl Tryz.prog [(4, 4)]) .leaf (.seq .leaf (.condj (sl Tryz.prog [(4, 4)]) .leaf (.seq .leaf (.condj (sl Tryz.prog [(4, 4)]) .leaf (.seq .leaf (.condj (sl Tryz.prog [(4, 4)]) .leaf (.seq .leaf (.condj (sl Tryz.prog [(4, 4)]) .leaf (.seq .leaf (.condj (sl Tryz.prog [(4, 4)]) .leaf (.seq .leaf (.condj (sl Tryz.prog [(4, 4)]) .leaf (.seq .leaf (.condj (sl Tryz.prog [(4, 4)]) .leaf (.seq .leaf (.condj (sl Tryz.prog [(4, 4)]) .leaf (.seq .leaf (.condj (sl Tryz.prog [(4, 4)]) .leaf (.seq .leaf (.condj (sl Tryz.prog [(4, 4)]) .leaf (.seq .leaf (.condj (sl Tryz.prog [(4, 4)]) .leaf (.seq .leaf (.condj (sl Tryz.prog [(4, 4)]) .leaf (.seq .leaf (.condj (sl Tryz.prog [(4, 4)]) .leaf (.seq .leaf (.condj (sl Tryz.prog [(4, 4)]) .leaf (.seq .leaf (.condj (sl Tryz.prog [(4, 4)]) .leaf .leaf)))))))))))))))))))))))))))))))))))))) .leaf))) .leaf)) = t10 := by kernel_rfl
theorem c10 (x0 : ByteArray) {R : Ending → World → Prop} {w : World} (h : t10 x0 R w) : Calls Tryz.prog 10 #[.string x0] w R :=
  lift mixed Tryz.func10 e10 rfl ((x0, ()), ()) R w h

/-- pandectref06.Word -/
def t11 : ByteArray → G :=
  fun (s0 : ByteArray) => newG (Obj.cells (#[(Value.string (ByteArray.mk #[109, 111, 100, 117, 108, 101])), (Value.string (ByteArray.mk #[105, 109, 112, 111, 114, 116])), (Value.string (ByteArray.mk #[112, 105, 110])), (Value.string (ByteArray.mk #[114, 97, 110, 103, 101])), (Value.string (ByteArray.mk #[116, 121, 112, 101])), (Value.string (ByteArray.mk #[111, 112, 97, 113, 117, 101])), (Value.string (ByteArray.mk #[108, 101, 116])), (Value.string (ByteArray.mk #[105, 110])), (Value.string (ByteArray.mk #[101, 120, 112, 111, 114, 116])), (Value.string (ByteArray.mk #[102, 117, 110])), (Value.string (ByteArray.mk #[105, 102])), (Value.string (ByteArray.mk #[116, 104, 101, 110])), (Value.string (ByteArray.mk #[101, 108, 115, 101])), (Value.string (ByteArray.mk #[99, 97, 115, 101])), (Value.string (ByteArray.mk #[111, 102])), (Value.string (ByteArray.mk #[97, 115])), (Value.string (ByteArray.mk #[110, 101, 119])), (Value.string (ByteArray.mk #[114, 97, 119])), (Value.string (ByteArray.mk #[116, 114, 117, 101])), (Value.string (ByteArray.mk #[102, 97, 108, 115, 101]))]) 9 (Prod.mk 0 0))
    (fun (m1 : Nat) => callG Tryz.prog 24 #[(Value.string s0), (Value.slice (Option.some (Addr.mk m1 0 Option.none)) 20 20)] [(VT.one CT.bool)]
      (fun (b2 : Bool) => retG (Value.bool b2)))
theorem e11 : denF Tryz.prog (GA Tryz.prog) Tryz.f11 [(VT.one CT.str)] .leaf = t11 := by kernel_rfl
theorem c11 (x0 : ByteArray) {R : Ending → World → Prop} {w : World} (h : t11 x0 R w) : Calls Tryz.prog 11 #[.string x0] w R :=
  lift mixed Tryz.func11 e11 rfl ((x0, ()), ()) R w h

/-- lex.Sign -/
def t12 : ByteArray → G :=
  fun (s0 : ByteArray) => joinG []
    (fun k1 => joinG [(VT.one CT.bool)]
      (fun k2 => iteG (ByteArray.toList s0 == ByteArray.toList (ByteArray.mk #[(60 : UInt8), (61 : UInt8)]))
        (k2 (ByteArray.toList s0 == ByteArray.toList (ByteArray.mk #[(60 : UInt8), (61 : UInt8)])))
        (joinG [(VT.one CT.bool)]
          (fun k3 => iteG (ByteArray.toList s0 == ByteArray.toList (ByteArray.mk #[(62 : UInt8), (61 : UInt8)]))
            (k3 (ByteArray.toList s0 == ByteArray.toList (ByteArray.mk #[(62 : UInt8), (61 : UInt8)])))
            (k3 (ByteArray.toList s0 == ByteArray.toList (ByteArray.mk #[(45 : UInt8), (62 : UInt8)]))))
          (fun (b4 : Bool) => k2 b4)))
      (fun (b5 : Bool) => iteG b5
        (retG (Value.bool true))
        (k1)))
    (joinG [(VT.one CT.bool)]
      (fun k6 => iteG ((↑(ByteArray.size s0) : Int) == (1 : Int))
        (callG Tryz.prog 25 #[(Value.string (ByteArray.mk (#[40, 41, 123, 125, 91, 93, 60, 62, 61, 94, 42, 44, 58, 46, 47, 64, 124]))), (Value.string s0)] [(VT.one CT.bool)]
          (fun (b7 : Bool) => k6 b7))
        (k6 false))
      (fun (b8 : Bool) => retG (Value.bool b8)))
theorem e12 : denF Tryz.prog (GA Tryz.prog) Tryz.f12 [(VT.one CT.str)] (.seq .leaf (.seq (.seq .leaf (.block (sl Tryz.prog []) (.seq (.seq .leaf (.condj (sl Tryz.prog [(4, 4)]) .leaf (.seq .leaf (.condj (sl Tryz.prog [(4, 4)]) .leaf .leaf)))) .leaf))) (.seq (.r (sl Tryz.prog [(2, 4)])) .leaf))) = t12 := by kernel_rfl
theorem c12 (x0 : ByteArray) {R : Ending → World → Prop} {w : World} (h : t12 x0 R w) : Calls Tryz.prog 12 #[.string x0] w R :=
  lift mixed Tryz.func12 e12 rfl ((x0, ()), ()) R w h

/-- pandectref06.Sign -/
def t13 : ByteArray → G :=
  fun (s0 : ByteArray) => newG (Obj.cells (#[(Value.string (ByteArray.mk #[40])), (Value.string (ByteArray.mk #[41])), (Value.string (ByteArray.mk #[123])), (Value.string (ByteArray.mk #[125])), (Value.string (ByteArray.mk #[91])), (Value.string (ByteArray.mk #[93])), (Value.string (ByteArray.mk #[60])), (Value.string (ByteArray.mk #[62])), (Value.string (ByteArray.mk #[60, 61])), (Value.string (ByteArray.mk #[62, 61])), (Value.string (ByteArray.mk #[61])), (Value.string (ByteArray.mk #[94])), (Value.string (ByteArray.mk #[42])), (Value.string (ByteArray.mk #[44])), (Value.string (ByteArray.mk #[58])), (Value.string (ByteArray.mk #[46])), (Value.string (ByteArray.mk #[47])), (Value.string (ByteArray.mk #[64])), (Value.string (ByteArray.mk #[124])), (Value.string (ByteArray.mk #[45, 62]))]) 9 (Prod.mk 0 0))
    (fun (m1 : Nat) => callG Tryz.prog 24 #[(Value.string s0), (Value.slice (Option.some (Addr.mk m1 0 Option.none)) 20 20)] [(VT.one CT.bool)]
      (fun (b2 : Bool) => retG (Value.bool b2)))
theorem e13 : denF Tryz.prog (GA Tryz.prog) Tryz.f13 [(VT.one CT.str)] .leaf = t13 := by kernel_rfl
theorem c13 (x0 : ByteArray) {R : Ending → World → Prop} {w : World} (h : t13 x0 R w) : Calls Tryz.prog 13 #[.string x0] w R :=
  lift mixed Tryz.func13 e13 rfl ((x0, ()), ()) R w h

/-- lex.Name -/
def t14 : ByteArray → G :=
  fun (s0 : ByteArray) => joinG [(VT.one CT.bool)]
    (fun k1 => callG Tryz.prog 26 #[(Value.string s0), (Value.func (Fn.func 27) #[] #[])] [(VT.one CT.bool)]
      (fun (b2 : Bool) => iteG b2
        (callG Tryz.prog 10 #[(Value.string s0)] [(VT.one CT.bool)]
          (fun (b3 : Bool) => k1 (!b3)))
        (k1 false)))
    (fun (b4 : Bool) => retG (Value.bool b4))
theorem e14 : denF Tryz.prog (GA Tryz.prog) Tryz.f14 [(VT.one CT.str)] (.seq .leaf (.seq (.r (sl Tryz.prog [(2, 4)])) .leaf)) = t14 := by kernel_rfl
theorem c14 (x0 : ByteArray) {R : Ending → World → Prop} {w : World} (h : t14 x0 R w) : Calls Tryz.prog 14 #[.string x0] w R :=
  lift mixed Tryz.func14 e14 rfl ((x0, ()), ()) R w h

/-- pandectref06.Name -/
def t15 : ByteArray → G :=
  fun (s0 : ByteArray) => joinG [(VT.one CT.bool)]
    (fun k1 => iteG (!ByteArray.toList s0 == ByteArray.toList (ByteArray.mk #[]))
      (iteG (Decidable.decide ((↑(ByteArray.size s0) : Int) ≤ (24 : Int)))
        (chrG s0 (0 : Int)
          (fun (n2 : Int) => callG Tryz.prog 28 #[(Value.int IntKind.u8 n2)] [(VT.one CT.bool)]
            (fun (b3 : Bool) => iteG b3
              (callG Tryz.prog 29 #[(Value.string s0)] [(VT.one (CT.int IntKind.i64))]
                (fun (n4 : Int) => iteG (n4 == (↑(ByteArray.size s0) : Int))
                  (callG Tryz.prog 11 #[(Value.string s0)] [(VT.one CT.bool)]
                    (fun (b5 : Bool) => k1 (!b5)))
                  (k1 false)))
              (k1 false))))
        (k1 false))
      (k1 false))
    (fun (b6 : Bool) => retG (Value.bool b6))
theorem e15 : denF Tryz.prog (GA Tryz.prog) Tryz.f15 [(VT.one CT.str)] (.seq .leaf (.seq (.r (sl Tryz.prog [(2, 4)])) .leaf)) = t15 := by kernel_rfl
theorem c15 (x0 : ByteArray) {R : Ending → World → Prop} {w : World} (h : t15 x0 R w) : Calls Tryz.prog 15 #[.string x0] w R :=
  lift mixed Tryz.func15 e15 rfl ((x0, ()), ()) R w h

/-- lex.Upper -/
def t16 : ByteArray → G :=
  fun (s0 : ByteArray) => callG Tryz.prog 26 #[(Value.string s0), (Value.func (Fn.func 30) #[] #[])] [(VT.one CT.bool)]
    (fun (b1 : Bool) => retG (Value.bool b1))
theorem e16 : denF Tryz.prog (GA Tryz.prog) Tryz.f16 [(VT.one CT.str)] .leaf = t16 := by kernel_rfl
theorem c16 (x0 : ByteArray) {R : Ending → World → Prop} {w : World} (h : t16 x0 R w) : Calls Tryz.prog 16 #[.string x0] w R :=
  lift mixed Tryz.func16 e16 rfl ((x0, ()), ()) R w h

/-- pandectref06.Upper -/
def t17 : ByteArray → G :=
  fun (s0 : ByteArray) => joinG [(VT.one CT.bool)]
    (fun k1 => iteG (!ByteArray.toList s0 == ByteArray.toList (ByteArray.mk #[]))
      (iteG (Decidable.decide ((↑(ByteArray.size s0) : Int) ≤ (24 : Int)))
        (chrG s0 (0 : Int)
          (fun (n2 : Int) => callG Tryz.prog 31 #[(Value.int IntKind.u8 n2)] [(VT.one CT.bool)]
            (fun (b3 : Bool) => iteG b3
              (callG Tryz.prog 29 #[(Value.string s0)] [(VT.one (CT.int IntKind.i64))]
                (fun (n4 : Int) => k1 (n4 == (↑(ByteArray.size s0) : Int))))
              (k1 false))))
        (k1 false))
      (k1 false))
    (fun (b5 : Bool) => retG (Value.bool b5))
theorem e17 : denF Tryz.prog (GA Tryz.prog) Tryz.f17 [(VT.one CT.str)] (.seq .leaf (.seq (.r (sl Tryz.prog [(2, 4)])) .leaf)) = t17 := by kernel_rfl
theorem c17 (x0 : ByteArray) {R : Ending → World → Prop} {w : World} (h : t17 x0 R w) : Calls Tryz.prog 17 #[.string x0] w R :=
  lift mixed Tryz.func17 e17 rfl ((x0, ()), ()) R w h

/-- lex.Scan -/
def t19 : ByteArray → G :=
  fun (s0 : ByteArray) => newG (Obj.cells #[(Value.int IntKind.i64 (0 : Int)), (Value.int IntKind.i64 (0 : Int))] 27 (Prod.mk 0 0))
    (fun (m1 : Nat) => iteG (Decidable.decide ((↑(ByteArray.size s0) : Int) > (4096 : Int)))
      (stG (Addr.mk m1 0 Option.none) (Value.int IntKind.i64 (3 : Int))
        (stG (Addr.mk m1 1 Option.none) (Value.int IntKind.i64 (4096 : Int))
          (ldG (CT.int IntKind.i64) (Addr.mk m1 0 Option.none)
            (fun (n2 : Int) => ldG (CT.int IntKind.i64) (Addr.mk m1 1 Option.none)
              (fun (n3 : Int) => retG (Value.tuple #[(Value.slice Option.none 0 0), (Value.agg #[(Value.int IntKind.i64 n2), (Value.int IntKind.i64 n3)])]))))))
      (newG (Obj.cells #[(Value.string s0), (Value.int IntKind.i64 (0 : Int)), (Value.slice Option.none 0 0), (Value.int IntKind.i64 (0 : Int)), (Value.int IntKind.i64 (0 : Int))] 48 (Prod.mk 0 0))
        (fun (m4 : Nat) => joinG []
          (fun k5 => loopG []
            (fun k6 => joinG []
              (fun k7 => callG Tryz.prog 32 #[(Value.pointer (Option.some (Addr.mk m4 0 Option.none))), (Value.int IntKind.i64 (0 : Int))] [(VT.one (CT.int IntKind.u8))]
                (fun (n8 : Int) => joinG []
                  (fun k9 => ldG (CT.int IntKind.i64) (Addr.mk m4 1 Option.none)
                    (fun (n10 : Int) => iteG (n10 == (↑(ByteArray.size s0) : Int))
                      (k5)
                      (joinG [(VT.one CT.bool)]
                        (fun k11 => iteG (n8 == (32 : Int))
                          (k11 true)
                          (iteG (n8 == (10 : Int))
                            (k11 true)
                            (iteG (n8 == (9 : Int))
                              (k11 true)
                              (k11 (n8 == (13 : Int))))))
                        (fun (b12 : Bool) => iteG b12
                          (ldG (CT.int IntKind.i64) (Addr.mk m4 1 Option.none)
                            (fun (n13 : Int) => stG (Addr.mk m4 1 Option.none) (Value.int IntKind.i64 (IntKind.wrap IntKind.i64 (n13 + (1 : Int))))
                              (k7)))
                          (joinG [(VT.one CT.bool)]
                            (fun k14 => iteG (n8 == (45 : Int))
                              (callG Tryz.prog 32 #[(Value.pointer (Option.some (Addr.mk m4 0 Option.none))), (Value.int IntKind.i64 (1 : Int))] [(VT.one (CT.int IntKind.u8))]
                                (fun (n15 : Int) => k14 (n15 == (45 : Int))))
                              (k14 false))
                            (fun (b16 : Bool) => iteG b16
                              (ldG (CT.int IntKind.i64) (Addr.mk m4 1 Option.none)
                                (fun (n17 : Int) => callG Tryz.prog 33 #[(Value.pointer (Option.some (Addr.mk m4 0 Option.none))), (Value.func (Fn.func 34) #[] #[])] [(VT.one CT.str)]
                                  (fun (_ : ByteArray) => ldG (CT.int IntKind.i64) (Addr.mk m4 1 Option.none)
                                    (fun (n19 : Int) => callG Tryz.prog 35 #[(Value.pointer (Option.some (Addr.mk m4 0 Option.none))), (Value.int IntKind.i64 n17), (Value.int IntKind.i64 n19)] [(VT.one CT.bool)]
                                      (fun (b20 : Bool) => iteG (!b20)
                                        (drewG
                                          (ldG (CT.int IntKind.i64) (Addr.mk m4 3 Option.none)
                                            (fun (n21 : Int) => ldG (CT.int IntKind.i64) (Addr.mk m4 4 Option.none)
                                              (fun (n22 : Int) => stG (Addr.mk m1 0 Option.none) (Value.int IntKind.i64 n21)
                                                (stG (Addr.mk m1 1 Option.none) (Value.int IntKind.i64 n22)
                                                  (ldG (CT.int IntKind.i64) (Addr.mk m1 0 Option.none)
                                                    (fun (n23 : Int) => ldG (CT.int IntKind.i64) (Addr.mk m1 1 Option.none)
                                                      (fun (n24 : Int) => retG (Value.tuple #[(Value.slice Option.none 0 0), (Value.agg #[(Value.int IntKind.i64 n23), (Value.int IntKind.i64 n24)])])))))))))
                                        (k7))))))
                              (k9)))))))
                  (callG Tryz.prog 36 #[(Value.pointer (Option.some (Addr.mk m4 0 Option.none)))] [(VT.one CT.bool)]
                    (fun (b25 : Bool) => iteG (!b25)
                      (drewG
                        (ldG (CT.int IntKind.i64) (Addr.mk m4 3 Option.none)
                          (fun (n26 : Int) => ldG (CT.int IntKind.i64) (Addr.mk m4 4 Option.none)
                            (fun (n27 : Int) => stG (Addr.mk m1 0 Option.none) (Value.int IntKind.i64 n26)
                              (stG (Addr.mk m1 1 Option.none) (Value.int IntKind.i64 n27)
                                (ldG (CT.int IntKind.i64) (Addr.mk m1 0 Option.none)
                                  (fun (n28 : Int) => ldG (CT.int IntKind.i64) (Addr.mk m1 1 Option.none)
                                    (fun (n29 : Int) => retG (Value.tuple #[(Value.slice Option.none 0 0), (Value.agg #[(Value.int IntKind.i64 n28), (Value.int IntKind.i64 n29)])])))))))))
                      (k7)))))
              (k6)))
          (ldG CT.slice (Addr.mk m4 2 Option.none)
            (fun (l30 : Sl) => newG (Obj.cells #[(Value.int IntKind.i64 (0 : Int)), (Value.string (ByteArray.mk #[])), (Value.int IntKind.i64 ((↑(ByteArray.size s0) : Int)))] 32 (Prod.mk 0 0))
              (fun (m31 : Nat) => opG Tryz.prog (Builtin.append_ #[24, 24] 24 #[(Value.slice (Sl.a l30) (Sl.n l30) (Sl.c l30)), (Value.slice (Option.some (Addr.mk m31 0 Option.none)) 1 1)]) (VT.one CT.slice)
                (fun (l32 : Sl) => stG (Addr.mk m1 0 Option.none) (Value.int IntKind.i64 (0 : Int))
                  (stG (Addr.mk m1 1 Option.none) (Value.int IntKind.i64 (0 : Int))
                    (ldG (CT.int IntKind.i64) (Addr.mk m1 0 Option.none)
                      (fun (n33 : Int) => ldG (CT.int IntKind.i64) (Addr.mk m1 1 Option.none)
                        (fun (n34 : Int) => retG (Value.tuple #[(Value.slice (Sl.a l32) (Sl.n l32) (Sl.c l32)), (Value.agg #[(Value.int IntKind.i64 n33), (Value.int IntKind.i64 n34)])]))))))))))))
theorem e19 : denF Tryz.prog (GA Tryz.prog) Tryz.f19 [(VT.one CT.str)] (.seq .leaf (.seq .leaf (.seq .leaf (.seq .leaf (.seq (.block (sl Tryz.prog []) (.loop (sl Tryz.prog []) (.block (sl Tryz.prog []) (.seq (.seq .leaf (.block (sl Tryz.prog []) (.seq .leaf (.cond .leaf (.seq (.r (sl Tryz.prog [(28, 4)])) (.cond .leaf (.seq (.r (sl Tryz.prog [(52, 4)])) .leaf))))))) .leaf)))) .leaf))))) = t19 := by kernel_rfl
theorem c19 (x0 : ByteArray) {R : Ending → World → Prop} {w : World} (h : t19 x0 R w) : Calls Tryz.prog 19 #[.string x0] w R :=
  lift mixed Tryz.func19 e19 rfl ((x0, ()), ()) R w h

/-- pandectref06.Scan -/
def t20 : ByteArray → G :=
  fun (s0 : ByteArray) => newG (Obj.cells #[(Value.int IntKind.i64 (0 : Int)), (Value.int IntKind.i64 (0 : Int))] 27 (Prod.mk 0 0))
    (fun (m1 : Nat) => iteG (Decidable.decide ((↑(ByteArray.size s0) : Int) > (4096 : Int)))
      (stG (Addr.mk m1 0 Option.none) (Value.int IntKind.i64 (3 : Int))
        (stG (Addr.mk m1 1 Option.none) (Value.int IntKind.i64 (4096 : Int))
          (ldG (CT.int IntKind.i64) (Addr.mk m1 0 Option.none)
            (fun (n2 : Int) => ldG (CT.int IntKind.i64) (Addr.mk m1 1 Option.none)
              (fun (n3 : Int) => retG (Value.tuple #[(Value.slice Option.none 0 0), (Value.agg #[(Value.int IntKind.i64 n2), (Value.int IntKind.i64 n3)])]))))))
      (joinG [(VT.one CT.slice)]
        (fun k4 => loopG [(VT.one CT.slice), (VT.one (CT.int IntKind.i64))]
          (fun k5 => fun (l6 : Sl) => fun (n7 : Int) => iteG (Decidable.decide (n7 < (↑(ByteArray.size s0) : Int)))
            (joinG [(VT.one CT.slice), (VT.one (CT.int IntKind.i64))]
              (fun k8 => subG s0 n7 ((↑(ByteArray.size s0) : Int))
                (fun (s9 : ByteArray) => callG Tryz.prog 37 #[(Value.string s9)] [(VT.one (CT.int IntKind.i64)), (VT.agg [(CT.int IntKind.i64), (CT.int IntKind.i64)])]
                  (fun (n10 : Int) => fun (n11 : Int) => fun (n12 : Int) => newG (Obj.cells #[(Value.int IntKind.i64 (0 : Int)), (Value.int IntKind.i64 (0 : Int))] 27 (Prod.mk 0 0))
                    (fun (m13 : Nat) => stG (Addr.mk m13 0 Option.none) (Value.int IntKind.i64 n11)
                      (stG (Addr.mk m13 1 Option.none) (Value.int IntKind.i64 n12)
                        (ldG (CT.int IntKind.i64) (Addr.mk m13 0 Option.none)
                          (fun (n14 : Int) => iteG (n14 != (0 : Int))
                            (drewG
                              (ldG (CT.int IntKind.i64) (Addr.mk m13 0 Option.none)
                                (fun (n15 : Int) => ldG (CT.int IntKind.i64) (Addr.mk m13 1 Option.none)
                                  (fun (n16 : Int) => stG (Addr.mk m1 0 Option.none) (Value.int IntKind.i64 n15)
                                    (stG (Addr.mk m1 1 Option.none) (Value.int IntKind.i64 (IntKind.wrap IntKind.i64 (n7 + n16)))
                                      (ldG (CT.int IntKind.i64) (Addr.mk m1 0 Option.none)
                                        (fun (n17 : Int) => ldG (CT.int IntKind.i64) (Addr.mk m1 1 Option.none)
                                          (fun (n18 : Int) => retG (Value.tuple #[(Value.slice Option.none 0 0), (Value.agg #[(Value.int IntKind.i64 n17), (Value.int IntKind.i64 n18)])])))))))))
                            (iteG (Decidable.decide (n10 > (0 : Int)))
                              (k8 l6 (IntKind.wrap IntKind.i64 (n7 + n10)))
                              (subG s0 n7 ((↑(ByteArray.size s0) : Int))
                                (fun (s19 : ByteArray) => callG Tryz.prog 38 #[(Value.string s19)] [(VT.agg [(CT.int IntKind.i64), CT.str, (CT.int IntKind.i64)]), (VT.one (CT.int IntKind.i64)), (VT.agg [(CT.int IntKind.i64), (CT.int IntKind.i64)])]
                                  (fun (n20 : Int) => fun (s21 : ByteArray) => fun (n22 : Int) => fun (n23 : Int) => fun (n24 : Int) => fun (n25 : Int) => newG (Obj.cells #[(Value.int IntKind.i64 (0 : Int)), (Value.string (ByteArray.mk #[])), (Value.int IntKind.i64 (0 : Int))] 32 (Prod.mk 0 0))
                                    (fun (m26 : Nat) => stG (Addr.mk m26 0 Option.none) (Value.int IntKind.i64 n20)
                                      (stG (Addr.mk m26 1 Option.none) (Value.string s21)
                                        (stG (Addr.mk m26 2 Option.none) (Value.int IntKind.i64 n22)
                                          (stG (Addr.mk m13 0 Option.none) (Value.int IntKind.i64 n24)
                                            (stG (Addr.mk m13 1 Option.none) (Value.int IntKind.i64 n25)
                                              (ldG (CT.int IntKind.i64) (Addr.mk m13 0 Option.none)
                                                (fun (n27 : Int) => iteG (n27 != (0 : Int))
                                                  (drewG
                                                    (ldG (CT.int IntKind.i64) (Addr.mk m13 0 Option.none)
                                                      (fun (n28 : Int) => ldG (CT.int IntKind.i64) (Addr.mk m13 1 Option.none)
                                                        (fun (n29 : Int) => stG (Addr.mk m1 0 Option.none) (Value.int IntKind.i64 n28)
                                                          (stG (Addr.mk m1 1 Option.none) (Value.int IntKind.i64 (IntKind.wrap IntKind.i64 (n7 + n29)))
                                                            (ldG (CT.int IntKind.i64) (Addr.mk m1 0 Option.none)
                                                              (fun (n30 : Int) => ldG (CT.int IntKind.i64) (Addr.mk m1 1 Option.none)
                                                                (fun (n31 : Int) => retG (Value.tuple #[(Value.slice Option.none 0 0), (Value.agg #[(Value.int IntKind.i64 n30), (Value.int IntKind.i64 n31)])])))))))))
                                                  (stG (Addr.mk m26 2 Option.none) (Value.int IntKind.i64 n7)
                                                    (ldG (CT.int IntKind.i64) (Addr.mk m26 0 Option.none)
                                                      (fun (n32 : Int) => ldG CT.str (Addr.mk m26 1 Option.none)
                                                        (fun (s33 : ByteArray) => ldG (CT.int IntKind.i64) (Addr.mk m26 2 Option.none)
                                                          (fun (n34 : Int) => newG (Obj.cells #[(Value.int IntKind.i64 n32), (Value.string s33), (Value.int IntKind.i64 n34)] 32 (Prod.mk 0 0))
                                                            (fun (m35 : Nat) => opG Tryz.prog (Builtin.append_ #[24, 24] 24 #[(Value.slice (Sl.a l6) (Sl.n l6) (Sl.c l6)), (Value.slice (Option.some (Addr.mk m35 0 Option.none)) 1 1)]) (VT.one CT.slice)
                                                              (fun (l36 : Sl) => k8 l36 (IntKind.wrap IntKind.i64 (n7 + n23)))))))))))))))))))))))))))
              (fun (l37 : Sl) => fun (n38 : Int) => k5 l37 n38))
            (k4 l6)) (Sl.mk Option.none 0 0) (0 : Int))
        (fun (l39 : Sl) => newG (Obj.cells #[(Value.int IntKind.i64 (0 : Int)), (Value.string (ByteArray.mk #[])), (Value.int IntKind.i64 ((↑(ByteArray.size s0) : Int)))] 32 (Prod.mk 0 0))
          (fun (m40 : Nat) => opG Tryz.prog (Builtin.append_ #[24, 24] 24 #[(Value.slice (Sl.a l39) (Sl.n l39) (Sl.c l39)), (Value.slice (Option.some (Addr.mk m40 0 Option.none)) 1 1)]) (VT.one CT.slice)
            (fun (l41 : Sl) => stG (Addr.mk m1 0 Option.none) (Value.int IntKind.i64 (0 : Int))
              (stG (Addr.mk m1 1 Option.none) (Value.int IntKind.i64 (0 : Int))
                (ldG (CT.int IntKind.i64) (Addr.mk m1 0 Option.none)
                  (fun (n42 : Int) => ldG (CT.int IntKind.i64) (Addr.mk m1 1 Option.none)
                    (fun (n43 : Int) => retG (Value.tuple #[(Value.slice (Sl.a l41) (Sl.n l41) (Sl.c l41)), (Value.agg #[(Value.int IntKind.i64 n42), (Value.int IntKind.i64 n43)])]))))))))))
theorem e20 : denF Tryz.prog (GA Tryz.prog) Tryz.f20 [(VT.one CT.str)] (.seq .leaf (.seq .leaf (.seq .leaf (.seq .leaf (.seq (.block (sl Tryz.prog [(4, 24)]) (.loop (sl Tryz.prog [(4, 24), (5, 3)]) (.seq .leaf (.block (sl Tryz.prog [(4, 24), (5, 3)]) .leaf)))) .leaf))))) = t20 := by kernel_rfl
theorem c20 (x0 : ByteArray) {R : Ending → World → Prop} {w : World} (h : t20 x0 R w) : Calls Tryz.prog 20 #[.string x0] w R :=
  lift mixed Tryz.func20 e20 rfl ((x0, ()), ()) R w h

/-- pandectref06.Same -/
def t21 : Sl → Sl → Bool → G :=
  fun (l0 : Sl) => fun (l1 : Sl) => fun (b2 : Bool) => iteG ((↑(Sl.n l0) : Int) != (↑(Sl.n l1) : Int))
    (retG (Value.bool false))
    (joinG []
      (fun k3 => loopG [(VT.one (CT.int IntKind.i64))]
        (fun k4 => fun (n5 : Int) => iteG (Decidable.decide (n5 < (↑(Sl.n l0) : Int)))
          (joinG []
            (fun k6 => joinG [(VT.one CT.bool)]
              (fun k7 => drewG
                (idxG (Sl.a l0) (Sl.n l0) n5 3
                  (fun (a8 : Addr) => ldG (CT.int IntKind.i64) (Addr.add a8 0)
                    (fun (n9 : Int) => idxG (Sl.a l1) (Sl.n l1) n5 3
                      (fun (a10 : Addr) => ldG (CT.int IntKind.i64) (Addr.add a10 0)
                        (fun (n11 : Int) => iteG (n9 != n11)
                          (k7 true)
                          (idxG (Sl.a l0) (Sl.n l0) n5 3
                            (fun (a12 : Addr) => ldG CT.str (Addr.add a12 1)
                              (fun (s13 : ByteArray) => idxG (Sl.a l1) (Sl.n l1) n5 3
                                (fun (a14 : Addr) => ldG CT.str (Addr.add a14 1)
                                  (fun (s15 : ByteArray) => iteG (!ByteArray.toList s13 == ByteArray.toList s15)
                                    (k7 true)
                                    (iteG b2
                                      (idxG (Sl.a l0) (Sl.n l0) n5 3
                                        (fun (a16 : Addr) => ldG (CT.int IntKind.i64) (Addr.add a16 2)
                                          (fun (n17 : Int) => idxG (Sl.a l1) (Sl.n l1) n5 3
                                            (fun (a18 : Addr) => ldG (CT.int IntKind.i64) (Addr.add a18 2)
                                              (fun (n19 : Int) => k7 (n17 != n19))))))
                                      (k7 false)))))))))))))
              (fun (b20 : Bool) => iteG b20
                (retG (Value.bool false))
                (k6)))
            (k4 (IntKind.wrap IntKind.i64 (n5 + (1 : Int)))))
          (k3)) (0 : Int))
      (retG (Value.bool true)))
theorem e21 : denF Tryz.prog (GA Tryz.prog) Tryz.f21 [(VT.one CT.slice), (VT.one CT.slice), (VT.one CT.bool)] (.seq .leaf (.seq .leaf (.seq (.seq .leaf (.block (sl Tryz.prog []) (.loop (sl Tryz.prog [(7, 3)]) (.seq .leaf (.seq (.block (sl Tryz.prog []) (.seq (.r (sl Tryz.prog [(58, 4)])) .leaf)) .leaf))))) .leaf))) = t21 := by kernel_rfl
theorem c21 (x0 : Sl) (x1 : Sl) (x2 : Bool) {R : Ending → World → Prop} {w : World} (h : t21 x0 x1 x2 R w) : Calls Tryz.prog 21 #[.slice x0.a x0.n x0.c, .slice x1.a x1.n x1.c, .bool x2] w R :=
  lift mixed Tryz.func21 e21 rfl ((x0, ()), (x1, ()), (x2, ()), ()) R w h

/-- lex.Show -/
def t22 : Sl → G :=
  fun (l0 : Sl) => joinG [(VT.one CT.slice)]
    (fun k1 => loopG [(VT.one CT.slice), (VT.one (CT.int IntKind.i64))]
      (fun k2 => fun (l3 : Sl) => fun (n4 : Int) => iteG (Decidable.decide (n4 < (↑(Sl.n l0) : Int)))
        (joinG [(VT.one CT.slice)]
          (fun k5 => idxG (Sl.a l0) (Sl.n l0) n4 3
            (fun (a6 : Addr) => ldG (CT.int IntKind.i64) (Addr.add a6 0)
              (fun (n7 : Int) => ldG CT.str (Addr.add a6 1)
                (fun (s8 : ByteArray) => ldG (CT.int IntKind.i64) (Addr.add a6 2)
                  (fun (n9 : Int) => newG (Obj.cells #[(Value.int IntKind.i64 (0 : Int)), (Value.string (ByteArray.mk #[])), (Value.int IntKind.i64 (0 : Int))] 32 (Prod.mk 0 0))
                    (fun (m10 : Nat) => stG (Addr.mk m10 0 Option.none) (Value.int IntKind.i64 n7)
                      (stG (Addr.mk m10 1 Option.none) (Value.string s8)
                        (stG (Addr.mk m10 2 Option.none) (Value.int IntKind.i64 n9)
                          (joinG [(VT.one CT.bool)]
                            (fun k11 => ldG (CT.int IntKind.i64) (Addr.mk m10 0 Option.none)
                              (fun (n12 : Int) => iteG (n12 == (0 : Int))
                                (ldG CT.str (Addr.mk m10 1 Option.none)
                                  (fun (s13 : ByteArray) => k11 (ByteArray.toList s13 == ByteArray.toList (ByteArray.mk #[]))))
                                (k11 false)))
                            (fun (b14 : Bool) => iteG b14
                              (k5 l3)
                              (ldG (CT.int IntKind.i64) (Addr.mk m10 0 Option.none)
                                (fun (n15 : Int) => ldG CT.str (Addr.mk m10 1 Option.none)
                                  (fun (s16 : ByteArray) => ldG (CT.int IntKind.i64) (Addr.mk m10 2 Option.none)
                                    (fun (n17 : Int) => callG Tryz.prog 39 #[(Value.agg #[(Value.int IntKind.i64 n15), (Value.string s16), (Value.int IntKind.i64 n17)])] [(VT.one CT.str)]
                                      (fun (s18 : ByteArray) => callG Tryz.prog 19 #[(Value.string s18)] [(VT.one CT.slice), (VT.agg [(CT.int IntKind.i64), (CT.int IntKind.i64)])]
                                        (fun (l19 : Sl) => fun (n20 : Int) => fun (n21 : Int) => newG (Obj.cells #[(Value.int IntKind.i64 (0 : Int)), (Value.int IntKind.i64 (0 : Int))] 27 (Prod.mk 0 0))
                                          (fun (m22 : Nat) => stG (Addr.mk m22 0 Option.none) (Value.int IntKind.i64 n20)
                                            (stG (Addr.mk m22 1 Option.none) (Value.int IntKind.i64 n21)
                                              (joinG [(VT.one CT.bool)]
                                                (fun k23 => drewG
                                                  (ldG (CT.int IntKind.i64) (Addr.mk m22 0 Option.none)
                                                    (fun (n24 : Int) => iteG (n24 != (0 : Int))
                                                      (k23 true)
                                                      (iteG ((↑(Sl.n l19) : Int) != (2 : Int))
                                                        (k23 true)
                                                        (idxG (Sl.a l19) (Sl.n l19) (0 : Int) 3
                                                          (fun (a25 : Addr) => ldG (CT.int IntKind.i64) (Addr.add a25 0)
                                                            (fun (n26 : Int) => ldG (CT.int IntKind.i64) (Addr.mk m10 0 Option.none)
                                                              (fun (n27 : Int) => iteG (n26 != n27)
                                                                (k23 true)
                                                                (idxG (Sl.a l19) (Sl.n l19) (0 : Int) 3
                                                                  (fun (a28 : Addr) => ldG CT.str (Addr.add a28 1)
                                                                    (fun (s29 : ByteArray) => ldG CT.str (Addr.mk m10 1 Option.none)
                                                                      (fun (s30 : ByteArray) => iteG (!ByteArray.toList s29 == ByteArray.toList s30)
                                                                        (k23 true)
                                                                        (idxG (Sl.a l19) (Sl.n l19) (0 : Int) 3
                                                                          (fun (a31 : Addr) => ldG (CT.int IntKind.i64) (Addr.add a31 2)
                                                                            (fun (n32 : Int) => iteG (n32 != (0 : Int))
                                                                              (k23 true)
                                                                              (k23 ((↑(ByteArray.size s18) : Int) == (0 : Int))))))))))))))))))
                                                (fun (b33 : Bool) => iteG b33
                                                  (retG (Value.tuple #[(Value.string (ByteArray.mk #[])), (Value.int IntKind.i64 (60 : Int))]))
                                                  (joinG [(VT.one CT.bool)]
                                                    (fun k34 => ldG (CT.int IntKind.i64) (Addr.mk m10 0 Option.none)
                                                      (fun (n35 : Int) => iteG (n35 != (4 : Int))
                                                        (idxG (Sl.a l19) (Sl.n l19) (0 : Int) 3
                                                          (fun (a36 : Addr) => ldG CT.str (Addr.add a36 1)
                                                            (fun (s37 : ByteArray) => k34 (!ByteArray.toList s37 == ByteArray.toList s18))))
                                                        (k34 false)))
                                                    (fun (b38 : Bool) => iteG b38
                                                      (retG (Value.tuple #[(Value.string (ByteArray.mk #[])), (Value.int IntKind.i64 (60 : Int))]))
                                                      (newG (Obj.cells #[(Value.string s18)] 9 (Prod.mk 0 0))
                                                        (fun (m39 : Nat) => opG Tryz.prog (Builtin.append_ #[40, 40] 40 #[(Value.slice (Sl.a l3) (Sl.n l3) (Sl.c l3)), (Value.slice (Option.some (Addr.mk m39 0 Option.none)) 1 1)]) (VT.one CT.slice)
                                                          (fun (l40 : Sl) => k5 l40)))))))))))))))))))))))))
          (fun (l41 : Sl) => k2 l41 (IntKind.wrap IntKind.i64 (n4 + (1 : Int)))))
        (k1 l3)) (Sl.mk Option.none 0 0) (0 : Int))
    (fun (l42 : Sl) => callG Tryz.prog 40 #[(Value.slice (Sl.a l42) (Sl.n l42) (Sl.c l42)), (Value.string (ByteArray.mk #[32]))] [(VT.one CT.str)]
      (fun (s43 : ByteArray) => retG (Value.tuple #[(Value.string s43), (Value.int IntKind.i64 (0 : Int))])))
theorem e22 : denF Tryz.prog (GA Tryz.prog) Tryz.f22 [(VT.one CT.slice)] (.seq .leaf (.seq .leaf (.seq (.seq .leaf (.block (sl Tryz.prog [(4, 40)]) (.loop (sl Tryz.prog [(4, 40), (12, 3)]) (.seq .leaf (.seq .leaf (.seq (.block (sl Tryz.prog [(4, 40)]) (.seq .leaf (.seq (.seq (.r (sl Tryz.prog [(23, 4)])) .leaf) (.seq .leaf (.seq .leaf (.seq (.seq (.r (sl Tryz.prog [(68, 4)])) .leaf) (.seq (.seq (.r (sl Tryz.prog [(79, 4)])) .leaf) .leaf))))))) .leaf)))))) .leaf))) = t22 := by kernel_rfl
theorem c22 (x0 : Sl) {R : Ending → World → Prop} {w : World} (h : t22 x0 R w) : Calls Tryz.prog 22 #[.slice x0.a x0.n x0.c] w R :=
  lift mixed Tryz.func22 e22 rfl ((x0, ()), ()) R w h

/-- pandectref06.Show -/
def t23 : Sl → G :=
  fun (l0 : Sl) => joinG [(VT.one CT.str)]
    (fun k1 => loopG [(VT.one CT.str), (VT.one (CT.int IntKind.i64))]
      (fun k2 => fun (s3 : ByteArray) => fun (n4 : Int) => iteG (Decidable.decide (n4 < (↑(Sl.n l0) : Int)))
        (joinG [(VT.one CT.str)]
          (fun k5 => joinG [(VT.one CT.bool)]
            (fun k6 => idxG (Sl.a l0) (Sl.n l0) n4 3
              (fun (a7 : Addr) => ldG (CT.int IntKind.i64) (Addr.add a7 0)
                (fun (n8 : Int) => iteG (n8 == (0 : Int))
                  (idxG (Sl.a l0) (Sl.n l0) n4 3
                    (fun (a9 : Addr) => ldG CT.str (Addr.add a9 1)
                      (fun (s10 : ByteArray) => k6 (ByteArray.toList s10 == ByteArray.toList (ByteArray.mk #[])))))
                  (k6 false))))
            (fun (b11 : Bool) => iteG b11
              (k5 s3)
              (idxG (Sl.a l0) (Sl.n l0) n4 3
                (fun (a12 : Addr) => ldG (CT.int IntKind.i64) (Addr.add a12 0)
                  (fun (n13 : Int) => ldG CT.str (Addr.add a12 1)
                    (fun (s14 : ByteArray) => ldG (CT.int IntKind.i64) (Addr.add a12 2)
                      (fun (n15 : Int) => callG Tryz.prog 41 #[(Value.agg #[(Value.int IntKind.i64 n13), (Value.string s14), (Value.int IntKind.i64 n15)])] [(VT.one CT.str)]
                        (fun (s16 : ByteArray) => joinG [(VT.one CT.bool)]
                          (fun k17 => iteG (ByteArray.toList s16 == ByteArray.toList (ByteArray.mk #[]))
                            (k17 true)
                            (k17 (Decidable.decide ((↑(ByteArray.size s16) : Int) > (4096 : Int)))))
                          (fun (b18 : Bool) => iteG b18
                            (retG (Value.tuple #[(Value.string (ByteArray.mk #[])), (Value.int IntKind.i64 (60 : Int))]))
                            (callG Tryz.prog 37 #[(Value.string s16)] [(VT.one (CT.int IntKind.i64)), (VT.agg [(CT.int IntKind.i64), (CT.int IntKind.i64)])]
                              (fun (n19 : Int) => fun (n20 : Int) => fun (n21 : Int) => newG (Obj.cells #[(Value.int IntKind.i64 (0 : Int)), (Value.int IntKind.i64 (0 : Int))] 27 (Prod.mk 0 0))
                                (fun (m22 : Nat) => stG (Addr.mk m22 0 Option.none) (Value.int IntKind.i64 n20)
                                  (stG (Addr.mk m22 1 Option.none) (Value.int IntKind.i64 n21)
                                    (callG Tryz.prog 38 #[(Value.string s16)] [(VT.agg [(CT.int IntKind.i64), CT.str, (CT.int IntKind.i64)]), (VT.one (CT.int IntKind.i64)), (VT.agg [(CT.int IntKind.i64), (CT.int IntKind.i64)])]
                                      (fun (n23 : Int) => fun (s24 : ByteArray) => fun (n25 : Int) => fun (n26 : Int) => fun (n27 : Int) => fun (n28 : Int) => newG (Obj.cells #[(Value.int IntKind.i64 (0 : Int)), (Value.string (ByteArray.mk #[])), (Value.int IntKind.i64 (0 : Int))] 32 (Prod.mk 0 0))
                                        (fun (m29 : Nat) => newG (Obj.cells #[(Value.int IntKind.i64 (0 : Int)), (Value.int IntKind.i64 (0 : Int))] 27 (Prod.mk 0 0))
                                          (fun (m30 : Nat) => stG (Addr.mk m29 0 Option.none) (Value.int IntKind.i64 n23)
                                            (stG (Addr.mk m29 1 Option.none) (Value.string s24)
                                              (stG (Addr.mk m29 2 Option.none) (Value.int IntKind.i64 n25)
                                                (stG (Addr.mk m30 0 Option.none) (Value.int IntKind.i64 n27)
                                                  (stG (Addr.mk m30 1 Option.none) (Value.int IntKind.i64 n28)
                                                    (joinG [(VT.one CT.bool)]
                                                      (fun k31 => drewG
                                                        (iteG (Decidable.decide (n19 > (0 : Int)))
                                                          (k31 true)
                                                          (ldG (CT.int IntKind.i64) (Addr.mk m30 0 Option.none)
                                                            (fun (n32 : Int) => iteG (n32 != (0 : Int))
                                                              (k31 true)
                                                              (iteG (n26 != (↑(ByteArray.size s16) : Int))
                                                                (k31 true)
                                                                (ldG (CT.int IntKind.i64) (Addr.mk m29 0 Option.none)
                                                                  (fun (n33 : Int) => idxG (Sl.a l0) (Sl.n l0) n4 3
                                                                    (fun (a34 : Addr) => ldG (CT.int IntKind.i64) (Addr.add a34 0)
                                                                      (fun (n35 : Int) => iteG (n33 != n35)
                                                                        (k31 true)
                                                                        (ldG CT.str (Addr.mk m29 1 Option.none)
                                                                          (fun (s36 : ByteArray) => idxG (Sl.a l0) (Sl.n l0) n4 3
                                                                            (fun (a37 : Addr) => ldG CT.str (Addr.add a37 1)
                                                                              (fun (s38 : ByteArray) => k31 (!ByteArray.toList s36 == ByteArray.toList s38))))))))))))))
                                                      (fun (b39 : Bool) => iteG b39
                                                        (retG (Value.tuple #[(Value.string (ByteArray.mk #[])), (Value.int IntKind.i64 (60 : Int))]))
                                                        (joinG [(VT.one CT.str)]
                                                          (fun k40 => iteG (!ByteArray.toList s3 == ByteArray.toList (ByteArray.mk #[]))
                                                            (catG s3 (ByteArray.mk #[32])
                                                              (fun (s41 : ByteArray) => k40 s41))
                                                            (k40 s3))
                                                          (fun (s42 : ByteArray) => catG s42 s16
                                                            (fun (s43 : ByteArray) => k5 s43))))))))))))))))))))))))))
          (fun (s44 : ByteArray) => k2 s44 (IntKind.wrap IntKind.i64 (n4 + (1 : Int)))))
        (k1 s3)) (ByteArray.mk #[]) (0 : Int))
    (fun (s45 : ByteArray) => retG (Value.tuple #[(Value.string s45), (Value.int IntKind.i64 (0 : Int))]))
theorem e23 : denF Tryz.prog (GA Tryz.prog) Tryz.f23 [(VT.one CT.slice)] (.seq .leaf (.seq .leaf (.seq (.seq .leaf (.block (sl Tryz.prog [(4, 9)]) (.loop (sl Tryz.prog [(4, 9), (5, 3)]) (.seq .leaf (.seq (.block (sl Tryz.prog [(4, 9)]) (.seq (.seq (.r (sl Tryz.prog [(31, 4)])) .leaf) (.seq .leaf (.seq (.seq (.r (sl Tryz.prog [(43, 4)])) .leaf) (.seq .leaf (.seq .leaf (.seq (.seq (.r (sl Tryz.prog [(87, 4)])) .leaf) (.seq (.seq .leaf (.condj (sl Tryz.prog [(4, 9)]) .leaf .leaf)) .leaf)))))))) .leaf))))) .leaf))) = t23 := by kernel_rfl
theorem c23 (x0 : Sl) {R : Ending → World → Prop} {w : World} (h : t23 x0 R w) : Calls Tryz.prog 23 #[.slice x0.a x0.n x0.c] w R :=
  lift mixed Tryz.func23 e23 rfl ((x0, ()), ()) R w h

/-- pandectref06.among -/
def t24 : ByteArray → Sl → G :=
  fun (s0 : ByteArray) => fun (l1 : Sl) => joinG []
    (fun k2 => loopG [(VT.one (CT.int IntKind.i64))]
      (fun k3 => fun (n4 : Int) => iteG (Decidable.decide (n4 < (↑(Sl.n l1) : Int)))
        (joinG []
          (fun k5 => idxG (Sl.a l1) (Sl.n l1) n4 1
            (fun (a6 : Addr) => ldG CT.str a6
              (fun (s7 : ByteArray) => iteG (ByteArray.toList s0 == ByteArray.toList s7)
                (retG (Value.bool true))
                (k5))))
          (k3 (IntKind.wrap IntKind.i64 (n4 + (1 : Int)))))
        (k2)) (0 : Int))
    (retG (Value.bool false))
theorem e24 : denF Tryz.prog (GA Tryz.prog) Tryz.f24 [(VT.one CT.str), (VT.one CT.slice)] (.seq .leaf (.seq (.seq .leaf (.block (sl Tryz.prog []) (.loop (sl Tryz.prog [(5, 3)]) (.seq .leaf (.seq (.block (sl Tryz.prog []) .leaf) .leaf))))) .leaf)) = t24 := by kernel_rfl
theorem c24 (x0 : ByteArray) (x1 : Sl) {R : Ending → World → Prop} {w : World} (h : t24 x0 x1 R w) : Calls Tryz.prog 24 #[.string x0, .slice x1.a x1.n x1.c] w R :=
  lift mixed Tryz.func24 e24 rfl ((x0, ()), (x1, ()), ()) R w h

/-- lex.named -/
def t26 : ByteArray → Value → G :=
  fun (s0 : ByteArray) => fun (v1 : Value) => joinG [(VT.one CT.bool)]
    (fun k2 => iteG (ByteArray.toList s0 == ByteArray.toList (ByteArray.mk #[]))
      (k2 true)
      (iteG (Decidable.decide ((↑(ByteArray.size s0) : Int) > (24 : Int)))
        (k2 true)
        (chrG s0 (0 : Int)
          (fun (n3 : Int) => callVG Tryz.prog v1 #[(Value.int IntKind.u8 n3)] [(VT.one CT.bool)]
            (fun (b4 : Bool) => k2 (!b4))))))
    (fun (b5 : Bool) => iteG b5
      (retG (Value.bool false))
      (joinG []
        (fun k6 => loopG [(VT.one (CT.int IntKind.i64))]
          (fun k7 => fun (n8 : Int) => iteG (Decidable.decide (n8 < (↑(ByteArray.size s0) : Int)))
            (joinG []
              (fun k9 => chrG s0 n8
                (fun (n10 : Int) => callG Tryz.prog 43 #[(Value.int IntKind.u8 n10)] [(VT.one CT.bool)]
                  (fun (b11 : Bool) => iteG (!b11)
                    (retG (Value.bool false))
                    (k9))))
              (k7 (IntKind.wrap IntKind.i64 (n8 + (1 : Int)))))
            (k6)) (0 : Int))
        (retG (Value.bool true))))
theorem e26 : denF Tryz.prog (GA Tryz.prog) Tryz.f26 [(VT.one CT.str), (VT.one CT.any)] (.seq .leaf (.seq (.seq (.r (sl Tryz.prog [(19, 4)])) .leaf) (.seq (.seq .leaf (.block (sl Tryz.prog []) (.loop (sl Tryz.prog [(22, 3)]) (.seq .leaf (.seq .leaf (.seq (.block (sl Tryz.prog []) .leaf) .leaf)))))) .leaf))) = t26 := by kernel_rfl
theorem c26 (x0 : ByteArray) (x1 : Value) {R : Ending → World → Prop} {w : World} (h : t26 x0 x1 R w) : Calls Tryz.prog 26 #[.string x0, x1] w R :=
  lift mixed Tryz.func26 e26 rfl ((x0, ()), (x1, ()), ()) R w h

/-- lex.small -/
def t27 : Int → G :=
  fun (n0 : Int) => joinG [(VT.one CT.bool)]
    (fun k1 => iteG (Decidable.decide (n0 ≥ (97 : Int)))
      (k1 (Decidable.decide (n0 ≤ (122 : Int))))
      (k1 false))
    (fun (b2 : Bool) => retG (Value.bool b2))
theorem e27 : denF Tryz.prog (GA Tryz.prog) Tryz.f27 [(VT.one (CT.int IntKind.u8))] (.seq .leaf (.seq (.r (sl Tryz.prog [(2, 4)])) .leaf)) = t27 := by kernel_rfl
theorem c27 (x0 : Int) {R : Ending → World → Prop} {w : World} (h : t27 x0 R w) : Calls Tryz.prog 27 #[.int .u8 x0] w R :=
  lift mixed Tryz.func27 e27 rfl ((x0, ()), ()) R w h

/-- pandectref06.small -/
def t28 : Int → G :=
  fun (n0 : Int) => joinG [(VT.one CT.bool)]
    (fun k1 => iteG (Decidable.decide (n0 ≥ (97 : Int)))
      (k1 (Decidable.decide (n0 ≤ (122 : Int))))
      (k1 false))
    (fun (b2 : Bool) => retG (Value.bool b2))
theorem e28 : denF Tryz.prog (GA Tryz.prog) Tryz.f28 [(VT.one (CT.int IntKind.u8))] (.seq .leaf (.seq (.r (sl Tryz.prog [(2, 4)])) .leaf)) = t28 := by kernel_rfl
theorem c28 (x0 : Int) {R : Ending → World → Prop} {w : World} (h : t28 x0 R w) : Calls Tryz.prog 28 #[.int .u8 x0] w R :=
  lift mixed Tryz.func28 e28 rfl ((x0, ()), ()) R w h

/-- pandectref06.rest -/
def t29 : ByteArray → G :=
  fun (s0 : ByteArray) => joinG [(VT.one (CT.int IntKind.i64))]
    (fun k1 => loopG [(VT.one (CT.int IntKind.i64))]
      (fun k2 => fun (n3 : Int) => joinG [(VT.one CT.bool)]
        (fun k4 => iteG (Decidable.decide (n3 < (↑(ByteArray.size s0) : Int)))
          (chrG s0 n3
            (fun (n5 : Int) => callG Tryz.prog 28 #[(Value.int IntKind.u8 n5)] [(VT.one CT.bool)]
              (fun (b6 : Bool) => iteG b6
                (k4 true)
                (chrG s0 n3
                  (fun (n7 : Int) => callG Tryz.prog 31 #[(Value.int IntKind.u8 n7)] [(VT.one CT.bool)]
                    (fun (b8 : Bool) => iteG b8
                      (k4 true)
                      (chrG s0 n3
                        (fun (n9 : Int) => callG Tryz.prog 44 #[(Value.int IntKind.u8 n9)] [(VT.one CT.bool)]
                          (fun (b10 : Bool) => iteG b10
                            (k4 true)
                            (chrG s0 n3
                              (fun (n11 : Int) => k4 (n11 == (95 : Int)))))))))))))
          (k4 false))
        (fun (b12 : Bool) => iteG b12
          (joinG [(VT.one (CT.int IntKind.i64))]
            (fun k13 => k13 (IntKind.wrap IntKind.i64 (n3 + (1 : Int))))
            (fun (n14 : Int) => k2 n14))
          (k1 n3))) (0 : Int))
    (fun (n15 : Int) => retG (Value.int IntKind.i64 n15))
theorem e29 : denF Tryz.prog (GA Tryz.prog) Tryz.f29 [(VT.one CT.str)] (.seq .leaf (.seq .leaf (.seq (.block (sl Tryz.prog [(3, 3)]) (.loop (sl Tryz.prog [(3, 3)]) (.seq (.seq (.r (sl Tryz.prog [(31, 4)])) .leaf) (.block (sl Tryz.prog [(3, 3)]) .leaf)))) .leaf))) = t29 := by kernel_rfl
theorem c29 (x0 : ByteArray) {R : Ending → World → Prop} {w : World} (h : t29 x0 R w) : Calls Tryz.prog 29 #[.string x0] w R :=
  lift mixed Tryz.func29 e29 rfl ((x0, ()), ()) R w h

/-- lex.great -/
def t30 : Int → G :=
  fun (n0 : Int) => joinG [(VT.one CT.bool)]
    (fun k1 => iteG (Decidable.decide (n0 ≥ (65 : Int)))
      (k1 (Decidable.decide (n0 ≤ (90 : Int))))
      (k1 false))
    (fun (b2 : Bool) => retG (Value.bool b2))
theorem e30 : denF Tryz.prog (GA Tryz.prog) Tryz.f30 [(VT.one (CT.int IntKind.u8))] (.seq .leaf (.seq (.r (sl Tryz.prog [(2, 4)])) .leaf)) = t30 := by kernel_rfl
theorem c30 (x0 : Int) {R : Ending → World → Prop} {w : World} (h : t30 x0 R w) : Calls Tryz.prog 30 #[.int .u8 x0] w R :=
  lift mixed Tryz.func30 e30 rfl ((x0, ()), ()) R w h

/-- pandectref06.great -/
def t31 : Int → G :=
  fun (n0 : Int) => joinG [(VT.one CT.bool)]
    (fun k1 => iteG (Decidable.decide (n0 ≥ (65 : Int)))
      (k1 (Decidable.decide (n0 ≤ (90 : Int))))
      (k1 false))
    (fun (b2 : Bool) => retG (Value.bool b2))
theorem e31 : denF Tryz.prog (GA Tryz.prog) Tryz.f31 [(VT.one (CT.int IntKind.u8))] (.seq .leaf (.seq (.r (sl Tryz.prog [(2, 4)])) .leaf)) = t31 := by kernel_rfl
theorem c31 (x0 : Int) {R : Ending → World → Prop} {w : World} (h : t31 x0 R w) : Calls Tryz.prog 31 #[.int .u8 x0] w R :=
  lift mixed Tryz.func31 e31 rfl ((x0, ()), ()) R w h

/-- (*lex.place).peek -/
def t32 : Option Addr → Int → G :=
  fun (p0 : Option Addr) => fun (n1 : Int) => drewG
    (nnG p0
      (fun (a2 : Addr) => ldG (CT.int IntKind.i64) (Addr.add a2 1)
        (fun (n3 : Int) => nnG p0
          (fun (a4 : Addr) => ldG CT.str (Addr.add a4 0)
            (fun (s5 : ByteArray) => iteG (Decidable.decide (IntKind.wrap IntKind.i64 (n3 + n1) ≥ (↑(ByteArray.size s5) : Int)))
              (retG (Value.int IntKind.u8 (0 : Int)))
              (drewG
                (nnG p0
                  (fun (a6 : Addr) => ldG CT.str (Addr.add a6 0)
                    (fun (s7 : ByteArray) => nnG p0
                      (fun (a8 : Addr) => ldG (CT.int IntKind.i64) (Addr.add a8 1)
                        (fun (n9 : Int) => chrG s7 (IntKind.wrap IntKind.i64 (n9 + n1))
                          (fun (n10 : Int) => retG (Value.int IntKind.u8 n10)))))))))))))
theorem e32 : denF Tryz.prog (GA Tryz.prog) Tryz.f32 [(VT.one CT.ptr), (VT.one (CT.int IntKind.i64))] .leaf = t32 := by kernel_rfl
theorem c32 (x0 : Option Addr) (x1 : Int) {R : Ending → World → Prop} {w : World} (h : t32 x0 x1 R w) : Calls Tryz.prog 32 #[.pointer x0, .int .i64 x1] w R :=
  lift mixed Tryz.func32 e32 rfl ((x0, ()), (x1, ()), ()) R w h

/-- (*lex.place).while -/
def t33 : Option Addr → Value → G :=
  fun (p0 : Option Addr) => fun (v1 : Value) => nnG p0
    (fun (a2 : Addr) => ldG (CT.int IntKind.i64) (Addr.add a2 1)
      (fun (n3 : Int) => joinG []
        (fun k4 => loopG []
          (fun k5 => joinG [(VT.one CT.bool)]
            (fun k6 => drewG
              (nnG p0
                (fun (a7 : Addr) => ldG (CT.int IntKind.i64) (Addr.add a7 1)
                  (fun (n8 : Int) => nnG p0
                    (fun (a9 : Addr) => ldG CT.str (Addr.add a9 0)
                      (fun (s10 : ByteArray) => iteG (Decidable.decide (n8 < (↑(ByteArray.size s10) : Int)))
                        (nnG p0
                          (fun (a11 : Addr) => ldG CT.str (Addr.add a11 0)
                            (fun (s12 : ByteArray) => nnG p0
                              (fun (a13 : Addr) => ldG (CT.int IntKind.i64) (Addr.add a13 1)
                                (fun (n14 : Int) => chrG s12 n14
                                  (fun (n15 : Int) => callVG Tryz.prog v1 #[(Value.int IntKind.u8 n15)] [(VT.one CT.bool)]
                                    (fun (b16 : Bool) => keepG [(Prod.mk (Addr.add a9 0) [(Value.string s10)]), (Prod.mk (Addr.add a7 1) [(Value.int IntKind.i64 n8)])]
                                      (k6 b16))))))))
                        (k6 false)))))))
            (fun (b17 : Bool) => iteG b17
              (joinG []
                (fun k18 => nnG p0
                  (fun (a19 : Addr) => ldG (CT.int IntKind.i64) (Addr.add a19 1)
                    (fun (n20 : Int) => nnG p0
                      (fun (a21 : Addr) => stG (Addr.add a21 1) (Value.int IntKind.i64 (IntKind.wrap IntKind.i64 (n20 + (1 : Int))))
                        (k18)))))
                (k5))
              (k4))))
        (drewG
          (nnG p0
            (fun (a22 : Addr) => ldG CT.str (Addr.add a22 0)
              (fun (s23 : ByteArray) => nnG p0
                (fun (a24 : Addr) => ldG (CT.int IntKind.i64) (Addr.add a24 1)
                  (fun (n25 : Int) => subG s23 n3 n25
                    (fun (s26 : ByteArray) => retG (Value.string s26))))))))))
theorem e33 : denF Tryz.prog (GA Tryz.prog) Tryz.f33 [(VT.one CT.ptr), (VT.one CT.any)] (.seq .leaf (.seq .leaf (.seq (.block (sl Tryz.prog []) (.loop (sl Tryz.prog []) (.seq (.seq (.r (sl Tryz.prog [(32, 4)])) .leaf) (.block (sl Tryz.prog []) .leaf)))) .leaf))) = t33 := by kernel_rfl
theorem c33 (x0 : Option Addr) (x1 : Value) {R : Ending → World → Prop} {w : World} (h : t33 x0 x1 R w) : Calls Tryz.prog 33 #[.pointer x0, x1] w R :=
  lift mixed Tryz.func33 e33 rfl ((x0, ()), (x1, ()), ()) R w h

/-- lex.Scan$1 -/
def t34 : Int → G :=
  fun (n0 : Int) => retG (Value.bool (n0 != (10 : Int)))
theorem e34 : denF Tryz.prog (GA Tryz.prog) Tryz.f34 [(VT.one (CT.int IntKind.u8))] .leaf = t34 := by kernel_rfl
theorem c34 (x0 : Int) {R : Ending → World → Prop} {w : World} (h : t34 x0 R w) : Calls Tryz.prog 34 #[.int .u8 x0] w R :=
  lift mixed Tryz.func34 e34 rfl ((x0, ()), ()) R w h

/-- (*lex.scanner).whole -/
def t35 : Option Addr → Int → Int → G :=
  fun (p0 : Option Addr) => fun (n1 : Int) => fun (n2 : Int) => nnG p0
    (fun (a3 : Addr) => ldG CT.str (Addr.add (Addr.add a3 0) 0)
      (fun (s4 : ByteArray) => subG s4 n1 n2
        (fun (s5 : ByteArray) => callG Tryz.prog 45 #[(Value.string s5)] [(VT.one CT.slice), (VT.agg [(CT.int IntKind.i64), (CT.int IntKind.i64)])]
          (fun (_ : Sl) => fun (n7 : Int) => fun (n8 : Int) => newG (Obj.cells #[(Value.int IntKind.i64 (0 : Int)), (Value.int IntKind.i64 (0 : Int))] 27 (Prod.mk 0 0))
            (fun (m9 : Nat) => stG (Addr.mk m9 0 Option.none) (Value.int IntKind.i64 n7)
              (stG (Addr.mk m9 1 Option.none) (Value.int IntKind.i64 n8)
                (ldG (CT.int IntKind.i64) (Addr.mk m9 0 Option.none)
                  (fun (n10 : Int) => iteG (n10 != (0 : Int))
                    (ldG (CT.int IntKind.i64) (Addr.mk m9 0 Option.none)
                      (fun (n11 : Int) => ldG (CT.int IntKind.i64) (Addr.mk m9 1 Option.none)
                        (fun (n12 : Int) => callG Tryz.prog 46 #[(Value.pointer p0), (Value.int IntKind.i64 n11), (Value.int IntKind.i64 (IntKind.wrap IntKind.i64 (n1 + n12)))] [(VT.one CT.bool)]
                          (fun (b13 : Bool) => retG (Value.bool b13)))))
                    (retG (Value.bool true))))))))))
theorem e35 : denF Tryz.prog (GA Tryz.prog) Tryz.f35 [(VT.one CT.ptr), (VT.one (CT.int IntKind.i64)), (VT.one (CT.int IntKind.i64))] .leaf = t35 := by kernel_rfl
theorem c35 (x0 : Option Addr) (x1 : Int) (x2 : Int) {R : Ending → World → Prop} {w : World} (h : t35 x0 x1 x2 R w) : Calls Tryz.prog 35 #[.pointer x0, .int .i64 x1, .int .i64 x2] w R :=
  lift mixed Tryz.func35 e35 rfl ((x0, ()), (x1, ()), (x2, ()), ()) R w h

/-- (*lex.scanner).token -/
def t36 : Option Addr → G :=
  fun (p0 : Option Addr) => newG (Obj.cells #[(Value.pointer p0)] 44 (Prod.mk 0 0))
    (fun (m1 : Nat) => drewG
      (ldG CT.ptr (Addr.mk m1 0 Option.none)
        (fun (p2 : Option Addr) => nnG p2
          (fun (a3 : Addr) => ldG (CT.int IntKind.i64) (Addr.add (Addr.add a3 0) 1)
            (fun (n4 : Int) => ldG CT.ptr (Addr.mk m1 0 Option.none)
              (fun (p5 : Option Addr) => nnG p5
                (fun (a6 : Addr) => bothG
                  (callG Tryz.prog 32 #[(Value.pointer (Option.some (Addr.add a6 0))), (Value.int IntKind.i64 (0 : Int))] [(VT.one (CT.int IntKind.u8))]
                    (fun (n7 : Int) => keepG [(Prod.mk (Addr.mk m1 0 Option.none) [(Value.pointer p5)]), (Prod.mk (Addr.add (Addr.add a3 0) 1) [(Value.int IntKind.i64 n4)]), (Prod.mk (Addr.mk m1 0 Option.none) [(Value.pointer p2)])]
                      (newG (Obj.cells #[(Value.int IntKind.i64 (0 : Int))] 3 (Prod.mk 0 0))
                        (fun (m8 : Nat) => keepG [(Prod.mk (Addr.mk m1 0 Option.none) [(Value.pointer p5)]), (Prod.mk (Addr.add (Addr.add a3 0) 1) [(Value.int IntKind.i64 n4)]), (Prod.mk (Addr.mk m1 0 Option.none) [(Value.pointer p2)])]
                          (stG (Addr.mk m8 0 Option.none) (Value.int IntKind.i64 n4)
                            (keepG [(Prod.mk (Addr.mk m1 0 Option.none) [(Value.pointer p5)])]
                              (joinG []
                                (fun k9 => joinG [(VT.one CT.bool)]
                                  (fun k10 => callG Tryz.prog 27 #[(Value.int IntKind.u8 n7)] [(VT.one CT.bool)]
                                    (fun (b11 : Bool) => iteG b11
                                      (k10 true)
                                      (callG Tryz.prog 30 #[(Value.int IntKind.u8 n7)] [(VT.one CT.bool)]
                                        (fun (b12 : Bool) => k10 b12))))
                                  (fun (b13 : Bool) => iteG b13
                                    (ldG CT.ptr (Addr.mk m1 0 Option.none)
                                      (fun (p14 : Option Addr) => nnG p14
                                        (fun (a15 : Addr) => callG Tryz.prog 33 #[(Value.pointer (Option.some (Addr.add a15 0))), (Value.func (Fn.func 43) #[] #[])] [(VT.one CT.str)]
                                          (fun (s16 : ByteArray) => joinG []
                                            (fun k17 => callG Tryz.prog 10 #[(Value.string s16)] [(VT.one CT.bool)]
                                              (fun (b18 : Bool) => iteG b18
                                                (callG Tryz.prog 47 #[(Value.int IntKind.i64 (5 : Int)), (Value.string s16), (Value.pointer (Option.some (Addr.mk m1 0 Option.none))), (Value.pointer (Option.some (Addr.mk m8 0 Option.none)))] [(VT.one CT.bool)]
                                                  (fun (b19 : Bool) => retG (Value.bool b19)))
                                                (callG Tryz.prog 14 #[(Value.string s16)] [(VT.one CT.bool)]
                                                  (fun (b20 : Bool) => iteG b20
                                                    (callG Tryz.prog 47 #[(Value.int IntKind.i64 (1 : Int)), (Value.string s16), (Value.pointer (Option.some (Addr.mk m1 0 Option.none))), (Value.pointer (Option.some (Addr.mk m8 0 Option.none)))] [(VT.one CT.bool)]
                                                      (fun (b21 : Bool) => retG (Value.bool b21)))
                                                    (callG Tryz.prog 16 #[(Value.string s16)] [(VT.one CT.bool)]
                                                      (fun (b22 : Bool) => iteG b22
                                                        (callG Tryz.prog 47 #[(Value.int IntKind.i64 (2 : Int)), (Value.string s16), (Value.pointer (Option.some (Addr.mk m1 0 Option.none))), (Value.pointer (Option.some (Addr.mk m8 0 Option.none)))] [(VT.one CT.bool)]
                                                          (fun (b23 : Bool) => retG (Value.bool b23)))
                                                        (k17)))))))
                                            (ldG CT.ptr (Addr.mk m1 0 Option.none)
                                              (fun (p24 : Option Addr) => ldG (CT.int IntKind.i64) (Addr.mk m8 0 Option.none)
                                                (fun (n25 : Int) => callG Tryz.prog 46 #[(Value.pointer p24), (Value.int IntKind.i64 (60 : Int)), (Value.int IntKind.i64 n25)] [(VT.one CT.bool)]
                                                  (fun (b26 : Bool) => retG (Value.bool b26)))))))))
                                    (callG Tryz.prog 48 #[(Value.int IntKind.u8 n7)] [(VT.one CT.bool)]
                                      (fun (b27 : Bool) => iteG b27
                                        (ldG CT.ptr (Addr.mk m1 0 Option.none)
                                          (fun (p28 : Option Addr) => nnG p28
                                            (fun (a29 : Addr) => callG Tryz.prog 33 #[(Value.pointer (Option.some (Addr.add a29 0))), (Value.func (Fn.func 49) #[] #[])] [(VT.one CT.str)]
                                              (fun (s30 : ByteArray) => joinG [(VT.one CT.bool)]
                                                (fun k31 => callG Tryz.prog 50 #[(Value.string s30), (Value.string (ByteArray.mk #[48, 49, 50, 51, 52, 53, 54, 55, 56, 57]))] [(VT.one CT.str)]
                                                  (fun (s32 : ByteArray) => iteG ((↑(ByteArray.size s32) : Int) == (0 : Int))
                                                    (iteG (Decidable.decide ((↑(ByteArray.size s30) : Int) ≤ (15 : Int)))
                                                      (iteG (ByteArray.toList s30 == ByteArray.toList (ByteArray.mk #[(48 : UInt8)]))
                                                        (k31 true)
                                                        (chrG s30 (0 : Int)
                                                          (fun (n33 : Int) => k31 (n33 != (48 : Int)))))
                                                      (k31 false))
                                                    (k31 false)))
                                                (fun (b34 : Bool) => iteG b34
                                                  (callG Tryz.prog 47 #[(Value.int IntKind.i64 (3 : Int)), (Value.string s30), (Value.pointer (Option.some (Addr.mk m1 0 Option.none))), (Value.pointer (Option.some (Addr.mk m8 0 Option.none)))] [(VT.one CT.bool)]
                                                    (fun (b35 : Bool) => retG (Value.bool b35)))
                                                  (callG Tryz.prog 51 #[(Value.string s30)] [(VT.agg [(CT.int IntKind.i64), (CT.int IntKind.i64), (CT.int IntKind.i64), CT.str]), (VT.one (CT.int IntKind.i64))]
                                                    (fun (n36 : Int) => fun (n37 : Int) => fun (n38 : Int) => fun (s39 : ByteArray) => fun (n40 : Int) => newG (Obj.cells #[(Value.int IntKind.i64 (0 : Int)), (Value.int IntKind.i64 (0 : Int)), (Value.int IntKind.i64 (0 : Int)), (Value.string (ByteArray.mk #[]))] 67 (Prod.mk 0 0))
                                                      (fun (m41 : Nat) => stG (Addr.mk m41 0 Option.none) (Value.int IntKind.i64 n36)
                                                        (stG (Addr.mk m41 1 Option.none) (Value.int IntKind.i64 n37)
                                                          (stG (Addr.mk m41 2 Option.none) (Value.int IntKind.i64 n38)
                                                            (stG (Addr.mk m41 3 Option.none) (Value.string s39)
                                                              (iteG (n40 == (0 : Int))
                                                                (callG Tryz.prog 47 #[(Value.int IntKind.i64 (7 : Int)), (Value.string s30), (Value.pointer (Option.some (Addr.mk m1 0 Option.none))), (Value.pointer (Option.some (Addr.mk m8 0 Option.none)))] [(VT.one CT.bool)]
                                                                  (fun (b42 : Bool) => retG (Value.bool b42)))
                                                                (ldG CT.ptr (Addr.mk m1 0 Option.none)
                                                                  (fun (p43 : Option Addr) => ldG (CT.int IntKind.i64) (Addr.mk m8 0 Option.none)
                                                                    (fun (n44 : Int) => callG Tryz.prog 46 #[(Value.pointer p43), (Value.int IntKind.i64 (60 : Int)), (Value.int IntKind.i64 n44)] [(VT.one CT.bool)]
                                                                      (fun (b45 : Bool) => retG (Value.bool b45)))))))))))))))))
                                        (iteG (n7 == (34 : Int))
                                          (ldG CT.ptr (Addr.mk m1 0 Option.none)
                                            (fun (p46 : Option Addr) => callG Tryz.prog 52 #[(Value.pointer p46)] [(VT.one CT.str), (VT.one CT.bool)]
                                              (fun (s47 : ByteArray) => fun (b48 : Bool) => joinG [(VT.one CT.bool)]
                                                (fun k49 => iteG b48
                                                  (callG Tryz.prog 47 #[(Value.int IntKind.i64 (4 : Int)), (Value.string s47), (Value.pointer (Option.some (Addr.mk m1 0 Option.none))), (Value.pointer (Option.some (Addr.mk m8 0 Option.none)))] [(VT.one CT.bool)]
                                                    (fun (b50 : Bool) => k49 b50))
                                                  (k49 false))
                                                (fun (b51 : Bool) => retG (Value.bool b51)))))
                                          (k9))))))
                                (joinG []
                                  (fun k52 => loopG [(VT.one (CT.int IntKind.i64))]
                                    (fun k53 => fun (n54 : Int) => iteG (Decidable.decide (n54 > (0 : Int)))
                                      (joinG []
                                        (fun k55 => joinG [(VT.one CT.bool)]
                                          (fun k56 => drewG
                                            (ldG (CT.int IntKind.i64) (Addr.mk m8 0 Option.none)
                                              (fun (n57 : Int) => ldG CT.ptr (Addr.mk m1 0 Option.none)
                                                (fun (p58 : Option Addr) => nnG p58
                                                  (fun (a59 : Addr) => ldG CT.str (Addr.add (Addr.add a59 0) 0)
                                                    (fun (s60 : ByteArray) => iteG (Decidable.decide (IntKind.wrap IntKind.i64 (n57 + n54) ≤ (↑(ByteArray.size s60) : Int)))
                                                      (ldG CT.ptr (Addr.mk m1 0 Option.none)
                                                        (fun (p61 : Option Addr) => nnG p61
                                                          (fun (a62 : Addr) => ldG CT.str (Addr.add (Addr.add a62 0) 0)
                                                            (fun (s63 : ByteArray) => ldG (CT.int IntKind.i64) (Addr.mk m8 0 Option.none)
                                                              (fun (n64 : Int) => ldG (CT.int IntKind.i64) (Addr.mk m8 0 Option.none)
                                                                (fun (n65 : Int) => subG s63 n64 (IntKind.wrap IntKind.i64 (n65 + n54))
                                                                  (fun (s66 : ByteArray) => callG Tryz.prog 12 #[(Value.string s66)] [(VT.one CT.bool)]
                                                                    (fun (b67 : Bool) => keepG [(Prod.mk (Addr.mk m8 0 Option.none) [(Value.int IntKind.i64 n65)]), (Prod.mk (Addr.mk m1 0 Option.none) [(Value.pointer p61)]), (Prod.mk (Addr.add (Addr.add a59 0) 0) [(Value.string s60)]), (Prod.mk (Addr.mk m1 0 Option.none) [(Value.pointer p58)]), (Prod.mk (Addr.mk m8 0 Option.none) [(Value.int IntKind.i64 n57)])]
                                                                      (k56 b67)))))))))
                                                      (k56 false)))))))
                                          (fun (b68 : Bool) => iteG b68
                                            (ldG CT.ptr (Addr.mk m1 0 Option.none)
                                              (fun (p69 : Option Addr) => nnG p69
                                                (fun (a70 : Addr) => ldG (CT.int IntKind.i64) (Addr.add (Addr.add a70 0) 1)
                                                  (fun (n71 : Int) => nnG p69
                                                    (fun (a72 : Addr) => stG (Addr.add (Addr.add a72 0) 1) (Value.int IntKind.i64 (IntKind.wrap IntKind.i64 (n71 + n54)))
                                                      (drewG
                                                        (ldG CT.ptr (Addr.mk m1 0 Option.none)
                                                          (fun (p73 : Option Addr) => nnG p73
                                                            (fun (a74 : Addr) => ldG CT.str (Addr.add (Addr.add a74 0) 0)
                                                              (fun (s75 : ByteArray) => ldG (CT.int IntKind.i64) (Addr.mk m8 0 Option.none)
                                                                (fun (n76 : Int) => ldG CT.ptr (Addr.mk m1 0 Option.none)
                                                                  (fun (p77 : Option Addr) => nnG p77
                                                                    (fun (a78 : Addr) => ldG (CT.int IntKind.i64) (Addr.add (Addr.add a78 0) 1)
                                                                      (fun (n79 : Int) => subG s75 n76 n79
                                                                        (fun (s80 : ByteArray) => callG Tryz.prog 47 #[(Value.int IntKind.i64 (6 : Int)), (Value.string s80), (Value.pointer (Option.some (Addr.mk m1 0 Option.none))), (Value.pointer (Option.some (Addr.mk m8 0 Option.none)))] [(VT.one CT.bool)]
                                                                          (fun (b81 : Bool) => keepG [(Prod.mk (Addr.mk m1 0 Option.none) [(Value.pointer p77)]), (Prod.mk (Addr.mk m1 0 Option.none) [(Value.pointer p73)])]
                                                                            (retG (Value.bool b81))))))))))))))))))
                                            (k55)))
                                        (k53 (IntKind.wrap IntKind.i64 (n54 - (1 : Int)))))
                                      (k52)) (2 : Int))
                                  (ldG CT.ptr (Addr.mk m1 0 Option.none)
                                    (fun (p82 : Option Addr) => ldG (CT.int IntKind.i64) (Addr.mk m8 0 Option.none)
                                      (fun (n83 : Int) => callG Tryz.prog 46 #[(Value.pointer p82), (Value.int IntKind.i64 (60 : Int)), (Value.int IntKind.i64 n83)] [(VT.one CT.bool)]
                                        (fun (b84 : Bool) => retG (Value.bool b84)))))))))))))
                  (newG (Obj.cells #[(Value.int IntKind.i64 (0 : Int))] 3 (Prod.mk 0 0))
                    (fun (m85 : Nat) => keepG [(Prod.mk (Addr.mk m1 0 Option.none) [(Value.pointer p5)]), (Prod.mk (Addr.add (Addr.add a3 0) 1) [(Value.int IntKind.i64 n4)]), (Prod.mk (Addr.mk m1 0 Option.none) [(Value.pointer p2)])]
                      (callG Tryz.prog 32 #[(Value.pointer (Option.some (Addr.add a6 0))), (Value.int IntKind.i64 (0 : Int))] [(VT.one (CT.int IntKind.u8))]
                        (fun (n86 : Int) => keepG [(Prod.mk (Addr.mk m1 0 Option.none) [(Value.pointer p5)]), (Prod.mk (Addr.add (Addr.add a3 0) 1) [(Value.int IntKind.i64 n4)]), (Prod.mk (Addr.mk m1 0 Option.none) [(Value.pointer p2)])]
                          (stG (Addr.mk m85 0 Option.none) (Value.int IntKind.i64 n4)
                            (keepG [(Prod.mk (Addr.mk m1 0 Option.none) [(Value.pointer p5)])]
                              (joinG []
                                (fun k87 => joinG [(VT.one CT.bool)]
                                  (fun k88 => callG Tryz.prog 27 #[(Value.int IntKind.u8 n86)] [(VT.one CT.bool)]
                                    (fun (b89 : Bool) => iteG b89
                                      (k88 true)
                                      (callG Tryz.prog 30 #[(Value.int IntKind.u8 n86)] [(VT.one CT.bool)]
                                        (fun (b90 : Bool) => k88 b90))))
                                  (fun (b91 : Bool) => iteG b91
                                    (ldG CT.ptr (Addr.mk m1 0 Option.none)
                                      (fun (p92 : Option Addr) => nnG p92
                                        (fun (a93 : Addr) => callG Tryz.prog 33 #[(Value.pointer (Option.some (Addr.add a93 0))), (Value.func (Fn.func 43) #[] #[])] [(VT.one CT.str)]
                                          (fun (s94 : ByteArray) => joinG []
                                            (fun k95 => callG Tryz.prog 10 #[(Value.string s94)] [(VT.one CT.bool)]
                                              (fun (b96 : Bool) => iteG b96
                                                (callG Tryz.prog 47 #[(Value.int IntKind.i64 (5 : Int)), (Value.string s94), (Value.pointer (Option.some (Addr.mk m1 0 Option.none))), (Value.pointer (Option.some (Addr.mk m85 0 Option.none)))] [(VT.one CT.bool)]
                                                  (fun (b97 : Bool) => retG (Value.bool b97)))
                                                (callG Tryz.prog 14 #[(Value.string s94)] [(VT.one CT.bool)]
                                                  (fun (b98 : Bool) => iteG b98
                                                    (callG Tryz.prog 47 #[(Value.int IntKind.i64 (1 : Int)), (Value.string s94), (Value.pointer (Option.some (Addr.mk m1 0 Option.none))), (Value.pointer (Option.some (Addr.mk m85 0 Option.none)))] [(VT.one CT.bool)]
                                                      (fun (b99 : Bool) => retG (Value.bool b99)))
                                                    (callG Tryz.prog 16 #[(Value.string s94)] [(VT.one CT.bool)]
                                                      (fun (b100 : Bool) => iteG b100
                                                        (callG Tryz.prog 47 #[(Value.int IntKind.i64 (2 : Int)), (Value.string s94), (Value.pointer (Option.some (Addr.mk m1 0 Option.none))), (Value.pointer (Option.some (Addr.mk m85 0 Option.none)))] [(VT.one CT.bool)]
                                                          (fun (b101 : Bool) => retG (Value.bool b101)))
                                                        (k95)))))))
                                            (ldG CT.ptr (Addr.mk m1 0 Option.none)
                                              (fun (p102 : Option Addr) => ldG (CT.int IntKind.i64) (Addr.mk m85 0 Option.none)
                                                (fun (n103 : Int) => callG Tryz.prog 46 #[(Value.pointer p102), (Value.int IntKind.i64 (60 : Int)), (Value.int IntKind.i64 n103)] [(VT.one CT.bool)]
                                                  (fun (b104 : Bool) => retG (Value.bool b104)))))))))
                                    (callG Tryz.prog 48 #[(Value.int IntKind.u8 n86)] [(VT.one CT.bool)]
                                      (fun (b105 : Bool) => iteG b105
                                        (ldG CT.ptr (Addr.mk m1 0 Option.none)
                                          (fun (p106 : Option Addr) => nnG p106
                                            (fun (a107 : Addr) => callG Tryz.prog 33 #[(Value.pointer (Option.some (Addr.add a107 0))), (Value.func (Fn.func 49) #[] #[])] [(VT.one CT.str)]
                                              (fun (s108 : ByteArray) => joinG [(VT.one CT.bool)]
                                                (fun k109 => callG Tryz.prog 50 #[(Value.string s108), (Value.string (ByteArray.mk #[48, 49, 50, 51, 52, 53, 54, 55, 56, 57]))] [(VT.one CT.str)]
                                                  (fun (s110 : ByteArray) => iteG ((↑(ByteArray.size s110) : Int) == (0 : Int))
                                                    (iteG (Decidable.decide ((↑(ByteArray.size s108) : Int) ≤ (15 : Int)))
                                                      (iteG (ByteArray.toList s108 == ByteArray.toList (ByteArray.mk #[(48 : UInt8)]))
                                                        (k109 true)
                                                        (chrG s108 (0 : Int)
                                                          (fun (n111 : Int) => k109 (n111 != (48 : Int)))))
                                                      (k109 false))
                                                    (k109 false)))
                                                (fun (b112 : Bool) => iteG b112
                                                  (callG Tryz.prog 47 #[(Value.int IntKind.i64 (3 : Int)), (Value.string s108), (Value.pointer (Option.some (Addr.mk m1 0 Option.none))), (Value.pointer (Option.some (Addr.mk m85 0 Option.none)))] [(VT.one CT.bool)]
                                                    (fun (b113 : Bool) => retG (Value.bool b113)))
                                                  (callG Tryz.prog 51 #[(Value.string s108)] [(VT.agg [(CT.int IntKind.i64), (CT.int IntKind.i64), (CT.int IntKind.i64), CT.str]), (VT.one (CT.int IntKind.i64))]
                                                    (fun (n114 : Int) => fun (n115 : Int) => fun (n116 : Int) => fun (s117 : ByteArray) => fun (n118 : Int) => newG (Obj.cells #[(Value.int IntKind.i64 (0 : Int)), (Value.int IntKind.i64 (0 : Int)), (Value.int IntKind.i64 (0 : Int)), (Value.string (ByteArray.mk #[]))] 67 (Prod.mk 0 0))
                                                      (fun (m119 : Nat) => stG (Addr.mk m119 0 Option.none) (Value.int IntKind.i64 n114)
                                                        (stG (Addr.mk m119 1 Option.none) (Value.int IntKind.i64 n115)
                                                          (stG (Addr.mk m119 2 Option.none) (Value.int IntKind.i64 n116)
                                                            (stG (Addr.mk m119 3 Option.none) (Value.string s117)
                                                              (iteG (n118 == (0 : Int))
                                                                (callG Tryz.prog 47 #[(Value.int IntKind.i64 (7 : Int)), (Value.string s108), (Value.pointer (Option.some (Addr.mk m1 0 Option.none))), (Value.pointer (Option.some (Addr.mk m85 0 Option.none)))] [(VT.one CT.bool)]
                                                                  (fun (b120 : Bool) => retG (Value.bool b120)))
                                                                (ldG CT.ptr (Addr.mk m1 0 Option.none)
                                                                  (fun (p121 : Option Addr) => ldG (CT.int IntKind.i64) (Addr.mk m85 0 Option.none)
                                                                    (fun (n122 : Int) => callG Tryz.prog 46 #[(Value.pointer p121), (Value.int IntKind.i64 (60 : Int)), (Value.int IntKind.i64 n122)] [(VT.one CT.bool)]
                                                                      (fun (b123 : Bool) => retG (Value.bool b123)))))))))))))))))
                                        (iteG (n86 == (34 : Int))
                                          (ldG CT.ptr (Addr.mk m1 0 Option.none)
                                            (fun (p124 : Option Addr) => callG Tryz.prog 52 #[(Value.pointer p124)] [(VT.one CT.str), (VT.one CT.bool)]
                                              (fun (s125 : ByteArray) => fun (b126 : Bool) => joinG [(VT.one CT.bool)]
                                                (fun k127 => iteG b126
                                                  (callG Tryz.prog 47 #[(Value.int IntKind.i64 (4 : Int)), (Value.string s125), (Value.pointer (Option.some (Addr.mk m1 0 Option.none))), (Value.pointer (Option.some (Addr.mk m85 0 Option.none)))] [(VT.one CT.bool)]
                                                    (fun (b128 : Bool) => k127 b128))
                                                  (k127 false))
                                                (fun (b129 : Bool) => retG (Value.bool b129)))))
                                          (k87))))))
                                (joinG []
                                  (fun k130 => loopG [(VT.one (CT.int IntKind.i64))]
                                    (fun k131 => fun (n132 : Int) => iteG (Decidable.decide (n132 > (0 : Int)))
                                      (joinG []
                                        (fun k133 => joinG [(VT.one CT.bool)]
                                          (fun k134 => drewG
                                            (ldG (CT.int IntKind.i64) (Addr.mk m85 0 Option.none)
                                              (fun (n135 : Int) => ldG CT.ptr (Addr.mk m1 0 Option.none)
                                                (fun (p136 : Option Addr) => nnG p136
                                                  (fun (a137 : Addr) => ldG CT.str (Addr.add (Addr.add a137 0) 0)
                                                    (fun (s138 : ByteArray) => iteG (Decidable.decide (IntKind.wrap IntKind.i64 (n135 + n132) ≤ (↑(ByteArray.size s138) : Int)))
                                                      (ldG CT.ptr (Addr.mk m1 0 Option.none)
                                                        (fun (p139 : Option Addr) => nnG p139
                                                          (fun (a140 : Addr) => ldG CT.str (Addr.add (Addr.add a140 0) 0)
                                                            (fun (s141 : ByteArray) => ldG (CT.int IntKind.i64) (Addr.mk m85 0 Option.none)
                                                              (fun (n142 : Int) => ldG (CT.int IntKind.i64) (Addr.mk m85 0 Option.none)
                                                                (fun (n143 : Int) => subG s141 n142 (IntKind.wrap IntKind.i64 (n143 + n132))
                                                                  (fun (s144 : ByteArray) => callG Tryz.prog 12 #[(Value.string s144)] [(VT.one CT.bool)]
                                                                    (fun (b145 : Bool) => keepG [(Prod.mk (Addr.mk m85 0 Option.none) [(Value.int IntKind.i64 n143)]), (Prod.mk (Addr.mk m1 0 Option.none) [(Value.pointer p139)]), (Prod.mk (Addr.add (Addr.add a137 0) 0) [(Value.string s138)]), (Prod.mk (Addr.mk m1 0 Option.none) [(Value.pointer p136)]), (Prod.mk (Addr.mk m85 0 Option.none) [(Value.int IntKind.i64 n135)])]
                                                                      (k134 b145)))))))))
                                                      (k134 false)))))))
                                          (fun (b146 : Bool) => iteG b146
                                            (ldG CT.ptr (Addr.mk m1 0 Option.none)
                                              (fun (p147 : Option Addr) => nnG p147
                                                (fun (a148 : Addr) => ldG (CT.int IntKind.i64) (Addr.add (Addr.add a148 0) 1)
                                                  (fun (n149 : Int) => nnG p147
                                                    (fun (a150 : Addr) => stG (Addr.add (Addr.add a150 0) 1) (Value.int IntKind.i64 (IntKind.wrap IntKind.i64 (n149 + n132)))
                                                      (drewG
                                                        (ldG CT.ptr (Addr.mk m1 0 Option.none)
                                                          (fun (p151 : Option Addr) => nnG p151
                                                            (fun (a152 : Addr) => ldG CT.str (Addr.add (Addr.add a152 0) 0)
                                                              (fun (s153 : ByteArray) => ldG (CT.int IntKind.i64) (Addr.mk m85 0 Option.none)
                                                                (fun (n154 : Int) => ldG CT.ptr (Addr.mk m1 0 Option.none)
                                                                  (fun (p155 : Option Addr) => nnG p155
                                                                    (fun (a156 : Addr) => ldG (CT.int IntKind.i64) (Addr.add (Addr.add a156 0) 1)
                                                                      (fun (n157 : Int) => subG s153 n154 n157
                                                                        (fun (s158 : ByteArray) => callG Tryz.prog 47 #[(Value.int IntKind.i64 (6 : Int)), (Value.string s158), (Value.pointer (Option.some (Addr.mk m1 0 Option.none))), (Value.pointer (Option.some (Addr.mk m85 0 Option.none)))] [(VT.one CT.bool)]
                                                                          (fun (b159 : Bool) => keepG [(Prod.mk (Addr.mk m1 0 Option.none) [(Value.pointer p155)]), (Prod.mk (Addr.mk m1 0 Option.none) [(Value.pointer p151)])]
                                                                            (retG (Value.bool b159))))))))))))))))))
                                            (k133)))
                                        (k131 (IntKind.wrap IntKind.i64 (n132 - (1 : Int)))))
                                      (k130)) (2 : Int))
                                  (ldG CT.ptr (Addr.mk m1 0 Option.none)
                                    (fun (p160 : Option Addr) => ldG (CT.int IntKind.i64) (Addr.mk m85 0 Option.none)
                                      (fun (n161 : Int) => callG Tryz.prog 46 #[(Value.pointer p160), (Value.int IntKind.i64 (60 : Int)), (Value.int IntKind.i64 n161)] [(VT.one CT.bool)]
                                        (fun (b162 : Bool) => retG (Value.bool b162))))))))))))))))))))
theorem e36 : denF Tryz.prog (GA Tryz.prog) Tryz.f36 [(VT.one CT.ptr)] (.seq .leaf (.seq .leaf (.seq .leaf (.seq (.block (sl Tryz.prog []) (.seq (.r (sl Tryz.prog [(23, 4)])) (.cond (.seq (.seq .leaf (.block (sl Tryz.prog []) .leaf)) .leaf) (.seq .leaf (.cond (.seq .leaf (.seq (.seq (.r (sl Tryz.prog [(79, 4)])) .leaf) .leaf)) (.seq .leaf (.cond (.seq .leaf (.seq (.r (sl Tryz.prog [(2, 4)])) .leaf)) .leaf))))))) (.seq (.seq .leaf (.block (sl Tryz.prog []) (.loop (sl Tryz.prog [(12, 3)]) (.seq .leaf (.seq (.block (sl Tryz.prog []) (.seq (.r (sl Tryz.prog [(136, 4)])) .leaf)) .leaf))))) .leaf))))) = t36 := by kernel_rfl
theorem c36 (x0 : Option Addr) {R : Ending → World → Prop} {w : World} (h : t36 x0 R w) : Calls Tryz.prog 36 #[.pointer x0] w R :=
  lift mixed Tryz.func36 e36 rfl ((x0, ()), ()) R w h

/-- pandectref06.passed -/
def t37 : ByteArray → G :=
  fun (s0 : ByteArray) => newG (Obj.cells #[(Value.int IntKind.i64 (0 : Int)), (Value.int IntKind.i64 (0 : Int))] 27 (Prod.mk 0 0))
    (fun (m1 : Nat) => joinG [(VT.one (CT.int IntKind.i64))]
      (fun k2 => loopG [(VT.one (CT.int IntKind.i64))]
        (fun k3 => fun (n4 : Int) => joinG [(VT.one CT.bool)]
          (fun k5 => iteG (Decidable.decide (n4 < (↑(ByteArray.size s0) : Int)))
            (chrG s0 n4
              (fun (n6 : Int) => iteG (n6 == (9 : Int))
                (k5 true)
                (chrG s0 n4
                  (fun (n7 : Int) => iteG (n7 == (10 : Int))
                    (k5 true)
                    (chrG s0 n4
                      (fun (n8 : Int) => iteG (n8 == (13 : Int))
                        (k5 true)
                        (chrG s0 n4
                          (fun (n9 : Int) => k5 (n9 == (32 : Int))))))))))
            (k5 false))
          (fun (b10 : Bool) => iteG b10
            (joinG [(VT.one (CT.int IntKind.i64))]
              (fun k11 => k11 (IntKind.wrap IntKind.i64 (n4 + (1 : Int))))
              (fun (n12 : Int) => k3 n12))
            (k2 n4))) (0 : Int))
      (fun (n13 : Int) => joinG [(VT.one CT.bool)]
        (fun k14 => iteG (Decidable.decide (IntKind.wrap IntKind.i64 (n13 + (1 : Int)) ≥ (↑(ByteArray.size s0) : Int)))
          (k14 true)
          (chrG s0 n13
            (fun (n15 : Int) => iteG (n15 != (45 : Int))
              (k14 true)
              (chrG s0 (IntKind.wrap IntKind.i64 (n13 + (1 : Int)))
                (fun (n16 : Int) => k14 (n16 != (45 : Int)))))))
        (fun (b17 : Bool) => iteG b17
          (stG (Addr.mk m1 0 Option.none) (Value.int IntKind.i64 (0 : Int))
            (stG (Addr.mk m1 1 Option.none) (Value.int IntKind.i64 (0 : Int))
              (ldG (CT.int IntKind.i64) (Addr.mk m1 0 Option.none)
                (fun (n18 : Int) => ldG (CT.int IntKind.i64) (Addr.mk m1 1 Option.none)
                  (fun (n19 : Int) => retG (Value.tuple #[(Value.int IntKind.i64 n13), (Value.agg #[(Value.int IntKind.i64 n18), (Value.int IntKind.i64 n19)])]))))))
          (joinG [(VT.one (CT.int IntKind.i64))]
            (fun k20 => loopG [(VT.one (CT.int IntKind.i64))]
              (fun k21 => fun (n22 : Int) => joinG [(VT.one CT.bool)]
                (fun k23 => iteG (Decidable.decide (n22 < (↑(ByteArray.size s0) : Int)))
                  (chrG s0 n22
                    (fun (n24 : Int) => k23 (n24 != (10 : Int))))
                  (k23 false))
                (fun (b25 : Bool) => iteG b25
                  (joinG [(VT.one (CT.int IntKind.i64))]
                    (fun k26 => subG s0 n22 ((↑(ByteArray.size s0) : Int))
                      (fun (s27 : ByteArray) => callG Tryz.prog 53 #[(Value.string s27)] [(VT.one (CT.int IntKind.i64)), (VT.one (CT.int IntKind.i64))]
                        (fun (_ : Int) => fun (n29 : Int) => iteG (n29 == (0 : Int))
                          (stG (Addr.mk m1 0 Option.none) (Value.int IntKind.i64 (30 : Int))
                            (stG (Addr.mk m1 1 Option.none) (Value.int IntKind.i64 n22)
                              (ldG (CT.int IntKind.i64) (Addr.mk m1 0 Option.none)
                                (fun (n30 : Int) => ldG (CT.int IntKind.i64) (Addr.mk m1 1 Option.none)
                                  (fun (n31 : Int) => retG (Value.tuple #[(Value.int IntKind.i64 (0 : Int)), (Value.agg #[(Value.int IntKind.i64 n30), (Value.int IntKind.i64 n31)])]))))))
                          (k26 (IntKind.wrap IntKind.i64 (n22 + n29))))))
                    (fun (n32 : Int) => k21 n32))
                  (k20 n22))) n13)
            (fun (n33 : Int) => stG (Addr.mk m1 0 Option.none) (Value.int IntKind.i64 (0 : Int))
              (stG (Addr.mk m1 1 Option.none) (Value.int IntKind.i64 (0 : Int))
                (ldG (CT.int IntKind.i64) (Addr.mk m1 0 Option.none)
                  (fun (n34 : Int) => ldG (CT.int IntKind.i64) (Addr.mk m1 1 Option.none)
                    (fun (n35 : Int) => retG (Value.tuple #[(Value.int IntKind.i64 n33), (Value.agg #[(Value.int IntKind.i64 n34), (Value.int IntKind.i64 n35)])]))))))))))
theorem e37 : denF Tryz.prog (GA Tryz.prog) Tryz.f37 [(VT.one CT.str)] (.seq .leaf (.seq .leaf (.seq (.block (sl Tryz.prog [(4, 3)]) (.loop (sl Tryz.prog [(4, 3)]) (.seq (.seq (.r (sl Tryz.prog [(34, 4)])) .leaf) (.block (sl Tryz.prog [(4, 3)]) .leaf)))) (.seq (.seq (.r (sl Tryz.prog [(54, 4)])) .leaf) (.seq (.block (sl Tryz.prog [(4, 3)]) (.loop (sl Tryz.prog [(4, 3)]) (.seq (.seq (.r (sl Tryz.prog [(66, 4)])) .leaf) (.block (sl Tryz.prog [(4, 3)]) .leaf)))) .leaf))))) = t37 := by kernel_rfl
theorem c37 (x0 : ByteArray) {R : Ending → World → Prop} {w : World} (h : t37 x0 R w) : Calls Tryz.prog 37 #[.string x0] w R :=
  lift mixed Tryz.func37 e37 rfl ((x0, ()), ()) R w h

/-- pandectref06.first -/
def t38 : ByteArray → G :=
  fun (s0 : ByteArray) => newG (Obj.cells #[(Value.int IntKind.i64 (0 : Int)), (Value.string (ByteArray.mk #[])), (Value.int IntKind.i64 (0 : Int))] 32 (Prod.mk 0 0))
    (fun (m1 : Nat) => newG (Obj.cells #[(Value.int IntKind.i64 (0 : Int)), (Value.int IntKind.i64 (0 : Int))] 27 (Prod.mk 0 0))
      (fun (m2 : Nat) => newG (Obj.cells #[(Value.int IntKind.i64 (0 : Int)), (Value.int IntKind.i64 (0 : Int))] 27 (Prod.mk 0 0))
        (fun (m3 : Nat) => stG (Addr.mk m3 0 Option.none) (Value.int IntKind.i64 (60 : Int))
          (stG (Addr.mk m3 1 Option.none) (Value.int IntKind.i64 (0 : Int))
            (chrG s0 (0 : Int)
              (fun (n4 : Int) => joinG [(VT.one CT.bool)]
                (fun k5 => callG Tryz.prog 28 #[(Value.int IntKind.u8 n4)] [(VT.one CT.bool)]
                  (fun (b6 : Bool) => iteG b6
                    (k5 true)
                    (callG Tryz.prog 31 #[(Value.int IntKind.u8 n4)] [(VT.one CT.bool)]
                      (fun (b7 : Bool) => k5 b7))))
                (fun (b8 : Bool) => iteG b8
                  (callG Tryz.prog 29 #[(Value.string s0)] [(VT.one (CT.int IntKind.i64))]
                    (fun (n9 : Int) => subG s0 (0 : Int) n9
                      (fun (s10 : ByteArray) => callG Tryz.prog 11 #[(Value.string s10)] [(VT.one CT.bool)]
                        (fun (b11 : Bool) => iteG b11
                          (stG (Addr.mk m1 0 Option.none) (Value.int IntKind.i64 (5 : Int))
                            (stG (Addr.mk m1 1 Option.none) (Value.string s10)
                              (stG (Addr.mk m1 2 Option.none) (Value.int IntKind.i64 (0 : Int))
                                (stG (Addr.mk m2 0 Option.none) (Value.int IntKind.i64 (0 : Int))
                                  (stG (Addr.mk m2 1 Option.none) (Value.int IntKind.i64 (0 : Int))
                                    (ldG (CT.int IntKind.i64) (Addr.mk m1 0 Option.none)
                                      (fun (n12 : Int) => ldG CT.str (Addr.mk m1 1 Option.none)
                                        (fun (s13 : ByteArray) => ldG (CT.int IntKind.i64) (Addr.mk m1 2 Option.none)
                                          (fun (n14 : Int) => ldG (CT.int IntKind.i64) (Addr.mk m2 0 Option.none)
                                            (fun (n15 : Int) => ldG (CT.int IntKind.i64) (Addr.mk m2 1 Option.none)
                                              (fun (n16 : Int) => retG (Value.tuple #[(Value.agg #[(Value.int IntKind.i64 n12), (Value.string s13), (Value.int IntKind.i64 n14)]), (Value.int IntKind.i64 n9), (Value.agg #[(Value.int IntKind.i64 n15), (Value.int IntKind.i64 n16)])]))))))))))))
                          (callG Tryz.prog 15 #[(Value.string s10)] [(VT.one CT.bool)]
                            (fun (b17 : Bool) => iteG b17
                              (stG (Addr.mk m1 0 Option.none) (Value.int IntKind.i64 (1 : Int))
                                (stG (Addr.mk m1 1 Option.none) (Value.string s10)
                                  (stG (Addr.mk m1 2 Option.none) (Value.int IntKind.i64 (0 : Int))
                                    (stG (Addr.mk m2 0 Option.none) (Value.int IntKind.i64 (0 : Int))
                                      (stG (Addr.mk m2 1 Option.none) (Value.int IntKind.i64 (0 : Int))
                                        (ldG (CT.int IntKind.i64) (Addr.mk m1 0 Option.none)
                                          (fun (n18 : Int) => ldG CT.str (Addr.mk m1 1 Option.none)
                                            (fun (s19 : ByteArray) => ldG (CT.int IntKind.i64) (Addr.mk m1 2 Option.none)
                                              (fun (n20 : Int) => ldG (CT.int IntKind.i64) (Addr.mk m2 0 Option.none)
                                                (fun (n21 : Int) => ldG (CT.int IntKind.i64) (Addr.mk m2 1 Option.none)
                                                  (fun (n22 : Int) => retG (Value.tuple #[(Value.agg #[(Value.int IntKind.i64 n18), (Value.string s19), (Value.int IntKind.i64 n20)]), (Value.int IntKind.i64 n9), (Value.agg #[(Value.int IntKind.i64 n21), (Value.int IntKind.i64 n22)])]))))))))))))
                              (callG Tryz.prog 17 #[(Value.string s10)] [(VT.one CT.bool)]
                                (fun (b23 : Bool) => iteG b23
                                  (stG (Addr.mk m1 0 Option.none) (Value.int IntKind.i64 (2 : Int))
                                    (stG (Addr.mk m1 1 Option.none) (Value.string s10)
                                      (stG (Addr.mk m1 2 Option.none) (Value.int IntKind.i64 (0 : Int))
                                        (stG (Addr.mk m2 0 Option.none) (Value.int IntKind.i64 (0 : Int))
                                          (stG (Addr.mk m2 1 Option.none) (Value.int IntKind.i64 (0 : Int))
                                            (ldG (CT.int IntKind.i64) (Addr.mk m1 0 Option.none)
                                              (fun (n24 : Int) => ldG CT.str (Addr.mk m1 1 Option.none)
                                                (fun (s25 : ByteArray) => ldG (CT.int IntKind.i64) (Addr.mk m1 2 Option.none)
                                                  (fun (n26 : Int) => ldG (CT.int IntKind.i64) (Addr.mk m2 0 Option.none)
                                                    (fun (n27 : Int) => ldG (CT.int IntKind.i64) (Addr.mk m2 1 Option.none)
                                                      (fun (n28 : Int) => retG (Value.tuple #[(Value.agg #[(Value.int IntKind.i64 n24), (Value.string s25), (Value.int IntKind.i64 n26)]), (Value.int IntKind.i64 n9), (Value.agg #[(Value.int IntKind.i64 n27), (Value.int IntKind.i64 n28)])]))))))))))))
                                  (drewG
                                    (ldG (CT.int IntKind.i64) (Addr.mk m3 0 Option.none)
                                      (fun (n29 : Int) => ldG (CT.int IntKind.i64) (Addr.mk m3 1 Option.none)
                                        (fun (n30 : Int) => stG (Addr.mk m1 0 Option.none) (Value.int IntKind.i64 (0 : Int))
                                          (stG (Addr.mk m1 1 Option.none) (Value.string (ByteArray.mk #[]))
                                            (stG (Addr.mk m1 2 Option.none) (Value.int IntKind.i64 (0 : Int))
                                              (keepG [(Prod.mk (Addr.mk m3 0 Option.none) [(Value.int IntKind.i64 n29), (Value.int IntKind.i64 n30)])]
                                                (stG (Addr.mk m2 0 Option.none) (Value.int IntKind.i64 n29)
                                                  (stG (Addr.mk m2 1 Option.none) (Value.int IntKind.i64 n30)
                                                    (ldG (CT.int IntKind.i64) (Addr.mk m1 0 Option.none)
                                                      (fun (n31 : Int) => ldG CT.str (Addr.mk m1 1 Option.none)
                                                        (fun (s32 : ByteArray) => ldG (CT.int IntKind.i64) (Addr.mk m1 2 Option.none)
                                                          (fun (n33 : Int) => ldG (CT.int IntKind.i64) (Addr.mk m2 0 Option.none)
                                                            (fun (n34 : Int) => ldG (CT.int IntKind.i64) (Addr.mk m2 1 Option.none)
                                                              (fun (n35 : Int) => retG (Value.tuple #[(Value.agg #[(Value.int IntKind.i64 n31), (Value.string s32), (Value.int IntKind.i64 n33)]), (Value.int IntKind.i64 (0 : Int)), (Value.agg #[(Value.int IntKind.i64 n34), (Value.int IntKind.i64 n35)])]))))))))))))))))))))))))
                  (callG Tryz.prog 44 #[(Value.int IntKind.u8 n4)] [(VT.one CT.bool)]
                    (fun (b36 : Bool) => iteG b36
                      (joinG [(VT.one (CT.int IntKind.i64))]
                        (fun k37 => loopG [(VT.one (CT.int IntKind.i64))]
                          (fun k38 => fun (n39 : Int) => joinG [(VT.one CT.bool)]
                            (fun k40 => iteG (Decidable.decide (n39 < (↑(ByteArray.size s0) : Int)))
                              (chrG s0 n39
                                (fun (n41 : Int) => callG Tryz.prog 28 #[(Value.int IntKind.u8 n41)] [(VT.one CT.bool)]
                                  (fun (b42 : Bool) => iteG b42
                                    (k40 true)
                                    (chrG s0 n39
                                      (fun (n43 : Int) => callG Tryz.prog 31 #[(Value.int IntKind.u8 n43)] [(VT.one CT.bool)]
                                        (fun (b44 : Bool) => iteG b44
                                          (k40 true)
                                          (chrG s0 n39
                                            (fun (n45 : Int) => callG Tryz.prog 44 #[(Value.int IntKind.u8 n45)] [(VT.one CT.bool)]
                                              (fun (b46 : Bool) => iteG b46
                                                (k40 true)
                                                (chrG s0 n39
                                                  (fun (n47 : Int) => iteG (n47 == (46 : Int))
                                                    (k40 true)
                                                    (chrG s0 n39
                                                      (fun (n48 : Int) => k40 (n48 == (45 : Int)))))))))))))))
                              (k40 false))
                            (fun (b49 : Bool) => iteG b49
                              (joinG [(VT.one (CT.int IntKind.i64))]
                                (fun k50 => k50 (IntKind.wrap IntKind.i64 (n39 + (1 : Int))))
                                (fun (n51 : Int) => k38 n51))
                              (k37 n39))) (0 : Int))
                        (fun (n52 : Int) => subG s0 (0 : Int) n52
                          (fun (s53 : ByteArray) => callG Tryz.prog 54 #[(Value.string s53)] [(VT.agg [(CT.int IntKind.i64), (CT.int IntKind.i64), (CT.int IntKind.i64), CT.str]), (VT.one (CT.int IntKind.i64))]
                            (fun (n54 : Int) => fun (n55 : Int) => fun (n56 : Int) => fun (s57 : ByteArray) => fun (n58 : Int) => newG (Obj.cells #[(Value.int IntKind.i64 (0 : Int)), (Value.int IntKind.i64 (0 : Int)), (Value.int IntKind.i64 (0 : Int)), (Value.string (ByteArray.mk #[]))] 67 (Prod.mk 0 0))
                              (fun (m59 : Nat) => stG (Addr.mk m59 0 Option.none) (Value.int IntKind.i64 n54)
                                (stG (Addr.mk m59 1 Option.none) (Value.int IntKind.i64 n55)
                                  (stG (Addr.mk m59 2 Option.none) (Value.int IntKind.i64 n56)
                                    (stG (Addr.mk m59 3 Option.none) (Value.string s57)
                                      (subG s0 (0 : Int) n52
                                        (fun (s60 : ByteArray) => callG Tryz.prog 55 #[(Value.string s60)] [(VT.one CT.bool)]
                                          (fun (b61 : Bool) => iteG b61
                                            (subG s0 (0 : Int) n52
                                              (fun (s62 : ByteArray) => stG (Addr.mk m1 0 Option.none) (Value.int IntKind.i64 (3 : Int))
                                                (stG (Addr.mk m1 1 Option.none) (Value.string s62)
                                                  (stG (Addr.mk m1 2 Option.none) (Value.int IntKind.i64 (0 : Int))
                                                    (stG (Addr.mk m2 0 Option.none) (Value.int IntKind.i64 (0 : Int))
                                                      (stG (Addr.mk m2 1 Option.none) (Value.int IntKind.i64 (0 : Int))
                                                        (ldG (CT.int IntKind.i64) (Addr.mk m1 0 Option.none)
                                                          (fun (n63 : Int) => ldG CT.str (Addr.mk m1 1 Option.none)
                                                            (fun (s64 : ByteArray) => ldG (CT.int IntKind.i64) (Addr.mk m1 2 Option.none)
                                                              (fun (n65 : Int) => ldG (CT.int IntKind.i64) (Addr.mk m2 0 Option.none)
                                                                (fun (n66 : Int) => ldG (CT.int IntKind.i64) (Addr.mk m2 1 Option.none)
                                                                  (fun (n67 : Int) => retG (Value.tuple #[(Value.agg #[(Value.int IntKind.i64 n63), (Value.string s64), (Value.int IntKind.i64 n65)]), (Value.int IntKind.i64 n52), (Value.agg #[(Value.int IntKind.i64 n66), (Value.int IntKind.i64 n67)])])))))))))))))
                                            (iteG (n58 == (0 : Int))
                                              (subG s0 (0 : Int) n52
                                                (fun (s68 : ByteArray) => stG (Addr.mk m1 0 Option.none) (Value.int IntKind.i64 (7 : Int))
                                                  (stG (Addr.mk m1 1 Option.none) (Value.string s68)
                                                    (stG (Addr.mk m1 2 Option.none) (Value.int IntKind.i64 (0 : Int))
                                                      (stG (Addr.mk m2 0 Option.none) (Value.int IntKind.i64 (0 : Int))
                                                        (stG (Addr.mk m2 1 Option.none) (Value.int IntKind.i64 (0 : Int))
                                                          (ldG (CT.int IntKind.i64) (Addr.mk m1 0 Option.none)
                                                            (fun (n69 : Int) => ldG CT.str (Addr.mk m1 1 Option.none)
                                                              (fun (s70 : ByteArray) => ldG (CT.int IntKind.i64) (Addr.mk m1 2 Option.none)
                                                                (fun (n71 : Int) => ldG (CT.int IntKind.i64) (Addr.mk m2 0 Option.none)
                                                                  (fun (n72 : Int) => ldG (CT.int IntKind.i64) (Addr.mk m2 1 Option.none)
                                                                    (fun (n73 : Int) => retG (Value.tuple #[(Value.agg #[(Value.int IntKind.i64 n69), (Value.string s70), (Value.int IntKind.i64 n71)]), (Value.int IntKind.i64 n52), (Value.agg #[(Value.int IntKind.i64 n72), (Value.int IntKind.i64 n73)])])))))))))))))
                                              (drewG
                                                (ldG (CT.int IntKind.i64) (Addr.mk m3 0 Option.none)
                                                  (fun (n74 : Int) => ldG (CT.int IntKind.i64) (Addr.mk m3 1 Option.none)
                                                    (fun (n75 : Int) => stG (Addr.mk m1 0 Option.none) (Value.int IntKind.i64 (0 : Int))
                                                      (stG (Addr.mk m1 1 Option.none) (Value.string (ByteArray.mk #[]))
                                                        (stG (Addr.mk m1 2 Option.none) (Value.int IntKind.i64 (0 : Int))
                                                          (keepG [(Prod.mk (Addr.mk m3 0 Option.none) [(Value.int IntKind.i64 n74), (Value.int IntKind.i64 n75)])]
                                                            (stG (Addr.mk m2 0 Option.none) (Value.int IntKind.i64 n74)
                                                              (stG (Addr.mk m2 1 Option.none) (Value.int IntKind.i64 n75)
                                                                (ldG (CT.int IntKind.i64) (Addr.mk m1 0 Option.none)
                                                                  (fun (n76 : Int) => ldG CT.str (Addr.mk m1 1 Option.none)
                                                                    (fun (s77 : ByteArray) => ldG (CT.int IntKind.i64) (Addr.mk m1 2 Option.none)
                                                                      (fun (n78 : Int) => ldG (CT.int IntKind.i64) (Addr.mk m2 0 Option.none)
                                                                        (fun (n79 : Int) => ldG (CT.int IntKind.i64) (Addr.mk m2 1 Option.none)
                                                                          (fun (n80 : Int) => retG (Value.tuple #[(Value.agg #[(Value.int IntKind.i64 n76), (Value.string s77), (Value.int IntKind.i64 n78)]), (Value.int IntKind.i64 (0 : Int)), (Value.agg #[(Value.int IntKind.i64 n79), (Value.int IntKind.i64 n80)])]))))))))))))))))))))))))))))
                      (iteG (n4 == (34 : Int))
                        (callG Tryz.prog 56 #[(Value.string s0)] [(VT.agg [(CT.int IntKind.i64), CT.str, (CT.int IntKind.i64)]), (VT.one (CT.int IntKind.i64)), (VT.agg [(CT.int IntKind.i64), (CT.int IntKind.i64)])]
                          (fun (n81 : Int) => fun (s82 : ByteArray) => fun (n83 : Int) => fun (n84 : Int) => fun (n85 : Int) => fun (n86 : Int) => stG (Addr.mk m1 0 Option.none) (Value.int IntKind.i64 n81)
                            (stG (Addr.mk m1 1 Option.none) (Value.string s82)
                              (stG (Addr.mk m1 2 Option.none) (Value.int IntKind.i64 n83)
                                (stG (Addr.mk m2 0 Option.none) (Value.int IntKind.i64 n85)
                                  (stG (Addr.mk m2 1 Option.none) (Value.int IntKind.i64 n86)
                                    (ldG (CT.int IntKind.i64) (Addr.mk m1 0 Option.none)
                                      (fun (n87 : Int) => ldG CT.str (Addr.mk m1 1 Option.none)
                                        (fun (s88 : ByteArray) => ldG (CT.int IntKind.i64) (Addr.mk m1 2 Option.none)
                                          (fun (n89 : Int) => ldG (CT.int IntKind.i64) (Addr.mk m2 0 Option.none)
                                            (fun (n90 : Int) => ldG (CT.int IntKind.i64) (Addr.mk m2 1 Option.none)
                                              (fun (n91 : Int) => retG (Value.tuple #[(Value.agg #[(Value.int IntKind.i64 n87), (Value.string s88), (Value.int IntKind.i64 n89)]), (Value.int IntKind.i64 n84), (Value.agg #[(Value.int IntKind.i64 n90), (Value.int IntKind.i64 n91)])])))))))))))))
                        (joinG [(VT.one CT.bool)]
                          (fun k92 => iteG (Decidable.decide ((↑(ByteArray.size s0) : Int) ≥ (2 : Int)))
                            (subG s0 (0 : Int) (2 : Int)
                              (fun (s93 : ByteArray) => callG Tryz.prog 13 #[(Value.string s93)] [(VT.one CT.bool)]
                                (fun (b94 : Bool) => k92 b94)))
                            (k92 false))
                          (fun (b95 : Bool) => iteG b95
                            (subG s0 (0 : Int) (2 : Int)
                              (fun (s96 : ByteArray) => stG (Addr.mk m1 0 Option.none) (Value.int IntKind.i64 (6 : Int))
                                (stG (Addr.mk m1 1 Option.none) (Value.string s96)
                                  (stG (Addr.mk m1 2 Option.none) (Value.int IntKind.i64 (0 : Int))
                                    (stG (Addr.mk m2 0 Option.none) (Value.int IntKind.i64 (0 : Int))
                                      (stG (Addr.mk m2 1 Option.none) (Value.int IntKind.i64 (0 : Int))
                                        (ldG (CT.int IntKind.i64) (Addr.mk m1 0 Option.none)
                                          (fun (n97 : Int) => ldG CT.str (Addr.mk m1 1 Option.none)
                                            (fun (s98 : ByteArray) => ldG (CT.int IntKind.i64) (Addr.mk m1 2 Option.none)
                                              (fun (n99 : Int) => ldG (CT.int IntKind.i64) (Addr.mk m2 0 Option.none)
                                                (fun (n100 : Int) => ldG (CT.int IntKind.i64) (Addr.mk m2 1 Option.none)
                                                  (fun (n101 : Int) => retG (Value.tuple #[(Value.agg #[(Value.int IntKind.i64 n97), (Value.string s98), (Value.int IntKind.i64 n99)]), (Value.int IntKind.i64 (2 : Int)), (Value.agg #[(Value.int IntKind.i64 n100), (Value.int IntKind.i64 n101)])])))))))))))))
                            (subG s0 (0 : Int) (1 : Int)
                              (fun (s102 : ByteArray) => callG Tryz.prog 13 #[(Value.string s102)] [(VT.one CT.bool)]
                                (fun (b103 : Bool) => iteG b103
                                  (subG s0 (0 : Int) (1 : Int)
                                    (fun (s104 : ByteArray) => stG (Addr.mk m1 0 Option.none) (Value.int IntKind.i64 (6 : Int))
                                      (stG (Addr.mk m1 1 Option.none) (Value.string s104)
                                        (stG (Addr.mk m1 2 Option.none) (Value.int IntKind.i64 (0 : Int))
                                          (stG (Addr.mk m2 0 Option.none) (Value.int IntKind.i64 (0 : Int))
                                            (stG (Addr.mk m2 1 Option.none) (Value.int IntKind.i64 (0 : Int))
                                              (ldG (CT.int IntKind.i64) (Addr.mk m1 0 Option.none)
                                                (fun (n105 : Int) => ldG CT.str (Addr.mk m1 1 Option.none)
                                                  (fun (s106 : ByteArray) => ldG (CT.int IntKind.i64) (Addr.mk m1 2 Option.none)
                                                    (fun (n107 : Int) => ldG (CT.int IntKind.i64) (Addr.mk m2 0 Option.none)
                                                      (fun (n108 : Int) => ldG (CT.int IntKind.i64) (Addr.mk m2 1 Option.none)
                                                        (fun (n109 : Int) => retG (Value.tuple #[(Value.agg #[(Value.int IntKind.i64 n105), (Value.string s106), (Value.int IntKind.i64 n107)]), (Value.int IntKind.i64 (1 : Int)), (Value.agg #[(Value.int IntKind.i64 n108), (Value.int IntKind.i64 n109)])])))))))))))))
                                  (drewG
                                    (ldG (CT.int IntKind.i64) (Addr.mk m3 0 Option.none)
                                      (fun (n110 : Int) => ldG (CT.int IntKind.i64) (Addr.mk m3 1 Option.none)
                                        (fun (n111 : Int) => stG (Addr.mk m1 0 Option.none) (Value.int IntKind.i64 (0 : Int))
                                          (stG (Addr.mk m1 1 Option.none) (Value.string (ByteArray.mk #[]))
                                            (stG (Addr.mk m1 2 Option.none) (Value.int IntKind.i64 (0 : Int))
                                              (keepG [(Prod.mk (Addr.mk m3 0 Option.none) [(Value.int IntKind.i64 n110), (Value.int IntKind.i64 n111)])]
                                                (stG (Addr.mk m2 0 Option.none) (Value.int IntKind.i64 n110)
                                                  (stG (Addr.mk m2 1 Option.none) (Value.int IntKind.i64 n111)
                                                    (ldG (CT.int IntKind.i64) (Addr.mk m1 0 Option.none)
                                                      (fun (n112 : Int) => ldG CT.str (Addr.mk m1 1 Option.none)
                                                        (fun (s113 : ByteArray) => ldG (CT.int IntKind.i64) (Addr.mk m1 2 Option.none)
                                                          (fun (n114 : Int) => ldG (CT.int IntKind.i64) (Addr.mk m2 0 Option.none)
                                                            (fun (n115 : Int) => ldG (CT.int IntKind.i64) (Addr.mk m2 1 Option.none)
                                                              (fun (n116 : Int) => retG (Value.tuple #[(Value.agg #[(Value.int IntKind.i64 n112), (Value.string s113), (Value.int IntKind.i64 n114)]), (Value.int IntKind.i64 (0 : Int)), (Value.agg #[(Value.int IntKind.i64 n115), (Value.int IntKind.i64 n116)])])))))))))))))))))))))))))))))))
theorem e38 : denF Tryz.prog (GA Tryz.prog) Tryz.f38 [(VT.one CT.str)] (.seq .leaf (.seq .leaf (.seq .leaf (.seq (.seq (.r (sl Tryz.prog [(20, 4)])) .leaf) (.seq (.seq .leaf (.cond (.seq .leaf (.seq (.block (sl Tryz.prog [(9, 3)]) (.loop (sl Tryz.prog [(9, 3)]) (.seq (.seq (.r (sl Tryz.prog [(81, 4)])) .leaf) (.block (sl Tryz.prog [(9, 3)]) .leaf)))) .leaf)) .leaf)) (.seq .leaf (.seq (.seq (.r (sl Tryz.prog [(125, 4)])) .leaf) .leaf))))))) = t38 := by kernel_rfl
theorem c38 (x0 : ByteArray) {R : Ending → World → Prop} {w : World} (h : t38 x0 R w) : Calls Tryz.prog 38 #[.string x0] w R :=
  lift mixed Tryz.func38 e38 rfl ((x0, ()), ()) R w h

/-- lex.shown -/
def t39 : Int → ByteArray → Int → G :=
  fun (n0 : Int) => fun (s1 : ByteArray) => fun (n2 : Int) => newG (Obj.cells #[(Value.int IntKind.i64 n0), (Value.string s1), (Value.int IntKind.i64 n2)] 32 (Prod.mk 0 0))
    (fun (m3 : Nat) => ldG (CT.int IntKind.i64) (Addr.mk m3 0 Option.none)
      (fun (n4 : Int) => iteG (n4 != (4 : Int))
        (ldG CT.str (Addr.mk m3 1 Option.none)
          (fun (s5 : ByteArray) => retG (Value.string s5)))
        (drewG
          (ldG CT.str (Addr.mk m3 1 Option.none)
            (fun (s6 : ByteArray) => newG (Obj.cells #[(Value.string (ByteArray.mk #[10])), (Value.string (ByteArray.mk #[92, 110])), (Value.string (ByteArray.mk #[9])), (Value.string (ByteArray.mk #[92, 116])), (Value.string (ByteArray.mk #[34])), (Value.string (ByteArray.mk #[92, 34])), (Value.string (ByteArray.mk #[92])), (Value.string (ByteArray.mk #[92, 92]))] 9 (Prod.mk 0 0))
              (fun (m7 : Nat) => keepG [(Prod.mk (Addr.mk m3 1 Option.none) [(Value.string s6)])]
                (callG Tryz.prog 57 #[(Value.slice (Option.some (Addr.mk m7 0 Option.none)) 8 8)] [(VT.one CT.ptr)]
                  (fun (p8 : Option Addr) => keepG [(Prod.mk (Addr.mk m3 1 Option.none) [(Value.string s6)])]
                    (callG Tryz.prog 58 #[(Value.pointer p8), (Value.string s6)] [(VT.one CT.str)]
                      (fun (s9 : ByteArray) => catG (ByteArray.mk #[34]) s9
                        (fun (s10 : ByteArray) => catG s10 (ByteArray.mk #[34])
                          (fun (s11 : ByteArray) => retG (Value.string s11)))))))))))))
theorem e39 : denF Tryz.prog (GA Tryz.prog) Tryz.f39 [(VT.agg [(CT.int IntKind.i64), CT.str, (CT.int IntKind.i64)])] .leaf = t39 := by kernel_rfl
theorem c39 (x0 : Int) (x1 : ByteArray) (x2 : Int) {R : Ending → World → Prop} {w : World} (h : t39 x0 x1 x2 R w) : Calls Tryz.prog 39 #[.agg #[.int .i64 x0, .string x1, .int .i64 x2]] w R :=
  lift mixed Tryz.func39 e39 rfl ((x0, x1, x2, ()), ()) R w h

/-- pandectref06.written -/
def t41 : Int → ByteArray → Int → G :=
  fun (n0 : Int) => fun (s1 : ByteArray) => fun (n2 : Int) => newG (Obj.cells #[(Value.int IntKind.i64 n0), (Value.string s1), (Value.int IntKind.i64 n2)] 32 (Prod.mk 0 0))
    (fun (m3 : Nat) => ldG (CT.int IntKind.i64) (Addr.mk m3 0 Option.none)
      (fun (n4 : Int) => iteG (n4 != (4 : Int))
        (ldG CT.str (Addr.mk m3 1 Option.none)
          (fun (s5 : ByteArray) => retG (Value.string s5)))
        (joinG [(VT.one CT.str)]
          (fun k6 => loopG [(VT.one CT.str), (VT.one (CT.int IntKind.i64))]
            (fun k7 => fun (s8 : ByteArray) => fun (n9 : Int) => ldG CT.str (Addr.mk m3 1 Option.none)
              (fun (s10 : ByteArray) => iteG (Decidable.decide (n9 < (↑(ByteArray.size s10) : Int)))
                (joinG [(VT.one CT.str)]
                  (fun k11 => ldG CT.str (Addr.mk m3 1 Option.none)
                    (fun (s12 : ByteArray) => chrG s12 n9
                      (fun (n13 : Int) => joinG [(VT.one CT.str)]
                        (fun k14 => joinG [(VT.one CT.str)]
                          (fun k15 => iteG (n13 == (10 : Int))
                            (catG s8 (ByteArray.mk #[92, 110])
                              (fun (s16 : ByteArray) => k15 s16))
                            (joinG [(VT.one CT.str)]
                              (fun k17 => iteG (n13 == (9 : Int))
                                (catG s8 (ByteArray.mk #[92, 116])
                                  (fun (s18 : ByteArray) => k17 s18))
                                (joinG [(VT.one CT.bool)]
                                  (fun k19 => iteG (n13 == (34 : Int))
                                    (k19 (n13 == (34 : Int)))
                                    (k19 (n13 == (92 : Int))))
                                  (fun (b20 : Bool) => joinG [(VT.one CT.str)]
                                    (fun k21 => iteG b20
                                      (catG s8 (ByteArray.mk #[92])
                                        (fun (s22 : ByteArray) => ldG CT.str (Addr.mk m3 1 Option.none)
                                          (fun (s23 : ByteArray) => subG s23 n9 (IntKind.wrap IntKind.i64 (n9 + (1 : Int)))
                                            (fun (s24 : ByteArray) => catG s22 s24
                                              (fun (s25 : ByteArray) => k21 s25)))))
                                      (ldG CT.str (Addr.mk m3 1 Option.none)
                                        (fun (s26 : ByteArray) => subG s26 n9 (IntKind.wrap IntKind.i64 (n9 + (1 : Int)))
                                          (fun (s27 : ByteArray) => catG s8 s27
                                            (fun (s28 : ByteArray) => k21 s28)))))
                                    (fun (s29 : ByteArray) => k17 s29))))
                              (fun (s30 : ByteArray) => k15 s30)))
                          (fun (s31 : ByteArray) => k14 s31))
                        (fun (s32 : ByteArray) => k11 s32))))
                  (fun (s33 : ByteArray) => k7 s33 (IntKind.wrap IntKind.i64 (n9 + (1 : Int)))))
                (k6 s8))) (ByteArray.mk #[34]) (0 : Int))
          (fun (s34 : ByteArray) => catG s34 (ByteArray.mk #[34])
            (fun (s35 : ByteArray) => retG (Value.string s35))))))
theorem e41 : denF Tryz.prog (GA Tryz.prog) Tryz.f41 [(VT.agg [(CT.int IntKind.i64), CT.str, (CT.int IntKind.i64)])] (.seq .leaf (.seq .leaf (.seq .leaf (.seq (.seq .leaf (.block (sl Tryz.prog [(3, 9)]) (.loop (sl Tryz.prog [(3, 9), (4, 3)]) (.seq .leaf (.seq (.block (sl Tryz.prog [(3, 9)]) (.seq .leaf (.block (sl Tryz.prog [(3, 9)]) (.seq .leaf (.condj (sl Tryz.prog [(3, 9)]) .leaf (.seq .leaf (.condj (sl Tryz.prog [(3, 9)]) .leaf (.seq (.seq .leaf (.condj (sl Tryz.prog [(37, 4)]) .leaf .leaf)) (.condj (sl Tryz.prog [(3, 9)]) .leaf .leaf))))))))) .leaf))))) .leaf)))) = t41 := by kernel_rfl
theorem c41 (x0 : Int) (x1 : ByteArray) (x2 : Int) {R : Ending → World → Prop} {w : World} (h : t41 x0 x1 x2 R w) : Calls Tryz.prog 41 #[.agg #[.int .i64 x0, .string x1, .int .i64 x2]] w R :=
  lift mixed Tryz.func41 e41 rfl ((x0, x1, x2, ()), ()) R w h

/-- lex.rest -/
def t43 : Int → G :=
  fun (n0 : Int) => joinG [(VT.one CT.bool)]
    (fun k1 => callG Tryz.prog 27 #[(Value.int IntKind.u8 n0)] [(VT.one CT.bool)]
      (fun (b2 : Bool) => iteG b2
        (k1 true)
        (callG Tryz.prog 30 #[(Value.int IntKind.u8 n0)] [(VT.one CT.bool)]
          (fun (b3 : Bool) => iteG b3
            (k1 true)
            (callG Tryz.prog 48 #[(Value.int IntKind.u8 n0)] [(VT.one CT.bool)]
              (fun (b4 : Bool) => iteG b4
                (k1 true)
                (k1 (n0 == (95 : Int)))))))))
    (fun (b5 : Bool) => retG (Value.bool b5))
theorem e43 : denF Tryz.prog (GA Tryz.prog) Tryz.f43 [(VT.one (CT.int IntKind.u8))] (.seq .leaf (.seq (.r (sl Tryz.prog [(2, 4)])) .leaf)) = t43 := by kernel_rfl
theorem c43 (x0 : Int) {R : Ending → World → Prop} {w : World} (h : t43 x0 R w) : Calls Tryz.prog 43 #[.int .u8 x0] w R :=
  lift mixed Tryz.func43 e43 rfl ((x0, ()), ()) R w h

/-- pandectref06.digit -/
def t44 : Int → G :=
  fun (n0 : Int) => joinG [(VT.one CT.bool)]
    (fun k1 => iteG (Decidable.decide (n0 ≥ (48 : Int)))
      (k1 (Decidable.decide (n0 ≤ (57 : Int))))
      (k1 false))
    (fun (b2 : Bool) => retG (Value.bool b2))
theorem e44 : denF Tryz.prog (GA Tryz.prog) Tryz.f44 [(VT.one (CT.int IntKind.u8))] (.seq .leaf (.seq (.r (sl Tryz.prog [(2, 4)])) .leaf)) = t44 := by kernel_rfl
theorem c44 (x0 : Int) {R : Ending → World → Prop} {w : World} (h : t44 x0 R w) : Calls Tryz.prog 44 #[.int .u8 x0] w R :=
  lift mixed Tryz.func44 e44 rfl ((x0, ()), ()) R w h

/-- utf.Decode -/
def t45 : ByteArray → G :=
  fun (s0 : ByteArray) => newG (Obj.cells #[(Value.int IntKind.i64 (0 : Int)), (Value.int IntKind.i64 (0 : Int))] 27 (Prod.mk 0 0))
    (fun (m1 : Nat) => opG Tryz.prog (Instr.makeSlice 60 (Value.int IntKind.i64 (0 : Int)) (Value.int IntKind.i64 ((↑(ByteArray.size s0) : Int)))) (VT.one CT.slice)
      (fun (l2 : Sl) => joinG [(VT.one CT.slice), (VT.one (CT.int IntKind.i64))]
        (fun k3 => loopG [(VT.one CT.slice), (VT.one (CT.int IntKind.i64))]
          (fun k4 => fun (l5 : Sl) => fun (n6 : Int) => iteG (Decidable.decide (n6 < (↑(ByteArray.size s0) : Int)))
            (joinG [(VT.one CT.slice), (VT.one (CT.int IntKind.i64))]
              (fun k7 => subG s0 n6 ((↑(ByteArray.size s0) : Int))
                (fun (s8 : ByteArray) => callG Tryz.prog 63 #[(Value.string s8)] [(VT.one (CT.int IntKind.i32)), (VT.one (CT.int IntKind.i64))]
                  (fun (n9 : Int) => fun (n10 : Int) => joinG [(VT.one CT.bool)]
                    (fun k11 => iteG (n9 == (65533 : Int))
                      (k11 (n10 == (1 : Int)))
                      (k11 false))
                    (fun (b12 : Bool) => iteG b12
                      (k3 l5 n6)
                      (newG (Obj.cells #[(Value.int IntKind.i64 (IntKind.wrap IntKind.i64 n9))] 3 (Prod.mk 0 0))
                        (fun (m13 : Nat) => opG Tryz.prog (Builtin.append_ #[60, 60] 60 #[(Value.slice (Sl.a l5) (Sl.n l5) (Sl.c l5)), (Value.slice (Option.some (Addr.mk m13 0 Option.none)) 1 1)]) (VT.one CT.slice)
                          (fun (l14 : Sl) => k7 l14 (IntKind.wrap IntKind.i64 (n6 + n10)))))))))
              (fun (l15 : Sl) => fun (n16 : Int) => k4 l15 n16))
            (k3 l5 n6)) l2 (0 : Int))
        (fun (l17 : Sl) => fun (n18 : Int) => iteG (Decidable.decide (n18 < (↑(ByteArray.size s0) : Int)))
          (stG (Addr.mk m1 0 Option.none) (Value.int IntKind.i64 (30 : Int))
            (stG (Addr.mk m1 1 Option.none) (Value.int IntKind.i64 n18)
              (ldG (CT.int IntKind.i64) (Addr.mk m1 0 Option.none)
                (fun (n19 : Int) => ldG (CT.int IntKind.i64) (Addr.mk m1 1 Option.none)
                  (fun (n20 : Int) => retG (Value.tuple #[(Value.slice Option.none 0 0), (Value.agg #[(Value.int IntKind.i64 n19), (Value.int IntKind.i64 n20)])]))))))
          (stG (Addr.mk m1 0 Option.none) (Value.int IntKind.i64 (0 : Int))
            (stG (Addr.mk m1 1 Option.none) (Value.int IntKind.i64 (0 : Int))
              (ldG (CT.int IntKind.i64) (Addr.mk m1 0 Option.none)
                (fun (n21 : Int) => ldG (CT.int IntKind.i64) (Addr.mk m1 1 Option.none)
                  (fun (n22 : Int) => retG (Value.tuple #[(Value.slice (Sl.a l17) (Sl.n l17) (Sl.c l17)), (Value.agg #[(Value.int IntKind.i64 n21), (Value.int IntKind.i64 n22)])])))))))))
theorem e45 : denF Tryz.prog (GA Tryz.prog) Tryz.f45 [(VT.one CT.str)] (.seq .leaf (.seq .leaf (.seq .leaf (.seq .leaf (.seq (.block (sl Tryz.prog [(4, 60), (5, 3)]) (.loop (sl Tryz.prog [(4, 60), (5, 3)]) (.seq .leaf (.block (sl Tryz.prog [(4, 60), (5, 3)]) (.seq .leaf (.seq (.seq (.r (sl Tryz.prog [(27, 4)])) .leaf) .leaf)))))) .leaf))))) = t45 := by kernel_rfl
theorem c45 (x0 : ByteArray) {R : Ending → World → Prop} {w : World} (h : t45 x0 R w) : Calls Tryz.prog 45 #[.string x0] w R :=
  lift mixed Tryz.func45 e45 rfl ((x0, ()), ()) R w h

/-- (*lex.scanner).fail -/
def t46 : Option Addr → Int → Int → G :=
  fun (p0 : Option Addr) => fun (n1 : Int) => fun (n2 : Int) => nnG p0
    (fun (a3 : Addr) => stG (Addr.add (Addr.add a3 3) 0) (Value.int IntKind.i64 n1)
      (stG (Addr.add (Addr.add a3 3) 1) (Value.int IntKind.i64 n2)
        (retG (Value.bool false))))
theorem e46 : denF Tryz.prog (GA Tryz.prog) Tryz.f46 [(VT.one CT.ptr), (VT.one (CT.int IntKind.i64)), (VT.one (CT.int IntKind.i64))] .leaf = t46 := by kernel_rfl
theorem c46 (x0 : Option Addr) (x1 : Int) (x2 : Int) {R : Ending → World → Prop} {w : World} (h : t46 x0 x1 x2 R w) : Calls Tryz.prog 46 #[.pointer x0, .int .i64 x1, .int .i64 x2] w R :=
  lift mixed Tryz.func46 e46 rfl ((x0, ()), (x1, ()), (x2, ()), ()) R w h

/-- (*lex.scanner).token$1 -/
def t47 : Int → ByteArray → Addr → Addr → G :=
  fun (n0 : Int) => fun (s1 : ByteArray) => fun (a2 : Addr) => fun (a3 : Addr) => drewG
    (ldG CT.ptr a2
      (fun (p4 : Option Addr) => ldG CT.ptr a2
        (fun (p5 : Option Addr) => nnG p5
          (fun (a6 : Addr) => ldG CT.slice (Addr.add a6 2)
            (fun (l7 : Sl) => ldG (CT.int IntKind.i64) a3
              (fun (n8 : Int) => newG (Obj.cells #[(Value.int IntKind.i64 n0), (Value.string s1), (Value.int IntKind.i64 n8)] 32 (Prod.mk 0 0))
                (fun (m9 : Nat) => keepG [(Prod.mk (Addr.add a6 2) [(Value.slice (Sl.a l7) (Sl.n l7) (Sl.c l7))]), (Prod.mk a2 [(Value.pointer p5)]), (Prod.mk a2 [(Value.pointer p4)])]
                  (opG Tryz.prog (Builtin.append_ #[24, 24] 24 #[(Value.slice (Sl.a l7) (Sl.n l7) (Sl.c l7)), (Value.slice (Option.some (Addr.mk m9 0 Option.none)) 1 1)]) (VT.one CT.slice)
                    (fun (l10 : Sl) => keepG [(Prod.mk a3 [(Value.int IntKind.i64 n8)]), (Prod.mk a2 [(Value.pointer p5)]), (Prod.mk a2 [(Value.pointer p4)])]
                      (nnG p4
                        (fun (a11 : Addr) => stG (Addr.add a11 2) (Value.slice (Sl.a l10) (Sl.n l10) (Sl.c l10))
                          (retG (Value.bool true)))))))))))))
theorem e47 : denF Tryz.prog (GA Tryz.prog) Tryz.f47 [(VT.one (CT.int IntKind.i64)), (VT.one CT.str), (VT.one CT.addr), (VT.one CT.addr)] .leaf = t47 := by kernel_rfl
theorem c47 (x0 : Int) (x1 : ByteArray) (x2 : Addr) (x3 : Addr) {R : Ending → World → Prop} {w : World} (h : t47 x0 x1 x2 x3 R w) : Calls Tryz.prog 47 #[.int .i64 x0, .string x1, .pointer (some x2), .pointer (some x3)] w R :=
  lift mixed Tryz.func47 e47 rfl ((x0, ()), (x1, ()), (x2, ()), (x3, ()), ()) R w h

/-- lex.digit -/
def t48 : Int → G :=
  fun (n0 : Int) => joinG [(VT.one CT.bool)]
    (fun k1 => iteG (Decidable.decide (n0 ≥ (48 : Int)))
      (k1 (Decidable.decide (n0 ≤ (57 : Int))))
      (k1 false))
    (fun (b2 : Bool) => retG (Value.bool b2))
theorem e48 : denF Tryz.prog (GA Tryz.prog) Tryz.f48 [(VT.one (CT.int IntKind.u8))] (.seq .leaf (.seq (.r (sl Tryz.prog [(2, 4)])) .leaf)) = t48 := by kernel_rfl
theorem c48 (x0 : Int) {R : Ending → World → Prop} {w : World} (h : t48 x0 R w) : Calls Tryz.prog 48 #[.int .u8 x0] w R :=
  lift mixed Tryz.func48 e48 rfl ((x0, ()), ()) R w h

/-- lex.lump -/
def t49 : Int → G :=
  fun (n0 : Int) => joinG [(VT.one CT.bool)]
    (fun k1 => callG Tryz.prog 27 #[(Value.int IntKind.u8 n0)] [(VT.one CT.bool)]
      (fun (b2 : Bool) => iteG b2
        (k1 true)
        (callG Tryz.prog 30 #[(Value.int IntKind.u8 n0)] [(VT.one CT.bool)]
          (fun (b3 : Bool) => iteG b3
            (k1 true)
            (callG Tryz.prog 48 #[(Value.int IntKind.u8 n0)] [(VT.one CT.bool)]
              (fun (b4 : Bool) => iteG b4
                (k1 true)
                (iteG (n0 == (46 : Int))
                  (k1 true)
                  (k1 (n0 == (45 : Int))))))))))
    (fun (b5 : Bool) => retG (Value.bool b5))
theorem e49 : denF Tryz.prog (GA Tryz.prog) Tryz.f49 [(VT.one (CT.int IntKind.u8))] (.seq .leaf (.seq (.r (sl Tryz.prog [(2, 4)])) .leaf)) = t49 := by kernel_rfl
theorem c49 (x0 : Int) {R : Ending → World → Prop} {w : World} (h : t49 x0 R w) : Calls Tryz.prog 49 #[.int .u8 x0] w R :=
  lift mixed Tryz.func49 e49 rfl ((x0, ()), ()) R w h

/-- semver.Parse -/
def t51 : ByteArray → G :=
  fun (s0 : ByteArray) => newG (Obj.cells #[(Value.int IntKind.i64 (0 : Int)), (Value.int IntKind.i64 (0 : Int)), (Value.int IntKind.i64 (0 : Int)), (Value.string (ByteArray.mk #[]))] 67 (Prod.mk 0 0))
    (fun (m1 : Nat) => callG Tryz.prog 71 #[(Value.string s0), (Value.string (ByteArray.mk #[45]))] [(VT.one CT.str), (VT.one CT.str), (VT.one CT.bool)]
      (fun (s2 : ByteArray) => fun (s3 : ByteArray) => fun (b4 : Bool) => callG Tryz.prog 72 #[(Value.string s2), (Value.string (ByteArray.mk #[46]))] [(VT.one CT.slice)]
        (fun (l5 : Sl) => joinG [(VT.one CT.bool)]
          (fun k6 => iteG ((↑(Sl.n l5) : Int) != (3 : Int))
            (k6 true)
            (iteG b4
              (k6 (ByteArray.toList s3 == ByteArray.toList (ByteArray.mk #[])))
              (k6 false)))
          (fun (b7 : Bool) => iteG b7
            (stG (Addr.mk m1 0 Option.none) (Value.int IntKind.i64 (0 : Int))
              (stG (Addr.mk m1 1 Option.none) (Value.int IntKind.i64 (0 : Int))
                (stG (Addr.mk m1 2 Option.none) (Value.int IntKind.i64 (0 : Int))
                  (stG (Addr.mk m1 3 Option.none) (Value.string (ByteArray.mk #[]))
                    (ldG (CT.int IntKind.i64) (Addr.mk m1 0 Option.none)
                      (fun (n8 : Int) => ldG (CT.int IntKind.i64) (Addr.mk m1 1 Option.none)
                        (fun (n9 : Int) => ldG (CT.int IntKind.i64) (Addr.mk m1 2 Option.none)
                          (fun (n10 : Int) => ldG CT.str (Addr.mk m1 3 Option.none)
                            (fun (s11 : ByteArray) => retG (Value.tuple #[(Value.agg #[(Value.int IntKind.i64 n8), (Value.int IntKind.i64 n9), (Value.int IntKind.i64 n10), (Value.string s11)]), (Value.int IntKind.i64 (40 : Int))]))))))))))
            (newG (Obj.cells #[(Value.int IntKind.i64 (0 : Int)), (Value.int IntKind.i64 (0 : Int)), (Value.int IntKind.i64 (0 : Int))] 101 (Prod.mk 0 0))
              (fun (m12 : Nat) => joinG []
                (fun k13 => loopG [(VT.one (CT.int IntKind.i64))]
                  (fun k14 => fun (n15 : Int) => iteG (Decidable.decide (n15 < (↑(Sl.n l5) : Int)))
                    (joinG []
                      (fun k16 => idxG (Sl.a l5) (Sl.n l5) n15 1
                        (fun (a17 : Addr) => ldG CT.str a17
                          (fun (s18 : ByteArray) => joinG [(VT.one CT.bool)]
                            (fun k19 => callG Tryz.prog 73 #[(Value.string s18)] [(VT.one CT.bool)]
                              (fun (b20 : Bool) => iteG (!b20)
                                (k19 true)
                                (iteG (Decidable.decide ((↑(ByteArray.size s18) : Int) > (6 : Int)))
                                  (k19 true)
                                  (iteG (Decidable.decide ((↑(ByteArray.size s18) : Int) > (1 : Int)))
                                    (chrG s18 (0 : Int)
                                      (fun (n21 : Int) => k19 (n21 == (48 : Int))))
                                    (k19 false)))))
                            (fun (b22 : Bool) => iteG b22
                              (stG (Addr.mk m1 0 Option.none) (Value.int IntKind.i64 (0 : Int))
                                (stG (Addr.mk m1 1 Option.none) (Value.int IntKind.i64 (0 : Int))
                                  (stG (Addr.mk m1 2 Option.none) (Value.int IntKind.i64 (0 : Int))
                                    (stG (Addr.mk m1 3 Option.none) (Value.string (ByteArray.mk #[]))
                                      (ldG (CT.int IntKind.i64) (Addr.mk m1 0 Option.none)
                                        (fun (n23 : Int) => ldG (CT.int IntKind.i64) (Addr.mk m1 1 Option.none)
                                          (fun (n24 : Int) => ldG (CT.int IntKind.i64) (Addr.mk m1 2 Option.none)
                                            (fun (n25 : Int) => ldG CT.str (Addr.mk m1 3 Option.none)
                                              (fun (s26 : ByteArray) => retG (Value.tuple #[(Value.agg #[(Value.int IntKind.i64 n23), (Value.int IntKind.i64 n24), (Value.int IntKind.i64 n25), (Value.string s26)]), (Value.int IntKind.i64 (40 : Int))]))))))))))
                              (callG Tryz.prog 74 #[(Value.string s18)] [(VT.one (CT.int IntKind.i64)), (VT.one CT.any)]
                                (fun (n27 : Int) => fun (_ : Value) => idxG (Option.some (Addr.mk m12 0 Option.none)) 3 n15 1
                                  (fun (a29 : Addr) => stG a29 (Value.int IntKind.i64 n27)
                                    (k16))))))))
                      (k14 (IntKind.wrap IntKind.i64 (n15 + (1 : Int)))))
                    (k13)) (0 : Int))
                (idxG (Option.some (Addr.mk m12 0 Option.none)) 3 (0 : Int) 1
                  (fun (a30 : Addr) => ldG (CT.int IntKind.i64) a30
                    (fun (n31 : Int) => idxG (Option.some (Addr.mk m12 0 Option.none)) 3 (1 : Int) 1
                      (fun (a32 : Addr) => ldG (CT.int IntKind.i64) a32
                        (fun (n33 : Int) => idxG (Option.some (Addr.mk m12 0 Option.none)) 3 (2 : Int) 1
                          (fun (a34 : Addr) => ldG (CT.int IntKind.i64) a34
                            (fun (n35 : Int) => newG (Obj.cells #[(Value.int IntKind.i64 (0 : Int)), (Value.int IntKind.i64 (0 : Int)), (Value.int IntKind.i64 (0 : Int)), (Value.string (ByteArray.mk #[]))] 67 (Prod.mk 0 0))
                              (fun (m36 : Nat) => stG (Addr.mk m36 0 Option.none) (Value.int IntKind.i64 n31)
                                (stG (Addr.mk m36 1 Option.none) (Value.int IntKind.i64 n33)
                                  (stG (Addr.mk m36 2 Option.none) (Value.int IntKind.i64 n35)
                                    (stG (Addr.mk m36 3 Option.none) (Value.string s3)
                                      (ldG (CT.int IntKind.i64) (Addr.mk m36 0 Option.none)
                                        (fun (n37 : Int) => ldG (CT.int IntKind.i64) (Addr.mk m36 1 Option.none)
                                          (fun (n38 : Int) => ldG (CT.int IntKind.i64) (Addr.mk m36 2 Option.none)
                                            (fun (n39 : Int) => ldG CT.str (Addr.mk m36 3 Option.none)
                                              (fun (s40 : ByteArray) => callG Tryz.prog 75 #[(Value.agg #[(Value.int IntKind.i64 n37), (Value.int IntKind.i64 n38), (Value.int IntKind.i64 n39), (Value.string s40)])] [(VT.one (CT.int IntKind.i64))]
                                                (fun (n41 : Int) => iteG (n41 != (0 : Int))
                                                  (stG (Addr.mk m1 0 Option.none) (Value.int IntKind.i64 (0 : Int))
                                                    (stG (Addr.mk m1 1 Option.none) (Value.int IntKind.i64 (0 : Int))
                                                      (stG (Addr.mk m1 2 Option.none) (Value.int IntKind.i64 (0 : Int))
                                                        (stG (Addr.mk m1 3 Option.none) (Value.string (ByteArray.mk #[]))
                                                          (ldG (CT.int IntKind.i64) (Addr.mk m1 0 Option.none)
                                                            (fun (n42 : Int) => ldG (CT.int IntKind.i64) (Addr.mk m1 1 Option.none)
                                                              (fun (n43 : Int) => ldG (CT.int IntKind.i64) (Addr.mk m1 2 Option.none)
                                                                (fun (n44 : Int) => ldG CT.str (Addr.mk m1 3 Option.none)
                                                                  (fun (s45 : ByteArray) => retG (Value.tuple #[(Value.agg #[(Value.int IntKind.i64 n42), (Value.int IntKind.i64 n43), (Value.int IntKind.i64 n44), (Value.string s45)]), (Value.int IntKind.i64 n41)]))))))))))
                                                  (ldG (CT.int IntKind.i64) (Addr.mk m36 0 Option.none)
                                                    (fun (n46 : Int) => ldG (CT.int IntKind.i64) (Addr.mk m36 1 Option.none)
                                                      (fun (n47 : Int) => ldG (CT.int IntKind.i64) (Addr.mk m36 2 Option.none)
                                                        (fun (n48 : Int) => ldG CT.str (Addr.mk m36 3 Option.none)
                                                          (fun (s49 : ByteArray) => stG (Addr.mk m1 0 Option.none) (Value.int IntKind.i64 n46)
                                                            (stG (Addr.mk m1 1 Option.none) (Value.int IntKind.i64 n47)
                                                              (stG (Addr.mk m1 2 Option.none) (Value.int IntKind.i64 n48)
                                                                (stG (Addr.mk m1 3 Option.none) (Value.string s49)
                                                                  (ldG (CT.int IntKind.i64) (Addr.mk m1 0 Option.none)
                                                                    (fun (n50 : Int) => ldG (CT.int IntKind.i64) (Addr.mk m1 1 Option.none)
                                                                      (fun (n51 : Int) => ldG (CT.int IntKind.i64) (Addr.mk m1 2 Option.none)
                                                                        (fun (n52 : Int) => ldG CT.str (Addr.mk m1 3 Option.none)
                                                                          (fun (s53 : ByteArray) => retG (Value.tuple #[(Value.agg #[(Value.int IntKind.i64 n50), (Value.int IntKind.i64 n51), (Value.int IntKind.i64 n52), (Value.string s53)]), (Value.int IntKind.i64 (0 : Int))])))))))))))))))))))))))))))))))))))))
theorem e51 : denF Tryz.prog (GA Tryz.prog) Tryz.f51 [(VT.one CT.str)] (.seq .leaf (.seq .leaf (.seq .leaf (.seq (.seq (.r (sl Tryz.prog [(30, 4)])) .leaf) (.seq .leaf (.seq (.seq .leaf (.block (sl Tryz.prog []) (.loop (sl Tryz.prog [(34, 3)]) (.seq .leaf (.seq .leaf (.seq (.block (sl Tryz.prog []) (.seq .leaf (.seq (.seq (.r (sl Tryz.prog [(56, 4)])) .leaf) .leaf))) .leaf)))))) .leaf)))))) = t51 := by kernel_rfl
theorem c51 (x0 : ByteArray) {R : Ending → World → Prop} {w : World} (h : t51 x0 R w) : Calls Tryz.prog 51 #[.string x0] w R :=
  lift mixed Tryz.func51 e51 rfl ((x0, ()), ()) R w h

/-- (*lex.scanner).quoted -/
def t52 : Option Addr → G :=
  fun (p0 : Option Addr) => nnG p0
    (fun (a1 : Addr) => ldG (CT.int IntKind.i64) (Addr.add (Addr.add a1 0) 1)
      (fun (n2 : Int) => nnG p0
        (fun (a3 : Addr) => ldG (CT.int IntKind.i64) (Addr.add (Addr.add a3 0) 1)
          (fun (n4 : Int) => nnG p0
            (fun (a5 : Addr) => stG (Addr.add (Addr.add a5 0) 1) (Value.int IntKind.i64 (IntKind.wrap IntKind.i64 (n4 + (1 : Int))))
              (joinG []
                (fun k6 => loopG [(VT.one CT.slice)]
                  (fun k7 => fun (l8 : Sl) => joinG [(VT.one CT.slice)]
                    (fun k9 => nnG p0
                      (fun (a10 : Addr) => callG Tryz.prog 32 #[(Value.pointer (Option.some (Addr.add a10 0))), (Value.int IntKind.i64 (0 : Int))] [(VT.one (CT.int IntKind.u8))]
                        (fun (n11 : Int) => iteG (Decidable.decide (n11 < (32 : Int)))
                          (k6)
                          (joinG [(VT.one CT.slice)]
                            (fun k12 => iteG (n11 == (34 : Int))
                              (nnG p0
                                (fun (a13 : Addr) => ldG (CT.int IntKind.i64) (Addr.add (Addr.add a13 0) 1)
                                  (fun (n14 : Int) => nnG p0
                                    (fun (a15 : Addr) => stG (Addr.add (Addr.add a15 0) 1) (Value.int IntKind.i64 (IntKind.wrap IntKind.i64 (n14 + (1 : Int))))
                                      (opG Tryz.prog (convert 80 9 (Value.slice (Sl.a l8) (Sl.n l8) (Sl.c l8))) (VT.one CT.str)
                                        (fun (s16 : ByteArray) => retG (Value.tuple #[(Value.string s16), (Value.bool true)])))))))
                              (iteG (n11 == (92 : Int))
                                (nnG p0
                                  (fun (a17 : Addr) => callG Tryz.prog 32 #[(Value.pointer (Option.some (Addr.add a17 0))), (Value.int IntKind.i64 (1 : Int))] [(VT.one (CT.int IntKind.u8))]
                                    (fun (n18 : Int) => callG Tryz.prog 76 #[(Value.string (ByteArray.mk #[110, 116, 34, 92])), (Value.int IntKind.u8 n18)] [(VT.one (CT.int IntKind.i64))]
                                      (fun (n19 : Int) => iteG (Decidable.decide (n19 < (0 : Int)))
                                        (callG Tryz.prog 46 #[(Value.pointer p0), (Value.int IntKind.i64 (60 : Int)), (Value.int IntKind.i64 n2)] [(VT.one CT.bool)]
                                          (fun (b20 : Bool) => retG (Value.tuple #[(Value.string (ByteArray.mk #[])), (Value.bool b20)])))
                                        (chrG (ByteArray.mk #[10, 9, 34, 92]) n19
                                          (fun (n21 : Int) => newG (Obj.cells #[(Value.int IntKind.u8 n21)] 5 (Prod.mk 0 0))
                                            (fun (m22 : Nat) => opG Tryz.prog (Builtin.append_ #[80, 80] 80 #[(Value.slice (Sl.a l8) (Sl.n l8) (Sl.c l8)), (Value.slice (Option.some (Addr.mk m22 0 Option.none)) 1 1)]) (VT.one CT.slice)
                                              (fun (l23 : Sl) => nnG p0
                                                (fun (a24 : Addr) => ldG (CT.int IntKind.i64) (Addr.add (Addr.add a24 0) 1)
                                                  (fun (n25 : Int) => nnG p0
                                                    (fun (a26 : Addr) => stG (Addr.add (Addr.add a26 0) 1) (Value.int IntKind.i64 (IntKind.wrap IntKind.i64 (n25 + (2 : Int))))
                                                      (k9 l23))))))))))))
                                (k12 l8)))
                            (fun (l27 : Sl) => nnG p0
                              (fun (a28 : Addr) => callG Tryz.prog 33 #[(Value.pointer (Option.some (Addr.add a28 0))), (Value.func (Fn.func 77) #[] #[])] [(VT.one CT.str)]
                                (fun (s29 : ByteArray) => drewG
                                  (nnG p0
                                    (fun (a30 : Addr) => ldG (CT.int IntKind.i64) (Addr.add (Addr.add a30 0) 1)
                                      (fun (n31 : Int) => nnG p0
                                        (fun (a32 : Addr) => ldG (CT.int IntKind.i64) (Addr.add (Addr.add a32 0) 1)
                                          (fun (n33 : Int) => callG Tryz.prog 35 #[(Value.pointer p0), (Value.int IntKind.i64 (IntKind.wrap IntKind.i64 (n31 - (↑(ByteArray.size s29) : Int)))), (Value.int IntKind.i64 n33)] [(VT.one CT.bool)]
                                            (fun (b34 : Bool) => iteG (!b34)
                                              (retG (Value.tuple #[(Value.string (ByteArray.mk #[])), (Value.bool false)]))
                                              (opG Tryz.prog (Builtin.append_ #[80, 9] 80 #[(Value.slice (Sl.a l27) (Sl.n l27) (Sl.c l27)), (Value.string s29)]) (VT.one CT.slice)
                                                (fun (l35 : Sl) => k9 l35)))))))))))))))
                    (fun (l36 : Sl) => k7 l36)) (Sl.mk Option.none 0 0))
                (callG Tryz.prog 46 #[(Value.pointer p0), (Value.int IntKind.i64 (60 : Int)), (Value.int IntKind.i64 n2)] [(VT.one CT.bool)]
                  (fun (b37 : Bool) => retG (Value.tuple #[(Value.string (ByteArray.mk #[])), (Value.bool b37)])))))))))
theorem e52 : denF Tryz.prog (GA Tryz.prog) Tryz.f52 [(VT.one CT.ptr)] (.seq .leaf (.seq .leaf (.seq .leaf (.seq .leaf (.seq (.block (sl Tryz.prog []) (.loop (sl Tryz.prog [(5, 80)]) (.block (sl Tryz.prog [(5, 80)]) (.seq .leaf (.seq .leaf (.seq (.block (sl Tryz.prog [(5, 80)]) .leaf) .leaf)))))) .leaf))))) = t52 := by kernel_rfl
theorem c52 (x0 : Option Addr) {R : Ending → World → Prop} {w : World} (h : t52 x0 R w) : Calls Tryz.prog 52 #[.pointer x0] w R :=
  lift mixed Tryz.func52 e52 rfl ((x0, ()), ()) R w h

/-- pandectref03.First -/
def t53 : ByteArray → G :=
  fun (s0 : ByteArray) => iteG (ByteArray.toList s0 == ByteArray.toList (ByteArray.mk #[]))
    (retG (Value.tuple #[(Value.int IntKind.i64 (0 : Int)), (Value.int IntKind.i64 (0 : Int))]))
    (drewG
      (chrG s0 (0 : Int)
        (fun (n1 : Int) => joinG [(VT.one (CT.int IntKind.i64)), (VT.one (CT.int IntKind.i64))]
          (fun k2 => chrG s0 (0 : Int)
            (fun (n3 : Int) => joinG [(VT.one (CT.int IntKind.i64)), (VT.one (CT.int IntKind.i64))]
              (fun k4 => iteG (Decidable.decide (n3 ≥ (240 : Int)))
                (chrG s0 (0 : Int)
                  (fun (n5 : Int) => k4 (4 : Int) (IntKind.wrap IntKind.i64 (IntKind.wrap IntKind.i64 n5 - (240 : Int)))))
                (chrG s0 (0 : Int)
                  (fun (n6 : Int) => joinG [(VT.one (CT.int IntKind.i64)), (VT.one (CT.int IntKind.i64))]
                    (fun k7 => iteG (Decidable.decide (n6 ≥ (224 : Int)))
                      (chrG s0 (0 : Int)
                        (fun (n8 : Int) => k7 (3 : Int) (IntKind.wrap IntKind.i64 (IntKind.wrap IntKind.i64 n8 - (224 : Int)))))
                      (chrG s0 (0 : Int)
                        (fun (n9 : Int) => joinG [(VT.one (CT.int IntKind.i64)), (VT.one (CT.int IntKind.i64))]
                          (fun k10 => iteG (Decidable.decide (n9 ≥ (192 : Int)))
                            (chrG s0 (0 : Int)
                              (fun (n11 : Int) => k10 (2 : Int) (IntKind.wrap IntKind.i64 (IntKind.wrap IntKind.i64 n11 - (192 : Int)))))
                            (k10 (1 : Int) (IntKind.wrap IntKind.i64 n1)))
                          (fun (n12 : Int) => fun (n13 : Int) => k7 n12 n13))))
                    (fun (n14 : Int) => fun (n15 : Int) => k4 n14 n15))))
              (fun (n16 : Int) => fun (n17 : Int) => k2 n16 n17)))
          (fun (n18 : Int) => fun (n19 : Int) => iteG (Decidable.decide ((↑(ByteArray.size s0) : Int) < n18))
            (retG (Value.tuple #[(Value.int IntKind.i64 (0 : Int)), (Value.int IntKind.i64 (0 : Int))]))
            (joinG [(VT.one (CT.int IntKind.i64))]
              (fun k20 => loopG [(VT.one (CT.int IntKind.i64)), (VT.one (CT.int IntKind.i64))]
                (fun k21 => fun (n22 : Int) => fun (n23 : Int) => iteG (Decidable.decide (n23 < n18))
                  (joinG [(VT.one (CT.int IntKind.i64))]
                    (fun k24 => chrG s0 n23
                      (fun (n25 : Int) => k24 (IntKind.wrap IntKind.i64 (IntKind.wrap IntKind.i64 (IntKind.wrap IntKind.i64 (n22 * (64 : Int)) + IntKind.wrap IntKind.i64 n25) - (128 : Int)))))
                    (fun (n26 : Int) => k21 n26 (IntKind.wrap IntKind.i64 (n23 + (1 : Int)))))
                  (k20 n22)) n19 (1 : Int))
              (fun (n27 : Int) => joinG [(VT.one CT.bool)]
                (fun k28 => drewG
                  (callG Tryz.prog 78 #[(Value.int IntKind.i64 n27)] [(VT.one CT.bool)]
                    (fun (b29 : Bool) => iteG (!b29)
                      (k28 true)
                      (subG s0 (0 : Int) n18
                        (fun (s30 : ByteArray) => callG Tryz.prog 79 #[(Value.int IntKind.i64 n27)] [(VT.one CT.str)]
                          (fun (s31 : ByteArray) => k28 (!ByteArray.toList s31 == ByteArray.toList s30)))))))
                (fun (b32 : Bool) => iteG b32
                  (retG (Value.tuple #[(Value.int IntKind.i64 (0 : Int)), (Value.int IntKind.i64 (0 : Int))]))
                  (retG (Value.tuple #[(Value.int IntKind.i64 n27), (Value.int IntKind.i64 n18)])))))))))
theorem e53 : denF Tryz.prog (GA Tryz.prog) Tryz.f53 [(VT.one CT.str)] (.seq .leaf (.seq .leaf (.seq .leaf (.seq (.block (sl Tryz.prog [(4, 3), (5, 3)]) (.seq .leaf (.condj (sl Tryz.prog [(4, 3), (5, 3)]) .leaf (.seq .leaf (.condj (sl Tryz.prog [(4, 3), (5, 3)]) .leaf (.seq .leaf (.condj (sl Tryz.prog [(4, 3), (5, 3)]) .leaf .leaf))))))) (.seq .leaf (.seq (.seq .leaf (.block (sl Tryz.prog [(5, 3)]) (.loop (sl Tryz.prog [(5, 3), (6, 3)]) (.seq .leaf (.seq (.block (sl Tryz.prog [(5, 3)]) .leaf) .leaf))))) (.seq (.seq (.r (sl Tryz.prog [(63, 4)])) .leaf) .leaf))))))) = t53 := by kernel_rfl
theorem c53 (x0 : ByteArray) {R : Ending → World → Prop} {w : World} (h : t53 x0 R w) : Calls Tryz.prog 53 #[.string x0] w R :=
  lift mixed Tryz.func53 e53 rfl ((x0, ()), ()) R w h

/-- pandectref04.Parse -/
def t54 : ByteArray → G :=
  fun (s0 : ByteArray) => newG (Obj.cells #[(Value.int IntKind.i64 (0 : Int)), (Value.int IntKind.i64 (0 : Int)), (Value.int IntKind.i64 (0 : Int)), (Value.string (ByteArray.mk #[]))] 67 (Prod.mk 0 0))
    (fun (m1 : Nat) => iteG (Decidable.decide ((↑(ByteArray.size s0) : Int) > (60 : Int)))
      (stG (Addr.mk m1 0 Option.none) (Value.int IntKind.i64 (0 : Int))
        (stG (Addr.mk m1 1 Option.none) (Value.int IntKind.i64 (0 : Int))
          (stG (Addr.mk m1 2 Option.none) (Value.int IntKind.i64 (0 : Int))
            (stG (Addr.mk m1 3 Option.none) (Value.string (ByteArray.mk #[]))
              (ldG (CT.int IntKind.i64) (Addr.mk m1 0 Option.none)
                (fun (n2 : Int) => ldG (CT.int IntKind.i64) (Addr.mk m1 1 Option.none)
                  (fun (n3 : Int) => ldG (CT.int IntKind.i64) (Addr.mk m1 2 Option.none)
                    (fun (n4 : Int) => ldG CT.str (Addr.mk m1 3 Option.none)
                      (fun (s5 : ByteArray) => retG (Value.tuple #[(Value.agg #[(Value.int IntKind.i64 n2), (Value.int IntKind.i64 n3), (Value.int IntKind.i64 n4), (Value.string s5)]), (Value.int IntKind.i64 (40 : Int))]))))))))))
      (newG (Obj.cells #[(Value.int IntKind.i64 (0 : Int)), (Value.int IntKind.i64 (0 : Int)), (Value.int IntKind.i64 (0 : Int))] 3 (Prod.mk 0 0))
        (fun (m6 : Nat) => joinG [(VT.one (CT.int IntKind.i64))]
          (fun k7 => loopG [(VT.one (CT.int IntKind.i64)), (VT.one (CT.int IntKind.i64))]
            (fun k8 => fun (n9 : Int) => fun (n10 : Int) => joinG [(VT.one CT.bool)]
              (fun k11 => iteG (Decidable.decide (n10 < (↑(ByteArray.size s0) : Int)))
                (chrG s0 n10
                  (fun (n12 : Int) => k11 (n12 != (45 : Int))))
                (k11 false))
              (fun (b13 : Bool) => iteG b13
                (joinG [(VT.one (CT.int IntKind.i64)), (VT.one (CT.int IntKind.i64))]
                  (fun k14 => chrG s0 n10
                    (fun (n15 : Int) => joinG [(VT.one (CT.int IntKind.i64))]
                      (fun k16 => iteG (n15 == (46 : Int))
                        (k16 (IntKind.wrap IntKind.i64 (n9 + (1 : Int))))
                        (joinG [(VT.one CT.bool)]
                          (fun k17 => chrG s0 n10
                            (fun (n18 : Int) => iteG (Decidable.decide (n18 < (48 : Int)))
                              (k17 true)
                              (chrG s0 n10
                                (fun (n19 : Int) => k17 (Decidable.decide (n19 > (57 : Int)))))))
                          (fun (b20 : Bool) => iteG b20
                            (stG (Addr.mk m1 0 Option.none) (Value.int IntKind.i64 (0 : Int))
                              (stG (Addr.mk m1 1 Option.none) (Value.int IntKind.i64 (0 : Int))
                                (stG (Addr.mk m1 2 Option.none) (Value.int IntKind.i64 (0 : Int))
                                  (stG (Addr.mk m1 3 Option.none) (Value.string (ByteArray.mk #[]))
                                    (ldG (CT.int IntKind.i64) (Addr.mk m1 0 Option.none)
                                      (fun (n21 : Int) => ldG (CT.int IntKind.i64) (Addr.mk m1 1 Option.none)
                                        (fun (n22 : Int) => ldG (CT.int IntKind.i64) (Addr.mk m1 2 Option.none)
                                          (fun (n23 : Int) => ldG CT.str (Addr.mk m1 3 Option.none)
                                            (fun (s24 : ByteArray) => retG (Value.tuple #[(Value.agg #[(Value.int IntKind.i64 n21), (Value.int IntKind.i64 n22), (Value.int IntKind.i64 n23), (Value.string s24)]), (Value.int IntKind.i64 (40 : Int))]))))))))))
                            (k16 n9))))
                      (fun (n25 : Int) => iteG (Decidable.decide (n25 > (2 : Int)))
                        (stG (Addr.mk m1 0 Option.none) (Value.int IntKind.i64 (0 : Int))
                          (stG (Addr.mk m1 1 Option.none) (Value.int IntKind.i64 (0 : Int))
                            (stG (Addr.mk m1 2 Option.none) (Value.int IntKind.i64 (0 : Int))
                              (stG (Addr.mk m1 3 Option.none) (Value.string (ByteArray.mk #[]))
                                (ldG (CT.int IntKind.i64) (Addr.mk m1 0 Option.none)
                                  (fun (n26 : Int) => ldG (CT.int IntKind.i64) (Addr.mk m1 1 Option.none)
                                    (fun (n27 : Int) => ldG (CT.int IntKind.i64) (Addr.mk m1 2 Option.none)
                                      (fun (n28 : Int) => ldG CT.str (Addr.mk m1 3 Option.none)
                                        (fun (s29 : ByteArray) => retG (Value.tuple #[(Value.agg #[(Value.int IntKind.i64 n26), (Value.int IntKind.i64 n27), (Value.int IntKind.i64 n28), (Value.string s29)]), (Value.int IntKind.i64 (40 : Int))]))))))))))
                        (joinG [(VT.one CT.bool)]
                          (fun k30 => chrG s0 n10
                            (fun (n31 : Int) => iteG (n31 != (46 : Int))
                              (idxG (Option.some (Addr.mk m6 0 Option.none)) 3 n25 1
                                (fun (a32 : Addr) => ldG (CT.int IntKind.i64) a32
                                  (fun (n33 : Int) => k30 (Decidable.decide (n33 ≤ (999999 : Int))))))
                              (k30 false)))
                          (fun (b34 : Bool) => joinG []
                            (fun k35 => iteG b34
                              (drewG
                                (idxG (Option.some (Addr.mk m6 0 Option.none)) 3 n25 1
                                  (fun (a36 : Addr) => ldG (CT.int IntKind.i64) a36
                                    (fun (n37 : Int) => chrG s0 n10
                                      (fun (n38 : Int) => idxG (Option.some (Addr.mk m6 0 Option.none)) 3 n25 1
                                        (fun (a39 : Addr) => stG a39 (Value.int IntKind.i64 (IntKind.wrap IntKind.i64 (IntKind.wrap IntKind.i64 ((10 : Int) * n37) + IntKind.wrap IntKind.i64 (IntKind.wrap IntKind.u8 (n38 - (48 : Int))))))
                                          (k35)))))))
                              (k35))
                            (k14 n25 (IntKind.wrap IntKind.i64 (n10 + (1 : Int)))))))))
                  (fun (n40 : Int) => fun (n41 : Int) => k8 n40 n41))
                (k7 n10))) (0 : Int) (0 : Int))
          (fun (n42 : Int) => drewG
            (idxG (Option.some (Addr.mk m6 0 Option.none)) 3 (0 : Int) 1
              (fun (a43 : Addr) => ldG (CT.int IntKind.i64) a43
                (fun (n44 : Int) => idxG (Option.some (Addr.mk m6 0 Option.none)) 3 (1 : Int) 1
                  (fun (a45 : Addr) => ldG (CT.int IntKind.i64) a45
                    (fun (n46 : Int) => idxG (Option.some (Addr.mk m6 0 Option.none)) 3 (2 : Int) 1
                      (fun (a47 : Addr) => ldG (CT.int IntKind.i64) a47
                        (fun (n48 : Int) => newG (Obj.cells #[(Value.int IntKind.i64 (0 : Int)), (Value.int IntKind.i64 (0 : Int)), (Value.int IntKind.i64 (0 : Int)), (Value.string (ByteArray.mk #[]))] 67 (Prod.mk 0 0))
                          (fun (m49 : Nat) => keepG [(Prod.mk a47 [(Value.int IntKind.i64 n48)]), (Prod.mk a45 [(Value.int IntKind.i64 n46)]), (Prod.mk a43 [(Value.int IntKind.i64 n44)])]
                            (stG (Addr.mk m49 0 Option.none) (Value.int IntKind.i64 n44)
                              (stG (Addr.mk m49 1 Option.none) (Value.int IntKind.i64 n46)
                                (stG (Addr.mk m49 2 Option.none) (Value.int IntKind.i64 n48)
                                  (stG (Addr.mk m49 3 Option.none) (Value.string (ByteArray.mk #[]))
                                    (joinG []
                                      (fun k50 => iteG (Decidable.decide (n42 < (↑(ByteArray.size s0) : Int)))
                                        (subG s0 (IntKind.wrap IntKind.i64 (n42 + (1 : Int))) ((↑(ByteArray.size s0) : Int))
                                          (fun (s51 : ByteArray) => stG (Addr.mk m49 3 Option.none) (Value.string s51)
                                            (k50)))
                                        (k50))
                                      (ldG (CT.int IntKind.i64) (Addr.mk m49 0 Option.none)
                                        (fun (n52 : Int) => ldG (CT.int IntKind.i64) (Addr.mk m49 1 Option.none)
                                          (fun (n53 : Int) => ldG (CT.int IntKind.i64) (Addr.mk m49 2 Option.none)
                                            (fun (n54 : Int) => ldG CT.str (Addr.mk m49 3 Option.none)
                                              (fun (s55 : ByteArray) => callG Tryz.prog 80 #[(Value.agg #[(Value.int IntKind.i64 n52), (Value.int IntKind.i64 n53), (Value.int IntKind.i64 n54), (Value.string s55)])] [(VT.one CT.str), (VT.one (CT.int IntKind.i64))]
                                                (fun (s56 : ByteArray) => fun (n57 : Int) => joinG [(VT.one CT.bool)]
                                                  (fun k58 => iteG (n57 != (0 : Int))
                                                    (k58 true)
                                                    (k58 (!ByteArray.toList s56 == ByteArray.toList s0)))
                                                  (fun (b59 : Bool) => iteG b59
                                                    (stG (Addr.mk m1 0 Option.none) (Value.int IntKind.i64 (0 : Int))
                                                      (stG (Addr.mk m1 1 Option.none) (Value.int IntKind.i64 (0 : Int))
                                                        (stG (Addr.mk m1 2 Option.none) (Value.int IntKind.i64 (0 : Int))
                                                          (stG (Addr.mk m1 3 Option.none) (Value.string (ByteArray.mk #[]))
                                                            (ldG (CT.int IntKind.i64) (Addr.mk m1 0 Option.none)
                                                              (fun (n60 : Int) => ldG (CT.int IntKind.i64) (Addr.mk m1 1 Option.none)
                                                                (fun (n61 : Int) => ldG (CT.int IntKind.i64) (Addr.mk m1 2 Option.none)
                                                                  (fun (n62 : Int) => ldG CT.str (Addr.mk m1 3 Option.none)
                                                                    (fun (s63 : ByteArray) => retG (Value.tuple #[(Value.agg #[(Value.int IntKind.i64 n60), (Value.int IntKind.i64 n61), (Value.int IntKind.i64 n62), (Value.string s63)]), (Value.int IntKind.i64 (40 : Int))]))))))))))
                                                    (ldG (CT.int IntKind.i64) (Addr.mk m49 0 Option.none)
                                                      (fun (n64 : Int) => ldG (CT.int IntKind.i64) (Addr.mk m49 1 Option.none)
                                                        (fun (n65 : Int) => ldG (CT.int IntKind.i64) (Addr.mk m49 2 Option.none)
                                                          (fun (n66 : Int) => ldG CT.str (Addr.mk m49 3 Option.none)
                                                            (fun (s67 : ByteArray) => stG (Addr.mk m1 0 Option.none) (Value.int IntKind.i64 n64)
                                                              (stG (Addr.mk m1 1 Option.none) (Value.int IntKind.i64 n65)
                                                                (stG (Addr.mk m1 2 Option.none) (Value.int IntKind.i64 n66)
                                                                  (stG (Addr.mk m1 3 Option.none) (Value.string s67)
                                                                    (ldG (CT.int IntKind.i64) (Addr.mk m1 0 Option.none)
                                                                      (fun (n68 : Int) => ldG (CT.int IntKind.i64) (Addr.mk m1 1 Option.none)
                                                                        (fun (n69 : Int) => ldG (CT.int IntKind.i64) (Addr.mk m1 2 Option.none)
                                                                          (fun (n70 : Int) => ldG CT.str (Addr.mk m1 3 Option.none)
                                                                            (fun (s71 : ByteArray) => retG (Value.tuple #[(Value.agg #[(Value.int IntKind.i64 n68), (Value.int IntKind.i64 n69), (Value.int IntKind.i64 n70), (Value.string s71)]), (Value.int IntKind.i64 (0 : Int))]))))))))))))))))))))))))))))))))))))))
theorem e54 : denF Tryz.prog (GA Tryz.prog) Tryz.f54 [(VT.one CT.str)] (.seq .leaf (.seq .leaf (.seq .leaf (.seq .leaf (.seq .leaf (.seq (.block (sl Tryz.prog [(6, 3)]) (.loop (sl Tryz.prog [(5, 3), (6, 3)]) (.seq (.seq (.r (sl Tryz.prog [(24, 4)])) .leaf) (.block (sl Tryz.prog [(5, 3), (6, 3)]) (.seq (.seq .leaf (.condj (sl Tryz.prog [(5, 3)]) .leaf (.seq (.r (sl Tryz.prog [(40, 4)])) .leaf))) (.seq .leaf (.seq (.seq (.r (sl Tryz.prog [(55, 4)])) (.condj (sl Tryz.prog []) .leaf .leaf)) .leaf))))))) (.seq .leaf (.seq (.seq .leaf (.condj (sl Tryz.prog []) .leaf .leaf)) (.seq .leaf (.seq (.seq (.r (sl Tryz.prog [(102, 4)])) .leaf) .leaf)))))))))) = t54 := by kernel_rfl
theorem c54 (x0 : ByteArray) {R : Ending → World → Prop} {w : World} (h : t54 x0 R w) : Calls Tryz.prog 54 #[.string x0] w R :=
  lift mixed Tryz.func54 e54 rfl ((x0, ()), ()) R w h

/-- pandectref06.number -/
def t55 : ByteArray → G :=
  fun (s0 : ByteArray) => joinG []
    (fun k1 => loopG [(VT.one (CT.int IntKind.i64))]
      (fun k2 => fun (n3 : Int) => iteG (Decidable.decide (n3 < (↑(ByteArray.size s0) : Int)))
        (joinG []
          (fun k4 => chrG s0 n3
            (fun (n5 : Int) => callG Tryz.prog 44 #[(Value.int IntKind.u8 n5)] [(VT.one CT.bool)]
              (fun (b6 : Bool) => iteG (!b6)
                (retG (Value.bool false))
                (k4))))
          (k2 (IntKind.wrap IntKind.i64 (n3 + (1 : Int)))))
        (k1)) (0 : Int))
    (joinG [(VT.one CT.bool)]
      (fun k7 => iteG (Decidable.decide ((↑(ByteArray.size s0) : Int) ≥ (1 : Int)))
        (iteG (Decidable.decide ((↑(ByteArray.size s0) : Int) ≤ (15 : Int)))
          (iteG ((↑(ByteArray.size s0) : Int) == (1 : Int))
            (k7 true)
            (chrG s0 (0 : Int)
              (fun (n8 : Int) => k7 (n8 != (48 : Int)))))
          (k7 false))
        (k7 false))
      (fun (b9 : Bool) => retG (Value.bool b9)))
theorem e55 : denF Tryz.prog (GA Tryz.prog) Tryz.f55 [(VT.one CT.str)] (.seq .leaf (.seq (.seq .leaf (.block (sl Tryz.prog []) (.loop (sl Tryz.prog [(3, 3)]) (.seq .leaf (.seq (.block (sl Tryz.prog []) .leaf) .leaf))))) (.seq (.r (sl Tryz.prog [(2, 4)])) .leaf))) = t55 := by kernel_rfl
theorem c55 (x0 : ByteArray) {R : Ending → World → Prop} {w : World} (h : t55 x0 R w) : Calls Tryz.prog 55 #[.string x0] w R :=
  lift mixed Tryz.func55 e55 rfl ((x0, ()), ()) R w h

/-- pandectref06.quoted -/
def t56 : ByteArray → G :=
  fun (s0 : ByteArray) => newG (Obj.cells #[(Value.int IntKind.i64 (0 : Int)), (Value.string (ByteArray.mk #[])), (Value.int IntKind.i64 (0 : Int))] 32 (Prod.mk 0 0))
    (fun (m1 : Nat) => newG (Obj.cells #[(Value.int IntKind.i64 (0 : Int)), (Value.int IntKind.i64 (0 : Int))] 27 (Prod.mk 0 0))
      (fun (m2 : Nat) => newG (Obj.cells #[(Value.int IntKind.i64 (0 : Int)), (Value.int IntKind.i64 (0 : Int))] 27 (Prod.mk 0 0))
        (fun (m3 : Nat) => stG (Addr.mk m3 0 Option.none) (Value.int IntKind.i64 (60 : Int))
          (stG (Addr.mk m3 1 Option.none) (Value.int IntKind.i64 (0 : Int))
            (joinG []
              (fun k4 => loopG [(VT.one CT.slice), (VT.one (CT.int IntKind.i64))]
                (fun k5 => fun (l6 : Sl) => fun (n7 : Int) => iteG (Decidable.decide (n7 < (↑(ByteArray.size s0) : Int)))
                  (joinG [(VT.one CT.slice), (VT.one (CT.int IntKind.i64))]
                    (fun k8 => joinG [(VT.one CT.slice), (VT.one (CT.int IntKind.i64))]
                      (fun k9 => chrG s0 n7
                        (fun (n10 : Int) => iteG (n10 == (34 : Int))
                          (opG Tryz.prog (convert 80 9 (Value.slice (Sl.a l6) (Sl.n l6) (Sl.c l6))) (VT.one CT.str)
                            (fun (s11 : ByteArray) => stG (Addr.mk m1 0 Option.none) (Value.int IntKind.i64 (4 : Int))
                              (stG (Addr.mk m1 1 Option.none) (Value.string s11)
                                (stG (Addr.mk m1 2 Option.none) (Value.int IntKind.i64 (0 : Int))
                                  (stG (Addr.mk m2 0 Option.none) (Value.int IntKind.i64 (0 : Int))
                                    (stG (Addr.mk m2 1 Option.none) (Value.int IntKind.i64 (0 : Int))
                                      (ldG (CT.int IntKind.i64) (Addr.mk m1 0 Option.none)
                                        (fun (n12 : Int) => ldG CT.str (Addr.mk m1 1 Option.none)
                                          (fun (s13 : ByteArray) => ldG (CT.int IntKind.i64) (Addr.mk m1 2 Option.none)
                                            (fun (n14 : Int) => ldG (CT.int IntKind.i64) (Addr.mk m2 0 Option.none)
                                              (fun (n15 : Int) => ldG (CT.int IntKind.i64) (Addr.mk m2 1 Option.none)
                                                (fun (n16 : Int) => retG (Value.tuple #[(Value.agg #[(Value.int IntKind.i64 n12), (Value.string s13), (Value.int IntKind.i64 n14)]), (Value.int IntKind.i64 (IntKind.wrap IntKind.i64 (n7 + (1 : Int)))), (Value.agg #[(Value.int IntKind.i64 n15), (Value.int IntKind.i64 n16)])])))))))))))))
                          (chrG s0 n7
                            (fun (n17 : Int) => iteG (Decidable.decide (n17 < (32 : Int)))
                              (drewG
                                (ldG (CT.int IntKind.i64) (Addr.mk m3 0 Option.none)
                                  (fun (n18 : Int) => ldG (CT.int IntKind.i64) (Addr.mk m3 1 Option.none)
                                    (fun (n19 : Int) => stG (Addr.mk m1 0 Option.none) (Value.int IntKind.i64 (0 : Int))
                                      (stG (Addr.mk m1 1 Option.none) (Value.string (ByteArray.mk #[]))
                                        (stG (Addr.mk m1 2 Option.none) (Value.int IntKind.i64 (0 : Int))
                                          (keepG [(Prod.mk (Addr.mk m3 0 Option.none) [(Value.int IntKind.i64 n18), (Value.int IntKind.i64 n19)])]
                                            (stG (Addr.mk m2 0 Option.none) (Value.int IntKind.i64 n18)
                                              (stG (Addr.mk m2 1 Option.none) (Value.int IntKind.i64 n19)
                                                (ldG (CT.int IntKind.i64) (Addr.mk m1 0 Option.none)
                                                  (fun (n20 : Int) => ldG CT.str (Addr.mk m1 1 Option.none)
                                                    (fun (s21 : ByteArray) => ldG (CT.int IntKind.i64) (Addr.mk m1 2 Option.none)
                                                      (fun (n22 : Int) => ldG (CT.int IntKind.i64) (Addr.mk m2 0 Option.none)
                                                        (fun (n23 : Int) => ldG (CT.int IntKind.i64) (Addr.mk m2 1 Option.none)
                                                          (fun (n24 : Int) => retG (Value.tuple #[(Value.agg #[(Value.int IntKind.i64 n20), (Value.string s21), (Value.int IntKind.i64 n22)]), (Value.int IntKind.i64 (0 : Int)), (Value.agg #[(Value.int IntKind.i64 n23), (Value.int IntKind.i64 n24)])]))))))))))))))))
                              (chrG s0 n7
                                (fun (n25 : Int) => joinG [(VT.one CT.slice), (VT.one (CT.int IntKind.i64))]
                                  (fun k26 => iteG (n25 == (92 : Int))
                                    (iteG (IntKind.wrap IntKind.i64 (n7 + (1 : Int)) == (↑(ByteArray.size s0) : Int))
                                      (drewG
                                        (ldG (CT.int IntKind.i64) (Addr.mk m3 0 Option.none)
                                          (fun (n27 : Int) => ldG (CT.int IntKind.i64) (Addr.mk m3 1 Option.none)
                                            (fun (n28 : Int) => stG (Addr.mk m1 0 Option.none) (Value.int IntKind.i64 (0 : Int))
                                              (stG (Addr.mk m1 1 Option.none) (Value.string (ByteArray.mk #[]))
                                                (stG (Addr.mk m1 2 Option.none) (Value.int IntKind.i64 (0 : Int))
                                                  (keepG [(Prod.mk (Addr.mk m3 0 Option.none) [(Value.int IntKind.i64 n27), (Value.int IntKind.i64 n28)])]
                                                    (stG (Addr.mk m2 0 Option.none) (Value.int IntKind.i64 n27)
                                                      (stG (Addr.mk m2 1 Option.none) (Value.int IntKind.i64 n28)
                                                        (ldG (CT.int IntKind.i64) (Addr.mk m1 0 Option.none)
                                                          (fun (n29 : Int) => ldG CT.str (Addr.mk m1 1 Option.none)
                                                            (fun (s30 : ByteArray) => ldG (CT.int IntKind.i64) (Addr.mk m1 2 Option.none)
                                                              (fun (n31 : Int) => ldG (CT.int IntKind.i64) (Addr.mk m2 0 Option.none)
                                                                (fun (n32 : Int) => ldG (CT.int IntKind.i64) (Addr.mk m2 1 Option.none)
                                                                  (fun (n33 : Int) => retG (Value.tuple #[(Value.agg #[(Value.int IntKind.i64 n29), (Value.string s30), (Value.int IntKind.i64 n31)]), (Value.int IntKind.i64 (0 : Int)), (Value.agg #[(Value.int IntKind.i64 n32), (Value.int IntKind.i64 n33)])]))))))))))))))))
                                      (chrG s0 (IntKind.wrap IntKind.i64 (n7 + (1 : Int)))
                                        (fun (n34 : Int) => joinG [(VT.one CT.slice)]
                                          (fun k35 => joinG [(VT.one CT.slice)]
                                            (fun k36 => iteG (n34 == (110 : Int))
                                              (newG (Obj.cells #[(Value.int IntKind.u8 (10 : Int))] 5 (Prod.mk 0 0))
                                                (fun (m37 : Nat) => opG Tryz.prog (Builtin.append_ #[80, 80] 80 #[(Value.slice (Sl.a l6) (Sl.n l6) (Sl.c l6)), (Value.slice (Option.some (Addr.mk m37 0 Option.none)) 1 1)]) (VT.one CT.slice)
                                                  (fun (l38 : Sl) => k36 l38)))
                                              (joinG [(VT.one CT.slice)]
                                                (fun k39 => iteG (n34 == (116 : Int))
                                                  (newG (Obj.cells #[(Value.int IntKind.u8 (9 : Int))] 5 (Prod.mk 0 0))
                                                    (fun (m40 : Nat) => opG Tryz.prog (Builtin.append_ #[80, 80] 80 #[(Value.slice (Sl.a l6) (Sl.n l6) (Sl.c l6)), (Value.slice (Option.some (Addr.mk m40 0 Option.none)) 1 1)]) (VT.one CT.slice)
                                                      (fun (l41 : Sl) => k39 l41)))
                                                  (joinG [(VT.one CT.bool)]
                                                    (fun k42 => iteG (n34 == (34 : Int))
                                                      (k42 (n34 == (34 : Int)))
                                                      (k42 (n34 == (92 : Int))))
                                                    (fun (b43 : Bool) => iteG b43
                                                      (chrG s0 (IntKind.wrap IntKind.i64 (n7 + (1 : Int)))
                                                        (fun (n44 : Int) => newG (Obj.cells #[(Value.int IntKind.u8 n44)] 5 (Prod.mk 0 0))
                                                          (fun (m45 : Nat) => opG Tryz.prog (Builtin.append_ #[80, 80] 80 #[(Value.slice (Sl.a l6) (Sl.n l6) (Sl.c l6)), (Value.slice (Option.some (Addr.mk m45 0 Option.none)) 1 1)]) (VT.one CT.slice)
                                                            (fun (l46 : Sl) => k39 l46))))
                                                      (drewG
                                                        (ldG (CT.int IntKind.i64) (Addr.mk m3 0 Option.none)
                                                          (fun (n47 : Int) => ldG (CT.int IntKind.i64) (Addr.mk m3 1 Option.none)
                                                            (fun (n48 : Int) => stG (Addr.mk m1 0 Option.none) (Value.int IntKind.i64 (0 : Int))
                                                              (stG (Addr.mk m1 1 Option.none) (Value.string (ByteArray.mk #[]))
                                                                (stG (Addr.mk m1 2 Option.none) (Value.int IntKind.i64 (0 : Int))
                                                                  (keepG [(Prod.mk (Addr.mk m3 0 Option.none) [(Value.int IntKind.i64 n47), (Value.int IntKind.i64 n48)])]
                                                                    (stG (Addr.mk m2 0 Option.none) (Value.int IntKind.i64 n47)
                                                                      (stG (Addr.mk m2 1 Option.none) (Value.int IntKind.i64 n48)
                                                                        (ldG (CT.int IntKind.i64) (Addr.mk m1 0 Option.none)
                                                                          (fun (n49 : Int) => ldG CT.str (Addr.mk m1 1 Option.none)
                                                                            (fun (s50 : ByteArray) => ldG (CT.int IntKind.i64) (Addr.mk m1 2 Option.none)
                                                                              (fun (n51 : Int) => ldG (CT.int IntKind.i64) (Addr.mk m2 0 Option.none)
                                                                                (fun (n52 : Int) => ldG (CT.int IntKind.i64) (Addr.mk m2 1 Option.none)
                                                                                  (fun (n53 : Int) => retG (Value.tuple #[(Value.agg #[(Value.int IntKind.i64 n49), (Value.string s50), (Value.int IntKind.i64 n51)]), (Value.int IntKind.i64 (0 : Int)), (Value.agg #[(Value.int IntKind.i64 n52), (Value.int IntKind.i64 n53)])])))))))))))))))))))
                                                (fun (l54 : Sl) => k36 l54)))
                                            (fun (l55 : Sl) => k35 l55))
                                          (fun (l56 : Sl) => k26 l56 (IntKind.wrap IntKind.i64 (n7 + (2 : Int)))))))
                                    (subG s0 n7 ((↑(ByteArray.size s0) : Int))
                                      (fun (s57 : ByteArray) => callG Tryz.prog 53 #[(Value.string s57)] [(VT.one (CT.int IntKind.i64)), (VT.one (CT.int IntKind.i64))]
                                        (fun (_ : Int) => fun (n59 : Int) => iteG (n59 == (0 : Int))
                                          (stG (Addr.mk m1 0 Option.none) (Value.int IntKind.i64 (0 : Int))
                                            (stG (Addr.mk m1 1 Option.none) (Value.string (ByteArray.mk #[]))
                                              (stG (Addr.mk m1 2 Option.none) (Value.int IntKind.i64 (0 : Int))
                                                (stG (Addr.mk m2 0 Option.none) (Value.int IntKind.i64 (30 : Int))
                                                  (stG (Addr.mk m2 1 Option.none) (Value.int IntKind.i64 n7)
                                                    (ldG (CT.int IntKind.i64) (Addr.mk m1 0 Option.none)
                                                      (fun (n60 : Int) => ldG CT.str (Addr.mk m1 1 Option.none)
                                                        (fun (s61 : ByteArray) => ldG (CT.int IntKind.i64) (Addr.mk m1 2 Option.none)
                                                          (fun (n62 : Int) => ldG (CT.int IntKind.i64) (Addr.mk m2 0 Option.none)
                                                            (fun (n63 : Int) => ldG (CT.int IntKind.i64) (Addr.mk m2 1 Option.none)
                                                              (fun (n64 : Int) => retG (Value.tuple #[(Value.agg #[(Value.int IntKind.i64 n60), (Value.string s61), (Value.int IntKind.i64 n62)]), (Value.int IntKind.i64 (0 : Int)), (Value.agg #[(Value.int IntKind.i64 n63), (Value.int IntKind.i64 n64)])]))))))))))))
                                          (subG s0 n7 (IntKind.wrap IntKind.i64 (n7 + n59))
                                            (fun (s65 : ByteArray) => opG Tryz.prog (Builtin.append_ #[80, 9] 80 #[(Value.slice (Sl.a l6) (Sl.n l6) (Sl.c l6)), (Value.string s65)]) (VT.one CT.slice)
                                              (fun (l66 : Sl) => k26 l66 (IntKind.wrap IntKind.i64 (n7 + n59)))))))))
                                  (fun (l67 : Sl) => fun (n68 : Int) => k9 l67 n68)))))))
                      (fun (l69 : Sl) => fun (n70 : Int) => k8 l69 n70))
                    (fun (l71 : Sl) => fun (n72 : Int) => k5 l71 n72))
                  (k4)) (Sl.mk Option.none 0 0) (1 : Int))
              (drewG
                (ldG (CT.int IntKind.i64) (Addr.mk m3 0 Option.none)
                  (fun (n73 : Int) => ldG (CT.int IntKind.i64) (Addr.mk m3 1 Option.none)
                    (fun (n74 : Int) => stG (Addr.mk m1 0 Option.none) (Value.int IntKind.i64 (0 : Int))
                      (stG (Addr.mk m1 1 Option.none) (Value.string (ByteArray.mk #[]))
                        (stG (Addr.mk m1 2 Option.none) (Value.int IntKind.i64 (0 : Int))
                          (keepG [(Prod.mk (Addr.mk m3 0 Option.none) [(Value.int IntKind.i64 n73), (Value.int IntKind.i64 n74)])]
                            (stG (Addr.mk m2 0 Option.none) (Value.int IntKind.i64 n73)
                              (stG (Addr.mk m2 1 Option.none) (Value.int IntKind.i64 n74)
                                (ldG (CT.int IntKind.i64) (Addr.mk m1 0 Option.none)
                                  (fun (n75 : Int) => ldG CT.str (Addr.mk m1 1 Option.none)
                                    (fun (s76 : ByteArray) => ldG (CT.int IntKind.i64) (Addr.mk m1 2 Option.none)
                                      (fun (n77 : Int) => ldG (CT.int IntKind.i64) (Addr.mk m2 0 Option.none)
                                        (fun (n78 : Int) => ldG (CT.int IntKind.i64) (Addr.mk m2 1 Option.none)
                                          (fun (n79 : Int) => retG (Value.tuple #[(Value.agg #[(Value.int IntKind.i64 n75), (Value.string s76), (Value.int IntKind.i64 n77)]), (Value.int IntKind.i64 (0 : Int)), (Value.agg #[(Value.int IntKind.i64 n78), (Value.int IntKind.i64 n79)])])))))))))))))))))))))
theorem e56 : denF Tryz.prog (GA Tryz.prog) Tryz.f56 [(VT.one CT.str)] (.seq .leaf (.seq .leaf (.seq .leaf (.seq .leaf (.seq (.block (sl Tryz.prog []) (.loop (sl Tryz.prog [(6, 80), (7, 3)]) (.seq .leaf (.block (sl Tryz.prog [(6, 80), (7, 3)]) (.block (sl Tryz.prog [(6, 80), (7, 3)]) (.seq .leaf (.cond .leaf (.seq .leaf (.cond .leaf (.seq .leaf (.condj (sl Tryz.prog [(6, 80), (7, 3)]) (.seq .leaf (.seq (.seq .leaf (.block (sl Tryz.prog [(6, 80)]) (.seq .leaf (.condj (sl Tryz.prog [(6, 80)]) .leaf (.seq .leaf (.condj (sl Tryz.prog [(6, 80)]) .leaf (.seq (.seq .leaf (.condj (sl Tryz.prog [(84, 4)]) .leaf .leaf)) .leaf))))))) .leaf)) .leaf))))))))))) .leaf))))) = t56 := by kernel_rfl
theorem c56 (x0 : ByteArray) {R : Ending → World → Prop} {w : World} (h : t56 x0 R w) : Calls Tryz.prog 56 #[.string x0] w R :=
  lift mixed Tryz.func56 e56 rfl ((x0, ()), ()) R w h

/-- semver.digits -/
def t73 : ByteArray → G :=
  fun (s0 : ByteArray) => joinG [(VT.one CT.bool)]
    (fun k1 => iteG (!ByteArray.toList s0 == ByteArray.toList (ByteArray.mk #[]))
      (callG Tryz.prog 50 #[(Value.string s0), (Value.string (ByteArray.mk #[48, 49, 50, 51, 52, 53, 54, 55, 56, 57]))] [(VT.one CT.str)]
        (fun (s2 : ByteArray) => k1 (ByteArray.toList s2 == ByteArray.toList (ByteArray.mk #[]))))
      (k1 false))
    (fun (b3 : Bool) => retG (Value.bool b3))
theorem e73 : denF Tryz.prog (GA Tryz.prog) Tryz.f73 [(VT.one CT.str)] (.seq .leaf (.seq (.r (sl Tryz.prog [(2, 4)])) .leaf)) = t73 := by kernel_rfl
theorem c73 (x0 : ByteArray) {R : Ending → World → Prop} {w : World} (h : t73 x0 R w) : Calls Tryz.prog 73 #[.string x0] w R :=
  lift mixed Tryz.func73 e73 rfl ((x0, ()), ()) R w h

/-- semver.Check -/
def t75 : Int → Int → Int → ByteArray → G :=
  fun (n0 : Int) => fun (n1 : Int) => fun (n2 : Int) => fun (s3 : ByteArray) => newG (Obj.cells #[(Value.int IntKind.i64 n0), (Value.int IntKind.i64 n1), (Value.int IntKind.i64 n2), (Value.string s3)] 67 (Prod.mk 0 0))
    (fun (m4 : Nat) => ldG (CT.int IntKind.i64) (Addr.mk m4 0 Option.none)
      (fun (n5 : Int) => ldG (CT.int IntKind.i64) (Addr.mk m4 1 Option.none)
        (fun (n6 : Int) => ldG (CT.int IntKind.i64) (Addr.mk m4 2 Option.none)
          (fun (n7 : Int) => newG (Obj.cells #[(Value.int IntKind.i64 n5), (Value.int IntKind.i64 n6), (Value.int IntKind.i64 n7)] 3 (Prod.mk 0 0))
            (fun (m8 : Nat) => joinG []
              (fun k9 => loopG [(VT.one (CT.int IntKind.i64))]
                (fun k10 => fun (n11 : Int) => iteG (Decidable.decide (n11 < (↑(3 : Nat) : Int)))
                  (joinG []
                    (fun k12 => idxG (Option.some (Addr.mk m8 0 Option.none)) 3 n11 1
                      (fun (a13 : Addr) => ldG (CT.int IntKind.i64) a13
                        (fun (n14 : Int) => joinG [(VT.one CT.bool)]
                          (fun k15 => iteG (Decidable.decide (n14 < (0 : Int)))
                            (k15 true)
                            (k15 (Decidable.decide (n14 > (999999 : Int)))))
                          (fun (b16 : Bool) => iteG b16
                            (retG (Value.int IntKind.i64 (40 : Int)))
                            (k12)))))
                    (k10 (IntKind.wrap IntKind.i64 (n11 + (1 : Int)))))
                  (k9)) (0 : Int))
              (ldG CT.str (Addr.mk m4 3 Option.none)
                (fun (s17 : ByteArray) => iteG (Decidable.decide ((↑(ByteArray.size s17) : Int) > (24 : Int)))
                  (retG (Value.int IntKind.i64 (40 : Int)))
                  (ldG CT.str (Addr.mk m4 3 Option.none)
                    (fun (s18 : ByteArray) => joinG []
                      (fun k19 => iteG (!ByteArray.toList s18 == ByteArray.toList (ByteArray.mk #[]))
                        (ldG CT.str (Addr.mk m4 3 Option.none)
                          (fun (s20 : ByteArray) => callG Tryz.prog 72 #[(Value.string s20), (Value.string (ByteArray.mk #[46]))] [(VT.one CT.slice)]
                            (fun (l21 : Sl) => joinG []
                              (fun k22 => loopG [(VT.one (CT.int IntKind.i64))]
                                (fun k23 => fun (n24 : Int) => iteG (Decidable.decide (n24 < (↑(Sl.n l21) : Int)))
                                  (joinG []
                                    (fun k25 => idxG (Sl.a l21) (Sl.n l21) n24 1
                                      (fun (a26 : Addr) => ldG CT.str a26
                                        (fun (s27 : ByteArray) => callG Tryz.prog 97 #[(Value.string s27)] [(VT.one CT.bool)]
                                          (fun (b28 : Bool) => iteG (!b28)
                                            (retG (Value.int IntKind.i64 (40 : Int)))
                                            (k25)))))
                                    (k23 (IntKind.wrap IntKind.i64 (n24 + (1 : Int)))))
                                  (k22)) (0 : Int))
                              (k19))))
                        (k19))
                      (retG (Value.int IntKind.i64 (0 : Int))))))))))))
theorem e75 : denF Tryz.prog (GA Tryz.prog) Tryz.f75 [(VT.agg [(CT.int IntKind.i64), (CT.int IntKind.i64), (CT.int IntKind.i64), CT.str])] (.seq .leaf (.seq (.seq .leaf (.block (sl Tryz.prog []) (.loop (sl Tryz.prog [(15, 3)]) (.seq .leaf (.seq .leaf (.seq (.block (sl Tryz.prog []) (.seq .leaf (.seq (.r (sl Tryz.prog [(24, 4)])) .leaf))) .leaf)))))) (.seq .leaf (.seq (.seq .leaf (.condj (sl Tryz.prog []) (.seq .leaf (.block (sl Tryz.prog []) (.loop (sl Tryz.prog [(37, 3)]) (.seq .leaf (.seq .leaf (.seq (.block (sl Tryz.prog []) .leaf) .leaf)))))) .leaf)) .leaf)))) = t75 := by kernel_rfl
theorem c75 (x0 : Int) (x1 : Int) (x2 : Int) (x3 : ByteArray) {R : Ending → World → Prop} {w : World} (h : t75 x0 x1 x2 x3 R w) : Calls Tryz.prog 75 #[.agg #[.int .i64 x0, .int .i64 x1, .int .i64 x2, .string x3]] w R :=
  lift mixed Tryz.func75 e75 rfl ((x0, x1, x2, x3, ()), ()) R w h

/-- (*lex.scanner).quoted$1 -/
def t77 : Int → G :=
  fun (n0 : Int) => joinG [(VT.one CT.bool)]
    (fun k1 => iteG (Decidable.decide (n0 ≥ (32 : Int)))
      (iteG (n0 != (34 : Int))
        (k1 (n0 != (92 : Int)))
        (k1 false))
      (k1 false))
    (fun (b2 : Bool) => retG (Value.bool b2))
theorem e77 : denF Tryz.prog (GA Tryz.prog) Tryz.f77 [(VT.one (CT.int IntKind.u8))] (.seq .leaf (.seq (.r (sl Tryz.prog [(2, 4)])) .leaf)) = t77 := by kernel_rfl
theorem c77 (x0 : Int) {R : Ending → World → Prop} {w : World} (h : t77 x0 R w) : Calls Tryz.prog 77 #[.int .u8 x0] w R :=
  lift mixed Tryz.func77 e77 rfl ((x0, ()), ()) R w h

/-- pandectref03.point -/
def t78 : Int → G :=
  fun (n0 : Int) => joinG [(VT.one CT.bool)]
    (fun k1 => iteG (Decidable.decide (n0 ≥ (0 : Int)))
      (iteG (Decidable.decide (n0 ≤ (1114111 : Int)))
        (iteG (Decidable.decide (n0 < (55296 : Int)))
          (k1 true)
          (k1 (Decidable.decide (n0 > (57343 : Int)))))
        (k1 false))
      (k1 false))
    (fun (b2 : Bool) => retG (Value.bool b2))
theorem e78 : denF Tryz.prog (GA Tryz.prog) Tryz.f78 [(VT.one (CT.int IntKind.i64))] (.seq .leaf (.seq (.r (sl Tryz.prog [(2, 4)])) .leaf)) = t78 := by kernel_rfl
theorem c78 (x0 : Int) {R : Ending → World → Prop} {w : World} (h : t78 x0 R w) : Calls Tryz.prog 78 #[.int .i64 x0] w R :=
  lift mixed Tryz.func78 e78 rfl ((x0, ()), ()) R w h

/-- pandectref03.Bytes -/
def t79 : Int → G :=
  fun (n0 : Int) => joinG []
    (fun k1 => iteG (Decidable.decide (n0 < (128 : Int)))
      (newG (Obj.cells #[(Value.int IntKind.u8 (IntKind.wrap IntKind.u8 n0))] 5 (Prod.mk 0 0))
        (fun (m2 : Nat) => opG Tryz.prog (convert 80 9 (Value.slice (Option.some (Addr.mk m2 0 Option.none)) 1 1)) (VT.one CT.str)
          (fun (s3 : ByteArray) => retG (Value.string s3))))
      (iteG (Decidable.decide (n0 < (2048 : Int)))
        (newG (Obj.cells #[(Value.int IntKind.u8 (IntKind.wrap IntKind.u8 (IntKind.wrap IntKind.i64 ((192 : Int) + IntKind.wrap IntKind.i64 (Int.tdiv n0 (64 : Int)))))), (Value.int IntKind.u8 (IntKind.wrap IntKind.u8 (IntKind.wrap IntKind.i64 ((128 : Int) + Int.tmod n0 (64 : Int)))))] 5 (Prod.mk 0 0))
          (fun (m4 : Nat) => opG Tryz.prog (convert 80 9 (Value.slice (Option.some (Addr.mk m4 0 Option.none)) 2 2)) (VT.one CT.str)
            (fun (s5 : ByteArray) => retG (Value.string s5))))
        (iteG (Decidable.decide (n0 < (65536 : Int)))
          (newG (Obj.cells #[(Value.int IntKind.u8 (IntKind.wrap IntKind.u8 (IntKind.wrap IntKind.i64 ((224 : Int) + IntKind.wrap IntKind.i64 (Int.tdiv n0 (4096 : Int)))))), (Value.int IntKind.u8 (IntKind.wrap IntKind.u8 (IntKind.wrap IntKind.i64 ((128 : Int) + Int.tmod (IntKind.wrap IntKind.i64 (Int.tdiv n0 (64 : Int))) (64 : Int))))), (Value.int IntKind.u8 (IntKind.wrap IntKind.u8 (IntKind.wrap IntKind.i64 ((128 : Int) + Int.tmod n0 (64 : Int)))))] 5 (Prod.mk 0 0))
            (fun (m6 : Nat) => opG Tryz.prog (convert 80 9 (Value.slice (Option.some (Addr.mk m6 0 Option.none)) 3 3)) (VT.one CT.str)
              (fun (s7 : ByteArray) => retG (Value.string s7))))
          (k1))))
    (newG (Obj.cells #[(Value.int IntKind.u8 (IntKind.wrap IntKind.u8 (IntKind.wrap IntKind.i64 ((240 : Int) + IntKind.wrap IntKind.i64 (Int.tdiv n0 (262144 : Int)))))), (Value.int IntKind.u8 (IntKind.wrap IntKind.u8 (IntKind.wrap IntKind.i64 ((128 : Int) + Int.tmod (IntKind.wrap IntKind.i64 (Int.tdiv n0 (4096 : Int))) (64 : Int))))), (Value.int IntKind.u8 (IntKind.wrap IntKind.u8 (IntKind.wrap IntKind.i64 ((128 : Int) + Int.tmod (IntKind.wrap IntKind.i64 (Int.tdiv n0 (64 : Int))) (64 : Int))))), (Value.int IntKind.u8 (IntKind.wrap IntKind.u8 (IntKind.wrap IntKind.i64 ((128 : Int) + Int.tmod n0 (64 : Int)))))] 5 (Prod.mk 0 0))
      (fun (m8 : Nat) => opG Tryz.prog (convert 80 9 (Value.slice (Option.some (Addr.mk m8 0 Option.none)) 4 4)) (VT.one CT.str)
        (fun (s9 : ByteArray) => retG (Value.string s9))))
theorem e79 : denF Tryz.prog (GA Tryz.prog) Tryz.f79 [(VT.one (CT.int IntKind.i64))] (.seq .leaf (.seq (.block (sl Tryz.prog []) .leaf) .leaf)) = t79 := by kernel_rfl
theorem c79 (x0 : Int) {R : Ending → World → Prop} {w : World} (h : t79 x0 R w) : Calls Tryz.prog 79 #[.int .i64 x0] w R :=
  lift mixed Tryz.func79 e79 rfl ((x0, ()), ()) R w h

/-- pandectref04.Show -/
def t80 : Int → Int → Int → ByteArray → G :=
  fun (n0 : Int) => fun (n1 : Int) => fun (n2 : Int) => fun (s3 : ByteArray) => newG (Obj.cells #[(Value.int IntKind.i64 n0), (Value.int IntKind.i64 n1), (Value.int IntKind.i64 n2), (Value.string s3)] 67 (Prod.mk 0 0))
    (fun (m4 : Nat) => ldG (CT.int IntKind.i64) (Addr.mk m4 0 Option.none)
      (fun (n5 : Int) => ldG (CT.int IntKind.i64) (Addr.mk m4 1 Option.none)
        (fun (n6 : Int) => ldG (CT.int IntKind.i64) (Addr.mk m4 2 Option.none)
          (fun (n7 : Int) => ldG CT.str (Addr.mk m4 3 Option.none)
            (fun (s8 : ByteArray) => callG Tryz.prog 98 #[(Value.agg #[(Value.int IntKind.i64 n5), (Value.int IntKind.i64 n6), (Value.int IntKind.i64 n7), (Value.string s8)])] [(VT.one (CT.int IntKind.i64))]
              (fun (n9 : Int) => iteG (n9 != (0 : Int))
                (retG (Value.tuple #[(Value.string (ByteArray.mk #[])), (Value.int IntKind.i64 (40 : Int))]))
                (drewG
                  (ldG (CT.int IntKind.i64) (Addr.mk m4 0 Option.none)
                    (fun (n10 : Int) => ldG (CT.int IntKind.i64) (Addr.mk m4 1 Option.none)
                      (fun (n11 : Int) => ldG (CT.int IntKind.i64) (Addr.mk m4 2 Option.none)
                        (fun (n12 : Int) => callG Tryz.prog 99 #[(Value.int IntKind.i64 n10)] [(VT.one CT.str)]
                          (fun (s13 : ByteArray) => keepG [(Prod.mk (Addr.mk m4 2 Option.none) [(Value.int IntKind.i64 n12)]), (Prod.mk (Addr.mk m4 1 Option.none) [(Value.int IntKind.i64 n11)])]
                            (catG s13 (ByteArray.mk #[46])
                              (fun (s14 : ByteArray) => callG Tryz.prog 99 #[(Value.int IntKind.i64 n11)] [(VT.one CT.str)]
                                (fun (s15 : ByteArray) => keepG [(Prod.mk (Addr.mk m4 2 Option.none) [(Value.int IntKind.i64 n12)])]
                                  (catG s14 s15
                                    (fun (s16 : ByteArray) => catG s16 (ByteArray.mk #[46])
                                      (fun (s17 : ByteArray) => callG Tryz.prog 99 #[(Value.int IntKind.i64 n12)] [(VT.one CT.str)]
                                        (fun (s18 : ByteArray) => keepG [(Prod.mk (Addr.mk m4 0 Option.none) [(Value.int IntKind.i64 n10)])]
                                          (catG s17 s18
                                            (fun (s19 : ByteArray) => ldG CT.str (Addr.mk m4 3 Option.none)
                                              (fun (s20 : ByteArray) => joinG [(VT.one CT.str)]
                                                (fun k21 => iteG (!ByteArray.toList s20 == ByteArray.toList (ByteArray.mk #[]))
                                                  (catG s19 (ByteArray.mk #[45])
                                                    (fun (s22 : ByteArray) => ldG CT.str (Addr.mk m4 3 Option.none)
                                                      (fun (s23 : ByteArray) => catG s22 s23
                                                        (fun (s24 : ByteArray) => k21 s24))))
                                                  (k21 s19))
                                                (fun (s25 : ByteArray) => retG (Value.tuple #[(Value.string s25), (Value.int IntKind.i64 (0 : Int))]))))))))))))))))))))))))
theorem e80 : denF Tryz.prog (GA Tryz.prog) Tryz.f80 [(VT.agg [(CT.int IntKind.i64), (CT.int IntKind.i64), (CT.int IntKind.i64), CT.str])] (.seq .leaf (.seq .leaf (.seq .leaf (.seq (.seq .leaf (.condj (sl Tryz.prog [(4, 9)]) .leaf .leaf)) .leaf)))) = t80 := by kernel_rfl
theorem c80 (x0 : Int) (x1 : Int) (x2 : Int) (x3 : ByteArray) {R : Ending → World → Prop} {w : World} (h : t80 x0 x1 x2 x3 R w) : Calls Tryz.prog 80 #[.agg #[.int .i64 x0, .int .i64 x1, .int .i64 x2, .string x3]] w R :=
  lift mixed Tryz.func80 e80 rfl ((x0, x1, x2, x3, ()), ()) R w h

/-- semver.part -/
def t97 : ByteArray → G :=
  fun (s0 : ByteArray) => joinG [(VT.one CT.bool)]
    (fun k1 => iteG (ByteArray.toList s0 == ByteArray.toList (ByteArray.mk #[]))
      (k1 true)
      (callG Tryz.prog 73 #[(Value.string s0)] [(VT.one CT.bool)]
        (fun (b2 : Bool) => iteG b2
          (chrG s0 (0 : Int)
            (fun (n3 : Int) => iteG (n3 == (48 : Int))
              (k1 (!ByteArray.toList s0 == ByteArray.toList (ByteArray.mk #[(48 : UInt8)])))
              (k1 false)))
          (k1 false))))
    (fun (b4 : Bool) => iteG b4
      (retG (Value.bool false))
      (joinG []
        (fun k5 => loopG [(VT.one (CT.int IntKind.i64))]
          (fun k6 => fun (n7 : Int) => iteG (Decidable.decide (n7 < (↑(ByteArray.size s0) : Int)))
            (joinG []
              (fun k8 => chrG s0 n7
                (fun (n9 : Int) => joinG [(VT.one CT.bool)]
                  (fun k10 => iteG (Decidable.decide (n9 ≥ (48 : Int)))
                    (iteG (Decidable.decide (n9 ≤ (57 : Int)))
                      (k10 false)
                      (iteG (Decidable.decide (n9 ≥ (97 : Int)))
                        (iteG (Decidable.decide (n9 ≤ (122 : Int)))
                          (k10 false)
                          (iteG (Decidable.decide (n9 ≥ (65 : Int)))
                            (iteG (Decidable.decide (n9 ≤ (90 : Int)))
                              (k10 false)
                              (k10 (!n9 == (45 : Int))))
                            (k10 (!n9 == (45 : Int)))))
                        (iteG (Decidable.decide (n9 ≥ (65 : Int)))
                          (iteG (Decidable.decide (n9 ≤ (90 : Int)))
                            (k10 false)
                            (k10 (!n9 == (45 : Int))))
                          (k10 (!n9 == (45 : Int))))))
                    (iteG (Decidable.decide (n9 ≥ (97 : Int)))
                      (iteG (Decidable.decide (n9 ≤ (122 : Int)))
                        (k10 false)
                        (iteG (Decidable.decide (n9 ≥ (65 : Int)))
                          (iteG (Decidable.decide (n9 ≤ (90 : Int)))
                            (k10 false)
                            (k10 (!n9 == (45 : Int))))
                          (k10 (!n9 == (45 : Int)))))
                      (iteG (Decidable.decide (n9 ≥ (65 : Int)))
                        (iteG (Decidable.decide (n9 ≤ (90 : Int)))
                          (k10 false)
                          (k10 (!n9 == (45 : Int))))
                        (k10 (!n9 == (45 : Int))))))
                  (fun (b11 : Bool) => iteG b11
                    (retG (Value.bool false))
                    (k8))))
              (k6 (IntKind.wrap IntKind.i64 (n7 + (1 : Int)))))
            (k5)) (0 : Int))
        (retG (Value.bool true))))
theorem e97 : denF Tryz.prog (GA Tryz.prog) Tryz.f97 [(VT.one CT.str)] (.seq .leaf (.seq (.seq (.r (sl Tryz.prog [(19, 4)])) .leaf) (.seq (.seq .leaf (.block (sl Tryz.prog []) (.loop (sl Tryz.prog [(22, 3)]) (.seq .leaf (.seq .leaf (.seq (.block (sl Tryz.prog []) (.seq .leaf (.seq .leaf (.seq (.r (sl Tryz.prog [(54, 4)])) .leaf)))) .leaf)))))) .leaf))) = t97 := by kernel_rfl
theorem c97 (x0 : ByteArray) {R : Ending → World → Prop} {w : World} (h : t97 x0 R w) : Calls Tryz.prog 97 #[.string x0] w R :=
  lift mixed Tryz.func97 e97 rfl ((x0, ()), ()) R w h

/-- pandectref04.Check -/
def t98 : Int → Int → Int → ByteArray → G :=
  fun (n0 : Int) => fun (n1 : Int) => fun (n2 : Int) => fun (s3 : ByteArray) => newG (Obj.cells #[(Value.int IntKind.i64 n0), (Value.int IntKind.i64 n1), (Value.int IntKind.i64 n2), (Value.string s3)] 67 (Prod.mk 0 0))
    (fun (m4 : Nat) => joinG [(VT.one CT.bool)]
      (fun k5 => ldG (CT.int IntKind.i64) (Addr.mk m4 0 Option.none)
        (fun (n6 : Int) => iteG (Decidable.decide (n6 < (0 : Int)))
          (k5 true)
          (ldG (CT.int IntKind.i64) (Addr.mk m4 0 Option.none)
            (fun (n7 : Int) => iteG (Decidable.decide (n7 > (999999 : Int)))
              (k5 true)
              (ldG (CT.int IntKind.i64) (Addr.mk m4 1 Option.none)
                (fun (n8 : Int) => iteG (Decidable.decide (n8 < (0 : Int)))
                  (k5 true)
                  (ldG (CT.int IntKind.i64) (Addr.mk m4 1 Option.none)
                    (fun (n9 : Int) => iteG (Decidable.decide (n9 > (999999 : Int)))
                      (k5 true)
                      (ldG (CT.int IntKind.i64) (Addr.mk m4 2 Option.none)
                        (fun (n10 : Int) => iteG (Decidable.decide (n10 < (0 : Int)))
                          (k5 true)
                          (ldG (CT.int IntKind.i64) (Addr.mk m4 2 Option.none)
                            (fun (n11 : Int) => iteG (Decidable.decide (n11 > (999999 : Int)))
                              (k5 true)
                              (ldG CT.str (Addr.mk m4 3 Option.none)
                                (fun (s12 : ByteArray) => k5 (Decidable.decide ((↑(ByteArray.size s12) : Int) > (24 : Int)))))))))))))))))
      (fun (b13 : Bool) => iteG b13
        (retG (Value.int IntKind.i64 (40 : Int)))
        (ldG CT.str (Addr.mk m4 3 Option.none)
          (fun (s14 : ByteArray) => iteG (ByteArray.toList s14 == ByteArray.toList (ByteArray.mk #[]))
            (retG (Value.int IntKind.i64 (0 : Int)))
            (ldG CT.str (Addr.mk m4 3 Option.none)
              (fun (s15 : ByteArray) => callG Tryz.prog 116 #[(Value.string s15)] [(VT.one CT.slice)]
                (fun (l16 : Sl) => joinG []
                  (fun k17 => loopG [(VT.one (CT.int IntKind.i64))]
                    (fun k18 => fun (n19 : Int) => iteG (Decidable.decide (n19 < (↑(Sl.n l16) : Int)))
                      (joinG []
                        (fun k20 => idxG (Sl.a l16) (Sl.n l16) n19 1
                          (fun (a21 : Addr) => ldG CT.str a21
                            (fun (s22 : ByteArray) => callG Tryz.prog 117 #[(Value.string s22)] [(VT.one CT.bool)]
                              (fun (b23 : Bool) => iteG (!b23)
                                (retG (Value.int IntKind.i64 (40 : Int)))
                                (k20)))))
                        (k18 (IntKind.wrap IntKind.i64 (n19 + (1 : Int)))))
                      (k17)) (0 : Int))
                  (retG (Value.int IntKind.i64 (0 : Int))))))))))
theorem e98 : denF Tryz.prog (GA Tryz.prog) Tryz.f98 [(VT.agg [(CT.int IntKind.i64), (CT.int IntKind.i64), (CT.int IntKind.i64), CT.str])] (.seq .leaf (.seq (.seq (.r (sl Tryz.prog [(38, 4)])) .leaf) (.seq .leaf (.seq .leaf (.seq (.seq .leaf (.block (sl Tryz.prog []) (.loop (sl Tryz.prog [(4, 3)]) (.seq .leaf (.seq (.block (sl Tryz.prog []) .leaf) .leaf))))) .leaf))))) = t98 := by kernel_rfl
theorem c98 (x0 : Int) (x1 : Int) (x2 : Int) (x3 : ByteArray) {R : Ending → World → Prop} {w : World} (h : t98 x0 x1 x2 x3 R w) : Calls Tryz.prog 98 #[.agg #[.int .i64 x0, .int .i64 x1, .int .i64 x2, .string x3]] w R :=
  lift mixed Tryz.func98 e98 rfl ((x0, x1, x2, x3, ()), ()) R w h

/-- pandectref04.Digits -/
def t99 : Int → G :=
  fun (n0 : Int) => subG (ByteArray.mk #[48, 49, 50, 51, 52, 53, 54, 55, 56, 57]) (Int.tmod n0 (10 : Int)) (IntKind.wrap IntKind.i64 (Int.tmod n0 (10 : Int) + (1 : Int)))
    (fun (s1 : ByteArray) => joinG [(VT.one CT.str)]
      (fun k2 => loopG [(VT.one (CT.int IntKind.i64)), (VT.one CT.str)]
        (fun k3 => fun (n4 : Int) => fun (s5 : ByteArray) => iteG (Decidable.decide (n4 ≥ (10 : Int)))
          (joinG [(VT.one (CT.int IntKind.i64)), (VT.one CT.str)]
            (fun k6 => subG (ByteArray.mk #[48, 49, 50, 51, 52, 53, 54, 55, 56, 57]) (Int.tmod (IntKind.wrap IntKind.i64 (Int.tdiv n4 (10 : Int))) (10 : Int)) (IntKind.wrap IntKind.i64 (Int.tmod (IntKind.wrap IntKind.i64 (Int.tdiv n4 (10 : Int))) (10 : Int) + (1 : Int)))
              (fun (s7 : ByteArray) => catG s7 s5
                (fun (s8 : ByteArray) => k6 (IntKind.wrap IntKind.i64 (Int.tdiv n4 (10 : Int))) s8)))
            (fun (n9 : Int) => fun (s10 : ByteArray) => k3 n9 s10))
          (k2 s5)) n0 s1)
      (fun (s11 : ByteArray) => retG (Value.string s11)))
theorem e99 : denF Tryz.prog (GA Tryz.prog) Tryz.f99 [(VT.one (CT.int IntKind.i64))] (.seq .leaf (.seq .leaf (.seq .leaf (.seq (.block (sl Tryz.prog [(4, 9)]) (.loop (sl Tryz.prog [(0, 3), (4, 9)]) (.seq .leaf (.block (sl Tryz.prog [(0, 3), (4, 9)]) .leaf)))) .leaf)))) = t99 := by kernel_rfl
theorem c99 (x0 : Int) {R : Ending → World → Prop} {w : World} (h : t99 x0 R w) : Calls Tryz.prog 99 #[.int .i64 x0] w R :=
  lift mixed Tryz.func99 e99 rfl ((x0, ()), ()) R w h

/-- pandectref04.Parts -/
def t116 : ByteArray → G :=
  fun (s0 : ByteArray) => newG (Obj.cells #[(Value.string (ByteArray.mk #[]))] 9 (Prod.mk 0 0))
    (fun (m1 : Nat) => joinG [(VT.one CT.slice)]
      (fun k2 => loopG [(VT.one CT.slice), (VT.one (CT.int IntKind.i64))]
        (fun k3 => fun (l4 : Sl) => fun (n5 : Int) => iteG (Decidable.decide (n5 < (↑(ByteArray.size s0) : Int)))
          (joinG [(VT.one CT.slice)]
            (fun k6 => chrG s0 n5
              (fun (n7 : Int) => joinG [(VT.one CT.slice)]
                (fun k8 => iteG (n7 == (46 : Int))
                  (newG (Obj.cells #[(Value.string (ByteArray.mk #[]))] 9 (Prod.mk 0 0))
                    (fun (m9 : Nat) => opG Tryz.prog (Builtin.append_ #[40, 40] 40 #[(Value.slice (Sl.a l4) (Sl.n l4) (Sl.c l4)), (Value.slice (Option.some (Addr.mk m9 0 Option.none)) 1 1)]) (VT.one CT.slice)
                      (fun (l10 : Sl) => k8 l10)))
                  (drewG
                    (idxG (Sl.a l4) (Sl.n l4) (IntKind.wrap IntKind.i64 ((↑(Sl.n l4) : Int) - (1 : Int))) 1
                      (fun (a11 : Addr) => ldG CT.str a11
                        (fun (s12 : ByteArray) => subG s0 n5 (IntKind.wrap IntKind.i64 (n5 + (1 : Int)))
                          (fun (s13 : ByteArray) => catG s12 s13
                            (fun (s14 : ByteArray) => idxG (Sl.a l4) (Sl.n l4) (IntKind.wrap IntKind.i64 ((↑(Sl.n l4) : Int) - (1 : Int))) 1
                              (fun (a15 : Addr) => stG a15 (Value.string s14)
                                (k8 l4)))))))))
                (fun (l16 : Sl) => k6 l16)))
            (fun (l17 : Sl) => k3 l17 (IntKind.wrap IntKind.i64 (n5 + (1 : Int)))))
          (k2 l4)) (Sl.mk (Option.some (Addr.mk m1 0 Option.none)) 1 1) (0 : Int))
      (fun (l18 : Sl) => retG (Value.slice (Sl.a l18) (Sl.n l18) (Sl.c l18))))
theorem e116 : denF Tryz.prog (GA Tryz.prog) Tryz.f116 [(VT.one CT.str)] (.seq .leaf (.seq .leaf (.seq (.seq .leaf (.block (sl Tryz.prog [(3, 40)]) (.loop (sl Tryz.prog [(3, 40), (4, 3)]) (.seq .leaf (.seq (.block (sl Tryz.prog [(3, 40)]) (.seq .leaf (.condj (sl Tryz.prog [(3, 40)]) .leaf .leaf))) .leaf))))) .leaf))) = t116 := by kernel_rfl
theorem c116 (x0 : ByteArray) {R : Ending → World → Prop} {w : World} (h : t116 x0 R w) : Calls Tryz.prog 116 #[.string x0] w R :=
  lift mixed Tryz.func116 e116 rfl ((x0, ()), ()) R w h

/-- pandectref04.part -/
def t117 : ByteArray → G :=
  fun (s0 : ByteArray) => joinG []
    (fun k1 => loopG [(VT.one (CT.int IntKind.i64))]
      (fun k2 => fun (n3 : Int) => iteG (Decidable.decide (n3 < (↑(ByteArray.size s0) : Int)))
        (joinG []
          (fun k4 => joinG [(VT.one CT.bool)]
            (fun k5 => chrG s0 n3
              (fun (n6 : Int) => iteG (Decidable.decide (n6 ≥ (97 : Int)))
                (chrG s0 n3
                  (fun (n7 : Int) => k5 (Decidable.decide (n7 ≤ (122 : Int)))))
                (k5 false)))
            (fun (b8 : Bool) => joinG [(VT.one CT.bool)]
              (fun k9 => chrG s0 n3
                (fun (n10 : Int) => iteG (Decidable.decide (n10 ≥ (65 : Int)))
                  (chrG s0 n3
                    (fun (n11 : Int) => k9 (Decidable.decide (n11 ≤ (90 : Int)))))
                  (k9 false)))
              (fun (b12 : Bool) => joinG [(VT.one CT.bool)]
                (fun k13 => iteG (!b8)
                  (iteG (!b12)
                    (chrG s0 n3
                      (fun (n14 : Int) => iteG (n14 != (45 : Int))
                        (chrG s0 n3
                          (fun (n15 : Int) => iteG (Decidable.decide (n15 < (48 : Int)))
                            (k13 true)
                            (chrG s0 n3
                              (fun (n16 : Int) => k13 (Decidable.decide (n16 > (57 : Int)))))))
                        (k13 false)))
                    (k13 false))
                  (k13 false))
                (fun (b17 : Bool) => iteG b17
                  (retG (Value.bool false))
                  (k4)))))
          (k2 (IntKind.wrap IntKind.i64 (n3 + (1 : Int)))))
        (k1)) (0 : Int))
    (joinG [(VT.one CT.bool)]
      (fun k18 => iteG (!ByteArray.toList s0 == ByteArray.toList (ByteArray.mk #[]))
        (callG Tryz.prog 131 #[(Value.string s0)] [(VT.one CT.bool)]
          (fun (b19 : Bool) => iteG (!b19)
            (k18 true)
            (iteG (ByteArray.toList s0 == ByteArray.toList (ByteArray.mk #[(48 : UInt8)]))
              (k18 true)
              (chrG s0 (0 : Int)
                (fun (n20 : Int) => k18 (n20 != (48 : Int)))))))
        (k18 false))
      (fun (b21 : Bool) => retG (Value.bool b21)))
theorem e117 : denF Tryz.prog (GA Tryz.prog) Tryz.f117 [(VT.one CT.str)] (.seq .leaf (.seq (.seq .leaf (.block (sl Tryz.prog []) (.loop (sl Tryz.prog [(3, 3)]) (.seq .leaf (.seq (.block (sl Tryz.prog []) (.seq (.r (sl Tryz.prog [(4, 4)])) (.seq (.r (sl Tryz.prog [(5, 4)])) (.seq (.r (sl Tryz.prog [(55, 4)])) .leaf)))) .leaf))))) (.seq (.r (sl Tryz.prog [(2, 4)])) .leaf))) = t117 := by kernel_rfl
theorem c117 (x0 : ByteArray) {R : Ending → World → Prop} {w : World} (h : t117 x0 R w) : Calls Tryz.prog 117 #[.string x0] w R :=
  lift mixed Tryz.func117 e117 rfl ((x0, ()), ()) R w h

/-- pandectref04.digits -/
def t131 : ByteArray → G :=
  fun (s0 : ByteArray) => joinG []
    (fun k1 => loopG [(VT.one (CT.int IntKind.i64))]
      (fun k2 => fun (n3 : Int) => iteG (Decidable.decide (n3 < (↑(ByteArray.size s0) : Int)))
        (joinG []
          (fun k4 => joinG [(VT.one CT.bool)]
            (fun k5 => chrG s0 n3
              (fun (n6 : Int) => iteG (Decidable.decide (n6 < (48 : Int)))
                (k5 true)
                (chrG s0 n3
                  (fun (n7 : Int) => k5 (Decidable.decide (n7 > (57 : Int)))))))
            (fun (b8 : Bool) => iteG b8
              (retG (Value.bool false))
              (k4)))
          (k2 (IntKind.wrap IntKind.i64 (n3 + (1 : Int)))))
        (k1)) (0 : Int))
    (retG (Value.bool (!ByteArray.toList s0 == ByteArray.toList (ByteArray.mk #[]))))
theorem e131 : denF Tryz.prog (GA Tryz.prog) Tryz.f131 [(VT.one CT.str)] (.seq .leaf (.seq (.seq .leaf (.block (sl Tryz.prog []) (.loop (sl Tryz.prog [(3, 3)]) (.seq .leaf (.seq (.block (sl Tryz.prog []) (.seq (.r (sl Tryz.prog [(19, 4)])) .leaf)) .leaf))))) .leaf)) = t131 := by kernel_rfl
theorem c131 (x0 : ByteArray) {R : Ending → World → Prop} {w : World} (h : t131 x0 R w) : Calls Tryz.prog 131 #[.string x0] w R :=
  lift mixed Tryz.func131 e131 rfl ((x0, ()), ()) R w h

end Go.Proofs.YthnfcbjfmghomaaGreatDoor
