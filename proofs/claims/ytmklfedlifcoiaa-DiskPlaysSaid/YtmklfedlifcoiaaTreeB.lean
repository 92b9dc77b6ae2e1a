/- The functions as trees, each with its contract (by program). No condition. -/
import Derived.Test.YtmklfedlifcoiaaTreeA
import Derived.Test.YtmklfedlifcoiaaProg
set_option maxRecDepth 100000
namespace Go.Proofs.Ytmklfedlifcoiaa
open Go.Lift


/-- pandectref19.New -/
def t22 : Int → G :=
  fun (n0 : Int) => joinG [(VT.one CT.bool)]
    (fun k1 => iteG (Decidable.decide (n0 < (1 : Int)))
      (k1 true)
      (k1 (Decidable.decide (n0 > (4096 : Int)))))
    (fun (b2 : Bool) => iteG b2
      (retG (Value.tuple #[(Value.pointer Option.none), (Value.int IntKind.i64 (2 : Int))]))
      (newG (Obj.cells #[(Value.slice Option.none 0 0), (Value.slice Option.none 0 0), (Value.int IntKind.i64 (0 : Int)), (Value.slice Option.none 0 0), (Value.int IntKind.i64 (0 : Int)), (Value.int IntKind.i64 (0 : Int)), (Value.bool false), (Value.int IntKind.i64 (0 : Int))] 56 (Prod.mk 0 0))
        (fun (m3 : Nat) => opG Try.prog (Instr.makeSlice 75 (Value.int IntKind.i64 (64 : Int)) (Value.int IntKind.i64 (64 : Int))) (VT.one CT.slice)
          (fun (l4 : Sl) => opG Try.prog (convert 75 9 (Value.slice (Sl.a l4) (Sl.n l4) (Sl.c l4))) (VT.one CT.str)
            (fun (s5 : ByteArray) => joinG []
              (fun k6 => loopG [(VT.one (CT.int IntKind.i64))]
                (fun k7 => fun (n8 : Int) => iteG (Decidable.decide (n8 < n0))
                  (joinG []
                    (fun k9 => nnG (Option.some (Addr.mk m3 0 Option.none))
                      (fun (a10 : Addr) => ldG CT.slice (Addr.add a10 0)
                        (fun (l11 : Sl) => assumeG (Value.oneCell' (EV.val (EV.v (VT.val (VT.one CT.str) (s5, ())))))
                          (newG (Obj.cells #[(Value.string s5)] 9 (Prod.mk 0 0))
                            (fun (m12 : Nat) => opG Try.prog (Builtin.append_ #[42, 42] 42 #[(Value.slice (Sl.a l11) (Sl.n l11) (Sl.c l11)), (Value.slice (Option.some (Addr.mk m12 0 Option.none)) 1 1)]) (VT.one CT.slice)
                              (fun (l13 : Sl) => nnG (Option.some (Addr.mk m3 0 Option.none))
                                (fun (a14 : Addr) => stG (Addr.add a14 0) (Value.slice (Sl.a l13) (Sl.n l13) (Sl.c l13))
                                  (k9))))))))
                    (k7 (IntKind.wrap IntKind.i64 (n8 + (1 : Int)))))
                  (k6)) (0 : Int))
              (retG (Value.tuple #[(Value.pointer (Option.some (Addr.mk m3 0 Option.none))), (Value.int IntKind.i64 (0 : Int))])))))))
theorem e22 : denF Try.prog (GA Try.prog) Try.f22 [(VT.one (CT.int IntKind.i64))] (.seq .leaf (.seq (.seq (.r (sl Try.prog [(12, 4)])) .leaf) (.seq .leaf (.seq .leaf (.seq (.seq .leaf (.block (sl Try.prog []) (.loop (sl Try.prog [(6, 3)]) (.seq .leaf (.seq (.block (sl Try.prog []) .leaf) .leaf))))) .leaf))))) = t22 := by kernel_rfl
theorem c22 (x0 : Int) {R : Ending → World → Prop} {w : World} (h : t22 x0 R w) : Calls Try.prog 22 #[.int .i64 x0] w R :=
  lift mixed Try.func22 e22 rfl ((x0, ()), ()) R w h

/-- (*pandectref19.Disk).Image -/
def t26 : Option Addr → G :=
  fun (p0 : Option Addr) => joinG [(VT.one CT.slice)]
    (fun k1 => loopG [(VT.one CT.slice), (VT.one (CT.int IntKind.i64))]
      (fun k2 => fun (l3 : Sl) => fun (n4 : Int) => nnG p0
        (fun (a5 : Addr) => ldG CT.slice (Addr.add a5 0)
          (fun (l6 : Sl) => iteG (Decidable.decide (n4 < (↑(Sl.n l6) : Int)))
            (joinG [(VT.one CT.slice)]
              (fun k7 => nnG p0
                (fun (a8 : Addr) => ldG CT.slice (Addr.add a8 0)
                  (fun (l9 : Sl) => idxG (Sl.a l9) (Sl.n l9) n4 1
                    (fun (a10 : Addr) => ldG CT.str a10
                      (fun (s11 : ByteArray) => joinG [(VT.one CT.str)]
                        (fun k12 => loopG [(VT.one CT.str), (VT.one (CT.int IntKind.i64))]
                          (fun k13 => fun (s14 : ByteArray) => fun (n15 : Int) => nnG p0
                            (fun (a16 : Addr) => ldG CT.slice (Addr.add a16 1)
                              (fun (l17 : Sl) => iteG (Decidable.decide (n15 < (↑(Sl.n l17) : Int)))
                                (joinG [(VT.one CT.str)]
                                  (fun k18 => nnG p0
                                    (fun (a19 : Addr) => ldG CT.slice (Addr.add a19 1)
                                      (fun (l20 : Sl) => idxG (Sl.a l20) (Sl.n l20) n15 2
                                        (fun (a21 : Addr) => ldG (CT.int IntKind.i64) (Addr.add a21 0)
                                          (fun (n22 : Int) => joinG [(VT.one CT.str)]
                                            (fun k23 => iteG (n22 == n4)
                                              (nnG p0
                                                (fun (a24 : Addr) => ldG CT.slice (Addr.add a24 1)
                                                  (fun (l25 : Sl) => idxG (Sl.a l25) (Sl.n l25) n15 2
                                                    (fun (a26 : Addr) => ldG CT.str (Addr.add a26 1)
                                                      (fun (s27 : ByteArray) => k23 s27)))))
                                              (k23 s14))
                                            (fun (s28 : ByteArray) => k18 s28))))))
                                  (fun (s29 : ByteArray) => k13 s29 (IntKind.wrap IntKind.i64 (n15 + (1 : Int)))))
                                (k12 s14)))) s11 (0 : Int))
                        (fun (s30 : ByteArray) => opG Try.prog (Builtin.append_ #[75, 9] 75 #[(Value.slice (Sl.a l3) (Sl.n l3) (Sl.c l3)), (Value.string s30)]) (VT.one CT.slice)
                          (fun (l31 : Sl) => k7 (Sl.mk (Sl.a l31) (Sl.n l31) (Sl.c l31)))))))))
              (fun (l32 : Sl) => k2 (Sl.mk (Sl.a l32) (Sl.n l32) (Sl.c l32)) (IntKind.wrap IntKind.i64 (n4 + (1 : Int)))))
            (k1 (Sl.mk (Sl.a l3) (Sl.n l3) (Sl.c l3)))))) (Sl.mk Option.none 0 0) (0 : Int))
    (fun (l33 : Sl) => opG Try.prog (convert 75 9 (Value.slice (Sl.a l33) (Sl.n l33) (Sl.c l33))) (VT.one CT.str)
      (fun (s34 : ByteArray) => retG (Value.string s34)))
theorem e26 : denF Try.prog (GA Try.prog) Try.f26 [(VT.one CT.ptr)] (.seq .leaf (.seq .leaf (.seq (.seq .leaf (.block (sl Try.prog [(3, 75)]) (.loop (sl Try.prog [(3, 75), (4, 3)]) (.seq .leaf (.seq (.block (sl Try.prog [(3, 75)]) (.seq .leaf (.seq (.seq .leaf (.block (sl Try.prog [(5, 9)]) (.loop (sl Try.prog [(5, 9), (6, 3)]) (.seq .leaf (.seq (.block (sl Try.prog [(5, 9)]) (.seq .leaf (.condj (sl Try.prog [(5, 9)]) .leaf .leaf))) .leaf))))) .leaf))) .leaf))))) .leaf))) = t26 := by kernel_rfl
theorem c26 (x0 : Option Addr) {R : Ending → World → Prop} {w : World} (h : t26 x0 R w) : Calls Try.prog 26 #[.pointer x0] w R :=
  lift mixed Try.func26 e26 rfl ((x0, ()), ()) R w h

/-- pandectref19.Load -/
def t29 : ByteArray → G :=
  fun (s0 : ByteArray) => joinG [(VT.one CT.bool)]
    (fun k1 => assumeG true
      (iteG (Int.tmod (↑(ByteArray.size s0) : Int) (64 : Int) != (0 : Int))
        (iteG true
          (k1 true)
          (k1 (Decidable.decide ((↑(ByteArray.size s0) : Int) > (262144 : Int)))))
        (iteG ((↑(ByteArray.size s0) : Int) == (0 : Int))
          (k1 true)
          (k1 (Decidable.decide ((↑(ByteArray.size s0) : Int) > (262144 : Int)))))))
    (fun (b2 : Bool) => iteG b2
      (retG (Value.tuple #[(Value.pointer Option.none), (Value.int IntKind.i64 (2 : Int))]))
      (newG (Obj.cells #[(Value.slice Option.none 0 0), (Value.slice Option.none 0 0), (Value.int IntKind.i64 (0 : Int)), (Value.slice Option.none 0 0), (Value.int IntKind.i64 (0 : Int)), (Value.int IntKind.i64 (0 : Int)), (Value.bool false), (Value.int IntKind.i64 (0 : Int))] 56 (Prod.mk 0 0))
        (fun (m3 : Nat) => joinG []
          (fun k4 => loopG [(VT.one (CT.int IntKind.i64))]
            (fun k5 => fun (n6 : Int) => iteG (Decidable.decide (n6 < (↑(ByteArray.size s0) : Int)))
              (joinG []
                (fun k7 => drewG
                  (nnG (Option.some (Addr.mk m3 0 Option.none))
                    (fun (a8 : Addr) => ldG CT.slice (Addr.add a8 0)
                      (fun (l9 : Sl) => subG s0 n6 (IntKind.wrap IntKind.i64 (n6 + (64 : Int)))
                        (fun (s10 : ByteArray) => assumeG (Value.oneCell' (EV.val (EV.v (Value.string s10))))
                          (newG (Obj.cells #[(Value.string s10)] 9 (Prod.mk 0 0))
                            (fun (m11 : Nat) => keepG [(Prod.mk (Addr.add a8 0) [(Value.slice (Sl.a l9) (Sl.n l9) (Sl.c l9))])]
                              (opG Try.prog (Builtin.append_ #[42, 42] 42 #[(Value.slice (Sl.a l9) (Sl.n l9) (Sl.c l9)), (Value.slice (Option.some (Addr.mk m11 0 Option.none)) 1 1)]) (VT.one CT.slice)
                                (fun (l12 : Sl) => nnG (Option.some (Addr.mk m3 0 Option.none))
                                  (fun (a13 : Addr) => stG (Addr.add a13 0) (Value.slice (Sl.a l12) (Sl.n l12) (Sl.c l12))
                                    (k7)))))))))))
                (k5 (IntKind.wrap IntKind.i64 (n6 + (64 : Int)))))
              (k4)) (0 : Int))
          (retG (Value.tuple #[(Value.pointer (Option.some (Addr.mk m3 0 Option.none))), (Value.int IntKind.i64 (0 : Int))])))))
theorem e29 : denF Try.prog (GA Try.prog) Try.f29 [(VT.one CT.str)] (.seq .leaf (.seq (.seq (.r (sl Try.prog [(19, 4)])) .leaf) (.seq .leaf (.seq (.seq .leaf (.block (sl Try.prog []) (.loop (sl Try.prog [(5, 3)]) (.seq .leaf (.seq (.block (sl Try.prog []) .leaf) .leaf))))) .leaf)))) = t29 := by kernel_rfl
theorem c29 (x0 : ByteArray) {R : Ending → World → Prop} {w : World} (h : t29 x0 R w) : Calls Try.prog 29 #[.string x0] w R :=
  lift mixed Try.func29 e29 rfl ((x0, ()), ()) R w h

/-- (*pandectref19.Disk).Read -/
def t36 : Option Addr → Int → G :=
  fun (p0 : Option Addr) => fun (n1 : Int) => nnG p0
    (fun (a2 : Addr) => ldG CT.bool (Addr.add a2 6)
      (fun (b3 : Bool) => iteG b3
        (retG (Value.tuple #[(Value.string (ByteArray.mk #[])), (Value.int IntKind.i64 (190 : Int))]))
        (joinG [(VT.one CT.bool)]
          (fun k4 => iteG (Decidable.decide (n1 < (0 : Int)))
            (k4 true)
            (nnG p0
              (fun (a5 : Addr) => ldG CT.slice (Addr.add a5 0)
                (fun (l6 : Sl) => k4 (Decidable.decide (n1 ≥ (↑(Sl.n l6) : Int)))))))
          (fun (b7 : Bool) => iteG b7
            (retG (Value.tuple #[(Value.string (ByteArray.mk #[])), (Value.int IntKind.i64 (191 : Int))]))
            (nnG p0
              (fun (a8 : Addr) => ldG CT.slice (Addr.add a8 0)
                (fun (l9 : Sl) => idxG (Sl.a l9) (Sl.n l9) n1 1
                  (fun (a10 : Addr) => ldG CT.str a10
                    (fun (s11 : ByteArray) => joinG [(VT.one CT.str)]
                      (fun k12 => loopG [(VT.one CT.str), (VT.one (CT.int IntKind.i64))]
                        (fun k13 => fun (s14 : ByteArray) => fun (n15 : Int) => nnG p0
                          (fun (a16 : Addr) => ldG CT.slice (Addr.add a16 1)
                            (fun (l17 : Sl) => iteG (Decidable.decide (n15 < (↑(Sl.n l17) : Int)))
                              (joinG [(VT.one CT.str)]
                                (fun k18 => nnG p0
                                  (fun (a19 : Addr) => ldG CT.slice (Addr.add a19 1)
                                    (fun (l20 : Sl) => idxG (Sl.a l20) (Sl.n l20) n15 2
                                      (fun (a21 : Addr) => ldG (CT.int IntKind.i64) (Addr.add a21 0)
                                        (fun (n22 : Int) => joinG [(VT.one CT.str)]
                                          (fun k23 => iteG (n22 == n1)
                                            (nnG p0
                                              (fun (a24 : Addr) => ldG CT.slice (Addr.add a24 1)
                                                (fun (l25 : Sl) => idxG (Sl.a l25) (Sl.n l25) n15 2
                                                  (fun (a26 : Addr) => ldG CT.str (Addr.add a26 1)
                                                    (fun (s27 : ByteArray) => k23 s27)))))
                                            (k23 s14))
                                          (fun (s28 : ByteArray) => k18 s28))))))
                                (fun (s29 : ByteArray) => k13 s29 (IntKind.wrap IntKind.i64 (n15 + (1 : Int)))))
                              (k12 s14)))) s11 (0 : Int))
                      (fun (s30 : ByteArray) => retG (Value.tuple #[(Value.string s30), (Value.int IntKind.i64 (0 : Int))])))))))))))
theorem e36 : denF Try.prog (GA Try.prog) Try.f36 [(VT.one CT.ptr), (VT.one (CT.int IntKind.i64))] (.seq .leaf (.seq .leaf (.seq (.seq (.r (sl Try.prog [(22, 4)])) .leaf) (.seq .leaf (.seq (.seq .leaf (.block (sl Try.prog [(6, 9)]) (.loop (sl Try.prog [(6, 9), (7, 3)]) (.seq .leaf (.seq (.block (sl Try.prog [(6, 9)]) (.seq .leaf (.condj (sl Try.prog [(6, 9)]) .leaf .leaf))) .leaf))))) .leaf))))) = t36 := by kernel_rfl
theorem c36 (x0 : Option Addr) (x1 : Int) {R : Ending → World → Prop} {w : World} (h : t36 x0 x1 R w) : Calls Try.prog 36 #[.pointer x0, .int .i64 x1] w R :=
  lift mixed Try.func36 e36 rfl ((x0, ()), (x1, ()), ()) R w h

/-- (*pandectref19.Disk).Write -/
def t37 : Option Addr → Int → ByteArray → G :=
  fun (p0 : Option Addr) => fun (n1 : Int) => fun (s2 : ByteArray) => nnG p0
    (fun (a3 : Addr) => ldG CT.bool (Addr.add a3 6)
      (fun (b4 : Bool) => iteG b4
        (retG (Value.int IntKind.i64 (190 : Int)))
        (joinG [(VT.one CT.bool)]
          (fun k5 => iteG (Decidable.decide (n1 < (0 : Int)))
            (k5 true)
            (nnG p0
              (fun (a6 : Addr) => ldG CT.slice (Addr.add a6 0)
                (fun (l7 : Sl) => k5 (Decidable.decide (n1 ≥ (↑(Sl.n l7) : Int)))))))
          (fun (b8 : Bool) => iteG b8
            (retG (Value.int IntKind.i64 (191 : Int)))
            (iteG ((↑(ByteArray.size s2) : Int) != (64 : Int))
              (retG (Value.int IntKind.i64 (2 : Int)))
              (nnG p0
                (fun (a9 : Addr) => ldG CT.slice (Addr.add a9 1)
                  (fun (l10 : Sl) => assumeG (Nat.beq (Array.size (Array.foldl (fun (cs : Array Value) (x : Value × Nat) => Array.setIfInBounds cs (Field.offset #[Field.mk "At" (3 : Nat) (0 : Nat) false "" "" (0 : Nat), Field.mk "Data" (9 : Nat) (1 : Nat) false "" "" (8 : Nat)][(0 : Nat) + (1 : Nat)] + Prod.snd x) (Prod.fst x)) (Array.foldl (fun (cs : Array Value) (x : Value × Nat) => Array.setIfInBounds cs (Field.offset #[Field.mk "At" (3 : Nat) (0 : Nat) false "" "" (0 : Nat), Field.mk "Data" (9 : Nat) (1 : Nat) false "" "" (8 : Nat)][(0 : Nat)] + Prod.snd x) (Prod.fst x)) (Value.cells (Value.agg #[Value.int IntKind.i64 (0 : Int), Value.string (ByteArray.mk #[])])) (Array.zipIdx (Value.cells (Env.ρ [((31 : Nat), EV.v (VT.val (VT.one CT.str) (s2, ()))), ((30 : Nat), EV.v (VT.val (VT.one (CT.int IntKind.i64)) (n1, ()))), ((29 : Nat), mkEV (VT.one CT.slice) (l10, ())), ((28 : Nat), EV.v (Value.pointer (Option.some (Addr.add a9 (Field.offset #[Field.mk "Platter" (42 : Nat) (0 : Nat) false "" "" (0 : Nat), Field.mk "Cache" (54 : Nat) (1 : Nat) false "" "" (24 : Nat), Field.mk "At" (3 : Nat) (2 : Nat) false "" "" (48 : Nat), Field.mk "Fall" (25 : Nat) (3 : Nat) false "" "" (56 : Nat), Field.mk "Gone" (4 : Nat) (6 : Nat) false "" "" (96 : Nat), Field.mk "Count" (3 : Nat) (7 : Nat) false "" "" (104 : Nat)][(1 : Nat)]))))), ((27 : Nat), EV.v (Value.pointer (Option.some a9))), ((26 : Nat), EV.v (VT.val (VT.one CT.ptr) (p0, ()))), ((25 : Nat), EV.v (VT.val (VT.one CT.ptr) (p0, ()))), ((24 : Nat), EV.v (Value.bool ((↑(ByteArray.size s2) : Int) != (64 : Int)))), ((23 : Nat), EV.v (goInt (↑(ByteArray.size s2) : Int))), ((22 : Nat), EV.v (VT.val (VT.one CT.str) (s2, ()))), ((21 : Nat), EV.v (VT.val (VT.one CT.bool) (b8, ()))), ((10 : Nat), EV.v (VT.val (VT.one CT.bool) (b4, ()))), ((9 : Nat), EV.v (Value.pointer (Option.some (Addr.add a3 (Field.offset #[Field.mk "Platter" (42 : Nat) (0 : Nat) false "" "" (0 : Nat), Field.mk "Cache" (54 : Nat) (1 : Nat) false "" "" (24 : Nat), Field.mk "At" (3 : Nat) (2 : Nat) false "" "" (48 : Nat), Field.mk "Fall" (25 : Nat) (3 : Nat) false "" "" (56 : Nat), Field.mk "Gone" (4 : Nat) (6 : Nat) false "" "" (96 : Nat), Field.mk "Count" (3 : Nat) (7 : Nat) false "" "" (104 : Nat)][(4 : Nat)]))))), ((8 : Nat), EV.v (Value.pointer (Option.some a3))), ((7 : Nat), EV.v (VT.val (VT.one CT.ptr) (p0, ()))), ((6 : Nat), EV.v (Value.int IntKind.i64 (0 : Int))), ((0 : Nat), EV.v (VT.val (VT.one CT.ptr) (p0, ()))), ((0 : Nat) + (1 : Nat), EV.v (VT.val (VT.one (CT.int IntKind.i64)) (n1, ()))), ((0 : Nat) + (1 : Nat) + (1 : Nat), EV.v (VT.val (VT.one CT.str) (s2, ())))] (Operand.tmp (30 : Nat)))))) (Array.zipIdx (Value.cells (Env.ρ [((31 : Nat), EV.v (VT.val (VT.one CT.str) (s2, ()))), ((30 : Nat), EV.v (VT.val (VT.one (CT.int IntKind.i64)) (n1, ()))), ((29 : Nat), mkEV (VT.one CT.slice) (l10, ())), ((28 : Nat), EV.v (Value.pointer (Option.some (Addr.add a9 (Field.offset #[Field.mk "Platter" (42 : Nat) (0 : Nat) false "" "" (0 : Nat), Field.mk "Cache" (54 : Nat) (1 : Nat) false "" "" (24 : Nat), Field.mk "At" (3 : Nat) (2 : Nat) false "" "" (48 : Nat), Field.mk "Fall" (25 : Nat) (3 : Nat) false "" "" (56 : Nat), Field.mk "Gone" (4 : Nat) (6 : Nat) false "" "" (96 : Nat), Field.mk "Count" (3 : Nat) (7 : Nat) false "" "" (104 : Nat)][(1 : Nat)]))))), ((27 : Nat), EV.v (Value.pointer (Option.some a9))), ((26 : Nat), EV.v (VT.val (VT.one CT.ptr) (p0, ()))), ((25 : Nat), EV.v (VT.val (VT.one CT.ptr) (p0, ()))), ((24 : Nat), EV.v (Value.bool ((↑(ByteArray.size s2) : Int) != (64 : Int)))), ((23 : Nat), EV.v (goInt (↑(ByteArray.size s2) : Int))), ((22 : Nat), EV.v (VT.val (VT.one CT.str) (s2, ()))), ((21 : Nat), EV.v (VT.val (VT.one CT.bool) (b8, ()))), ((10 : Nat), EV.v (VT.val (VT.one CT.bool) (b4, ()))), ((9 : Nat), EV.v (Value.pointer (Option.some (Addr.add a3 (Field.offset #[Field.mk "Platter" (42 : Nat) (0 : Nat) false "" "" (0 : Nat), Field.mk "Cache" (54 : Nat) (1 : Nat) false "" "" (24 : Nat), Field.mk "At" (3 : Nat) (2 : Nat) false "" "" (48 : Nat), Field.mk "Fall" (25 : Nat) (3 : Nat) false "" "" (56 : Nat), Field.mk "Gone" (4 : Nat) (6 : Nat) false "" "" (96 : Nat), Field.mk "Count" (3 : Nat) (7 : Nat) false "" "" (104 : Nat)][(4 : Nat)]))))), ((8 : Nat), EV.v (Value.pointer (Option.some a3))), ((7 : Nat), EV.v (VT.val (VT.one CT.ptr) (p0, ()))), ((6 : Nat), EV.v (Value.int IntKind.i64 (0 : Int))), ((0 : Nat), EV.v (VT.val (VT.one CT.ptr) (p0, ()))), ((0 : Nat) + (1 : Nat), EV.v (VT.val (VT.one (CT.int IntKind.i64)) (n1, ()))), ((0 : Nat) + (1 : Nat) + (1 : Nat), EV.v (VT.val (VT.one CT.str) (s2, ())))] (Operand.tmp (31 : Nat))))))) (Program.cellsOf Proofs.Try.prog (83 : Nat)))
                    (newG (Obj.cells #[(Value.int IntKind.i64 n1), (Value.string s2)] 83 (Prod.mk 0 0))
                      (fun (m11 : Nat) => opG Try.prog (Builtin.append_ #[54, 54] 54 #[(Value.slice (Sl.a l10) (Sl.n l10) (Sl.c l10)), (Value.slice (Option.some (Addr.mk m11 0 Option.none)) 1 1)]) (VT.one CT.slice)
                        (fun (l12 : Sl) => nnG p0
                          (fun (a13 : Addr) => stG (Addr.add a13 1) (Value.slice (Sl.a l12) (Sl.n l12) (Sl.c l12))
                            (callG Try.prog 43 #[(Value.pointer p0)] [(VT.one CT.bool)]
                              (fun (b14 : Bool) => iteG b14
                                (nnG p0
                                  (fun (a15 : Addr) => ldG CT.slice (Addr.add (Addr.add a15 3) 0)
                                    (fun (l16 : Sl) => ldG (CT.int IntKind.i64) (Addr.add (Addr.add a15 3) 1)
                                      (fun (n17 : Int) => ldG (CT.int IntKind.i64) (Addr.add (Addr.add a15 3) 2)
                                        (fun (n18 : Int) => callG Try.prog 44 #[(Value.pointer p0), (Value.agg #[(Value.slice (Sl.a l16) (Sl.n l16) (Sl.c l16)), (Value.int IntKind.i64 n17), (Value.int IntKind.i64 n18)])] []
                                          (retG (Value.int IntKind.i64 (190 : Int))))))))
                                (retG (Value.int IntKind.i64 (0 : Int)))))))))))))))))
theorem e37 : denF Try.prog (GA Try.prog) Try.f37 [(VT.one CT.ptr), (VT.one (CT.int IntKind.i64)), (VT.one CT.str)] (.seq .leaf (.seq .leaf (.seq (.seq (.r (sl Try.prog [(21, 4)])) .leaf) .leaf))) = t37 := by kernel_rfl
theorem c37 (x0 : Option Addr) (x1 : Int) (x2 : ByteArray) {R : Ending → World → Prop} {w : World} (h : t37 x0 x1 x2 R w) : Calls Try.prog 37 #[.pointer x0, .int .i64 x1, .string x2] w R :=
  lift mixed Try.func37 e37 rfl ((x0, ()), (x1, ()), (x2, ()), ()) R w h

/-- (*pandectref19.Disk).Flush -/
def t38 : Option Addr → G :=
  fun (p0 : Option Addr) => nnG p0
    (fun (a1 : Addr) => ldG CT.bool (Addr.add a1 6)
      (fun (b2 : Bool) => iteG b2
        (retG (Value.int IntKind.i64 (190 : Int)))
        (callG Try.prog 43 #[(Value.pointer p0)] [(VT.one CT.bool)]
          (fun (b3 : Bool) => iteG b3
            (nnG p0
              (fun (a4 : Addr) => ldG CT.slice (Addr.add (Addr.add a4 3) 0)
                (fun (l5 : Sl) => ldG (CT.int IntKind.i64) (Addr.add (Addr.add a4 3) 1)
                  (fun (n6 : Int) => ldG (CT.int IntKind.i64) (Addr.add (Addr.add a4 3) 2)
                    (fun (n7 : Int) => callG Try.prog 44 #[(Value.pointer p0), (Value.agg #[(Value.slice (Sl.a l5) (Sl.n l5) (Sl.c l5)), (Value.int IntKind.i64 n6), (Value.int IntKind.i64 n7)])] []
                      (retG (Value.int IntKind.i64 (190 : Int))))))))
            (joinG []
              (fun k8 => loopG [(VT.one (CT.int IntKind.i64))]
                (fun k9 => fun (n10 : Int) => nnG p0
                  (fun (a11 : Addr) => ldG CT.slice (Addr.add a11 1)
                    (fun (l12 : Sl) => iteG (Decidable.decide (n10 < (↑(Sl.n l12) : Int)))
                      (joinG []
                        (fun k13 => drewG
                          (nnG p0
                            (fun (a14 : Addr) => ldG CT.slice (Addr.add a14 0)
                              (fun (l15 : Sl) => nnG p0
                                (fun (a16 : Addr) => ldG CT.slice (Addr.add a16 1)
                                  (fun (l17 : Sl) => idxG (Sl.a l17) (Sl.n l17) n10 2
                                    (fun (a18 : Addr) => ldG (CT.int IntKind.i64) (Addr.add a18 0)
                                      (fun (n19 : Int) => nnG p0
                                        (fun (a20 : Addr) => ldG CT.slice (Addr.add a20 1)
                                          (fun (l21 : Sl) => idxG (Sl.a l21) (Sl.n l21) n10 2
                                            (fun (a22 : Addr) => ldG CT.str (Addr.add a22 1)
                                              (fun (s23 : ByteArray) => idxG (Sl.a l15) (Sl.n l15) n19 1
                                                (fun (a24 : Addr) => stG a24 (Value.string s23)
                                                  (k13))))))))))))))
                        (k9 (IntKind.wrap IntKind.i64 (n10 + (1 : Int)))))
                      (k8)))) (0 : Int))
              (nnG p0
                (fun (a25 : Addr) => stG (Addr.add a25 1) (Value.slice Option.none 0 0)
                  (retG (Value.int IntKind.i64 (0 : Int))))))))))
theorem e38 : denF Try.prog (GA Try.prog) Try.f38 [(VT.one CT.ptr)] (.seq .leaf (.seq .leaf (.seq .leaf (.seq (.seq .leaf (.block (sl Try.prog []) (.loop (sl Try.prog [(3, 3)]) (.seq .leaf (.seq (.block (sl Try.prog []) .leaf) .leaf))))) .leaf)))) = t38 := by kernel_rfl
theorem c38 (x0 : Option Addr) {R : Ending → World → Prop} {w : World} (h : t38 x0 R w) : Calls Try.prog 38 #[.pointer x0] w R :=
  lift mixed Try.func38 e38 rfl ((x0, ()), ()) R w h

/-- (*pandectref19.Disk).Arm -/
def t39 : Option Addr → Int → Sl → Int → Int → G :=
  fun (p0 : Option Addr) => fun (n1 : Int) => fun (l2 : Sl) => fun (n3 : Int) => fun (n4 : Int) => newG (Obj.cells #[(Value.slice (Sl.a l2) (Sl.n l2) (Sl.c l2)), (Value.int IntKind.i64 n3), (Value.int IntKind.i64 n4)] 25 (Prod.mk 0 0))
    (fun (m5 : Nat) => nnG p0
      (fun (a6 : Addr) => ldG CT.bool (Addr.add a6 6)
        (fun (b7 : Bool) => iteG b7
          (retG (Value.int IntKind.i64 (190 : Int)))
          (iteG (Decidable.decide (n1 < (0 : Int)))
            (retG (Value.int IntKind.i64 (2 : Int)))
            (nnG p0
              (fun (a8 : Addr) => stG (Addr.add a8 2) (Value.int IntKind.i64 n1)
                (ldG CT.slice (Addr.mk m5 0 Option.none)
                  (fun (l9 : Sl) => ldG (CT.int IntKind.i64) (Addr.mk m5 1 Option.none)
                    (fun (n10 : Int) => ldG (CT.int IntKind.i64) (Addr.mk m5 2 Option.none)
                      (fun (n11 : Int) => nnG p0
                        (fun (a12 : Addr) => stG (Addr.add (Addr.add a12 3) 0) (Value.slice (Sl.a l9) (Sl.n l9) (Sl.c l9))
                          (stG (Addr.add (Addr.add a12 3) 1) (Value.int IntKind.i64 n10)
                            (stG (Addr.add (Addr.add a12 3) 2) (Value.int IntKind.i64 n11)
                              (retG (Value.int IntKind.i64 (0 : Int))))))))))))))))
theorem e39 : denF Try.prog (GA Try.prog) Try.f39 [(VT.one CT.ptr), (VT.one (CT.int IntKind.i64)), (VT.agg [CT.slice, (CT.int IntKind.i64), (CT.int IntKind.i64)])] .leaf = t39 := by kernel_rfl
theorem c39 (x0 : Option Addr) (x1 : Int) (x2 : Sl) (x3 : Int) (x4 : Int) {R : Ending → World → Prop} {w : World} (h : t39 x0 x1 x2 x3 x4 R w) : Calls Try.prog 39 #[.pointer x0, .int .i64 x1, .agg #[.slice x2.a x2.n x2.c, .int .i64 x3, .int .i64 x4]] w R :=
  lift mixed Try.func39 e39 rfl ((x0, ()), (x1, ()), (x2, x3, x4, ()), ()) R w h

/-- (*pandectref19.Disk).Crash -/
def t40 : Option Addr → Sl → Int → Int → G :=
  fun (p0 : Option Addr) => fun (l1 : Sl) => fun (n2 : Int) => fun (n3 : Int) => newG (Obj.cells #[(Value.slice (Sl.a l1) (Sl.n l1) (Sl.c l1)), (Value.int IntKind.i64 n2), (Value.int IntKind.i64 n3)] 25 (Prod.mk 0 0))
    (fun (m4 : Nat) => nnG p0
      (fun (a5 : Addr) => ldG CT.bool (Addr.add a5 6)
        (fun (b6 : Bool) => iteG b6
          (retG (Value.int IntKind.i64 (190 : Int)))
          (ldG CT.slice (Addr.mk m4 0 Option.none)
            (fun (l7 : Sl) => ldG (CT.int IntKind.i64) (Addr.mk m4 1 Option.none)
              (fun (n8 : Int) => ldG (CT.int IntKind.i64) (Addr.mk m4 2 Option.none)
                (fun (n9 : Int) => callG Try.prog 44 #[(Value.pointer p0), (Value.agg #[(Value.slice (Sl.a l7) (Sl.n l7) (Sl.c l7)), (Value.int IntKind.i64 n8), (Value.int IntKind.i64 n9)])] []
                  (retG (Value.int IntKind.i64 (0 : Int))))))))))
theorem e40 : denF Try.prog (GA Try.prog) Try.f40 [(VT.one CT.ptr), (VT.agg [CT.slice, (CT.int IntKind.i64), (CT.int IntKind.i64)])] .leaf = t40 := by kernel_rfl
theorem c40 (x0 : Option Addr) (x1 : Sl) (x2 : Int) (x3 : Int) {R : Ending → World → Prop} {w : World} (h : t40 x0 x1 x2 x3 R w) : Calls Try.prog 40 #[.pointer x0, .agg #[.slice x1.a x1.n x1.c, .int .i64 x2, .int .i64 x3]] w R :=
  lift mixed Try.func40 e40 rfl ((x0, ()), (x1, x2, x3, ()), ()) R w h

/-- (*pandectref19.Disk).Boot -/
def t41 : Option Addr → G :=
  fun (p0 : Option Addr) => nnG p0
    (fun (a1 : Addr) => stG (Addr.add a1 6) (Value.bool false)
      (retG (Value.int IntKind.i64 (0 : Int))))
theorem e41 : denF Try.prog (GA Try.prog) Try.f41 [(VT.one CT.ptr)] .leaf = t41 := by kernel_rfl
theorem c41 (x0 : Option Addr) {R : Ending → World → Prop} {w : World} (h : t41 x0 R w) : Calls Try.prog 41 #[.pointer x0] w R :=
  lift mixed Try.func41 e41 rfl ((x0, ()), ()) R w h

/-- (*pandectref19.Disk).hit -/
def t43 : Option Addr → G :=
  fun (p0 : Option Addr) => nnG p0
    (fun (a1 : Addr) => ldG (CT.int IntKind.i64) (Addr.add a1 7)
      (fun (n2 : Int) => nnG p0
        (fun (a3 : Addr) => stG (Addr.add a3 7) (Value.int IntKind.i64 (IntKind.wrap IntKind.i64 (n2 + (1 : Int))))
          (nnG p0
            (fun (a4 : Addr) => ldG (CT.int IntKind.i64) (Addr.add a4 2)
              (fun (n5 : Int) => iteG (Decidable.decide (n5 > (0 : Int)))
                (nnG p0
                  (fun (a6 : Addr) => ldG (CT.int IntKind.i64) (Addr.add a6 2)
                    (fun (n7 : Int) => nnG p0
                      (fun (a8 : Addr) => stG (Addr.add a8 2) (Value.int IntKind.i64 (IntKind.wrap IntKind.i64 (n7 - (1 : Int))))
                        (nnG p0
                          (fun (a9 : Addr) => ldG (CT.int IntKind.i64) (Addr.add a9 2)
                            (fun (n10 : Int) => retG (Value.bool (n10 == (0 : Int))))))))))
                (retG (Value.bool false))))))))
theorem e43 : denF Try.prog (GA Try.prog) Try.f43 [(VT.one CT.ptr)] .leaf = t43 := by kernel_rfl
theorem c43 (x0 : Option Addr) {R : Ending → World → Prop} {w : World} (h : t43 x0 R w) : Calls Try.prog 43 #[.pointer x0] w R :=
  lift mixed Try.func43 e43 rfl ((x0, ()), ()) R w h

/-- (*pandectref19.Disk).lost -/
def t44 : Option Addr → Sl → Int → Int → G :=
  fun (p0 : Option Addr) => fun (l1 : Sl) => fun (n2 : Int) => fun (n3 : Int) => newG (Obj.cells #[(Value.slice (Sl.a l1) (Sl.n l1) (Sl.c l1)), (Value.int IntKind.i64 n2), (Value.int IntKind.i64 n3)] 25 (Prod.mk 0 0))
    (fun (m4 : Nat) => joinG []
      (fun k5 => loopG [(VT.one (CT.int IntKind.i64))]
        (fun k6 => fun (n7 : Int) => nnG p0
          (fun (a8 : Addr) => ldG CT.slice (Addr.add a8 1)
            (fun (l9 : Sl) => iteG (Decidable.decide (n7 < (↑(Sl.n l9) : Int)))
              (joinG []
                (fun k10 => nnG p0
                  (fun (a11 : Addr) => ldG CT.slice (Addr.add a11 1)
                    (fun (l12 : Sl) => idxG (Sl.a l12) (Sl.n l12) n7 2
                      (fun (a13 : Addr) => ldG (CT.int IntKind.i64) (Addr.add a13 0)
                        (fun (n14 : Int) => ldG CT.str (Addr.add a13 1)
                          (fun (s15 : ByteArray) => newG (Obj.cells #[(Value.int IntKind.i64 (0 : Int)), (Value.string (ByteArray.mk #[]))] 83 (Prod.mk 0 0))
                            (fun (m16 : Nat) => stG (Addr.mk m16 0 Option.none) (Value.int IntKind.i64 n14)
                              (stG (Addr.mk m16 1 Option.none) (Value.string s15)
                                (joinG [(VT.one CT.bool)]
                                  (fun k17 => ldG CT.slice (Addr.mk m4 0 Option.none)
                                    (fun (l18 : Sl) => iteG (Decidable.decide (n7 < (↑(Sl.n l18) : Int)))
                                      (ldG CT.slice (Addr.mk m4 0 Option.none)
                                        (fun (l19 : Sl) => idxG (Sl.a l19) (Sl.n l19) n7 1
                                          (fun (a20 : Addr) => ldG CT.bool a20
                                            (fun (b21 : Bool) => k17 b21))))
                                      (k17 false)))
                                  (fun (b22 : Bool) => joinG [(VT.one (CT.int IntKind.i64))]
                                    (fun k23 => iteG b22
                                      (k23 (64 : Int))
                                      (k23 (0 : Int)))
                                    (fun (n24 : Int) => ldG (CT.int IntKind.i64) (Addr.mk m4 1 Option.none)
                                      (fun (n25 : Int) => joinG [(VT.one (CT.int IntKind.i64))]
                                        (fun k26 => iteG (n25 == IntKind.wrap IntKind.i64 (n7 + (1 : Int)))
                                          (ldG (CT.int IntKind.i64) (Addr.mk m4 2 Option.none)
                                            (fun (n27 : Int) => joinG [(VT.one (CT.int IntKind.i64))]
                                              (fun k28 => iteG (Decidable.decide (n27 < (0 : Int)))
                                                (k28 (0 : Int))
                                                (k28 n27))
                                              (fun (n29 : Int) => joinG [(VT.one (CT.int IntKind.i64))]
                                                (fun k30 => iteG (Decidable.decide (n29 > (64 : Int)))
                                                  (k30 (64 : Int))
                                                  (k30 n29))
                                                (fun (n31 : Int) => k26 n31))))
                                          (k26 n24))
                                        (fun (n32 : Int) => drewG
                                          (nnG p0
                                            (fun (a33 : Addr) => ldG CT.slice (Addr.add a33 0)
                                              (fun (l34 : Sl) => ldG (CT.int IntKind.i64) (Addr.mk m16 0 Option.none)
                                                (fun (n35 : Int) => ldG CT.str (Addr.mk m16 1 Option.none)
                                                  (fun (s36 : ByteArray) => subG s36 (0 : Int) n32
                                                    (fun (s37 : ByteArray) => nnG p0
                                                      (fun (a38 : Addr) => ldG CT.slice (Addr.add a38 0)
                                                        (fun (l39 : Sl) => ldG (CT.int IntKind.i64) (Addr.mk m16 0 Option.none)
                                                          (fun (n40 : Int) => idxG (Sl.a l39) (Sl.n l39) n40 1
                                                            (fun (a41 : Addr) => ldG CT.str a41
                                                              (fun (s42 : ByteArray) => subG s42 n32 ((↑(ByteArray.size s42) : Int))
                                                                (fun (s43 : ByteArray) => catG s37 s43
                                                                  (fun (s44 : ByteArray) => idxG (Sl.a l34) (Sl.n l34) n35 1
                                                                    (fun (a45 : Addr) => stG a45 (Value.string s44)
                                                                      (k10))))))))))))))))))))))))))))
                (k6 (IntKind.wrap IntKind.i64 (n7 + (1 : Int)))))
              (k5)))) (0 : Int))
      (nnG p0
        (fun (a46 : Addr) => stG (Addr.add a46 1) (Value.slice Option.none 0 0)
          (nnG p0
            (fun (a47 : Addr) => stG (Addr.add a47 2) (Value.int IntKind.i64 (0 : Int))
              (nnG p0
                (fun (a48 : Addr) => stG (Addr.add a48 6) (Value.bool true)
                  (retG (Value.tuple #[])))))))))
theorem e44 : denF Try.prog (GA Try.prog) Try.f44 [(VT.one CT.ptr), (VT.agg [CT.slice, (CT.int IntKind.i64), (CT.int IntKind.i64)])] (.seq .leaf (.seq (.seq .leaf (.block (sl Try.prog []) (.loop (sl Try.prog [(4, 3)]) (.seq .leaf (.seq (.block (sl Try.prog []) (.seq .leaf (.seq .leaf (.seq (.seq (.r (sl Try.prog [(34, 4)])) (.condj (sl Try.prog [(6, 3)]) .leaf .leaf)) (.seq (.seq .leaf (.condj (sl Try.prog [(6, 3)]) (.seq .leaf (.seq (.seq .leaf (.condj (sl Try.prog [(6, 3)]) .leaf .leaf)) (.seq .leaf (.condj (sl Try.prog [(6, 3)]) .leaf .leaf)))) .leaf)) .leaf))))) .leaf))))) .leaf)) = t44 := by kernel_rfl
theorem c44 (x0 : Option Addr) (x1 : Sl) (x2 : Int) (x3 : Int) {R : Ending → World → Prop} {w : World} (h : t44 x0 x1 x2 x3 R w) : Calls Try.prog 44 #[.pointer x0, .agg #[.slice x1.a x1.n x1.c, .int .i64 x2, .int .i64 x3]] w R :=
  lift mixed Try.func44 e44 rfl ((x0, ()), (x1, x2, x3, ()), ()) R w h

end Go.Proofs.Ytmklfedlifcoiaa
