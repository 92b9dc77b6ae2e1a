/- The finder law behind FRanksCard: one part of its proof (joined by program out of my own texts). No condition. -/
import Derived.Test.YticokfpaoiekgaaGreatDoorFRkBD
import Derived.Tactics
import Derived.Tactics2
import Derived.Defers
import Derived.Recover
import Derived.Laws.Pointers
import Derived.Test.YticokfpaoiekgaaGreatDoorChecked
section
namespace Go.Proofs.YticokfpaoiekgaaGreatDoor
open Go.Lift Go.Lex Go.Shp
theorem opB_ok {P : Program} {s : Sem Value} {k : Bool → G} {R : Ending → World → Prop} {w : World} (b : Bool) (hr : s.run P w = .ok (.bool b) w) (h : k b R w) : opG P s (.one .bool) k R w := ⟨(b, ()), w, hr, h⟩
def behindC : Option Code → Code
  | some (.seq _ c) => c
  | _ => .skip
def catchEnv (b0 b1 b2 : Nat) : Env := [(0, .v (.pointer (some ⟨b0, 0, none⟩))), (1, .v (.pointer (some ⟨b1, 0, none⟩))), (2, .v (.pointer (some ⟨b2, 0, none⟩))), (3, .v (.iface 102 (.agg #[])))]
theorem catchGet {b0 b1 b2 t : Nat} {e : EV} (h : (catchEnv b0 b1 b2).get t = some e) : (t = 0 ∧ e = .v (.pointer (some ⟨b0, 0, none⟩))) ∨ (t = 1 ∧ e = .v (.pointer (some ⟨b1, 0, none⟩))) ∨ (t = 2 ∧ e = .v (.pointer (some ⟨b2, 0, none⟩))) ∨ (t = 3 ∧ e = .v (.iface 102 (.agg #[]))) := by
  unfold catchEnv at h
  simp only [Env.get] at h
  cases h0 : Nat.beq 0 t with
  | true => rw [h0] at h; cases h; exact .inl ⟨(Nat.eq_of_beq_eq_true h0).symm, rfl⟩
  | false =>
    rw [h0] at h
    cases h1 : Nat.beq 1 t with
    | true => rw [h1] at h; cases h; exact .inr (.inl ⟨(Nat.eq_of_beq_eq_true h1).symm, rfl⟩)
    | false =>
      rw [h1] at h
      cases h2 : Nat.beq 2 t with
      | true => rw [h2] at h; cases h; exact .inr (.inr (.inl ⟨(Nat.eq_of_beq_eq_true h2).symm, rfl⟩))
      | false =>
        rw [h2] at h
        cases h3 : Nat.beq 3 t with
        | true => rw [h3] at h; cases h; exact .inr (.inr (.inr ⟨(Nat.eq_of_beq_eq_true h3).symm, rfl⟩))
        | false => rw [h3] at h; cases h
def catchK : Ex → Env → G := fun e _ => match e with
  | .exit _ => failG "exit"
  | _ => retG (.tuple #[])
theorem catchE (b0 b1 b2 : Nat) : den Tryz.prog (GA Tryz.prog) 17 (behindC Tryz.f87.body) .leaf [] (catchEnv b0 b1 b2) catchK =
    opG Tryz.prog (eqSem .neq 20 (.tmp 7) (.const .nilIface) (.iface 102 (.agg #[])) .nilIface) (.one .bool) (fun (b : Bool) => iteG b (newG (.cells #[] 102 (0, 0)) (fun _ => stG ⟨b0, 0, none⟩ (.int .i64 401) (stG ⟨b1, 0, none⟩ (.int .i64 0) (stG ⟨b2, 0, none⟩ (.bool false) (retG (.tuple #[])))))) (retG (.tuple #[]))) := by kernel_rfl
theorem catch_full {b0 b1 b2 : Nat} {T U V : TypeId} {x y : Int} {z : Bool} {w : World} (B0 : Blk w b0 T [.int .i64 x]) (B1 : Blk w b1 U [.int .i64 y]) (B2 : Blk w b2 V [.bool z]) (h01 : b0 ≠ b1) (h02 : b0 ≠ b2) (h12 : b1 ≠ b2) :
    CallsD Tryz.prog 87 #[.pointer (some ⟨b0, 0, none⟩), .pointer (some ⟨b1, 0, none⟩), .pointer (some ⟨b2, 0, none⟩)] (.panicking fullC) w fun e u' w' =>
      e = .returned (.tuple #[]) ∧ (∃ v, u' = .panicking [{ v := v, recovered := true }]) ∧ Blk w' b0 T [.int .i64 401] ∧ Blk w' b1 U [.int .i64 0] ∧ Blk w' b2 V [.bool false] ∧ Fr (fun k => k = b0 ∨ k = b1 ∨ k = b2) w w' := by
  refine callsD_of_wpS Tryz.func87 rfl fun c₀ cs hu => ?_
  unfold fullC at hu
  apply wpS_seq
  apply wpS_region
  simp [wpOpsS, go_sem, recoverD, hu, Tryz.ntmps87, Exit.thenS]
  change Code.wpS Tryz.prog (behindC Tryz.f87.body) _ _ _ _
  refine wpS_of_wp ?_
  refine wp_mono (den_ok (D := []) (n := 17) (R := fun e w' => e = .returned (.tuple #[]) ∧ Blk w' b0 T [.int .i64 401] ∧ Blk w' b1 U [.int .i64 0] ∧ Blk w' b2 V [.bool false] ∧ Fr (fun k => k = b0 ∨ k = b1 ∨ k = b2) w w') mixed _ .leaf [] (catchEnv b0 b1 b2) catchK _ _ ?_ ?_) ?_
  · rw [catchE]
    refine opB_ok true (by simp [eqSem, go_sem]) (ite_yes rfl ?_)
    refine new_ok fun w1 m hm hs1 _ F1 => ?_
    refine (B0.fr F1 fun h => h).st rfl (by simp) fun w2 C0 F2 => ((B1.fr F1 fun h => h).fr F2 (by unfold oneB; omega)).st rfl (by simp) fun w3 C1 F3 => (((B2.fr F1 fun h => h).fr F2 (by unfold oneB; omega)).fr F3 (by unfold oneB; omega)).st rfl (by simp) fun w4 C2 F4 => ?_
    refine ⟨rfl, (C0.fr F3 (by unfold oneB; omega)).fr F4 (by unfold oneB; omega), C1.fr F4 (by unfold oneB; omega), C2, ?_⟩
    have K1 : Fr (fun k => k = b0 ∨ k = b1 ∨ k = b2) w w1 := F1.mono fun _ _ h => h.elim
    have K2 : Fr (fun k => k = b0 ∨ k = b1 ∨ k = b2) w1 w2 := F2.mono fun _ _ h => .inl h
    have K3 : Fr (fun k => k = b0 ∨ k = b1 ∨ k = b2) w2 w3 := F3.mono fun _ _ h => .inr (.inl h)
    have K4 : Fr (fun k => k = b0 ∨ k = b1 ∨ k = b2) w3 w4 := F4.mono fun _ _ h => .inr (.inr h)
    exact ((K1.then K2 fun _ _ h => h).then K3 fun _ _ h => h).then K4 fun _ _ h => h
  · refine ⟨by simp, rfl, fun t e h => ?_⟩
    rcases catchGet h with ⟨rfl, rfl⟩ | ⟨rfl, rfl⟩ | ⟨rfl, rfl⟩ | ⟨rfl, rfl⟩ <;> simp [EV.val]
  · rintro e a' w' q
    cases e with
    | normal =>
      obtain ⟨env', h1, _, h3⟩ := q
      obtain ⟨he, r⟩ := h3
      exact ⟨h1.defers, _, rfl, _, results_none rfl _ _ _, rfl, ⟨_, rfl⟩, r⟩
    | ret =>
      obtain ⟨env', h1, _, h3⟩ := q
      obtain ⟨he, r⟩ := h3
      exact ⟨h1.defers, _, rfl, _, results_none rfl _ _ _, rfl, ⟨_, rfl⟩, r⟩
    | panic c => cases q.2.2.1
    | exit id => obtain ⟨_, _, _, h3⟩ := q; exact h3.elim
    | _ => exact q.elim
theorem catch_none {p0 p1 p2 : Value} {w : World} :
    CallsD Tryz.prog 87 #[p0, p1, p2] .returning w fun e u' w' => e = .returned (.tuple #[]) ∧ u' = .returning ∧ w' = w := by
  refine callsD_of_wpS Tryz.func87 rfl fun c₀ cs hu => ?_
  apply wpS_seq
  apply wpS_region
  simp [wpOpsS, go_sem, recoverD, hu, Tryz.ntmps87, Exit.thenS]
  apply wpS_seq
  apply wpS_region
  simp [wpOpsS, go_sem, Exit.thenS]
  refine wpS_cond (t := false) (by simp [Act.eval, Array.replicate]) ?_
  simp only [Bool.false_eq_true, if_false]
  refine wpS_of_wp (wp_skip ?_)
  refine ⟨rfl, _, rfl, _, results_none rfl _ _ _, rfl, ?_, rfl⟩
  first | rfl | exact hu
def countEnv (h : Nat) : Env := [(1, .v (.pointer (some ⟨h, 0, none⟩))), (2, .v (.pointer (some ⟨h + 1, 0, none⟩))), (3, .v (.pointer (some ⟨h + 1 + 1, 0, none⟩))), (4, .v (.pointer (some ⟨h + 1 + 1 + 1, 0, none⟩)))]
theorem countGet {h t : Nat} {e : EV} (hg : (countEnv h).get t = some e) : (t = 1 ∧ e = .v (.pointer (some ⟨h, 0, none⟩))) ∨ (t = 2 ∧ e = .v (.pointer (some ⟨h + 1, 0, none⟩))) ∨ (t = 3 ∧ e = .v (.pointer (some ⟨h + 1 + 1, 0, none⟩))) ∨ (t = 4 ∧ e = .v (.pointer (some ⟨h + 1 + 1 + 1, 0, none⟩))) := by
  unfold countEnv at hg
  simp only [Env.get] at hg
  cases h0 : Nat.beq 1 t with
  | true => rw [h0] at hg; cases hg; exact .inl ⟨(Nat.eq_of_beq_eq_true h0).symm, rfl⟩
  | false =>
    rw [h0] at hg
    cases h1 : Nat.beq 2 t with
    | true => rw [h1] at hg; cases hg; exact .inr (.inl ⟨(Nat.eq_of_beq_eq_true h1).symm, rfl⟩)
    | false =>
      rw [h1] at hg
      cases h2 : Nat.beq 3 t with
      | true => rw [h2] at hg; cases hg; exact .inr (.inr (.inl ⟨(Nat.eq_of_beq_eq_true h2).symm, rfl⟩))
      | false =>
        rw [h2] at hg
        cases h3 : Nat.beq 4 t with
        | true => rw [h3] at hg; cases hg; exact .inr (.inr (.inr ⟨(Nat.eq_of_beq_eq_true h3).symm, rfl⟩))
        | false => rw [h3] at hg; cases hg
theorem countE (h : Nat) : den Tryz.prog (GA Tryz.prog) 11 (behindC (some (behindC Tryz.f60.body))) .leaf [2, 3, 4] (countEnv h) catchK =
    ldG (.int .i64) ⟨h, 0, none⟩ (fun (k : Int) => ldG .str ⟨h, 1, none⟩ (fun (o : ByteArray) => ldG .str ⟨h, 2, none⟩ (fun (n : ByteArray) => ldG .slice ⟨h, 3, none⟩ (fun (ns : Sl) => ldG .slice ⟨h, 4, none⟩ (fun (ps : Sl) =>
      callG Tryz.prog 88 #[shArg k o n ns ps, .int .i64 1, .func (.func 89) #[] #[.pointer (some ⟨h + 1, 0, none⟩)]] [.one (.int .i64)] (fun (d : Int) => stG ⟨h + 1 + 1, 0, none⟩ (.int .i64 d) (drewG
        (ldG (.int .i64) ⟨h + 1, 0, none⟩ (fun (x : Int) => ldG (.int .i64) ⟨h + 1 + 1, 0, none⟩ (fun (y : Int) => stG ⟨h + 1, 0, none⟩ (.int .i64 x) (keepG [(⟨h + 1 + 1, 0, none⟩, [.int .i64 y])] (stG ⟨h + 1 + 1, 0, none⟩ (.int .i64 y) (stG ⟨h + 1 + 1 + 1, 0, none⟩ (.bool true) (retG (.tuple #[]))))))))))))))) := by kernel_rfl
theorem countRes {tmps : Array Value} {w : World} {b0 b1 b2 : Nat} {T U V : TypeId} {x y : Int} {z : Bool} (h2 : tmps.getD 2 undef = .pointer (some ⟨b0, 0, none⟩)) (h3 : tmps.getD 3 undef = .pointer (some ⟨b1, 0, none⟩)) (h4 : tmps.getD 4 undef = .pointer (some ⟨b2, 0, none⟩))
    (B0 : Blk w b0 T [.int .i64 x]) (B1 : Blk w b1 U [.int .i64 y]) (B2 : Blk w b2 V [.bool z]) : (results Tryz.f60 tmps).run Tryz.prog w = .ok (.tuple #[.int .i64 x, .int .i64 y, .bool z]) w := by
  have c0 := B0.cell (o := 0) rfl
  have c1 := B1.cell (o := 0) rfl
  have c2 := B2.cell (o := 0) rfl
  have hr : Tryz.f60.results = #[.cell 2 3, .cell 3 3, .cell 4 4] := rfl
  rw [results_eq, hr]
  simp [resV, h2, h3, h4, c0, c1, c2, go_sem]
theorem scount_ok {w : World} {k : Int} {o n : ByteArray} {ns ps : Sl} {s : Shape} (hv : ShV w k o n ns ps s) : Calls Tryz.prog 60 #[shArg k o n ns ps] w fun e w' => e = .returned (.tuple #[.int .i64 (if 400 < size s then 401 else (size s : Int)), .int .i64 (if 400 < size s then 0 else (deep s : Int)), .bool (decide (size s ≤ 400))]) ∧ Fr noB w w' := by
  have hmf : ∀ (fn : Fn) (first cap : Array Value) (w : World), (Instr.makeFunc fn first cap).run Tryz.prog w = .ok (.func fn first cap) w := fun _ _ _ _ => rfl
  go_enter_defers Tryz.func60, Tryz.ntmps60
  apply wp_seq
  apply wp_region_list
  simp [wpList, Oper.wp, go_sem, Exit.then]
  repeat refine Or.inl ?_
  apply wp_seq
  apply wp_region_list
  simp [wpList, Oper.wp, go_sem, Exit.then]
  repeat refine Or.inl ?_
  change Code.wp _ (behindC (some (behindC Tryz.f60.body))) _ _ _
  have A0 : Blk (w.alloc (.cells #[.int .i64 k, .string o, .string n, .slice ns.a ns.n ns.c, .slice ps.a ps.n ps.c] 25)) w.heap.size 25 (shCells k o n ns ps) := blk_alloc w _ _
  have G0 := fr_alloc w (.cells #[.int .i64 k, .string o, .string n, .slice ns.a ns.n ns.c, .slice ps.a ps.n ps.c] 25)
  have z0 : (w.alloc (.cells #[.int .i64 k, .string o, .string n, .slice ns.a ns.n ns.c, .slice ps.a ps.n ps.c] 25)).heap.size = w.heap.size + 1 := by simp
  generalize w.alloc (.cells #[.int .i64 k, .string o, .string n, .slice ns.a ns.n ns.c, .slice ps.a ps.n ps.c] 25) = w0 at A0 G0 z0 ⊢
  have A1 := blk_alloc w0 #[.int .i64 0] 3
  have G1 := fr_alloc w0 (.cells #[.int .i64 0] 3)
  have z1 : (w0.alloc (.cells #[.int .i64 0] 3)).heap.size = w.heap.size + 1 + 1 := by simp [z0]
  rw [z0] at A1
  replace A0 := A0.fr G1 fun h => h
  replace G1 := G0.tr G1
  generalize w0.alloc (.cells #[.int .i64 0] 3) = w1 at A0 A1 G1 z1 ⊢
  have A2 := blk_alloc w1 #[.int .i64 0] 3
  have G2 := fr_alloc w1 (.cells #[.int .i64 0] 3)
  have z2 : (w1.alloc (.cells #[.int .i64 0] 3)).heap.size = w.heap.size + 1 + 1 + 1 := by simp [z1]
  rw [z1] at A2
  replace A0 := A0.fr G2 fun h => h
  replace A1 := A1.fr G2 fun h => h
  replace G2 := G1.tr G2
  generalize w1.alloc (.cells #[.int .i64 0] 3) = w2 at A0 A1 A2 G2 z2 ⊢
  have A3 := blk_alloc w2 #[.bool false] 4
  have G3 := fr_alloc w2 (.cells #[.bool false] 4)
  rw [z2] at A3
  replace A0 := A0.fr G3 fun h => h
  replace A1 := A1.fr G3 fun h => h
  replace A2 := A2.fr G3 fun h => h
  replace G3 := G2.tr G3
  generalize w2.alloc (.cells #[.bool false] 4) = w3 at A0 A1 A2 A3 G3 ⊢
  clear G0 G1 G2 z0 z1 z2 w0 w1 w2
  refine wp_mono (den_ok (n := 11) (D := [{ target := .fn (.func 87) #[.pointer (some ⟨w.heap.size + 1, 0, none⟩), .pointer (some ⟨w.heap.size + 1 + 1, 0, none⟩), .pointer (some ⟨w.heap.size + 1 + 1 + 1, 0, none⟩)], args := #[] }])
    (R := fun e w' => Fr noB w w' ∧ ((size s ≤ 400 ∧ e = .returned (.tuple #[]) ∧ Blk w' (w.heap.size + 1) 3 [.int .i64 (size s : Int)] ∧ Blk w' (w.heap.size + 1 + 1) 3 [.int .i64 (deep s : Int)] ∧ Blk w' (w.heap.size + 1 + 1 + 1) 4 [.bool true]) ∨
      (400 < size s ∧ e = .panicked fullC ∧ ∃ (x y : Int) (z : Bool), Blk w' (w.heap.size + 1) 3 [.int .i64 x] ∧ Blk w' (w.heap.size + 1 + 1) 3 [.int .i64 y] ∧ Blk w' (w.heap.size + 1 + 1 + 1) 4 [.bool z]))) mixed _ .leaf [2, 3, 4] (countEnv w.heap.size) catchK _ _ ?_ ?_) ?_
  · rw [countE]
    refine A0.ldV (callPan_ok (swalk_ok (size s) s (Nat.le_refl _) (c := 0) (lv := 1) hv G3 (by omega) A1 (by omega) (by omega)) ?_)
    rintro e w4 ⟨F4, ⟨hle, rfl, B1⟩ | ⟨hgt, rfl, x, B1⟩⟩
    · refine .inl ⟨((_, ()), ()), rfl, ?_⟩
      have B2 := A2.fr F4 (by unfold oneB; omega)
      have B3 := A3.fr F4 (by unfold oneB; omega)
      have K4 : Fr noB w w4 := G3.then F4 fun x hx h => by unfold oneB at h; omega
      refine B2.st rfl (by simp) fun w5 C2 F5 => drew_ok fun w6 F6 z6 => ?_
      have C1 := (B1.fr F5 (by unfold oneB; omega)).fr F6 fun h => h
      have C3 := (B3.fr F5 (by unfold oneB; omega)).fr F6 fun h => h
      replace C2 := C2.fr F6 fun h => h
      refine C1.ld (c := .int .i64) (o := 0) rfl (C2.ld (c := .int .i64) (o := 0) rfl (C1.st rfl (by simp) fun w7 E1 F7 => ?_))
      have E2 := C2.fr F7 (by unfold oneB; omega)
      have E3 := C3.fr F7 (by unfold oneB; omega)
      refine keep_cons (E2.held1 rfl) (keep_nil (E2.st rfl (by simp) fun w8 H2 F8 => ?_))
      have H1 := E1.fr F8 (by unfold oneB; omega)
      have H3 := E3.fr F8 (by unfold oneB; omega)
      refine H3.st rfl (by simp) fun w9 J3 F9 => ?_
      have J1 := H1.fr F9 (by unfold oneB; omega)
      have J2 := H2.fr F9 (by unfold oneB; omega)
      have K9 : Fr noB w w9 := ((((K4.then F5 fun x hx h => by unfold oneB at h; omega).tr F6).then F7 fun x hx h => by unfold oneB at h; omega).then F8 fun x hx h => by unfold oneB at h; omega).then F9 fun x hx h => by unfold oneB at h; omega
      have e1 : 1 + deep s - 1 = deep s := by omega
      rw [e1] at J2
      rw [Nat.zero_add] at J1
      exact ⟨K9, .inl ⟨by omega, rfl, J1, J2, J3⟩⟩
    · refine .inr ⟨_, rfl, G3.then F4 (fun x hx h => by unfold oneB at h; omega), .inr ⟨by omega, rfl, x, 0, false, B1, A2.fr F4 (by unfold oneB; omega), A3.fr F4 (by unfold oneB; omega)⟩⟩
  · refine ⟨by simp, rfl, fun t e h => ?_⟩
    rcases countGet h with ⟨rfl, rfl⟩ | ⟨rfl, rfl⟩ | ⟨rfl, rfl⟩ | ⟨rfl, rfl⟩ <;> simp [EV.val]
  · have hK : ∀ a' : Act, Kept [2, 3, 4] { tmps := #[shArg k o n ns ps, .pointer (some ⟨w.heap.size, 0, none⟩), .pointer (some ⟨w.heap.size + 1, 0, none⟩), .pointer (some ⟨w.heap.size + 1 + 1, 0, none⟩), .pointer (some ⟨w.heap.size + 1 + 1 + 1, 0, none⟩), .func (.func 87) #[] #[.pointer (some ⟨w.heap.size + 1, 0, none⟩), .pointer (some ⟨w.heap.size + 1 + 1, 0, none⟩), .pointer (some ⟨w.heap.size + 1 + 1 + 1, 0, none⟩)], undef, undef, undef, undef, undef], defers := [{ target := .fn (.func 87) #[.pointer (some ⟨w.heap.size + 1, 0, none⟩), .pointer (some ⟨w.heap.size + 1 + 1, 0, none⟩), .pointer (some ⟨w.heap.size + 1 + 1 + 1, 0, none⟩)], args := #[] }] } a' →
        a'.tmps.getD 2 undef = .pointer (some ⟨w.heap.size + 1, 0, none⟩) ∧ a'.tmps.getD 3 undef = .pointer (some ⟨w.heap.size + 1 + 1, 0, none⟩) ∧ a'.tmps.getD 4 undef = .pointer (some ⟨w.heap.size + 1 + 1 + 1, 0, none⟩) := fun a' h => ⟨h 2 rfl, h 3 rfl, h 4 rfl⟩
    have fin : ∀ (a' : Act) (w' : World), a'.defers = [{ target := .fn (.func 87) #[.pointer (some ⟨w.heap.size + 1, 0, none⟩), .pointer (some ⟨w.heap.size + 1 + 1, 0, none⟩), .pointer (some ⟨w.heap.size + 1 + 1 + 1, 0, none⟩)], args := #[] }] →
        (a'.tmps.getD 2 undef = .pointer (some ⟨w.heap.size + 1, 0, none⟩) ∧ a'.tmps.getD 3 undef = .pointer (some ⟨w.heap.size + 1 + 1, 0, none⟩) ∧ a'.tmps.getD 4 undef = .pointer (some ⟨w.heap.size + 1 + 1 + 1, 0, none⟩)) →
        Fr noB w w' → size s ≤ 400 → Blk w' (w.heap.size + 1) 3 [.int .i64 (size s : Int)] → Blk w' (w.heap.size + 1 + 1) 3 [.int .i64 (deep s : Int)] → Blk w' (w.heap.size + 1 + 1 + 1) 4 [.bool true] →
        Leaves Tryz.prog Tryz.f60 a'.tmps (fun e w' => e = .returned (.tuple #[.int .i64 (if 400 < size s then 401 else (size s : Int)), .int .i64 (if 400 < size s then 0 else (deep s : Int)), .bool (decide (size s ≤ 400))]) ∧ Fr noB w w') a'.defers .returning w' := by
      intro a' w' hd ⟨t2, t3, t4⟩ F hle B1 B2 B3
      rw [hd]
      refine leaves_cons (f := 87) (args := #[.pointer (some ⟨w.heap.size + 1, 0, none⟩), .pointer (some ⟨w.heap.size + 1 + 1, 0, none⟩), .pointer (some ⟨w.heap.size + 1 + 1 + 1, 0, none⟩)]) (by simp) (by simp [go_sem]) ?_
      refine catch_none.mono ?_
      rintro e u' w'' ⟨rfl, rfl, rfl⟩
      refine ⟨_, countRes t2 t3 t4 B1 B2 B3, ?_, F⟩
      rw [if_neg (by omega), if_neg (by omega), decide_eq_true hle]
    rintro e a' w' q
    cases e with
    | normal =>
      obtain ⟨env', h1, h2, h3⟩ := q
      obtain ⟨F, ⟨hle, _, B1, B2, B3⟩ | ⟨_, h4, _⟩⟩ := h3
      · exact fin a' w' h1.defers (hK _ h2) F hle B1 B2 B3
      · cases h4
    | ret =>
      obtain ⟨env', h1, h2, h3⟩ := q
      obtain ⟨F, ⟨hle, _, B1, B2, B3⟩ | ⟨_, h4, _⟩⟩ := h3
      · exact fin a' w' h1.defers (hK _ h2) F hle B1 B2 B3
      · cases h4
    | panic c =>
      obtain ⟨hd, hk, F, ⟨_, h4, _⟩ | ⟨hgt, h4, x, y, z, B1, B2, B3⟩⟩ := q
      · cases h4
      cases h4
      obtain ⟨t2, t3, t4⟩ := hK _ hk
      show Leaves _ _ _ _ a'.defers _ _
      rw [hd]
      refine leaves_cons (f := 87) (args := #[.pointer (some ⟨w.heap.size + 1, 0, none⟩), .pointer (some ⟨w.heap.size + 1 + 1, 0, none⟩), .pointer (some ⟨w.heap.size + 1 + 1 + 1, 0, none⟩)]) (by simp) (by simp [go_sem]) ?_
      refine (catch_full B1 B2 B3 (by omega) (by omega) (by omega)).mono ?_
      rintro e u' w'' ⟨rfl, ⟨v, rfl⟩, C1, C2, C3, F2⟩
      refine ⟨_, countRes t2 t3 t4 C1 C2 C3, ?_, F.then F2 fun x hx h => ?_⟩
      · rw [if_pos hgt, if_pos hgt, decide_eq_false (by omega)]
      · show False
        omega
    | exit id => obtain ⟨_, _, _, h3⟩ := q; exact h3.elim
    | _ => exact q.elim
theorem scountC : CountC := fun hv => scount_ok hv
end Go.Proofs.YticokfpaoiekgaaGreatDoor
end
section
namespace Go.Lift
open Go.Sort
section
variable {α : Type} [Inhabited α]
theorem blk_sorted {enc : α → Value} {w : World} {b : Nat} {T : TypeId} {d d' : Array α} (B : Blk w b T (d.toList.map enc)) (hs : d'.size = d.size) (n : Nat) (os : Array Obj) :
    Blk (Go.Proofs.sortWorld enc w b 0 n d' os) b T (d'.toList.map enc) ∧ Fr (oneB b) w (Go.Proofs.sortWorld enc w b 0 n d' os) := by
  have hl := B.lt
  have hh : ∀ k : Nat, (Go.Proofs.sortWorld enc w b 0 n d' os).heap[k]? = ((w.heap.modify b (onCells (putCells enc 0 d'))) ++ os)[k]? := fun k => rfl
  constructor
  · unfold Blk at B ⊢
    rw [hh, Array.getElem?_append_left (by rw [Array.size_modify]; exact hl), Array.getElem?_modify, if_pos rfl, B]
    simp only [Option.map_some, onCells, Option.some.injEq]
    congr 1
    apply Array.ext
    · simp [putCells, hs]
    · intro i h1 h2
      simp only [putCells, Array.getElem_mapIdx, Nat.zero_add, Nat.zero_le, true_and, Nat.sub_zero]
      have : i < d'.size := by simpa using h2
      rw [if_pos this]
      simp [this]
  · refine ⟨rfl, rfl, ?_, fun k hk hn => ?_⟩
    · show w.heap.size ≤ ((w.heap.modify b (onCells (putCells enc 0 d'))) ++ os).size
      rw [Array.size_append, Array.size_modify]
      omega
    · rw [hh, Array.getElem?_append_left (by rw [Array.size_modify]; exact hk), Array.getElem?_modify, if_neg (fun e => hn e.symm)]
theorem holds_blk {enc : α → Value} {w : World} {b : Nat} {T : TypeId} {d : Array α} (B : Blk w b T (d.toList.map enc)) : Holds enc w b 0 d := fun j hj => by
  rw [Nat.zero_add]
  refine ⟨B.cell ?_, B.frozen j⟩
  rw [List.getElem?_map, Array.getElem?_toList, Array.getElem?_eq_getElem hj]
  simp [hj]
end
end Go.Lift
namespace Go.Proofs.YticokfpaoiekgaaGreatDoor
open Go.Lift Go.Lex Go.Shp Go.Sort
theorem sortCl_ok {w : World} {m5 : Nat} {T : TypeId} {k : Int} {o n : ByteArray} {ns ps : Sl} {names : List B} {i j : Nat} {x y : B} (B5 : Blk w m5 T (shCells k o n ns ps)) (hns : RdS w ns (names.map bs)) (hi : names[i]? = some x) (hj : names[j]? = some y) :
    Calls Tryz.prog 70 #[.int .i64 (i : Int), .int .i64 (j : Int), .pointer (some ⟨m5, 0, none⟩)] w fun e w' => e = .returned (.int .i64 (Lib.compareBytes x y)) ∧ w' = w.drew := by
  apply c70
  unfold t70
  have F := fr_drew w
  have B6 := B5.fr F fun h => h
  have f1 : Held w.drew (⟨m5, 3, none⟩, [.slice ns.a ns.n ns.c]) := B6.held1 rfl
  change ldG _ _ _ _ w.drew
  refine B6.ldS (o := 3) rfl (str_ld (hns.fr F) hi (B6.ldS (o := 3) rfl (str_ld (hns.fr F) hj ?_)))
  refine call_ok (Tryz.strings_Compare (bs x) (bs y) w.drew) ?_
  rintro e w' ⟨rfl, rfl⟩
  refine ⟨((_, ()), ()), rfl, keep_cons f1 (keep_cons f1 (keep_nil ⟨?_, rfl⟩))⟩
  rw [show (bs x).data.toList = bl (bs x) from rfl, show (bs y).data.toList = bl (bs y) from rfl, bl_bs, bl_bs]
def cfN (names : List B) (i j : Fin names.length) : Int := Lib.compareBytes names[i.1] names[j.1]
theorem ltN {names : List B} (i j : Fin names.length) : ltOf (cfN names) i j = ltB names[i.1] names[j.1] := rfl
theorem swoN (names : List B) : SWO (ltOf (cfN names)) where
  irrefl x := by rw [ltN]; exact ltB_irr _
  trans x y z h1 h2 := by rw [ltN] at *; exact ltB_trans h1 h2
  ntrans x y z h1 h2 := by
    rw [ltN] at *
    rw [Bool.eq_false_iff]
    intro h
    by_cases e : names[x.1] = names[y.1]
    · rw [e, h2] at h
      cases h
    · have h3 := ltB_tri e h1
      have h4 := ltB_trans h3 h
      rw [h2] at h4
      cases h4
theorem sortIdx_ok {w0 w : World} {m5 b : Nat} {T U : TypeId} {k : Int} {o n : ByteArray} {ns ps : Sl} {names : List B} (hpos : 0 < names.length) (hle : names.length ≤ 1000) (B5 : Blk w m5 T (shCells k o n ns ps)) (hns : RdS w0 ns (names.map bs)) (F0 : Fr noB w0 w) (hb : w0.heap.size ≤ b) (h5 : m5 ≠ b)
    (Bx : Blk w b U ((List.range names.length).map fun i : Nat => Value.int .i64 (i : Int))) :
    Calls Tryz.prog 69 #[.slice (some ⟨b, 0, none⟩) names.length names.length, .func (.func 70) #[] #[.pointer (some ⟨m5, 0, none⟩)]] w fun e w' => e = .returned (.tuple #[]) ∧ ∃ ix : List Nat, ix.Perm (List.range names.length) ∧
      (ix.Pairwise fun i j => ∀ x y, names[i]? = some x → names[j]? = some y → ltB y x = false) ∧ Blk w' b U (ix.map fun i : Nat => Value.int .i64 (i : Int)) ∧ Fr (oneB b) w w' := by
  letI : Inhabited (Fin names.length) := ⟨⟨0, hpos⟩⟩
  have hd : (Array.finRange names.length).toList.map (fun i : Fin names.length => Value.int .i64 ((i.1 : Nat) : Int)) = (List.range names.length).map fun i : Nat => Value.int .i64 (i : Int) := by
    apply List.ext_getElem
    · simp
    · intro i h1 h2
      simp
  have Bx' : Blk w b U ((Array.finRange names.length).toList.map fun i : Fin names.length => Value.int .i64 ((i.1 : Nat) : Int)) := by rw [hd]; exact Bx
  have hsz : (Array.finRange names.length).size = names.length := by simp
  have hcon := Tryz.slices_SortFunc (fun i : Fin names.length => Value.int .i64 ((i.1 : Nat) : Int)) (fun _ => rfl) (cfN names) (swoN names) 70 #[.pointer (some ⟨m5, 0, none⟩)] b 0 names.length (Array.finRange names.length) w
    (enters_of Tryz.func70 (by kernel_rfl) rfl) (fun m os dk hdk x y => ?_) (holds_blk Bx') Bx.lt (by omega)
  · rw [hsz] at hcon
    refine hcon.mono ?_
    rintro e w' ⟨rfl, d', q, os, hp, hs, rfl⟩
    have hsz' : d'.size = (Array.finRange names.length).size := hp.1
    obtain ⟨g1, g2⟩ := blk_sorted Bx' hsz' q os
    refine ⟨rfl, d'.toList.map (·.1), ?_, ?_, ?_, g2⟩
    · have := hp.2.2
      rw [Array.extract_eq_self_of_le (by omega), Array.extract_eq_self_of_le (by omega)] at this
      have h2 := this.map (fun i : Fin names.length => i.1)
      refine h2.trans (List.Perm.of_eq ?_)
      apply List.ext_getElem
      · simp
      · intro i h1 h2
        simp
    · rw [List.pairwise_map, List.pairwise_iff_getElem]
      intro i j hi hj hij x y hx hy
      have := hs i j (Nat.zero_le _) hij (by simp at hj; omega)
      rw [ltN] at this
      have e1 : d'[i]! = d'.toList[i] := by simp at hi; simp [hi]
      have e2 : d'[j]! = d'.toList[j] := by simp at hj; simp [hj]
      rw [e1, e2] at this
      rw [List.getElem?_eq_getElem (d'.toList[i]).2, Option.some.injEq] at hx
      rw [List.getElem?_eq_getElem (d'.toList[j]).2, Option.some.injEq] at hy
      rw [← hx, ← hy]
      exact this
    · rw [List.map_map]
      exact g1
  · obtain ⟨_, g2⟩ := blk_sorted Bx' (d' := dk) hdk m os
    have F1 : Fr noB w0 (Go.Proofs.sortWorld (fun i : Fin names.length => Value.int .i64 ((i.1 : Nat) : Int)) w b 0 m dk os) := F0.then g2 fun z hz h => by unfold oneB at h; omega
    have := sortCl_ok (B5.fr g2 (by unfold oneB; exact h5)) (hns.fr F1) (List.getElem?_eq_getElem x.2) (List.getElem?_eq_getElem y.2)
    refine this.mono ?_
    rintro e w' ⟨rfl, rfl⟩
    exact ⟨rfl, 1, #[], by rw [grow_empty]; rfl⟩
end Go.Proofs.YticokfpaoiekgaaGreatDoor
end
