/- The document's code points: the walks. No condition. -/
import Derived.Test.YthnfcbjfmghomaaGreatDoorLexF
import Derived.Test.YthnfcbjfmghomaaGreatDoorRefP
namespace Go.Lift
section
variable {R : Ending → World → Prop} {w : World}
theorem joinP_ok {c d : CT} {x : (c.T → d.T → G) → G} {k : c.T → d.T → G} (M : c.T → d.T → World → Prop) (hx : ∀ kj : c.T → d.T → G, (∀ y z w', M y z w' → kj y z R w') → x kj R w) (hk : ∀ y z w', M y z w' → k y z R w') : joinG [.one c, .one d] x k R w := hx k hk
theorem callE_ok {P : Program} {f : FuncId} {args : Array Value} {n : Int} {Y : World → Prop} (hc : Calls P f args w fun e w' => ∃ p : Int, e = .returned (.tuple #[.int .i64 p, .int .i64 n]) ∧ Y w') {k : Int → Int → G} (h : ∀ p w', Y w' → k p n R w') : callG P f args [.one (.int .i64), .one (.int .i64)] k R w :=
  call_ok hc fun _ w' ⟨p, he, hy⟩ => ⟨((p, ()), ((n, ()), ())), he, h p w' hy⟩
theorem chrC_ok {s : ByteArray} {i : Nat} {c : UInt8} {k : Int → G} (hc : (bl s)[i]? = some c) (h : k (c.toNat : Int) R w) : chrG s (i : Int) k R w := by
  obtain ⟨hi, e⟩ := List.getElem?_eq_some_iff.1 hc
  refine chr_ok (by rw [bl_length] at hi; exact hi) ?_
  rw [e]
  exact h
theorem chr0_ok {s : ByteArray} {c : UInt8} {k : Int → G} (hc : (bl s)[0]? = some c) (h : k (c.toNat : Int) R w) : chrG s (0 : Int) k R w := chrC_ok (i := 0) hc h
theorem wrap8_ok {n : Int} (h1 : 0 ≤ n) (h2 : n < 256) : IntKind.wrap .u8 n = n := by
  unfold IntKind.wrap
  simp [IntKind.bits, IntKind.signed]
  omega
theorem tdiv_nat (p k : Nat) : Int.tdiv (p : Int) (k : Int) = ((p / k : Nat) : Int) := rfl
theorem tmod_nat (p k : Nat) : Int.tmod (p : Int) (k : Int) = ((p % k : Nat) : Int) := rfl
/-- a part of a text, by its bytes -/
theorem subB_ok {s : ByteArray} {i j : Nat} {k : ByteArray → G} (h1 : i ≤ j) (h2 : j ≤ s.size) (h : k (bs (((bl s).drop i).take (j - i))) R w) : subG s (i : Int) (j : Int) k R w := by
  refine sub_ok (s := s) (l := (i : Int)) (h' := (j : Int)) (by omega) (by omega) (by omega) ?_
  have e : s.extract (i : Int).toNat (j : Int).toNat = bs (((bl s).drop i).take (j - i)) := ba_ext (by rw [bl_extract, bl_bs]; simp)
  rw [e]
  exact h
theorem sub0_ok {s : ByteArray} {j : Nat} {k : ByteArray → G} (h2 : j ≤ s.size) (h : k (bs ((bl s).take j)) R w) : subG s (0 : Int) (j : Int) k R w := subB_ok (i := 0) (Nat.zero_le _) h2 (by rw [List.drop_zero, Nat.sub_zero]; exact h)
theorem subE_ok {s : ByteArray} {i : Nat} {k : ByteArray → G} (h2 : i ≤ s.size) (h : k (bs ((bl s).drop i)) R w) : subG s (i : Int) (s.size : Int) k R w := subB_ok (j := s.size) h2 (Nat.le_refl _) (by
  rw [List.take_of_length_le (by rw [List.length_drop, bl_length]; omega)]
  exact h)
end
theorem all_at {p : UInt8 → Bool} {l : List UInt8} (h : ∀ i x, i < l.length → l[i]? = some x → p x = true) : l.all p = true := by
  rw [List.all_eq_true]
  intro x hx
  obtain ⟨i, hi⟩ := List.mem_iff_getElem?.1 hx
  exact h i x (List.getElem?_eq_some_iff.1 hi).1 hi
theorem all_not {p : UInt8 → Bool} {l : List UInt8} {i : Nat} {x : UInt8} (h : l[i]? = some x) (hx : p x = false) : l.all p = false := by
  rw [List.all_eq_false]
  exact ⟨x, List.mem_of_getElem? h, by rw [hx]; decide⟩
end Go.Lift
namespace Go.Proofs.YthnfcbjfmghomaaGreatDoor
open Go.Lift Go.Lex
section
variable {w : World}
theorem point_ok (p : Int) : AnsB 78 #[.int .i64 p] w (point p) := by
  apply c78
  unfold t78
  refine join1_ok (c := .bool) (fun (b : Bool) w' => b = point p ∧ Fr noB w w') (fun k hk => ?_) (fun b w' h => done_b h)
  unfold point at hk
  refine ite_ok (fun h1 => ite_ok (fun h2 => ite_ok (fun h3 => hk _ _ ⟨?_, Fr.refl _ _⟩) fun h3 => hk _ _ ⟨?_, Fr.refl _ _⟩) fun h2 => hk _ _ ⟨?_, Fr.refl _ _⟩) fun h1 => hk _ _ ⟨?_, Fr.refl _ _⟩
  all_goals simp only [decide_eq_true_eq, decide_eq_false_iff_not] at *
  · exact (decide_eq_true (by omega)).symm
  · exact decide_eq_decide.2 (by omega)
  · exact (decide_eq_false (by omega)).symm
  · exact (decide_eq_false (by omega)).symm
/-- the bytes of a new block, as a text -/
theorem conv_ok {R : Ending → World → Prop} {m : Nat} {x : List UInt8} (B : Blk w m 5 (byteCells x)) {k : ByteArray → G} (hk : k (bs x) R w) :
    opG Tryz.prog (convert 80 9 (.slice (some ⟨m, 0, none⟩) x.length x.length)) (.one .str) k R w := by
  refine ⟨(bs x, ()), w, run_convert_bytes_back _ 80 9 5 ⟨m, 0, none⟩ x.length x uBytes uByte us (fun j hj => ?_), hk⟩
  rw [Addr.add_lit, Nat.zero_add]
  exact B.cell (by unfold byteCells; rw [List.getElem?_map, List.getElem?_eq_getElem hj]; rfl)
theorem cells_enc {p : Nat} (h : p ≤ 1114111) : byteCells (enc p) = (encN p).map fun x : Nat => Value.int .u8 (x : Int) := by
  unfold byteCells enc
  rw [List.map_map]
  exact List.map_congr_left fun x hx => by
    have := encN_lt h x hx
    show Value.int .u8 (((UInt8.ofNat x).toNat : Nat) : Int) = _
    rw [UInt8.toNat_ofNat', Nat.mod_eq_of_lt (by omega)]
theorem Bytes_ok (p : Nat) (hp : p ≤ 1114111) : Calls Tryz.prog 79 #[.int .i64 (p : Int)] w fun e w' => e = .returned (.string (bs (enc p))) ∧ Fr noB w w' := by
  apply c79
  unfold t79
  have hc := cells_enc hp
  have w64 : ∀ {n : Int}, 0 ≤ n → n < 1000000000 → IntKind.wrap .i64 n = n := fun h1 h2 => wrap_ok (by omega) (by omega)
  generalize hd1 : decide ((p : Int) < 128) = d1
  generalize hd2 : decide ((p : Int) < 2048) = d2
  generalize hd3 : decide ((p : Int) < 65536) = d3
  refine join_in (vs := []) (ite_ok (fun h1 => ?_) fun h1 => ?_)
  · have h1 : p < 128 := by have : (p : Int) < 128 := of_decide_eq_true (hd1.trans h1); omega
    have e : encN p = [p] := by unfold encN; rw [if_pos h1]
    rw [wrap8_ok (by omega) (by omega)]
    refine new_ok fun w1 m hm hs B F => ?_
    have hl : (enc p).length = 1 := by unfold enc; rw [List.length_map, e]; rfl
    rw [e] at hc
    have := conv_ok (w := w1) (m := m) (x := enc p) (by rw [hc]; exact B) (R := fun e w' => e = .returned (.string (bs (enc p))) ∧ Fr noB w w') (k := fun s => retG (.string s)) ⟨rfl, F⟩
    rw [hl] at this
    exact this
  refine ite_ok (fun h2 => ?_) fun h2 => ?_
  · have h1 : ¬ p < 128 := by have : ¬ (p : Int) < 128 := of_decide_eq_false (hd1.trans h1); omega
    have h2 : p < 2048 := by have : (p : Int) < 2048 := of_decide_eq_true (hd2.trans h2); omega
    have e : encN p = [192 + p / 64, 128 + p % 64] := by unfold encN; rw [if_neg h1, if_pos h2]
    rw [show Int.tdiv (p : Int) 64 = ((p / 64 : Nat) : Int) from tdiv_nat p 64, show Int.tmod (p : Int) 64 = ((p % 64 : Nat) : Int) from tmod_nat p 64]
    rw [w64 (n := ((p / 64 : Nat) : Int)) (by omega) (by omega), w64 (by omega) (by omega), w64 (by omega) (by omega), wrap8_ok (by omega) (by omega), wrap8_ok (by omega) (by omega)]
    refine new_ok fun w1 m hm hs B F => ?_
    have hl : (enc p).length = 2 := by unfold enc; rw [List.length_map, e]; rfl
    rw [e] at hc
    have := conv_ok (w := w1) (m := m) (x := enc p) (by rw [hc]; exact B) (R := fun e w' => e = .returned (.string (bs (enc p))) ∧ Fr noB w w') (k := fun s => retG (.string s)) ⟨rfl, F⟩
    rw [hl] at this
    exact this
  refine ite_ok (fun h3 => ?_) fun h3 => ?_
  · have h1 : ¬ p < 128 := by have : ¬ (p : Int) < 128 := of_decide_eq_false (hd1.trans h1); omega
    have h2 : ¬ p < 2048 := by have : ¬ (p : Int) < 2048 := of_decide_eq_false (hd2.trans h2); omega
    have h3 : p < 65536 := by have : (p : Int) < 65536 := of_decide_eq_true (hd3.trans h3); omega
    have e : encN p = [224 + p / 4096, 128 + p / 64 % 64, 128 + p % 64] := by unfold encN; rw [if_neg h1, if_neg h2, if_pos h3]
    rw [show Int.tdiv (p : Int) 64 = ((p / 64 : Nat) : Int) from tdiv_nat p 64, show Int.tdiv (p : Int) 4096 = ((p / 4096 : Nat) : Int) from tdiv_nat p 4096, show Int.tmod (p : Int) 64 = ((p % 64 : Nat) : Int) from tmod_nat p 64]
    rw [w64 (n := ((p / 4096 : Nat) : Int)) (by omega) (by omega), w64 (n := ((p / 64 : Nat) : Int)) (by omega) (by omega), show Int.tmod ((p / 64 : Nat) : Int) 64 = ((p / 64 % 64 : Nat) : Int) from tmod_nat (p / 64) 64]
    rw [w64 (by omega) (by omega), w64 (by omega) (by omega), w64 (by omega) (by omega), wrap8_ok (by omega) (by omega), wrap8_ok (by omega) (by omega), wrap8_ok (by omega) (by omega)]
    refine new_ok fun w1 m hm hs B F => ?_
    have hl : (enc p).length = 3 := by unfold enc; rw [List.length_map, e]; rfl
    rw [e] at hc
    have := conv_ok (w := w1) (m := m) (x := enc p) (by rw [hc]; exact B) (R := fun e w' => e = .returned (.string (bs (enc p))) ∧ Fr noB w w') (k := fun s => retG (.string s)) ⟨rfl, F⟩
    rw [hl] at this
    exact this
  · have h1 : ¬ p < 128 := by have : ¬ (p : Int) < 128 := of_decide_eq_false (hd1.trans h1); omega
    have h2 : ¬ p < 2048 := by have : ¬ (p : Int) < 2048 := of_decide_eq_false (hd2.trans h2); omega
    have h3 : ¬ p < 65536 := by have : ¬ (p : Int) < 65536 := of_decide_eq_false (hd3.trans h3); omega
    have e : encN p = [240 + p / 262144, 128 + p / 4096 % 64, 128 + p / 64 % 64, 128 + p % 64] := by unfold encN; rw [if_neg h1, if_neg h2, if_neg h3]
    rw [show Int.tdiv (p : Int) 64 = ((p / 64 : Nat) : Int) from tdiv_nat p 64, show Int.tdiv (p : Int) 4096 = ((p / 4096 : Nat) : Int) from tdiv_nat p 4096, show Int.tdiv (p : Int) 262144 = ((p / 262144 : Nat) : Int) from tdiv_nat p 262144, show Int.tmod (p : Int) 64 = ((p % 64 : Nat) : Int) from tmod_nat p 64]
    rw [w64 (n := ((p / 262144 : Nat) : Int)) (by omega) (by omega), w64 (n := ((p / 4096 : Nat) : Int)) (by omega) (by omega), w64 (n := ((p / 64 : Nat) : Int)) (by omega) (by omega), show Int.tmod ((p / 64 : Nat) : Int) 64 = ((p / 64 % 64 : Nat) : Int) from tmod_nat (p / 64) 64, show Int.tmod ((p / 4096 : Nat) : Int) 64 = ((p / 4096 % 64 : Nat) : Int) from tmod_nat (p / 4096) 64]
    rw [w64 (by omega) (by omega), w64 (by omega) (by omega), w64 (by omega) (by omega), w64 (by omega) (by omega), wrap8_ok (by omega) (by omega), wrap8_ok (by omega) (by omega), wrap8_ok (by omega) (by omega), wrap8_ok (by omega) (by omega)]
    refine new_ok fun w1 m hm hs B F => ?_
    have hl : (enc p).length = 4 := by unfold enc; rw [List.length_map, e]; rfl
    rw [e] at hc
    have := conv_ok (w := w1) (m := m) (x := enc p) (by rw [hc]; exact B) (R := fun e w' => e = .returned (.string (bs (enc p))) ∧ Fr noB w w') (k := fun s => retG (.string s)) ⟨rfl, F⟩
    rw [hl] at this
    exact this
theorem leadN_le (b : Nat) : 1 ≤ leadN b ∧ leadN b ≤ 4 := by
  unfold leadN
  repeat' split
  all_goals omega
theorem leadP_le {b : Nat} (h : b < 256) : 0 ≤ leadP b ∧ leadP b < 256 := by
  unfold leadP
  repeat' split
  all_goals omega
/-- how great a number of k bytes is -/
def bigP : Nat → Int
  | 0 => 256
  | 1 => 20000
  | 2 => 2000000
  | _ => 200000000
set_option maxHeartbeats 1000000 in
theorem First_ok (s : ByteArray) : Calls Tryz.prog 53 #[.string s] w fun e w' => ∃ p : Int, e = .returned (.tuple #[.int .i64 p, .int .i64 ((utfLen (bl s) : Nat) : Int)]) ∧ Fr noB w w' := by
  have hsl := bl_length s
  apply c53
  unfold t53
  rw [eq_bl, bl_empty]
  cases hb : bl s with
  | nil => exact ite_yes rfl ⟨0, rfl, Fr.refl _ _⟩
  | cons c r =>
    have hc := c.toNat_lt
    have h0 : (bl s)[0]? = some c := by rw [hb]; rfl
    have hlen : s.size = r.length + 1 := by rw [← hsl, hb]; rfl
    rw [← refLen_eq]
    refine ite_no rfl (drew_ok fun w1 F1 z1 => chr0_ok h0 ?_)
    have wc : IntKind.wrap .i64 (c.toNat : Int) = (c.toNat : Int) := wrap_ok (by omega) (by omega)
    refine joinP_ok (c := .int .i64) (d := .int .i64) (fun (n p : Int) w' => n = (leadN c.toNat : Int) ∧ p = leadP c.toNat ∧ w' = w1) (fun kj hkj => ?_) ?_
    · refine chr0_ok h0 (join_in ?_)
      refine ite_ok (fun h1 => chr0_ok h0 (hkj _ _ _ ⟨?_, ?_, rfl⟩)) fun h1 => chr0_ok h0 (join_in ?_)
      · have h1 : (c.toNat : Int) ≥ 240 := of_decide_eq_true h1
        unfold leadN; rw [if_pos (by omega)]; rfl
      · have h1 : (c.toNat : Int) ≥ 240 := of_decide_eq_true h1
        rw [wc, wrap_ok (by omega) (by omega)]
        unfold leadP; rw [if_pos (by omega)]
      have h1 : ¬ (c.toNat : Int) ≥ 240 := of_decide_eq_false h1
      refine ite_ok (fun h2 => chr0_ok h0 (hkj _ _ _ ⟨?_, ?_, rfl⟩)) fun h2 => chr0_ok h0 (join_in ?_)
      · have h2 : (c.toNat : Int) ≥ 224 := of_decide_eq_true h2
        unfold leadN; rw [if_neg (by omega), if_pos (by omega)]; rfl
      · have h2 : (c.toNat : Int) ≥ 224 := of_decide_eq_true h2
        rw [wc, wrap_ok (by omega) (by omega)]
        unfold leadP; rw [if_neg (by omega), if_pos (by omega)]
      have h2 : ¬ (c.toNat : Int) ≥ 224 := of_decide_eq_false h2
      refine ite_ok (fun h3 => chr0_ok h0 (hkj _ _ _ ⟨?_, ?_, rfl⟩)) fun h3 => hkj _ _ _ ⟨?_, ?_, rfl⟩
      · have h3 : (c.toNat : Int) ≥ 192 := of_decide_eq_true h3
        unfold leadN; rw [if_neg (by omega), if_neg (by omega), if_pos (by omega)]; rfl
      · have h3 : (c.toNat : Int) ≥ 192 := of_decide_eq_true h3
        rw [wc, wrap_ok (by omega) (by omega)]
        unfold leadP; rw [if_neg (by omega), if_neg (by omega), if_pos (by omega)]
      · have h3 : ¬ (c.toNat : Int) ≥ 192 := of_decide_eq_false h3
        unfold leadN; rw [if_neg (by omega), if_neg (by omega), if_neg (by omega)]; rfl
      · have h3 : ¬ (c.toNat : Int) ≥ 192 := of_decide_eq_false h3
        rw [wc]
        unfold leadP; rw [if_neg (by omega), if_neg (by omega), if_neg (by omega)]
    rintro n p w2 ⟨rfl, rfl, rfl⟩
    have hn := leadN_le c.toNat
    have hp := leadP_le hc
    unfold refLen
    refine ite_ok (fun h => ?_) fun h => ?_
    · have h : (s.size : Int) < (leadN c.toNat : Int) := of_decide_eq_true h
      simp only []
      rw [if_pos (by simp only [List.length_cons]; omega)]
      exact ⟨0, rfl, F1⟩
    have h : ¬ (s.size : Int) < (leadN c.toNat : Int) := of_decide_eq_false h
    simp only []
    rw [if_neg (by simp only [List.length_cons]; omega)]
    refine join1_ok (c := .int .i64) (fun (p : Int) w' => p = refP (c :: r) ∧ Fr noB w w') (fun k20 hk20 => ?_) ?_
    · refine loop_ok (vs := [.one (.int .i64), .one (.int .i64)]) (fun xs w' => ∃ i : Nat, i < leadN c.toNat ∧ (show Int from xs.2.1.1) = ((i + 1 : Nat) : Int) ∧ (show Int from xs.1.1) = (r.take i).foldl Lex.step (leadP c.toNat) ∧ -bigP i ≤ (show Int from xs.1.1) ∧ (show Int from xs.1.1) ≤ bigP i ∧ Fr noB w w')
        (fun xs => leadN c.toNat - (show Int from xs.2.1.1).toNat) ?_ (xs := ((leadP c.toNat, ()), (((1 : Int), ()), ()))) ⟨0, by omega, rfl, rfl, by show -(256 : Int) ≤ leadP c.toNat; omega, by show leadP c.toNat ≤ (256 : Int); omega, F1⟩
      rintro rec ⟨⟨p, ⟨⟩⟩, ⟨⟨n, ⟨⟩⟩, ⟨⟩⟩⟩ w3 ⟨i, hi, hin, hip, hb1, hb2, F3⟩ hrec
      change Int at p
      change Int at n
      change n = _ at hin
      change p = _ at hip
      change -bigP i ≤ p at hb1
      change p ≤ bigP i at hb2
      subst hin
      refine ite_ok (fun hlt => ?_) fun hge => hk20 _ _ ⟨?_, F3⟩
      · have hlt : ((i + 1 : Nat) : Int) < (leadN c.toNat : Int) := of_decide_eq_true hlt
        obtain ⟨b, hbb⟩ : ∃ b, r[i]? = some b := ⟨_, List.getElem?_eq_getElem (by omega)⟩
        have hbl := b.toNat_lt
        have hs1 : (bl s)[i + 1]? = some b := by rw [hb]; simpa using hbb
        refine join_in (vs := [.one (.int .i64)]) (chrC_ok hs1 ?_)
        have hstep : Lex.step p b = p * 64 + (b.toNat : Int) - 128 := rfl
        have hB : i = 0 ∨ i = 1 ∨ i = 2 := by omega
        have hnew : -bigP (i + 1) ≤ Lex.step p b ∧ Lex.step p b ≤ bigP (i + 1) ∧ -9000000000000 ≤ p * 64 ∧ p * 64 ≤ 9000000000000 := by
          rw [hstep]
          rcases hB with rfl | rfl | rfl <;> simp only [bigP] at * <;> omega
        have ew : IntKind.wrap .i64 (IntKind.wrap .i64 (IntKind.wrap .i64 (p * 64) + IntKind.wrap .i64 (b.toNat : Int)) - 128) = Lex.step p b := by
          rw [wrap_ok (n := p * 64) (by omega) (by omega), wrap_ok (n := (b.toNat : Int)) (by omega) (by omega), wrap_ok (n := p * 64 + (b.toNat : Int)) (by omega) (by omega), wrap_ok (by omega) (by omega), hstep]
        have ei : IntKind.wrap .i64 (((i + 1 : Nat) : Int) + 1) = ((i + 1 + 1 : Nat) : Int) := by rw [wrap_ok (by omega) (by omega)]; omega
        show uncV rec ((_, ()), ((IntKind.wrap .i64 (((i + 1 : Nat) : Int) + 1), ()), ())) _ w3
        rw [ew, ei]
        refine hrec _ _ ⟨i + 1, by omega, rfl, ?_, hnew.1, hnew.2.1, F3⟩ (by show leadN c.toNat - ((i + 1 + 1 : Nat) : Int).toNat < leadN c.toNat - ((i + 1 : Nat) : Int).toNat; simp only [Int.toNat_natCast]; omega)
        show Lex.step p b = _
        rw [List.take_add_one, hbb, List.foldl_append, hip]
        rfl
      · have hge : ¬ ((i + 1 : Nat) : Int) < (leadN c.toNat : Int) := of_decide_eq_false hge
        have e : leadN c.toNat - 1 = i := by omega
        rw [hip]
        unfold refP
        simp only []
        rw [e]
    rintro p w2 ⟨rfl, F2⟩
    generalize refP (c :: r) = p
    refine join1_ok (c := .bool) (fun (b : Bool) w' => b = (!(point p && (enc p.toNat == (c :: r).take (leadN c.toNat)))) ∧ Fr noB w w') (fun k28 hk28 => ?_) ?_
    · refine drew_ok fun w3 F3 z3 => callB_ok (point_ok p) fun w4 F4 => ?_
      have F24 := (F2.tr F3).tr F4
      by_cases hpt : point p = true
      · refine ite_no (by rw [hpt]; rfl) (sub0_ok (j := leadN c.toNat) (by omega) ?_)
        have hpp := of_decide_eq_true hpt
        obtain ⟨q, rfl⟩ : ∃ q : Nat, p = (q : Int) := ⟨p.toNat, by omega⟩
        refine callS_ok (Bytes_ok q (by omega)) fun w5 F5 => hk28 _ _ ⟨?_, F24.tr F5⟩
        rw [eq_bl, bl_bs, bl_bs, hpt, hb, Int.toNat_natCast]
        rfl
      · have hpt : point p = false := by simpa using hpt
        exact ite_yes (by rw [hpt]; rfl) (hk28 _ _ ⟨by rw [hpt, Bool.false_and]; rfl, F24⟩)
    rintro b w3 ⟨hb3, F3⟩
    cases hcond : (point p && (enc p.toNat == (c :: r).take (leadN c.toNat))) with
    | false =>
      rw [hcond] at hb3
      subst hb3
      exact ite_yes rfl ⟨0, by rw [if_neg (by decide)]; rfl, F3⟩
    | true =>
      rw [hcond] at hb3
      subst hb3
      exact ite_no rfl ⟨p, by rw [if_pos rfl], F3⟩
end
end Go.Proofs.YthnfcbjfmghomaaGreatDoor
