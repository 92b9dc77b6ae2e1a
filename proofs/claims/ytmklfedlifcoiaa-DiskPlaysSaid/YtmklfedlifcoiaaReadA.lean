/- disk.Read's range over slices.Backward: the iterator. -/
import Derived.Test.YtmklfedlifcoiaaDiskE
import Derived.RangeFuncKeeps
import Derived.RangeFuncBox
import Derived.RangeFuncLeaves
import Derived.Shelf.Abstract
import Derived.WalkKit
import Derived.OwnWalkIn
import Derived.TacticsInMore
import Derived.LoopNIn
import Derived.LoopIn
namespace Go.Proofs.Ytmklfedlifcoiaa
open Go.Lift Go.RowKit Go.Shelf
attribute [local go_sem] Oper.semAt_some

theorem f42_in' {n : Nat} (a : Option Addr) (len cap : Nat) (w : World) :
    CallsIn Fence.wide n Try.prog 42 #[.slice a len cap] w fun e w' => e = .returned (.func (.func 45) #[] #[.pointer (some ⟨w.heap.size, 0, none⟩)]) ∧ w' = w.alloc (.cells #[.slice a len cap] 59) := by
  refine callsIn_of_wp Try.func42 rfl trivial ?_ rfl
  simp only [Try.ntmps42, List.size_toArray, List.length_cons, List.length_nil, Nat.reduceAdd, Nat.reduceSub, Array.replicate_succ, Array.replicate_zero, List.push_toArray, List.append_toArray, List.nil_append, List.cons_append]
  gi_wp2
  go_ret
  exact ⟨rfl, rfl⟩

/-- a load of an aggregate, by its run -/
theorem wpListIn_loadT {F : Fence} {n : Nat} {P : Program} {ops : Array Oper} {Q : Exit → Act → World → Prop} {rest : List Oper} {a : Act} {w : World} {d : Option Tmp} {pos : String} {after : Array Edge} {t ty : TypeId} {x : Operand}
    (ad : Addr) (cs : Array Value) (hx : a.eval x = .pointer (some ad)) (hrun : (loadVar t ad).run P w = .ok (.agg cs) w) (h : wpListIn F n P ops Q rest (a.put d (.agg cs)) w) :
    wpListIn F n P ops Q ({ dst := d, op := .load t x, type := ty, pos := pos, after := after, guard := none } :: rest) a w := by
  refine wpListIn_plain rfl fun K hK => ?_
  unfold Oper.wpIn
  refine ⟨by simp [Oper.about], ?_⟩
  rw [Oper.semAt_plain F _ _ (by intro c hc; cases hc)]
  simp [execOp, hx, Instr.loadAt, Instr.sureAddr, hrun, Result.andThen]
  exact hK _ _ h
theorem ok74 {w : World} {a : Addr} {cs : Array Value} (hs : cs.size = 65) (h : ∀ j v, cs[j]? = some v → w.cell? (a.add j) = some v) : (loadVar 74 a).run Try.prog w = .ok (.agg cs) w := by
  obtain ⟨i, hi, hs'⟩ := info74
  have hu : ∃ d, Try.prog.underlying 74 = some d ∧ aggD d = true := by
    have h : (Try.prog.underlying 74).map aggD = some true := by kernel_rfl
    cases hd : Try.prog.underlying 74 with
    | none => rw [hd] at h; cases h
    | some d => rw [hd] at h; exact ⟨d, rfl, by simpa using h⟩
  obtain ⟨d, hd, hd'⟩ := hu
  have := run_loadVar_agg hd hd' hi a cs.toList (by rw [hs']; simpa using hs) w (fun j v hj => h j v (by simpa using hj))
  simpa using this
def dn (len k : Nat) : List Nat := (List.range k).map fun j => len - 1 - j
theorem dn_succ (len k : Nat) : dn len (k + 1) = dn len k ++ [len - 1 - k] := by simp [dn, List.range_succ]
theorem dn_length (len k : Nat) : (dn len k).length = k := by simp [dn]

set_option maxRecDepth 100000 in
set_option maxHeartbeats 2000000 in
theorem f45_in (n : Nat) (l Bs n₀ b len cap : Nat) (rowOf : Nat → Array Value) (hsz : ∀ i, (rowOf i).size = 65) (hlen : len ≤ 9223372036854775807) (hb : b < n₀) (hBn : Bs < n₀) (J Jx : List Nat → World → Prop)
    (hY : ∀ pre (x : Nat) W, J pre W → pre.length < len → YieldAt Fence.wide (n - 1) Try.prog l #[.int .i64 (x : Int), .agg (rowOf x)] W fun e W' =>
      (e = .returned (.bool true) ∧ J (pre ++ [x]) W' ∧ Below n₀ W W') ∨ (e = .returned (.bool false) ∧ Jx (pre ++ [x]) W'))
    (W : World) (hBs : W.cell? ⟨Bs, 0, none⟩ = some (.slice (some ⟨b, 0, none⟩) len cap)) (hc : ∀ i, i < len → ∀ j v, (rowOf i)[j]? = some v → W.cell? ⟨b, i * 65 + j, none⟩ = some v) (h0 : J [] W) :
    CallsIn Fence.wide n Try.prog 45 #[.func (.yield l) #[] #[], .pointer (some ⟨Bs, 0, none⟩)] W fun e W' => (∃ v, e = .returned v) ∧
      (J (dn len len) W' ∨ (∃ k, k ≤ len ∧ Jx (dn len k) W')) := by
  refine callsIn_of_wp Try.func45 rfl trivial ?_ rfl
  simp only [Try.ntmps45, List.size_toArray, List.length_cons, List.length_nil, Nat.reduceAdd, Nat.reduceSub, Array.replicate_succ, Array.replicate_zero, List.push_toArray, List.append_toArray, List.nil_append, List.cons_append]
  gi_wp2
  gi_loopw [3] (fun i wr => ∃ k : Nat, k ≤ len ∧ i = .int .i64 ((len : Int) - 1 - k) ∧ J (dn len k) wr ∧ Below n₀ W wr)
    (fun i _ => (intOf i + 1).toNat)
  case atStart => exact ⟨0, Nat.zero_le _, by simp, h0, Below.refl _ _⟩
  case round =>
    obtain ⟨k, hk, rfl, hJs, hnx⟩ := hrel
    have hBx := (hnx.cell (p := ⟨Bs, 0, none⟩) hBn).trans hBs
    by_cases hlt : k < len
    · obtain ⟨fn, tmps, assign, body, hy, hR⟩ := hY _ (len - 1 - k) wr hJs (by rw [dn_length]; exact hlt)
      have hrow := ok74 (a := ⟨b, (len - 1 - k) * 65, none⟩) (w := wr) (hsz (len - 1 - k)) (fun j v hj => by
        rw [Addr.add_lit]
        exact (hnx.cell (p := ⟨b, (len - 1 - k) * 65 + j, none⟩) hb).trans (hc _ (by omega) j v hj))
      have e1 : ((len : Int) - 1 - k) = ((len - 1 - k : Nat) : Int) := by omega
      have e2 : len - 1 - k < len := by omega
      rw [e1]
      gi_wp2_with (refine wpListIn_loadT (t := 74) ⟨b, (len - 1 - k) * 65, none⟩ (rowOf (len - 1 - k)) rfl hrow ?_)
      refine ⟨fun h => by simp [Fence.wide] at h, hR.mono ?_⟩
      rintro e W3 (⟨rfl, hJ3, hk3⟩ | ⟨rfl, hJx3⟩)
      · gi_wp2
        go_roundw
        case rel => exact ⟨k + 1, by omega, by first | (congr 1; omega) | simp <;> omega, by rw [dn_succ]; exact hJ3, hnx.trans hk3⟩
        case measure => simp [intOf] <;> omega
      · gi_wp2
        refine bodyPost_ret (results_none rfl _ _ _) rfl ?_
        exact ⟨⟨_, rfl⟩, .inr ⟨k + 1, by omega, by rw [dn_succ]; exact hJx3⟩⟩
    · obtain rfl : k = len := by omega
      gi_wp2
      go_end0
      exact ⟨⟨_, rfl⟩, .inl hJs⟩

/-- the iterator's contract -/
theorem f45_stops (n Bs n₀ b len cap : Nat) (rowOf : Nat → Array Value) (hsz : ∀ i, (rowOf i).size = 65) (hlen : len ≤ 9223372036854775807) (hb : b < n₀) (hBn : Bs < n₀) (w : World) (hn₀ : n₀ ≤ w.heap.size)
    (hBs : w.cell? ⟨Bs, 0, none⟩ = some (.slice (some ⟨b, 0, none⟩) len cap)) (hc : ∀ i, i < len → ∀ j v, (rowOf i)[j]? = some v → w.cell? ⟨b, i * 65 + j, none⟩ = some v) :
    SeqStopsK Fence.wide n Try.prog 45 #[.pointer (some ⟨Bs, 0, none⟩)] (fun x : Nat => #[.int .i64 (x : Int), .agg (rowOf x)]) (Below n₀) (fun ys => ys = dn len len) (fun pre => ∃ k, k ≤ len ∧ pre = dn len k) len w := fun l J Jx W hW _ _ hY h0 => by
  refine (f45_in n l Bs n₀ b len cap rowOf hsz hlen hb hBn J Jx hY W ((hW.cell (p := ⟨Bs, 0, none⟩) (by show Bs < _; omega)).trans hBs)
    (fun i hi j v hj => (hW.cell (p := ⟨b, i * 65 + j, none⟩) (by show b < _; omega)).trans (hc i hi j v hj)) h0).mono ?_
  rintro e W' ⟨he, h | ⟨k, hk, h⟩⟩
  · exact ⟨he, .inl ⟨_, rfl, h⟩⟩
  · exact ⟨he, .inr ⟨_, ⟨k, hk, rfl⟩, h⟩⟩
/-- .. at the nil slice: no round -/
theorem f45_nil (n l Bs : Nat) (J : List Nat → World → Prop) (W : World) (hBs : W.cell? ⟨Bs, 0, none⟩ = some (.slice none 0 0)) (h0 : J [] W) :
    CallsIn Fence.wide n Try.prog 45 #[.func (.yield l) #[] #[], .pointer (some ⟨Bs, 0, none⟩)] W fun e W' => (∃ v, e = .returned v) ∧ J [] W' := by
  refine callsIn_of_wp Try.func45 rfl trivial ?_ rfl
  simp only [Try.ntmps45, List.size_toArray, List.length_cons, List.length_nil, Nat.reduceAdd, Nat.reduceSub, Array.replicate_succ, Array.replicate_zero, List.push_toArray, List.append_toArray, List.nil_append, List.cons_append]
  gi_wp2
  gi_loopw [3] (fun i wr => i = .int .i64 (-1) ∧ J [] wr) (fun _ _ => 0)
  case atStart => exact ⟨by simp, h0⟩
  case round =>
    obtain ⟨rfl, hJs⟩ := hrel
    gi_wp2
    go_end0
    exact ⟨⟨_, rfl⟩, hJs⟩
end Go.Proofs.Ytmklfedlifcoiaa
