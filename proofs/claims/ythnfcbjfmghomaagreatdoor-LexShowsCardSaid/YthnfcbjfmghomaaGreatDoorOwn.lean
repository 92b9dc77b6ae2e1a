/- Appending to a row of one's own that lies behind a given block. No condition. -/
import Derived.Test.YthnfcbjfmghomaaGreatDoorHeap
import Derived.Lib.AppendStr
namespace Go.Lift
section
variable {P : Program} {R : Ending → World → Prop} {w : World}
theorem slice_of_own {base e sz n : Nat} {v : Value} {xs : List Value} (h : w.ownsRow base e sz v n xs) : ∃ s : Sl, v = .slice s.a s.n s.c ∧ s.n = n ∧ ∀ a, s.a = some a → base ≤ a.block := by
  rcases h.2 with ⟨rfl, h0⟩ | ⟨g, cap, cur, rfl, h0, _⟩
  · exact ⟨⟨none, 0, 0⟩, rfl, h0.symm, fun a ha => by cases ha⟩
  · exact ⟨⟨some ⟨g, 0, none⟩, n, cap⟩, rfl, rfl, fun a ha => by cases ha; exact h0⟩
theorem fr_own {base e sz n : Nat} {s : Sl} {xs : List Value} {w' : World} (h : w.ownsRow base e sz (.slice s.a s.n s.c) n xs) (g : w.grownBy w' (Value.ownBlock (.slice s.a s.n s.c))) : Fr (fun k => base ≤ k) w w' :=
  (Fr.of_grown g).mono fun x _ hx => (h.lt x hx).1
theorem appendB_ok {base : Nat} {t ty e : TypeId} {i : TypeInfo} {z : Value} {size bytes : Nat} (ht : P.underlying t = some (.slice e)) (hi : P.info? e = some i) (hz : i.zero = some z)
    (hsize : i.size = size) (hby : i.bytes = bytes) (hzs : z.cells.size = size) (hsz : 0 < size) {s : Sl} {n : Nat} {xs : List Value} (hown : w.ownsRow base e size (.slice s.a s.n s.c) n xs)
    {ad : Addr} {m c : Nat} {news : List Value} (hl : news.length = m * size) (hnews : Held w (ad, news)) (h1 : ∀ u ∈ news, u.oneCell' = true)
    (h63 : n + m ≤ maxLen) (hbytes : (n + m) * bytes ≤ 140737488355328) (hb : base ≤ w.heap.size) {k : Sl → G}
    (h : ∀ (s' : Sl) w', w'.ownsRow base e size (.slice s'.a s'.n s'.c) (n + m) (xs ++ news) → Fr (fun k => base ≤ k) w w' → k s' R w') :
    opG P (Builtin.append_ #[t, t] ty #[.slice s.a s.n s.c, .slice (some ad) m c]) (.one .slice) k R w := by
  obtain ⟨v', w', hr, h2, h3, _⟩ := run_append_own (P := P) w base t ty e i z size bytes ht hi hz hsize hby hzs hsz _ n xs hown ad m c news hl hnews h1 h63 hbytes hb
  obtain ⟨s', rfl, _, _⟩ := slice_of_own h2
  exact ⟨(s', ()), w', hr, h s' w' h2 (fr_own hown h3)⟩
theorem appendSB_ok {base : Nat} {t u ty e : TypeId} {i : TypeInfo} (ht : P.underlying t = some (.slice e)) (hu : P.underlying u = some .string) (hi : P.info? e = some i) (hz : i.zero = some (.int .u8 0))
    (hsize : i.size = 1) (hby : i.bytes = 1) {s : Sl} {n : Nat} {xs : List Value} (hown : w.ownsRow base e 1 (.slice s.a s.n s.c) n xs) (x : ByteArray)
    (h63 : n + x.size ≤ maxLen) (hbytes : n + x.size ≤ 140737488355328) (hb : base ≤ w.heap.size) {k : Sl → G}
    (h : ∀ (s' : Sl) w', w'.ownsRow base e 1 (.slice s'.a s'.n s'.c) (n + x.size) (xs ++ Go.Lib.strCells x) → Fr (fun k => base ≤ k) w w' → k s' R w') :
    opG P (Builtin.append_ #[t, u] ty #[.slice s.a s.n s.c, .string x]) (.one .slice) k R w := by
  obtain ⟨v', w', hr, h2, h3, _⟩ := Go.Lib.run_append_own_string (P := P) w base t u ty e i ht hu hi hz hsize hby _ n xs hown x h63 hbytes hb
  obtain ⟨s', rfl, _, _⟩ := slice_of_own h2
  exact ⟨(s', ()), w', hr, h s' w' h2 (fr_own hown h3)⟩
/-- a row of one's own, over a step that writes none of it -/
theorem own_fr {S : Nat → Prop} {w w' : World} {base : Nat} {e : TypeId} {sz : Nat} {v : Value} {n : Nat} {xs : List Value} (h : w.ownsRow base e sz v n xs) (f : Fr S w w') (hb : ∀ b, v.ownBlock = some b → ¬ S b) : w'.ownsRow base e sz v n xs := by
  refine ⟨h.1, ?_⟩
  rcases h.2 with h | ⟨g, cap, cur, rfl, h0, hg, r⟩
  · exact .inl h
  · refine .inr ⟨g, cap, cur, rfl, h0, ?_, r⟩
    rw [f.blk g (Array.getElem?_eq_some_iff.1 hg).1 (hb g rfl)]
    exact hg
theorem own_fr0 {w w' : World} {base : Nat} {e : TypeId} {sz : Nat} {v : Value} {n : Nat} {xs : List Value} (h : w.ownsRow base e sz v n xs) (f : Fr noB w w') : w'.ownsRow base e sz v n xs := own_fr h f fun _ _ h => h
theorem own_base {w : World} {base : Nat} {e : TypeId} {sz : Nat} {v : Value} {n : Nat} {xs : List Value} (h : w.ownsRow base e sz v n xs) : w.ownsRow 0 e sz v n xs := by
  refine ⟨h.1, ?_⟩
  rcases h.2 with h | ⟨g, cap, cur, rfl, h0, r⟩
  · exact .inl h
  · exact .inr ⟨g, cap, cur, rfl, Nat.zero_le _, r⟩
/-- behind a world nothing of it is written -/
theorem Fr.behind {a b c : World} (h : Fr noB a b) (k : Fr (fun k => a.heap.size ≤ k) b c) : Fr noB a c := h.then k fun x hx h => (show False by omega)
end
end Go.Lift
