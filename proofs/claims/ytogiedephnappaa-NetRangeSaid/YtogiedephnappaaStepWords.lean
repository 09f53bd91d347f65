/- Words of the law's step: a net and the reference's list that agree; what a step leaves. -/
import Derived.Test.YtogiedephnappaaToldWalk
import Derived.Test.YtogiedephnappaaOps
namespace Go.Proofs.Ytogiedephnappaa.Net
open Go.RowKit Go.Proofs.Ytogiedephnappaa.Mem

/-- A net of the law's own, and the reference's list of the same messages. -/
structure Good (b : Nat) (w : World) (g : Nat) (v : Value) (room : Int) (l : List Ms) (vr : Value) (rl : List Ms) : Prop where
  own : Own b w g v room l
  rf : Rf b w vr rl
  same : Same l rl
  short : ∀ x ∈ l, x.raw.length ≤ 140737488351232
  le : (l.length : Int) ≤ room
  size : b ≤ w.heap.size

/-- What a step leaves. -/
def Stepped (b : Nat) (w : World) (g : Nat) (v : Value) (room : Int) (l : List Ms) (e : Ending) (w' : World) : Prop :=
  ∃ g' v' A' c' l' rl', e = .returned (.tuple #[.pointer (some ⟨g', 0, none⟩), .agg #[.int .i64 room, .slice A' rl'.length c'], .bool true]) ∧
    Good b w' g' v' room l' (.slice A' rl'.length c') rl' ∧ l'.length ≤ l.length + 1 ∧ Kp (Nb g v) w w' ∧ ∀ k, Nb g' v' k → Nb g v k ∨ w.heap.size ≤ k

section
variable {b g : Nat} {w W W2 w' : World} {v vr : Value} {room : Int} {l rl : List Ms} {op : Array Value} {S : Nat → Prop}

theorem Own.nb_lt (h : Own b w g v room l) : ∀ k, Nb g v k → k < w.heap.size := by
  rintro k (rfl | e)
  · exact h.net.blk.lt
  · exact (h.net.own.lt k e).2

/-- Ahead of a step's calls: the boxes of its arguments and of its result. -/
structure Pre (w W : World) (g : Nat) (v : Value) (room : Int) (vr : Value) (op : Array Value) : Prop where
  kp : Kp (Nb g v) w W
  b4 : Blk W w.heap.size 28 #[.int .i64 room, vr]
  b5 : Blk W (w.heap.size + 1) 44 op
  b7 : Blk W (w.heap.size + 1 + 1) 28 #[.int .i64 0, .slice none 0 0]
  nb : ∀ k, Nb g v k → k < w.heap.size

theorem pre_start (hN : ∀ k, Nb g v k → k < w.heap.size) (room : Int) (vr : Value) (op : Array Value) :
    Pre w (((w.alloc (.cells #[.int .i64 room, vr] 28)).alloc (.cells op 44)).alloc (.cells #[.int .i64 0, .slice none 0 0] 28)) g v room vr op := by
  refine ⟨(((Kp.refl _ w).alloc _).alloc _).alloc _, ((Blk.new w 28 _).alloc _).alloc _, ?_, ?_, hN⟩
  · have h := Blk.new (w.alloc (.cells #[.int .i64 room, vr] 28)) 44 op
    have e : (w.alloc (.cells #[.int .i64 room, vr] 28)).heap.size = w.heap.size + 1 := by simp
    rw [e] at h
    exact h.alloc _
  · have h := Blk.new ((w.alloc (.cells #[.int .i64 room, vr] 28)).alloc (.cells op 44)) 28 #[.int .i64 0, .slice none 0 0]
    have e : ((w.alloc (.cells #[.int .i64 room, vr] 28)).alloc (.cells op 44)).heap.size = w.heap.size + 1 + 1 := by simp
    rw [e] at h
    exact h

/-- On over a stretch that changes of what lay at the step's start the net's blocks alone, and none of the boxes. -/
theorem Pre.next (h : Pre w W g v room vr op) (hk : Kp S W W2) (hS : ∀ k, S k → Nb g v k ∨ w.heap.size + 1 + 1 < k) : Pre w W2 g v room vr op := by
  have no : ∀ k, w.heap.size ≤ k → k ≤ w.heap.size + 1 + 1 → ¬ S k := fun k h1 h2 e => by
    rcases hS k e with e | e
    · have := h.nb k e
      omega
    · omega
  exact ⟨h.kp.trans hk (fun k hk' e => (hS k e).elim id (fun e => by omega)), Blk.kp h.b4 hk (no _ (by omega) (by omega)), Blk.kp h.b5 hk (no _ (by omega) (by omega)), Blk.kp h.b7 hk (no _ (by omega) (by omega)), h.nb⟩
theorem Pre.below (h : Pre w W g v room vr op) (hb : Below W.heap.size W W2) : Pre w W2 g v room vr op := h.next (Kp.of_below hb (fun _ => False)) (fun _ e => e.elim)
theorem Pre.lt (h : Pre w W g v room vr op) : w.heap.size + 1 + 1 < W.heap.size := h.b7.lt

theorem own_of_kp (h : Own b w g v room l) (hk : Kp S w w') (hg : ¬ S g) (hv : ∀ k, v.ownBlock = some k → ¬ S k) (hx : ∀ x ∈ l, ∀ k, x.v.ownBlock = some k → ¬ S k) : Own b w' g v room l :=
  ⟨h.net.kp hk hg hv hx, h.hg, h.hv⟩
/-- A store into a box. -/
theorem own_box {t : TypeId} {cs : Array Value} {p : Addr} (h : Own b w g v room l) (hB : Blk w p.block t cs) (h70 : t ≠ 70) (h67 : t ≠ 67) (h5 : t ≠ 5) (u : Value) : Own b (w.setCell p u) g v room l := by
  refine own_of_kp (S := fun k => k = p.block) h ((Kp.refl (fun k => k = p.block) w).set (p := p) (.inl rfl) u) ?_ ?_ ?_
  · intro e
    exact hB.ne_ (g' := g) h.net.blk h70 e.symm
  · intro k e e2
    exact own_ne h.net.own hB h67 (e2 ▸ e)
  · intro x hx k e e2
    exact own_ne (h.net.msg x hx) hB h5 (e2 ▸ e)
theorem Good.below (h : Good b w g v room l vr rl) (hb : Below w.heap.size w w') : Good b w' g v room l vr rl :=
  ⟨⟨h.own.net.below hb, h.own.hg, h.own.hv⟩, h.rf.below hb, h.same, h.short, h.le, Nat.le_trans h.size hb.size⟩
theorem Good.box {t : TypeId} {cs : Array Value} {p : Addr} (h : Good b w g v room l vr rl) (hB : Blk w p.block t cs) (h70 : t ≠ 70) (h67 : t ≠ 67) (h37 : t ≠ 37) (h5 : t ≠ 5) (hb : b ≤ p.block) (u : Value) : Good b (w.setCell p u) g v room l vr rl :=
  ⟨own_box h.own hB h70 h67 h5 u, rf_set h.rf hB h37 h5 hb u, h.same, h.short, h.le, by simpa [World.setCell] using h.size⟩
/-- The end of a step: the result's box is written. -/
theorem Good.finish {g' : Nat} {v' A' : _} {c' : Nat} {l' rl' : List Ms} {cs : Array Value} {e : Ending} (h : Good b W g' v' room l' (.slice A' rl'.length c') rl') (hB : Blk W (w.heap.size + 1 + 1) 28 cs) (hb : b ≤ w.heap.size) (hlen : l'.length ≤ l.length + 1) (hk : Kp (Nb g v) w W)
    (hf : ∀ k, Nb g' v' k → Nb g v k ∨ w.heap.size ≤ k) (he : e = .returned (.tuple #[.pointer (some ⟨g', 0, none⟩), .agg #[.int .i64 room, .slice A' rl'.length c'], .bool true])) (x y : Value) :
    Stepped b w g v room l e ((W.setCell ⟨w.heap.size + 1 + 1, 0, none⟩ x).setCell ⟨w.heap.size + 1 + 1, 1, none⟩ y) := by
  have h1 := h.box (p := ⟨w.heap.size + 1 + 1, 0, none⟩) hB (by decide) (by decide) (by decide) (by decide) (by show b ≤ w.heap.size + 1 + 1; omega) x
  have h2 := h1.box (p := ⟨w.heap.size + 1 + 1, 1, none⟩) (hB.set_ 0 x) (by decide) (by decide) (by decide) (by decide) (by show b ≤ w.heap.size + 1 + 1; omega) y
  exact ⟨g', v', A', c', l', rl', he, h2, hlen, (hk.set (p := ⟨w.heap.size + 1 + 1, 0, none⟩) (.inr (by simp; omega)) x).set (p := ⟨w.heap.size + 1 + 1, 1, none⟩) (.inr (by simp; omega)) y, hf⟩
end

theorem put_len (room : Int) (rl : List Ms) (x : Ms) : (put room rl x).length ≤ rl.length + 1 := by
  unfold put
  split
  · simp
  · omega

/-- What Send leaves of the net, held against the reference's answer. -/
theorem sent_any {b g : Nat} {w w' : World} {v : Value} {room : Int} {l rl : List Ms} {dst : Int} {raw : List Int} {e : Ending} {x : Ms} (h : Own b w g v room l) (hb : b ≤ w.heap.size) (hs : SendEnd w g v room l dst raw e w') (same : Same l rl) (short : ∀ x ∈ l, x.raw.length ≤ 140737488351232) (hraw : raw.length ≤ 140737488351232)
    (le : (l.length : Int) ≤ room) (h1 : x.dst = dst) (h2 : x.raw = raw) :
    ∃ v' l', e = .returned (.int .i64 (code room rl)) ∧ Own b w' g v' room l' ∧ Same l' (put room rl x) ∧ (∀ x ∈ l', x.raw.length ≤ 140737488351232) ∧ (l'.length : Int) ≤ room ∧ l'.length ≤ l.length + 1 ∧ Kp (Nb g v) w w' ∧
      (∀ k, Nb g v' k → Nb g v k ∨ w.heap.size ≤ k) ∧ (∀ y ∈ l', y ∈ l ∨ ∀ k, y.v.ownBlock = some k → w.heap.size ≤ k) := by
  have hlen := same.len
  rcases hs with ⟨hfull, rfl, hbel⟩ | ⟨hne, rfl, hsent⟩
  · have hn : ¬ ((rl.length : Int) < room) := by omega
    refine ⟨v, l, by unfold code; rw [if_neg hn], ⟨h.net.below hbel, h.hg, h.hv⟩, by unfold put; rw [if_neg hn]; exact same, short, le, by omega, Kp.of_below hbel _, fun k hk => .inl hk, fun y hy => .inl hy⟩
  · have hn : (rl.length : Int) < room := by omega
    obtain ⟨v', u, hN, hk, hv, hu⟩ := hsent
    refine ⟨v', l ++ [⟨dst, u, raw⟩], by unfold code; rw [if_pos hn], ⟨hN, h.hg, fun k e => ?_⟩, by unfold put; rw [if_pos hn]; exact same.app (Same.one h1.symm h2.symm), ?_, by simp; omega, by simp, hk, ?_, ?_⟩
    · rcases hv with e2 | e2
      · exact h.hv k (e2 ▸ e)
      · exact Nat.le_trans hb (e2 k e)
    · intro y hy
      rcases List.mem_append.1 hy with hy | hy
      · exact short y hy
      · obtain rfl := List.mem_singleton.1 hy
        exact hraw
    · rintro k (rfl | e)
      · exact .inl (.inl rfl)
      · rcases hv with e2 | e2
        · exact .inl (.inr (e2 ▸ e))
        · exact .inr (e2 k e)
    · intro y hy
      rcases List.mem_append.1 hy with hy | hy
      · exact .inl hy
      · obtain rfl := List.mem_singleton.1 hy
        exact .inr hu
/-- What Drop leaves. -/
theorem dropped_any {b g k : Nat} {w w' : World} {v : Value} {room : Int} {l rl : List Ms} (h : Own b w g v room l) (hb : b ≤ w.heap.size) (hs : Dropped w g room (l.take k ++ l.drop (k + 1)) w') (same : Same l rl) (short : ∀ x ∈ l, x.raw.length ≤ 140737488351232) (le : (l.length : Int) ≤ room) :
    ∃ v', Own b w' g v' room (l.take k ++ l.drop (k + 1)) ∧ Same (l.take k ++ l.drop (k + 1)) (rl.take k ++ rl.drop (k + 1)) ∧ (∀ x ∈ l.take k ++ l.drop (k + 1), x.raw.length ≤ 140737488351232) ∧ ((l.take k ++ l.drop (k + 1)).length : Int) ≤ room ∧
      (l.take k ++ l.drop (k + 1)).length ≤ l.length + 1 ∧ Kp (Nb g v) w w' ∧ (∀ k, Nb g v' k → Nb g v k ∨ w.heap.size ≤ k) := by
  obtain ⟨v', hn, hk, hv⟩ := hs
  have hl : (l.take k ++ l.drop (k + 1)).length ≤ l.length := by
    simp only [List.length_append, List.length_take, List.length_drop]
    omega
  refine ⟨v', ⟨hn, h.hg, fun q e => Nat.le_trans hb (hv q e)⟩, same.out k, fun x hx => short x ?_, by omega, by omega, hk.of_g, ?_⟩
  · exact (List.mem_append.1 hx).elim List.mem_of_mem_take List.mem_of_mem_drop
  · rintro q (rfl | e)
    · exact .inl (.inl rfl)
    · exact .inr (hv q e)

end Go.Proofs.Ytogiedephnappaa.Net
