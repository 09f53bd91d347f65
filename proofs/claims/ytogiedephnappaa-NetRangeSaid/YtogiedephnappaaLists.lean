/- Own lists of slices of bytes beside a net: append(out, b); what a call on the net leaves of them. -/
import Derived.Test.YtogiedephnappaaBag
namespace Go.Proofs.Ytogiedephnappaa.Net
open Go.RowKit Go.Proofs.Ytogiedephnappaa.Mem

theorem info35 : (Try.prog.info? 35).map (fun i => (i.zero, i.size, i.bytes)) = some (some (.slice none 0 0), 1, 24) := by kernel_rfl

theorem Ms.Lies.reads {w : World} {x : Ms} (h : x.Lies w) : x.Reads w := by
  obtain ⟨A, c, h1, _, _, h2, h3, _⟩ := h.slice
  exact ⟨A, c, h1, h3, h2⟩
theorem Ms.Lies.kp {S : Nat → Prop} {w w' : World} {x : Ms} (h : x.Lies w) (hk : Kp S w w') (hn : ∀ k, x.v.ownBlock = some k → ¬ S k) : x.Lies w' := own_kp h hk hn
theorem Ms.Reads.kp {S : Nat → Prop} {w w' : World} {x : Ms} (h : x.Reads w) (hk : Kp S w w') (hn : ∀ k, x.v.ownBlock = some k → x.raw.length ≠ 0 → ¬ S k) : x.Reads w' := by
  obtain ⟨A, c, h1, h2, h3⟩ := h
  by_cases h0 : x.raw.length = 0
  · refine ⟨A, c, h1, ?_, h3⟩
    have h4 := h2.1
    rw [h0] at h4 ⊢
    exact ⟨h4, fun h => absurd h (by omega)⟩
  · refine ⟨A, c, h1, Sl.kp h2 hk (fun k e => hn k ?_ h0), h3⟩
    rw [h1]
    cases A with
    | none => cases e
    | some a => exact e

/-- Its bytes lie in a row of bytes, or they read and lie below b. -/
def Ms.Safe (b : Nat) (w : World) (x : Ms) : Prop := x.Lies w ∨ (x.Reads w ∧ ∀ k, x.v.ownBlock = some k → x.raw.length ≠ 0 → k < b)

section
variable {b g : Nat} {w w' : World} {v vi : Value} {room : Int} {l ls : List Ms} {S : Nat → Prop}

theorem Ms.Safe.reads {x : Ms} (h : x.Safe b w) : x.Reads w := by
  rcases h with h | h
  · exact h.reads
  · exact h.1
/-- It stands where nothing below b changes, and no row of bytes. -/
theorem Ms.Safe.kp {x : Ms} (h : x.Safe b w) (hk : Kp S w w') (hb : ∀ k, S k → b ≤ k) (h5 : x.Lies w → ∀ k, x.v.ownBlock = some k → ¬ S k) : x.Safe b w' := by
  rcases h with h | ⟨h, hl⟩
  · exact .inl (h.kp hk (h5 h))
  · exact .inr ⟨h.kp hk (fun k e h0 hs => by have := hl k e h0; have := hb k hs; omega), hl⟩
theorem Ms.Safe.below {x : Ms} (h : x.Safe b w) (hb : Below w.heap.size w w') : x.Safe b w' := by
  rcases h with h | ⟨h, hl⟩
  · exact .inl (h.kp (Kp.of_below hb (fun _ => False)) (fun _ _ e => e))
  · exact .inr ⟨h.below hb, hl⟩

/-- The blocks of a net that a call may write. -/
def Nb (g : Nat) (v : Value) (k : Nat) : Prop := k = g ∨ v.ownBlock = some k

theorem Own.nb (h : Own b w g v room l) : ∀ k, Nb g v k → b ≤ k := by
  rintro k (rfl | e)
  · exact h.hg
  · exact h.hv k e
theorem Nt.not_nb {x : Ms} (h : Nt w g v room l) (hx : x.Lies w) : ∀ k, x.v.ownBlock = some k → ¬ Nb g v k := by
  rintro k e (rfl | e2)
  · exact own_ne hx h.blk (by decide) e
  · exact own_ne2 hx h.own (by decide) k e e2
theorem Ms.Safe.net {x : Ms} (h : x.Safe b w) (hN : Own b w g v room l) (hk : Kp (Nb g v) w w') : x.Safe b w' := h.kp hk hN.nb (fun hl => hN.net.not_nb hl)
theorem Kp.of_g (h : Kp (fun k => k = g) w w') : Kp (Nb g v) w w' := ⟨h.os, h.tape, h.output, h.size, fun k hk hn => h.block k hk (fun e => hn (.inl e))⟩

/-- A list of the law's own, at b or behind, each of whose elements reads. -/
structure Lst (b : Nat) (w : World) (v : Value) (l : List Ms) : Prop where
  own : w.ownsRow b 35 1 v l.length (l.map Ms.v)
  safe : ∀ x ∈ l, x.Safe b w

theorem Lst.nil (b : Nat) (w : World) : Lst b w (.slice none 0 0) [] := ⟨World.ownsRow_nil _ _ _ _, by simp⟩
theorem Lst.below (h : Lst b w vi ls) (hb : Below w.heap.size w w') : Lst b w' vi ls := ⟨own_kp h.own (Kp.of_below hb (fun _ => False)) (fun _ _ e => e), fun x m => (h.safe x m).below hb⟩
theorem Lst.net (h : Lst b w vi ls) (hN : Own b w g v room l) (hk : Kp (Nb g v) w w') : Lst b w' vi ls := by
  refine ⟨own_kp h.own hk ?_, fun x m => (h.safe x m).net hN hk⟩
  rintro k e (rfl | e2)
  · exact own_ne h.own hN.net.blk (by decide) e
  · exact own_ne2 h.own hN.net.own (by decide) k e e2
theorem lst_one (h : ∀ x ∈ ls, x.Reads w) : ∀ u ∈ ls.map Ms.v, u.oneCell' = true := by
  intro u hu
  obtain ⟨x, hx, rfl⟩ := List.mem_map.1 hu
  obtain ⟨A, c, e, _⟩ := h x hx
  rw [e]
  rfl
theorem Lst.slice (h : Lst b w vi ls) : ∃ A c, vi = .slice A ls.length c ∧ ls.length ≤ c ∧ c ≤ maxLen ∧ Sl w 1 A ls.length (ls.map Ms.v) ∧ ∀ x ∈ ls, x.Reads w := by
  obtain ⟨A, c, h1, h2, h3, _, h4, _⟩ := Sl.of_own h.own
  exact ⟨A, c, h1, h2, h3, h4, fun x hx => (h.safe x hx).reads⟩
end

theorem Lst.push {b : Nat} {w w' : World} {vi vi' : Value} {ls : List Ms} {x : Ms} {o : Obj} (h : Lst b w vi ls) (hx : x.Safe b w) (hw : b ≤ w.heap.size) (hown : w'.ownsRow b 35 1 vi' (ls.length + 1) (ls.map Ms.v ++ [x.v]))
    (hg : (w.alloc o).grownBy w' vi.ownBlock) : Lst b w' vi' (ls ++ [x]) ∧ Below b w w' := by
  have hS : Kp (fun k => vi.ownBlock = some k) w w' := ((Kp.refl _ w).alloc o).grown hg (fun k e => .inl e)
  have hb : ∀ k, vi.ownBlock = some k → b ≤ k := fun k e => (h.own.lt k e).1
  have safe : ∀ y : Ms, y.Safe b w → y.Safe b w' := fun y hy => hy.kp hS hb (fun hl k e e2 => own_ne2 hl h.own (by decide) k e e2)
  refine ⟨⟨by simpa using hown, fun y hy => ?_⟩, hS.out (Below.refl _ _) hb hw⟩
  rcases List.mem_append.1 hy with hy | hy
  · exact safe y (h.safe y hy)
  · obtain rfl := List.mem_singleton.1 hy
    exact safe _ hx

/-- The law's memory: a net of its own, two lists of its own. -/
structure St (b : Nat) (W w : World) (g : Nat) (v : Value) (room : Int) (l : List Ms) (vi : Value) (ins : List Ms) (vo : Value) (outs : List Ms) : Prop where
  net : Own b w g v room l
  ins : Lst b w vi ins
  outs : Lst b w vo outs
  apart : ∀ k, vi.ownBlock = some k → vo.ownBlock ≠ some k
  below : Below b W w
  size : b ≤ w.heap.size

section
variable {b g : Nat} {W w w' : World} {v vi vo : Value} {room : Int} {l ins outs : List Ms}

theorem St.keep (h : St b W w g v room l vi ins vo outs) (hb : Below w.heap.size w w') : St b W w' g v room l vi ins vo outs :=
  ⟨⟨h.net.net.below hb, h.net.hg, h.net.hv⟩, h.ins.below hb, h.outs.below hb, h.apart, h.below.trans (hb.mono h.size), Nat.le_trans h.size hb.size⟩
theorem St.swap (h : St b W w g v room l vi ins vo outs) : St b W w g v room l vo outs vi ins := ⟨h.net, h.outs, h.ins, fun k e e2 => h.apart k e2 e, h.below, h.size⟩
theorem St.sent {dst : Int} {raw : List Int} (h : St b W w g v room l vi ins vo outs) (hs : Sent w g v room l dst raw w') :
    ∃ v' u, St b W w' g v' room (l ++ [⟨dst, u, raw⟩]) vi ins vo outs ∧ Kp (Nb g v) w w' := by
  have hk : Kp (Nb g v) w w' := by obtain ⟨_, _, _, hk, _⟩ := hs; exact hk
  obtain ⟨v', u, h1, h2, h3⟩ := h.net.sent hs h.below h.size
  exact ⟨v', u, ⟨h1, h.ins.net h.net hk, h.outs.net h.net hk, h.apart, h2, h3⟩, hk⟩
theorem St.dropped {l' : List Ms} (h : St b W w g v room l vi ins vo outs) (hs : Dropped w g room l' w') :
    ∃ v', St b W w' g v' room l' vi ins vo outs ∧ Kp (Nb g v) w w' := by
  have hk : Kp (Nb g v) w w' := by obtain ⟨_, _, hk, _⟩ := hs; exact hk.of_g
  obtain ⟨v', h1, h2, h3⟩ := h.net.dropped hs h.below h.size
  exact ⟨v', ⟨h1, h.ins.net h.net hk, h.outs.net h.net hk, h.apart, h2, h3⟩, hk⟩

theorem one_sl (w : World) (u : Value) (t : TypeId) : Sl (w.alloc (.cells #[u] t)) 1 (some ⟨w.heap.size, 0, none⟩) 1 [u] := by
  refine ⟨rfl, fun _ => ⟨w.heap.size, 0, rfl, fun j z hz => ?_⟩⟩
  rw [Nat.zero_add, (Blk.new w t _).cell]
  simpa using hz

theorem Own.blk {g4 : Nat} {t : TypeId} {cs : Array Value} (h : Own b w g v room l) (hB : Blk w g4 t cs) (hk : Kp (Nb g v) w w') (h70 : t ≠ 70) (h67 : t ≠ 67) : Blk w' g4 t cs := by
  refine Blk.kp hB hk ?_
  rintro (rfl | e)
  · exact hB.ne_ (g' := g4) h.net.blk h70 rfl
  · exact own_ne h.net.own hB h67 e

/-- append(in, x): behind it. -/
theorem St.push {x : Ms} {vi' : Value} {o : Obj} (h : St b W w g v room l vi ins vo outs) (hx : x.Safe b w) (hown : w'.ownsRow b 35 1 vi' (ins.length + 1) (ins.map Ms.v ++ [x.v]))
    (hg : (w.alloc o).grownBy w' vi.ownBlock) (hat : vi'.ownBlock = vi.ownBlock ∨ vi'.ownBlock = some (w.alloc o).heap.size) : St b W w' g v room l vi' (ins ++ [x]) vo outs := by
  have hS : Kp (fun k => vi.ownBlock = some k) w w' := ((Kp.refl _ w).alloc o).grown hg (fun k e => .inl e)
  have hb : ∀ k, vi.ownBlock = some k → b ≤ k := fun k e => (h.ins.own.lt k e).1
  have safe : ∀ y : Ms, y.Safe b w → y.Safe b w' := fun y hy => hy.kp hS hb (fun hl k e e2 => own_ne2 hl h.ins.own (by decide) k e e2)
  refine ⟨⟨h.net.net.kp hS ?_ ?_ ?_, h.net.hg, h.net.hv⟩, ⟨by simpa using hown, fun y hy => ?_⟩, ⟨own_kp h.outs.own hS (fun k e e2 => h.apart k e2 e), fun y hy => safe y (h.outs.safe y hy)⟩, ?_, hS.out h.below hb h.size, Nat.le_trans h.size hS.size⟩
  · intro e
    exact own_ne h.ins.own h.net.net.blk (by decide) e
  · intro k e e2
    exact own_ne2 h.ins.own h.net.net.own (by decide) k e2 e
  · intro y hy k e e2
    exact own_ne2 h.ins.own (h.net.net.msg y hy) (by decide) k e2 e
  · rcases List.mem_append.1 hy with hy | hy
    · exact safe y (h.ins.safe y hy)
    · obtain rfl := List.mem_singleton.1 hy
      exact safe _ hx
  · rcases hat with e | e
    · rw [e]; exact h.apart
    · intro k e2 e3
      rw [e] at e2
      injection e2 with e2
      have := (h.outs.own.lt k e3).2
      simp at e2
      omega
end

end Go.Proofs.Ytogiedephnappaa.Net
