/- Words of package net: what a stretch keeps; a message; a net. -/
import Derived.Test.YtogiedephnappaaSlOne
import Derived.Test.YtogiedephnappaaSlBytes
import Derived.Laws.StructEq
import Derived.Deep.QuietTactic
import Derived.BigQuiet
import Derived.Deep.DeepCutAuto
namespace Go.Proofs.Ytogiedephnappaa.Net
open Go.RowKit Go.Proofs.Ytogiedephnappaa.Mem

/-- From w to w' nothing changed that was there, but for the blocks S. -/
structure Kp (S : Nat → Prop) (w w' : World) : Prop where
  os : w'.os = w.os
  tape : w'.tape = w.tape
  output : w'.output = w.output
  size : w.heap.size ≤ w'.heap.size
  block : ∀ k, k < w.heap.size → ¬ S k → w'.heap[k]? = w.heap[k]?

section
variable {S S' : Nat → Prop} {w w' w'' W : World}
theorem Kp.refl (S : Nat → Prop) (w : World) : Kp S w w := ⟨rfl, rfl, rfl, Nat.le_refl _, fun _ _ _ => rfl⟩
theorem Kp.trans (h : Kp S w w') (h' : Kp S' w' w'') (hs : ∀ k, k < w.heap.size → S' k → S k) : Kp S w w'' :=
  ⟨h'.os.trans h.os, h'.tape.trans h.tape, h'.output.trans h.output, Nat.le_trans h.size h'.size,
    fun k hk hn => (h'.block k (Nat.lt_of_lt_of_le hk h.size) (fun e => hn (hs k hk e))).trans (h.block k hk hn)⟩
theorem Kp.of_below (h : Below w.heap.size w w') (S : Nat → Prop) : Kp S w w' := ⟨h.os, h.tape, h.output, h.size, fun k hk _ => h.block k hk⟩
theorem Kp.below (h : Kp S w w') (hb : Below w'.heap.size w' w'') : Kp S w w'' := h.trans (Kp.of_below hb (fun _ => False)) (fun _ _ e => e.elim)
theorem Kp.alloc (h : Kp S w w') (o : Obj) : Kp S w (w'.alloc o) := h.below ((Below.refl _ _).alloc (Nat.le_refl _) _)
theorem Kp.drew (h : Kp S w w') : Kp S w w'.drew := h.below (Below.refl _ _).drew
theorem Kp.drewN (h : Kp S w w') (n : Nat) : Kp S w (w'.drewN n) := h.below (below_drewN (Below.refl _ _) n)
theorem Kp.grown {row : Option Nat} (h : Kp S w w') (hg : w'.grownBy w'' row) (hr : ∀ k, row = some k → S k ∨ w.heap.size ≤ k) : Kp S w w'' :=
  ⟨hg.os.trans h.os, hg.tape.trans h.tape, hg.output.trans h.output, Nat.le_trans h.size hg.size,
    fun k hk hn => (hg.block k (Nat.lt_of_lt_of_le hk h.size) (fun e => by rcases hr k e.symm with h1 | h1; exact hn h1; omega)).trans (h.block k hk hn)⟩
theorem Kp.set (h : Kp S w w') {p : Addr} (hp : S p.block ∨ w.heap.size ≤ p.block) (u : Value) : Kp S w (w'.setCell p u) :=
  ⟨h.os, h.tape, h.output, by simpa [World.setCell] using h.size, fun k hk hn => (Below.heap_setCell w' p u k (by
    rintro rfl
    rcases hp with hp | hp
    · exact hn hp
    · omega)).trans (h.block k hk hn)⟩
/-- What lay below b lies there still, where nothing below b is among S. -/
theorem Kp.out {b : Nat} (h : Kp S w w') (hb : Below b W w) (hs : ∀ k, S k → b ≤ k) (hw : b ≤ w.heap.size) : Below b W w' :=
  ⟨h.os.trans hb.os, h.tape.trans hb.tape, h.output.trans hb.output, Nat.le_trans hb.size h.size, fun k hk => (h.block k (by omega) (fun e => by have := hs k e; omega)).trans (hb.block k hk)⟩
theorem Sl.kp {size n : Nat} {A : Option Addr} {xs : List Value} (h : Sl w size A n xs) (hk : Kp S w w') (hn : ∀ b, A.map (·.block) = some b → ¬ S b) : Sl w' size A n xs :=
  h.keep fun b hb hlt => hk.block b hlt (hn b hb)
theorem Blk.kp {g : Nat} {t : TypeId} {cs : Array Value} (h : Blk w g t cs) (hk : Kp S w w') (hn : ¬ S g) : Blk w' g t cs := h.keep (hk.block g h.lt hn)
theorem own_kp {base size n : Nat} {e : TypeId} {v : Value} {xs : List Value} (h : w.ownsRow base e size v n xs) (hk : Kp S w w') (hn : ∀ b, v.ownBlock = some b → ¬ S b) : w'.ownsRow base e size v n xs := by
  refine ⟨h.1, ?_⟩
  rcases h.2 with h2 | ⟨g, cap, cur, rfl, hb, hg, hr⟩
  · exact .inl h2
  · have hlt := (h.lt g rfl).2
    exact .inr ⟨g, cap, cur, rfl, hb, (hk.block g hlt (hn g rfl)).trans hg, hr⟩
theorem own_base {base base' size n : Nat} {e : TypeId} {v : Value} {xs : List Value} (h : w.ownsRow base e size v n xs) (hb : base' ≤ base) : w.ownsRow base' e size v n xs := by
  refine ⟨h.1, ?_⟩
  rcases h.2 with h2 | ⟨g, cap, cur, rfl, hbg, hr⟩
  · exact .inl h2
  · exact .inr ⟨g, cap, cur, rfl, Nat.le_trans hb hbg, hr⟩
/-- A row of one type is no block of another. -/
theorem own_ne {base size n g : Nat} {e t : TypeId} {v : Value} {xs : List Value} {cs : Array Value} (h : w.ownsRow base e size v n xs) (hB : Blk w g t cs) (hne : t ≠ e) : v.ownBlock ≠ some g := by
  intro hv
  rcases h.2 with ⟨rfl, _⟩ | ⟨g', cap, cur, rfl, _, hg, _⟩
  · cases hv
  · injection hv with hv
    subst hv
    exact hB.ne_ (g' := g') (t' := e) (cs' := cur) hg hne rfl
/-- Nor are rows of two types one. -/
theorem own_ne2 {base base' size size' n n' : Nat} {e e' : TypeId} {v v' : Value} {xs xs' : List Value} (h : w.ownsRow base e size v n xs) (h' : w.ownsRow base' e' size' v' n' xs') (hne : e ≠ e') : ∀ b, v.ownBlock = some b → v'.ownBlock ≠ some b := by
  intro b hv
  rcases h.2 with ⟨rfl, _⟩ | ⟨g, cap, cur, rfl, _, hg, _⟩
  · cases hv
  · injection hv with hv
    subst hv
    exact own_ne h' (g := g) (t := e) (cs := cur) hg hne
end

/-- A message: to whom; the slice of its bytes; its bytes. -/
structure Ms where
  dst : Int
  v : Value
  raw : List Int

def Ms.cells (x : Ms) : List Value := [.int .i64 x.dst, x.v]
/-- Its bytes lie in a row of bytes. -/
def Ms.Lies (w : World) (x : Ms) : Prop := w.ownsRow 0 5 1 x.v x.raw.length (bcs x.raw)

/-- The net at block g: its room, the row v of its messages. -/
structure Nt (w : World) (g : Nat) (v : Value) (room : Int) (l : List Ms) : Prop where
  blk : Blk w g 70 #[.int .i64 room, v]
  own : w.ownsRow 0 67 2 v l.length (l.flatMap Ms.cells)
  msg : ∀ x ∈ l, x.Lies w

theorem flat_at : ∀ (l : List Ms) (i j : Nat) (x : Ms), l[i]? = some x → j < 2 → (l.flatMap Ms.cells)[i * 2 + j]? = x.cells[j]?
  | [], _, _, _, h, _ => by simp at h
  | y :: l, 0, j, x, h, hj => by
    simp only [List.getElem?_cons_zero, Option.some.injEq] at h
    subst h
    rw [List.flatMap_cons, List.getElem?_append_left (by simp [Ms.cells]; omega)]
    simp
  | y :: l, i + 1, j, x, h, hj => by
    have hh : l[i]? = some x := by simpa using h
    rw [List.flatMap_cons, List.getElem?_append_right (by simp [Ms.cells]; omega), ← flat_at l i j x hh hj]
    congr 1
    simp [Ms.cells]
    omega

theorem flat_len : ∀ l : List Ms, (l.flatMap Ms.cells).length = l.length * 2
  | [] => rfl
  | x :: l => by rw [List.flatMap_cons, List.length_append, flat_len l]; simp [Ms.cells]; omega

theorem flat_take : ∀ (l : List Ms) (i : Nat), (l.flatMap Ms.cells).take (i * 2) = (l.take i).flatMap Ms.cells
  | [], i => by simp
  | x :: l, 0 => by simp
  | x :: l, i + 1 => by
    have h := flat_take l i
    have e : (i + 1) * 2 = i * 2 + 1 + 1 := by omega
    rw [e, List.flatMap_cons]
    simp only [Ms.cells, List.cons_append, List.nil_append, List.take_succ_cons, h, List.flatMap_cons]

theorem flat_drop : ∀ (l : List Ms) (i : Nat), (l.flatMap Ms.cells).drop (i * 2) = (l.drop i).flatMap Ms.cells
  | [], i => by simp
  | x :: l, 0 => by simp
  | x :: l, i + 1 => by
    have h := flat_drop l i
    have e : (i + 1) * 2 = i * 2 + 1 + 1 := by omega
    rw [e, List.flatMap_cons]
    simp only [Ms.cells, List.cons_append, List.nil_append, List.drop_succ_cons, h]

section
variable {w w' : World} {g : Nat} {v : Value} {room : Int} {l : List Ms} {S : Nat → Prop}

theorem Ms.Lies.slice {x : Ms} (h : x.Lies w) : ∃ A c, x.v = .slice A x.raw.length c ∧ x.raw.length ≤ c ∧ c ≤ maxLen ∧ (A = none → x.raw.length = 0 ∧ c = 0) ∧ Sl w 1 A x.raw.length (bcs x.raw) ∧ A.map (·.block) = x.v.ownBlock := Sl.of_own h
theorem Nt.slice (h : Nt w g v room l) : ∃ A c, v = .slice A l.length c ∧ l.length ≤ c ∧ c ≤ maxLen ∧ (A = none → l.length = 0 ∧ c = 0) ∧ Sl w 2 A l.length (l.flatMap Ms.cells) ∧ A.map (·.block) = v.ownBlock := Sl.of_own h.own
theorem Ms.cells_one {w : World} {l : List Ms} (h : ∀ x ∈ l, x.Lies w) : ∀ u ∈ l.flatMap Ms.cells, u.oneCell' = true := by
  intro u hu
  obtain ⟨x, hx, hu⟩ := List.mem_flatMap.1 hu
  obtain ⟨A, c, e, _⟩ := (h x hx).slice
  simp only [Ms.cells, List.mem_cons, List.not_mem_nil, or_false] at hu
  rcases hu with rfl | rfl
  · rfl
  · rw [e]; rfl
/-- A net stands where its blocks, and its messages', stand. -/
theorem Nt.kp (h : Nt w g v room l) (hk : Kp S w w') (hg : ¬ S g) (hv : ∀ b, v.ownBlock = some b → ¬ S b) (hx : ∀ x ∈ l, ∀ b, x.v.ownBlock = some b → ¬ S b) : Nt w' g v room l :=
  ⟨Blk.kp h.blk hk hg, own_kp h.own hk hv, fun x m => own_kp (h.msg x m) hk (hx x m)⟩
theorem Nt.below (h : Nt w g v room l) (hb : Below w.heap.size w w') : Nt w' g v room l :=
  h.kp (Kp.of_below hb (fun _ => False)) (fun e => e) (fun _ _ e => e) (fun _ _ _ _ e => e)
end

end Go.Proofs.Ytogiedephnappaa.Net
