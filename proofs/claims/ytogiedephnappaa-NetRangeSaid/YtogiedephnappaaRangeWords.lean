/- Words for the walk of dockyardlaw03.NetRange: a loop that is left by break; a net that changes while it is ranged over. -/
import Derived.Test.YtogiedephnappaaClones
namespace Go.Proofs.Ytogiedephnappaa.Net
open Go.RowKit Go.Proofs.Ytogiedephnappaa.Mem

/-- A range over a function whose body breaks at once: both ways go on behind the block. -/
theorem range_break {P : Program} {g : Operand} {ps : Array Tmp} {assign body : Code} {id : Nat} {Qx : Exit → Act → World → Prop} {a : Act} {w : World}
    {gf : Nat} {lb : Array Value} (hg : a.eval g = .func (.func gf) #[] lb) (eg : ∀ args w, (callFunc gf args).run P w = .ok (.enter gf args) w)
    (N : Nat) (Arg : Nat → Nat → Array Value → World → Prop) (F : World → Prop) (hF : OwnFrom w.heap.size (fun (_ : Unit) W => F W)) (hps : ∀ Q k args W, Arg Q k args W → args.size = ps.size)
    (h0 : ∀ W, Below w.heap.size w W → F W)
    (hseq : ∀ (l : Nat) (J : Nat → Nat → World → Prop) (Jx : World → Prop) (W : World), Below w.heap.size w W → W.heap.size = w.heap.size + 2 →
      (∀ Q, OwnFrom W.heap.size (J Q)) → OwnFrom W.heap.size (fun (_ : Unit) W => Jx W) → (∀ Q k W1, J Q k W1 → F W1) →
      (∀ Q W1, Below W.heap.size W W1 → W.heap.size ≤ Q → Q ≤ W1.heap.size → True → J Q 0 W1) →
      (∀ Q k W1, F W1 → J Q k W1 → J Q (k + 1) W1) →
      (∀ Q k args W1, W.heap.size ≤ Q → Q ≤ W1.heap.size → True → k < N → J Q k W1 → Arg Q k args W1 → YieldAt Fence.wide 0 P l args W1 fun e W' =>
        Kept W.heap.size Q W1 W' ∧ ((e = .returned (.bool true) ∧ J Q (k + 1) W') ∨ (e = .returned (.bool false) ∧ Jx W'))) →
      CallsIn Fence.wide 0 P gf (#[.func (.yield l) #[] #[]] ++ lb) W fun e W' => (∃ v, e = .returned v) ∧ ((∃ Q, J Q N W') ∨ Jx W'))
    (hassign : ∀ (l : Nat) (tmps : Array Value) (W : World) (K : Act → World → Prop), (∀ a', K a' W) → assign.wpIn (Fence.wide.inRound l) 0 P (Exit.then K (fun _ _ _ => False)) { tmps := tmps, defers := [] } W)
    (hbody : ∀ (l : Nat) (a' : Act) (W : World) (R : Exit → Act → World → Prop), (∀ a'', R (.exit id) a'' W) → body.wpIn (Fence.wide.inRound l) 0 P R a' W)
    (hdone : ∀ W, F W → W.heap[w.heap.size]? = some (.deferred (some [])) → Qx .normal { a with defers := { target := .collected w.heap.size, args := #[] } :: a.defers } W) :
    (Code.rangeFunc g ps assign body).wp P (Exit.inBlock id Qx) a w := by
  refine (wpIn_wide (n := 0)).1 ?_
  refine range_law hg eg N (fun _ => True) Arg (fun _ _ W => F W) (fun c W => c = .exit id ∧ F W) (fun Q s W W' row hs hgr hr => hF () W W' row hs hgr hr) (fun c W W' row hs hgr hr => ⟨hs.1, hF () W W' row hs.2 hgr hr⟩) hps
    (fun Q W hb _ _ _ => h0 W hb) hseq (fun _ _ _ _ _ => True) (fun _ _ _ _ _ _ _ _ _ _ _ => trivial) ?_ ?_ ?_ ?_
  · intro l Q k args W K _ _ _ _ hi _ hK
    exact hassign l _ W K (fun a' => hK a' W (Kept.refl _ _ _) hi trivial)
  · intro l Q k args a' W _ _ _ _ hi _
    exact hbody l a' W _ (fun a'' => ⟨Kept.refl _ _ _, rfl, hi⟩)
  · intro Q W hi hD
    exact hdone W hi hD
  · rintro c W ⟨rfl, hi⟩ hD
    refine wpIn_wide.2 (wp_exit ?_)
    simp only [Exit.inBlock]
    first | exact hdone W hi hD | (rw [if_pos rfl]; exact hdone W hi hD)

theorem blk_grown {g : Nat} {t : TypeId} {cs : Array Value} {B : Nat} {W W' : World} {row : Option Nat} (h : Blk W g t cs) (hg : W.grownBy W' row) (hr : ∀ r, row = some r → B ≤ r ∧ ∃ o : Obj, W.heap[r]? = some o ∧ o.isCells = false) : Blk W' g t cs := by
  refine h.keep (hg.block g h.lt (fun e => ?_))
  obtain ⟨_, o, ho, hc⟩ := hr g e.symm
  have h2 : W.heap[g]? = some (.cells cs t (0, 0)) := h
  rw [h2] at ho
  injection ho with ho
  subst ho
  cases hc
theorem net_grown {b g : Nat} {v : Value} {room : Int} {l : List Ms} {B : Nat} {W W' : World} {row : Option Nat} (h : Own b W g v room l) (hg : W.grownBy W' row) (hr : ∀ r, row = some r → B ≤ r ∧ ∃ o : Obj, W.heap[r]? = some o ∧ o.isCells = false) : Own b W' g v room l :=
  ⟨⟨blk_grown h.net.blk hg hr, own_grown h.net.own hg hr, fun x hx => own_grown (h.net.msg x hx) hg hr⟩, h.hg, h.hv⟩

/-- Between two rounds of NetRange's walk: the net has as many messages as it had; what it had reads still; the count. -/
structure Ir (b : Nat) (Wq : World) (g : Nat) (v3 : Value) (room : Int) (l3 : List Ms) (t10 : Nat) (d : Int) (Q k : Nat) (W : World) (v : Value) (l : List Ms) (kk : Nat) : Prop where
  own : Own b W g v room l
  len : l.length = l3.length
  short : ∀ x ∈ l, x.raw.length ≤ 140737488351232
  vq : ∀ q, v.ownBlock = some q → v3.ownBlock = some q ∨ Q ≤ q
  lies : ∀ x ∈ l3, x.Lies W
  kp : Kp (fun r => r = t10 ∨ Nb g v3 r) Wq W
  b10 : Blk W t10 3 #[.int .i64 kk]
  le : kk ≤ k
  none_ : ∀ j, kk ≤ j → j < k → ∀ x, l3[j]? = some x → x.dst ≠ d

def IrEx (b : Nat) (Wq : World) (g : Nat) (v3 : Value) (room : Int) (l3 : List Ms) (t10 : Nat) (d : Int) (Q k : Nat) (W : World) : Prop := ∃ v l kk, Ir b Wq g v3 room l3 t10 d Q k W v l kk

theorem IrEx.own {b : Nat} {Wq : World} {g : Nat} {v3 : Value} {room : Int} {l3 : List Ms} {t10 : Nat} {d : Int} (Q : Nat) : OwnFrom Wq.heap.size (IrEx b Wq g v3 room l3 t10 d Q) := by
  rintro k W W' row ⟨v, l, kk, h⟩ hg hr
  have hne : ∀ q, q < Wq.heap.size → some q ≠ row := fun q hq e => by have := (hr q e.symm).1; omega
  have hsz := h.kp.size
  exact ⟨v, l, kk, net_grown h.own hg hr, h.len, h.short, h.vq, fun x hx => own_grown (h.lies x hx) hg hr,
    ⟨hg.os.trans h.kp.os, hg.tape.trans h.kp.tape, hg.output.trans h.kp.output, Nat.le_trans hsz hg.size, fun q hq hn => (hg.block q (by omega) (hne q hq)).trans (h.kp.block q hq hn)⟩, blk_grown h.b10 hg hr, h.le, h.none_⟩

section
variable {b t10 k kk Q g : Nat} {Wq W W1 W2 W3 W4 : World} {v v3 v' vr : Value} {room d : Int} {l l3 rl : List Ms}

theorem Ir.start (hO : Own b Wq g v3 room l3) (hs : ∀ x ∈ l3, x.raw.length ≤ 140737488351232) (h10 : Blk Wq t10 3 #[.int .i64 0]) (hb : Below Wq.heap.size Wq W) : IrEx b Wq g v3 room l3 t10 d Q 0 W :=
  ⟨v3, l3, 0, ⟨hO.net.below hb, hO.hg, hO.hv⟩, rfl, hs, fun _ e => .inl e, fun x hx => (hO.net.below hb).msg x hx, Kp.of_below hb _, h10.below hb, Nat.le_refl _, fun j _ h => absurd h (Nat.not_lt_zero j)⟩

theorem Ir.skip {x : Ms} (hx : l3[k]? = some x) (hd : x.dst ≠ d) (h : IrEx b Wq g v3 room l3 t10 d Q k W) : IrEx b Wq g v3 room l3 t10 d Q (k + 1) W := by
  obtain ⟨v, l, kk, h⟩ := h
  refine ⟨v, l, kk, h.own, h.len, h.short, h.vq, h.lies, h.kp, h.b10, Nat.le_succ_of_le h.le, fun j h1 h2 y hy => ?_⟩
  by_cases hj : j = k
  · subst hj
    rw [hx] at hy
    injection hy with hy
    subst hy
    exact hd
  · exact h.none_ j h1 (by omega) y hy

theorem blk_two {q : Nat} {t : TypeId} {cs : Array Value} (hB : Blk Wq q t cs) (hO : Own b Wq g v3 room l3) (hq : q ≠ t10) (h70 : t ≠ 70) (h67 : t ≠ 67) (hk : Kp (fun r => r = t10 ∨ Nb g v3 r) Wq W) : Blk W q t cs := by
  refine Blk.kp hB hk ?_
  rintro (e | rfl | e)
  · exact hq e
  · exact hB.ne_ hO.net.blk h70 rfl
  · exact own_ne hO.net.own hB (fun h => h67 h) e

theorem rf_two {cs : Array Value} (h : Rf b Wq vr rl) (hO : Own b Wq g v3 room l3) (h10 : Blk Wq t10 3 cs) (hb : b ≤ t10) (hk : Kp (fun r => r = t10 ∨ Nb g v3 r) Wq W) : Rf b W vr rl := by
  refine ⟨own_kp h.own hk ?_, fun x m => (h.safe x m).kp hk ?_ ?_⟩
  · rintro q e (rfl | rfl | e2)
    · exact own_ne h.own h10 (by decide) e
    · exact own_ne h.own hO.net.blk (by decide) e
    · exact own_ne2 h.own hO.net.own (by decide) q e e2
  · rintro q (rfl | e)
    · exact hb
    · exact hO.nb q e
  · rintro hl q e (rfl | e2)
    · exact own_ne hl h10 (by decide) e
    · exact hO.net.not_nb hl q e e2

theorem ir_round (hz : b ≤ Wq.heap.size) (hO : Own b Wq g v3 room l3) (ht : t10 < Wq.heap.size) (hQ : Wq.heap.size ≤ Q) (hQ2 : Q ≤ W.heap.size) (h : Ir b Wq g v3 room l3 t10 d Q k W v l kk)
    (h1 : Kp (fun r => r = t10) W W1) (hB : Blk W1 t10 3 #[.int .i64 ((k : Int) + 1)]) (hl : 0 < l.length)
    (hn : Nt W2 g v' room (l.take 0 ++ l.drop (0 + 1))) (hk2 : Kp (fun r => r = g) W1 W2) (hv' : ∀ q, v'.ownBlock = some q → W1.heap.size ≤ q) (h3 : Below W2.heap.size W2 W3)
    (hS : Sent W3 g v' room (l.take 0 ++ l.drop (0 + 1)) d [1, 2, 3] W4) : Kept Wq.heap.size Q W W4 ∧ IrEx b Wq g v3 room l3 t10 d Q (k + 1) W4 := by
  obtain ⟨v4, u, hn4, hk4, hv4, hu⟩ := hS
  have hg := hO.net.blk.lt
  have s1 := h1.size
  have s2 := hk2.size
  have s3 := h3.size
  have hK14 : Kp (fun r => r = g ∨ v'.ownBlock = some r) W1 W4 := (⟨(hk2.below h3).os, (hk2.below h3).tape, (hk2.below h3).output, (hk2.below h3).size, fun r hr hn => (hk2.below h3).block r hr (fun e => hn (.inl e))⟩ : Kp (fun r => r = g ∨ v'.ownBlock = some r) W1 W3).trans hk4 (fun _ _ e => e)
  have hK : Kp (fun r => r = t10 ∨ r = g) W W4 := by
    refine (⟨h1.os, h1.tape, h1.output, h1.size, fun r hr hn => h1.block r hr (fun e => hn (.inl e))⟩ : Kp (fun r => r = t10 ∨ r = g) W W1).trans hK14 (fun r hr e => ?_)
    rcases e with e | e
    · exact .inr e
    · have := hv' r e
      omega
  have hv4q : ∀ q, v4.ownBlock = some q → W1.heap.size ≤ q := by
    intro q e
    rcases hv4 with e2 | e2
    · exact hv' q (e2 ▸ e)
    · have := e2 q e
      omega
  refine ⟨Kept.kp hK hQ2 (fun r h1 h2 e => by rcases e with e | e <;> omega), v4, _, k + 1, ⟨hn4, h.own.hg, fun q e => by have := hv4q q e; omega⟩, ?_, ?_, fun q e => .inr (by have := hv4q q e; omega), ?_, h.kp.trans hK ?_, ?_, Nat.le_refl _, fun j h1 h2 => by omega⟩
  · have := h.len
    simp only [List.take_zero, List.nil_append, List.length_append, List.length_drop, List.length_cons, List.length_nil]
    omega
  · intro x hx
    rcases List.mem_append.1 hx with hx | hx
    · rcases List.mem_append.1 hx with hx | hx
      · exact h.short x (List.mem_of_mem_take hx)
      · exact h.short x (List.mem_of_mem_drop hx)
    · obtain rfl := List.mem_singleton.1 hx
      show 3 ≤ 140737488351232
      decide
  · intro x hx
    refine Ms.Lies.kp (h.lies x hx) hK (fun q e h2 => ?_)
    rcases h2 with rfl | rfl
    · exact own_ne (h.lies x hx) h.b10 (by decide) e
    · exact own_ne (h.lies x hx) h.own.net.blk (by decide) e
  · rintro r _ (e | e)
    · exact .inl e
    · exact .inr (.inl e)
  · refine Blk.kp hB hK14 ?_
    rintro (e | e)
    · exact h.b10.ne_ h.own.net.blk (by decide) e
    · have := hv' _ e
      have := hB.lt
      have := h.b10.lt
      omega
end

end Go.Proofs.Ytogiedephnappaa.Net
