/- The invariant of the loop of dockyardlaw19.ChunkAll. -/
import Derived.Test.YtkkgnehpokeffaaAllParts
namespace Go.Proofs.Ytkkgnehpokeffaa.Chunk
open Go.RowKit Go.Proofs.Ytkkgnehpokeffaa.Mem Go.Proofs.Ytkkgnehpokeffaa.SlBytes

theorem own_lit_at (w : World) (base : Nat) (e : TypeId) (size g : Nat) (hb : base ≤ w.heap.size) (hg : g = w.heap.size) : (w.alloc (.cells #[] e)).ownsRow base e size (.slice (some ⟨g, 0, none⟩) 0 0) 0 [] := by
  subst hg
  exact World.ownsRow_lit w #[] 0 hb (by unfold maxLen; omega) (by simp)

/-- Behind 'own := append([]byte{}, p.B...)', the piece's box laid ahead of it. -/
theorem after_own {wr w2 : World} {cs : Array Value} {cap0 : Nat} {v' : Value}
    (hg : ((wr.alloc (.cells cs 29)).alloc (.cells #[] 5)).grownBy w2 (Value.slice (some ⟨wr.heap.size + 1, 0, none⟩) 0 cap0).ownBlock)
    (hat : v'.ownBlock = (Value.slice (some ⟨wr.heap.size + 1, 0, none⟩) 0 cap0).ownBlock ∨ v'.ownBlock = some ((wr.alloc (.cells cs 29)).alloc (.cells #[] 5)).heap.size) :
    Blk w2 wr.heap.size 29 cs ∧ Below wr.heap.size wr w2 ∧ ∀ b, v'.ownBlock = some b → wr.heap.size + 1 ≤ b := by
  refine ⟨?_, ?_, ?_⟩
  · refine Blk.grown ((Blk.new wr 29 cs).alloc (.cells #[] 5)) hg ?_
    intro e
    have e : some (wr.heap.size + 1) = some wr.heap.size := e
    injection e with e
    omega
  · refine Below.grown (((Below.refl _ _).alloc (Nat.le_refl _) _).alloc (by simp) _) hg (by simp; omega) ?_
    intro k hk
    have hk : some (wr.heap.size + 1) = some k := hk
    injection hk with hk
    omega
  · intro b hb
    rcases hat with h | h
    · rw [h] at hb
      have hb : some (wr.heap.size + 1) = some b := hb
      injection hb with hb
      omega
    · rw [h] at hb
      injection hb with hb
      simp at hb
      omega

/-- What holds at the head of a round. -/
structure AllInv (w wr : World) (g gf : Nat) (is : Bool) (A6 : Option Addr) (n6 c6 : Nat) (i t wh : Int) (D : Option Addr) (k : Nat) (dat : List Int) : Prop where
  gth : Gth wr g i t wh is D dat.length k dat
  dlt : ∀ b, D.map (·.block) = some b → b < wr.heap.size
  slt : ∀ b, A6.map (·.block) = some b → b < wr.heap.size
  sg : A6.map (·.block) ≠ some g
  dgf : D.map (·.block) ≠ some gf
  box : ∃ oi ot ow oo ob, Blk wr gf 29 #[.int .u64 oi, .int .u64 ot, .int .u64 ow, .int .u64 oo, ob] ∧ (is = true → oi = i ∧ ot = t ∧ ow = wh)
  out : is = false → dat = []
  sl : Sl wr 1 A6 n6 (bcs dat)
  nl : A6 = none → n6 = 0 ∧ c6 = 0
  len : dat.length ≤ 1048576
  bel : Below w.heap.size w wr
  gw : w.heap.size ≤ g
  gfw : w.heap.size ≤ gf

section
variable {w wr w2 w3 : World} {g gf : Nat} {is : Bool} {A6 A2 : Option Addr} {n6 c6 : Nat} {i t wh : Int} {D : Option Addr} {k : Nat} {dat p : List Int} {bx : Array Value} {m k2 : Nat}

theorem mid_bad (h : AllInv w wr g gf is A6 n6 c6 i t wh D k dat) (hb : Below wr.heap.size wr w2) (hx : Blk w2 wr.heap.size 29 bx) (ho : w2.ownsRow wr.heap.size 5 1 (.slice A2 m k2) m (bcs p))
    (hn : ∀ b, (Value.slice A2 m k2).ownBlock = some b → wr.heap.size + 1 ≤ b) (hk : A2.map (·.block) = (Value.slice A2 m k2).ownBlock) :
    ∃ bo, Mid w w2 g gf wr.heap.size bo m bx is A6 n6 i t wh dat is i t wh D k dat ∧ OwnI w2 A2 m bo := by
  obtain ⟨bo, h1, h2⟩ := OwnI.of ho
  obtain ⟨oi, ot, ow, oo, ob, hO, hO2⟩ := h.box
  have hs := hb.size
  refine ⟨bo, ⟨h.gth.below hb, fun b hb' => by have := h.dlt b hb'; omega, h.dgf, hx, ⟨oi, ot, ow, oo, ob, hO.below hb, hO2⟩, h.sl.below hb, h.bel.trans (hb.mono h.bel.size), fun hm => ?_⟩, h1⟩
  have e := hn bo (hk ▸ h2 hm)
  have hg := h.gth.1.lt
  have hz := h.bel.size
  exact ⟨by omega, by omega, fun e2 => by have := h.dlt _ e2; omega, fun e2 => by have := h.slt _ e2; omega⟩

theorem mid_good {D' : Option Addr} {k' : Nat} {idx term whole : Int} {dat' : List Int} (h : AllInv w wr g gf is A6 n6 c6 i t wh D k dat) (hb : Below wr.heap.size wr w2) (hx : Blk w2 wr.heap.size 29 bx) (ho : w2.ownsRow wr.heap.size 5 1 (.slice A2 m k2) m (bcs p))
    (hn : ∀ b, (Value.slice A2 m k2).ownBlock = some b → wr.heap.size + 1 ≤ b) (hk : A2.map (·.block) = (Value.slice A2 m k2).ownBlock)
    (hG : Gth w3 g idx term whole true D' dat'.length k' dat') (hgr : w2.grownBy w3 (some g)) (hD : D' = D ∨ D' = none ∨ ∀ b, D'.map (·.block) = some b → w2.heap.size ≤ b ∧ b < w3.heap.size) :
    ∃ bo, Mid w w3 g gf wr.heap.size bo m bx is A6 n6 i t wh dat true idx term whole D' k' dat' ∧ OwnI w3 A2 m bo := by
  obtain ⟨bo, h1, h2⟩ := OwnI.of ho
  obtain ⟨oi, ot, ow, oo, ob, hO, hO2⟩ := h.box
  have hs := hb.size
  have hs3 := hgr.size
  have hg := h.gth.1.lt
  have hz := h.bel.size
  have hxl := hx.lt
  have hgf : gf ≠ g := hO.ne_ h.gth.1 (by decide)
  have hgfl := hO.lt
  refine ⟨bo, ⟨hG, fun b hb' => ?_, fun e => ?_, hx.grown hgr (fun e => by injection e with e; omega), ⟨oi, ot, ow, oo, ob, (hO.below hb).grown hgr (fun e => by injection e with e; omega), hO2⟩,
    (h.sl.below hb).grown hgr (fun g' e => by injection e with e; subst e; exact h.sg), (h.bel.trans (hb.mono h.bel.size)).grown hgr (by omega) (fun k e => by injection e with e; subst e; exact h.gw), fun hm => ?_⟩, fun hm => ?_⟩
  · rcases hD with hD | hD | hD
    · rw [hD] at hb'; have := h.dlt b hb'; omega
    · rw [hD] at hb'; cases hb'
    · exact (hD b hb').2
  · rcases hD with hD | hD | hD
    · rw [hD] at e; exact h.dgf e
    · rw [hD] at e; cases e
    · have := (hD gf e).1; omega
  · have e := hn bo (hk ▸ h2 hm)
    obtain ⟨_, cur, hB, _⟩ := h1 hm
    have hbl := hB.lt
    refine ⟨by omega, by omega, fun e2 => ?_, fun e2 => by have := h.slt _ e2; omega⟩
    rcases hD with hD | hD | hD
    · rw [hD] at e2; have := h.dlt _ e2; omega
    · rw [hD] at e2; cases e2
    · have := (hD bo e2).1; omega
  · obtain ⟨e0, cur, hB, hc⟩ := h1 hm
    have e := hn bo (hk ▸ h2 hm)
    exact ⟨e0, cur, hB.grown hgr (fun e => by injection e with e; omega), hc⟩

theorem inv_bad {bo : Nat} (h : AllInv w wr g gf is A6 n6 c6 i t wh D k dat) (M : Mid w w2 g gf wr.heap.size bo m bx is A6 n6 i t wh dat is i t wh D k dat) : AllInv w w2 g gf is A6 n6 c6 i t wh D k dat := by
  have hl := M.box.lt
  exact ⟨M.gth, M.dlt, fun b hb => by have := h.slt b hb; omega, h.sg, M.dgf, M.off, h.out, M.sl, h.nl, h.len, M.bel, h.gw, h.gfw⟩

/-- Behind the law's 'of = p': the box of the law's own, its bytes. -/
structure Fin (w wx : World) (g gf gp : Nat) (bx : Array Value) (idx term whole : Int) (D' : Option Addr) (k' : Nat) (dat' : List Int) (A7 : Option Addr) (n7 c7 : Nat) (d0 : List Int) : Prop where
  gth : Gth wx g idx term whole true D' dat'.length k' dat'
  dlt : ∀ b, D'.map (·.block) = some b → b < wx.heap.size
  dgf : D'.map (·.block) ≠ some gf
  box : Blk wx gp 29 bx
  off : ∃ oo ob, Blk wx gf 29 #[.int .u64 idx, .int .u64 term, .int .u64 whole, .int .u64 oo, ob]
  sl : Sl wx 1 A7 n7 (bcs d0)
  slt : ∀ b, A7.map (·.block) = some b → b < wx.heap.size
  sg : A7.map (·.block) ≠ some g
  nl : A7 = none → n7 = 0 ∧ c7 = 0
  bel : Below w.heap.size w wx

theorem Fin.below {gp : Nat} {idx term whole : Int} {D' A7 : Option Addr} {k' n7 c7 : Nat} {dat' d0 : List Int} (h : Fin w w2 g gf gp bx idx term whole D' k' dat' A7 n7 c7 d0) (hb : Below w2.heap.size w2 w3) : Fin w w3 g gf gp bx idx term whole D' k' dat' A7 n7 c7 d0 := by
  obtain ⟨oo, ob, hO⟩ := h.off
  have hs := hb.size
  exact ⟨h.gth.below hb, fun b e => by have := h.dlt b e; omega, h.dgf, h.box.below hb, ⟨oo, ob, hO.below hb⟩, h.sl.below hb, fun b e => by have := h.slt b e; omega, h.sg, h.nl, h.bel.trans (hb.mono h.bel.size)⟩

theorem Fin.own {gp : Nat} {idx term whole : Int} {D' A7 A8 : Option Addr} {k' n7 c7 n8 c8 : Nat} {dat' d0 d1 : List Int} (h : Fin w w2 g gf gp bx idx term whole D' k' dat' A7 n7 c7 d0) (hb : Below w2.heap.size w2 w3)
    (ho : w3.ownsRow w2.heap.size 5 1 (.slice A8 n8 c8) n8 (bcs d1)) : Fin w w3 g gf gp bx idx term whole D' k' dat' A8 n8 c8 d1 := by
  have h' := h.below hb
  obtain ⟨A, c, e, _, _, hn, hs, hk⟩ := Sl.of_own ho
  injection e with e1 e2 e3
  subst e1 e3
  have hg := h.gth.1.lt
  exact ⟨h'.gth, h'.dlt, h'.dgf, h'.box, h'.off, hs, fun b e => (ho.lt b (hk ▸ e)).2, fun e => by have := (ho.lt g (hk ▸ e)).1; omega, hn, h'.bel⟩

theorem Fin.inv {gp : Nat} {idx term whole : Int} {D' A7 : Option Addr} {k' n7 c7 : Nat} {dat' : List Int} (h : Fin w w2 g gf gp bx idx term whole D' k' dat' A7 n7 c7 dat') (hl : dat'.length ≤ 1048576) (hg : w.heap.size ≤ g) (hgf : w.heap.size ≤ gf) :
    AllInv w w2 g gf true A7 n7 c7 idx term whole D' k' dat' := by
  obtain ⟨oo, ob, hO⟩ := h.off
  exact ⟨h.gth, h.dlt, h.slt, h.sg, h.dgf, ⟨_, _, _, oo, ob, hO, fun _ => ⟨rfl, rfl, rfl⟩⟩, fun h => (by cases h), h.sl, h.nl, hl, h.bel, hg, hgf⟩

theorem fin_same {gp bo k' : Nat} {idx term whole : Int} {D' : Option Addr} {dat' : List Int} (h : AllInv w wr g gf true A6 n6 c6 idx term whole D k dat) (M : Mid w w2 g gf wr.heap.size bo m bx true A6 n6 idx term whole dat true idx term whole D' k' dat') (hgp : gp = wr.heap.size) :
    Fin w w2 g gf gp bx idx term whole D' k' dat' A6 n6 c6 dat := by
  subst hgp
  obtain ⟨oi, ot, ow, oo, ob, hO, hO2⟩ := M.off
  obtain ⟨rfl, rfl, rfl⟩ := hO2 rfl
  have hl := M.box.lt
  exact ⟨M.gth, M.dlt, M.dgf, M.box, ⟨oo, ob, hO⟩, M.sl, fun b e => by have := h.slt b e; omega, h.sg, h.nl, M.bel⟩

theorem fin_diff {gp bo k' : Nat} {idx term whole off : Int} {D' PA : Option Addr} {dat' : List Int} {pm pc : Nat} (h : AllInv w wr g gf is A6 n6 c6 i t wh D k dat)
    (M : Mid w w2 g gf wr.heap.size bo m bx is A6 n6 i t wh dat true idx term whole D' k' dat') (hgp : gp = wr.heap.size) :
    Fin w (((((w2.setCell ⟨gf, 0, none⟩ (.int .u64 idx)).setCell ⟨gf, 1, none⟩ (.int .u64 term)).setCell ⟨gf, 2, none⟩ (.int .u64 whole)).setCell ⟨gf, 3, none⟩ (.int .u64 off)).setCell ⟨gf, 4, none⟩ (.slice PA pm pc))
      g gf gp bx idx term whole D' k' dat' none 0 0 [] := by
  subst hgp
  obtain ⟨oi, ot, ow, oo, ob, hO, _⟩ := M.off
  obtain ⟨_, _, _, _, _, hO0, _⟩ := h.box
  have hlt := hO0.lt
  have hne : gf ≠ g := hO.ne_ M.gth.1 (by decide)
  have hnp : wr.heap.size ≠ gf := by omega
  have hgf := h.gfw
  refine ⟨?_, fun b hb => ?_, M.dgf, ?_, ⟨off, .slice PA pm pc, ?_⟩, Sl.nil _ _ _, by simp, by simp, fun _ => ⟨rfl, rfl⟩, ?_⟩
  · exact ((((M.gth.set (p := ⟨gf, 0, none⟩) hne M.dgf _).set (p := ⟨gf, 1, none⟩) hne M.dgf _).set (p := ⟨gf, 2, none⟩) hne M.dgf _).set (p := ⟨gf, 3, none⟩) hne M.dgf _).set (p := ⟨gf, 4, none⟩) hne M.dgf _
  · simpa [World.setCell] using M.dlt b hb
  · exact ((((M.box.far (p := ⟨gf, 0, none⟩) hnp _).far (p := ⟨gf, 1, none⟩) hnp _).far (p := ⟨gf, 2, none⟩) hnp _).far (p := ⟨gf, 3, none⟩) hnp _).far (p := ⟨gf, 4, none⟩) hnp _
  · have hh := ((((hO.set_ 0 (.int .u64 idx)).set_ 1 (.int .u64 term)).set_ 2 (.int .u64 whole)).set_ 3 (.int .u64 off)).set_ 4 (.slice PA pm pc)
    simp only [List.setIfInBounds_toArray, List.set_cons_zero, List.set_cons_succ] at hh
    exact hh
  · exact ((((M.bel.setCell (p := ⟨gf, 0, none⟩) hgf _).setCell (p := ⟨gf, 1, none⟩) hgf _).setCell (p := ⟨gf, 2, none⟩) hgf _).setCell (p := ⟨gf, 3, none⟩) hgf _).setCell (p := ⟨gf, 4, none⟩) hgf _
end

end Go.Proofs.Ytkkgnehpokeffaa.Chunk
