/- Plain parts of the walk of dockyardlaw19.ChunkAll: pieces as cells; Take at whatever piece; the invariant of the law's loop. -/
import Derived.Test.YtkkgnehpokeffaaSwitchWalk
namespace Go.Proofs.Ytkkgnehpokeffaa.Chunk
open Go.RowKit Go.Proofs.Ytkkgnehpokeffaa.Mem Go.Proofs.Ytkkgnehpokeffaa.SlBytes

/-- A piece that is told: its four numbers, and where its bytes p lie. -/
structure Pc where
  idx : Int
  term : Int
  whole : Int
  off : Int
  A : Option Addr
  m : Nat
  c : Nat
  p : List Int

def Pc.cells (P : Pc) : List Value := [.int .u64 P.idx, .int .u64 P.term, .int .u64 P.whole, .int .u64 P.off, .slice P.A P.m P.c]

theorem flat_at : ∀ (ps : List Pc) (i j : Nat) (P : Pc), ps[i]? = some P → j < 5 → (ps.flatMap Pc.cells)[i * 5 + j]? = P.cells[j]?
  | [], _, _, _, h, _ => by simp at h
  | Q :: ps, 0, j, P, h, hj => by
    simp only [List.getElem?_cons_zero, Option.some.injEq] at h
    subst h
    rw [List.flatMap_cons, List.getElem?_append_left (by simp [Pc.cells]; omega)]
    simp
  | Q :: ps, i + 1, j, P, h, hj => by
    have hh : ps[i]? = some P := by simpa using h
    rw [List.flatMap_cons, List.getElem?_append_right (by simp [Pc.cells]; omega), ← flat_at ps i j P hh hj]
    congr 1
    simp [Pc.cells]
    omega

theorem flat_len : ∀ ps : List Pc, (ps.flatMap Pc.cells).length = ps.length * 5
  | [] => rfl
  | P :: ps => by rw [List.flatMap_cons, List.length_append, flat_len ps]; simp [Pc.cells]; omega

/-- What the law and the code have before a piece is looked at: what was gathered of the same snapshot, or nothing. -/
def dat0 (same : Bool) (l : List Int) : List Int := if same = true then l else []
/-- And behind it. -/
def dat1 (off : Int) (l p : List Int) : List Int := if off = (l.length : Int) then l ++ p else l

def Same (i0 i t0 t wh0 wh : Int) (is : Bool) : Bool := i0 == i && (t0 == t && (wh0 == wh && is))

theorem take_good (g : Nat) (i t wh off i0 t0 wh0 : Int) (is0 : Bool) (D : Option Addr) (k : Nat) (l p : List Int) (A : Option Addr) (m c : Nat) (w : World) (hw0 : 0 ≤ wh) (ho0 : 0 ≤ off)
    (hb : ¬ Bad wh off m) (h : Gth w g i0 t0 wh0 is0 D l.length k l) (hl : l.length ≤ 1048576) (hp : Sl w 1 A m (bcs p)) (hA : A.map (·.block) ≠ some g) :
    Calls Try.prog 9 #[.pointer (some ⟨g, 0, none⟩), .int .u64 i, .int .u64 t, .int .u64 wh, .int .u64 off, .slice A m c] w (Took w g i t wh D (dat1 off (dat0 (Same i0 i t0 t wh0 wh is0) l) p)) := by
  unfold Bad at hb
  by_cases hs : Same i0 i t0 t wh0 wh is0 = true
  · rw [hs]
    have hss : i0 = i ∧ t0 = t ∧ wh0 = wh ∧ is0 = true := by unfold Same at hs; simpa using hs
    obtain ⟨rfl, rfl, rfl, rfl⟩ := hss
    unfold dat0
    rw [if_pos rfl]
    by_cases ho : off = (l.length : Int)
    · subst ho
      unfold dat1
      rw [if_pos rfl]
      exact take_same_app g i0 t0 wh0 D l.length k l p A m c w hw0 (by omega) (by omega) (by omega) (by omega) h hp
    · unfold dat1
      rw [if_neg ho]
      exact take_same_ign g i0 t0 wh0 off D l.length k l A m c w hw0 ho0 (by omega) (by omega) (by omega) (by omega) h hl ho
  · have hs' : Same i0 i t0 t wh0 wh is0 = false := by simpa using hs
    rw [hs']
    unfold dat0
    rw [if_neg (by simp)]
    by_cases ho : off = (([] : List Int).length : Int)
    · have ho' : off = 0 := by simpa using ho
      unfold dat1
      rw [if_pos ho]
      subst ho'
      exact take_diff_app g i t wh i0 t0 wh0 is0 D l.length k l p A m c w hw0 (by omega) (by omega) (by omega) h hs' hp hA
    · unfold dat1
      rw [if_neg ho]
      exact take_diff_ign g i t wh off i0 t0 wh0 is0 D l.length k l A m c w hw0 (by simp at ho; omega) (by omega) (by omega) (by omega) (by omega) h hs'

theorem dat_len (wh off : Int) (m : Nat) (same : Bool) (l p : List Int) (hm : p.length = m) (hb : ¬ Bad wh off m) (hl : l.length ≤ 1048576) : (dat1 off (dat0 same l) p).length ≤ 1048576 := by
  unfold Bad at hb
  have h0 : (dat0 same l).length ≤ 1048576 := by unfold dat0; split; exact hl; simp
  unfold dat1
  split
  · rw [List.length_append]; omega
  · exact h0

theorem Gth.set {w : World} {g : Nat} {i t wh : Int} {is : Bool} {D : Option Addr} {k : Nat} {l : List Int} (h : Gth w g i t wh is D l.length k l) {p : Addr} (hg : p.block ≠ g) (hd : D.map (·.block) ≠ some p.block) (u : Value) : Gth (w.setCell p u) g i t wh is D l.length k l :=
  h.keep (Below.heap_setCell w p u g (fun e => hg e.symm)) (fun b hb _ => Below.heap_setCell w p u b (by rintro rfl; exact hd hb))

/-- The own copy of a piece's bytes: a row of the round's own, of bytes, in block bo. -/
def OwnI (wx : World) (A2 : Option Addr) (m bo : Nat) : Prop :=
  0 < m → A2 = some ⟨bo, 0, none⟩ ∧ ∃ cur, Blk wx bo 5 cur ∧ ∀ j, j < m → ∃ x : Int, cur[j]? = some (.int .u8 x)

theorem OwnI.of {w wx : World} {A2 : Option Addr} {m k2 : Nat} {p : List Int} (h : wx.ownsRow w.heap.size 5 1 (.slice A2 m k2) m (bcs p)) : ∃ bo, OwnI wx A2 m bo ∧ (0 < m → A2.map (·.block) = some bo) := by
  rcases h.2 with ⟨h1, h2⟩ | ⟨g, cap, cur, h1, _, hg, _, _, _, ht⟩
  · exact ⟨0, fun h0 => absurd h0 (by omega), fun h0 => absurd h0 (by omega)⟩
  · injection h1 with h1 _ _
    subst h1
    refine ⟨g, fun _ => ⟨rfl, cur, hg, fun j hj => ?_⟩, fun _ => rfl⟩
    have hlen := h.1
    rw [bcs_len] at hlen
    have hj' : j < p.length := by omega
    refine ⟨p[j], ?_⟩
    have e : (cur.toList.take (m * 1))[j]? = (bcs p)[j]? := by rw [ht]
    rw [List.getElem?_take, if_pos (by omega)] at e
    rw [← Array.getElem?_toList, e]
    simp [bcs, List.getElem?_map, List.getElem?_eq_getElem hj']

/-- Between Take and the end of a round. -/
structure Mid (w wx : World) (g gf gp bo : Nat) (m : Nat) (bx : Array Value) (is : Bool) (A6 : Option Addr) (n6 : Nat) (i t wh : Int) (dat : List Int) (is' : Bool) (i' t' wh' : Int) (D' : Option Addr) (k' : Nat) (dat' : List Int) : Prop where
  gth : Gth wx g i' t' wh' is' D' dat'.length k' dat'
  dlt : ∀ b, D'.map (·.block) = some b → b < wx.heap.size
  dgf : D'.map (·.block) ≠ some gf
  box : Blk wx gp 29 bx
  off : ∃ oi ot ow oo ob, Blk wx gf 29 #[.int .u64 oi, .int .u64 ot, .int .u64 ow, .int .u64 oo, ob] ∧ (is = true → oi = i ∧ ot = t ∧ ow = wh)
  sl : Sl wx 1 A6 n6 (bcs dat)
  bel : Below w.heap.size w wx
  far : 0 < m → w.heap.size ≤ bo ∧ bo ≠ g ∧ D'.map (·.block) ≠ some bo ∧ A6.map (·.block) ≠ some bo

theorem Mid.set {w wx : World} {g gf gp bo m : Nat} {bx : Array Value} {is is' : Bool} {A6 D' : Option Addr} {n6 k' : Nat} {i t wh i' t' wh' : Int} {dat dat' : List Int}
    (h : Mid w wx g gf gp bo m bx is A6 n6 i t wh dat is' i' t' wh' D' k' dat') (A2 : Option Addr) (ho : OwnI wx A2 m bo) (j : Nat) (hj : j < m) (x : Int) :
    Mid w (wx.setCell ⟨bo, j, none⟩ (.int .u8 x)) g gf gp bo m bx is A6 n6 i t wh dat is' i' t' wh' D' k' dat' ∧ OwnI (wx.setCell ⟨bo, j, none⟩ (.int .u8 x)) A2 m bo := by
  obtain ⟨e, cur, hB, hc⟩ := ho (by omega)
  obtain ⟨f1, f2, f3, f4⟩ := h.far (by omega)
  obtain ⟨oi, ot, ow, oo, ob, hO, hO2⟩ := h.off
  have n1 : gp ≠ bo := h.box.ne_ hB (by decide)
  have n2 : gf ≠ bo := hO.ne_ hB (by decide)
  refine ⟨⟨h.gth.set (p := ⟨bo, j, none⟩) f2 f3 _, fun b hb => by simpa [World.setCell] using h.dlt b hb, h.dgf, h.box.far (p := ⟨bo, j, none⟩) n1 _, ⟨oi, ot, ow, oo, ob, hO.far (p := ⟨bo, j, none⟩) n2 _, hO2⟩, h.sl.setCell (p := ⟨bo, j, none⟩) f4 _, h.bel.setCell (p := ⟨bo, j, none⟩) f1 _, h.far⟩, fun _ => ⟨e, cur.setIfInBounds j (.int .u8 x), hB.set_ j _, fun a ha => ?_⟩⟩
  by_cases haj : a = j
  · subst haj
    obtain ⟨y, hy⟩ := hc a ha
    have : a < cur.size := (Array.getElem?_eq_some_iff.1 hy).1
    exact ⟨x, by simp [this]⟩
  · obtain ⟨y, hy⟩ := hc a ha
    exact ⟨y, by rw [Array.getElem?_setIfInBounds, if_neg (fun e => haj e.symm)]; exact hy⟩

end Go.Proofs.Ytkkgnehpokeffaa.Chunk
