/- Contracts of the law's asked and stands. -/
import Derived.Test.YtogiedephnappaaRefDouble
import Derived.Test.YtogiedephnappaaBegun
namespace Go.Proofs.Ytogiedephnappaa.Net
open Go.RowKit Go.Proofs.Ytogiedephnappaa.Mem

/-- The net's list and the reference's are of the same messages. -/
def Same (l rl : List Ms) : Prop := l.map (fun x => (x.dst, x.raw)) = rl.map (fun x => (x.dst, x.raw))

theorem Same.len {l rl : List Ms} (h : Same l rl) : l.length = rl.length := by
  have := congrArg List.length h
  simpa using this
theorem Same.get {l rl : List Ms} (h : Same l rl) {k : Nat} {x : Ms} (hx : l[k]? = some x) : ∃ y, rl[k]? = some y ∧ y.dst = x.dst ∧ y.raw = x.raw := by
  have hl := h.len
  have hk : k < rl.length := by rw [← hl]; exact (List.getElem?_eq_some_iff.1 hx).1
  refine ⟨rl[k], List.getElem?_eq_getElem hk, ?_⟩
  have := congrArg (fun z => z[k]?) h
  simp only [List.getElem?_map, hx, List.getElem?_eq_getElem hk, Option.map_some, Option.some.injEq, Prod.mk.injEq] at this
  exact ⟨this.1.symm, this.2.symm⟩
theorem Same.nil : Same [] [] := rfl
theorem Same.app {l rl l' rl' : List Ms} (h : Same l rl) (h' : Same l' rl') : Same (l ++ l') (rl ++ rl') := by
  unfold Same at *
  rw [List.map_append, List.map_append, h, h']
theorem Same.one {x y : Ms} (h1 : x.dst = y.dst) (h2 : x.raw = y.raw) : Same [x] [y] := by simp [Same, h1, h2]
theorem Same.out {l rl : List Ms} (h : Same l rl) (k : Nat) : Same (l.take k ++ l.drop (k + 1)) (rl.take k ++ rl.drop (k + 1)) := by
  unfold Same at *
  simp only [List.map_append, List.map_take, List.map_drop, h]

section
variable {b : Nat} {rl : List Ms} (w : World) (room : Int) (A : Option Addr) (c : Nat)

theorem asked_no (i : Int) (hi : i < 0 ∨ (rl.length : Int) ≤ i) :
    Calls Try.prog 31 #[.int .i64 0, .slice none 0 0, .bool false, .agg #[.int .i64 room, .slice A rl.length c], .int .i64 i] w fun e w' => e = .returned (.bool true) ∧ Below w.heap.size w w' := by
  have HT := Lib.hid (fun w => ref_there_no w room A rl.length c i hi)
  clear hi
  go_enter Try.func31, Try.ntmps31
  go_wp2_with fail
  refine (HT.out _).mono ?_
  rintro e w1 ⟨rfl, hb1⟩
  have HB : Hid (Below w.heap.size w w1) := ((Below.refl _ w).alloc (Nat.le_refl _) _).trans (hb1.mono (by simp))
  clear hb1 HT
  go_wp2
  go_ret
  exact ⟨rfl, HB.out⟩

set_option maxHeartbeats 800000 in
theorem asked_yes (k : Nat) (x y : Ms) (hy : rl[k]? = some y) (h1 : y.dst = x.dst) (h2 : y.raw = x.raw) (hR : Rf b w (.slice A rl.length c) rl) (U : Option Addr) (cu : Nat) (hU : Sl w 1 U x.raw.length (bcs x.raw)) :
    Calls Try.prog 31 #[.int .i64 x.dst, .slice U x.raw.length cu, .bool true, .agg #[.int .i64 room, .slice A rl.length c], .int .i64 k] w fun e w' => e = .returned (.bool true) ∧ Below w.heap.size w w' := by
  have hk : k < rl.length := (List.getElem?_eq_some_iff.1 hy).1
  have HT := Lib.hid (fun w => ref_there_yes w room A rl.length c k hk)
  have hsl : Sl w 2 A rl.length (rl.flatMap Ms.cells) := by
    obtain ⟨A', c', e, _, _, h⟩ := hR.slice
    injection e with e1 _ _
    subst e1
    exact h
  obtain ⟨C, cc, hv, hcs, _⟩ := (hR.safe y (List.mem_of_getElem? hy)).reads
  obtain ⟨bi, oi, rfl, x0⟩ := hsl.at_ (j := k * 2 + 0) (u := .int .i64 y.dst) (by rw [flat_at rl k 0 y hy (by omega)]; rfl)
  obtain ⟨b', o', e', x1⟩ := hsl.at_ (j := k * 2 + 1) (u := y.v) (by rw [flat_at rl k 1 y hy (by omega)]; rfl)
  injection e' with e'
  injection e' with e1 e2
  subst e1 e2
  rw [hv, h2] at x1
  rw [h1, Nat.add_zero] at x0
  rw [← Nat.add_assoc] at x1
  rw [h2] at hcs
  have hki : (k : Int) < (rl.length : Int) := by omega
  have HC := Lib.hid hcs
  have HU := Lib.hid hU
  have X0 := Lib.hid x0
  have X1 := Lib.hid x1
  clear hR hsl hv hcs hU x0 x1 h1 h2 hy
  go_enter Try.func31, Try.ntmps31
  go_wp2_with fail
  refine (HT.out _).mono ?_
  rintro e w1 ⟨rfl, hb1⟩
  have p1 : w1.cell? ⟨w.heap.size, 1, none⟩ = some (.slice (some ⟨bi, oi, none⟩) rl.length c) := (hb1.cell (p := ⟨w.heap.size, 1, none⟩) (by simp)).trans (by simp)
  have HB : Hid (Below w.heap.size w w1) := ((Below.refl _ w).alloc (Nat.le_refl _) _).trans (hb1.mono (by simp))
  have y0 : w1.cell? ⟨bi, oi + k * 2, none⟩ = some (.int .i64 x.dst) := (HB.out.cell (p := ⟨bi, oi + k * 2, none⟩) (block_lt X0.out)).trans X0.out
  have y1 : w1.cell? ⟨bi, oi + k * 2 + 1, none⟩ = some (.slice C x.raw.length cc) := (HB.out.cell (p := ⟨bi, oi + k * 2 + 1, none⟩) (block_lt X1.out)).trans X1.out
  have hs1 := fun j => run_string_of (P := Try.prog) (w1.drewN j) 35 5 Try.underlying35 Try.underlying5 U _ cu _ ((HU.out.below HB.out).drewN j) 9 Try.underlying9
  have hs2 := fun j => run_string_of (P := Try.prog) (w1.drewN j) 35 5 Try.underlying35 Try.underlying5 C _ cc _ ((HC.out.below HB.out).drewN j) 9 Try.underlying9
  clear hb1 HT
  go_wp2_with fail
  go_quiet (fail)
  go_wp2_with fail
  go_ret
  exact ⟨rfl, below_drewN HB.out _⟩

set_option maxRecDepth 100000 in
set_option maxHeartbeats 1600000 in
theorem stands (g : Nat) (v : Value) (nroom : Int) (l : List Ms) (hN : Nt w g v nroom l) (hR : Rf b w (.slice A rl.length c) rl) (hSame : Same l rl) (hSh : ∀ x ∈ l, x.raw.length ≤ 140737488351232) (hlen : l.length ≤ 7000000000000) :
    Calls Try.prog 18 #[.pointer (some ⟨g, 0, none⟩), .agg #[.int .i64 room, .slice A rl.length c]] w fun e w' => e = .returned (.bool true) ∧ Below w.heap.size w w' := by
  have HN := Lib.hid hN
  have HR := Lib.hid hR
  have HS := Lib.hid hSame
  have HSh := Lib.hid hSh
  have HSL : Hid (Sl w 2 A rl.length (rl.flatMap Ms.cells)) := by
    obtain ⟨A', c', e, _, _, h⟩ := hR.slice
    injection e with e1 _ _
    subst e1
    exact h
  have hl2 : (rl.length : Int) ≤ 7000000000000 := by have := hSame.len; omega
  have HLN : Hid (l.length = rl.length) := hSame.len
  have HB0 : Hid (Blk (w.alloc (.cells #[.int .i64 room, .slice A rl.length c] 28)) w.heap.size 28 #[.int .i64 room, .slice A rl.length c]) := Blk.new _ _ _
  have HB1 : Hid (Below w.heap.size w (w.alloc (.cells #[.int .i64 room, .slice A rl.length c] 28))) := (Below.refl _ _).alloc (Nat.le_refl _) _
  clear hN hR hSame hSh hlen
  go_enter Try.func18, Try.ntmps18
  go_wp2_with fail
  go_loopw [16] (fun v16 wr => ∃ j : Nat, v16 = .int .i64 j ∧ j ≤ rl.length ∧ Hid (Below w.heap.size w wr) ∧ Hid (Blk wr w.heap.size 28 #[.int .i64 room, .slice A rl.length c])) (fun v16 _ => rl.length - (intOf v16).toNat)
  case atStart => exact ⟨0, rfl, Nat.zero_le _, HB1, HB0⟩
  case round =>
    obtain ⟨j, rfl, hj, HB, HBk⟩ := hrel
    clear HB0 HB1
    have HZ : w.heap.size < wr.heap.size := HBk.out.lt
    by_cases hjl : j < rl.length
    · obtain ⟨x, hx⟩ : ∃ x, l[j]? = some x := ⟨_, List.getElem?_eq_getElem (by rw [HLN.out]; exact hjl)⟩
      obtain ⟨y, hy, h1, h2⟩ := HS.out.get hx
      obtain ⟨C, cc, hv, hcs, _⟩ := ((HR.out.safe y (List.mem_of_getElem? hy)).below HB.out).reads
      obtain ⟨bi, oi, rfl, x0⟩ := (HSL.out.below HB.out).at_ (j := j * 2 + 0) (u := .int .i64 y.dst) (by rw [flat_at rl j 0 y hy (by omega)]; rfl)
      obtain ⟨b', o', e', x1⟩ := (HSL.out.below HB.out).at_ (j := j * 2 + 1) (u := y.v) (by rw [flat_at rl j 1 y hy (by omega)]; rfl)
      injection e' with e'
      injection e' with e1 e2
      subst e1 e2
      rw [hv, h2] at x1
      rw [h1, Nat.add_zero] at x0
      rw [← Nat.add_assoc] at x1
      rw [h2] at hcs
      have HC := Lib.hid hcs
      have HX := Lib.hid hx
      have hxs := HSh.out x (List.mem_of_getElem? hx)
      clear hcs hx hy h1 h2 hv
      go_wp2_with fail
      have HNW : Hid (Nt (wr.alloc (.cells #[.int .i64 x.dst, .slice C x.raw.length cc] 37)) g v nroom l) := (HN.out.below HB.out).below ((Below.refl _ _).alloc (Nat.le_refl _) _)
      refine (at_yes _ g v nroom l HNW.out j x HX.out (by omega)).mono ?_
      rintro e W3 ⟨u, rfl, hown, hbel⟩
      obtain ⟨U, cu, rfl, _, _, _, hsl, _⟩ := Sl.of_own hown
      have HB3 : Hid (Below wr.heap.size wr W3) := ((Below.refl _ _).alloc (Nat.le_refl _) _).trans (hbel.mono (by simp))
      have HBw : Hid (Below w.heap.size w W3) := HB.out.trans (HB3.out.mono HB.out.size)
      have HBk3 := Lib.hid (HBk.out.below HB3.out)
      have z0 : W3.cell? ⟨wr.heap.size, 0, none⟩ = some (.int .i64 x.dst) := (hbel.cell (p := ⟨wr.heap.size, 0, none⟩) (by simp)).trans (by simp)
      have z1 : W3.cell? ⟨wr.heap.size, 1, none⟩ = some (.slice C x.raw.length cc) := (hbel.cell (p := ⟨wr.heap.size, 1, none⟩) (by simp)).trans (by simp)
      have hs1 := run_string_of (P := Try.prog) W3 35 5 Try.underlying35 Try.underlying5 U _ cu _ hsl 9 Try.underlying9
      have hs2 := run_string_of (P := Try.prog) W3 35 5 Try.underlying35 Try.underlying5 C _ cc _ (HC.out.below HB3.out) 9 Try.underlying9
      clear hown hbel hsl HNW HB HBk HB3 HC x0 x1
      go_wp2_with fail
      go_roundw
      case rel => exact ⟨j + 1, by go_num, by omega, HBw, HBk3⟩
      case measure => simp [intOf]; omega
    · obtain rfl : j = rl.length := by omega
      have p1 : wr.cell? ⟨w.heap.size, 1, none⟩ = some (.slice A rl.length c) := (HBk.out.cell 1).trans rfl
      have HT := Lib.hid (at_no wr g v nroom l (HN.out.below HB.out) (rl.length : Int) (.inr (by have := HLN.out; omega)))
      have hL := fun n => len (wr.drewN n) g v nroom l ((HN.out.below HB.out).below (below_drewN (Below.refl _ _) n))
      rw [HLN.out] at hL
      have HL := Lib.hid hL
      clear hL
      go_wp2_with fail
      refine HT.out.mono ?_
      rintro e W3 ⟨rfl, rfl⟩
      clear HT
      go_wp2_with fail
      go_quiet ((go_at_call 17; exact Calls.quiet_of_same (HL.out _)))
      go_wp2_with fail
      go_ret
      exact ⟨rfl, below_drewN HB.out _⟩
end

end Go.Proofs.Ytogiedephnappaa.Net
