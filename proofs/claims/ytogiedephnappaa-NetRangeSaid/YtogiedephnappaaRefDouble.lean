/- Contracts of the reference's Send (whichever way) and Double. -/
import Derived.Test.YtogiedephnappaaRefOut
import Derived.Deep.RegionHeld3
namespace Go.Proofs.Ytogiedephnappaa.Net
open Go.RowKit Go.Proofs.Ytogiedephnappaa.Mem

/-- The reference's list behind Send, and the answer. -/
def put (room : Int) (rl : List Ms) (x : Ms) : List Ms := if (rl.length : Int) < room then rl ++ [x] else rl
def code (room : Int) (rl : List Ms) : Int := if (rl.length : Int) < room then 0 else 30

/-- What the reference's Send leaves. -/
def RSent (b : Nat) (w : World) (room : Int) (rl' : List Ms) (z : Int) (e : Ending) (w' : World) : Prop :=
  ∃ D m cD, e = .returned (.tuple #[.agg #[.int .i64 room, .slice D m cD], .int .i64 z]) ∧ Below w.heap.size w w' ∧ Rf b w' (.slice D m cD) rl'

theorem rf_set {b : Nat} {w : World} {vr : Value} {rl : List Ms} {t : TypeId} {cs : Array Value} (h : Rf b w vr rl) {p : Addr} (hB : Blk w p.block t cs) (h37 : t ≠ 37) (h5 : t ≠ 5) (hb : b ≤ p.block) (u : Value) : Rf b (w.setCell p u) vr rl := by
  have hk : Kp (fun k => k = p.block) w (w.setCell p u) := (Kp.refl (fun k => k = p.block) w).set (p := p) (.inl rfl) u
  exact ⟨own_set h.own (own_ne h.own hB h37) u, fun x hx => (h.safe x hx).kp hk (fun k e => e ▸ hb) (fun hl k e e2 => own_ne hl hB h5 (e2 ▸ e))⟩

section
variable {b : Nat} {rl : List Ms} (w : World) (room : Int) (A : Option Addr) (c : Nat)

theorem ref_send (x : Ms) (hR : Rf b w (.slice A rl.length c) rl) (hx : x.Safe b w) (hl : rl.length < 7000000000000) (hb : b ≤ w.heap.size) :
    Calls Try.prog 30 #[.agg #[.int .i64 room, .slice A rl.length c], .int .i64 x.dst, x.v] w (RSent b w room (put room rl x) (code room rl)) := by
  by_cases h : (rl.length : Int) < room
  · refine (ref_send_ok w room A c h x hR hx hl hb).mono ?_
    rintro e w' ⟨v', rfl, h1, h2⟩
    obtain ⟨D, cD, rfl, _⟩ := h1.slice
    refine ⟨D, (rl ++ [x]).length, cD, ?_, h2, ?_⟩
    · unfold code; rw [if_pos h]
    · unfold put; rw [if_pos h]; exact h1
  · refine (ref_send_full w room A rl.length c (by omega) x.dst x.v).mono ?_
    rintro e w' ⟨rfl, h2⟩
    refine ⟨A, rl.length, c, ?_, h2, ?_⟩
    · unfold code; rw [if_neg h]
    · unfold put; rw [if_neg h]; exact hR.below h2

theorem ref_double_no (n : Nat) (i : Int) (hi : i < 0 ∨ (n : Int) ≤ i) :
    Calls Try.prog 34 #[.agg #[.int .i64 room, .slice A n c], .int .i64 i] w fun e w' => e = .returned (.tuple #[.agg #[.int .i64 room, .slice A n c], .int .i64 31]) ∧ Below w.heap.size w w' := by
  have HT := Lib.hid (fun w => ref_there_no w room A n c i hi)
  clear hi
  go_enter Try.func34, Try.ntmps34
  go_wp2_with fail
  refine (HT.out _).mono ?_
  rintro e w1 ⟨rfl, hb1⟩
  have hz := hb1.size
  have p0 : w1.cell? ⟨w.heap.size, 0, none⟩ = some (.int .i64 room) := (hb1.cell (p := ⟨w.heap.size, 0, none⟩) (by simp; omega)).trans (by simp)
  have p1 : w1.cell? ⟨w.heap.size, 1, none⟩ = some (.slice A n c) := (hb1.cell (p := ⟨w.heap.size, 1, none⟩) (by simp; omega)).trans (by simp)
  have q3 : w1.frozen? ⟨w.heap.size + 1, 0, none⟩ = false := (hb1.frozen (p := ⟨w.heap.size + 1, 0, none⟩) (by simp)).trans (by simp)
  have q4 : w1.frozen? ⟨w.heap.size + 1, 1, none⟩ = false := (hb1.frozen (p := ⟨w.heap.size + 1, 1, none⟩) (by simp)).trans (by simp)
  have q5 : w1.cell? ⟨w.heap.size + 1, 0, none⟩ = some (.int .i64 0) := (hb1.cell (p := ⟨w.heap.size + 1, 0, none⟩) (by simp)).trans (by simp)
  have q6 : w1.cell? ⟨w.heap.size + 1, 1, none⟩ = some (.slice none 0 0) := (hb1.cell (p := ⟨w.heap.size + 1, 1, none⟩) (by simp)).trans (by simp)
  have HB := Lib.hid ((((Below.refl _ w).alloc (Nat.le_refl _) (.cells #[.int .i64 room, .slice A n c] 28)).alloc (by simp) (.cells #[.int .i64 0, .slice none 0 0] 28)).trans (hb1.mono (by simp; omega)))
  clear hb1 HT
  go_wp2
  exact bodyPost_ret (v := .tuple #[.agg #[.int .i64 room, .slice A n c], .int .i64 31]) (by simp [results, Try.results34, go_sem, q5, q6]) rfl ⟨rfl, (HB.out.setCell (by simp) _).setCell (by simp) _⟩

set_option linter.unusedSimpArgs false in
set_option maxRecDepth 100000 in
set_option maxHeartbeats 800000 in
theorem ref_double (k : Nat) (x : Ms) (hx : rl[k]? = some x) (hR : Rf b w (.slice A rl.length c) rl) (hl : rl.length < 7000000000000) (hb : b ≤ w.heap.size) :
    Calls Try.prog 34 #[.agg #[.int .i64 room, .slice A rl.length c], .int .i64 k] w (RSent b w room (put room rl x) (code room rl)) := by
  have hk : k < rl.length := (List.getElem?_eq_some_iff.1 hx).1
  have HT := Lib.hid (fun w => ref_there_yes w room A rl.length c k hk)
  have hsl : Sl w 2 A rl.length (rl.flatMap Ms.cells) := by
    obtain ⟨A', c', e, _, _, h⟩ := hR.slice
    injection e with e1 _ _
    subst e1
    exact h
  have hsx := hR.safe x (List.mem_of_getElem? hx)
  obtain ⟨C, cc, hv, _, _⟩ := hsx.reads
  obtain ⟨bi, oi, rfl, x0⟩ := hsl.at_ (j := k * 2 + 0) (u := .int .i64 x.dst) (by rw [flat_at rl k 0 x hx (by omega)]; rfl)
  obtain ⟨b', o', e', x1⟩ := hsl.at_ (j := k * 2 + 1) (u := x.v) (by rw [flat_at rl k 1 x hx (by omega)]; rfl)
  injection e' with e'
  injection e' with e1 e2
  subst e1 e2
  have HSD := Lib.hid (fun w hR hx hb => ref_send (b := b) (rl := rl) w room (some ⟨bi, oi, none⟩) c x hR hx hl hb)
  rw [hv] at x1 HSD
  rw [Nat.add_zero] at x0
  rw [← Nat.add_assoc] at x1
  have HR := Lib.hid hR
  have HX := Lib.hid hsx
  have hki : (k : Int) < (rl.length : Int) := by omega
  have X0 := Lib.hid x0
  have X1 := Lib.hid x1
  clear hR hsx hsl hv hx x0 x1
  go_enter Try.func34, Try.ntmps34
  go_wp2_with fail
  refine (HT.out _).mono ?_
  rintro e w1 ⟨rfl, hb1⟩
  have hz := hb1.size
  have hzs : w.heap.size + 2 ≤ w1.heap.size := by simpa using hz
  have B4 : Hid (Blk w1 (w.heap.size + 1) 28 #[.int .i64 0, .slice none 0 0]) := by
    have h6 := Blk.new (w.alloc (.cells #[.int .i64 room, .slice (some ⟨bi, oi, none⟩) rl.length c] 28)) 28 #[.int .i64 0, .slice none 0 0]
    have h6s : (w.alloc (.cells #[.int .i64 room, .slice (some ⟨bi, oi, none⟩) rl.length c] 28)).heap.size = w.heap.size + 1 := by simp
    rw [h6s] at h6
    exact h6.below hb1
  have hbi : bi < w.heap.size := block_lt X0.out
  have HB := Lib.hid ((((Below.refl _ w).alloc (Nat.le_refl _) (.cells #[.int .i64 room, .slice (some ⟨bi, oi, none⟩) rl.length c] 28)).alloc (by simp) (.cells #[.int .i64 0, .slice none 0 0] 28)).trans (hb1.mono (by simp; omega)))
  have hS0 : w1.drew.cell? ⟨w.heap.size, 0, none⟩ = some (.int .i64 room) ∧ w1.drew.cell? ⟨w.heap.size, 1, none⟩ = some (.slice (some ⟨bi, oi, none⟩) rl.length c) ∧ w1.drew.cell? ⟨bi, oi + k * 2, none⟩ = some (.int .i64 x.dst) ∧ w1.drew.cell? ⟨bi, oi + k * 2 + 1, none⟩ = some (.slice C x.raw.length cc) :=
    ⟨(hb1.cell (p := ⟨w.heap.size, 0, none⟩) (by simp; omega)).trans (by simp), (hb1.cell (p := ⟨w.heap.size, 1, none⟩) (by simp; omega)).trans (by simp), (HB.out.cell (p := ⟨bi, oi + k * 2, none⟩) (block_lt X0.out)).trans X0.out, (HB.out.cell (p := ⟨bi, oi + k * 2 + 1, none⟩) (block_lt X1.out)).trans X1.out⟩
  clear hb1 hz HT
  go_wp2_with fail

  refine wp_region_held_drew (S := fun w' => w'.cell? ⟨w.heap.size, 0, none⟩ = some (.int .i64 room) ∧ w'.cell? ⟨w.heap.size, 1, none⟩ = some (.slice (some ⟨bi, oi, none⟩) rl.length c) ∧ w'.cell? ⟨bi, oi + k * 2, none⟩ = some (.int .i64 x.dst) ∧ w'.cell? ⟨bi, oi + k * 2 + 1, none⟩ = some (.slice C x.raw.length cc)) (by kernel_rfl) hS0 (fun hHeld => ?_)
  refine wpAnyH_take (i := 0) (v := ?_) rfl (by kernel_rfl) (by kernel_rfl) (by kernel_rfl) (fun _ _ _ h => h) (Or.inl ⟨by rfl, ?_⟩) hS0 ?_
  rotate_left
  · intro w hSw; obtain ⟨s0, s1, s2, s3⟩ := hSw; first | (go_simp; done) | (go_simp; with_reducible rfl)
  try simp only [List.getElem_toArray, List.getElem_cons_zero, List.getElem_cons_succ, Act.put, List.setIfInBounds_toArray, List.set_cons_zero, List.set_cons_succ]
  refine wpAnyH_take (i := 1) (v := ?_) rfl (by kernel_rfl) (by kernel_rfl) (by kernel_rfl) (fun _ _ _ h => h) (Or.inl ⟨by rfl, ?_⟩) hS0 ?_
  rotate_left
  · intro w hSw; obtain ⟨s0, s1, s2, s3⟩ := hSw; first | (go_simp; done) | (go_simp; with_reducible rfl)
  try simp only [List.getElem_toArray, List.getElem_cons_zero, List.getElem_cons_succ, Act.put, List.setIfInBounds_toArray, List.set_cons_zero, List.set_cons_succ]
  refine wpAnyH_take (i := 2) (v := ?_) rfl (by kernel_rfl) (by kernel_rfl) (by kernel_rfl) (fun _ _ _ h => h) (Or.inl ⟨by rfl, ?_⟩) hS0 ?_
  rotate_left
  · intro w hSw; obtain ⟨s0, s1, s2, s3⟩ := hSw; first | (go_simp; done) | (go_simp; with_reducible rfl)
  try simp only [List.getElem_toArray, List.getElem_cons_zero, List.getElem_cons_succ, Act.put, List.setIfInBounds_toArray, List.set_cons_zero, List.set_cons_succ]
  refine wpAnyH_take (i := 3) (v := ?_) rfl (by kernel_rfl) (by kernel_rfl) (by kernel_rfl) (fun _ _ _ h => h) (Or.inl ⟨by rfl, ?_⟩) hS0 ?_
  rotate_left
  · intro w hSw; obtain ⟨s0, s1, s2, s3⟩ := hSw; first | (go_simp; done) | (go_simp; with_reducible rfl)
  try simp only [List.getElem_toArray, List.getElem_cons_zero, List.getElem_cons_succ, Act.put, List.setIfInBounds_toArray, List.set_cons_zero, List.set_cons_succ]
  refine wpAnyH_take (i := 4) (v := ?_) rfl (by kernel_rfl) (by kernel_rfl) (by kernel_rfl) (fun _ _ _ h => h) (Or.inl ⟨by rfl, ?_⟩) hS0 ?_
  rotate_left
  · intro w hSw; obtain ⟨s0, s1, s2, s3⟩ := hSw; first | (go_simp; done) | (go_simp; with_reducible rfl)
  try simp only [List.getElem_toArray, List.getElem_cons_zero, List.getElem_cons_succ, Act.put, List.setIfInBounds_toArray, List.set_cons_zero, List.set_cons_succ]
  refine wpAnyH_take (i := 5) (v := ?_) rfl (by kernel_rfl) (by kernel_rfl) (by kernel_rfl) (fun _ _ _ h => h) (Or.inl ⟨by rfl, ?_⟩) hS0 ?_
  rotate_left
  · intro w hSw; obtain ⟨s0, s1, s2, s3⟩ := hSw; first | (go_simp; done) | (go_simp; with_reducible rfl)
  try simp only [List.getElem_toArray, List.getElem_cons_zero, List.getElem_cons_succ, Act.put, List.setIfInBounds_toArray, List.set_cons_zero, List.set_cons_succ]
  refine wpAnyH_take (i := 6) (v := ?_) rfl (by kernel_rfl) (by kernel_rfl) (by kernel_rfl) (fun _ _ _ h => h) (Or.inl ⟨by rfl, ?_⟩) hS0 ?_
  rotate_left
  · intro w hSw; obtain ⟨s0, s1, s2, s3⟩ := hSw; first | (go_simp; done) | (go_simp; with_reducible rfl)
  try simp only [List.getElem_toArray, List.getElem_cons_zero, List.getElem_cons_succ, Act.put, List.setIfInBounds_toArray, List.set_cons_zero, List.set_cons_succ]
  refine wpAnyH_take (i := 7) (v := ?_) rfl (by kernel_rfl) (by kernel_rfl) (by kernel_rfl) (fun _ _ _ h => h) (Or.inl ⟨by rfl, ?_⟩) hS0 ?_
  rotate_left
  · intro w hSw; obtain ⟨s0, s1, s2, s3⟩ := hSw; first | (go_simp; done) | (go_simp; with_reducible rfl)
  try simp only [List.getElem_toArray, List.getElem_cons_zero, List.getElem_cons_succ, Act.put, List.setIfInBounds_toArray, List.set_cons_zero, List.set_cons_succ]
  refine wpAnyH_take (i := 8) (v := ?_) rfl (by kernel_rfl) (by kernel_rfl) (by kernel_rfl) (fun _ _ _ h => h) (Or.inl ⟨by rfl, ?_⟩) hS0 ?_
  rotate_left
  · intro w hSw; obtain ⟨s0, s1, s2, s3⟩ := hSw; first | (go_simp; done) | (go_simp; with_reducible rfl)
  try simp only [List.getElem_toArray, List.getElem_cons_zero, List.getElem_cons_succ, Act.put, List.setIfInBounds_toArray, List.set_cons_zero, List.set_cons_succ]
  refine wpAnyH_take (i := 9) (v := ?_) rfl (by kernel_rfl) (by kernel_rfl) (by kernel_rfl) (fun _ _ _ h => h) (Or.inl ⟨by rfl, ?_⟩) hS0 ?_
  rotate_left
  · intro w hSw; obtain ⟨s0, s1, s2, s3⟩ := hSw; first | (go_simp; done) | (go_simp; with_reducible rfl)
  try simp only [List.getElem_toArray, List.getElem_cons_zero, List.getElem_cons_succ, Act.put, List.setIfInBounds_toArray, List.set_cons_zero, List.set_cons_succ]
  refine wpAnyH_take (i := 10) (v := ?_) rfl (by kernel_rfl) (by kernel_rfl) (by kernel_rfl) (fun _ _ _ h => h) (Or.inl ⟨by rfl, ?_⟩) hS0 ?_
  rotate_left
  · intro w hSw; obtain ⟨s0, s1, s2, s3⟩ := hSw; first | (go_simp; done) | (go_simp; with_reducible rfl)
  try simp only [List.getElem_toArray, List.getElem_cons_zero, List.getElem_cons_succ, Act.put, List.setIfInBounds_toArray, List.set_cons_zero, List.set_cons_succ]
  refine wpAnyH_take (i := 11) (v := ?_) rfl (by kernel_rfl) (by kernel_rfl) (by kernel_rfl) (fun _ _ _ h => h) (Or.inl ⟨by rfl, ?_⟩) hS0 ?_
  rotate_left
  · intro w hSw; obtain ⟨s0, s1, s2, s3⟩ := hSw; first | (go_simp; done) | (go_simp; with_reducible rfl)
  try simp only [List.getElem_toArray, List.getElem_cons_zero, List.getElem_cons_succ, Act.put, List.setIfInBounds_toArray, List.set_cons_zero, List.set_cons_succ]
  refine wpAnyH_take (i := 12) (v := ?_) rfl (by kernel_rfl) (by kernel_rfl) (by kernel_rfl) (fun _ _ _ h => h) (Or.inl ⟨by rfl, ?_⟩) hS0 ?_
  rotate_left
  · intro w hSw; obtain ⟨s0, s1, s2, s3⟩ := hSw; first | (go_simp; done) | (go_simp; with_reducible rfl)
  try simp only [List.getElem_toArray, List.getElem_cons_zero, List.getElem_cons_succ, Act.put, List.setIfInBounds_toArray, List.set_cons_zero, List.set_cons_succ]
  refine wpAnyH_ready (rs := [13]) (by kernel_rfl) (by simp) ?_
  refine AllReadyH.cons rfl (fun K hK => ?_) AllReadyH.nil
  try simp only [List.getElem_toArray, List.getElem_cons_zero, List.getElem_cons_succ]
  go_simp
  refine (HSD.out w1.drew (HR.out.below HB.out.drew) (HX.out.below HB.out.drew) (by show b ≤ w1.heap.size; omega)).mono ?_
  rintro e w2 ⟨D, m, cD, rfl, hb2, hR2⟩
  have HB2 : Hid (Below w.heap.size w w2) := HB.out.drew.trans (hb2.mono (by show w.heap.size ≤ w1.heap.size; omega))
  have hS1 : w2.cell? ⟨w.heap.size, 0, none⟩ = some (.int .i64 room) ∧ w2.cell? ⟨w.heap.size, 1, none⟩ = some (.slice (some ⟨bi, oi, none⟩) rl.length c) ∧ w2.cell? ⟨bi, oi + k * 2, none⟩ = some (.int .i64 x.dst) ∧ w2.cell? ⟨bi, oi + k * 2 + 1, none⟩ = some (.slice C x.raw.length cc) := ⟨(hb2.cell (p := ⟨w.heap.size, 0, none⟩) (by show w.heap.size < w1.heap.size; omega)).trans hS0.1, (hb2.cell (p := ⟨w.heap.size, 1, none⟩) (by show w.heap.size < w1.heap.size; omega)).trans hS0.2.1, (hb2.cell (p := ⟨bi, oi + k * 2, none⟩) (block_lt hS0.2.2.1)).trans hS0.2.2.1, (hb2.cell (p := ⟨bi, oi + k * 2 + 1, none⟩) (block_lt hS0.2.2.2)).trans hS0.2.2.2⟩
  have B5 := Lib.hid (B4.out.drew.below hb2)
  have r3 := B5.out.frozen 0
  have r4 := B5.out.frozen 1
  have r5 : w2.cell? ⟨w.heap.size + 1, 0, none⟩ = some (.int .i64 0) := (B5.out.cell 0).trans rfl
  have r6 : w2.cell? ⟨w.heap.size + 1, 1, none⟩ = some (.slice none 0 0) := (B5.out.cell 1).trans rfl
  have HF : Hid (Below w.heap.size w ((w2.setCell ⟨w.heap.size + 1, 0, none⟩ (.int .i64 room)).setCell ⟨w.heap.size + 1, 1, none⟩ (.slice D m cD))) := (HB2.out.setCell (by simp) _).setCell (by simp) _
  have HR3 := Lib.hid (rf_set (rf_set hR2 (p := ⟨w.heap.size + 1, 0, none⟩) B5.out (by decide) (by decide) (by show b ≤ w.heap.size + 1; omega) (.int .i64 room)) (p := ⟨w.heap.size + 1, 1, none⟩) (B5.out.set_ 0 _) (by decide) (by decide) (by show b ≤ w.heap.size + 1; omega) (.slice D m cD))
  have oth : ∀ (a o : Nat) (z : Value), a ≠ w.heap.size + 1 → w2.cell? ⟨a, o, none⟩ = some z → ((w2.setCell ⟨w.heap.size + 1, 0, none⟩ (.int .i64 room)).setCell ⟨w.heap.size + 1, 1, none⟩ (.slice D m cD)).cell? ⟨a, o, none⟩ = some z := fun a o z hne hz => (World.cell?_setCell_other _ _ _ _ (by intro h; simp only [Addr.mk.injEq] at h; omega)).trans ((World.cell?_setCell_other _ _ _ _ (by intro h; simp only [Addr.mk.injEq] at h; omega)).trans hz)
  have hS2 : ((w2.setCell ⟨w.heap.size + 1, 0, none⟩ (.int .i64 room)).setCell ⟨w.heap.size + 1, 1, none⟩ (.slice D m cD)).cell? ⟨w.heap.size, 0, none⟩ = some (.int .i64 room) ∧ ((w2.setCell ⟨w.heap.size + 1, 0, none⟩ (.int .i64 room)).setCell ⟨w.heap.size + 1, 1, none⟩ (.slice D m cD)).cell? ⟨w.heap.size, 1, none⟩ = some (.slice (some ⟨bi, oi, none⟩) rl.length c) ∧ ((w2.setCell ⟨w.heap.size + 1, 0, none⟩ (.int .i64 room)).setCell ⟨w.heap.size + 1, 1, none⟩ (.slice D m cD)).cell? ⟨bi, oi + k * 2, none⟩ = some (.int .i64 x.dst) ∧ ((w2.setCell ⟨w.heap.size + 1, 0, none⟩ (.int .i64 room)).setCell ⟨w.heap.size + 1, 1, none⟩ (.slice D m cD)).cell? ⟨bi, oi + k * 2 + 1, none⟩ = some (.slice C x.raw.length cc) := ⟨oth _ _ _ (by omega) hS1.1, oth _ _ _ (by omega) hS1.2.1, oth _ _ _ (by omega) hS1.2.2.1, oth _ _ _ (by omega) hS1.2.2.2⟩
  clear hb2 hR2 HSD hS0 HB oth
  try (go_wp2_with fail)
  refine hK.out _ _ hS1 (fun hHeld => ?_)
  clear hK K
  try simp only [List.getElem_toArray, List.getElem_cons_zero, List.getElem_cons_succ, Act.put, List.setIfInBounds_toArray, List.set_cons_zero, List.set_cons_succ]
  refine wpAnyH_take (i := 14) (v := ?_) rfl (by kernel_rfl) (by kernel_rfl) (by kernel_rfl) (fun _ _ _ h => h) (Or.inl ⟨by rfl, ?_⟩) hS1 ?_
  rotate_left
  · intro w hSw; obtain ⟨s0, s1, s2, s3⟩ := hSw; first | (go_simp; done) | (go_simp; with_reducible rfl)
  try simp only [List.getElem_toArray, List.getElem_cons_zero, List.getElem_cons_succ, Act.put, List.setIfInBounds_toArray, List.set_cons_zero, List.set_cons_succ]
  refine wpAnyH_take (i := 15) (v := ?_) rfl (by kernel_rfl) (by kernel_rfl) (by kernel_rfl) (fun _ _ _ h => h) (Or.inl ⟨by rfl, ?_⟩) hS1 ?_
  rotate_left
  · intro w hSw; obtain ⟨s0, s1, s2, s3⟩ := hSw; first | (go_simp; done) | (go_simp; with_reducible rfl)
  try simp only [List.getElem_toArray, List.getElem_cons_zero, List.getElem_cons_succ, Act.put, List.setIfInBounds_toArray, List.set_cons_zero, List.set_cons_succ]
  refine wpAnyH_ready (rs := [16]) (by kernel_rfl) (by simp) ?_
  refine AllReadyH.cons rfl (fun K hK => ?_) AllReadyH.nil
  try simp only [List.getElem_toArray, List.getElem_cons_zero, List.getElem_cons_succ]
  go_simp
  refine hK.out _ _ hS2 (fun hHeld => ?_)
  clear hK K
  try simp only [List.getElem_toArray, List.getElem_cons_zero, List.getElem_cons_succ, Act.put, List.setIfInBounds_toArray, List.set_cons_zero, List.set_cons_succ]
  refine wpAnyH_take (i := 17) (v := ?_) rfl (by kernel_rfl) (by kernel_rfl) (by kernel_rfl) (fun _ _ _ h => h) (Or.inl ⟨by rfl, ?_⟩) hS2 ?_
  rotate_left
  · intro w hSw; obtain ⟨s0, s1, s2, s3⟩ := hSw; first | (go_simp; done) | (go_simp; with_reducible rfl)
  try simp only [List.getElem_toArray, List.getElem_cons_zero, List.getElem_cons_succ, Act.put, List.setIfInBounds_toArray, List.set_cons_zero, List.set_cons_succ]
  refine wpAnyH_done (by kernel_rfl) ?_ _
  (go_wp2_with fail; exact bodyPost_ret (v := .tuple #[.agg #[.int .i64 room, .slice D m cD], .int .i64 (code room rl)]) (by simp [results, Try.results34, go_sem, r5, r6]) rfl ⟨D, m, cD, rfl, HF.out, HR3.out⟩)

end

end Go.Proofs.Ytogiedephnappaa.Net
