/- Contracts of slices.Clone, slices.Grow and slices.Concat of the library, at One. -/
import Derived.Test.YtogiedephnappaaRows
import Derived.Test.YtogiedephnappaaMem
namespace Go.Proofs.Ytogiedephnappaa.SlOne
open Go.RowKit Go.Proofs.Ytogiedephnappaa.Mem

theorem info : (Try.prog.info? 67).map (fun i => (i.zero, i.size, i.bytes)) = some (some (.agg #[.int .i64 0, .slice none 0 0]), 2, 32) := by kernel_rfl

/-- What a call leaves that hands back a new slice: it holds xs; what was there is as it was. -/
def Made (w : World) (n : Nat) (xs : List Value) (e : Ending) (w' : World) : Prop := ∃ v, e = .returned v ∧ w'.ownsRow w.heap.size 67 2 v n xs ∧ Below w.heap.size w w'

set_option maxHeartbeats 400000 in
theorem clone (A : Option Addr) (n c : Nat) (xs : List Value) (w : World) (hs : Sl w 2 A n xs) (h1 : ∀ u ∈ xs, u.oneCell' = true) (hb : n * 32 * 5 + 32 * 1000 ≤ 1125899906842624) (hn : A = none → n = 0 ∧ c = 0) :
    Calls Try.prog 26 #[.slice A n c] w (Made w n xs) := by
  obtain ⟨i0, hi, hz0, hz1, hz2⟩ := info_parts info
  have hnil := fun (a : Option Addr) (l c : Nat) (w : World) => Lib.run_eql_slice_nil (P := Try.prog) w 65 67 a l c 0 0 Try.underlying65
  rcases A with _ | ad
  · obtain ⟨rfl, rfl⟩ := hn rfl
    have hx : xs = [] := List.eq_nil_of_length_eq_zero (by simpa using hs.1)
    subst hx
    clear hs h1 hn
    go_enter Try.func26, Try.ntmps26
    go_wp2
    go_ret
    exact ⟨_, rfl, World.ownsRow_nil _ _ _ _, Below.refl _ _⟩
  · clear hn
    have HS := Lib.hid hs
    have H1 := Lib.hid h1
    clear hs h1
    go_enter Try.func26, Try.ntmps26
    go_wp2_with (at_builtin; refine wpList_append_sl _ rfl (.tmp 5) (.tmp 6) _ rfl w.heap.size 67 i0 _ 2 32 Try.underlying65 hi hz0 hz1 hz2 rfl (by decide) _ 0 [] rfl (World.ownsRow_lit w #[] 0 (Nat.le_refl _) (by unfold maxLen; omega) (by simp)) (some ad) n c xs rfl (HS.out.alloc _) H1.out (by unfold maxLen; omega) (by omega) (by simp) ?_; intro v' w1 hown' hgrow hat)
    go_ret
    refine ⟨_, rfl, by simpa using hown', ?_⟩
    exact ((Below.refl _ _).alloc (Nat.le_refl _) _).grown hgrow (by simp) (fun k hk => by have hk : some w.heap.size = some k := hk; injection hk with hk; omega)

/-- What slices.Grow(nil, n) leaves: an empty slice with room for n. -/
def Grown (w : World) (n : Nat) (e : Ending) (w' : World) : Prop := ∃ A c, e = .returned (.slice A 0 c) ∧ n ≤ c ∧ w'.ownsRow w.heap.size 67 2 (.slice A 0 c) 0 [] ∧ Below w.heap.size w w'

set_option maxHeartbeats 400000 in
theorem grow (n : Nat) (w : World) (hb : n * 32 ≤ 281474976710656) :
    Calls Try.prog 37 #[.slice none 0 0, .int .i64 n] w (Grown w n) := by
  obtain ⟨i0, hi, hz0, hz1, hz2⟩ := info_parts info
  by_cases h0 : n = 0
  · subst h0
    go_enter Try.func37, Try.ntmps37
    go_wp2
    go_ret
    exact ⟨none, 0, rfl, Nat.le_refl _, World.ownsRow_nil _ _ _ _, Below.refl _ _⟩
  · have hn1 : ¬ ((n : Int) < 0) := by omega
    have hn2 : (0 : Int) < (n : Int) := by omega
    have hn3 : (n : Int) ≤ 9223372036854775807 := by omega
    have hrz := Lib.hid (fun (w : World) (ty : TypeId) => Lib.run_append_nil_zeros (P := Try.prog) w 65 3 ty 67 i0 _ .i64 .i64 Try.underlying65 Try.underlying3 hi hz0 n (by omega) (by rw [hz1]; decide) (by omega) (by rw [hz2]; exact hb))
    have hG : n ≤ grownCap w n 0 67 := grownCap_ge w _ _ _
    have hG63 : grownCap w n 0 67 ≤ 9223372036854775807 := by
      have := grownCap_le_maxLen w n 0 67 (by unfold maxLen; omega)
      unfold maxLen at this
      exact this
    clear h0 hb hz0 hz1 hz2 hi
    go_enter Try.func37, Try.ntmps37
    go_wp2_with (at_builtin; refine Lib.wpList_append_run _ rfl _ _ _ _ rfl _ _ rfl rfl _ _ (hrz.out _ _) ?_)
    go_ret
    refine ⟨_, _, rfl, hG, ⟨by simp, .inr ⟨_, _, _, rfl, Nat.le_refl _, heap_alloc_new _ _, Nat.zero_le _, by unfold maxLen; exact hG63, ?_, by simp⟩⟩, ?_⟩
    · simp only [Array.size_append, size_zeroCells]
      show n * 2 + (grownCap w n 0 67 - n) * 2 = grownCap w n 0 67 * 2
      omega
    · exact (Below.refl _ _).drew.alloc (Nat.le_refl _) _

set_option maxHeartbeats 800000 in
theorem concat (g : Nat) (A B : Option Addr) (n m c d : Nat) (xs ys : List Value) (w : World) (h0 : w.cell? ⟨g, 0, none⟩ = some (.slice A n c)) (hc1 : w.cell? ⟨g, 1, none⟩ = some (.slice B m d))
    (hx : Sl w 2 A n xs) (hy : Sl w 2 B m ys) (h1 : ∀ u ∈ xs, u.oneCell' = true) (h2 : ∀ u ∈ ys, u.oneCell' = true) (hb : (n + m) * 32 ≤ 281474976710656) :
    Calls Try.prog 29 #[.slice (some ⟨g, 0, none⟩) 2 2] w (Made w (n + m) (xs ++ ys)) := by
  obtain ⟨i0, hi, hz0, hz1, hz2⟩ := info_parts info
  have HX := Lib.hid hx
  have HY := Lib.hid hy
  have H1 := Lib.hid h1
  have H2 := Lib.hid h2
  have bd : (n : Int) + (m : Int) ≤ 9223372036854775807 := by omega
  have hg := block_lt h0
  clear hx hy h1 h2
  go_enter Try.func29, Try.ntmps29
  go_wp2
  refine wp_loop_rounds 3 ?_
  rw [rounds_succ]
  go_wp2
  rw [rounds_succ]
  go_wp2
  rw [rounds_succ]
  go_wp2_with fail
  have hgrow := grow (n + m) w hb
  rw [Int.natCast_add] at hgrow
  refine hgrow.mono ?_
  clear hgrow
  rintro e w1 ⟨D, C, rfl, hC, hown, hbel⟩
  have k0 : w1.cell? ⟨g, 0, none⟩ = some (.slice A n c) := (hbel.cell (p := ⟨g, 0, none⟩) hg).trans h0
  have k1 : w1.cell? ⟨g, 1, none⟩ = some (.slice B m d) := (hbel.cell (p := ⟨g, 1, none⟩) hg).trans hc1
  clear h0 hc1
  have Hown := Lib.hid hown
  have HB := Lib.hid hbel
  clear hown hbel
  go_wp2
  refine wp_loop_rounds 3 ?_
  rw [rounds_succ]
  go_wp2_with (at_builtin; refine wpList_append_sl_fits _ rfl (.tmp 31) (.tmp 32) _ rfl w.heap.size 67 i0 2 Try.underlying65 hi hz1 D 0 C [] rfl Hown.out A n c xs rfl (HX.out.below HB.out) H1.out (by omega) ?_; intro w2 hown2 hgrow2)
  have hrow : ∀ k, (Value.slice D 0 C).ownBlock = some k → w.heap.size ≤ k ∧ k < w1.heap.size := Hown.out.lt
  have hsz := HB.out.size
  have l1 : w2.cell? ⟨g, 1, none⟩ = some (.slice B m d) := hgrow2.cell k1 (fun e => by have h : w.heap.size ≤ g := (hrow g e.symm).1; omega)
  have Hb2 : Hid (Below w.heap.size w w2) := HB.out.grown hgrow2 hsz (fun k hk => (hrow k hk).1)
  have Hown2 := Lib.hid hown2
  simp only [Nat.zero_add, List.nil_append] at hown2
  have Ho2 := Lib.hid hown2
  clear k0 k1 hown2 hrow Hown HB Hown2
  have HG2 := Lib.hid hgrow2
  clear hgrow2
  rw [rounds_succ]
  go_wp2_with (at_builtin; refine wpList_append_sl_fits _ rfl (.tmp 31) (.tmp 32) _ rfl w.heap.size 67 i0 2 Try.underlying65 hi hz1 D n C xs rfl Ho2.out B m d ys rfl (HY.out.below Hb2.out) H2.out (by omega) ?_; intro w3 hown3 hgrow3)
  have Hown3 := Lib.hid hown3
  have Hb3 : Hid (Below w.heap.size w w3) := Hb2.out.grown hgrow3 Hb2.out.size (fun k hk => (Ho2.out.lt k hk).1)
  clear hown3 hgrow3
  rw [rounds_succ]
  go_wp2
  go_ret
  exact ⟨_, rfl, Hown3.out, Hb3.out⟩

end Go.Proofs.Ytogiedephnappaa.SlOne
