/- Walks for dockyardlaw10.LeaseGrants: the reference's Grant, and the law itself in each of its cases. -/
import Derived.Test.YtciekdcbjfpfoaaRows
import Derived.Test.YtciekdcbjfpfoaaPureLeaseRises
import Derived.WalkKit
import Derived.WalkSpells
import Derived.Lib.Hide
import Derived.WalkLawsBesides
namespace Go.Proofs.Ytciekdcbjfpfoaa.GrantsRow
open Go.RowKit Go.Proofs.Ytciekdcbjfpfoaa.Pure
open Go.Proofs.Ytciekdcbjfpfoaa.PLeaseRises Go.Proofs.YtciekdcbjfpfoaaW.PrintWords Go.Proofs.YtciekdcbjfpfoaaW.PrintLast Go.Proofs.YtciekdcbjfpfoaaW.PrintMore
attribute [local go_sem] max2_int
attribute [local go_sem high] eqA27

theorem cellA {w : World} {p : Addr} {v : Value} (h : w.cell? p = some v) (o : Obj) : (w.alloc o).cell? p = some v := by
  rw [World.cell?_alloc_lt _ _ _ (World.block_lt_of_cell? w p h)]
  exact h

set_option maxHeartbeats 400000 in
theorem ref_one (o now : Int) (w : World) (h1 : (o == 18446744073709551615) = true) :
    Calls Try.prog 11 #[.int .u64 o, .int .u64 now] w fun e w' => e = .returned (.tuple #[.int .u64 o, .agg #[.int .i64 0, .int .u64 0, .int .u64 0], .int .i64 101]) ∧ Below w.heap.size w w' := by
  go_enter Try.func11, Try.ntmps11
  go_wp2
  exact bodyPost_ret (v := .tuple #[.int .u64 o, .agg #[.int .i64 0, .int .u64 0, .int .u64 0], .int .i64 101]) (by simp [results, Try.results11, go_sem]) rfl ⟨rfl, (Below.refl _ _).alloc (Nat.le_refl _) _⟩

set_option maxHeartbeats 400000 in
theorem ref_late (o now : Int) (w : World) (h1 : (o == 18446744073709551615) = false) (h2 : decide (18446744073709551607 < now) = true) :
    Calls Try.prog 11 #[.int .u64 o, .int .u64 now] w fun e w' => e = .returned (.tuple #[.int .u64 o, .agg #[.int .i64 0, .int .u64 0, .int .u64 0], .int .i64 101]) ∧ Below w.heap.size w w' := by
  go_enter Try.func11, Try.ntmps11
  go_wp2
  exact bodyPost_ret (v := .tuple #[.int .u64 o, .agg #[.int .i64 0, .int .u64 0, .int .u64 0], .int .i64 101]) (by simp [results, Try.results11, go_sem]) rfl ⟨rfl, (Below.refl _ _).alloc (Nat.le_refl _) _⟩

set_option maxHeartbeats 400000 in
theorem ref_ok (o now : Int) (w : World) (h1 : (o == 18446744073709551615) = false) (h2 : decide (18446744073709551607 < now) = false) :
    Calls Try.prog 11 #[.int .u64 o, .int .u64 now] w fun e w' => e = .returned (.tuple #[.int .u64 (IntKind.u64.wrap (o + 1)), .agg #[.int .i64 2, .int .u64 o, .int .u64 (IntKind.u64.wrap (now + 8))], .int .i64 0]) ∧ Below w.heap.size w w' := by
  go_enter Try.func11, Try.ntmps11
  go_wp2
  exact bodyPost_ret (v := .tuple #[.int .u64 (IntKind.u64.wrap (o + 1)), .agg #[.int .i64 2, .int .u64 o, .int .u64 (IntKind.u64.wrap (now + 8))], .int .i64 0]) (by simp [results, Try.results11, go_sem]) rfl ⟨rfl, (Below.refl _ _).alloc (Nat.le_refl _) _⟩

/-- The law where the office's next token is 'o' at once. -/
theorem law_pos (o now r1 r2 r3 r4 r5 : Int) (w : World) (ho : 1 ≤ o) (hr1 : 1 ≤ r1) (hg : lease_Office_Grant.f (0 + 1) o now = some (r1, r2, r3, r4, r5))
    (hr : ∀ w, Calls Try.prog 11 #[.int .u64 o, .int .u64 now] w fun e w' => e = .returned (.tuple #[.int .u64 r1, .agg #[.int .i64 r2, .int .u64 r3, .int .u64 r4], .int .i64 r5]) ∧ Below w.heap.size w w') :
    Calls Try.prog 3 #[.int .u64 o, .int .u64 now] w fun e w' => e = .returned (.bool true) ∧ Below w.heap.size w w' := by
  have HN := Lib.hid (show lease_New.f o = some o by unfold lease_New.f mx; rw [if_neg (by omega)])
  have HX := Lib.hid (rises_next o ho)
  have HX1 := Lib.hid (rises_next r1 hr1)
  have HG := Lib.hid hg
  have HR := Lib.hid hr
  have HA := Lib.hid (rises_alive 0)
  clear hg hr
  go_enter Try.func3, Try.ntmps3
  go_wp2_with fail
  refine (lease_New.calls o o _ HN.out).mono ?_
  rintro e w1 ⟨rfl, hb1⟩
  go_wp2_with fail
  have hz1 := hb1.size
  refine (lease_Office_Grant.calls (0 + 1) o now r1 r2 r3 r4 r5 _ HG.out).mono ?_
  rintro e w2 ⟨rfl, hb2⟩
  have hz2 : w1.heap.size + 1 ≤ w2.heap.size := by have := hb2.size; simp at this; omega
  have c5 : w2.cell? ⟨w1.heap.size, 0, none⟩ = some (.int .u64 o) := (hb2.cell (p := ⟨w1.heap.size, 0, none⟩) (by simp)).trans (by simp)
  go_wp2_with fail
  refine (HR.out _).mono ?_
  rintro e w3 ⟨rfl, hb3⟩
  have hz3 : w2.heap.size + 2 ≤ w3.heap.size := by have := hb3.size; simp at this; omega
  have d5 : w3.cell? ⟨w1.heap.size, 0, none⟩ = some (.int .u64 o) := (hb3.cell (p := ⟨w1.heap.size, 0, none⟩) (by simp; omega)).trans (cellA (cellA c5 _) _)
  have d6 : w3.cell? ⟨w2.heap.size, 0, none⟩ = some (.int .u64 r1) := (hb3.cell (p := ⟨w2.heap.size, 0, none⟩) (by simp; omega)).trans (by simp)
  have d70 : w3.cell? ⟨w2.heap.size + 1, 0, none⟩ = some (.int .i64 r2) := (hb3.cell (p := ⟨w2.heap.size + 1, 0, none⟩) (by simp)).trans (by simp)
  have d71 : w3.cell? ⟨w2.heap.size + 1, 1, none⟩ = some (.int .u64 r3) := (hb3.cell (p := ⟨w2.heap.size + 1, 1, none⟩) (by simp)).trans (by simp)
  have d72 : w3.cell? ⟨w2.heap.size + 1, 2, none⟩ = some (.int .u64 r4) := (hb3.cell (p := ⟨w2.heap.size + 1, 2, none⟩) (by simp)).trans (by simp)
  clear c5
  go_wp2_with fail
  refine (dockyardlaw10_alive.calls (0 + 1) true _ HA.out).mono ?_
  rintro e w4 ⟨rfl, hb4⟩
  have hz4 : w3.heap.size + 1 ≤ w4.heap.size := by have := hb4.size; simp at this; omega
  have past : ∀ b (j : Nat) v, b < w3.heap.size → w3.cell? ⟨b, j, none⟩ = some v → w4.cell? ⟨b, j, none⟩ = some v := fun b j v hlt h =>
    (hb4.cell (p := ⟨b, j, none⟩) (by simp; omega)).trans (cellA h _)
  have e5 := past _ _ _ (by omega) d5
  have e6 := past _ _ _ (by omega) d6
  have e70 := past _ _ _ (by omega) d70
  have e71 := past _ _ _ (by omega) d71
  have e72 := past _ _ _ (by omega) d72
  have e80 : w4.cell? ⟨w3.heap.size, 0, none⟩ = some (.int .i64 r2) := (hb4.cell (p := ⟨w3.heap.size, 0, none⟩) (by simp)).trans (by simp)
  have e81 : w4.cell? ⟨w3.heap.size, 1, none⟩ = some (.int .u64 r3) := (hb4.cell (p := ⟨w3.heap.size, 1, none⟩) (by simp)).trans (by simp)
  have e82 : w4.cell? ⟨w3.heap.size, 2, none⟩ = some (.int .u64 r4) := (hb4.cell (p := ⟨w3.heap.size, 2, none⟩) (by simp)).trans (by simp)
  clear past d5 d6 d70 d71 d72
  go_wp2_with fail
  refine (lease_Office_Next.calls o o _ HX.out).mono ?_
  rintro e w5 ⟨rfl, hb5⟩
  have hz5 := hb5.size
  have past : ∀ b (j : Nat) v, b < w4.heap.size → w4.cell? ⟨b, j, none⟩ = some v → w5.cell? ⟨b, j, none⟩ = some v := fun b j v hlt h => (hb5.cell (p := ⟨b, j, none⟩) (by omega)).trans h
  have f6 := past _ _ _ (by omega) e6
  have f70 := past _ _ _ (by omega) e70
  have f71 := past _ _ _ (by omega) e71
  have f72 := past _ _ _ (by omega) e72
  have f80 := past _ _ _ (by omega) e80
  have f81 := past _ _ _ (by omega) e81
  have f82 := past _ _ _ (by omega) e82
  clear past e5 e6 e70 e71 e72 e80 e81 e82
  have hlast : Below w.heap.size w w5 := by
    refine Below.trans ?_ (hb5.mono (by omega))
    refine Below.trans ?_ (hb4.mono (by simp; omega))
    refine Below.alloc ?_ (by omega) _
    refine Below.trans ?_ (hb3.mono (by simp; omega))
    refine Below.alloc (Below.alloc ?_ (by omega) _) (by simp; omega) _
    refine Below.trans ?_ (hb2.mono (by simp; omega))
    exact Below.alloc hb1 (by omega) _
  go_wp2_with fail
  refine (lease_Office_Next.calls r1 r1 _ HX1.out).mono ?_
  rintro e w6 ⟨rfl, hb6⟩
  have past : ∀ b (j : Nat) v, b < w5.heap.size → w5.cell? ⟨b, j, none⟩ = some v → w6.cell? ⟨b, j, none⟩ = some v := fun b j v hlt h => (hb6.cell (p := ⟨b, j, none⟩) (by omega)).trans h
  have g70 := past _ _ _ (by omega) f70
  have g71 := past _ _ _ (by omega) f71
  have g72 := past _ _ _ (by omega) f72
  have g80 := past _ _ _ (by omega) f80
  have g81 := past _ _ _ (by omega) f81
  have g82 := past _ _ _ (by omega) f82
  clear past f6 f70 f71 f72 f80 f81 f82
  have hend : Below w.heap.size w w6 := hlast.trans (hb6.mono (by omega))
  go_wp2_with fail
  go_ret
  exact ⟨rfl, hend⟩


/-- The law where 'next' is 0: the office begins at 1. -/
theorem law_zero (now r1 r2 r3 r4 r5 : Int) (w : World) (hr1 : 1 ≤ r1) (hg : lease_Office_Grant.f (0 + 1) 1 now = some (r1, r2, r3, r4, r5))
    (hr : ∀ w, Calls Try.prog 11 #[.int .u64 1, .int .u64 now] w fun e w' => e = .returned (.tuple #[.int .u64 r1, .agg #[.int .i64 r2, .int .u64 r3, .int .u64 r4], .int .i64 r5]) ∧ Below w.heap.size w w') :
    Calls Try.prog 3 #[.int .u64 0, .int .u64 now] w fun e w' => e = .returned (.bool true) ∧ Below w.heap.size w w' := by
  have HN := Lib.hid (show lease_New.f 0 = some 1 by unfold lease_New.f mx; rw [if_pos (by omega)])
  have HX := Lib.hid (rises_next 1 (by omega))
  have HX1 := Lib.hid (rises_next r1 hr1)
  have HG := Lib.hid hg
  have HR := Lib.hid hr
  have HA := Lib.hid (rises_alive 0)
  clear hg hr
  go_enter Try.func3, Try.ntmps3
  go_wp2_with fail
  refine (lease_New.calls 0 1 _ HN.out).mono ?_
  rintro e w1 ⟨rfl, hb1⟩
  go_wp2_with fail
  have hz1 := hb1.size
  refine (lease_Office_Grant.calls (0 + 1) 1 now r1 r2 r3 r4 r5 _ HG.out).mono ?_
  rintro e w2 ⟨rfl, hb2⟩
  have hz2 : w1.heap.size + 1 ≤ w2.heap.size := by have := hb2.size; simp at this; omega
  have c5 : w2.cell? ⟨w1.heap.size, 0, none⟩ = some (.int .u64 1) := (hb2.cell (p := ⟨w1.heap.size, 0, none⟩) (by simp)).trans (by simp)
  go_wp2_with fail
  refine (HR.out _).mono ?_
  rintro e w3 ⟨rfl, hb3⟩
  have hz3 : w2.heap.size + 2 ≤ w3.heap.size := by have := hb3.size; simp at this; omega
  have d5 : w3.cell? ⟨w1.heap.size, 0, none⟩ = some (.int .u64 1) := (hb3.cell (p := ⟨w1.heap.size, 0, none⟩) (by simp; omega)).trans (cellA (cellA c5 _) _)
  have d6 : w3.cell? ⟨w2.heap.size, 0, none⟩ = some (.int .u64 r1) := (hb3.cell (p := ⟨w2.heap.size, 0, none⟩) (by simp; omega)).trans (by simp)
  have d70 : w3.cell? ⟨w2.heap.size + 1, 0, none⟩ = some (.int .i64 r2) := (hb3.cell (p := ⟨w2.heap.size + 1, 0, none⟩) (by simp)).trans (by simp)
  have d71 : w3.cell? ⟨w2.heap.size + 1, 1, none⟩ = some (.int .u64 r3) := (hb3.cell (p := ⟨w2.heap.size + 1, 1, none⟩) (by simp)).trans (by simp)
  have d72 : w3.cell? ⟨w2.heap.size + 1, 2, none⟩ = some (.int .u64 r4) := (hb3.cell (p := ⟨w2.heap.size + 1, 2, none⟩) (by simp)).trans (by simp)
  clear c5
  go_wp2_with fail
  refine (dockyardlaw10_alive.calls (0 + 1) true _ HA.out).mono ?_
  rintro e w4 ⟨rfl, hb4⟩
  have hz4 : w3.heap.size + 1 ≤ w4.heap.size := by have := hb4.size; simp at this; omega
  have past : ∀ b (j : Nat) v, b < w3.heap.size → w3.cell? ⟨b, j, none⟩ = some v → w4.cell? ⟨b, j, none⟩ = some v := fun b j v hlt h =>
    (hb4.cell (p := ⟨b, j, none⟩) (by simp; omega)).trans (cellA h _)
  have e5 := past _ _ _ (by omega) d5
  have e6 := past _ _ _ (by omega) d6
  have e70 := past _ _ _ (by omega) d70
  have e71 := past _ _ _ (by omega) d71
  have e72 := past _ _ _ (by omega) d72
  have e80 : w4.cell? ⟨w3.heap.size, 0, none⟩ = some (.int .i64 r2) := (hb4.cell (p := ⟨w3.heap.size, 0, none⟩) (by simp)).trans (by simp)
  have e81 : w4.cell? ⟨w3.heap.size, 1, none⟩ = some (.int .u64 r3) := (hb4.cell (p := ⟨w3.heap.size, 1, none⟩) (by simp)).trans (by simp)
  have e82 : w4.cell? ⟨w3.heap.size, 2, none⟩ = some (.int .u64 r4) := (hb4.cell (p := ⟨w3.heap.size, 2, none⟩) (by simp)).trans (by simp)
  clear past d5 d6 d70 d71 d72
  go_wp2_with fail
  refine (lease_Office_Next.calls 1 1 _ HX.out).mono ?_
  rintro e w5 ⟨rfl, hb5⟩
  have hz5 := hb5.size
  have past : ∀ b (j : Nat) v, b < w4.heap.size → w4.cell? ⟨b, j, none⟩ = some v → w5.cell? ⟨b, j, none⟩ = some v := fun b j v hlt h => (hb5.cell (p := ⟨b, j, none⟩) (by omega)).trans h
  have f6 := past _ _ _ (by omega) e6
  have f70 := past _ _ _ (by omega) e70
  have f71 := past _ _ _ (by omega) e71
  have f72 := past _ _ _ (by omega) e72
  have f80 := past _ _ _ (by omega) e80
  have f81 := past _ _ _ (by omega) e81
  have f82 := past _ _ _ (by omega) e82
  clear past e5 e6 e70 e71 e72 e80 e81 e82
  have hlast : Below w.heap.size w w5 := by
    refine Below.trans ?_ (hb5.mono (by omega))
    refine Below.trans ?_ (hb4.mono (by simp; omega))
    refine Below.alloc ?_ (by omega) _
    refine Below.trans ?_ (hb3.mono (by simp; omega))
    refine Below.alloc (Below.alloc ?_ (by omega) _) (by simp; omega) _
    refine Below.trans ?_ (hb2.mono (by simp; omega))
    exact Below.alloc hb1 (by omega) _
  go_wp2_with fail
  refine (lease_Office_Next.calls r1 r1 _ HX1.out).mono ?_
  rintro e w6 ⟨rfl, hb6⟩
  have past : ∀ b (j : Nat) v, b < w5.heap.size → w5.cell? ⟨b, j, none⟩ = some v → w6.cell? ⟨b, j, none⟩ = some v := fun b j v hlt h => (hb6.cell (p := ⟨b, j, none⟩) (by omega)).trans h
  have g70 := past _ _ _ (by omega) f70
  have g71 := past _ _ _ (by omega) f71
  have g72 := past _ _ _ (by omega) f72
  have g80 := past _ _ _ (by omega) f80
  have g81 := past _ _ _ (by omega) f81
  have g82 := past _ _ _ (by omega) f82
  clear past f6 f70 f71 f72 f80 f81 f82
  have hend : Below w.heap.size w w6 := hlast.trans (hb6.mono (by omega))
  go_wp2_with fail
  go_ret
  exact ⟨rfl, hend⟩


theorem walk (next now : Int) (w : World) (w0 : (Lit.int .u64 next).wf = true) (w1 : (Lit.int .u64 now).wf = true) :
    Calls Try.prog 3 #[.int .u64 next, .int .u64 now] w fun e w' => e = .returned (.bool true) ∧ Below w.heap.size w w' := by
  have b0 := rises_bounds w0
  have b1 := rises_bounds w1
  have main : ∀ o : Int, 1 ≤ o → o < 18446744073709551616 → ∃ r1 r2 r3 r4 r5 : Int, 1 ≤ r1 ∧ lease_Office_Grant.f (0 + 1) o now = some (r1, r2, r3, r4, r5) ∧
      ∀ w, Calls Try.prog 11 #[.int .u64 o, .int .u64 now] w fun e w' => e = .returned (.tuple #[.int .u64 r1, .agg #[.int .i64 r2, .int .u64 r3, .int .u64 r4], .int .i64 r5]) ∧ Below w.heap.size w w' := by
    intro o h1 h2
    by_cases e1 : o = 18446744073709551615
    · exact ⟨o, 0, 0, 0, 101, h1, rises_grant_no 0 o now h1 (.inl e1), fun w => ref_one o now w (beq_iff_eq.2 e1)⟩
    · by_cases e2 : 18446744073709551607 < now
      · exact ⟨o, 0, 0, 0, 101, h1, rises_grant_no 0 o now h1 (.inr e2), fun w => ref_late o now w (beq_eq_false_iff_ne.2 e1) (decide_eq_true e2)⟩
      · refine ⟨o + 1, 2, o, now + 8, 0, by omega, rises_grant_yes 0 o now h1 (by omega) (by omega) (by omega), fun w => ?_⟩
        have h := ref_ok o now w (beq_eq_false_iff_ne.2 e1) (decide_eq_false e2)
        rw [rises_wrap (o + 1) (by omega) (by omega), rises_wrap (now + 8) (by omega) (by omega)] at h
        exact h
  by_cases hz : next = 0
  · subst hz
    obtain ⟨r1, r2, r3, r4, r5, h1, hg, hr⟩ := main 1 (by omega) (by omega)
    exact law_zero now r1 r2 r3 r4 r5 w h1 hg hr
  · obtain ⟨r1, r2, r3, r4, r5, h1, hg, hr⟩ := main next (by omega) (by omega)
    exact law_pos next now r1 r2 r3 r4 r5 w (by omega) h1 hg hr

end Go.Proofs.Ytciekdcbjfpfoaa.GrantsRow
