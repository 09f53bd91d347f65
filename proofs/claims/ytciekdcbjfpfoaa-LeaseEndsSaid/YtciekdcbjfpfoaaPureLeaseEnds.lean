/- Proved: dockyardlaw10.LeaseEnds returns true: for every start and every two times, a lease holds until its time is over, and a renewal never makes it shorter; no condition. -/
import Derived.Test.YtciekdcbjfpfoaaPLeaseEndsx3
namespace Go.Proofs.Ytciekdcbjfpfoaa.Pure
open Go.RowKit Go.Proofs.Ytciekdcbjfpfoaa.PLeaseEnds Go.Proofs.YtciekdcbjfpfoaaW.PrintWords Go.Proofs.YtciekdcbjfpfoaaW.PrintLast

theorem ends_bounds {x : Int} (h : (Lit.int .u64 x).wf = true) : 0 ≤ x ∧ x < 18446744073709551616 := by
  simp [Lit.wf, IntKind.min, IntKind.max, IntKind.bits, IntKind.signed] at h
  omega

theorem ends_next (o : Int) (h : 1 ≤ o) : lease_Office_Next.f o = some o := by
  unfold lease_Office_Next.f
  rw [if_neg (by simp; omega)]

theorem ends_wrap (x : Int) (h0 : 0 ≤ x) (h1 : x < 18446744073709551616) : IntKind.u64.wrap x = x := by
  rw [IntKind.wrap_u64]; omega

theorem ends_grant_no (k : Nat) (o now : Int) (h : 1 ≤ o) (hn : o = 18446744073709551615 ∨ 18446744073709551607 < now) :
    lease_Office_Grant.f (k + 1) o now = some (o, 0, 0, 0, 101) := by
  unfold lease_Office_Grant.f lease_late.f
  rw [ends_next o h]
  simp only [Option.bind_some]
  by_cases h1 : o = 18446744073709551615
  · rw [if_pos h1]; simp only [lease_Office_Grant.j0, if_true]
  · rw [if_neg h1]
    have h2 : (18446744073709551607 : Int) < now := by rcases hn with hn | hn; exact absurd hn h1; exact hn
    have h3 : decide (now > 18446744073709551607) = true := by simpa using h2
    rw [h3]; simp only [lease_Office_Grant.j0, if_true]

theorem ends_grant_yes (k : Nat) (o now : Int) (h : 1 ≤ o) (hm : o < 18446744073709551615) (h0 : 0 ≤ now) (hn : now ≤ 18446744073709551607) :
    lease_Office_Grant.f (k + 1) o now = some (o + 1, 2, o, now + 8, 0) := by
  unfold lease_Office_Grant.f lease_late.f
  rw [ends_next o h]
  simp only [Option.bind_some]
  rw [if_neg (by omega)]
  have h3 : decide (now > 18446744073709551607) = false := by simpa using hn
  rw [h3]
  simp only [lease_Office_Grant.j0]
  rw [if_neg (by simp), ends_next o h]
  simp only [Option.bind_some]
  rw [ends_wrap (o + 1) (by omega) (by omega), ends_wrap (now + 8) (by omega) (by omega)]

theorem ends_alive (k : Nat) : dockyardlaw10_alive.f (k + 1) = some true := by
  unfold dockyardlaw10_alive.f lease_New.f
  simp only [Option.bind_some]
  rw [show mx 5 1 = 5 from by unfold mx; omega, ends_grant_yes k 5 3 (by omega) (by omega) (by omega) (by omega)]
  simp only [Option.bind_some, if_true]
  rw [ends_next _ (by omega)]
  simp only [Option.bind_some]
  rw [if_pos (by omega), if_pos (by omega)]
  unfold lease_Holds.f
  decide

theorem ends_holds (t u token now : Int) : lease_Holds.f 2 t u token now = some (decide (token ≠ 0 ∧ t = token ∧ now < u)) := by
  unfold lease_Holds.f
  rw [if_pos rfl]
  by_cases h1 : token = 0
  · rw [if_pos h1]; simp [h1]
  · rw [if_neg h1]
    by_cases h2 : t = token
    · rw [if_pos h2]; simp [h1, h2]
    · rw [if_neg h2]; simp [h2]

theorem ends_late (now : Int) : lease_late.f now = some (decide (18446744073709551607 < now)) := rfl

theorem ends_renew_stale (t u token now : Int) (h : ¬ (token ≠ 0 ∧ t = token ∧ now < u)) : lease_Renew.f 2 t u token now = some (0, 0, 0, 100) := by
  unfold lease_Renew.f
  rw [ends_holds, decide_eq_false h]; rfl

theorem ends_renew_full (t u token now : Int) (h : token ≠ 0 ∧ t = token ∧ now < u) (hf : 18446744073709551607 < now) : lease_Renew.f 2 t u token now = some (0, 0, 0, 101) := by
  unfold lease_Renew.f
  rw [ends_holds, decide_eq_true h, ends_late, decide_eq_true hf]; rfl

theorem ends_renew_ok (t u token now : Int) (h : token ≠ 0 ∧ t = token ∧ now < u) (h0 : 0 ≤ now) (hf : now ≤ 18446744073709551607) : lease_Renew.f 2 t u token now = some (2, t, mx u (now + 8), 0) := by
  unfold lease_Renew.f
  rw [ends_holds, decide_eq_true h, ends_late, decide_eq_false (by omega)]
  simp only [Option.bind_some, if_true]
  rw [if_neg (by simp), ends_wrap (now + 8) (by omega) (by omega)]

theorem ends_max (k : Nat) (a now later : Int) : dockyardlaw10_LeaseEnds.f k a now later = dockyardlaw10_LeaseEnds.f k (mx a 1) now later := by
  unfold dockyardlaw10_LeaseEnds.f lease_New.f
  rw [show mx (mx a 1) 1 = mx a 1 from by unfold mx; omega]

theorem LeaseEnds : dockyardlaw10_LeaseEnds.Pure := by
  intro a now later h0 h1 h2
  refine ⟨1 + 1, ?_⟩
  have b0 := ends_bounds h0
  have b1 := ends_bounds h1
  have b2 := ends_bounds h2
  rw [ends_max _ a now later]
  obtain ⟨o, ho, ho1, ho2⟩ : ∃ o, mx a 1 = o ∧ 1 ≤ o ∧ o < 18446744073709551616 := ⟨_, rfl, by unfold mx; omega, by unfold mx; omega⟩
  rw [ho]
  clear ho
  unfold dockyardlaw10_LeaseEnds.f lease_New.f
  simp only [Option.bind_some]
  rw [show mx o 1 = o from by unfold mx; omega]
  by_cases hf : o = 18446744073709551615 ∨ 18446744073709551607 < now
  · rw [ends_grant_no 1 o now ho1 hf]
    simp only [Option.bind_some]
    rw [if_neg (by omega), ends_alive]; rfl
  · rw [ends_grant_yes 1 o now ho1 (by omega) (by omega) (by omega)]
    simp only [Option.bind_some, if_true]
    rw [ends_wrap (o + 1) (by omega) (by omega), ends_holds, ends_holds, ends_holds, decide_eq_false (p := (o + 1 ≠ 0 ∧ o = o + 1 ∧ later < now + 8)) (by omega), decide_eq_false (p := ((0 : Int) ≠ 0 ∧ o = 0 ∧ later < now + 8)) (by omega)]
    by_cases hl : later < now + 8
    · have hh : o ≠ 0 ∧ o = o ∧ later < now + 8 := by omega
      rw [decide_eq_true hh, decide_eq_true hl]
      by_cases hg : 18446744073709551607 < later
      · rw [ends_renew_full _ _ _ _ hh hg]
        simp [dockyardlaw10_LeaseEnds.j0, ends_alive 0]
      · rw [ends_renew_ok _ _ _ _ hh (by omega) (by omega)]
        have hm : now + 8 ≤ mx (now + 8) (later + 8) ∧ later < mx (now + 8) (later + 8) := by unfold mx; omega
        have hh2 : lease_Holds.f 2 o (mx (now + 8) (later + 8)) o later = some true := by rw [ends_holds, decide_eq_true (by omega)]
        simp [dockyardlaw10_LeaseEnds.j0, ends_alive 0, hh2, hm.1]
    · have hh : ¬ (o ≠ 0 ∧ o = o ∧ later < now + 8) := by omega
      rw [decide_eq_false hh, decide_eq_false hl, ends_renew_stale _ _ _ _ hh]
      simp [dockyardlaw10_LeaseEnds.j0, ends_alive 0]

end Go.Proofs.Ytciekdcbjfpfoaa.Pure
