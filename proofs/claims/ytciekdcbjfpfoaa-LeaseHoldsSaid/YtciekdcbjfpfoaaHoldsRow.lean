/- Proved: dockyardlaw10.LeaseHolds returns true for every state, token and time: whether a token holds, and what renewing gives, is the reference's; no condition. -/
import Derived.Test.YtciekdcbjfpfoaaRows
import Derived.Test.YtciekdcbjfpfoaaPLeaseHoldsx4
import Derived.WalkKit
import Derived.ProofKit
import Derived.OpenShut
import Derived.ShutString
import Derived.ChangeOld
import Derived.Below
import Derived.SizedLaws
import Derived.Lib.SmallJoins
namespace Go.Proofs.Ytciekdcbjfpfoaa.HoldsRow
open Go.ChangeShapes Go.WideShapes Go.ChangeAt Go.RowKit Go.Joins
open Go.Proofs.Ytciekdcbjfpfoaa.PLeaseHolds Go.Proofs.YtciekdcbjfpfoaaW.PrintWords Go.Proofs.YtciekdcbjfpfoaaW.PrintLast Go.Proofs.YtciekdcbjfpfoaaW.PrintMore

theorem bounds {x : Int} (h : (Lit.int .u64 x).wf = true) : 0 ≤ x ∧ x < 18446744073709551616 := by
  simp [Lit.wf, IntKind.min, IntKind.max, IntKind.bits, IntKind.signed] at h
  omega

theorem next (o : Int) (h : 1 ≤ o) : lease_Office_Next.f o = some o := by
  unfold lease_Office_Next.f
  rw [if_neg (by simp; omega)]

theorem wrap (x : Int) (h0 : 0 ≤ x) (h1 : x < 18446744073709551616) : IntKind.u64.wrap x = x := by
  rw [IntKind.wrap_u64]; omega

theorem grant (k : Nat) (o now : Int) (h : 1 ≤ o) (hm : o < 18446744073709551615) (h0 : 0 ≤ now) (hn : now ≤ 18446744073709551607) :
    lease_Office_Grant.f (k + 1) o now = some (o + 1, 2, o, now + 8, 0) := by
  unfold lease_Office_Grant.f lease_late.f
  rw [next o h]
  simp only [Option.bind_some]
  rw [if_neg (by omega)]
  have h3 : decide (now > 18446744073709551607) = false := by simpa using hn
  rw [h3]
  simp only [lease_Office_Grant.j0]
  rw [if_neg (by simp), next o h]
  simp only [Option.bind_some]
  rw [wrap (o + 1) (by omega) (by omega), wrap (now + 8) (by omega) (by omega)]

theorem alive (k : Nat) : dockyardlaw10_alive.f (k + 1) = some true := by
  unfold dockyardlaw10_alive.f lease_New.f
  simp only [Option.bind_some]
  rw [show mx 5 1 = 5 from by unfold mx; omega, grant k 5 3 (by omega) (by omega) (by omega) (by omega)]
  simp only [Option.bind_some, if_true]
  rw [next _ (by omega)]
  simp only [Option.bind_some]
  rw [if_pos (by omega), if_pos (by omega)]
  unfold lease_Holds.f
  decide

/-- The two 'Holds' are one function (a token is never negative). -/
theorem holds_same (s t u token now : Int) (h : 0 ≤ token) : dockyardref10_Holds.f s t u token now = lease_Holds.f s t u token now := by
  unfold dockyardref10_Holds.f lease_Holds.f
  by_cases h1 : s = 2
  · rw [if_pos h1, if_pos h1]
    by_cases h2 : token = 0
    · rw [if_pos h2, if_neg (show ¬ token > 0 by omega)]; split <;> rfl
    · rw [if_neg h2, if_pos (show token > 0 by omega)]
  · rw [if_neg h1, if_neg h1]

theorem renew_same (s t u token now : Int) (h : 0 ≤ token) : dockyardref10_Renew.f s t u token now = lease_Renew.f s t u token now := by
  unfold dockyardref10_Renew.f lease_Renew.f lease_late.f
  rw [holds_same s t u token now h]
  congr 1
  funext b
  by_cases hb : b = true
  · rw [if_pos hb, if_pos hb]
    simp only [Option.bind_some]
    by_cases hn : now > 18446744073709551607
    · rw [if_pos hn, if_pos (by simpa using hn)]
    · rw [if_neg hn, if_neg (by simpa using hn)]
  · rw [if_neg hb, if_neg hb]

theorem holds_some (s t u token now : Int) : ∃ b, lease_Holds.f s t u token now = some b := by
  unfold lease_Holds.f
  split
  · split
    · exact ⟨_, rfl⟩
    · split <;> exact ⟨_, rfl⟩
  · exact ⟨_, rfl⟩

theorem renew_some (s t u token now : Int) : ∃ b, lease_Renew.f s t u token now = some b := by
  unfold lease_Renew.f lease_late.f
  obtain ⟨b, hb⟩ := holds_some s t u token now
  rw [hb]
  simp only [Option.bind_some]
  split
  · split <;> exact ⟨_, rfl⟩
  · exact ⟨_, rfl⟩

theorem pure (s t u token now : Int) (h : 0 ≤ token) : dockyardlaw10_LeaseHolds.f (0 + 1) s t u token now = some true := by
  unfold dockyardlaw10_LeaseHolds.f
  rw [renew_same s t u token now h, holds_same s t u token now h, alive]
  obtain ⟨r, hr⟩ := renew_some s t u token now
  obtain ⟨b, hb⟩ := holds_some s t u token now
  rw [hr, hb]
  simp

theorem own : ownKnob Try.prog.godebug = none := by kernel_rfl
theorem laidOut : laidOutB Try.prog = true := by kernel_rfl
set_option maxRecDepth 100000 in
theorem lifted (os : Os) (started : os.Started) (H : Type) (enc : TypeId × Value → H) :
    ReturnsInHanded {} Try.checked os 6 .any (Rows.leaseHoldsSpec.pre6 enc Try.prog Try.f6 Rows.leaseHoldsRow.domain false) (Rows.leaseHoldsSpec.post enc Try.prog Try.f6 false true false false) := by
  refine returnsInHanded_of_change_sized (C := Try.checked) own started (by kernel_rfl) Try.func6
    (ChangeSpec.witness6 (enc := enc) (C := Try.checked) false ⟨#[], #[.agg #[.int .i64 0, .int .u64 0, .int .u64 0], .int .u64 0, .int .u64 0], []⟩ 8 (by kernel_rfl) (by kernel_rfl) (by kernel_rfl) (by kernel_rfl)) ?_
  intro W base args ds gs before hval0 hW hcnd hsz0 _
  have hval : ∀ (j : Nat) t v, Try.f6.params[j]? = some t → args[j]? = some v → Value.okWide Try.prog W .any base t v := hval0
  have hW' := hW
  obtain ⟨p, q, hA0, hV, rfl, hfz, hnd⟩ := hW
  have hA : DataW.TrodAll enc Try.prog W 0 (fun _ => true) true Try.f6.params.toList args.toList ds p := hA0
  rw [Try.params6] at hA hval
  obtain ⟨v0, vs0, d0, ds0, p0, q0, hargs, rfl, rfl, h0, r0⟩ := trodAll_cons hA
  obtain ⟨v1, vs1, d1, ds1, p1, q1, rfl, rfl, rfl, h1, r1⟩ := trodAll_cons r0
  obtain ⟨v2, vs2, d2, ds2, p2, q2, rfl, rfl, rfl, h2, r2⟩ := trodAll_cons r1
  obtain ⟨rfl, rfl, rfl⟩ := trodAll_nil r2
  obtain rfl : args = #[v0, v1, v2] := by cases args; simp_all
  obtain ⟨rfl, rfl⟩ := trodVars_none hV
  obtain ⟨a1, rfl, rfl, rfl, w1⟩ := open_int Try.underlying22 (hval 1 22 v1 rfl rfl) h1
  obtain ⟨a2, rfl, rfl, rfl, w2⟩ := open_int Try.underlying22 (hval 2 22 v2 rfl rfl) h2
  have k0 := h0
  have lt0 : ∀ x ∈ p0, x.block < W.heap.size := by obtain ⟨m, hm⟩ := k0; exact DataW.trod_lt m _ _ _ hm
  obtain ⟨c0, c1, c2, y0, y1, y2, m, rfl, _, _, e0, e1, e2⟩ := open_agg3 Try.underlying27 (by kernel_rfl) (by kernel_rfl : Try.prog.cellsOf 27 = 3) (hval 0 27 v0 rfl rfl) h0
  obtain ⟨s, g0, _, _⟩ := DataW.trod_int Try.underlying3 e0
  obtain ⟨t, g1, _, _⟩ := DataW.trod_int Try.underlying22 e1
  obtain ⟨u, g2, _, _⟩ := DataW.trod_int Try.underlying22 e2
  simp only [List.cons.injEq, and_true] at g0 g1 g2
  subst g0 g1 g2
  clear hA0 hval0 hsz0
  refine (dockyardlaw10_LeaseHolds.calls (0 + 1) s t u a1 a2 true W (pure s t u a1 a2 (bounds w1).1)).mono fun e W' ⟨he, bel⟩ => ?_
  subst he
  exact ⟨_, rfl, _, _, _, [], _, [], hW', trodAll_mk1 (shut_bool Try.underlying4 _), (trodAll_cons_mk (Below.trod laidOut (by kernel_rfl) (of_decide_eq_true (by kernel_rfl)) k0 bel lt0) (trodAll_cons_mk (shut_int Try.underlying22 w1) (trodAll_cons_mk (shut_int Try.underlying22 w2) trodAll_mk0))), rfl, bel.frame _, fun h => by cases h⟩
theorem over : Rows.leaseHoldsRow.holds Try.pinned (OpenSpec.ofChange Rows.leaseHoldsSpec) :=
  OpenClaim.holds_of_wide 6 Try.f6 rfl rfl rfl rfl rfl rfl rfl ⟨rfl, rfl, rfl, rfl, rfl⟩ rfl rfl rfl rfl rfl (by kernel_rfl) Try.func6 (by kernel_rfl)
    (of_decide_eq_true (by kernel_rfl)) (by unfold Func.isWrapper; first | (rw [if_pos (by decide +kernel)]; kernel_rfl) | (rw [if_neg (by decide +kernel)]; exact ⟨rfl, rfl⟩))
    (fun os started H enc _ => lifted os started H enc)
end Go.Proofs.Ytciekdcbjfpfoaa.HoldsRow
namespace Go.Proofs.Ytciekdcbjfpfoaa
theorem leaseHolds_holds : Rows.LeaseHoldsSaid := HoldsRow.over
#print axioms leaseHolds_holds
end Go.Proofs.Ytciekdcbjfpfoaa
