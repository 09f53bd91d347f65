/- The iterators: slices.All's closure, To, To's closure. -/
import Derived.Test.YtogiedephnappaaRound
namespace Go.Proofs.Ytogiedephnappaa.Net
open Go.RowKit Go.Proofs.Ytogiedephnappaa.Mem
attribute [local go_sem] Oper.semAt_some
theorem wide_depth : Fence.wide.depth = none := rfl
attribute [local go_sem] wide_depth

theorem all_calls (A : Option Addr) (n c : Nat) (w : World) :
    Calls Try.prog 25 #[.slice A n c] w fun e w' => e = .returned (.func (.func 36) #[] #[.pointer (some ⟨w.heap.size, 0, none⟩)]) ∧ w' = w.alloc (.cells #[.slice A n c] 65) := by
  go_enter Try.func25, Try.ntmps25
  go_wp2
  go_ret
  exact ⟨rfl, rfl⟩

theorem to_calls (g : Nat) (dst : Int) (w : World) :
    Calls Try.prog 12 #[.pointer (some ⟨g, 0, none⟩), .int .i64 dst] w fun e w' => e = .returned (.func (.func 24) #[] #[.pointer (some ⟨w.heap.size, 0, none⟩), .pointer (some ⟨w.heap.size + 1, 0, none⟩)]) ∧ w' = (w.alloc (.cells #[.pointer (some ⟨g, 0, none⟩)] 23)).alloc (.cells #[.int .i64 dst] 3) := by
  go_enter Try.func12, Try.ntmps12
  go_wp2
  go_ret
  exact ⟨rfl, rfl⟩

set_option maxRecDepth 100000 in
set_option maxHeartbeats 2000000 in
/-- slices.All's closure over an own row of messages. -/
theorem all1 (l Bn b o n c : Nat) (xs : List Ms) (hn : xs.length = n) (hn2 : n ≤ 7000000000000) (hone : ∀ x ∈ xs, ∃ A c, x.v = .slice A x.raw.length c) (J : Nat → World → Prop) (Jx : World → Prop) (hal : ∀ k W o, J k W → J k (W.alloc o))
    (hm : ∀ k x W, xs[k]? = some x → J k W → W.cell? ⟨b, o + k * 2, none⟩ = some (.int .i64 x.dst) ∧ W.cell? ⟨b, o + k * 2 + 1, none⟩ = some x.v)
    (hY : ∀ k x W1, xs[k]? = some x → J k W1 → YieldAt Fence.wide 0 Try.prog l #[.int .i64 k, .agg #[.int .i64 x.dst, x.v]] W1 fun e W' =>
      (e = .returned (.bool true) ∧ J (k + 1) W') ∨ (e = .returned (.bool false) ∧ Jx W'))
    (W : World) (hBn : W.cell? ⟨Bn, 0, none⟩ = some (.slice (some ⟨b, o, none⟩) n c)) (h0 : J 0 W) :
    CallsIn Fence.wide 0 Try.prog 36 #[.func (.yield l) #[] #[], .pointer (some ⟨Bn, 0, none⟩)] W fun e W' => (∃ v, e = .returned v) ∧ (J n W' ∨ Jx W') := by
  have HY := Lib.hid hY
  have HM := Lib.hid hm
  have HA := Lib.hid hal
  have H1 := Lib.hid hone
  have hni : (n : Int) ≤ 7000000000000 := by omega
  clear hY hm hal hone
  refine callsIn_of_wp Try.func36 rfl trivial ?_ rfl
  simp only [Try.ntmps36, List.size_toArray, List.length_cons, List.length_nil, Nat.reduceAdd, Nat.reduceSub, Array.replicate_succ, Array.replicate_zero, List.push_toArray, List.append_toArray, List.nil_append, List.cons_append]
  gi_wp2
  gi_loopw [7] (fun i wr => ∃ k : Nat, k ≤ n ∧ i = .int .i64 k ∧ Hid (J k wr)) (fun i _ => n - (intOf i).toNat)
  case atStart => exact ⟨0, Nat.zero_le _, rfl, h0⟩
  case round =>
    obtain ⟨k, hk, rfl, HJ⟩ := hrel
    by_cases hlt : k < n
    · obtain ⟨x, hx⟩ : ∃ x, xs[k]? = some x := ⟨_, List.getElem?_eq_getElem (by omega)⟩
      obtain ⟨c0, c1⟩ := HM.out k x wr hx HJ.out
      obtain ⟨dst, v, raw⟩ := x
      obtain ⟨C, cc, hv⟩ := H1.out _ (List.mem_of_getElem? hx)
      change v = .slice C raw.length cc at hv
      subst hv
      obtain ⟨fn, tmps, assign, body, hy, hR⟩ := HY.out k _ _ hx (HA.out k wr (.cells #[.int .i64 dst, .slice C raw.length cc] 67) HJ.out)
      clear hx
      dsimp only at hy c0 c1
      gi_wp2
      refine hR.mono ?_
      rintro e W3 (⟨rfl, hJ3⟩ | ⟨rfl, hJx3⟩)
      · have HJ3 := Lib.hid hJ3
        clear hJ3
        gi_wp2
        go_roundw
        case rel => exact ⟨k + 1, by omega, by simp, HJ3⟩
        case measure => simp [intOf]; omega
      · have HJ3 := Lib.hid hJx3
        clear hJx3
        gi_wp2
        refine bodyPost_ret (results_none rfl _ _ _) rfl ?_
        exact ⟨⟨_, rfl⟩, .inr HJ3.out⟩
    · obtain rfl : k = n := by omega
      gi_wp2
      go_end0
      exact ⟨⟨_, rfl⟩, .inl HJ.out⟩

end Go.Proofs.Ytogiedephnappaa.Net
