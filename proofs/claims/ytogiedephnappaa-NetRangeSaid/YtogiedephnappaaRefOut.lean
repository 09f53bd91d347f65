/- The contract of the reference's Out. -/
import Derived.Test.YtogiedephnappaaRef
namespace Go.Proofs.Ytogiedephnappaa.Net
open Go.RowKit Go.Proofs.Ytogiedephnappaa.Mem

/-- The first j without what stands at k. -/
def outs (l : List Ms) (k j : Nat) : List Ms := (l.take j).take k ++ (l.take j).drop (k + 1)

theorem outs_zero (l : List Ms) (k : Nat) : outs l k 0 = [] := by simp [outs]
theorem outs_all (l : List Ms) (k : Nat) : outs l k l.length = l.take k ++ l.drop (k + 1) := by simp [outs]
theorem outs_same {l : List Ms} {k : Nat} (hk : k < l.length) : outs l k (k + 1) = outs l k k := by
  have h1 : (l.take k).length = k := by rw [List.length_take]; omega
  have e2 : (l.take k).drop (k + 1) = [] := List.drop_eq_nil_of_le (by omega)
  have e3 : (l.take (k + 1)).drop (k + 1) = [] := List.drop_eq_nil_of_le (by rw [List.length_take]; omega)
  unfold outs
  rw [e2, e3, List.take_take, List.take_take]
  congr 2
  omega
theorem outs_more {l : List Ms} {k j : Nat} {x : Ms} (hx : l[j]? = some x) (hne : j ≠ k) : outs l k (j + 1) = outs l k j ++ [x] := by
  have hj : j < l.length := (List.getElem?_eq_some_iff.1 hx).1
  have ha : (l.take j).length = j := by rw [List.length_take]; omega
  have e : l.take (j + 1) = l.take j ++ [x] := by rw [List.take_add_one, hx]; rfl
  unfold outs
  rw [e]
  by_cases h : j < k
  · rw [List.take_of_length_le (by simp; omega), List.drop_eq_nil_of_le (by simp; omega), List.take_of_length_le (by omega : (l.take j).length ≤ k), List.drop_eq_nil_of_le (by omega : (l.take j).length ≤ k + 1)]
    simp
  · rw [List.take_append_of_le_length (by omega), List.drop_append_of_le_length (by omega), List.append_assoc]
theorem outs_len {l : List Ms} (k j : Nat) : (outs l k j).length ≤ l.length := by
  unfold outs
  simp only [List.length_append, List.length_take, List.length_drop]
  omega
theorem outs_mem {l : List Ms} {k j : Nat} {x : Ms} (h : x ∈ outs l k j) : x ∈ l := by
  rcases List.mem_append.1 h with h | h
  · exact List.mem_of_mem_take (List.mem_of_mem_take h)
  · exact List.mem_of_mem_take (List.mem_of_mem_drop h)

/-- Ahead of a round. -/
structure Oo (w wr : World) (v : Value) (room : Int) (vr : Value) (rl : List Ms) (k j : Nat) : Prop where
  own : wr.ownsRow w.heap.size 37 2 v (outs rl k j).length ((outs rl k j).flatMap Ms.cells)
  below : Below w.heap.size w wr
  b2 : Blk wr w.heap.size 28 #[.int .i64 room, vr]
  b4 : Blk wr (w.heap.size + 1) 28 #[.int .i64 0, .slice none 0 0]

set_option maxHeartbeats 800000 in
set_option maxRecDepth 100000 in
theorem ref_out {b : Nat} {rl : List Ms} (w : World) (room : Int) (A : Option Addr) (c : Nat) (k : Nat) (hk : k < rl.length) (hR : Rf b w (.slice A rl.length c) rl) (hl : rl.length < 7000000000000) (hb : b ≤ w.heap.size) :
    Calls Try.prog 33 #[.agg #[.int .i64 room, .slice A rl.length c], .int .i64 k] w fun e w' =>
      ∃ v', e = .returned (.agg #[.int .i64 room, v']) ∧ Rf b w' v' (rl.take k ++ rl.drop (k + 1)) ∧ Below w.heap.size w w' := by
  obtain ⟨i0, hi, hz0, hz1, hz2⟩ := info_parts info37
  have HR := Lib.hid hR
  have HSL : Hid (Sl w 2 A rl.length (rl.flatMap Ms.cells)) := by
    obtain ⟨A', c', e, _, _, h⟩ := hR.slice
    injection e with e1 _ _
    subst e1
    exact h
  have hO0 : Oo w ((w.alloc (.cells #[.int .i64 room, .slice A rl.length c] 28)).alloc (.cells #[.int .i64 0, .slice none 0 0] 28)) (.slice none 0 0) room (.slice A rl.length c) rl k 0 := by
    refine ⟨by rw [outs_zero]; exact World.ownsRow_nil _ _ _ _, ((Below.refl _ _).alloc (Nat.le_refl _) _).alloc (by simp) _, (Blk.new w 28 _).alloc _, ?_⟩
    have h6 := Blk.new (w.alloc (.cells #[.int .i64 room, .slice A rl.length c] 28)) 28 #[.int .i64 0, .slice none 0 0]
    have h6s : (w.alloc (.cells #[.int .i64 room, .slice A rl.length c] 28)).heap.size = w.heap.size + 1 := by simp
    rw [h6s] at h6
    exact h6
  have HO0 := Lib.hid hO0
  have hki : (k : Int) < (rl.length : Int) := by omega
  have hli : (rl.length : Int) ≤ 7000000000000 := by omega
  clear hR hO0
  go_enter Try.func33, Try.ntmps33
  go_wp2_with fail
  go_loopw [5, 6] (fun v5 v6 wr => ∃ j : Nat, v6 = .int .i64 j ∧ j ≤ rl.length ∧ Hid (Oo w wr v5 room (.slice A rl.length c) rl k j)) (fun _ v6 _ => rl.length - (intOf v6).toNat)
  case atStart => exact ⟨0, rfl, Nat.zero_le _, HO0⟩
  case round =>
    obtain ⟨j, rfl, hj, HO⟩ := hrel
    clear HO0
    have p1 : wr.cell? ⟨w.heap.size, 1, none⟩ = some (.slice A rl.length c) := (HO.out.b2.cell 1).trans rfl
    by_cases hjl : j < rl.length
    · by_cases hjk : j = k
      · subst hjk
        have HE := Lib.hid (outs_same hk)
        go_wp2_with fail
        go_roundw
        case rel => exact ⟨j + 1, by go_num, by omega, ⟨by rw [HE.out]; exact HO.out.own, HO.out.below, HO.out.b2, HO.out.b4⟩⟩
        case measure => simp [intOf]; omega
      · obtain ⟨x, hx⟩ : ∃ x, rl[j]? = some x := ⟨_, List.getElem?_eq_getElem hjl⟩
        have HE := Lib.hid (outs_more hx hjk)
        have hjk' : ((j : Int) == (k : Int)) = false := beq_eq_false_iff_ne.2 (by omega)
        obtain ⟨C, cc, hv, _, _⟩ := ((HR.out.safe x (List.mem_of_getElem? hx)).below HO.out.below).reads
        obtain ⟨bi, oi, rfl, x0⟩ := (HSL.out.below HO.out.below).at_ (j := j * 2 + 0) (u := .int .i64 x.dst) (by rw [flat_at rl j 0 x hx (by omega)]; rfl)
        obtain ⟨b', o', e', x1⟩ := (HSL.out.below HO.out.below).at_ (j := j * 2 + 1) (u := x.v) (by rw [flat_at rl j 1 x hx (by omega)]; rfl)
        injection e' with e'
        injection e' with e1 e2
        subst e1 e2
        rw [hv] at x1
        rw [Nat.add_zero] at x0
        rw [← Nat.add_assoc] at x1
        have HV := Lib.hid hv
        have hol := outs_len (l := rl) k j
        obtain ⟨D, cD, rfl, _, _, _, _, _⟩ := Sl.of_own HO.out.own
        have HO1 := Lib.hid (fun o => own_kp (S := fun _ => False) HO.out.own ((Kp.refl (fun _ => False) wr).alloc o) (fun _ _ e => e))
        have N2 := Lib.hid (own_ne HO.out.own HO.out.b2 (by decide))
        have N4 := Lib.hid (own_ne HO.out.own HO.out.b4 (by decide))
        have L1 := Lib.hid (fun k e => (HO.out.own.lt k e).1)
        have HZ := HO.out.below.size
        clear hx hv
        go_wp2_with (at_builtin; refine wpList_append_sl _ rfl (.tmp 17) (.tmp 23) 26 rfl w.heap.size 37 i0 _ 2 32 Try.underlying26 hi hz0 hz1 hz2 rfl (by decide) (.slice D (outs rl k j).length cD) (outs rl k j).length ((outs rl k j).flatMap Ms.cells) rfl (HO1.out _) (some ⟨_, 0, none⟩) 1 1 [.int .i64 x.dst, .slice C x.raw.length cc] rfl (two_sl _ _ _ _) (by intro z hz; simp at hz; rcases hz with rfl | rfl <;> rfl) (by unfold maxLen; omega) (by omega) (by simp; omega) ?_; intro v2 w2 hown2 hgrow2 hat2)
        obtain ⟨D2, cD2, rfl, _, _, _, _, _⟩ := Sl.of_own hown2
        have HO2 : Hid (Oo w w2 (.slice D2 ((outs rl k j).length + 1) cD2) room (.slice (some ⟨bi, oi, none⟩) rl.length c) rl k (j + 1)) := by
          refine ⟨?_, (HO.out.below.alloc HZ _).grown hgrow2 (by simp; omega) (fun k e => L1.out k e), (HO.out.b2.alloc _).grown hgrow2 N2.out, (HO.out.b4.alloc _).grown hgrow2 N4.out⟩
          rw [HE.out, List.length_append, List.flatMap_append]
          simpa [Ms.cells, HV.out] using hown2
        clear hown2 hgrow2 hat2 HO1
        go_wp2_with fail
        go_roundw
        case rel => exact ⟨j + 1, by go_num, by omega, HO2⟩
        case measure => simp [intOf]; omega
    · obtain rfl : j = rl.length := by omega
      have hown := HO.out.own
      rw [outs_all] at hown
      obtain ⟨D, cD, rfl, _, _, _, _, _⟩ := Sl.of_own hown
      have HW := Lib.hid hown
      have n1 := Lib.hid (own_ne hown HO.out.b2 (by decide))
      have n2 := Lib.hid (own_ne hown HO.out.b4 (by decide))
      have q0 : wr.cell? ⟨w.heap.size, 0, none⟩ = some (.int .i64 room) := (HO.out.b2.cell 0).trans rfl
      have q2 := HO.out.b2.frozen 1
      have q3 := HO.out.b4.frozen 0
      have q4 := HO.out.b4.frozen 1
      have q5 : wr.cell? ⟨w.heap.size + 1, 0, none⟩ = some (.int .i64 0) := (HO.out.b4.cell 0).trans rfl
      have q6 : wr.cell? ⟨w.heap.size + 1, 1, none⟩ = some (.slice none 0 0) := (HO.out.b4.cell 1).trans rfl
      clear hown
      generalize hol : (List.take k rl ++ List.drop (k + 1) rl).length = ol at *
      go_wp2_with fail
      have HF : Below w.heap.size w (((wr.setCell ⟨w.heap.size, 1, none⟩ (.slice D ol cD)).setCell ⟨w.heap.size + 1, 0, none⟩ (.int .i64 room)).setCell ⟨w.heap.size + 1, 1, none⟩ (.slice D ol cD)) :=
        ((HO.out.below.setCell (by simp) _).setCell (by simp) _).setCell (by simp) _
      refine bodyPost_ret (v := .agg #[.int .i64 room, .slice D ol cD]) (by simp [results, Try.results33, go_sem, q5, q6]) rfl ⟨_, rfl, ⟨?_, fun y hy => ?_⟩, HF⟩
      · have := own_base (own_set (own_set (own_set HW.out (p := ⟨w.heap.size, 1, none⟩) n1.out (.slice D ol cD)) (p := ⟨w.heap.size + 1, 0, none⟩) n2.out (.int .i64 room)) (p := ⟨w.heap.size + 1, 1, none⟩) n2.out (.slice D ol cD)) hb
        rw [hol]
        exact this
      · refine (HR.out.safe y ?_).below HF
        rcases List.mem_append.1 hy with hy | hy
        · exact List.mem_of_mem_take hy
        · exact List.mem_of_mem_drop hy

end Go.Proofs.Ytogiedephnappaa.Net
