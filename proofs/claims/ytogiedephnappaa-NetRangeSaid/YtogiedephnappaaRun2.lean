/- The contract of the law's run. -/
import Derived.Test.YtogiedephnappaaRun
namespace Go.Proofs.Ytogiedephnappaa.Net
open Go.RowKit Go.Proofs.Ytogiedephnappaa.Mem

/-- Ahead of round k of a run. -/
structure Rn (b : Nat) (w wr : World) (g : Nat) (v : Value) (room : Int) (l : List Ms) (k g' : Nat) (v' : Value) (A' : Option Addr) (c' : Nat) (l' rl' : List Ms) : Prop where
  good : Good b wr g' v' room l' (.slice A' rl'.length c') rl'
  len : l'.length ≤ l.length + k
  kp : Kp (Nb g v) w wr
  fresh : ∀ k, Nb g' v' k → Nb g v k ∨ w.heap.size ≤ k
  b4 : Blk wr w.heap.size 28 #[.int .i64 room, .slice A' rl'.length c']
  b7 : Blk wr (w.heap.size + 1) 28 #[.int .i64 0, .slice none 0 0]

def RnEx (b : Nat) (w wr : World) (g : Nat) (v : Value) (room : Int) (l : List Ms) (k g' : Nat) : Prop := ∃ v' A' c' l' rl', Rn b w wr g v room l k g' v' A' c' l' rl'

theorem Rn.start {b : Nat} {w : World} {g : Nat} {v : Value} {room : Int} {l rl : List Ms} {A : Option Addr} {c : Nat} (h : Good b w g v room l (.slice A rl.length c) rl) :
    RnEx b w ((w.alloc (.cells #[.int .i64 room, .slice A rl.length c] 28)).alloc (.cells #[.int .i64 0, .slice none 0 0] 28)) g v room l 0 g := by
  refine ⟨v, A, c, l, rl, h.below (((Below.refl _ _).alloc (Nat.le_refl _) _).alloc (by simp) _), by omega, ((Kp.refl _ w).alloc _).alloc _, fun k hk => .inl hk, (Blk.new w 28 _).alloc _, ?_⟩
  have h := Blk.new (w.alloc (.cells #[.int .i64 room, .slice A rl.length c] 28)) 28 #[.int .i64 0, .slice none 0 0]
  have e : (w.alloc (.cells #[.int .i64 room, .slice A rl.length c] 28)).heap.size = w.heap.size + 1 := by simp
  rw [e] at h
  exact h

/-- A step, and the reference's net laid back into its box. -/
theorem Rn.next {b : Nat} {w wr W1 W2 : World} {g g' g2 k : Nat} {v v' v2 : Value} {room : Int} {l l' l2 rl' rl2 : List Ms} {A' A2 : Option Addr} {c' c2 : Nat} (h : Rn b w wr g v room l k g' v' A' c' l' rl') (hb1 : Below wr.heap.size wr W1)
    (hG : Good b W2 g2 v2 room l2 (.slice A2 rl2.length c2) rl2) (hl : l2.length ≤ l'.length + 1) (hk : Kp (Nb g' v') W1 W2) (hf : ∀ k, Nb g2 v2 k → Nb g' v' k ∨ W1.heap.size ≤ k) (hb : b ≤ w.heap.size) :
    Rn b w ((W2.setCell ⟨w.heap.size, 0, none⟩ (.int .i64 room)).setCell ⟨w.heap.size, 1, none⟩ (.slice A2 rl2.length c2)) g v room l (k + 1) g2 v2 A2 c2 l2 rl2 := by
  have hO1 : Own b W1 g' v' room l' := ⟨h.good.own.net.below hb1, h.good.own.hg, h.good.own.hv⟩
  have B4 := hO1.blk (h.b4.below hb1) hk (by decide) (by decide)
  have B7 := hO1.blk (h.b7.below hb1) hk (by decide) (by decide)
  have n7 : w.heap.size + 1 ≠ w.heap.size := by omega
  refine ⟨(hG.box (p := ⟨w.heap.size, 0, none⟩) B4 (by decide) (by decide) (by decide) (by decide) hb _).box (p := ⟨w.heap.size, 1, none⟩) (B4.set_ 0 _) (by decide) (by decide) (by decide) (by decide) hb _, by have := h.len; omega, ?_, fun q hq => ?_, ?_, (B7.far (p := ⟨w.heap.size, 0, none⟩) n7 _).far (p := ⟨w.heap.size, 1, none⟩) n7 _⟩
  · refine (((h.kp.below hb1).trans hk (fun q hq e => ?_)).set (p := ⟨w.heap.size, 0, none⟩) (.inr (Nat.le_refl _)) _).set (p := ⟨w.heap.size, 1, none⟩) (.inr (Nat.le_refl _)) _
    rcases h.fresh q e with h1 | h1
    · exact h1
    · omega
  · rcases hf q hq with h1 | h1
    · exact h.fresh q h1
    · have := h.kp.size
      have := hb1.size
      exact .inr (by omega)
  · have := (B4.set_ 0 (.int .i64 room)).set_ 1 (.slice A2 rl2.length c2)
    simpa using this

set_option linter.unusedSimpArgs false in
set_option maxRecDepth 100000 in
set_option maxHeartbeats 2000000 in
theorem run {b : Nat} (w Wa : World) (g : Nat) (v : Value) (room : Int) (l rl : List Ms) (A B : Option Addr) (c cap : Nat) (ops : List Cl) (hG : Good b w g v room l (.slice A rl.length c) rl) (hS : Script Wa B ops) (hWa : b = Wa.heap.size) (hW : Below b Wa w)
    (hlen : l.length + ops.length < 7000000000000) :
    Calls Try.prog 10 #[.pointer (some ⟨g, 0, none⟩), .agg #[.int .i64 room, .slice A rl.length c], .slice B ops.length cap] w (Ran b w g v room l ops.length) := by
  have HB := hG.size
  have HS := Lib.hid hS
  have HW := Lib.hid hW
  have HWA := Lib.hid hWa
  have HNB := Lib.hid hG.own.nb
  have H0 := Lib.hid (Rn.start hG)
  have hN : (ops.length : Int) ≤ 7000000000000 := by omega
  clear hG hS hW hWa
  go_enter Try.func10, Try.ntmps10
  go_wp2_with fail
  go_loopw [0, 9, 14] (fun v0 _ v14 wr => ∃ k g' : Nat, v0 = .pointer (some ⟨g', 0, none⟩) ∧ v14 = .int .i64 k ∧ k ≤ ops.length ∧ Hid (RnEx b w wr g v room l k g')) (fun _ _ v14 _ => ops.length - (intOf v14).toNat)
  case atStart => exact ⟨0, g, rfl, rfl, Nat.zero_le _, H0⟩
  case round =>
    obtain ⟨k, g2, rfl, rfl, hk, HR⟩ := hrel
    clear H0
    obtain ⟨v2, A2, c2, l2, rl2, hrn⟩ := HR.out
    have HRN := Lib.hid hrn
    clear hrn HR
    have e40 : wr.cell? ⟨w.heap.size, 0, none⟩ = some (.int .i64 room) := (HRN.out.b4.cell 0).trans rfl
    have e41 : wr.cell? ⟨w.heap.size, 1, none⟩ = some (.slice A2 rl2.length c2) := (HRN.out.b4.cell 1).trans rfl
    by_cases hlt : k < ops.length
    · obtain ⟨⟨kind, dst, at_, cv, raw⟩, hc⟩ : ∃ c, ops[k]? = some c := ⟨_, List.getElem?_eq_getElem hlt⟩
      have hf := HS.out.fine _ (List.mem_of_getElem? hc)
      have hbw : Below b Wa wr := HRN.out.kp.out HW.out HNB.out HB
      have hbw' : Below Wa.heap.size Wa wr := by rw [← HWA.out]; exact hbw
      have hsl := HS.out.sl.below hbw'
      obtain ⟨bb, oo, rfl, x0⟩ := hsl.at_ (j := k * 4 + 0) (u := .int .i64 kind) (by rw [cl_at ops k 0 _ hc (by omega)]; rfl)
      obtain ⟨b', o', e', x1⟩ := hsl.at_ (j := k * 4 + 1) (u := .int .i64 dst) (by rw [cl_at ops k 1 _ hc (by omega)]; rfl)
      injection e' with e'
      injection e' with e1 e2
      subst e1 e2
      obtain ⟨b', o', e', x2⟩ := hsl.at_ (j := k * 4 + 2) (u := .int .i64 at_) (by rw [cl_at ops k 2 _ hc (by omega)]; rfl)
      injection e' with e'
      injection e' with e1 e2
      subst e1 e2
      obtain ⟨b', o', e', x3⟩ := hsl.at_ (j := k * 4 + 3) (u := cv) (by rw [cl_at ops k 3 _ hc (by omega)]; rfl)
      injection e' with e'
      injection e' with e1 e2
      subst e1 e2
      rw [Nat.add_zero] at x0
      rw [← Nat.add_assoc] at x1 x2 x3
      have hcs : Ms.Safe b wr ⟨dst, cv, raw⟩ := .inr ⟨hf.1.below hbw', by rw [HWA.out]; exact hf.2.2.2.2.2⟩
      have hrw : raw.length ≤ 140737488351232 := hf.2.1
      obtain ⟨C, cd, hv, _, _⟩ := hf.1
      change cv = .slice C raw.length cd at hv
      subst hv
      have HCS := Lib.hid hcs
      have e40a := (World.cell?_alloc_lt wr (.cells #[.int .i64 kind, .int .i64 dst, .int .i64 at_, .slice C raw.length cd] 44) _ (block_lt e40)).trans e40
      have e41a := (World.cell?_alloc_lt wr (.cells #[.int .i64 kind, .int .i64 dst, .int .i64 at_, .slice C raw.length cd] 44) _ (block_lt e41)).trans e41
      clear hc hf hsl hcs hbw hbw'
      go_wp2_with fail
      have hb1 : Below wr.heap.size wr (wr.alloc (.cells #[.int .i64 kind, .int .i64 dst, .int .i64 at_, .slice C raw.length cd] 44)) := (Below.refl _ _).alloc (Nat.le_refl _) _
      refine (step (b := b) _ g2 v2 room kind dst at_ l2 rl2 A2 C c2 cd raw (HRN.out.good.below hb1) (HCS.out.below hb1) hrw (by have := HRN.out.len; omega)).mono ?_
      rintro e W2 ⟨g3, v3, A3, c3, l3, rl3, rfl, hG3, hl3, hk3, hf3⟩
      have HRN3 := Lib.hid (HRN.out.next hb1 hG3 hl3 hk3 hf3 HB)
      have hO1 : Own b (wr.alloc (.cells #[.int .i64 kind, .int .i64 dst, .int .i64 at_, .slice C raw.length cd] 44)) g2 v2 room l2 := ⟨HRN.out.good.own.net.below hb1, HRN.out.good.own.hg, HRN.out.good.own.hv⟩
      have B4 := hO1.blk (HRN.out.b4.below hb1) hk3 (by decide) (by decide)
      have g40 : W2.cell? ⟨w.heap.size, 0, none⟩ = some (.int .i64 room) := (B4.cell 0).trans rfl
      have g41 : W2.cell? ⟨w.heap.size, 1, none⟩ = some (.slice A2 rl2.length c2) := (B4.cell 1).trans rfl
      have f40 := B4.frozen 0
      have f41 := B4.frozen 1
      clear hb1 hG3 hl3 hk3 hf3 hO1 B4 e40 e41 e40a e41a x0 x1 x2 x3 HCS
      go_wp2_with fail
      go_roundw
      case rel => exact ⟨k + 1, g3, rfl, by go_num, by omega, ⟨_, _, _, _, _, HRN3.out⟩⟩
      case measure => simp [intOf]; omega
    · obtain rfl : k = ops.length := by omega
      obtain ⟨W1, rfl⟩ : ∃ W1 : World, W1 = wr := ⟨_, rfl⟩
      clear hlt
      go_wp2_with fail
      have hS0 : W1.drew.cell? ⟨w.heap.size, 0, none⟩ = some (.int .i64 room) ∧ W1.drew.cell? ⟨w.heap.size, 1, none⟩ = some (.slice A2 rl2.length c2) := ⟨e40, e41⟩

      refine wp_region_held_drew (S := fun w' => w'.cell? ⟨w.heap.size, 0, none⟩ = some (.int .i64 room) ∧ w'.cell? ⟨w.heap.size, 1, none⟩ = some (.slice A2 rl2.length c2)) (by kernel_rfl) hS0 (fun hHeld => ?_)
      refine wpAnyH_take (i := 0) (v := ?_) rfl (by kernel_rfl) (by kernel_rfl) (by kernel_rfl) (fun _ _ _ h => h) (Or.inl ⟨by rfl, ?_⟩) hS0 ?_
      rotate_left
      · intro w hSw; obtain ⟨s0, s1⟩ := hSw; first | (go_simp; done) | (go_simp; with_reducible rfl)
      try simp only [List.getElem_toArray, List.getElem_cons_zero, List.getElem_cons_succ, Act.put, List.setIfInBounds_toArray, List.set_cons_zero, List.set_cons_succ]
      refine wpAnyH_take (i := 1) (v := ?_) rfl (by kernel_rfl) (by kernel_rfl) (by kernel_rfl) (fun _ _ _ h => h) (Or.inl ⟨by rfl, ?_⟩) hS0 ?_
      rotate_left
      · intro w hSw; obtain ⟨s0, s1⟩ := hSw; first | (go_simp; done) | (go_simp; with_reducible rfl)
      try simp only [List.getElem_toArray, List.getElem_cons_zero, List.getElem_cons_succ, Act.put, List.setIfInBounds_toArray, List.set_cons_zero, List.set_cons_succ]
      refine wpAnyH_take (i := 2) (v := ?_) rfl (by kernel_rfl) (by kernel_rfl) (by kernel_rfl) (fun _ _ _ h => h) (Or.inl ⟨by rfl, ?_⟩) hS0 ?_
      rotate_left
      · intro w hSw; obtain ⟨s0, s1⟩ := hSw; first | (go_simp; done) | (go_simp; with_reducible rfl)
      try simp only [List.getElem_toArray, List.getElem_cons_zero, List.getElem_cons_succ, Act.put, List.setIfInBounds_toArray, List.set_cons_zero, List.set_cons_succ]
      refine wpAnyH_take (i := 3) (v := ?_) rfl (by kernel_rfl) (by kernel_rfl) (by kernel_rfl) (fun _ _ _ h => h) (Or.inl ⟨by rfl, ?_⟩) hS0 ?_
      rotate_left
      · intro w hSw; obtain ⟨s0, s1⟩ := hSw; first | (go_simp; done) | (go_simp; with_reducible rfl)
      try simp only [List.getElem_toArray, List.getElem_cons_zero, List.getElem_cons_succ, Act.put, List.setIfInBounds_toArray, List.set_cons_zero, List.set_cons_succ]
      refine wpAnyH_ready (rs := [4]) (by kernel_rfl) (by simp) ?_
      refine AllReadyH.cons rfl (fun K hK => ?_) AllReadyH.nil
      try simp only [List.getElem_toArray, List.getElem_cons_zero, List.getElem_cons_succ]
      go_simp
      refine (stands W1.drew room A2 c2 g2 v2 room l2 (HRN.out.good.own.net.below (Below.refl _ _).drew) (HRN.out.good.rf.below (Below.refl _ _).drew) HRN.out.good.same HRN.out.good.short (by have := HRN.out.len; omega)).mono ?_
      rintro e W2 ⟨rfl, hbel⟩
      have hb2 : Below W1.heap.size W1 W2 := (Below.refl _ _).drew.trans hbel
      have HG2 := Lib.hid (HRN.out.good.below hb2)
      have HB7 := Lib.hid (HRN.out.b7.below hb2)
      have HK2 := Lib.hid (HRN.out.kp.below hb2)
      have hS1 : W2.cell? ⟨w.heap.size, 0, none⟩ = some (.int .i64 room) ∧ W2.cell? ⟨w.heap.size, 1, none⟩ = some (.slice A2 rl2.length c2) := ⟨((HRN.out.b4.below hb2).cell 0).trans rfl, ((HRN.out.b4.below hb2).cell 1).trans rfl⟩
      have c70 : W2.cell? ⟨w.heap.size + 1, 0, none⟩ = some (.int .i64 0) := (HB7.out.cell 0).trans rfl
      have c71 : W2.cell? ⟨w.heap.size + 1, 1, none⟩ = some (.slice none 0 0) := (HB7.out.cell 1).trans rfl
      have f70 := HB7.out.frozen 0
      have f71 := HB7.out.frozen 1
      have hS2 : ((W2.setCell ⟨w.heap.size + 1, 0, none⟩ (.int .i64 room)).setCell ⟨w.heap.size + 1, 1, none⟩ (.slice A2 rl2.length c2)).cell? ⟨w.heap.size, 0, none⟩ = some (.int .i64 room) ∧ ((W2.setCell ⟨w.heap.size + 1, 0, none⟩ (.int .i64 room)).setCell ⟨w.heap.size + 1, 1, none⟩ (.slice A2 rl2.length c2)).cell? ⟨w.heap.size, 1, none⟩ = some (.slice A2 rl2.length c2) := ⟨box_set hS1.1 (by omega) _ _, box_set hS1.2 (by omega) _ _⟩
      have HF := Lib.hid ((HG2.out.box (p := ⟨w.heap.size + 1, 0, none⟩) HB7.out (by decide) (by decide) (by decide) (by decide) (by show b ≤ w.heap.size + 1; omega) (.int .i64 room)).box (p := ⟨w.heap.size + 1, 1, none⟩) (HB7.out.set_ 0 _) (by decide) (by decide) (by decide) (by decide) (by show b ≤ w.heap.size + 1; omega) (.slice A2 rl2.length c2))
      have HKF := Lib.hid ((HK2.out.set (p := ⟨w.heap.size + 1, 0, none⟩) (.inr (by simp)) (.int .i64 room)).set (p := ⟨w.heap.size + 1, 1, none⟩) (.inr (by simp)) (.slice A2 rl2.length c2))
      clear hbel hb2 hS0 e40 e41
      try (go_wp2_with fail)
      refine hK.out _ _ hS1 (fun hHeld => ?_)
      clear hK K
      try simp only [List.getElem_toArray, List.getElem_cons_zero, List.getElem_cons_succ, Act.put, List.setIfInBounds_toArray, List.set_cons_zero, List.set_cons_succ]
      refine wpAnyH_take (i := 5) (v := ?_) rfl (by kernel_rfl) (by kernel_rfl) (by kernel_rfl) (fun _ _ _ h => h) (Or.inl ⟨by rfl, ?_⟩) hS1 ?_
      rotate_left
      · intro w hSw; obtain ⟨s0, s1⟩ := hSw; first | (go_simp; done) | (go_simp; with_reducible rfl)
      try simp only [List.getElem_toArray, List.getElem_cons_zero, List.getElem_cons_succ, Act.put, List.setIfInBounds_toArray, List.set_cons_zero, List.set_cons_succ]
      refine wpAnyH_ready (rs := [6]) (by kernel_rfl) (by simp) ?_
      refine AllReadyH.cons rfl (fun K hK => ?_) AllReadyH.nil
      try simp only [List.getElem_toArray, List.getElem_cons_zero, List.getElem_cons_succ]
      go_simp
      refine hK.out _ _ hS2 (fun hHeld => ?_)
      clear hK K
      try simp only [List.getElem_toArray, List.getElem_cons_zero, List.getElem_cons_succ, Act.put, List.setIfInBounds_toArray, List.set_cons_zero, List.set_cons_succ]
      refine wpAnyH_take (i := 7) (v := ?_) rfl (by kernel_rfl) (by kernel_rfl) (by kernel_rfl) (fun _ _ _ h => h) (Or.inl ⟨by rfl, ?_⟩) hS2 ?_
      rotate_left
      · intro w hSw; obtain ⟨s0, s1⟩ := hSw; first | (go_simp; done) | (go_simp; with_reducible rfl)
      try simp only [List.getElem_toArray, List.getElem_cons_zero, List.getElem_cons_succ, Act.put, List.setIfInBounds_toArray, List.set_cons_zero, List.set_cons_succ]
      refine wpAnyH_done (by kernel_rfl) ?_ _
      (go_wp2_with fail; exact bodyPost_ret (v := .tuple #[.pointer (some ⟨g2, 0, none⟩), .agg #[.int .i64 room, .slice A2 rl2.length c2], .bool true]) (by simp [results, Try.results10, go_sem, c70, c71]) rfl ⟨g2, v2, A2, c2, l2, rl2, rfl, HF.out, HRN.out.len, HKF.out, HRN.out.fresh⟩)

end Go.Proofs.Ytogiedephnappaa.Net
