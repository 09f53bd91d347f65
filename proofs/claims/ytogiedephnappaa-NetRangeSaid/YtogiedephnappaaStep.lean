/- The law's step, kind by kind. -/
import Derived.Test.YtogiedephnappaaStepWords
namespace Go.Proofs.Ytogiedephnappaa.Net
open Go.RowKit Go.Proofs.Ytogiedephnappaa.Mem

theorem Pre.store {w W : World} {g : Nat} {v vr : Value} {room : Int} {op : Array Value} (h : Pre w W g v room vr op) (vr' : Value) : Pre w ((W.setCell ⟨w.heap.size, 0, none⟩ (.int .i64 room)).setCell ⟨w.heap.size, 1, none⟩ vr') g v room vr' op := by
  have n5 : w.heap.size + 1 ≠ w.heap.size := by omega
  have n7 : w.heap.size + 1 + 1 ≠ w.heap.size := by omega
  refine ⟨(h.kp.set (p := ⟨w.heap.size, 0, none⟩) (.inr (Nat.le_refl _)) _).set (p := ⟨w.heap.size, 1, none⟩) (.inr (Nat.le_refl _)) _, ?_, (h.b5.far (p := ⟨w.heap.size, 0, none⟩) n5 _).far (p := ⟨w.heap.size, 1, none⟩) n5 _, (h.b7.far (p := ⟨w.heap.size, 0, none⟩) n7 _).far (p := ⟨w.heap.size, 1, none⟩) n7 _, h.nb⟩
  have := (h.b4.set_ 0 (.int .i64 room)).set_ 1 vr'
  simpa using this

theorem stepped_drew {b g : Nat} {w W : World} {v : Value} {room : Int} {l : List Ms} {e : Ending} (h : Stepped b w g v room l e W) : Stepped b w g v room l e W.drew := by
  obtain ⟨g', v', A', c', l', rl', he, hg, hl, hk, hf⟩ := h
  exact ⟨g', v', A', c', l', rl', he, hg.below (Below.refl _ _).drew, hl, hk.drew, hf⟩

theorem box_set {W : World} {a o t : Nat} {z : Value} (h : W.cell? ⟨a, o, none⟩ = some z) (hne : a ≠ t) (x y : Value) : ((W.setCell ⟨t, 0, none⟩ x).setCell ⟨t, 1, none⟩ y).cell? ⟨a, o, none⟩ = some z :=
  (World.cell?_setCell_other _ _ _ _ (by intro h; simp only [Addr.mk.injEq] at h; omega)).trans ((World.cell?_setCell_other _ _ _ _ (by intro h; simp only [Addr.mk.injEq] at h; omega)).trans h)


set_option linter.unusedSimpArgs false in
set_option maxRecDepth 100000 in
set_option maxHeartbeats 2000000 in
theorem step_any {b : Nat} (w : World) (g : Nat) (v : Value) (room kind dst at_ : Int) (l rl : List Ms) (A C : Option Addr) (c cd : Nat) (raw : List Int) (hG : Good b w g v room l (.slice A rl.length c) rl) (hx : Ms.Safe b w ⟨dst, .slice C raw.length cd, raw⟩)
    (_hraw : raw.length ≤ 140737488351232) (_hl : l.length < 7000000000000) (k0 : (kind == 0) = false) (k1 : (kind == 1) = false) (k2 : (kind == 2) = false) (k3 : (kind == 3) = false) (k4 : (kind == 4) = false) (k5 : (kind == 5) = false) (k7 : (kind == 7) = false) :
    Calls Try.prog 22 #[.pointer (some ⟨g, 0, none⟩), .agg #[.int .i64 room, .slice A rl.length c], .agg #[.int .i64 kind, .int .i64 dst, .int .i64 at_, .slice C raw.length cd]] w (Stepped b w g v room l) := by
  have hlr := hG.same.len
  have HB := hG.size
  have HP := Lib.hid (pre_start hG.own.nb_lt room (.slice A rl.length c) #[.int .i64 kind, .int .i64 dst, .int .i64 at_, .slice C raw.length cd])
  have HB1 : Hid (Below w.heap.size w (((w.alloc (.cells #[.int .i64 room, .slice A rl.length c] 28)).alloc (.cells #[.int .i64 kind, .int .i64 dst, .int .i64 at_, .slice C raw.length cd] 44)).alloc (.cells #[.int .i64 0, .slice none 0 0] 28))) :=
    (((Below.refl _ _).alloc (Nat.le_refl _) _).alloc (by simp) _).alloc (by simp; omega) _
  have HG1 := Lib.hid (hG.below HB1.out)
  have HX1 := Lib.hid (hx.below HB1.out)
  have HLR := Lib.hid hlr
  have HOL : Hid (∀ x ∈ l, ∀ k, x.v.ownBlock = some k → k < w.heap.size) := fun x hx k e => ((hG.own.net.msg x hx).lt k e).2
  have HNB := Lib.hid hG.own.nb_lt
  clear hG hx hlr
  go_enter Try.func22, Try.ntmps22
  go_wp2_with fail
  obtain ⟨W1, hW1⟩ : ∃ W1, W1 = ((w.alloc (.cells #[.int .i64 room, .slice A rl.length c] 28)).alloc (.cells #[.int .i64 kind, .int .i64 dst, .int .i64 at_, .slice C raw.length cd] 44)).alloc (.cells #[.int .i64 0, .slice none 0 0] 28) := ⟨_, rfl⟩
  rw [← hW1] at HP HB1 HG1 HX1 ⊢
  clear hW1
  have hS0 : W1.drew.cell? ⟨w.heap.size, 0, none⟩ = some (.int .i64 room) ∧ W1.drew.cell? ⟨w.heap.size, 1, none⟩ = some (.slice A rl.length c) := ⟨(HP.out.b4.cell 0).trans rfl, (HP.out.b4.cell 1).trans rfl⟩
  refine wp_region_held_drew (S := fun w' => w'.cell? ⟨w.heap.size, 0, none⟩ = some (.int .i64 room) ∧ w'.cell? ⟨w.heap.size, 1, none⟩ = some (.slice A rl.length c)) (by kernel_rfl) hS0 (fun hHeld => ?_)
  refine wpAnyH_take (i := 0) (v := ?_) rfl (by kernel_rfl) (by kernel_rfl) (by kernel_rfl) (fun _ _ _ h => h) (Or.inl ⟨by rfl, ?_⟩) hS0 ?_
  rotate_left
  · intro w hSw; obtain ⟨s0, s1⟩ := hSw; first | (go_simp; done) | (go_simp; with_reducible rfl)
  try simp only [List.getElem_toArray, List.getElem_cons_zero, List.getElem_cons_succ, Act.put, List.setIfInBounds_toArray, List.set_cons_zero, List.set_cons_succ]
  refine wpAnyH_take (i := 1) (v := ?_) rfl (by kernel_rfl) (by kernel_rfl) (by kernel_rfl) (fun _ _ _ h => h) (Or.inl ⟨by rfl, ?_⟩) hS0 ?_
  rotate_left
  · intro w hSw; obtain ⟨s0, s1⟩ := hSw; first | (go_simp; done) | (go_simp; with_reducible rfl)
  try simp only [List.getElem_toArray, List.getElem_cons_zero, List.getElem_cons_succ, Act.put, List.setIfInBounds_toArray, List.set_cons_zero, List.set_cons_succ]
  refine wpAnyH_take (i := 2) (v := ?_) rfl (by kernel_rfl) (by kernel_rfl) (by kernel_rfl) (fun _ _ _ h => h) (Or.inl ⟨by rfl, ?_⟩) hS0 ?_
  rotate_left
  · intro w hSw; obtain ⟨s0, s1⟩ := hSw; first | (go_simp; done) | (go_simp; with_reducible rfl)
  try simp only [List.getElem_toArray, List.getElem_cons_zero, List.getElem_cons_succ, Act.put, List.setIfInBounds_toArray, List.set_cons_zero, List.set_cons_succ]
  refine wpAnyH_take (i := 3) (v := ?_) rfl (by kernel_rfl) (by kernel_rfl) (by kernel_rfl) (fun _ _ _ h => h) (Or.inl ⟨by rfl, ?_⟩) hS0 ?_
  rotate_left
  · intro w hSw; obtain ⟨s0, s1⟩ := hSw; first | (go_simp; done) | (go_simp; with_reducible rfl)
  try simp only [List.getElem_toArray, List.getElem_cons_zero, List.getElem_cons_succ, Act.put, List.setIfInBounds_toArray, List.set_cons_zero, List.set_cons_succ]
  refine wpAnyH_ready (rs := [4]) (by kernel_rfl) (by simp) ?_
  refine AllReadyH.cons rfl (fun K hK => ?_) AllReadyH.nil
  try simp only [List.getElem_toArray, List.getElem_cons_zero, List.getElem_cons_succ]
  go_simp
  refine (stands W1.drew room A c g v room l (HG1.out.own.net.below (Below.refl _ _).drew) (HG1.out.rf.below (Below.refl _ _).drew) HG1.out.same HG1.out.short (by omega)).mono ?_
  rintro e W2 ⟨rfl, hbel⟩
  have hb2 : Below W1.heap.size W1 W2 := (Below.refl _ _).drew.trans hbel
  have HP2 := Lib.hid (HP.out.below hb2)
  have HG2 := Lib.hid (HG1.out.below hb2)
  have hS1 : W2.cell? ⟨w.heap.size, 0, none⟩ = some (.int .i64 room) ∧ W2.cell? ⟨w.heap.size, 1, none⟩ = some (.slice A rl.length c) := ⟨(HP2.out.b4.cell 0).trans rfl, (HP2.out.b4.cell 1).trans rfl⟩
  have c70 : W2.cell? ⟨w.heap.size + 1 + 1, 0, none⟩ = some (.int .i64 0) := (HP2.out.b7.cell 0).trans rfl
  have c71 : W2.cell? ⟨w.heap.size + 1 + 1, 1, none⟩ = some (.slice none 0 0) := (HP2.out.b7.cell 1).trans rfl
  have f70 := HP2.out.b7.frozen 0
  have f71 := HP2.out.b7.frozen 1
  have hS2 : ((W2.setCell ⟨w.heap.size + 1 + 1, 0, none⟩ (.int .i64 room)).setCell ⟨w.heap.size + 1 + 1, 1, none⟩ (.slice A rl.length c)).cell? ⟨w.heap.size, 0, none⟩ = some (.int .i64 room) ∧ ((W2.setCell ⟨w.heap.size + 1 + 1, 0, none⟩ (.int .i64 room)).setCell ⟨w.heap.size + 1 + 1, 1, none⟩ (.slice A rl.length c)).cell? ⟨w.heap.size, 1, none⟩ = some (.slice A rl.length c) := ⟨box_set hS1.1 (by omega) _ _, box_set hS1.2 (by omega) _ _⟩
  clear hbel hb2 HG1 HX1 HP HB1 hS0
  try (go_wp2_with fail)
  refine hK.out _ _ hS1 (fun hHeld => ?_)
  clear hK K
  try simp only [List.getElem_toArray, List.getElem_cons_zero, List.getElem_cons_succ, Act.put, List.setIfInBounds_toArray, List.set_cons_zero, List.set_cons_succ]
  refine wpAnyH_take (i := 5) (v := ?_) rfl (by kernel_rfl) (by kernel_rfl) (by kernel_rfl) (fun _ _ _ h => h) (Or.inl ⟨by rfl, ?_⟩) hS1 ?_
  rotate_left
  · intro w hSw; obtain ⟨s0, s1⟩ := hSw; first | (go_simp; done) | (go_simp; with_reducible rfl)
  try simp only [List.getElem_toArray, List.getElem_cons_zero, List.getElem_cons_succ, Act.put, List.setIfInBounds_toArray, List.set_cons_zero, List.set_cons_succ]
  refine wpAnyH_ready (rs := [6]) (by kernel_rfl) (by simp) ?_
  refine AllReadyH.cons rfl (fun K hK => ?_) AllReadyH.nil
  try simp only [List.getElem_toArray, List.getElem_cons_zero, List.getElem_cons_succ]
  go_simp
  refine hK.out _ _ hS2 (fun hHeld => ?_)
  clear hK K
  try simp only [List.getElem_toArray, List.getElem_cons_zero, List.getElem_cons_succ, Act.put, List.setIfInBounds_toArray, List.set_cons_zero, List.set_cons_succ]
  refine wpAnyH_take (i := 7) (v := ?_) rfl (by kernel_rfl) (by kernel_rfl) (by kernel_rfl) (fun _ _ _ h => h) (Or.inl ⟨by rfl, ?_⟩) hS2 ?_
  rotate_left
  · intro w hSw; obtain ⟨s0, s1⟩ := hSw; first | (go_simp; done) | (go_simp; with_reducible rfl)
  try simp only [List.getElem_toArray, List.getElem_cons_zero, List.getElem_cons_succ, Act.put, List.setIfInBounds_toArray, List.set_cons_zero, List.set_cons_succ]
  refine wpAnyH_done (by kernel_rfl) ?_ _
  (go_wp2_with fail; exact bodyPost_ret (v := .tuple #[.pointer (some ⟨g, 0, none⟩), .agg #[.int .i64 room, .slice A rl.length c], .bool true]) (by simp [results, Try.results22, go_sem, c70, c71]) rfl (Good.finish HG2.out HP2.out.b7 HB (by omega) HP2.out.kp (fun k h => .inl h) rfl _ _))

set_option linter.unusedSimpArgs false in
set_option maxRecDepth 100000 in
set_option maxHeartbeats 2000000 in
theorem step_clone {b : Nat} (w : World) (g : Nat) (v : Value) (room dst at_ : Int) (l rl : List Ms) (A C : Option Addr) (c cd : Nat) (raw : List Int) (hG : Good b w g v room l (.slice A rl.length c) rl) (hx : Ms.Safe b w ⟨dst, .slice C raw.length cd, raw⟩)
    (_hraw : raw.length ≤ 140737488351232) (_hl : l.length < 7000000000000) :
    Calls Try.prog 22 #[.pointer (some ⟨g, 0, none⟩), .agg #[.int .i64 room, .slice A rl.length c], .agg #[.int .i64 7, .int .i64 dst, .int .i64 at_, .slice C raw.length cd]] w (Stepped b w g v room l) := by
  have hlr := hG.same.len
  have HB := hG.size
  have HP := Lib.hid (pre_start hG.own.nb_lt room (.slice A rl.length c) #[.int .i64 7, .int .i64 dst, .int .i64 at_, .slice C raw.length cd])
  have HB1 : Hid (Below w.heap.size w (((w.alloc (.cells #[.int .i64 room, .slice A rl.length c] 28)).alloc (.cells #[.int .i64 7, .int .i64 dst, .int .i64 at_, .slice C raw.length cd] 44)).alloc (.cells #[.int .i64 0, .slice none 0 0] 28))) :=
    (((Below.refl _ _).alloc (Nat.le_refl _) _).alloc (by simp) _).alloc (by simp; omega) _
  have HG1 := Lib.hid (hG.below HB1.out)
  have HX1 := Lib.hid (hx.below HB1.out)
  have HLR := Lib.hid hlr
  have HOL : Hid (∀ x ∈ l, ∀ k, x.v.ownBlock = some k → k < w.heap.size) := fun x hx k e => ((hG.own.net.msg x hx).lt k e).2
  have HNB := Lib.hid hG.own.nb_lt
  clear hG hx hlr
  go_enter Try.func22, Try.ntmps22
  go_wp2_with fail
  obtain ⟨W1, hW1⟩ : ∃ W1, W1 = ((w.alloc (.cells #[.int .i64 room, .slice A rl.length c] 28)).alloc (.cells #[.int .i64 7, .int .i64 dst, .int .i64 at_, .slice C raw.length cd] 44)).alloc (.cells #[.int .i64 0, .slice none 0 0] 28) := ⟨_, rfl⟩
  rw [← hW1] at HP HB1 HG1 HX1 ⊢
  clear hW1
  refine (clone_net W1 g v room l HG1.out.own.net (by omega)).mono ?_
  rintro e W2 ⟨g2, v2, rfl, hN2, hbel, hg2, hv2⟩
  have hz := HB1.out.size
  have HP2 := Lib.hid (HP.out.below hbel)
  have HG2 : Hid (Good b W2 g2 v2 room l (.slice A rl.length c) rl) := ⟨⟨hN2, by omega, fun k e => by have := hv2 k e; omega⟩, HG1.out.rf.below hbel, HG1.out.same, HG1.out.short, HG1.out.le, by have := hbel.size; omega⟩
  have HF : Hid (∀ k, Nb g2 v2 k → Nb g v k ∨ w.heap.size ≤ k) := by
    rintro k (rfl | e)
    · exact .inr (by omega)
    · exact .inr (by have := hv2 k e; omega)
  clear hN2 hbel hv2 HG1 HX1 HP HB1
  go_wp2_with fail
  have c70 : W2.cell? ⟨w.heap.size + 1 + 1, 0, none⟩ = some (.int .i64 0) := (HP2.out.b7.cell 0).trans rfl
  have c71 : W2.cell? ⟨w.heap.size + 1 + 1, 1, none⟩ = some (.slice none 0 0) := (HP2.out.b7.cell 1).trans rfl
  have f70 := HP2.out.b7.frozen 0
  have f71 := HP2.out.b7.frozen 1
  have hS0 : W2.drew.cell? ⟨w.heap.size, 0, none⟩ = some (.int .i64 room) ∧ W2.drew.cell? ⟨w.heap.size, 1, none⟩ = some (.slice A rl.length c) := ⟨(HP2.out.b4.cell 0).trans rfl, (HP2.out.b4.cell 1).trans rfl⟩
  have hS2 : ((W2.setCell ⟨w.heap.size + 1 + 1, 0, none⟩ (.int .i64 room)).setCell ⟨w.heap.size + 1 + 1, 1, none⟩ (.slice A rl.length c)).drew.cell? ⟨w.heap.size, 0, none⟩ = some (.int .i64 room) ∧ ((W2.setCell ⟨w.heap.size + 1 + 1, 0, none⟩ (.int .i64 room)).setCell ⟨w.heap.size + 1 + 1, 1, none⟩ (.slice A rl.length c)).drew.cell? ⟨w.heap.size, 1, none⟩ = some (.slice A rl.length c) := ⟨box_set (W := W2) hS0.1 (by omega) _ _, box_set (W := W2) hS0.2 (by omega) _ _⟩
  refine wp_region_held_drew (S := fun w' => w'.cell? ⟨w.heap.size, 0, none⟩ = some (.int .i64 room) ∧ w'.cell? ⟨w.heap.size, 1, none⟩ = some (.slice A rl.length c)) (by kernel_rfl) hS0 (fun hHeld => ?_)
  refine wpAnyH_take (i := 0) (v := ?_) rfl (by kernel_rfl) (by kernel_rfl) (by kernel_rfl) (fun _ _ _ h => h) (Or.inl ⟨by rfl, ?_⟩) hS0 ?_
  rotate_left
  · intro w hSw; obtain ⟨s0, s1⟩ := hSw; first | (go_simp; done) | (go_simp; with_reducible rfl)
  try simp only [List.getElem_toArray, List.getElem_cons_zero, List.getElem_cons_succ, Act.put, List.setIfInBounds_toArray, List.set_cons_zero, List.set_cons_succ]
  refine wpAnyH_take (i := 1) (v := ?_) rfl (by kernel_rfl) (by kernel_rfl) (by kernel_rfl) (fun _ _ _ h => h) (Or.inl ⟨by rfl, ?_⟩) hS0 ?_
  rotate_left
  · intro w hSw; obtain ⟨s0, s1⟩ := hSw; first | (go_simp; done) | (go_simp; with_reducible rfl)
  try simp only [List.getElem_toArray, List.getElem_cons_zero, List.getElem_cons_succ, Act.put, List.setIfInBounds_toArray, List.set_cons_zero, List.set_cons_succ]
  refine wpAnyH_take (i := 2) (v := ?_) rfl (by kernel_rfl) (by kernel_rfl) (by kernel_rfl) (fun _ _ _ h => h) (Or.inl ⟨by rfl, ?_⟩) hS0 ?_
  rotate_left
  · intro w hSw; obtain ⟨s0, s1⟩ := hSw; first | (go_simp; done) | (go_simp; with_reducible rfl)
  try simp only [List.getElem_toArray, List.getElem_cons_zero, List.getElem_cons_succ, Act.put, List.setIfInBounds_toArray, List.set_cons_zero, List.set_cons_succ]
  refine wpAnyH_take (i := 3) (v := ?_) rfl (by kernel_rfl) (by kernel_rfl) (by kernel_rfl) (fun _ _ _ h => h) (Or.inl ⟨by rfl, ?_⟩) hS0 ?_
  rotate_left
  · intro w hSw; obtain ⟨s0, s1⟩ := hSw; first | (go_simp; done) | (go_simp; with_reducible rfl)
  try simp only [List.getElem_toArray, List.getElem_cons_zero, List.getElem_cons_succ, Act.put, List.setIfInBounds_toArray, List.set_cons_zero, List.set_cons_succ]
  refine wpAnyH_take (i := 4) (v := ?_) rfl (by kernel_rfl) (by kernel_rfl) (by kernel_rfl) (fun _ _ _ h => h) (Or.inl ⟨by rfl, ?_⟩) hS0 ?_
  rotate_left
  · intro w hSw; obtain ⟨s0, s1⟩ := hSw; first | (go_simp; done) | (go_simp; with_reducible rfl)
  try simp only [List.getElem_toArray, List.getElem_cons_zero, List.getElem_cons_succ, Act.put, List.setIfInBounds_toArray, List.set_cons_zero, List.set_cons_succ]
  refine wpAnyH_ready (rs := [5]) (by kernel_rfl) (by simp) ?_
  refine AllReadyH.cons rfl (fun K hK => ?_) AllReadyH.nil
  try simp only [List.getElem_toArray, List.getElem_cons_zero, List.getElem_cons_succ]
  go_simp
  refine hK.out _ _ hS2 (fun hHeld => ?_)
  clear hK K
  try simp only [List.getElem_toArray, List.getElem_cons_zero, List.getElem_cons_succ, Act.put, List.setIfInBounds_toArray, List.set_cons_zero, List.set_cons_succ]
  refine wpAnyH_take (i := 6) (v := ?_) rfl (by kernel_rfl) (by kernel_rfl) (by kernel_rfl) (fun _ _ _ h => h) (Or.inl ⟨by rfl, ?_⟩) hS2 ?_
  rotate_left
  · intro w hSw; obtain ⟨s0, s1⟩ := hSw; first | (go_simp; done) | (go_simp; with_reducible rfl)
  try simp only [List.getElem_toArray, List.getElem_cons_zero, List.getElem_cons_succ, Act.put, List.setIfInBounds_toArray, List.set_cons_zero, List.set_cons_succ]
  refine wpAnyH_done (by kernel_rfl) ?_ _
  (go_wp2_with fail; exact bodyPost_ret (v := .tuple #[.pointer (some ⟨g2, 0, none⟩), .agg #[.int .i64 room, .slice A rl.length c], .bool true]) (by simp [results, Try.results22, go_sem, c70, c71]) rfl (stepped_drew (Good.finish HG2.out HP2.out.b7 HB (by omega) HP2.out.kp HF.out rfl _ _)))


set_option linter.unusedSimpArgs false in
set_option maxRecDepth 100000 in
set_option maxHeartbeats 2000000 in
theorem step_told {b : Nat} (w : World) (g : Nat) (v : Value) (room dst at_ : Int) (l rl : List Ms) (A C : Option Addr) (c cd : Nat) (raw : List Int) (hG : Good b w g v room l (.slice A rl.length c) rl) (hx : Ms.Safe b w ⟨dst, .slice C raw.length cd, raw⟩)
    (_hraw : raw.length ≤ 140737488351232) (_hl : l.length < 7000000000000) :
    Calls Try.prog 22 #[.pointer (some ⟨g, 0, none⟩), .agg #[.int .i64 room, .slice A rl.length c], .agg #[.int .i64 5, .int .i64 dst, .int .i64 at_, .slice C raw.length cd]] w (Stepped b w g v room l) := by
  have hlr := hG.same.len
  have HB := hG.size
  have HP := Lib.hid (pre_start hG.own.nb_lt room (.slice A rl.length c) #[.int .i64 5, .int .i64 dst, .int .i64 at_, .slice C raw.length cd])
  have HB1 : Hid (Below w.heap.size w (((w.alloc (.cells #[.int .i64 room, .slice A rl.length c] 28)).alloc (.cells #[.int .i64 5, .int .i64 dst, .int .i64 at_, .slice C raw.length cd] 44)).alloc (.cells #[.int .i64 0, .slice none 0 0] 28))) :=
    (((Below.refl _ _).alloc (Nat.le_refl _) _).alloc (by simp) _).alloc (by simp; omega) _
  have HG1 := Lib.hid (hG.below HB1.out)
  have HX1 := Lib.hid (hx.below HB1.out)
  have HLR := Lib.hid hlr
  have HOL : Hid (∀ x ∈ l, ∀ k, x.v.ownBlock = some k → k < w.heap.size) := fun x hx k e => ((hG.own.net.msg x hx).lt k e).2
  have HNB := Lib.hid hG.own.nb_lt
  clear hG hx hlr
  go_enter Try.func22, Try.ntmps22
  go_wp2_with fail
  obtain ⟨W1, hW1⟩ : ∃ W1, W1 = ((w.alloc (.cells #[.int .i64 room, .slice A rl.length c] 28)).alloc (.cells #[.int .i64 5, .int .i64 dst, .int .i64 at_, .slice C raw.length cd] 44)).alloc (.cells #[.int .i64 0, .slice none 0 0] 28) := ⟨_, rfl⟩
  rw [← hW1] at HP HB1 HG1 HX1 ⊢
  clear hW1
  have hS0 : W1.drew.cell? ⟨w.heap.size, 0, none⟩ = some (.int .i64 room) ∧ W1.drew.cell? ⟨w.heap.size, 1, none⟩ = some (.slice A rl.length c) ∧ W1.drew.cell? ⟨w.heap.size + 1, 1, none⟩ = some (.int .i64 dst) := ⟨(HP.out.b4.cell 0).trans rfl, (HP.out.b4.cell 1).trans rfl, (HP.out.b5.cell 1).trans rfl⟩
  refine wp_region_held_drew (S := fun w' => w'.cell? ⟨w.heap.size, 0, none⟩ = some (.int .i64 room) ∧ w'.cell? ⟨w.heap.size, 1, none⟩ = some (.slice A rl.length c) ∧ w'.cell? ⟨w.heap.size + 1, 1, none⟩ = some (.int .i64 dst)) (by kernel_rfl) hS0 (fun hHeld => ?_)
  refine wpAnyH_take (i := 0) (v := ?_) rfl (by kernel_rfl) (by kernel_rfl) (by kernel_rfl) (fun _ _ _ h => h) (Or.inl ⟨by rfl, ?_⟩) hS0 ?_
  rotate_left
  · intro w hSw; obtain ⟨s0, s1, s2⟩ := hSw; first | (go_simp; done) | (go_simp; with_reducible rfl)
  try simp only [List.getElem_toArray, List.getElem_cons_zero, List.getElem_cons_succ, Act.put, List.setIfInBounds_toArray, List.set_cons_zero, List.set_cons_succ]
  refine wpAnyH_take (i := 1) (v := ?_) rfl (by kernel_rfl) (by kernel_rfl) (by kernel_rfl) (fun _ _ _ h => h) (Or.inl ⟨by rfl, ?_⟩) hS0 ?_
  rotate_left
  · intro w hSw; obtain ⟨s0, s1, s2⟩ := hSw; first | (go_simp; done) | (go_simp; with_reducible rfl)
  try simp only [List.getElem_toArray, List.getElem_cons_zero, List.getElem_cons_succ, Act.put, List.setIfInBounds_toArray, List.set_cons_zero, List.set_cons_succ]
  refine wpAnyH_take (i := 2) (v := ?_) rfl (by kernel_rfl) (by kernel_rfl) (by kernel_rfl) (fun _ _ _ h => h) (Or.inl ⟨by rfl, ?_⟩) hS0 ?_
  rotate_left
  · intro w hSw; obtain ⟨s0, s1, s2⟩ := hSw; first | (go_simp; done) | (go_simp; with_reducible rfl)
  try simp only [List.getElem_toArray, List.getElem_cons_zero, List.getElem_cons_succ, Act.put, List.setIfInBounds_toArray, List.set_cons_zero, List.set_cons_succ]
  refine wpAnyH_take (i := 3) (v := ?_) rfl (by kernel_rfl) (by kernel_rfl) (by kernel_rfl) (fun _ _ _ h => h) (Or.inl ⟨by rfl, ?_⟩) hS0 ?_
  rotate_left
  · intro w hSw; obtain ⟨s0, s1, s2⟩ := hSw; first | (go_simp; done) | (go_simp; with_reducible rfl)
  try simp only [List.getElem_toArray, List.getElem_cons_zero, List.getElem_cons_succ, Act.put, List.setIfInBounds_toArray, List.set_cons_zero, List.set_cons_succ]
  refine wpAnyH_take (i := 4) (v := ?_) rfl (by kernel_rfl) (by kernel_rfl) (by kernel_rfl) (fun _ _ _ h => h) (Or.inl ⟨by rfl, ?_⟩) hS0 ?_
  rotate_left
  · intro w hSw; obtain ⟨s0, s1, s2⟩ := hSw; first | (go_simp; done) | (go_simp; with_reducible rfl)
  try simp only [List.getElem_toArray, List.getElem_cons_zero, List.getElem_cons_succ, Act.put, List.setIfInBounds_toArray, List.set_cons_zero, List.set_cons_succ]
  refine wpAnyH_take (i := 5) (v := ?_) rfl (by kernel_rfl) (by kernel_rfl) (by kernel_rfl) (fun _ _ _ h => h) (Or.inl ⟨by rfl, ?_⟩) hS0 ?_
  rotate_left
  · intro w hSw; obtain ⟨s0, s1, s2⟩ := hSw; first | (go_simp; done) | (go_simp; with_reducible rfl)
  try simp only [List.getElem_toArray, List.getElem_cons_zero, List.getElem_cons_succ, Act.put, List.setIfInBounds_toArray, List.set_cons_zero, List.set_cons_succ]
  refine wpAnyH_ready (rs := [6]) (by kernel_rfl) (by simp) ?_
  refine AllReadyH.cons rfl (fun K hK => ?_) AllReadyH.nil
  try simp only [List.getElem_toArray, List.getElem_cons_zero, List.getElem_cons_succ]
  go_simp
  refine (told (b := b) W1.drew g v room room dst l rl A c (HG1.out.own.net.below (Below.refl _ _).drew) (HG1.out.rf.below (Below.refl _ _).drew) HG1.out.same HG1.out.short _hl).mono ?_
  rintro e W2 ⟨rfl, hbel⟩
  have hb2 : Below W1.heap.size W1 W2 := (Below.refl _ _).drew.trans hbel
  have HP2 := Lib.hid (HP.out.below hb2)
  have HG2 := Lib.hid (HG1.out.below hb2)
  have hS1 : W2.cell? ⟨w.heap.size, 0, none⟩ = some (.int .i64 room) ∧ W2.cell? ⟨w.heap.size, 1, none⟩ = some (.slice A rl.length c) ∧ W2.cell? ⟨w.heap.size + 1, 1, none⟩ = some (.int .i64 dst) := ⟨(HP2.out.b4.cell 0).trans rfl, (HP2.out.b4.cell 1).trans rfl, (HP2.out.b5.cell 1).trans rfl⟩
  have c70 : W2.cell? ⟨w.heap.size + 1 + 1, 0, none⟩ = some (.int .i64 0) := (HP2.out.b7.cell 0).trans rfl
  have c71 : W2.cell? ⟨w.heap.size + 1 + 1, 1, none⟩ = some (.slice none 0 0) := (HP2.out.b7.cell 1).trans rfl
  have f70 := HP2.out.b7.frozen 0
  have f71 := HP2.out.b7.frozen 1
  have hS2 : ((W2.setCell ⟨w.heap.size + 1 + 1, 0, none⟩ (.int .i64 room)).setCell ⟨w.heap.size + 1 + 1, 1, none⟩ (.slice A rl.length c)).cell? ⟨w.heap.size, 0, none⟩ = some (.int .i64 room) ∧ ((W2.setCell ⟨w.heap.size + 1 + 1, 0, none⟩ (.int .i64 room)).setCell ⟨w.heap.size + 1 + 1, 1, none⟩ (.slice A rl.length c)).cell? ⟨w.heap.size, 1, none⟩ = some (.slice A rl.length c) ∧ ((W2.setCell ⟨w.heap.size + 1 + 1, 0, none⟩ (.int .i64 room)).setCell ⟨w.heap.size + 1 + 1, 1, none⟩ (.slice A rl.length c)).cell? ⟨w.heap.size + 1, 1, none⟩ = some (.int .i64 dst) := ⟨box_set hS1.1 (by omega) _ _, box_set hS1.2.1 (by omega) _ _, box_set hS1.2.2 (by omega) _ _⟩
  clear hbel hb2 HG1 HX1 HP HB1 hS0
  try (go_wp2_with fail)
  refine hK.out _ _ hS1 (fun hHeld => ?_)
  clear hK K
  try simp only [List.getElem_toArray, List.getElem_cons_zero, List.getElem_cons_succ, Act.put, List.setIfInBounds_toArray, List.set_cons_zero, List.set_cons_succ]
  refine wpAnyH_take (i := 7) (v := ?_) rfl (by kernel_rfl) (by kernel_rfl) (by kernel_rfl) (fun _ _ _ h => h) (Or.inl ⟨by rfl, ?_⟩) hS1 ?_
  rotate_left
  · intro w hSw; obtain ⟨s0, s1, s2⟩ := hSw; first | (go_simp; done) | (go_simp; with_reducible rfl)
  try simp only [List.getElem_toArray, List.getElem_cons_zero, List.getElem_cons_succ, Act.put, List.setIfInBounds_toArray, List.set_cons_zero, List.set_cons_succ]
  refine wpAnyH_ready (rs := [8]) (by kernel_rfl) (by simp) ?_
  refine AllReadyH.cons rfl (fun K hK => ?_) AllReadyH.nil
  try simp only [List.getElem_toArray, List.getElem_cons_zero, List.getElem_cons_succ]
  go_simp
  refine hK.out _ _ hS2 (fun hHeld => ?_)
  clear hK K
  try simp only [List.getElem_toArray, List.getElem_cons_zero, List.getElem_cons_succ, Act.put, List.setIfInBounds_toArray, List.set_cons_zero, List.set_cons_succ]
  refine wpAnyH_take (i := 9) (v := ?_) rfl (by kernel_rfl) (by kernel_rfl) (by kernel_rfl) (fun _ _ _ h => h) (Or.inl ⟨by rfl, ?_⟩) hS2 ?_
  rotate_left
  · intro w hSw; obtain ⟨s0, s1, s2⟩ := hSw; first | (go_simp; done) | (go_simp; with_reducible rfl)
  try simp only [List.getElem_toArray, List.getElem_cons_zero, List.getElem_cons_succ, Act.put, List.setIfInBounds_toArray, List.set_cons_zero, List.set_cons_succ]
  refine wpAnyH_done (by kernel_rfl) ?_ _
  (go_wp2_with fail; exact bodyPost_ret (v := .tuple #[.pointer (some ⟨g, 0, none⟩), .agg #[.int .i64 room, .slice A rl.length c], .bool true]) (by simp [results, Try.results22, go_sem, c70, c71]) rfl (Good.finish HG2.out HP2.out.b7 HB (by omega) HP2.out.kp (fun k h => .inl h) rfl _ _))

set_option linter.unusedSimpArgs false in
set_option maxRecDepth 100000 in
set_option maxHeartbeats 2000000 in
theorem step_at_yes {b : Nat} (w : World) (g : Nat) (v : Value) (room dst at_ : Int) (l rl : List Ms) (A C : Option Addr) (c cd : Nat) (raw : List Int) (hG : Good b w g v room l (.slice A rl.length c) rl) (hx : Ms.Safe b w ⟨dst, .slice C raw.length cd, raw⟩)
    (_hraw : raw.length ≤ 140737488351232) (_hl : l.length < 7000000000000) (n : Nat) (x : Ms) (hn : at_ = (n : Int)) (hxn : l[n]? = some x) :
    Calls Try.prog 22 #[.pointer (some ⟨g, 0, none⟩), .agg #[.int .i64 room, .slice A rl.length c], .agg #[.int .i64 1, .int .i64 dst, .int .i64 at_, .slice C raw.length cd]] w (Stepped b w g v room l) := by
  subst hn
  obtain ⟨y, hy, hy1, hy2⟩ := hG.same.get hxn
  have HXN := Lib.hid hxn
  have HY := Lib.hid hy
  have HY1 := Lib.hid hy1
  have HY2 := Lib.hid hy2
  have hxs := hG.short x (List.mem_of_getElem? hxn)
  clear hxn hy hy1 hy2
  have hlr := hG.same.len
  have HB := hG.size
  have HP := Lib.hid (pre_start hG.own.nb_lt room (.slice A rl.length c) #[.int .i64 1, .int .i64 dst, .int .i64 n, .slice C raw.length cd])
  have HB1 : Hid (Below w.heap.size w (((w.alloc (.cells #[.int .i64 room, .slice A rl.length c] 28)).alloc (.cells #[.int .i64 1, .int .i64 dst, .int .i64 n, .slice C raw.length cd] 44)).alloc (.cells #[.int .i64 0, .slice none 0 0] 28))) :=
    (((Below.refl _ _).alloc (Nat.le_refl _) _).alloc (by simp) _).alloc (by simp; omega) _
  have HG1 := Lib.hid (hG.below HB1.out)
  have HX1 := Lib.hid (hx.below HB1.out)
  have HLR := Lib.hid hlr
  have HOL : Hid (∀ x ∈ l, ∀ k, x.v.ownBlock = some k → k < w.heap.size) := fun x hx k e => ((hG.own.net.msg x hx).lt k e).2
  have HNB := Lib.hid hG.own.nb_lt
  clear hG hx hlr
  go_enter Try.func22, Try.ntmps22
  go_wp2_with fail
  obtain ⟨W1, hW1⟩ : ∃ W1, W1 = ((w.alloc (.cells #[.int .i64 room, .slice A rl.length c] 28)).alloc (.cells #[.int .i64 1, .int .i64 dst, .int .i64 n, .slice C raw.length cd] 44)).alloc (.cells #[.int .i64 0, .slice none 0 0] 28) := ⟨_, rfl⟩
  rw [← hW1] at HP HB1 HG1 HX1 ⊢
  clear hW1
  refine (at_yes W1 g v room l HG1.out.own.net n x HXN.out (by omega)).mono ?_
  rintro e W2 ⟨u, rfl, hown, hbel⟩
  obtain ⟨U, cu, rfl, _, _, _, hsl, _⟩ := Sl.of_own hown
  have HU := Lib.hid hsl
  have HOW := Lib.hid hown
  have HB2 := Lib.hid hbel
  have HP2 := Lib.hid (HP.out.below hbel)
  have e40 : W2.cell? ⟨w.heap.size, 0, none⟩ = some (.int .i64 room) := (HP2.out.b4.cell 0).trans rfl
  have e41 : W2.cell? ⟨w.heap.size, 1, none⟩ = some (.slice A rl.length c) := (HP2.out.b4.cell 1).trans rfl
  have e52 : W2.cell? ⟨w.heap.size + 1, 2, none⟩ = some (.int .i64 n) := (HP2.out.b5.cell 2).trans rfl
  have HP1 := HP
  clear hown hbel hsl HP HX1
  go_wp2_with fail
  refine (asked_yes W2 room A c n x y HY.out HY1.out HY2.out (HG1.out.rf.below HB2.out) U cu HU.out).mono ?_
  rintro e W3 ⟨rfl, hbel⟩
  have HB3 : Hid (Below W1.heap.size W1 W3) := HB2.out.trans (hbel.mono HB2.out.size)
  have HP3 := Lib.hid (HP2.out.below hbel)
  have HBY := Lib.hid (Byt.of_own (own_kp (S := fun _ => False) HOW.out (Kp.of_below hbel _) (fun _ _ e => e)))
  have hz1 := HP3.out.lt
  clear hbel HU HOW HB2 HP2 e40 e41 e52
  go_wp2_with fail
  go_loopw [18, 86] (fun _ vv wq => ∃ j : Nat, vv = .int .i64 j ∧ j ≤ x.raw.length ∧ Hid (Kp (fun r => U.map (·.block) = some r) W3 wq ∧ ∀ ub, U = some ⟨ub, 0, none⟩ → Byt wq ub x.raw.length)) (fun _ vv _ => x.raw.length - (intOf vv).toNat)
  case atStart =>
    refine ⟨0, rfl, Nat.zero_le _, Kp.refl _ _, fun ub e => ?_⟩
    rcases HBY.out with ⟨h, _⟩ | ⟨ub', h, _, _, hb⟩
    · rw [e] at h; cases h
    · rw [e] at h
      injection h with h
      injection h with h _ _
      subst h
      exact hb
  case round =>
    obtain ⟨j, rfl, hj, HL⟩ := hrel
    by_cases hlt : j < x.raw.length
    · rcases HBY.out with ⟨_, h0⟩ | ⟨ub, rfl, hub1, hub2, _⟩
      · omega
      · have hby := HL.out.2 ub rfl
        obtain ⟨z, hz⟩ := hby.cell hlt
        have hfz := hby.frozen j
        have HBY2 := Lib.hid hby
        clear hby
        go_wp2_with fail
        go_roundw
        case rel =>
          exact ⟨j + 1, by go_num, by omega, HL.out.1.set (p := ⟨ub, j, none⟩) (.inl rfl) _, fun ub' e => by
            injection e with e
            injection e with e _ _
            subst e
            exact HBY2.out.set_ j _⟩
        case measure => simp [intOf]; omega
    · obtain rfl : j = x.raw.length := by omega
      have hns : ∀ r, U.map (·.block) = some r → W1.heap.size ≤ r := by
        intro r e
        rcases HBY.out with ⟨h, _⟩ | ⟨ub, h, hub1, _⟩
        · rw [h] at e; cases e
        · rw [h] at e
          injection e with e
          change ub = r at e
          omega
      have HB4 : Hid (Below W1.heap.size W1 wr) := HL.out.1.out HB3.out (fun k e => hns k e) HB3.out.size
      have HG4 := Lib.hid (HG1.out.below HB4.out)
      have HP4 := Lib.hid (HP1.out.below HB4.out)
      obtain ⟨W4, hW4⟩ : ∃ W4, W4 = wr := ⟨_, rfl⟩
      rw [← hW4] at HG4 HP4 ⊢
      clear hW4 hns HL HBY HB3 HG1 HP3
      go_wp2_with fail
      have c70 : W4.cell? ⟨w.heap.size + 1 + 1, 0, none⟩ = some (.int .i64 0) := (HP4.out.b7.cell 0).trans rfl
      have c71 : W4.cell? ⟨w.heap.size + 1 + 1, 1, none⟩ = some (.slice none 0 0) := (HP4.out.b7.cell 1).trans rfl
      have f70 := HP4.out.b7.frozen 0
      have f71 := HP4.out.b7.frozen 1
      have hS0 : W4.drew.cell? ⟨w.heap.size, 0, none⟩ = some (.int .i64 room) ∧ W4.drew.cell? ⟨w.heap.size, 1, none⟩ = some (.slice A rl.length c) := ⟨(HP4.out.b4.cell 0).trans rfl, (HP4.out.b4.cell 1).trans rfl⟩
      have hS2 : ((W4.setCell ⟨w.heap.size + 1 + 1, 0, none⟩ (.int .i64 room)).setCell ⟨w.heap.size + 1 + 1, 1, none⟩ (.slice A rl.length c)).drew.cell? ⟨w.heap.size, 0, none⟩ = some (.int .i64 room) ∧ ((W4.setCell ⟨w.heap.size + 1 + 1, 0, none⟩ (.int .i64 room)).setCell ⟨w.heap.size + 1 + 1, 1, none⟩ (.slice A rl.length c)).drew.cell? ⟨w.heap.size, 1, none⟩ = some (.slice A rl.length c) := ⟨box_set (W := W4) hS0.1 (by omega) _ _, box_set (W := W4) hS0.2 (by omega) _ _⟩
      refine wp_region_held_drew (S := fun w' => w'.cell? ⟨w.heap.size, 0, none⟩ = some (.int .i64 room) ∧ w'.cell? ⟨w.heap.size, 1, none⟩ = some (.slice A rl.length c)) (by kernel_rfl) hS0 (fun hHeld => ?_)
      refine wpAnyH_take (i := 0) (v := ?_) rfl (by kernel_rfl) (by kernel_rfl) (by kernel_rfl) (fun _ _ _ h => h) (Or.inl ⟨by rfl, ?_⟩) hS0 ?_
      rotate_left
      · intro w hSw; obtain ⟨s0, s1⟩ := hSw; first | (go_simp; done) | (go_simp; with_reducible rfl)
      try simp only [List.getElem_toArray, List.getElem_cons_zero, List.getElem_cons_succ, Act.put, List.setIfInBounds_toArray, List.set_cons_zero, List.set_cons_succ]
      refine wpAnyH_take (i := 1) (v := ?_) rfl (by kernel_rfl) (by kernel_rfl) (by kernel_rfl) (fun _ _ _ h => h) (Or.inl ⟨by rfl, ?_⟩) hS0 ?_
      rotate_left
      · intro w hSw; obtain ⟨s0, s1⟩ := hSw; first | (go_simp; done) | (go_simp; with_reducible rfl)
      try simp only [List.getElem_toArray, List.getElem_cons_zero, List.getElem_cons_succ, Act.put, List.setIfInBounds_toArray, List.set_cons_zero, List.set_cons_succ]
      refine wpAnyH_take (i := 2) (v := ?_) rfl (by kernel_rfl) (by kernel_rfl) (by kernel_rfl) (fun _ _ _ h => h) (Or.inl ⟨by rfl, ?_⟩) hS0 ?_
      rotate_left
      · intro w hSw; obtain ⟨s0, s1⟩ := hSw; first | (go_simp; done) | (go_simp; with_reducible rfl)
      try simp only [List.getElem_toArray, List.getElem_cons_zero, List.getElem_cons_succ, Act.put, List.setIfInBounds_toArray, List.set_cons_zero, List.set_cons_succ]
      refine wpAnyH_take (i := 3) (v := ?_) rfl (by kernel_rfl) (by kernel_rfl) (by kernel_rfl) (fun _ _ _ h => h) (Or.inl ⟨by rfl, ?_⟩) hS0 ?_
      rotate_left
      · intro w hSw; obtain ⟨s0, s1⟩ := hSw; first | (go_simp; done) | (go_simp; with_reducible rfl)
      try simp only [List.getElem_toArray, List.getElem_cons_zero, List.getElem_cons_succ, Act.put, List.setIfInBounds_toArray, List.set_cons_zero, List.set_cons_succ]
      refine wpAnyH_ready (rs := [4]) (by kernel_rfl) (by simp) ?_
      refine AllReadyH.cons rfl (fun K hK => ?_) AllReadyH.nil
      try simp only [List.getElem_toArray, List.getElem_cons_zero, List.getElem_cons_succ]
      go_simp
      refine hK.out _ _ hS2 (fun hHeld => ?_)
      clear hK K
      try simp only [List.getElem_toArray, List.getElem_cons_zero, List.getElem_cons_succ, Act.put, List.setIfInBounds_toArray, List.set_cons_zero, List.set_cons_succ]
      refine wpAnyH_take (i := 5) (v := ?_) rfl (by kernel_rfl) (by kernel_rfl) (by kernel_rfl) (fun _ _ _ h => h) (Or.inl ⟨by rfl, ?_⟩) hS2 ?_
      rotate_left
      · intro w hSw; obtain ⟨s0, s1⟩ := hSw; first | (go_simp; done) | (go_simp; with_reducible rfl)
      try simp only [List.getElem_toArray, List.getElem_cons_zero, List.getElem_cons_succ, Act.put, List.setIfInBounds_toArray, List.set_cons_zero, List.set_cons_succ]
      refine wpAnyH_done (by kernel_rfl) ?_ _
      (go_wp2_with fail; exact bodyPost_ret (v := .tuple #[.pointer (some ⟨g, 0, none⟩), .agg #[.int .i64 room, .slice A rl.length c], .bool true]) (by simp [results, Try.results22, go_sem, c70, c71]) rfl (stepped_drew (Good.finish HG4.out HP4.out.b7 HB (by omega) HP4.out.kp (fun k h => .inl h) rfl _ _)))

set_option linter.unusedSimpArgs false in
set_option maxRecDepth 100000 in
set_option maxHeartbeats 2000000 in
theorem step_at_no {b : Nat} (w : World) (g : Nat) (v : Value) (room dst at_ : Int) (l rl : List Ms) (A C : Option Addr) (c cd : Nat) (raw : List Int) (hG : Good b w g v room l (.slice A rl.length c) rl) (hx : Ms.Safe b w ⟨dst, .slice C raw.length cd, raw⟩)
    (_hraw : raw.length ≤ 140737488351232) (_hl : l.length < 7000000000000) (hr : at_ < 0 ∨ (l.length : Int) ≤ at_) :
    Calls Try.prog 22 #[.pointer (some ⟨g, 0, none⟩), .agg #[.int .i64 room, .slice A rl.length c], .agg #[.int .i64 1, .int .i64 dst, .int .i64 at_, .slice C raw.length cd]] w (Stepped b w g v room l) := by
  have HRA := Lib.hid hr
  clear hr
  have hlr := hG.same.len
  have HB := hG.size
  have HP := Lib.hid (pre_start hG.own.nb_lt room (.slice A rl.length c) #[.int .i64 1, .int .i64 dst, .int .i64 at_, .slice C raw.length cd])
  have HB1 : Hid (Below w.heap.size w (((w.alloc (.cells #[.int .i64 room, .slice A rl.length c] 28)).alloc (.cells #[.int .i64 1, .int .i64 dst, .int .i64 at_, .slice C raw.length cd] 44)).alloc (.cells #[.int .i64 0, .slice none 0 0] 28))) :=
    (((Below.refl _ _).alloc (Nat.le_refl _) _).alloc (by simp) _).alloc (by simp; omega) _
  have HG1 := Lib.hid (hG.below HB1.out)
  have HX1 := Lib.hid (hx.below HB1.out)
  have HLR := Lib.hid hlr
  have HOL : Hid (∀ x ∈ l, ∀ k, x.v.ownBlock = some k → k < w.heap.size) := fun x hx k e => ((hG.own.net.msg x hx).lt k e).2
  have HNB := Lib.hid hG.own.nb_lt
  clear hG hx hlr
  go_enter Try.func22, Try.ntmps22
  go_wp2_with fail
  obtain ⟨W1, hW1⟩ : ∃ W1, W1 = ((w.alloc (.cells #[.int .i64 room, .slice A rl.length c] 28)).alloc (.cells #[.int .i64 1, .int .i64 dst, .int .i64 at_, .slice C raw.length cd] 44)).alloc (.cells #[.int .i64 0, .slice none 0 0] 28) := ⟨_, rfl⟩
  rw [← hW1] at HP HB1 HG1 HX1 ⊢
  clear hW1
  refine (at_no W1 g v room l HG1.out.own.net at_ HRA.out).mono ?_
  rintro e W2 ⟨rfl, rfl⟩
  have e40 : W2.cell? ⟨w.heap.size, 0, none⟩ = some (.int .i64 room) := (HP.out.b4.cell 0).trans rfl
  have e41 : W2.cell? ⟨w.heap.size, 1, none⟩ = some (.slice A rl.length c) := (HP.out.b4.cell 1).trans rfl
  have e52 : W2.cell? ⟨w.heap.size + 1, 2, none⟩ = some (.int .i64 at_) := (HP.out.b5.cell 2).trans rfl
  go_wp2_with fail
  refine (asked_no (rl := rl) W2 room A c at_ (by have := HRA.out; have := HLR.out; omega)).mono ?_
  rintro e W3 ⟨rfl, hbel⟩
  have HP3 := Lib.hid (HP.out.below hbel)
  have HG3 := Lib.hid (HG1.out.below hbel)
  clear hbel HP HG1 HX1 HB1 e40 e41 e52
  go_wp2_with fail
  refine wp_loop_rounds 1 ?_
  rw [rounds_succ]
  go_wp2_with fail
  have c70 : W3.cell? ⟨w.heap.size + 1 + 1, 0, none⟩ = some (.int .i64 0) := (HP3.out.b7.cell 0).trans rfl
  have c71 : W3.cell? ⟨w.heap.size + 1 + 1, 1, none⟩ = some (.slice none 0 0) := (HP3.out.b7.cell 1).trans rfl
  have f70 := HP3.out.b7.frozen 0
  have f71 := HP3.out.b7.frozen 1
  have hS0 : W3.drew.cell? ⟨w.heap.size, 0, none⟩ = some (.int .i64 room) ∧ W3.drew.cell? ⟨w.heap.size, 1, none⟩ = some (.slice A rl.length c) := ⟨(HP3.out.b4.cell 0).trans rfl, (HP3.out.b4.cell 1).trans rfl⟩
  have hS2 : ((W3.setCell ⟨w.heap.size + 1 + 1, 0, none⟩ (.int .i64 room)).setCell ⟨w.heap.size + 1 + 1, 1, none⟩ (.slice A rl.length c)).drew.cell? ⟨w.heap.size, 0, none⟩ = some (.int .i64 room) ∧ ((W3.setCell ⟨w.heap.size + 1 + 1, 0, none⟩ (.int .i64 room)).setCell ⟨w.heap.size + 1 + 1, 1, none⟩ (.slice A rl.length c)).drew.cell? ⟨w.heap.size, 1, none⟩ = some (.slice A rl.length c) := ⟨box_set (W := W3) hS0.1 (by omega) _ _, box_set (W := W3) hS0.2 (by omega) _ _⟩
  refine wp_region_held_drew (S := fun w' => w'.cell? ⟨w.heap.size, 0, none⟩ = some (.int .i64 room) ∧ w'.cell? ⟨w.heap.size, 1, none⟩ = some (.slice A rl.length c)) (by kernel_rfl) hS0 (fun hHeld => ?_)
  refine wpAnyH_take (i := 0) (v := ?_) rfl (by kernel_rfl) (by kernel_rfl) (by kernel_rfl) (fun _ _ _ h => h) (Or.inl ⟨by rfl, ?_⟩) hS0 ?_
  rotate_left
  · intro w hSw; obtain ⟨s0, s1⟩ := hSw; first | (go_simp; done) | (go_simp; with_reducible rfl)
  try simp only [List.getElem_toArray, List.getElem_cons_zero, List.getElem_cons_succ, Act.put, List.setIfInBounds_toArray, List.set_cons_zero, List.set_cons_succ]
  refine wpAnyH_take (i := 1) (v := ?_) rfl (by kernel_rfl) (by kernel_rfl) (by kernel_rfl) (fun _ _ _ h => h) (Or.inl ⟨by rfl, ?_⟩) hS0 ?_
  rotate_left
  · intro w hSw; obtain ⟨s0, s1⟩ := hSw; first | (go_simp; done) | (go_simp; with_reducible rfl)
  try simp only [List.getElem_toArray, List.getElem_cons_zero, List.getElem_cons_succ, Act.put, List.setIfInBounds_toArray, List.set_cons_zero, List.set_cons_succ]
  refine wpAnyH_take (i := 2) (v := ?_) rfl (by kernel_rfl) (by kernel_rfl) (by kernel_rfl) (fun _ _ _ h => h) (Or.inl ⟨by rfl, ?_⟩) hS0 ?_
  rotate_left
  · intro w hSw; obtain ⟨s0, s1⟩ := hSw; first | (go_simp; done) | (go_simp; with_reducible rfl)
  try simp only [List.getElem_toArray, List.getElem_cons_zero, List.getElem_cons_succ, Act.put, List.setIfInBounds_toArray, List.set_cons_zero, List.set_cons_succ]
  refine wpAnyH_take (i := 3) (v := ?_) rfl (by kernel_rfl) (by kernel_rfl) (by kernel_rfl) (fun _ _ _ h => h) (Or.inl ⟨by rfl, ?_⟩) hS0 ?_
  rotate_left
  · intro w hSw; obtain ⟨s0, s1⟩ := hSw; first | (go_simp; done) | (go_simp; with_reducible rfl)
  try simp only [List.getElem_toArray, List.getElem_cons_zero, List.getElem_cons_succ, Act.put, List.setIfInBounds_toArray, List.set_cons_zero, List.set_cons_succ]
  refine wpAnyH_ready (rs := [4]) (by kernel_rfl) (by simp) ?_
  refine AllReadyH.cons rfl (fun K hK => ?_) AllReadyH.nil
  try simp only [List.getElem_toArray, List.getElem_cons_zero, List.getElem_cons_succ]
  go_simp
  refine hK.out _ _ hS2 (fun hHeld => ?_)
  clear hK K
  try simp only [List.getElem_toArray, List.getElem_cons_zero, List.getElem_cons_succ, Act.put, List.setIfInBounds_toArray, List.set_cons_zero, List.set_cons_succ]
  refine wpAnyH_take (i := 5) (v := ?_) rfl (by kernel_rfl) (by kernel_rfl) (by kernel_rfl) (fun _ _ _ h => h) (Or.inl ⟨by rfl, ?_⟩) hS2 ?_
  rotate_left
  · intro w hSw; obtain ⟨s0, s1⟩ := hSw; first | (go_simp; done) | (go_simp; with_reducible rfl)
  try simp only [List.getElem_toArray, List.getElem_cons_zero, List.getElem_cons_succ, Act.put, List.setIfInBounds_toArray, List.set_cons_zero, List.set_cons_succ]
  refine wpAnyH_done (by kernel_rfl) ?_ _
  (go_wp2_with fail; exact bodyPost_ret (v := .tuple #[.pointer (some ⟨g, 0, none⟩), .agg #[.int .i64 room, .slice A rl.length c], .bool true]) (by simp [results, Try.results22, go_sem, c70, c71]) rfl (stepped_drew (Good.finish HG3.out HP3.out.b7 HB (by omega) HP3.out.kp (fun k h => .inl h) rfl _ _)))


set_option linter.unusedSimpArgs false in
set_option maxRecDepth 100000 in
set_option maxHeartbeats 2000000 in
theorem step_take_yes {b : Nat} (w : World) (g : Nat) (v : Value) (room dst at_ : Int) (l rl : List Ms) (A C : Option Addr) (c cd : Nat) (raw : List Int) (hG : Good b w g v room l (.slice A rl.length c) rl) (hx : Ms.Safe b w ⟨dst, .slice C raw.length cd, raw⟩)
    (_hraw : raw.length ≤ 140737488351232) (_hl : l.length < 7000000000000) (n : Nat) (x : Ms) (hn : at_ = (n : Int)) (hxn : l[n]? = some x) :
    Calls Try.prog 22 #[.pointer (some ⟨g, 0, none⟩), .agg #[.int .i64 room, .slice A rl.length c], .agg #[.int .i64 2, .int .i64 dst, .int .i64 at_, .slice C raw.length cd]] w (Stepped b w g v room l) := by
  subst hn
  obtain ⟨y, hy, hy1, hy2⟩ := hG.same.get hxn
  have hnl : n < l.length := (List.getElem?_eq_some_iff.1 hxn).1
  have HXN := Lib.hid hxn
  have HY := Lib.hid hy
  have HY1 := Lib.hid hy1
  have HY2 := Lib.hid hy2
  have hxs := hG.short x (List.mem_of_getElem? hxn)
  clear hxn hy hy1 hy2
  have hlr := hG.same.len
  have HB := hG.size
  have HP := Lib.hid (pre_start hG.own.nb_lt room (.slice A rl.length c) #[.int .i64 2, .int .i64 dst, .int .i64 n, .slice C raw.length cd])
  have HB1 : Hid (Below w.heap.size w (((w.alloc (.cells #[.int .i64 room, .slice A rl.length c] 28)).alloc (.cells #[.int .i64 2, .int .i64 dst, .int .i64 n, .slice C raw.length cd] 44)).alloc (.cells #[.int .i64 0, .slice none 0 0] 28))) :=
    (((Below.refl _ _).alloc (Nat.le_refl _) _).alloc (by simp) _).alloc (by simp; omega) _
  have HG1 := Lib.hid (hG.below HB1.out)
  have HX1 := Lib.hid (hx.below HB1.out)
  have HLR := Lib.hid hlr
  have HOL : Hid (∀ x ∈ l, ∀ k, x.v.ownBlock = some k → k < w.heap.size) := fun x hx k e => ((hG.own.net.msg x hx).lt k e).2
  have HNB := Lib.hid hG.own.nb_lt
  clear hG hx hlr
  go_enter Try.func22, Try.ntmps22
  go_wp2_with fail
  obtain ⟨W1, hW1⟩ : ∃ W1, W1 = ((w.alloc (.cells #[.int .i64 room, .slice A rl.length c] 28)).alloc (.cells #[.int .i64 2, .int .i64 dst, .int .i64 n, .slice C raw.length cd] 44)).alloc (.cells #[.int .i64 0, .slice none 0 0] 28) := ⟨_, rfl⟩
  rw [← hW1] at HP HB1 HG1 HX1 ⊢
  clear hW1
  refine (take_yes W1 g v room l HG1.out.own.net n x HXN.out (by omega) (by omega)).mono ?_
  rintro e W2 ⟨u, rfl, hown, hd⟩
  obtain ⟨U, cu, rfl, _, _, _, hsl, _⟩ := Sl.of_own hown
  have HU := Lib.hid hsl
  obtain ⟨v2, hO2, hS2, hsh2, hle2, hln2, hk2, hf2⟩ := dropped_any HG1.out.own HG1.out.size hd HG1.out.same HG1.out.short HG1.out.le
  have HP2 := Lib.hid (HP.out.next hk2 (fun k h => .inl h))
  have HR2 := Lib.hid (HG1.out.rf.net HG1.out.own hk2)
  have HO2 := Lib.hid hO2
  have HS2 := Lib.hid hS2
  have HSH2 := Lib.hid hsh2
  have HF2 : Hid (∀ k, Nb g v2 k → Nb g v k ∨ w.heap.size ≤ k) := fun k h => (hf2 k h).imp id (fun h => Nat.le_trans HB1.out.size h)
  have HZ2 : b ≤ W2.heap.size := Nat.le_trans HG1.out.size hk2.size
  have e40 : W2.cell? ⟨w.heap.size, 0, none⟩ = some (.int .i64 room) := (HP2.out.b4.cell 0).trans rfl
  have e41 : W2.cell? ⟨w.heap.size, 1, none⟩ = some (.slice A rl.length c) := (HP2.out.b4.cell 1).trans rfl
  have e52 : W2.cell? ⟨w.heap.size + 1, 2, none⟩ = some (.int .i64 n) := (HP2.out.b5.cell 2).trans rfl
  clear hown hsl hd hO2 hS2 hsh2 hk2 hf2 HX1
  go_wp2_with fail
  refine (asked_yes W2 room A c n x y HY.out HY1.out HY2.out HR2.out U cu HU.out).mono ?_
  rintro e W3 ⟨rfl, hb3⟩
  have HB3 := Lib.hid hb3
  have HP3 := Lib.hid (HP2.out.below hb3)
  clear hb3 e40 e41 e52
  have e40 : W3.cell? ⟨w.heap.size, 0, none⟩ = some (.int .i64 room) := (HP3.out.b4.cell 0).trans rfl
  have e41 : W3.cell? ⟨w.heap.size, 1, none⟩ = some (.slice A rl.length c) := (HP3.out.b4.cell 1).trans rfl
  have e52 : W3.cell? ⟨w.heap.size + 1, 2, none⟩ = some (.int .i64 n) := (HP3.out.b5.cell 2).trans rfl
  go_wp2_with fail
  refine (ref_there_yes W3 room A rl.length c n (by have := HLR.out; omega)).mono ?_
  rintro e W4 ⟨rfl, hb4⟩
  have HB4 : Hid (Below W2.heap.size W2 W4) := HB3.out.trans (hb4.mono HB3.out.size)
  have HP4 := Lib.hid (HP3.out.below hb4)
  clear hb4 e40 e41 e52
  have e40 : W4.cell? ⟨w.heap.size, 0, none⟩ = some (.int .i64 room) := (HP4.out.b4.cell 0).trans rfl
  have e41 : W4.cell? ⟨w.heap.size, 1, none⟩ = some (.slice A rl.length c) := (HP4.out.b4.cell 1).trans rfl
  have e52 : W4.cell? ⟨w.heap.size + 1, 2, none⟩ = some (.int .i64 n) := (HP4.out.b5.cell 2).trans rfl
  go_wp2_with fail
  refine (ref_out (b := b) W4 room A c n (by have := HLR.out; omega) (HR2.out.below HB4.out) (by have := HLR.out; omega) (by have := HB4.out.size; omega)).mono ?_
  rintro e W5 ⟨v5, rfl, hR5, hb5⟩
  obtain ⟨rl2, hrl2⟩ : ∃ r, r = rl.take n ++ rl.drop (n + 1) := ⟨_, rfl⟩
  obtain ⟨l2, hl2⟩ : ∃ r, r = l.take n ++ l.drop (n + 1) := ⟨_, rfl⟩
  rw [← hrl2] at hR5 HS2
  rw [← hl2] at HO2 HS2 HSH2 hle2 hln2
  obtain ⟨D, cD, rfl, _, _, _⟩ := hR5.slice
  have HB5 : Hid (Below W2.heap.size W2 W5) := HB4.out.trans (hb5.mono HB4.out.size)
  have HP5 := Lib.hid (HP2.out.below HB5.out)
  have HG5 : Hid (Good b W5 g v2 room l2 (.slice D rl2.length cD) rl2) := ⟨⟨HO2.out.net.below HB5.out, HO2.out.hg, HO2.out.hv⟩, hR5, HS2.out, HSH2.out, hle2, by have := HB5.out.size; omega⟩
  have g40 : W5.cell? ⟨w.heap.size, 0, none⟩ = some (.int .i64 room) := (HP5.out.b4.cell 0).trans rfl
  have g41 : W5.cell? ⟨w.heap.size, 1, none⟩ = some (.slice A rl.length c) := (HP5.out.b4.cell 1).trans rfl
  have f40 := HP5.out.b4.frozen 0
  have f41 := HP5.out.b4.frozen 1
  clear hR5 hb5 hrl2 hl2 e40 e41 e52
  go_wp2_with fail
  have HP6 := Lib.hid (HP5.out.store (.slice D rl2.length cD))
  have HG6 := Lib.hid ((HG5.out.box (p := ⟨w.heap.size, 0, none⟩) HP5.out.b4 (by decide) (by decide) (by decide) (by decide) HB (.int .i64 room)).box (p := ⟨w.heap.size, 1, none⟩) (HP5.out.b4.set_ 0 _) (by decide) (by decide) (by decide) (by decide) HB (.slice D rl2.length cD))
  obtain ⟨W6, hW6⟩ : ∃ W6, W6 = ((W5.setCell ⟨w.heap.size, 0, none⟩ (.int .i64 room)).setCell ⟨w.heap.size, 1, none⟩ (.slice D rl2.length cD)) := ⟨_, rfl⟩
  rw [← hW6] at HP6 HG6 ⊢
  clear hW6 g40 g41 f40 f41 HP5 HG5
  have c70 : W6.cell? ⟨w.heap.size + 1 + 1, 0, none⟩ = some (.int .i64 0) := (HP6.out.b7.cell 0).trans rfl
  have c71 : W6.cell? ⟨w.heap.size + 1 + 1, 1, none⟩ = some (.slice none 0 0) := (HP6.out.b7.cell 1).trans rfl
  have f70 := HP6.out.b7.frozen 0
  have f71 := HP6.out.b7.frozen 1
  have hS0 : W6.drew.cell? ⟨w.heap.size, 0, none⟩ = some (.int .i64 room) ∧ W6.drew.cell? ⟨w.heap.size, 1, none⟩ = some (.slice D rl2.length cD) := ⟨(HP6.out.b4.cell 0).trans rfl, (HP6.out.b4.cell 1).trans rfl⟩
  have hS2 : ((W6.setCell ⟨w.heap.size + 1 + 1, 0, none⟩ (.int .i64 room)).setCell ⟨w.heap.size + 1 + 1, 1, none⟩ (.slice D rl2.length cD)).drew.cell? ⟨w.heap.size, 0, none⟩ = some (.int .i64 room) ∧ ((W6.setCell ⟨w.heap.size + 1 + 1, 0, none⟩ (.int .i64 room)).setCell ⟨w.heap.size + 1 + 1, 1, none⟩ (.slice D rl2.length cD)).drew.cell? ⟨w.heap.size, 1, none⟩ = some (.slice D rl2.length cD) := ⟨box_set (W := W6) hS0.1 (by omega) _ _, box_set (W := W6) hS0.2 (by omega) _ _⟩
  refine wp_region_held_drew (S := fun w' => w'.cell? ⟨w.heap.size, 0, none⟩ = some (.int .i64 room) ∧ w'.cell? ⟨w.heap.size, 1, none⟩ = some (.slice D rl2.length cD)) (by kernel_rfl) hS0 (fun hHeld => ?_)
  refine wpAnyH_take (i := 0) (v := ?_) rfl (by kernel_rfl) (by kernel_rfl) (by kernel_rfl) (fun _ _ _ h => h) (Or.inl ⟨by rfl, ?_⟩) hS0 ?_
  rotate_left
  · intro w hSw; obtain ⟨s0, s1⟩ := hSw; first | (go_simp; done) | (go_simp; with_reducible rfl)
  try simp only [List.getElem_toArray, List.getElem_cons_zero, List.getElem_cons_succ, Act.put, List.setIfInBounds_toArray, List.set_cons_zero, List.set_cons_succ]
  refine wpAnyH_take (i := 1) (v := ?_) rfl (by kernel_rfl) (by kernel_rfl) (by kernel_rfl) (fun _ _ _ h => h) (Or.inl ⟨by rfl, ?_⟩) hS0 ?_
  rotate_left
  · intro w hSw; obtain ⟨s0, s1⟩ := hSw; first | (go_simp; done) | (go_simp; with_reducible rfl)
  try simp only [List.getElem_toArray, List.getElem_cons_zero, List.getElem_cons_succ, Act.put, List.setIfInBounds_toArray, List.set_cons_zero, List.set_cons_succ]
  refine wpAnyH_take (i := 2) (v := ?_) rfl (by kernel_rfl) (by kernel_rfl) (by kernel_rfl) (fun _ _ _ h => h) (Or.inl ⟨by rfl, ?_⟩) hS0 ?_
  rotate_left
  · intro w hSw; obtain ⟨s0, s1⟩ := hSw; first | (go_simp; done) | (go_simp; with_reducible rfl)
  try simp only [List.getElem_toArray, List.getElem_cons_zero, List.getElem_cons_succ, Act.put, List.setIfInBounds_toArray, List.set_cons_zero, List.set_cons_succ]
  refine wpAnyH_take (i := 3) (v := ?_) rfl (by kernel_rfl) (by kernel_rfl) (by kernel_rfl) (fun _ _ _ h => h) (Or.inl ⟨by rfl, ?_⟩) hS0 ?_
  rotate_left
  · intro w hSw; obtain ⟨s0, s1⟩ := hSw; first | (go_simp; done) | (go_simp; with_reducible rfl)
  try simp only [List.getElem_toArray, List.getElem_cons_zero, List.getElem_cons_succ, Act.put, List.setIfInBounds_toArray, List.set_cons_zero, List.set_cons_succ]
  refine wpAnyH_ready (rs := [4]) (by kernel_rfl) (by simp) ?_
  refine AllReadyH.cons rfl (fun K hK => ?_) AllReadyH.nil
  try simp only [List.getElem_toArray, List.getElem_cons_zero, List.getElem_cons_succ]
  go_simp
  refine hK.out _ _ hS2 (fun hHeld => ?_)
  clear hK K
  try simp only [List.getElem_toArray, List.getElem_cons_zero, List.getElem_cons_succ, Act.put, List.setIfInBounds_toArray, List.set_cons_zero, List.set_cons_succ]
  refine wpAnyH_take (i := 5) (v := ?_) rfl (by kernel_rfl) (by kernel_rfl) (by kernel_rfl) (fun _ _ _ h => h) (Or.inl ⟨by rfl, ?_⟩) hS2 ?_
  rotate_left
  · intro w hSw; obtain ⟨s0, s1⟩ := hSw; first | (go_simp; done) | (go_simp; with_reducible rfl)
  try simp only [List.getElem_toArray, List.getElem_cons_zero, List.getElem_cons_succ, Act.put, List.setIfInBounds_toArray, List.set_cons_zero, List.set_cons_succ]
  refine wpAnyH_done (by kernel_rfl) ?_ _
  (go_wp2_with fail; exact bodyPost_ret (v := .tuple #[.pointer (some ⟨g, 0, none⟩), .agg #[.int .i64 room, .slice D rl2.length cD], .bool true]) (by simp [results, Try.results22, go_sem, c70, c71]) rfl (stepped_drew (Good.finish HG6.out HP6.out.b7 HB hln2 HP6.out.kp HF2.out rfl _ _)))

set_option linter.unusedSimpArgs false in
set_option maxRecDepth 100000 in
set_option maxHeartbeats 2000000 in
theorem step_take_no {b : Nat} (w : World) (g : Nat) (v : Value) (room dst at_ : Int) (l rl : List Ms) (A C : Option Addr) (c cd : Nat) (raw : List Int) (hG : Good b w g v room l (.slice A rl.length c) rl) (hx : Ms.Safe b w ⟨dst, .slice C raw.length cd, raw⟩)
    (_hraw : raw.length ≤ 140737488351232) (_hl : l.length < 7000000000000) (hr : at_ < 0 ∨ (l.length : Int) ≤ at_) :
    Calls Try.prog 22 #[.pointer (some ⟨g, 0, none⟩), .agg #[.int .i64 room, .slice A rl.length c], .agg #[.int .i64 2, .int .i64 dst, .int .i64 at_, .slice C raw.length cd]] w (Stepped b w g v room l) := by
  have HRA := Lib.hid hr
  clear hr
  have hlr := hG.same.len
  have HB := hG.size
  have HP := Lib.hid (pre_start hG.own.nb_lt room (.slice A rl.length c) #[.int .i64 2, .int .i64 dst, .int .i64 at_, .slice C raw.length cd])
  have HB1 : Hid (Below w.heap.size w (((w.alloc (.cells #[.int .i64 room, .slice A rl.length c] 28)).alloc (.cells #[.int .i64 2, .int .i64 dst, .int .i64 at_, .slice C raw.length cd] 44)).alloc (.cells #[.int .i64 0, .slice none 0 0] 28))) :=
    (((Below.refl _ _).alloc (Nat.le_refl _) _).alloc (by simp) _).alloc (by simp; omega) _
  have HG1 := Lib.hid (hG.below HB1.out)
  have HX1 := Lib.hid (hx.below HB1.out)
  have HLR := Lib.hid hlr
  have HOL : Hid (∀ x ∈ l, ∀ k, x.v.ownBlock = some k → k < w.heap.size) := fun x hx k e => ((hG.own.net.msg x hx).lt k e).2
  have HNB := Lib.hid hG.own.nb_lt
  clear hG hx hlr
  go_enter Try.func22, Try.ntmps22
  go_wp2_with fail
  obtain ⟨W1, hW1⟩ : ∃ W1, W1 = ((w.alloc (.cells #[.int .i64 room, .slice A rl.length c] 28)).alloc (.cells #[.int .i64 2, .int .i64 dst, .int .i64 at_, .slice C raw.length cd] 44)).alloc (.cells #[.int .i64 0, .slice none 0 0] 28) := ⟨_, rfl⟩
  rw [← hW1] at HP HB1 HG1 HX1 ⊢
  clear hW1
  refine (take_no W1 g v room l HG1.out.own.net at_ HRA.out).mono ?_
  rintro e W2 ⟨rfl, rfl⟩
  have e40 : W2.cell? ⟨w.heap.size, 0, none⟩ = some (.int .i64 room) := (HP.out.b4.cell 0).trans rfl
  have e41 : W2.cell? ⟨w.heap.size, 1, none⟩ = some (.slice A rl.length c) := (HP.out.b4.cell 1).trans rfl
  have e52 : W2.cell? ⟨w.heap.size + 1, 2, none⟩ = some (.int .i64 at_) := (HP.out.b5.cell 2).trans rfl
  go_wp2_with fail
  refine (asked_no (rl := rl) W2 room A c at_ (by have := HRA.out; have := HLR.out; omega)).mono ?_
  rintro e W3 ⟨rfl, hb3⟩
  have HP3 := Lib.hid (HP.out.below hb3)
  have HG3 := Lib.hid (HG1.out.below hb3)
  clear hb3 e40 e41 e52 HP HG1
  have e40 : W3.cell? ⟨w.heap.size, 0, none⟩ = some (.int .i64 room) := (HP3.out.b4.cell 0).trans rfl
  have e41 : W3.cell? ⟨w.heap.size, 1, none⟩ = some (.slice A rl.length c) := (HP3.out.b4.cell 1).trans rfl
  have e52 : W3.cell? ⟨w.heap.size + 1, 2, none⟩ = some (.int .i64 at_) := (HP3.out.b5.cell 2).trans rfl
  go_wp2_with fail
  refine (ref_there_no W3 room A rl.length c at_ (by have := HRA.out; have := HLR.out; omega)).mono ?_
  rintro e W4 ⟨rfl, hb4⟩
  have HP4 := Lib.hid (HP3.out.below hb4)
  have HG4 := Lib.hid (HG3.out.below hb4)
  clear hb4 e40 e41 e52 HP3 HG3
  go_wp2_with fail
  have c70 : W4.cell? ⟨w.heap.size + 1 + 1, 0, none⟩ = some (.int .i64 0) := (HP4.out.b7.cell 0).trans rfl
  have c71 : W4.cell? ⟨w.heap.size + 1 + 1, 1, none⟩ = some (.slice none 0 0) := (HP4.out.b7.cell 1).trans rfl
  have f70 := HP4.out.b7.frozen 0
  have f71 := HP4.out.b7.frozen 1
  have hS0 : W4.drew.cell? ⟨w.heap.size, 0, none⟩ = some (.int .i64 room) ∧ W4.drew.cell? ⟨w.heap.size, 1, none⟩ = some (.slice A rl.length c) := ⟨(HP4.out.b4.cell 0).trans rfl, (HP4.out.b4.cell 1).trans rfl⟩
  have hS2 : ((W4.setCell ⟨w.heap.size + 1 + 1, 0, none⟩ (.int .i64 room)).setCell ⟨w.heap.size + 1 + 1, 1, none⟩ (.slice A rl.length c)).drew.cell? ⟨w.heap.size, 0, none⟩ = some (.int .i64 room) ∧ ((W4.setCell ⟨w.heap.size + 1 + 1, 0, none⟩ (.int .i64 room)).setCell ⟨w.heap.size + 1 + 1, 1, none⟩ (.slice A rl.length c)).drew.cell? ⟨w.heap.size, 1, none⟩ = some (.slice A rl.length c) := ⟨box_set (W := W4) hS0.1 (by omega) _ _, box_set (W := W4) hS0.2 (by omega) _ _⟩
  refine wp_region_held_drew (S := fun w' => w'.cell? ⟨w.heap.size, 0, none⟩ = some (.int .i64 room) ∧ w'.cell? ⟨w.heap.size, 1, none⟩ = some (.slice A rl.length c)) (by kernel_rfl) hS0 (fun hHeld => ?_)
  refine wpAnyH_take (i := 0) (v := ?_) rfl (by kernel_rfl) (by kernel_rfl) (by kernel_rfl) (fun _ _ _ h => h) (Or.inl ⟨by rfl, ?_⟩) hS0 ?_
  rotate_left
  · intro w hSw; obtain ⟨s0, s1⟩ := hSw; first | (go_simp; done) | (go_simp; with_reducible rfl)
  try simp only [List.getElem_toArray, List.getElem_cons_zero, List.getElem_cons_succ, Act.put, List.setIfInBounds_toArray, List.set_cons_zero, List.set_cons_succ]
  refine wpAnyH_take (i := 1) (v := ?_) rfl (by kernel_rfl) (by kernel_rfl) (by kernel_rfl) (fun _ _ _ h => h) (Or.inl ⟨by rfl, ?_⟩) hS0 ?_
  rotate_left
  · intro w hSw; obtain ⟨s0, s1⟩ := hSw; first | (go_simp; done) | (go_simp; with_reducible rfl)
  try simp only [List.getElem_toArray, List.getElem_cons_zero, List.getElem_cons_succ, Act.put, List.setIfInBounds_toArray, List.set_cons_zero, List.set_cons_succ]
  refine wpAnyH_take (i := 2) (v := ?_) rfl (by kernel_rfl) (by kernel_rfl) (by kernel_rfl) (fun _ _ _ h => h) (Or.inl ⟨by rfl, ?_⟩) hS0 ?_
  rotate_left
  · intro w hSw; obtain ⟨s0, s1⟩ := hSw; first | (go_simp; done) | (go_simp; with_reducible rfl)
  try simp only [List.getElem_toArray, List.getElem_cons_zero, List.getElem_cons_succ, Act.put, List.setIfInBounds_toArray, List.set_cons_zero, List.set_cons_succ]
  refine wpAnyH_take (i := 3) (v := ?_) rfl (by kernel_rfl) (by kernel_rfl) (by kernel_rfl) (fun _ _ _ h => h) (Or.inl ⟨by rfl, ?_⟩) hS0 ?_
  rotate_left
  · intro w hSw; obtain ⟨s0, s1⟩ := hSw; first | (go_simp; done) | (go_simp; with_reducible rfl)
  try simp only [List.getElem_toArray, List.getElem_cons_zero, List.getElem_cons_succ, Act.put, List.setIfInBounds_toArray, List.set_cons_zero, List.set_cons_succ]
  refine wpAnyH_ready (rs := [4]) (by kernel_rfl) (by simp) ?_
  refine AllReadyH.cons rfl (fun K hK => ?_) AllReadyH.nil
  try simp only [List.getElem_toArray, List.getElem_cons_zero, List.getElem_cons_succ]
  go_simp
  refine hK.out _ _ hS2 (fun hHeld => ?_)
  clear hK K
  try simp only [List.getElem_toArray, List.getElem_cons_zero, List.getElem_cons_succ, Act.put, List.setIfInBounds_toArray, List.set_cons_zero, List.set_cons_succ]
  refine wpAnyH_take (i := 5) (v := ?_) rfl (by kernel_rfl) (by kernel_rfl) (by kernel_rfl) (fun _ _ _ h => h) (Or.inl ⟨by rfl, ?_⟩) hS2 ?_
  rotate_left
  · intro w hSw; obtain ⟨s0, s1⟩ := hSw; first | (go_simp; done) | (go_simp; with_reducible rfl)
  try simp only [List.getElem_toArray, List.getElem_cons_zero, List.getElem_cons_succ, Act.put, List.setIfInBounds_toArray, List.set_cons_zero, List.set_cons_succ]
  refine wpAnyH_done (by kernel_rfl) ?_ _
  (go_wp2_with fail; exact bodyPost_ret (v := .tuple #[.pointer (some ⟨g, 0, none⟩), .agg #[.int .i64 room, .slice A rl.length c], .bool true]) (by simp [results, Try.results22, go_sem, c70, c71]) rfl (stepped_drew (Good.finish HG4.out HP4.out.b7 HB (by omega) HP4.out.kp (fun k h => .inl h) rfl _ _)))


set_option linter.unusedSimpArgs false in
set_option maxRecDepth 100000 in
set_option maxHeartbeats 2000000 in
theorem step_drop_yes {b : Nat} (w : World) (g : Nat) (v : Value) (room dst at_ : Int) (l rl : List Ms) (A C : Option Addr) (c cd : Nat) (raw : List Int) (hG : Good b w g v room l (.slice A rl.length c) rl) (hx : Ms.Safe b w ⟨dst, .slice C raw.length cd, raw⟩)
    (_hraw : raw.length ≤ 140737488351232) (_hl : l.length < 7000000000000) (n : Nat) (x : Ms) (hn : at_ = (n : Int)) (hxn : l[n]? = some x) :
    Calls Try.prog 22 #[.pointer (some ⟨g, 0, none⟩), .agg #[.int .i64 room, .slice A rl.length c], .agg #[.int .i64 3, .int .i64 dst, .int .i64 at_, .slice C raw.length cd]] w (Stepped b w g v room l) := by
  subst hn
  obtain ⟨y, hy, hy1, hy2⟩ := hG.same.get hxn
  have hnl : n < l.length := (List.getElem?_eq_some_iff.1 hxn).1
  have HXN := Lib.hid hxn
  have HY := Lib.hid hy
  have HY1 := Lib.hid hy1
  have HY2 := Lib.hid hy2
  have hxs := hG.short x (List.mem_of_getElem? hxn)
  clear hxn hy hy1 hy2
  have hlr := hG.same.len
  have HB := hG.size
  have HP := Lib.hid (pre_start hG.own.nb_lt room (.slice A rl.length c) #[.int .i64 3, .int .i64 dst, .int .i64 n, .slice C raw.length cd])
  have HB1 : Hid (Below w.heap.size w (((w.alloc (.cells #[.int .i64 room, .slice A rl.length c] 28)).alloc (.cells #[.int .i64 3, .int .i64 dst, .int .i64 n, .slice C raw.length cd] 44)).alloc (.cells #[.int .i64 0, .slice none 0 0] 28))) :=
    (((Below.refl _ _).alloc (Nat.le_refl _) _).alloc (by simp) _).alloc (by simp; omega) _
  have HG1 := Lib.hid (hG.below HB1.out)
  have HX1 := Lib.hid (hx.below HB1.out)
  have HLR := Lib.hid hlr
  have HOL : Hid (∀ x ∈ l, ∀ k, x.v.ownBlock = some k → k < w.heap.size) := fun x hx k e => ((hG.own.net.msg x hx).lt k e).2
  have HNB := Lib.hid hG.own.nb_lt
  clear hG hx hlr
  go_enter Try.func22, Try.ntmps22
  go_wp2_with fail
  obtain ⟨W1, hW1⟩ : ∃ W1, W1 = ((w.alloc (.cells #[.int .i64 room, .slice A rl.length c] 28)).alloc (.cells #[.int .i64 3, .int .i64 dst, .int .i64 n, .slice C raw.length cd] 44)).alloc (.cells #[.int .i64 0, .slice none 0 0] 28) := ⟨_, rfl⟩
  rw [← hW1] at HP HB1 HG1 HX1 ⊢
  clear hW1
  refine (drop_yes W1 g v room l HG1.out.own.net n hnl (by omega)).mono ?_
  rintro e W2 ⟨rfl, hd⟩
  obtain ⟨v2, hO2, hS2, hsh2, hle2, hln2, hk2, hf2⟩ := dropped_any HG1.out.own HG1.out.size hd HG1.out.same HG1.out.short HG1.out.le
  have HP2 := Lib.hid (HP.out.next hk2 (fun k h => .inl h))
  have HR2 := Lib.hid (HG1.out.rf.net HG1.out.own hk2)
  have HO2 := Lib.hid hO2
  have HS2 := Lib.hid hS2
  have HSH2 := Lib.hid hsh2
  have HF2 : Hid (∀ k, Nb g v2 k → Nb g v k ∨ w.heap.size ≤ k) := fun k h => (hf2 k h).imp id (fun h => Nat.le_trans HB1.out.size h)
  have HZ2 : b ≤ W2.heap.size := Nat.le_trans HG1.out.size hk2.size
  have e40 : W2.cell? ⟨w.heap.size, 0, none⟩ = some (.int .i64 room) := (HP2.out.b4.cell 0).trans rfl
  have e41 : W2.cell? ⟨w.heap.size, 1, none⟩ = some (.slice A rl.length c) := (HP2.out.b4.cell 1).trans rfl
  have e52 : W2.cell? ⟨w.heap.size + 1, 2, none⟩ = some (.int .i64 n) := (HP2.out.b5.cell 2).trans rfl
  clear hd hO2 hS2 hsh2 hk2 hf2 HX1
  go_wp2_with fail
  refine (ref_there_yes W2 room A rl.length c n (by have := HLR.out; omega)).mono ?_
  rintro e W3 ⟨rfl, hb3⟩
  have HB3 := Lib.hid hb3
  have HP3 := Lib.hid (HP2.out.below hb3)
  clear hb3 e40 e41 e52
  have e40 : W3.cell? ⟨w.heap.size, 0, none⟩ = some (.int .i64 room) := (HP3.out.b4.cell 0).trans rfl
  have e41 : W3.cell? ⟨w.heap.size, 1, none⟩ = some (.slice A rl.length c) := (HP3.out.b4.cell 1).trans rfl
  have e52 : W3.cell? ⟨w.heap.size + 1, 2, none⟩ = some (.int .i64 n) := (HP3.out.b5.cell 2).trans rfl
  go_wp2_with fail
  refine (ref_out (b := b) W3 room A c n (by have := HLR.out; omega) (HR2.out.below HB3.out) (by have := HLR.out; omega) (by have := HB3.out.size; omega)).mono ?_
  rintro e W5 ⟨v5, rfl, hR5, hb5⟩
  obtain ⟨rl2, hrl2⟩ : ∃ r, r = rl.take n ++ rl.drop (n + 1) := ⟨_, rfl⟩
  obtain ⟨l2, hl2⟩ : ∃ r, r = l.take n ++ l.drop (n + 1) := ⟨_, rfl⟩
  rw [← hrl2] at hR5 HS2
  rw [← hl2] at HO2 HS2 HSH2 hle2 hln2
  obtain ⟨D, cD, rfl, _, _, _⟩ := hR5.slice
  have HB5 : Hid (Below W2.heap.size W2 W5) := HB3.out.trans (hb5.mono HB3.out.size)
  have HP5 := Lib.hid (HP2.out.below HB5.out)
  have HG5 : Hid (Good b W5 g v2 room l2 (.slice D rl2.length cD) rl2) := ⟨⟨HO2.out.net.below HB5.out, HO2.out.hg, HO2.out.hv⟩, hR5, HS2.out, HSH2.out, hle2, by have := HB5.out.size; omega⟩
  have g40 : W5.cell? ⟨w.heap.size, 0, none⟩ = some (.int .i64 room) := (HP5.out.b4.cell 0).trans rfl
  have g41 : W5.cell? ⟨w.heap.size, 1, none⟩ = some (.slice A rl.length c) := (HP5.out.b4.cell 1).trans rfl
  have f40 := HP5.out.b4.frozen 0
  have f41 := HP5.out.b4.frozen 1
  clear hR5 hb5 hrl2 hl2 e40 e41 e52
  go_wp2_with fail
  have HP6 := Lib.hid (HP5.out.store (.slice D rl2.length cD))
  have HG6 := Lib.hid ((HG5.out.box (p := ⟨w.heap.size, 0, none⟩) HP5.out.b4 (by decide) (by decide) (by decide) (by decide) HB (.int .i64 room)).box (p := ⟨w.heap.size, 1, none⟩) (HP5.out.b4.set_ 0 _) (by decide) (by decide) (by decide) (by decide) HB (.slice D rl2.length cD))
  obtain ⟨W6, hW6⟩ : ∃ W6, W6 = ((W5.setCell ⟨w.heap.size, 0, none⟩ (.int .i64 room)).setCell ⟨w.heap.size, 1, none⟩ (.slice D rl2.length cD)) := ⟨_, rfl⟩
  rw [← hW6] at HP6 HG6 ⊢
  clear hW6 g40 g41 f40 f41 HP5 HG5
  have c70 : W6.cell? ⟨w.heap.size + 1 + 1, 0, none⟩ = some (.int .i64 0) := (HP6.out.b7.cell 0).trans rfl
  have c71 : W6.cell? ⟨w.heap.size + 1 + 1, 1, none⟩ = some (.slice none 0 0) := (HP6.out.b7.cell 1).trans rfl
  have f70 := HP6.out.b7.frozen 0
  have f71 := HP6.out.b7.frozen 1
  have hS0 : W6.drew.cell? ⟨w.heap.size, 0, none⟩ = some (.int .i64 room) ∧ W6.drew.cell? ⟨w.heap.size, 1, none⟩ = some (.slice D rl2.length cD) := ⟨(HP6.out.b4.cell 0).trans rfl, (HP6.out.b4.cell 1).trans rfl⟩
  have hS2 : ((W6.setCell ⟨w.heap.size + 1 + 1, 0, none⟩ (.int .i64 room)).setCell ⟨w.heap.size + 1 + 1, 1, none⟩ (.slice D rl2.length cD)).drew.cell? ⟨w.heap.size, 0, none⟩ = some (.int .i64 room) ∧ ((W6.setCell ⟨w.heap.size + 1 + 1, 0, none⟩ (.int .i64 room)).setCell ⟨w.heap.size + 1 + 1, 1, none⟩ (.slice D rl2.length cD)).drew.cell? ⟨w.heap.size, 1, none⟩ = some (.slice D rl2.length cD) := ⟨box_set (W := W6) hS0.1 (by omega) _ _, box_set (W := W6) hS0.2 (by omega) _ _⟩
  refine wp_region_held_drew (S := fun w' => w'.cell? ⟨w.heap.size, 0, none⟩ = some (.int .i64 room) ∧ w'.cell? ⟨w.heap.size, 1, none⟩ = some (.slice D rl2.length cD)) (by kernel_rfl) hS0 (fun hHeld => ?_)
  refine wpAnyH_take (i := 0) (v := ?_) rfl (by kernel_rfl) (by kernel_rfl) (by kernel_rfl) (fun _ _ _ h => h) (Or.inl ⟨by rfl, ?_⟩) hS0 ?_
  rotate_left
  · intro w hSw; obtain ⟨s0, s1⟩ := hSw; first | (go_simp; done) | (go_simp; with_reducible rfl)
  try simp only [List.getElem_toArray, List.getElem_cons_zero, List.getElem_cons_succ, Act.put, List.setIfInBounds_toArray, List.set_cons_zero, List.set_cons_succ]
  refine wpAnyH_take (i := 1) (v := ?_) rfl (by kernel_rfl) (by kernel_rfl) (by kernel_rfl) (fun _ _ _ h => h) (Or.inl ⟨by rfl, ?_⟩) hS0 ?_
  rotate_left
  · intro w hSw; obtain ⟨s0, s1⟩ := hSw; first | (go_simp; done) | (go_simp; with_reducible rfl)
  try simp only [List.getElem_toArray, List.getElem_cons_zero, List.getElem_cons_succ, Act.put, List.setIfInBounds_toArray, List.set_cons_zero, List.set_cons_succ]
  refine wpAnyH_take (i := 2) (v := ?_) rfl (by kernel_rfl) (by kernel_rfl) (by kernel_rfl) (fun _ _ _ h => h) (Or.inl ⟨by rfl, ?_⟩) hS0 ?_
  rotate_left
  · intro w hSw; obtain ⟨s0, s1⟩ := hSw; first | (go_simp; done) | (go_simp; with_reducible rfl)
  try simp only [List.getElem_toArray, List.getElem_cons_zero, List.getElem_cons_succ, Act.put, List.setIfInBounds_toArray, List.set_cons_zero, List.set_cons_succ]
  refine wpAnyH_take (i := 3) (v := ?_) rfl (by kernel_rfl) (by kernel_rfl) (by kernel_rfl) (fun _ _ _ h => h) (Or.inl ⟨by rfl, ?_⟩) hS0 ?_
  rotate_left
  · intro w hSw; obtain ⟨s0, s1⟩ := hSw; first | (go_simp; done) | (go_simp; with_reducible rfl)
  try simp only [List.getElem_toArray, List.getElem_cons_zero, List.getElem_cons_succ, Act.put, List.setIfInBounds_toArray, List.set_cons_zero, List.set_cons_succ]
  refine wpAnyH_take (i := 4) (v := ?_) rfl (by kernel_rfl) (by kernel_rfl) (by kernel_rfl) (fun _ _ _ h => h) (Or.inl ⟨by rfl, ?_⟩) hS0 ?_
  rotate_left
  · intro w hSw; obtain ⟨s0, s1⟩ := hSw; first | (go_simp; done) | (go_simp; with_reducible rfl)
  try simp only [List.getElem_toArray, List.getElem_cons_zero, List.getElem_cons_succ, Act.put, List.setIfInBounds_toArray, List.set_cons_zero, List.set_cons_succ]
  refine wpAnyH_take (i := 5) (v := ?_) rfl (by kernel_rfl) (by kernel_rfl) (by kernel_rfl) (fun _ _ _ h => h) (Or.inl ⟨by rfl, ?_⟩) hS0 ?_
  rotate_left
  · intro w hSw; obtain ⟨s0, s1⟩ := hSw; first | (go_simp; done) | (go_simp; with_reducible rfl)
  try simp only [List.getElem_toArray, List.getElem_cons_zero, List.getElem_cons_succ, Act.put, List.setIfInBounds_toArray, List.set_cons_zero, List.set_cons_succ]
  refine wpAnyH_ready (rs := [6]) (by kernel_rfl) (by simp) ?_
  refine AllReadyH.cons rfl (fun K hK => ?_) AllReadyH.nil
  try simp only [List.getElem_toArray, List.getElem_cons_zero, List.getElem_cons_succ]
  go_simp
  refine hK.out _ _ hS2 (fun hHeld => ?_)
  clear hK K
  try simp only [List.getElem_toArray, List.getElem_cons_zero, List.getElem_cons_succ, Act.put, List.setIfInBounds_toArray, List.set_cons_zero, List.set_cons_succ]
  refine wpAnyH_take (i := 7) (v := ?_) rfl (by kernel_rfl) (by kernel_rfl) (by kernel_rfl) (fun _ _ _ h => h) (Or.inl ⟨by rfl, ?_⟩) hS2 ?_
  rotate_left
  · intro w hSw; obtain ⟨s0, s1⟩ := hSw; first | (go_simp; done) | (go_simp; with_reducible rfl)
  try simp only [List.getElem_toArray, List.getElem_cons_zero, List.getElem_cons_succ, Act.put, List.setIfInBounds_toArray, List.set_cons_zero, List.set_cons_succ]
  refine wpAnyH_done (by kernel_rfl) ?_ _
  (go_wp2_with fail; exact bodyPost_ret (v := .tuple #[.pointer (some ⟨g, 0, none⟩), .agg #[.int .i64 room, .slice D rl2.length cD], .bool true]) (by simp [results, Try.results22, go_sem, c70, c71]) rfl (stepped_drew (Good.finish HG6.out HP6.out.b7 HB hln2 HP6.out.kp HF2.out rfl _ _)))

set_option linter.unusedSimpArgs false in
set_option maxRecDepth 100000 in
set_option maxHeartbeats 2000000 in
theorem step_drop_no {b : Nat} (w : World) (g : Nat) (v : Value) (room dst at_ : Int) (l rl : List Ms) (A C : Option Addr) (c cd : Nat) (raw : List Int) (hG : Good b w g v room l (.slice A rl.length c) rl) (hx : Ms.Safe b w ⟨dst, .slice C raw.length cd, raw⟩)
    (_hraw : raw.length ≤ 140737488351232) (_hl : l.length < 7000000000000) (hr : at_ < 0 ∨ (l.length : Int) ≤ at_) :
    Calls Try.prog 22 #[.pointer (some ⟨g, 0, none⟩), .agg #[.int .i64 room, .slice A rl.length c], .agg #[.int .i64 3, .int .i64 dst, .int .i64 at_, .slice C raw.length cd]] w (Stepped b w g v room l) := by
  have HRA := Lib.hid hr
  clear hr
  have hlr := hG.same.len
  have HB := hG.size
  have HP := Lib.hid (pre_start hG.own.nb_lt room (.slice A rl.length c) #[.int .i64 3, .int .i64 dst, .int .i64 at_, .slice C raw.length cd])
  have HB1 : Hid (Below w.heap.size w (((w.alloc (.cells #[.int .i64 room, .slice A rl.length c] 28)).alloc (.cells #[.int .i64 3, .int .i64 dst, .int .i64 at_, .slice C raw.length cd] 44)).alloc (.cells #[.int .i64 0, .slice none 0 0] 28))) :=
    (((Below.refl _ _).alloc (Nat.le_refl _) _).alloc (by simp) _).alloc (by simp; omega) _
  have HG1 := Lib.hid (hG.below HB1.out)
  have HX1 := Lib.hid (hx.below HB1.out)
  have HLR := Lib.hid hlr
  have HOL : Hid (∀ x ∈ l, ∀ k, x.v.ownBlock = some k → k < w.heap.size) := fun x hx k e => ((hG.own.net.msg x hx).lt k e).2
  have HNB := Lib.hid hG.own.nb_lt
  clear hG hx hlr
  go_enter Try.func22, Try.ntmps22
  go_wp2_with fail
  obtain ⟨W1, hW1⟩ : ∃ W1, W1 = ((w.alloc (.cells #[.int .i64 room, .slice A rl.length c] 28)).alloc (.cells #[.int .i64 3, .int .i64 dst, .int .i64 at_, .slice C raw.length cd] 44)).alloc (.cells #[.int .i64 0, .slice none 0 0] 28) := ⟨_, rfl⟩
  rw [← hW1] at HP HB1 HG1 HX1 ⊢
  clear hW1
  refine (drop_no W1 g v room l HG1.out.own.net at_ HRA.out).mono ?_
  rintro e W2 ⟨rfl, rfl⟩
  have e40 : W2.cell? ⟨w.heap.size, 0, none⟩ = some (.int .i64 room) := (HP.out.b4.cell 0).trans rfl
  have e41 : W2.cell? ⟨w.heap.size, 1, none⟩ = some (.slice A rl.length c) := (HP.out.b4.cell 1).trans rfl
  have e52 : W2.cell? ⟨w.heap.size + 1, 2, none⟩ = some (.int .i64 at_) := (HP.out.b5.cell 2).trans rfl
  go_wp2_with fail
  refine (ref_there_no W2 room A rl.length c at_ (by have := HRA.out; have := HLR.out; omega)).mono ?_
  rintro e W3 ⟨rfl, hb3⟩
  have HP3 := Lib.hid (HP.out.below hb3)
  have HG3 := Lib.hid (HG1.out.below hb3)
  clear hb3 e40 e41 e52 HP HG1
  go_wp2_with fail
  have c70 : W3.cell? ⟨w.heap.size + 1 + 1, 0, none⟩ = some (.int .i64 0) := (HP3.out.b7.cell 0).trans rfl
  have c71 : W3.cell? ⟨w.heap.size + 1 + 1, 1, none⟩ = some (.slice none 0 0) := (HP3.out.b7.cell 1).trans rfl
  have f70 := HP3.out.b7.frozen 0
  have f71 := HP3.out.b7.frozen 1
  have hS0 : W3.drew.cell? ⟨w.heap.size, 0, none⟩ = some (.int .i64 room) ∧ W3.drew.cell? ⟨w.heap.size, 1, none⟩ = some (.slice A rl.length c) := ⟨(HP3.out.b4.cell 0).trans rfl, (HP3.out.b4.cell 1).trans rfl⟩
  have hS2 : ((W3.setCell ⟨w.heap.size + 1 + 1, 0, none⟩ (.int .i64 room)).setCell ⟨w.heap.size + 1 + 1, 1, none⟩ (.slice A rl.length c)).drew.cell? ⟨w.heap.size, 0, none⟩ = some (.int .i64 room) ∧ ((W3.setCell ⟨w.heap.size + 1 + 1, 0, none⟩ (.int .i64 room)).setCell ⟨w.heap.size + 1 + 1, 1, none⟩ (.slice A rl.length c)).drew.cell? ⟨w.heap.size, 1, none⟩ = some (.slice A rl.length c) := ⟨box_set (W := W3) hS0.1 (by omega) _ _, box_set (W := W3) hS0.2 (by omega) _ _⟩
  refine wp_region_held_drew (S := fun w' => w'.cell? ⟨w.heap.size, 0, none⟩ = some (.int .i64 room) ∧ w'.cell? ⟨w.heap.size, 1, none⟩ = some (.slice A rl.length c)) (by kernel_rfl) hS0 (fun hHeld => ?_)
  refine wpAnyH_take (i := 0) (v := ?_) rfl (by kernel_rfl) (by kernel_rfl) (by kernel_rfl) (fun _ _ _ h => h) (Or.inl ⟨by rfl, ?_⟩) hS0 ?_
  rotate_left
  · intro w hSw; obtain ⟨s0, s1⟩ := hSw; first | (go_simp; done) | (go_simp; with_reducible rfl)
  try simp only [List.getElem_toArray, List.getElem_cons_zero, List.getElem_cons_succ, Act.put, List.setIfInBounds_toArray, List.set_cons_zero, List.set_cons_succ]
  refine wpAnyH_take (i := 1) (v := ?_) rfl (by kernel_rfl) (by kernel_rfl) (by kernel_rfl) (fun _ _ _ h => h) (Or.inl ⟨by rfl, ?_⟩) hS0 ?_
  rotate_left
  · intro w hSw; obtain ⟨s0, s1⟩ := hSw; first | (go_simp; done) | (go_simp; with_reducible rfl)
  try simp only [List.getElem_toArray, List.getElem_cons_zero, List.getElem_cons_succ, Act.put, List.setIfInBounds_toArray, List.set_cons_zero, List.set_cons_succ]
  refine wpAnyH_take (i := 2) (v := ?_) rfl (by kernel_rfl) (by kernel_rfl) (by kernel_rfl) (fun _ _ _ h => h) (Or.inl ⟨by rfl, ?_⟩) hS0 ?_
  rotate_left
  · intro w hSw; obtain ⟨s0, s1⟩ := hSw; first | (go_simp; done) | (go_simp; with_reducible rfl)
  try simp only [List.getElem_toArray, List.getElem_cons_zero, List.getElem_cons_succ, Act.put, List.setIfInBounds_toArray, List.set_cons_zero, List.set_cons_succ]
  refine wpAnyH_take (i := 3) (v := ?_) rfl (by kernel_rfl) (by kernel_rfl) (by kernel_rfl) (fun _ _ _ h => h) (Or.inl ⟨by rfl, ?_⟩) hS0 ?_
  rotate_left
  · intro w hSw; obtain ⟨s0, s1⟩ := hSw; first | (go_simp; done) | (go_simp; with_reducible rfl)
  try simp only [List.getElem_toArray, List.getElem_cons_zero, List.getElem_cons_succ, Act.put, List.setIfInBounds_toArray, List.set_cons_zero, List.set_cons_succ]
  refine wpAnyH_take (i := 4) (v := ?_) rfl (by kernel_rfl) (by kernel_rfl) (by kernel_rfl) (fun _ _ _ h => h) (Or.inl ⟨by rfl, ?_⟩) hS0 ?_
  rotate_left
  · intro w hSw; obtain ⟨s0, s1⟩ := hSw; first | (go_simp; done) | (go_simp; with_reducible rfl)
  try simp only [List.getElem_toArray, List.getElem_cons_zero, List.getElem_cons_succ, Act.put, List.setIfInBounds_toArray, List.set_cons_zero, List.set_cons_succ]
  refine wpAnyH_take (i := 5) (v := ?_) rfl (by kernel_rfl) (by kernel_rfl) (by kernel_rfl) (fun _ _ _ h => h) (Or.inl ⟨by rfl, ?_⟩) hS0 ?_
  rotate_left
  · intro w hSw; obtain ⟨s0, s1⟩ := hSw; first | (go_simp; done) | (go_simp; with_reducible rfl)
  try simp only [List.getElem_toArray, List.getElem_cons_zero, List.getElem_cons_succ, Act.put, List.setIfInBounds_toArray, List.set_cons_zero, List.set_cons_succ]
  refine wpAnyH_ready (rs := [6]) (by kernel_rfl) (by simp) ?_
  refine AllReadyH.cons rfl (fun K hK => ?_) AllReadyH.nil
  try simp only [List.getElem_toArray, List.getElem_cons_zero, List.getElem_cons_succ]
  go_simp
  refine hK.out _ _ hS2 (fun hHeld => ?_)
  clear hK K
  try simp only [List.getElem_toArray, List.getElem_cons_zero, List.getElem_cons_succ, Act.put, List.setIfInBounds_toArray, List.set_cons_zero, List.set_cons_succ]
  refine wpAnyH_take (i := 7) (v := ?_) rfl (by kernel_rfl) (by kernel_rfl) (by kernel_rfl) (fun _ _ _ h => h) (Or.inl ⟨by rfl, ?_⟩) hS2 ?_
  rotate_left
  · intro w hSw; obtain ⟨s0, s1⟩ := hSw; first | (go_simp; done) | (go_simp; with_reducible rfl)
  try simp only [List.getElem_toArray, List.getElem_cons_zero, List.getElem_cons_succ, Act.put, List.setIfInBounds_toArray, List.set_cons_zero, List.set_cons_succ]
  refine wpAnyH_done (by kernel_rfl) ?_ _
  (go_wp2_with fail; exact bodyPost_ret (v := .tuple #[.pointer (some ⟨g, 0, none⟩), .agg #[.int .i64 room, .slice A rl.length c], .bool true]) (by simp [results, Try.results22, go_sem, c70, c71]) rfl (stepped_drew (Good.finish HG3.out HP3.out.b7 HB (by omega) HP3.out.kp (fun k h => .inl h) rfl _ _)))


set_option linter.unusedSimpArgs false in
set_option maxRecDepth 100000 in
set_option maxHeartbeats 2000000 in
theorem step_double_yes {b : Nat} (w : World) (g : Nat) (v : Value) (room dst at_ : Int) (l rl : List Ms) (A C : Option Addr) (c cd : Nat) (raw : List Int) (hG : Good b w g v room l (.slice A rl.length c) rl) (hx : Ms.Safe b w ⟨dst, .slice C raw.length cd, raw⟩)
    (_hraw : raw.length ≤ 140737488351232) (_hl : l.length < 7000000000000) (n : Nat) (x : Ms) (hn : at_ = (n : Int)) (hxn : l[n]? = some x) :
    Calls Try.prog 22 #[.pointer (some ⟨g, 0, none⟩), .agg #[.int .i64 room, .slice A rl.length c], .agg #[.int .i64 4, .int .i64 dst, .int .i64 at_, .slice C raw.length cd]] w (Stepped b w g v room l) := by
  subst hn
  obtain ⟨y, hy, hy1, hy2⟩ := hG.same.get hxn
  have hnl : n < l.length := (List.getElem?_eq_some_iff.1 hxn).1
  have HXN := Lib.hid hxn
  have HY := Lib.hid hy
  have HY1 := Lib.hid hy1
  have HY2 := Lib.hid hy2
  have hxs := hG.short x (List.mem_of_getElem? hxn)
  clear hxn hy hy1 hy2
  have hlr := hG.same.len
  have HB := hG.size
  have HP := Lib.hid (pre_start hG.own.nb_lt room (.slice A rl.length c) #[.int .i64 4, .int .i64 dst, .int .i64 n, .slice C raw.length cd])
  have HB1 : Hid (Below w.heap.size w (((w.alloc (.cells #[.int .i64 room, .slice A rl.length c] 28)).alloc (.cells #[.int .i64 4, .int .i64 dst, .int .i64 n, .slice C raw.length cd] 44)).alloc (.cells #[.int .i64 0, .slice none 0 0] 28))) :=
    (((Below.refl _ _).alloc (Nat.le_refl _) _).alloc (by simp) _).alloc (by simp; omega) _
  have HG1 := Lib.hid (hG.below HB1.out)
  have HX1 := Lib.hid (hx.below HB1.out)
  have HLR := Lib.hid hlr
  have HOL : Hid (∀ x ∈ l, ∀ k, x.v.ownBlock = some k → k < w.heap.size) := fun x hx k e => ((hG.own.net.msg x hx).lt k e).2
  have HNB := Lib.hid hG.own.nb_lt
  clear hG hx hlr
  go_enter Try.func22, Try.ntmps22
  go_wp2_with fail
  obtain ⟨W1, hW1⟩ : ∃ W1, W1 = ((w.alloc (.cells #[.int .i64 room, .slice A rl.length c] 28)).alloc (.cells #[.int .i64 4, .int .i64 dst, .int .i64 n, .slice C raw.length cd] 44)).alloc (.cells #[.int .i64 0, .slice none 0 0] 28) := ⟨_, rfl⟩
  rw [← hW1] at HP HB1 HG1 HX1 ⊢
  clear hW1
  refine (double W1 g v room l HG1.out.own.net n x HXN.out _hl (by omega)).mono ?_
  rintro e W2 hse
  obtain ⟨v2, l2, rfl, hO2, hS2, hsh2, hle2, hln2, hk2, hf2, hnew2⟩ := sent_any (x := y) HG1.out.own HG1.out.size hse HG1.out.same HG1.out.short (by omega) HG1.out.le HY1.out HY2.out
  have HP2 := Lib.hid (HP.out.next hk2 (fun k h => .inl h))
  have HR2 := Lib.hid (HG1.out.rf.net HG1.out.own hk2)
  have HO2 := Lib.hid hO2
  have HS2 := Lib.hid hS2
  have HSH2 := Lib.hid hsh2
  have HF2 : Hid (∀ k, Nb g v2 k → Nb g v k ∨ w.heap.size ≤ k) := fun k h => (hf2 k h).imp id (fun h => Nat.le_trans HB1.out.size h)
  have HZ2 : b ≤ W2.heap.size := Nat.le_trans HG1.out.size hk2.size
  have e40 : W2.cell? ⟨w.heap.size, 0, none⟩ = some (.int .i64 room) := (HP2.out.b4.cell 0).trans rfl
  have e41 : W2.cell? ⟨w.heap.size, 1, none⟩ = some (.slice A rl.length c) := (HP2.out.b4.cell 1).trans rfl
  have e52 : W2.cell? ⟨w.heap.size + 1, 2, none⟩ = some (.int .i64 n) := (HP2.out.b5.cell 2).trans rfl
  obtain ⟨rl2, hrl2⟩ : ∃ r, r = put room rl y := ⟨_, rfl⟩
  obtain ⟨z, hz⟩ : ∃ z, z = code room rl := ⟨_, rfl⟩
  have HD := Lib.hid (ref_double W2 room A c n y HY.out HR2.out (by have := HLR.out; omega) HZ2)
  rw [← hrl2] at HS2 HD
  rw [← hz] at HD ⊢
  clear hse hO2 hS2 hsh2 hk2 hf2 hnew2 HX1 hrl2 hz
  go_wp2_with fail
  refine HD.out.mono ?_
  rintro e W3 ⟨D, m, cD, rfl, hb3, hR3⟩
  obtain ⟨A', c', em, _⟩ := hR3.slice
  injection em with em1 em2 em3
  subst em1 em2 em3
  have HP3 := Lib.hid (HP2.out.below hb3)
  have HG3 : Hid (Good b W3 g v2 room l2 (.slice D rl2.length cD) rl2) := ⟨⟨HO2.out.net.below hb3, HO2.out.hg, HO2.out.hv⟩, hR3, HS2.out, HSH2.out, hle2, Nat.le_trans HZ2 hb3.size⟩
  have hlt3 := HP3.out.lt
  clear hb3 hR3 HD e40 e41 e52 HR2 HP2
  go_wp2_with fail
  have HP4 := Lib.hid (HP3.out.below ((Below.refl _ _).alloc (Nat.le_refl _) (.cells #[.int .i64 room, .slice D rl2.length cD] 28)))
  have HG4 := Lib.hid (HG3.out.below ((Below.refl _ _).alloc (Nat.le_refl _) (.cells #[.int .i64 room, .slice D rl2.length cD] 28)))
  have HK4 := Lib.hid (Blk.new W3 28 #[.int .i64 room, .slice D rl2.length cD])
  obtain ⟨W4, hW4⟩ : ∃ W4, W4 = W3.alloc (.cells #[.int .i64 room, .slice D rl2.length cD] 28) := ⟨_, rfl⟩
  rw [← hW4] at HP4 HG4 HK4 ⊢
  clear hW4 HP3 HG3
  have c70 : W4.cell? ⟨w.heap.size + 1 + 1, 0, none⟩ = some (.int .i64 0) := (HP4.out.b7.cell 0).trans rfl
  have c71 : W4.cell? ⟨w.heap.size + 1 + 1, 1, none⟩ = some (.slice none 0 0) := (HP4.out.b7.cell 1).trans rfl
  have f70 := HP4.out.b7.frozen 0
  have f71 := HP4.out.b7.frozen 1
  have hS0 : W4.drew.cell? ⟨W3.heap.size, 0, none⟩ = some (.int .i64 room) ∧ W4.drew.cell? ⟨W3.heap.size, 1, none⟩ = some (.slice D rl2.length cD) := ⟨(HK4.out.cell 0).trans rfl, (HK4.out.cell 1).trans rfl⟩
  have hS2 : ((W4.setCell ⟨w.heap.size + 1 + 1, 0, none⟩ (.int .i64 room)).setCell ⟨w.heap.size + 1 + 1, 1, none⟩ (.slice D rl2.length cD)).drew.cell? ⟨W3.heap.size, 0, none⟩ = some (.int .i64 room) ∧ ((W4.setCell ⟨w.heap.size + 1 + 1, 0, none⟩ (.int .i64 room)).setCell ⟨w.heap.size + 1 + 1, 1, none⟩ (.slice D rl2.length cD)).drew.cell? ⟨W3.heap.size, 1, none⟩ = some (.slice D rl2.length cD) := ⟨box_set (W := W4) hS0.1 (by omega) _ _, box_set (W := W4) hS0.2 (by omega) _ _⟩
  refine wp_region_held_drew (S := fun w' => w'.cell? ⟨W3.heap.size, 0, none⟩ = some (.int .i64 room) ∧ w'.cell? ⟨W3.heap.size, 1, none⟩ = some (.slice D rl2.length cD)) (by kernel_rfl) hS0 (fun hHeld => ?_)
  refine wpAnyH_take (i := 0) (v := ?_) rfl (by kernel_rfl) (by kernel_rfl) (by kernel_rfl) (fun _ _ _ h => h) (Or.inl ⟨by rfl, ?_⟩) hS0 ?_
  rotate_left
  · intro w hSw; obtain ⟨s0, s1⟩ := hSw; first | (go_simp; done) | (go_simp; with_reducible rfl)
  try simp only [List.getElem_toArray, List.getElem_cons_zero, List.getElem_cons_succ, Act.put, List.setIfInBounds_toArray, List.set_cons_zero, List.set_cons_succ]
  refine wpAnyH_take (i := 1) (v := ?_) rfl (by kernel_rfl) (by kernel_rfl) (by kernel_rfl) (fun _ _ _ h => h) (Or.inl ⟨by rfl, ?_⟩) hS0 ?_
  rotate_left
  · intro w hSw; obtain ⟨s0, s1⟩ := hSw; first | (go_simp; done) | (go_simp; with_reducible rfl)
  try simp only [List.getElem_toArray, List.getElem_cons_zero, List.getElem_cons_succ, Act.put, List.setIfInBounds_toArray, List.set_cons_zero, List.set_cons_succ]
  refine wpAnyH_take (i := 2) (v := ?_) rfl (by kernel_rfl) (by kernel_rfl) (by kernel_rfl) (fun _ _ _ h => h) (Or.inl ⟨by rfl, ?_⟩) hS0 ?_
  rotate_left
  · intro w hSw; obtain ⟨s0, s1⟩ := hSw; first | (go_simp; done) | (go_simp; with_reducible rfl)
  try simp only [List.getElem_toArray, List.getElem_cons_zero, List.getElem_cons_succ, Act.put, List.setIfInBounds_toArray, List.set_cons_zero, List.set_cons_succ]
  refine wpAnyH_take (i := 3) (v := ?_) rfl (by kernel_rfl) (by kernel_rfl) (by kernel_rfl) (fun _ _ _ h => h) (Or.inl ⟨by rfl, ?_⟩) hS0 ?_
  rotate_left
  · intro w hSw; obtain ⟨s0, s1⟩ := hSw; first | (go_simp; done) | (go_simp; with_reducible rfl)
  try simp only [List.getElem_toArray, List.getElem_cons_zero, List.getElem_cons_succ, Act.put, List.setIfInBounds_toArray, List.set_cons_zero, List.set_cons_succ]
  refine wpAnyH_take (i := 4) (v := ?_) rfl (by kernel_rfl) (by kernel_rfl) (by kernel_rfl) (fun _ _ _ h => h) (Or.inl ⟨by rfl, ?_⟩) hS0 ?_
  rotate_left
  · intro w hSw; obtain ⟨s0, s1⟩ := hSw; first | (go_simp; done) | (go_simp; with_reducible rfl)
  try simp only [List.getElem_toArray, List.getElem_cons_zero, List.getElem_cons_succ, Act.put, List.setIfInBounds_toArray, List.set_cons_zero, List.set_cons_succ]
  refine wpAnyH_take (i := 5) (v := ?_) rfl (by kernel_rfl) (by kernel_rfl) (by kernel_rfl) (fun _ _ _ h => h) (Or.inl ⟨by rfl, ?_⟩) hS0 ?_
  rotate_left
  · intro w hSw; obtain ⟨s0, s1⟩ := hSw; first | (go_simp; done) | (go_simp; with_reducible rfl)
  try simp only [List.getElem_toArray, List.getElem_cons_zero, List.getElem_cons_succ, Act.put, List.setIfInBounds_toArray, List.set_cons_zero, List.set_cons_succ]
  refine wpAnyH_ready (rs := [6]) (by kernel_rfl) (by simp) ?_
  refine AllReadyH.cons rfl (fun K hK => ?_) AllReadyH.nil
  try simp only [List.getElem_toArray, List.getElem_cons_zero, List.getElem_cons_succ]
  go_simp
  refine hK.out _ _ hS2 (fun hHeld => ?_)
  clear hK K
  try simp only [List.getElem_toArray, List.getElem_cons_zero, List.getElem_cons_succ, Act.put, List.setIfInBounds_toArray, List.set_cons_zero, List.set_cons_succ]
  refine wpAnyH_take (i := 7) (v := ?_) rfl (by kernel_rfl) (by kernel_rfl) (by kernel_rfl) (fun _ _ _ h => h) (Or.inl ⟨by rfl, ?_⟩) hS2 ?_
  rotate_left
  · intro w hSw; obtain ⟨s0, s1⟩ := hSw; first | (go_simp; done) | (go_simp; with_reducible rfl)
  try simp only [List.getElem_toArray, List.getElem_cons_zero, List.getElem_cons_succ, Act.put, List.setIfInBounds_toArray, List.set_cons_zero, List.set_cons_succ]
  refine wpAnyH_done (by kernel_rfl) ?_ _
  (go_wp2_with fail; exact bodyPost_ret (v := .tuple #[.pointer (some ⟨g, 0, none⟩), .agg #[.int .i64 room, .slice D rl2.length cD], .bool true]) (by simp [results, Try.results22, go_sem, c70, c71]) rfl (stepped_drew (Good.finish HG4.out HP4.out.b7 HB hln2 HP4.out.kp HF2.out rfl _ _)))

set_option linter.unusedSimpArgs false in
set_option maxRecDepth 100000 in
set_option maxHeartbeats 2000000 in
theorem step_double_no {b : Nat} (w : World) (g : Nat) (v : Value) (room dst at_ : Int) (l rl : List Ms) (A C : Option Addr) (c cd : Nat) (raw : List Int) (hG : Good b w g v room l (.slice A rl.length c) rl) (hx : Ms.Safe b w ⟨dst, .slice C raw.length cd, raw⟩)
    (_hraw : raw.length ≤ 140737488351232) (_hl : l.length < 7000000000000) (hr : at_ < 0 ∨ (l.length : Int) ≤ at_) :
    Calls Try.prog 22 #[.pointer (some ⟨g, 0, none⟩), .agg #[.int .i64 room, .slice A rl.length c], .agg #[.int .i64 4, .int .i64 dst, .int .i64 at_, .slice C raw.length cd]] w (Stepped b w g v room l) := by
  have HRA := Lib.hid hr
  clear hr
  have hlr := hG.same.len
  have HB := hG.size
  have HP := Lib.hid (pre_start hG.own.nb_lt room (.slice A rl.length c) #[.int .i64 4, .int .i64 dst, .int .i64 at_, .slice C raw.length cd])
  have HB1 : Hid (Below w.heap.size w (((w.alloc (.cells #[.int .i64 room, .slice A rl.length c] 28)).alloc (.cells #[.int .i64 4, .int .i64 dst, .int .i64 at_, .slice C raw.length cd] 44)).alloc (.cells #[.int .i64 0, .slice none 0 0] 28))) :=
    (((Below.refl _ _).alloc (Nat.le_refl _) _).alloc (by simp) _).alloc (by simp; omega) _
  have HG1 := Lib.hid (hG.below HB1.out)
  have HX1 := Lib.hid (hx.below HB1.out)
  have HLR := Lib.hid hlr
  have HOL : Hid (∀ x ∈ l, ∀ k, x.v.ownBlock = some k → k < w.heap.size) := fun x hx k e => ((hG.own.net.msg x hx).lt k e).2
  have HNB := Lib.hid hG.own.nb_lt
  clear hG hx hlr
  go_enter Try.func22, Try.ntmps22
  go_wp2_with fail
  obtain ⟨W1, hW1⟩ : ∃ W1, W1 = ((w.alloc (.cells #[.int .i64 room, .slice A rl.length c] 28)).alloc (.cells #[.int .i64 4, .int .i64 dst, .int .i64 at_, .slice C raw.length cd] 44)).alloc (.cells #[.int .i64 0, .slice none 0 0] 28) := ⟨_, rfl⟩
  rw [← hW1] at HP HB1 HG1 HX1 ⊢
  clear hW1
  refine (double_no W1 g v room l HG1.out.own.net at_ HRA.out).mono ?_
  rintro e W2 ⟨rfl, rfl⟩
  have e40 : W2.cell? ⟨w.heap.size, 0, none⟩ = some (.int .i64 room) := (HP.out.b4.cell 0).trans rfl
  have e41 : W2.cell? ⟨w.heap.size, 1, none⟩ = some (.slice A rl.length c) := (HP.out.b4.cell 1).trans rfl
  have e52 : W2.cell? ⟨w.heap.size + 1, 2, none⟩ = some (.int .i64 at_) := (HP.out.b5.cell 2).trans rfl
  go_wp2_with fail
  refine (ref_double_no W2 room A c rl.length at_ (by have := HRA.out; have := HLR.out; omega)).mono ?_
  rintro e W3 ⟨rfl, hb3⟩
  have HP3 := Lib.hid (HP.out.below hb3)
  have HG3 := Lib.hid (HG1.out.below hb3)
  have hlt3 := HP3.out.lt
  clear hb3 e40 e41 e52 HP HG1
  go_wp2_with fail
  have HP4 := Lib.hid (HP3.out.below ((Below.refl _ _).alloc (Nat.le_refl _) (.cells #[.int .i64 room, .slice A rl.length c] 28)))
  have HG4 := Lib.hid (HG3.out.below ((Below.refl _ _).alloc (Nat.le_refl _) (.cells #[.int .i64 room, .slice A rl.length c] 28)))
  have HK4 := Lib.hid (Blk.new W3 28 #[.int .i64 room, .slice A rl.length c])
  obtain ⟨W4, hW4⟩ : ∃ W4, W4 = W3.alloc (.cells #[.int .i64 room, .slice A rl.length c] 28) := ⟨_, rfl⟩
  rw [← hW4] at HP4 HG4 HK4 ⊢
  clear hW4 HP3 HG3
  have c70 : W4.cell? ⟨w.heap.size + 1 + 1, 0, none⟩ = some (.int .i64 0) := (HP4.out.b7.cell 0).trans rfl
  have c71 : W4.cell? ⟨w.heap.size + 1 + 1, 1, none⟩ = some (.slice none 0 0) := (HP4.out.b7.cell 1).trans rfl
  have f70 := HP4.out.b7.frozen 0
  have f71 := HP4.out.b7.frozen 1
  have hS0 : W4.drew.cell? ⟨W3.heap.size, 0, none⟩ = some (.int .i64 room) ∧ W4.drew.cell? ⟨W3.heap.size, 1, none⟩ = some (.slice A rl.length c) := ⟨(HK4.out.cell 0).trans rfl, (HK4.out.cell 1).trans rfl⟩
  have hS2 : ((W4.setCell ⟨w.heap.size + 1 + 1, 0, none⟩ (.int .i64 room)).setCell ⟨w.heap.size + 1 + 1, 1, none⟩ (.slice A rl.length c)).drew.cell? ⟨W3.heap.size, 0, none⟩ = some (.int .i64 room) ∧ ((W4.setCell ⟨w.heap.size + 1 + 1, 0, none⟩ (.int .i64 room)).setCell ⟨w.heap.size + 1 + 1, 1, none⟩ (.slice A rl.length c)).drew.cell? ⟨W3.heap.size, 1, none⟩ = some (.slice A rl.length c) := ⟨box_set (W := W4) hS0.1 (by omega) _ _, box_set (W := W4) hS0.2 (by omega) _ _⟩
  refine wp_region_held_drew (S := fun w' => w'.cell? ⟨W3.heap.size, 0, none⟩ = some (.int .i64 room) ∧ w'.cell? ⟨W3.heap.size, 1, none⟩ = some (.slice A rl.length c)) (by kernel_rfl) hS0 (fun hHeld => ?_)
  refine wpAnyH_take (i := 0) (v := ?_) rfl (by kernel_rfl) (by kernel_rfl) (by kernel_rfl) (fun _ _ _ h => h) (Or.inl ⟨by rfl, ?_⟩) hS0 ?_
  rotate_left
  · intro w hSw; obtain ⟨s0, s1⟩ := hSw; first | (go_simp; done) | (go_simp; with_reducible rfl)
  try simp only [List.getElem_toArray, List.getElem_cons_zero, List.getElem_cons_succ, Act.put, List.setIfInBounds_toArray, List.set_cons_zero, List.set_cons_succ]
  refine wpAnyH_take (i := 1) (v := ?_) rfl (by kernel_rfl) (by kernel_rfl) (by kernel_rfl) (fun _ _ _ h => h) (Or.inl ⟨by rfl, ?_⟩) hS0 ?_
  rotate_left
  · intro w hSw; obtain ⟨s0, s1⟩ := hSw; first | (go_simp; done) | (go_simp; with_reducible rfl)
  try simp only [List.getElem_toArray, List.getElem_cons_zero, List.getElem_cons_succ, Act.put, List.setIfInBounds_toArray, List.set_cons_zero, List.set_cons_succ]
  refine wpAnyH_take (i := 2) (v := ?_) rfl (by kernel_rfl) (by kernel_rfl) (by kernel_rfl) (fun _ _ _ h => h) (Or.inl ⟨by rfl, ?_⟩) hS0 ?_
  rotate_left
  · intro w hSw; obtain ⟨s0, s1⟩ := hSw; first | (go_simp; done) | (go_simp; with_reducible rfl)
  try simp only [List.getElem_toArray, List.getElem_cons_zero, List.getElem_cons_succ, Act.put, List.setIfInBounds_toArray, List.set_cons_zero, List.set_cons_succ]
  refine wpAnyH_take (i := 3) (v := ?_) rfl (by kernel_rfl) (by kernel_rfl) (by kernel_rfl) (fun _ _ _ h => h) (Or.inl ⟨by rfl, ?_⟩) hS0 ?_
  rotate_left
  · intro w hSw; obtain ⟨s0, s1⟩ := hSw; first | (go_simp; done) | (go_simp; with_reducible rfl)
  try simp only [List.getElem_toArray, List.getElem_cons_zero, List.getElem_cons_succ, Act.put, List.setIfInBounds_toArray, List.set_cons_zero, List.set_cons_succ]
  refine wpAnyH_take (i := 4) (v := ?_) rfl (by kernel_rfl) (by kernel_rfl) (by kernel_rfl) (fun _ _ _ h => h) (Or.inl ⟨by rfl, ?_⟩) hS0 ?_
  rotate_left
  · intro w hSw; obtain ⟨s0, s1⟩ := hSw; first | (go_simp; done) | (go_simp; with_reducible rfl)
  try simp only [List.getElem_toArray, List.getElem_cons_zero, List.getElem_cons_succ, Act.put, List.setIfInBounds_toArray, List.set_cons_zero, List.set_cons_succ]
  refine wpAnyH_take (i := 5) (v := ?_) rfl (by kernel_rfl) (by kernel_rfl) (by kernel_rfl) (fun _ _ _ h => h) (Or.inl ⟨by rfl, ?_⟩) hS0 ?_
  rotate_left
  · intro w hSw; obtain ⟨s0, s1⟩ := hSw; first | (go_simp; done) | (go_simp; with_reducible rfl)
  try simp only [List.getElem_toArray, List.getElem_cons_zero, List.getElem_cons_succ, Act.put, List.setIfInBounds_toArray, List.set_cons_zero, List.set_cons_succ]
  refine wpAnyH_ready (rs := [6]) (by kernel_rfl) (by simp) ?_
  refine AllReadyH.cons rfl (fun K hK => ?_) AllReadyH.nil
  try simp only [List.getElem_toArray, List.getElem_cons_zero, List.getElem_cons_succ]
  go_simp
  refine hK.out _ _ hS2 (fun hHeld => ?_)
  clear hK K
  try simp only [List.getElem_toArray, List.getElem_cons_zero, List.getElem_cons_succ, Act.put, List.setIfInBounds_toArray, List.set_cons_zero, List.set_cons_succ]
  refine wpAnyH_take (i := 7) (v := ?_) rfl (by kernel_rfl) (by kernel_rfl) (by kernel_rfl) (fun _ _ _ h => h) (Or.inl ⟨by rfl, ?_⟩) hS2 ?_
  rotate_left
  · intro w hSw; obtain ⟨s0, s1⟩ := hSw; first | (go_simp; done) | (go_simp; with_reducible rfl)
  try simp only [List.getElem_toArray, List.getElem_cons_zero, List.getElem_cons_succ, Act.put, List.setIfInBounds_toArray, List.set_cons_zero, List.set_cons_succ]
  refine wpAnyH_done (by kernel_rfl) ?_ _
  (go_wp2_with fail; exact bodyPost_ret (v := .tuple #[.pointer (some ⟨g, 0, none⟩), .agg #[.int .i64 room, .slice A rl.length c], .bool true]) (by simp [results, Try.results22, go_sem, c70, c71]) rfl (stepped_drew (Good.finish HG4.out HP4.out.b7 HB (by omega) HP4.out.kp (fun k h => .inl h) rfl _ _)))


set_option linter.unusedSimpArgs false in
set_option maxRecDepth 100000 in
set_option maxHeartbeats 2000000 in
theorem step_send {b : Nat} (w : World) (g : Nat) (v : Value) (room dst at_ : Int) (l rl : List Ms) (A C : Option Addr) (c cd : Nat) (raw : List Int) (hG : Good b w g v room l (.slice A rl.length c) rl) (hx : Ms.Safe b w ⟨dst, .slice C raw.length cd, raw⟩)
    (_hraw : raw.length ≤ 140737488351232) (_hl : l.length < 7000000000000) :
    Calls Try.prog 22 #[.pointer (some ⟨g, 0, none⟩), .agg #[.int .i64 room, .slice A rl.length c], .agg #[.int .i64 0, .int .i64 dst, .int .i64 at_, .slice C raw.length cd]] w (Stepped b w g v room l) := by
  have hlr := hG.same.len
  have HB := hG.size
  have HP := Lib.hid (pre_start hG.own.nb_lt room (.slice A rl.length c) #[.int .i64 0, .int .i64 dst, .int .i64 at_, .slice C raw.length cd])
  have HB1 : Hid (Below w.heap.size w (((w.alloc (.cells #[.int .i64 room, .slice A rl.length c] 28)).alloc (.cells #[.int .i64 0, .int .i64 dst, .int .i64 at_, .slice C raw.length cd] 44)).alloc (.cells #[.int .i64 0, .slice none 0 0] 28))) :=
    (((Below.refl _ _).alloc (Nat.le_refl _) _).alloc (by simp) _).alloc (by simp; omega) _
  have HG1 := Lib.hid (hG.below HB1.out)
  have HX1 := Lib.hid (hx.below HB1.out)
  have HLR := Lib.hid hlr
  have HOL : Hid (∀ x ∈ l, ∀ k, x.v.ownBlock = some k → k < w.heap.size) := fun x hx k e => ((hG.own.net.msg x hx).lt k e).2
  have HNB := Lib.hid hG.own.nb_lt
  have HGW := Lib.hid hG
  have HXW := Lib.hid hx
  clear hG hx hlr
  obtain ⟨i0, hi, hz0, hz1, hz2⟩ := info_parts SlBytes.info
  have HSR : Hid (Sl (((w.alloc (.cells #[.int .i64 room, .slice A rl.length c] 28)).alloc (.cells #[.int .i64 0, .int .i64 dst, .int .i64 at_, .slice C raw.length cd] 44)).alloc (.cells #[.int .i64 0, .slice none 0 0] 28)) 1 C raw.length (bcs raw)) := by
    obtain ⟨A', c', e, h, _⟩ := HX1.out.reads
    injection e with e1 _ _
    subst e1
    exact h
  go_enter Try.func22, Try.ntmps22
  go_wp2_with (at_builtin; go_loud (refine wpList_append_sl _ rfl (.const (.slice none 0 0)) (.tmp 34) 35 rfl (w.heap.size + 1 + 1 + 1) 5 i0 _ 1 1 Try.underlying35 hi hz0 hz1 hz2 rfl (by decide) (.slice none 0 0) 0 [] rfl (World.ownsRow_nil _ _ _ _) C raw.length cd (bcs raw) rfl HSR.out (bcs_one _) (by unfold maxLen; omega) (by omega) (by simp) ?_; intro v9 W2 hown hgrow hat; simp only [Nat.zero_add, List.nil_append] at hown; have HOW := Lib.hid hown; have hb2 := grown_below hgrow (fun k e => by cases e); have HB2 := Lib.hid hb2; have HP2 := Lib.hid (HP.out.below hb2); obtain ⟨U, cu, rfl, _, _, hnil, hsl, _⟩ := Sl.of_own hown; have HU := Lib.hid hsl; have HUN := Lib.hid hnil; have HG2 := Lib.hid (HG1.out.below hb2); have HX2 := Lib.hid (HX1.out.below hb2); have e51 : W2.cell? ⟨w.heap.size + 1, 1, none⟩ = some (.int .i64 dst) := (HP2.out.b5.cell 1).trans rfl; have HZ2 := hb2.size; clear hown hgrow hat hb2 hsl hnil HSR))
  refine (send W2 g v room l HG2.out.own.net _hl dst U cu raw HU.out HUN.out (by omega)).mono ?_
  rintro e W3 hse
  obtain ⟨v2, l2, rfl, hO2, hS2, hsh2, hle2, hln2, hk2, hf2, hnew2⟩ := sent_any (x := ⟨dst, .slice C raw.length cd, raw⟩) HG2.out.own HG2.out.size hse HG2.out.same HG2.out.short (by omega) HG2.out.le rfl rfl
  have HP3 := Lib.hid (HP2.out.next hk2 (fun k h => .inl h))
  have HR3 := Lib.hid (HG2.out.rf.net HG2.out.own hk2)
  have HX3 := Lib.hid (HX2.out.net HG2.out.own hk2)
  have HO3 := Lib.hid hO2
  have HS3 := Lib.hid hS2
  have HSH3 := Lib.hid hsh2
  have HNEW := Lib.hid hnew2
  have hw2 : w.heap.size + 1 + 1 < W2.heap.size := HP2.out.lt
  have HF3 : Hid (∀ k, Nb g v2 k → Nb g v k ∨ w.heap.size ≤ k) := fun k h => (hf2 k h).imp id (fun h => by omega)
  have hnu : ∀ k, U.map (·.block) = some k → ¬ Nb g v k := by
    intro k e h
    have h1 := HNB.out k h
    have h2 := (HOW.out.lt k (by cases U with | none => cases e | some a => exact e)).1
    omega
  have HOW3 := Lib.hid (own_kp HOW.out hk2 (fun k e => hnu k (by cases U with | none => cases e | some a => exact e)))
  have HBY := Lib.hid (Byt.of_own HOW3.out)
  have HLU : Hid (∀ k, U.map (·.block) = some k → k < W2.heap.size) := fun k e => (HOW.out.lt k (by cases U with | none => cases e | some a => exact e)).2
  have hz3 := hk2.size
  have HZ3 : b ≤ W3.heap.size := Nat.le_trans HG2.out.size hz3
  have HKP := Lib.hid hk2
  obtain ⟨rl2, hrl2⟩ : ∃ r, r = put room rl ⟨dst, .slice C raw.length cd, raw⟩ := ⟨_, rfl⟩
  obtain ⟨z, hz⟩ : ∃ z, z = code room rl := ⟨_, rfl⟩
  have HRS : Hid (∀ W, Rf b W (.slice A rl.length c) rl → Ms.Safe b W ⟨dst, .slice C raw.length cd, raw⟩ → b ≤ W.heap.size → Calls Try.prog 30 #[.agg #[.int .i64 room, .slice A rl.length c], .int .i64 dst, .slice C raw.length cd] W (RSent b W room rl2 z)) := by
    rw [hrl2, hz]
    exact fun W h1 h2 h3 => ref_send W room A c ⟨dst, .slice C raw.length cd, raw⟩ h1 h2 (by have := HLR.out; omega) h3
  rw [← hrl2] at HS3
  rw [← hz]
  clear hse hO2 hS2 hsh2 hk2 hf2 hnew2 hnu hrl2 hz e51 HX1 HX2 HP HP2 HG1
  go_wp2_with fail
  go_loopw [11, 43] (fun _ vv wq => ∃ j : Nat, vv = .int .i64 j ∧ j ≤ raw.length ∧ Hid (Kp (fun r => U.map (·.block) = some r) W3 wq ∧ ∀ ub, U = some ⟨ub, 0, none⟩ → Byt wq ub raw.length)) (fun _ vv _ => raw.length - (intOf vv).toNat)
  case atStart =>
    refine ⟨0, rfl, Nat.zero_le _, Kp.refl _ _, fun ub e => ?_⟩
    rcases HBY.out with ⟨h, _⟩ | ⟨ub', h, _, _, hb⟩
    · rw [e] at h; cases h
    · rw [e] at h
      injection h with h
      injection h with h _ _
      subst h
      exact hb
  case round =>
    obtain ⟨j, rfl, hj, HL⟩ := hrel
    by_cases hlt : j < raw.length
    · rcases HBY.out with ⟨_, h0⟩ | ⟨ub, rfl, hub1, hub2, _⟩
      · omega
      · have hby := HL.out.2 ub rfl
        obtain ⟨z, hz⟩ := hby.cell hlt
        have hfz := hby.frozen j
        have HBY2 := Lib.hid hby
        clear hby
        go_wp2_with fail
        go_roundw
        case rel =>
          exact ⟨j + 1, by go_num, by omega, HL.out.1.set (p := ⟨ub, j, none⟩) (.inl rfl) _, fun ub' e => by
            injection e with e
            injection e with e _ _
            subst e
            exact HBY2.out.set_ j _⟩
        case measure => simp [intOf]; omega
    · obtain rfl : j = raw.length := by omega
      have hub : ∀ r, U.map (·.block) = some r → w.heap.size + 1 + 1 < r ∧ r < W2.heap.size := by
        intro r e
        have h1 := HLU.out r e
        have h2 := (HOW.out.lt r (by cases U with | none => cases e | some a => exact e)).1
        omega
      have H28 : ∀ t (cs : Array Value) k, Blk W3 k t cs → t ≠ 5 → ¬ (U.map (·.block) = some k) := by
        intro t cs k hB ht e
        exact own_ne HOW3.out hB ht (by cases U with | none => cases e | some a => exact e)
      have HO4 : Hid (Own b wr g v2 room l2) := by
        refine own_of_kp HO3.out HL.out.1 (H28 _ _ _ HO3.out.net.blk (by decide)) ?_ ?_
        · intro k e e2
          exact own_ne2 HOW3.out HO3.out.net.own (by decide) k (by cases U with | none => cases e2 | some a => exact e2) e
        · intro q hq k e e2
          have h1 := hub k e2
          rcases HNEW.out q hq with h | h
          · have h2 := HOL.out q h k e
            omega
          · have h2 := h k e
            omega
      have HP4 := Lib.hid (HP3.out.next HL.out.1 (fun k h => .inr (hub k h).1))
      have HR4 := Lib.hid (HGW.out.rf.net HGW.out.own HP4.out.kp)
      have HX4 := Lib.hid (HXW.out.net HGW.out.own HP4.out.kp)
      have hz4 : b ≤ wr.heap.size := Nat.le_trans HB HP4.out.kp.size
      obtain ⟨W4, hW4⟩ : ∃ W4, W4 = wr := ⟨_, rfl⟩
      rw [← hW4] at HO4 HP4 HR4 HX4 hz4 ⊢
      clear hW4 hub H28 HL HBY HOW3 HP3 HO3 HR3 HX3
      have e40 : W4.cell? ⟨w.heap.size, 0, none⟩ = some (.int .i64 room) := (HP4.out.b4.cell 0).trans rfl
      have e41 : W4.cell? ⟨w.heap.size, 1, none⟩ = some (.slice A rl.length c) := (HP4.out.b4.cell 1).trans rfl
      have e51 : W4.cell? ⟨w.heap.size + 1, 1, none⟩ = some (.int .i64 dst) := (HP4.out.b5.cell 1).trans rfl
      have e53 : W4.cell? ⟨w.heap.size + 1, 3, none⟩ = some (.slice C raw.length cd) := (HP4.out.b5.cell 3).trans rfl
      go_wp2_with fail
      refine (HRS.out W4 HR4.out HX4.out hz4).mono ?_
      rintro e W5 ⟨D, m, cD, rfl, hb5, hR5⟩
      obtain ⟨A', c', em, _⟩ := hR5.slice
      injection em with em1 em2 em3
      subst em1 em2 em3
      have HP5 := Lib.hid (HP4.out.below hb5)
      have HG5 : Hid (Good b W5 g v2 room l2 (.slice D rl2.length cD) rl2) := ⟨⟨HO4.out.net.below hb5, HO4.out.hg, HO4.out.hv⟩, hR5, HS3.out, HSH3.out, hle2, Nat.le_trans hz4 hb5.size⟩
      have hlt5 := HP5.out.lt
      clear hb5 hR5 HRS e40 e41 e51 e53 HO4 HP4 HR4 HX4
      go_wp2_with fail
      have HP6 := Lib.hid (HP5.out.below ((Below.refl _ _).alloc (Nat.le_refl _) (.cells #[.int .i64 room, .slice D rl2.length cD] 28)))
      have HG6 := Lib.hid (HG5.out.below ((Below.refl _ _).alloc (Nat.le_refl _) (.cells #[.int .i64 room, .slice D rl2.length cD] 28)))
      have HK6 := Lib.hid (Blk.new W5 28 #[.int .i64 room, .slice D rl2.length cD])
      obtain ⟨W6, hW6⟩ : ∃ W6, W6 = W5.alloc (.cells #[.int .i64 room, .slice D rl2.length cD] 28) := ⟨_, rfl⟩
      rw [← hW6] at HP6 HG6 HK6 ⊢
      clear hW6 HP5 HG5
      have c70 : W6.cell? ⟨w.heap.size + 1 + 1, 0, none⟩ = some (.int .i64 0) := (HP6.out.b7.cell 0).trans rfl
      have c71 : W6.cell? ⟨w.heap.size + 1 + 1, 1, none⟩ = some (.slice none 0 0) := (HP6.out.b7.cell 1).trans rfl
      have f70 := HP6.out.b7.frozen 0
      have f71 := HP6.out.b7.frozen 1
      have hS0 : W6.drew.cell? ⟨W5.heap.size, 0, none⟩ = some (.int .i64 room) ∧ W6.drew.cell? ⟨W5.heap.size, 1, none⟩ = some (.slice D rl2.length cD) := ⟨(HK6.out.cell 0).trans rfl, (HK6.out.cell 1).trans rfl⟩
      have hS2 : ((W6.setCell ⟨w.heap.size + 1 + 1, 0, none⟩ (.int .i64 room)).setCell ⟨w.heap.size + 1 + 1, 1, none⟩ (.slice D rl2.length cD)).drew.cell? ⟨W5.heap.size, 0, none⟩ = some (.int .i64 room) ∧ ((W6.setCell ⟨w.heap.size + 1 + 1, 0, none⟩ (.int .i64 room)).setCell ⟨w.heap.size + 1 + 1, 1, none⟩ (.slice D rl2.length cD)).drew.cell? ⟨W5.heap.size, 1, none⟩ = some (.slice D rl2.length cD) := ⟨box_set (W := W6) hS0.1 (by omega) _ _, box_set (W := W6) hS0.2 (by omega) _ _⟩
      refine wp_region_held_drew (S := fun w' => w'.cell? ⟨W5.heap.size, 0, none⟩ = some (.int .i64 room) ∧ w'.cell? ⟨W5.heap.size, 1, none⟩ = some (.slice D rl2.length cD)) (by kernel_rfl) hS0 (fun hHeld => ?_)
      refine wpAnyH_take (i := 0) (v := ?_) rfl (by kernel_rfl) (by kernel_rfl) (by kernel_rfl) (fun _ _ _ h => h) (Or.inl ⟨by rfl, ?_⟩) hS0 ?_
      rotate_left
      · intro w hSw; obtain ⟨s0, s1⟩ := hSw; first | (go_simp; done) | (go_simp; with_reducible rfl)
      try simp only [List.getElem_toArray, List.getElem_cons_zero, List.getElem_cons_succ, Act.put, List.setIfInBounds_toArray, List.set_cons_zero, List.set_cons_succ]
      refine wpAnyH_take (i := 1) (v := ?_) rfl (by kernel_rfl) (by kernel_rfl) (by kernel_rfl) (fun _ _ _ h => h) (Or.inl ⟨by rfl, ?_⟩) hS0 ?_
      rotate_left
      · intro w hSw; obtain ⟨s0, s1⟩ := hSw; first | (go_simp; done) | (go_simp; with_reducible rfl)
      try simp only [List.getElem_toArray, List.getElem_cons_zero, List.getElem_cons_succ, Act.put, List.setIfInBounds_toArray, List.set_cons_zero, List.set_cons_succ]
      refine wpAnyH_take (i := 2) (v := ?_) rfl (by kernel_rfl) (by kernel_rfl) (by kernel_rfl) (fun _ _ _ h => h) (Or.inl ⟨by rfl, ?_⟩) hS0 ?_
      rotate_left
      · intro w hSw; obtain ⟨s0, s1⟩ := hSw; first | (go_simp; done) | (go_simp; with_reducible rfl)
      try simp only [List.getElem_toArray, List.getElem_cons_zero, List.getElem_cons_succ, Act.put, List.setIfInBounds_toArray, List.set_cons_zero, List.set_cons_succ]
      refine wpAnyH_take (i := 3) (v := ?_) rfl (by kernel_rfl) (by kernel_rfl) (by kernel_rfl) (fun _ _ _ h => h) (Or.inl ⟨by rfl, ?_⟩) hS0 ?_
      rotate_left
      · intro w hSw; obtain ⟨s0, s1⟩ := hSw; first | (go_simp; done) | (go_simp; with_reducible rfl)
      try simp only [List.getElem_toArray, List.getElem_cons_zero, List.getElem_cons_succ, Act.put, List.setIfInBounds_toArray, List.set_cons_zero, List.set_cons_succ]
      refine wpAnyH_take (i := 4) (v := ?_) rfl (by kernel_rfl) (by kernel_rfl) (by kernel_rfl) (fun _ _ _ h => h) (Or.inl ⟨by rfl, ?_⟩) hS0 ?_
      rotate_left
      · intro w hSw; obtain ⟨s0, s1⟩ := hSw; first | (go_simp; done) | (go_simp; with_reducible rfl)
      try simp only [List.getElem_toArray, List.getElem_cons_zero, List.getElem_cons_succ, Act.put, List.setIfInBounds_toArray, List.set_cons_zero, List.set_cons_succ]
      refine wpAnyH_take (i := 5) (v := ?_) rfl (by kernel_rfl) (by kernel_rfl) (by kernel_rfl) (fun _ _ _ h => h) (Or.inl ⟨by rfl, ?_⟩) hS0 ?_
      rotate_left
      · intro w hSw; obtain ⟨s0, s1⟩ := hSw; first | (go_simp; done) | (go_simp; with_reducible rfl)
      try simp only [List.getElem_toArray, List.getElem_cons_zero, List.getElem_cons_succ, Act.put, List.setIfInBounds_toArray, List.set_cons_zero, List.set_cons_succ]
      refine wpAnyH_ready (rs := [6]) (by kernel_rfl) (by simp) ?_
      refine AllReadyH.cons rfl (fun K hK => ?_) AllReadyH.nil
      try simp only [List.getElem_toArray, List.getElem_cons_zero, List.getElem_cons_succ]
      go_simp
      refine hK.out _ _ hS2 (fun hHeld => ?_)
      clear hK K
      try simp only [List.getElem_toArray, List.getElem_cons_zero, List.getElem_cons_succ, Act.put, List.setIfInBounds_toArray, List.set_cons_zero, List.set_cons_succ]
      refine wpAnyH_take (i := 7) (v := ?_) rfl (by kernel_rfl) (by kernel_rfl) (by kernel_rfl) (fun _ _ _ h => h) (Or.inl ⟨by rfl, ?_⟩) hS2 ?_
      rotate_left
      · intro w hSw; obtain ⟨s0, s1⟩ := hSw; first | (go_simp; done) | (go_simp; with_reducible rfl)
      try simp only [List.getElem_toArray, List.getElem_cons_zero, List.getElem_cons_succ, Act.put, List.setIfInBounds_toArray, List.set_cons_zero, List.set_cons_succ]
      refine wpAnyH_done (by kernel_rfl) ?_ _
      (go_wp2_with fail; exact bodyPost_ret (v := .tuple #[.pointer (some ⟨g, 0, none⟩), .agg #[.int .i64 room, .slice D rl2.length cD], .bool true]) (by simp [results, Try.results22, go_sem, c70, c71]) rfl (stepped_drew (Good.finish HG6.out HP6.out.b7 HB hln2 HP6.out.kp HF3.out rfl _ _)))


end Go.Proofs.Ytogiedephnappaa.Net
