/- Contracts of the reference: New, There, Send, Out. -/
import Derived.Test.YtogiedephnappaaLists
namespace Go.Proofs.Ytogiedephnappaa.Net
open Go.RowKit Go.Proofs.Ytogiedephnappaa.Mem

theorem info37 : (Try.prog.info? 37).map (fun i => (i.zero, i.size, i.bytes)) = some (some (.agg #[.int .i64 0, .slice none 0 0]), 2, 32) := by kernel_rfl

/-- The reference's list: an own row of messages whose bytes read. -/
structure Rf (b : Nat) (w : World) (v : Value) (l : List Ms) : Prop where
  own : w.ownsRow b 37 2 v l.length (l.flatMap Ms.cells)
  safe : ∀ x ∈ l, x.Safe b w

section
variable {b g : Nat} {w w' : World} {v vr : Value} {room : Int} {l rl : List Ms} {S : Nat → Prop}
theorem Rf.nil (b : Nat) (w : World) : Rf b w (.slice none 0 0) [] := ⟨World.ownsRow_nil _ _ _ _, by simp⟩
theorem Rf.below (h : Rf b w vr rl) (hb : Below w.heap.size w w') : Rf b w' vr rl := ⟨own_kp h.own (Kp.of_below hb (fun _ => False)) (fun _ _ e => e), fun x m => (h.safe x m).below hb⟩
theorem Rf.net (h : Rf b w vr rl) (hN : Own b w g v room l) (hk : Kp (Nb g v) w w') : Rf b w' vr rl := by
  refine ⟨own_kp h.own hk ?_, fun x m => (h.safe x m).net hN hk⟩
  rintro k e (rfl | e2)
  · exact own_ne h.own hN.net.blk (by decide) e
  · exact own_ne2 h.own hN.net.own (by decide) k e e2
theorem Rf.slice (h : Rf b w vr rl) : ∃ A c, vr = .slice A rl.length c ∧ rl.length ≤ c ∧ c ≤ maxLen ∧ Sl w 2 A rl.length (rl.flatMap Ms.cells) := by
  obtain ⟨A, c, h1, h2, h3, _, h4, _⟩ := Sl.of_own h.own
  exact ⟨A, c, h1, h2, h3, h4⟩
theorem ms_one (h : ∀ x ∈ rl, x.Reads w) : ∀ u ∈ rl.flatMap Ms.cells, u.oneCell' = true := by
  intro u hu
  obtain ⟨x, hx, hu⟩ := List.mem_flatMap.1 hu
  obtain ⟨A, c, e, _⟩ := h x hx
  simp only [Ms.cells, List.mem_cons, List.not_mem_nil, or_false] at hu
  rcases hu with rfl | rfl
  · rfl
  · rw [e]; rfl
theorem Rf.one (h : Rf b w vr rl) : ∀ u ∈ rl.flatMap Ms.cells, u.oneCell' = true := ms_one fun x hx => (h.safe x hx).reads
end

theorem two_sl (w : World) (u z : Value) (t : TypeId) : Sl (w.alloc (.cells #[u, z] t)) 2 (some ⟨w.heap.size, 0, none⟩) 1 [u, z] := by
  refine ⟨rfl, fun _ => ⟨w.heap.size, 0, rfl, fun j y hy => ?_⟩⟩
  rw [Nat.zero_add, (Blk.new w t _).cell]
  simpa using hy

/-- The reference's net, as a value. -/
def rnet (room : Int) (v : Value) : Value := .agg #[.int .i64 room, v]

theorem ref_new (n : Int) (w : World) : Calls Try.prog 11 #[.int .i64 n] w fun e w' => e = .returned (.agg #[.int .i64 (max n 0), .slice none 0 0]) ∧ Below w.heap.size w w' := by
  by_cases hn : n < 0
  · have e : max n 0 = 0 := by omega
    rw [e]
    go_enter Try.func11, Try.ntmps11
    go_wp2
    exact bodyPost_ret (v := .agg #[.int .i64 0, .slice none 0 0]) (by simp [results, Try.results11, go_sem]) rfl ⟨rfl, ((Below.refl _ _).alloc (Nat.le_refl _) _)⟩
  · have e : max n 0 = n := by omega
    have hn' : decide (n < 0) = false := decide_eq_false hn
    rw [e]
    go_enter Try.func11, Try.ntmps11
    go_wp2
    exact bodyPost_ret (v := .agg #[.int .i64 n, .slice none 0 0]) (by simp [results, Try.results11, go_sem]) rfl ⟨rfl, ((Below.refl _ _).alloc (Nat.le_refl _) _)⟩

section
variable (w : World) (room : Int) (A : Option Addr) (n c : Nat)

theorem ref_there_yes (k : Nat) (hk : k < n) : Calls Try.prog 32 #[.agg #[.int .i64 room, .slice A n c], .int .i64 k] w fun e w' => e = .returned (.bool true) ∧ Below w.heap.size w w' := by
  have hk0 : (0 : Int) ≤ (k : Int) := by omega
  have hk1 : (k : Int) < (n : Int) := by omega
  go_enter Try.func32, Try.ntmps32
  go_wp2
  go_ret
  exact ⟨rfl, (Below.refl _ _).alloc (Nat.le_refl _) _⟩

theorem ref_there_no (i : Int) (hi : i < 0 ∨ (n : Int) ≤ i) : Calls Try.prog 32 #[.agg #[.int .i64 room, .slice A n c], .int .i64 i] w fun e w' => e = .returned (.bool false) ∧ Below w.heap.size w w' := by
  by_cases h0 : i < 0
  · clear hi
    go_enter Try.func32, Try.ntmps32
    go_wp2
    go_ret
    exact ⟨rfl, (Below.refl _ _).alloc (Nat.le_refl _) _⟩
  · have h1 : 0 ≤ i := by omega
    have h2 : decide (i < (n : Int)) = false := decide_eq_false (by omega)
    clear hi h0
    go_enter Try.func32, Try.ntmps32
    go_wp2
    go_ret
    exact ⟨by simp, (Below.refl _ _).alloc (Nat.le_refl _) _⟩

theorem ref_send_full (hr : room ≤ (n : Int)) (dst : Int) (u : Value) : Calls Try.prog 30 #[.agg #[.int .i64 room, .slice A n c], .int .i64 dst, u] w fun e w' =>
    e = .returned (.tuple #[.agg #[.int .i64 room, .slice A n c], .int .i64 30]) ∧ Below w.heap.size w w' := by
  go_enter Try.func30, Try.ntmps30
  go_wp2
  exact bodyPost_ret (v := .tuple #[.agg #[.int .i64 room, .slice A n c], .int .i64 30]) (by simp [results, Try.results30, go_sem]) rfl ⟨rfl, ((Below.refl _ _).alloc (Nat.le_refl _) _).alloc (by simp) _⟩

set_option maxHeartbeats 800000 in
theorem ref_send_ok {b : Nat} {rl : List Ms} (hr : (rl.length : Int) < room) (x : Ms) (hR : Rf b w (.slice A rl.length c) rl) (hx : x.Safe b w) (hl : rl.length < 7000000000000) (hb : b ≤ w.heap.size) :
    Calls Try.prog 30 #[.agg #[.int .i64 room, .slice A rl.length c], .int .i64 x.dst, x.v] w fun e w' =>
      ∃ v', e = .returned (.tuple #[.agg #[.int .i64 room, v'], .int .i64 0]) ∧ Rf b w' v' (rl ++ [x]) ∧ Below w.heap.size w w' := by
  obtain ⟨i0, hi, hz0, hz1, hz2⟩ := info_parts info37
  have HR := Lib.hid hR
  have HX := Lib.hid hx
  obtain ⟨dst, v, raw⟩ := x
  obtain ⟨C, cc, hv, _, _⟩ := hx.reads
  change v = .slice C raw.length cc at hv
  subst hv
  have HSL : Hid (Sl w 2 A rl.length (rl.flatMap Ms.cells)) := by
    obtain ⟨A', c', e, _, _, h⟩ := hR.slice
    injection e with e1 _ _
    subst e1
    exact h
  clear hR hx
  go_enter Try.func30, Try.ntmps30
  go_wp2_with (at_builtin; first
    | (refine wpList_append_sl _ rfl (.tmp 16) (.tmp 18) 26 rfl w.heap.size 37 i0 _ 2 32 Try.underlying26 hi hz0 hz1 hz2 rfl (by decide) (.slice none 0 0) 0 [] rfl (World.ownsRow_nil _ _ _ _) A rl.length c (rl.flatMap Ms.cells) rfl ((HSL.out.alloc _).alloc _) HR.out.one (by unfold maxLen; omega) (by omega) (by simp; omega) ?_
       intro v1 w1 hown1 hgrow1 hat1
       simp only [Nat.zero_add, List.nil_append] at hown1
       obtain ⟨D, cD, rfl, _, _, _, _, _⟩ := Sl.of_own hown1
       have B3 := Lib.hid (((Blk.new w 28 #[.int .i64 room, .slice A rl.length c]).alloc (.cells #[.int .i64 0, .slice none 0 0] 28)).grown hgrow1 (by simp [Value.ownBlock]))
       have B6 : Hid (Blk w1 (w.heap.size + 1) 28 #[.int .i64 0, .slice none 0 0]) := by
         have h6 := Blk.new (w.alloc (.cells #[.int .i64 room, .slice A rl.length c] 28)) 28 #[.int .i64 0, .slice none 0 0]
         have h6s : (w.alloc (.cells #[.int .i64 room, .slice A rl.length c] 28)).heap.size = w.heap.size + 1 := by simp
         rw [h6s] at h6
         exact h6.grown hgrow1 (by simp [Value.ownBlock])
       have HO1 := Lib.hid (fun o => own_kp (S := fun _ => False) hown1 ((Kp.refl (fun _ => False) w1).alloc o) (fun _ _ e => e))
       have HB1 : Hid (Below w.heap.size w w1) := (((Below.refl _ _).alloc (Nat.le_refl _) _).alloc (by simp) _).grown hgrow1 (by simp; omega) (fun k e => by cases e)
       have N3 := Lib.hid (own_ne hown1 B3.out (by decide))
       have N6 := Lib.hid (own_ne hown1 B6.out (by decide))
       have L1 := Lib.hid (fun k e => (hown1.lt k e).1)
       clear hown1 hgrow1 hat1)
    | (refine wpList_append_sl _ rfl (.tmp 20) (.tmp 24) 26 rfl w.heap.size 37 i0 _ 2 32 Try.underlying26 hi hz0 hz1 hz2 rfl (by decide) (.slice D rl.length cD) rl.length (rl.flatMap Ms.cells) rfl (HO1.out _) (some ⟨_, 0, none⟩) 1 1 [.int .i64 dst, .slice C raw.length cc] rfl (two_sl _ _ _ _) (by intro z hz; simp at hz; rcases hz with rfl | rfl <;> rfl) (by unfold maxLen; omega) (by omega) (by have := HB1.out.size; simp; omega) ?_
       intro v2 w2 hown2 hgrow2 hat2
       obtain ⟨D2, cD2, rfl, _, _, _, _, _⟩ := Sl.of_own hown2
       have B3' := Lib.hid ((B3.out.alloc _).grown hgrow2 N3.out)
       have B6' := Lib.hid ((B6.out.alloc _).grown hgrow2 N6.out)
       have HO2 := Lib.hid hown2
       have HB2 : Hid (Below w.heap.size w w2) := (HB1.out.alloc HB1.out.size _).grown hgrow2 (by have := HB1.out.size; simp; omega) (fun k e => L1.out k e)
       have q0 : w2.cell? ⟨w.heap.size, 0, none⟩ = some (.int .i64 room) := (B3'.out.cell 0).trans rfl
       have q1 : w2.cell? ⟨w.heap.size, 1, none⟩ = some (.slice A rl.length c) := (B3'.out.cell 1).trans rfl
       have q2 := B3'.out.frozen 1
       have q3 := B6'.out.frozen 0
       have q4 := B6'.out.frozen 1
       have q5 : w2.cell? ⟨w.heap.size + 1, 0, none⟩ = some (.int .i64 0) := (B6'.out.cell 0).trans rfl
       have q6 : w2.cell? ⟨w.heap.size + 1, 1, none⟩ = some (.slice none 0 0) := (B6'.out.cell 1).trans rfl
       clear hown2 hgrow2 hat2 B3 B6 HO1 HB1))
  have HF : Below w.heap.size w (((w2.setCell ⟨w.heap.size, 1, none⟩ (.slice D2 (rl.length + 1) cD2)).setCell ⟨w.heap.size + 1, 0, none⟩ (.int .i64 room)).setCell ⟨w.heap.size + 1, 1, none⟩ (.slice D2 (rl.length + 1) cD2)) :=
    ((HB2.out.setCell (by simp) _).setCell (by simp) _).setCell (by simp) _
  have n1 := own_ne HO2.out B3'.out (by decide)
  have n2 := own_ne HO2.out B6'.out (by decide)
  refine bodyPost_ret (v := .tuple #[.agg #[.int .i64 room, .slice D2 (rl.length + 1) cD2], .int .i64 0]) (by simp [results, Try.results30, go_sem, q5, q6]) rfl ⟨_, rfl, ⟨?_, fun y hy => ?_⟩, HF⟩
  · have := own_base (own_set (own_set (own_set HO2.out (p := ⟨w.heap.size, 1, none⟩) n1 (.slice D2 (rl.length + 1) cD2)) (p := ⟨w.heap.size + 1, 0, none⟩) n2 (.int .i64 room)) (p := ⟨w.heap.size + 1, 1, none⟩) n2 (.slice D2 (rl.length + 1) cD2)) hb
    simpa [List.flatMap_append, Ms.cells] using this
  · rcases List.mem_append.1 hy with hy | hy
    · exact (HR.out.safe y hy).below HF
    · obtain rfl := List.mem_singleton.1 hy
      exact HX.out.below HF
end

end Go.Proofs.Ytogiedephnappaa.Net
