/- The walk of dockyardlaw03.NetUndone; a call of a script as an argument by value, opened. -/
import Derived.Test.YtogiedephnappaaAll
namespace Go.Proofs.Ytogiedephnappaa.Net
open Go.RowKit Go.ChangeShapes Go.WideShapes Go.Deep Go.Proofs.Ytogiedephnappaa.Mem Go.Proofs.Ytogiedephnappaa.Open

theorem open_op_arg {H : Type} {enc : TypeId × Value → H} {W : World} {base : Nat} {spare : Nat → Bool} {held : Bool} {r : Reach} {b0 : Nat} {v : Value} {d : DataW H} {p : List MemPlace} (hv : Value.okWide Try.prog W r b0 44 v)
    (h : DataW.Trod enc Try.prog W base spare held 44 v d p) (hsz : (d.weights Try.prog 44).all (· ≤ reachBytes) = true) :
    ∃ c : Cl, v = .agg #[.int .i64 c.kind, .int .i64 c.dst, .int .i64 c.at_, c.v] ∧ c.Fine W := by
  obtain ⟨cs, rfl, hcs⟩ := okWide_struct Try.underlying44 hv
  obtain ⟨l⟩ := cs
  have k44 : Try.prog.cellsOf 44 = 4 := by kernel_rfl
  obtain ⟨fuel, hf⟩ := h
  obtain ⟨c, h1, h2⟩ := open_op (hcs.trans k44) hf hsz
  exact ⟨c, by have h3 : l = c.cells := h2; rw [h3]; rfl, h1⟩

/-- What is sent last and dropped is as if it had never been. -/
theorem undone_same {l2 rl : List Ms} {room : Int} {x : Ms} (h : Same l2 (put room rl x)) (hp : (rl.length : Int) < room) : l2.length = rl.length + 1 ∧ Same (l2.take rl.length ++ l2.drop (rl.length + 1)) rl := by
  unfold put at h
  rw [if_pos hp] at h
  have hl := h.len
  simp at hl
  refine ⟨hl, ?_⟩
  have h2 := h.out rl.length
  have e : (rl ++ [x]).take rl.length ++ (rl ++ [x]).drop (rl.length + 1) = rl := by
    rw [List.take_left, List.drop_eq_nil_of_le (by simp), List.append_nil]
  rw [e] at h2
  exact h2

theorem Script.below {w w' : World} {A : Option Addr} {ops : List Cl} (h : Script w A ops) (hb : Below w.heap.size w w') : Script w' A ops :=
  ⟨h.sl.below hb, fun c hc => by
    obtain ⟨h1, h2, h3, h4, h5, h6⟩ := h.fine c hc
    exact ⟨h1.below hb, h2, h3, h4, h5, fun k e h0 => Nat.lt_of_lt_of_le (h6 k e h0) hb.size⟩, h.len⟩

/-- Behind the last call: it told no (the lists agree), or it laid one in. -/
structure Und (b : Nat) (wb wx : World) (g : Nat) (room : Int) (A : Option Addr) (c : Nat) (rl : List Ms) (t9 : Nat) (v : Value) (l : List Ms) (z : Int) : Prop where
  own : Own b wx g v room l
  rf : Rf b wx (.slice A rl.length c) rl
  short : ∀ x ∈ l, x.raw.length ≤ 140737488351232
  len : l.length < 7000000000000
  below : Below b wb wx
  size : b ≤ wx.heap.size
  b9 : Blk wx t9 28 #[.int .i64 room, .slice A rl.length c]
  either : ((z = 30 ∨ z = 31) ∧ Same l rl) ∨ (z = 0 ∧ l.length = rl.length + 1 ∧ Same (l.take rl.length ++ l.drop (rl.length + 1)) rl)

def UndEx (b : Nat) (wb wx : World) (g : Nat) (room : Int) (A : Option Addr) (c : Nat) (rl : List Ms) (t9 : Nat) (z : Int) : Prop := ∃ v l, Und b wb wx g room A c rl t9 v l z

theorem und_sent {b g : Nat} {wb w3 wx w' : World} {v : Value} {room : Int} {l rl : List Ms} {A : Option Addr} {c t9 : Nat} {dst : Int} {raw : List Int} {e : Ending} {x : Ms} (hG : Good b w3 g v room l (.slice A rl.length c) rl) (hb : Below w3.heap.size w3 wx) (hB : Blk wx t9 28 #[.int .i64 room, .slice A rl.length c])
    (hbel : Below b wb wx) (hs : SendEnd wx g v room l dst raw e w') (hraw : raw.length ≤ 140737488351232) (h1 : x.dst = dst) (h2 : x.raw = raw) (hl : l.length < 6000000000000) :
    ∃ z, e = .returned (.int .i64 z) ∧ UndEx b wb w' g room A c rl t9 z := by
  have hGx := hG.below hb
  obtain ⟨v2, l2, rfl, hO2, hS2, hsh2, hle2, hln2, hk2, hf2, _⟩ := sent_any (x := x) hGx.own hGx.size hs hGx.same hGx.short hraw hGx.le h1 h2
  refine ⟨_, rfl, v2, l2, hO2, hGx.rf.net hGx.own hk2, hsh2, by omega, hk2.out hbel hGx.own.nb hGx.size, Nat.le_trans hGx.size hk2.size, hGx.own.blk hB hk2 (by decide) (by decide), ?_⟩
  by_cases hp : (rl.length : Int) < room
  · obtain ⟨h3, h4⟩ := undone_same hS2 hp
    exact .inr ⟨by unfold code; rw [if_pos hp], h3, h4⟩
  · refine .inl ⟨.inl (by unfold code; rw [if_neg hp]), ?_⟩
    unfold put at hS2
    rw [if_neg hp] at hS2
    exact hS2

set_option maxRecDepth 100000 in
set_option maxHeartbeats 1600000 in
theorem undone_walk (room : Int) (A : Option Addr) (cap : Nat) (ops : List Cl) (o : Cl) (w : World) (hS : Script w A ops) (hF : o.Fine w) :
    Calls Try.prog 4 #[.int .i64 room, .slice A ops.length cap, .agg #[.int .i64 o.kind, .int .i64 o.dst, .int .i64 o.at_, o.v]] w fun e w' => e = .returned (.bool true) ∧ Below w.heap.size w w' := by
  obtain ⟨kind, dst, at_, cv, raw⟩ := o
  obtain ⟨C, cd, hv, hrs, hnil⟩ := hF.1
  change cv = .slice C raw.length cd at hv
  subst hv
  change Sl w 1 C raw.length (bcs raw) at hrs
  change C = none → raw.length = 0 ∧ cd = 0 at hnil
  have hraw : raw.length ≤ 140737488351232 := hF.2.1
  have HS := Lib.hid hS
  have HC := Lib.hid hrs
  have HCN := Lib.hid hnil
  have HLN := hS.len
  have HBX := Lib.hid (Blk.new w 44 #[.int .i64 kind, .int .i64 dst, .int .i64 at_, .slice C raw.length cd])
  have HB0 := Lib.hid ((Below.refl w.heap.size w).alloc (Nat.le_refl _) (.cells #[.int .i64 kind, .int .i64 dst, .int .i64 at_, .slice C raw.length cd] 44))
  clear hS hF hrs hnil
  go_enter Try.func4, Try.ntmps4
  go_wp2_with fail
  refine (begun room _).mono ?_
  rintro e w1 ⟨g, rfl, hO, hB⟩
  have hz0 : (w.alloc (.cells #[.int .i64 kind, .int .i64 dst, .int .i64 at_, .slice C raw.length cd] 44)).heap.size = w.heap.size + 1 := by simp
  have hb0 : Below (w.heap.size + 1) (w.alloc (.cells #[.int .i64 kind, .int .i64 dst, .int .i64 at_, .slice C raw.length cd] 44)) w1 := by rw [← hz0]; exact hB
  have HSb := Lib.hid (HS.out.below HB0.out)
  obtain ⟨wb, hwb⟩ : ∃ wb, wb = w.alloc (.cells #[.int .i64 kind, .int .i64 dst, .int .i64 at_, .slice C raw.length cd] 44) := ⟨_, rfl⟩
  rw [← hwb] at hO hB HSb HBX HB0 hz0
  have HO := Lib.hid hO
  have HB := Lib.hid hB
  have HCb := Lib.hid (HC.out.below HB0.out)
  clear hO hB hb0 hwb HS HC
  have hzb : wb.heap.size = w.heap.size + 1 := hz0
  clear hz0
  go_wp2_with fail
  refine (ref_new room w1).mono ?_
  rintro e w2 ⟨rfl, hb⟩
  have HB2 := Lib.hid hb
  clear hb
  go_wp2_with fail
  refine (run_new wb w1 w2 g room A cap ops HO.out HB.out HB2.out HSb.out).mono ?_
  rintro e w3 ⟨g3, v3, A3, c3, l3, rl3, rfl, hG, hl, hk, hf⟩
  have HG := Lib.hid hG
  have HB3 : Hid (Below wb.heap.size wb w3) := hk.out (HB.out.trans (HB2.out.mono HB.out.size)) (fun k h => HO.out.nb k h) (Nat.le_trans HB.out.size HB2.out.size)
  have hl3 : l3.length < 6000000000000 := by simp at hl; omega
  have HB4 : Hid (Below w3.heap.size w3 (w3.alloc (.cells #[.int .i64 (max room 0), .slice A3 rl3.length c3] 28))) := (Below.refl _ _).alloc (Nat.le_refl _) _
  have HK9 := Lib.hid (Blk.new w3 28 #[.int .i64 (max room 0), .slice A3 rl3.length c3])
  have HK5 := Lib.hid ((HBX.out.below HB3.out).below HB4.out)
  have d0 : (w3.alloc (.cells #[.int .i64 (max room 0), .slice A3 rl3.length c3] 28)).cell? ⟨w.heap.size, 0, none⟩ = some (.int .i64 kind) := (HK5.out.cell 0).trans rfl
  have d1 : (w3.alloc (.cells #[.int .i64 (max room 0), .slice A3 rl3.length c3] 28)).cell? ⟨w.heap.size, 1, none⟩ = some (.int .i64 dst) := (HK5.out.cell 1).trans rfl
  have d2 : (w3.alloc (.cells #[.int .i64 (max room 0), .slice A3 rl3.length c3] 28)).cell? ⟨w.heap.size, 2, none⟩ = some (.int .i64 at_) := (HK5.out.cell 2).trans rfl
  have d3 : (w3.alloc (.cells #[.int .i64 (max room 0), .slice A3 rl3.length c3] 28)).cell? ⟨w.heap.size, 3, none⟩ = some (.slice C raw.length cd) := (HK5.out.cell 3).trans rfl
  have HBw : Hid (Below w.heap.size w wb) := HB0
  have HBx : Hid (Below wb.heap.size wb (w3.alloc (.cells #[.int .i64 (max room 0), .slice A3 rl3.length c3] 28))) := HB3.out.trans (HB4.out.mono HB3.out.size)
  have HCx := Lib.hid (HCb.out.below HBx.out)
  clear hG hl hk hf HO HB HB2 HB0
  go_upto_if 31 with fail
  go_cut [10] (fun v10 wx => ∃ z : Int, v10 = .int .i64 z ∧ Hid (UndEx wb.heap.size wb wx g3 (max room 0) A3 c3 rl3 w3.heap.size z))
  case first =>
    by_cases k0 : kind = 0
    · subst k0
      go_wp2_with fail
      refine (send _ g3 v3 (max room 0) l3 (HG.out.own.net.below HB4.out) (by omega) dst C cd raw HCx.out HCN.out (by omega)).mono ?_
      rintro e w5 hse
      obtain ⟨z, rfl, hu⟩ := und_sent (x := ⟨dst, .slice C raw.length cd, raw⟩) HG.out HB4.out HK9.out HBx.out hse (by omega) rfl rfl hl3
      have HU := Lib.hid hu
      clear hse hu
      go_wp2_with fail
      go_meet
      exact ⟨z, rfl, HU⟩
    · have hk0 : (kind == 0) = false := beq_eq_false_iff_ne.2 k0
      clear k0
      by_cases hr : 0 ≤ at_ ∧ at_ < (l3.length : Int)
      · obtain ⟨n, rfl⟩ := Int.eq_ofNat_of_zero_le hr.1
        obtain ⟨x, hx⟩ : ∃ x, l3[n]? = some x := ⟨_, List.getElem?_eq_getElem (by omega)⟩
        have hxs := HG.out.short x (List.mem_of_getElem? hx)
        have HX := Lib.hid hx
        clear hx hr
        go_wp2_with fail
        refine (double _ g3 v3 (max room 0) l3 (HG.out.own.net.below HB4.out) n x HX.out (by omega) (by omega)).mono ?_
        rintro e w5 hse
        obtain ⟨z, rfl, hu⟩ := und_sent (x := x) HG.out HB4.out HK9.out HBx.out hse hxs rfl rfl hl3
        have HU := Lib.hid hu
        clear hse hu
        go_wp2_with fail
        go_meet
        exact ⟨z, rfl, HU⟩
      · have hr' : at_ < 0 ∨ (l3.length : Int) ≤ at_ := by omega
        have HRA := Lib.hid hr'
        clear hr hr'
        go_wp2_with fail
        refine (double_no _ g3 v3 (max room 0) l3 (HG.out.own.net.below HB4.out) at_ HRA.out).mono ?_
        rintro e w5 ⟨rfl, rfl⟩
        go_wp2_with fail
        go_meet
        exact ⟨31, rfl, v3, l3, ⟨HG.out.own.net.below HB4.out, HG.out.own.hg, HG.out.own.hv⟩, HG.out.rf.below HB4.out, HG.out.short, by omega, HBx.out, HBx.out.size, HK9.out, .inl ⟨.inr rfl, HG.out.same⟩⟩
  case rest =>
    obtain ⟨z, rfl, HU⟩ := hcut
    obtain ⟨v5, l5, hU⟩ := HU.out
    have HU5 := Lib.hid hU
    have e0 : wc.cell? ⟨w3.heap.size, 0, none⟩ = some (.int .i64 (max room 0)) := (hU.b9.cell 0).trans rfl
    have e1 : wc.cell? ⟨w3.heap.size, 1, none⟩ = some (.slice A3 rl3.length c3) := (hU.b9.cell 1).trans rfl
    have hli := hU.len
    have hei := hU.either
    clear hU HU d0 d1 d2 d3 HG HB4 HK9 HK5 HBx HCx
    rcases hei with ⟨hz, hsame⟩ | ⟨rfl, hln, hsame⟩
    · have HSM := Lib.hid hsame
      have HST := Lib.hid (stands wc (max room 0) A3 c3 g3 v5 (max room 0) l5 HU5.out.own.net HU5.out.rf HSM.out HU5.out.short (by omega))
      have HB5 := Lib.hid HU5.out.below
      have HZ5 := HU5.out.size
      clear hsame HU5
      rcases hz with rfl | rfl
      all_goals
        go_wp2_with fail
        refine HST.out.mono ?_
        rintro e w6 ⟨rfl, hb⟩
        have HB6 : Hid (Below w.heap.size w w6) := HBw.out.trans ((HB5.out.trans (hb.mono HZ5)).mono (by omega))
        clear hb
        go_wp2_with fail
        go_ret
        exact ⟨rfl, HB6.out⟩
    · have HSM := Lib.hid hsame
      have HLEN := len wc g3 v5 (max room 0) l5 HU5.out.own.net
      rw [hln, Int.natCast_add] at HLEN
      have HL := Lib.hid HLEN
      have HLN := Lib.hid hln
      have hrb : (rl3.length : Int) ≤ 7000000000000 := by omega
      clear HLEN hsame hln
      go_wp2_with fail
      refine HL.out.mono ?_
      rintro e w6 ⟨rfl, rfl⟩
      clear HL
      go_wp2_with fail
      refine (drop_yes w6 g3 v5 (max room 0) l5 HU5.out.own.net rl3.length (by have := HLN.out; omega) hli).mono ?_
      rintro e w7 ⟨rfl, hd⟩
      have hk7 : Kp (Nb g3 v5) w6 w7 := by obtain ⟨_, _, hk, _⟩ := hd; exact hk.of_g
      obtain ⟨v7, hO7, hb7, hz7⟩ := HU5.out.own.dropped hd HU5.out.below HU5.out.size
      have HR7 := Lib.hid (HU5.out.rf.net HU5.out.own hk7)
      have B7 := HU5.out.own.blk HU5.out.b9 hk7 (by decide) (by decide)
      have g0 : w7.cell? ⟨w3.heap.size, 0, none⟩ = some (.int .i64 (max room 0)) := (B7.cell 0).trans rfl
      have g1 : w7.cell? ⟨w3.heap.size, 1, none⟩ = some (.slice A3 rl3.length c3) := (B7.cell 1).trans rfl
      have HO7 := Lib.hid hO7
      have HB7 := Lib.hid hb7
      have HSH : Hid (∀ x ∈ l5.take rl3.length ++ l5.drop (rl3.length + 1), x.raw.length ≤ 140737488351232) := fun x hx => HU5.out.short x ((List.mem_append.1 hx).elim List.mem_of_mem_take List.mem_of_mem_drop)
      clear hd hk7 hO7 hb7 B7 e0 e1
      go_wp2_with fail
      refine (stands w7 (max room 0) A3 c3 g3 v7 (max room 0) _ HO7.out.net HR7.out HSM.out HSH.out (by simp only [List.length_append, List.length_take, List.length_drop]; omega)).mono ?_
      rintro e w8 ⟨rfl, hb⟩
      have HB8 : Hid (Below w.heap.size w w8) := HBw.out.trans ((HB7.out.trans (hb.mono hz7)).mono (by omega))
      clear hb
      go_wp2_with fail
      go_ret
      exact ⟨rfl, HB8.out⟩

end Go.Proofs.Ytogiedephnappaa.Net
