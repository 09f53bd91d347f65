/- The contract of the law's 'count'. -/
import Derived.Test.YtogiedephnappaaBegun
namespace Go.Proofs.Ytogiedephnappaa.Net
open Go.RowKit Go.Proofs.Ytogiedephnappaa.Mem

/-- The bytes of x read where its slice says. -/
def Ms.Reads (w : World) (x : Ms) : Prop := ∃ A c, x.v = .slice A x.raw.length c ∧ Sl w 1 A x.raw.length (bcs x.raw) ∧ (A = none → x.raw.length = 0 ∧ c = 0)

theorem Ms.Reads.below {w w' : World} {x : Ms} (h : x.Reads w) (hb : Below w.heap.size w w') : x.Reads w' := by
  obtain ⟨A, c, h1, h2, h3⟩ := h
  exact ⟨A, c, h1, h2.below hb, h3⟩

/-- How often. -/
def cnt (l : List Ms) (s : List UInt8) : Nat := l.countP (fun x => (strOfNums x.raw).toList == s)

theorem cnt_take (l : List Ms) (s : List UInt8) (k : Nat) (x : Ms) (hx : l[k]? = some x) : cnt (l.take (k + 1)) s = cnt (l.take k) s + (if (strOfNums x.raw).toList == s then 1 else 0) := by
  unfold cnt
  rw [List.take_add_one, hx]
  simp [List.countP_append, List.countP_cons]

set_option maxHeartbeats 800000 in
theorem count (A B : Option Addr) (c d : Nat) (l : List Ms) (raw : List Int) (w : World) (hl : Sl w 1 A l.length (l.map Ms.v)) (hx : ∀ x ∈ l, x.Reads w) (hs : Sl w 1 B raw.length (bcs raw)) (hb : l.length ≤ 140737488355328) :
    Calls Try.prog 20 #[.slice A l.length c, .slice B raw.length d] w fun e w' => e = .returned (.int .i64 (cnt l (strOfNums raw).toList)) ∧ Below w.heap.size w w' := by
  have HL := Lib.hid hl
  have HX := Lib.hid hx
  have HS := Lib.hid hs
  have hN : (l.length : Int) ≤ 140737488355328 := by omega
  clear hl hx hs
  go_enter Try.func20, Try.ntmps20
  go_wp2_with fail
  go_loopw [5, 9] (fun v5 v9 wr => ∃ k : Nat, v5 = .int .i64 (cnt (l.take k) (strOfNums raw).toList) ∧ v9 = .int .i64 k ∧ k ≤ l.length ∧ Hid (Below w.heap.size w wr)) (fun _ v9 _ => l.length - (intOf v9).toNat)
  case atStart => exact ⟨0, rfl, rfl, Nat.zero_le _, Below.refl _ _⟩
  case round =>
    obtain ⟨k, rfl, rfl, hk, HB⟩ := hrel
    by_cases hlt : k < l.length
    · obtain ⟨x, hx⟩ : ∃ x, l[k]? = some x := ⟨_, List.getElem?_eq_getElem hlt⟩
      obtain ⟨b, o, rfl, hc⟩ := (HL.out.below HB.out).at_ (j := k) (u := x.v) (by rw [List.getElem?_map, hx]; rfl)
      obtain ⟨A', c', hv, hsl, _⟩ := (HX.out x (List.mem_of_getElem? hx)).below HB.out
      rw [hv] at hc
      have hs1 := fun j => run_string_of (P := Try.prog) (wr.drewN j) 35 5 Try.underlying35 Try.underlying5 A' _ c' _ (hsl.drewN j) 9 Try.underlying9
      have hs2 := fun j => run_string_of (P := Try.prog) (wr.drewN j) 35 5 Try.underlying35 Try.underlying5 B _ d _ ((HS.out.below HB.out).drewN j) 9 Try.underlying9
      have hct := cnt_take l (strOfNums raw).toList k x hx
      have hcl : (cnt (l.take k) (strOfNums raw).toList : Int) ≤ 140737488355328 := by
        have : cnt (l.take k) (strOfNums raw).toList ≤ (l.take k).length := List.countP_le_length
        rw [List.length_take] at this
        omega
      have HCT := Lib.hid hct
      clear hct hv hsl
      rcases Bool.eq_false_or_eq_true ((strOfNums x.raw).toList == (strOfNums raw).toList) with he' | he'
      · go_wp2_with fail
        go_quiet (fail)
        go_wp2_with fail
        go_roundw
        case rel => exact ⟨k + 1, by rw [HCT.out, if_pos he']; go_num, by go_num, by omega, below_drewN HB.out _⟩
        case measure => simp [intOf]; omega
      · go_wp2_with fail
        go_quiet (fail)
        go_wp2_with fail
        go_roundw
        case rel => exact ⟨k + 1, by rw [HCT.out, if_neg (by rw [he']; simp)]; simp, by go_num, by omega, below_drewN HB.out _⟩
        case measure => simp [intOf]; omega
    · obtain rfl : k = l.length := by omega
      rw [List.take_length]
      go_wp2
      go_ret
      exact ⟨rfl, HB.out⟩

end Go.Proofs.Ytogiedephnappaa.Net
