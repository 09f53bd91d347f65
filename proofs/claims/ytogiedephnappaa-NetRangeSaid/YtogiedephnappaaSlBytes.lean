/- Contracts of slices.Clone, slices.Grow and slices.Concat of the library, at Bytes. -/
import Derived.Test.YtogiedephnappaaRows
import Derived.Test.YtogiedephnappaaMem
namespace Go.Proofs.Ytogiedephnappaa.SlBytes
open Go.RowKit Go.Proofs.Ytogiedephnappaa.Mem

theorem info : (Try.prog.info? 5).map (fun i => (i.zero, i.size, i.bytes)) = some (some (.int .u8 0), 1, 1) := by kernel_rfl

/-- What a call leaves that hands back a new slice: it holds xs; what was there is as it was. -/
def Made (w : World) (n : Nat) (xs : List Value) (e : Ending) (w' : World) : Prop := ∃ v, e = .returned v ∧ w'.ownsRow w.heap.size 5 1 v n xs ∧ Below w.heap.size w w'

set_option maxHeartbeats 400000 in
theorem clone (A : Option Addr) (n c : Nat) (xs : List Value) (w : World) (hs : Sl w 1 A n xs) (h1 : ∀ u ∈ xs, u.oneCell' = true) (hb : n * 1 * 5 + 1 * 1000 ≤ 1125899906842624) (hn : A = none → n = 0 ∧ c = 0) :
    Calls Try.prog 27 #[.slice A n c] w (Made w n xs) := by
  obtain ⟨i0, hi, hz0, hz1, hz2⟩ := info_parts info
  have hnil := fun (a : Option Addr) (l c : Nat) (w : World) => Lib.run_eql_slice_nil (P := Try.prog) w 35 5 a l c 0 0 Try.underlying35
  rcases A with _ | ad
  · obtain ⟨rfl, rfl⟩ := hn rfl
    have hx : xs = [] := List.eq_nil_of_length_eq_zero (by simpa using hs.1)
    subst hx
    clear hs h1 hn
    go_enter Try.func27, Try.ntmps27
    go_wp2
    go_ret
    exact ⟨_, rfl, World.ownsRow_nil _ _ _ _, Below.refl _ _⟩
  · clear hn
    have HS := Lib.hid hs
    have H1 := Lib.hid h1
    clear hs h1
    go_enter Try.func27, Try.ntmps27
    go_wp2_with (at_builtin; refine wpList_append_sl _ rfl (.tmp 5) (.tmp 6) _ rfl w.heap.size 5 i0 _ 1 1 Try.underlying35 hi hz0 hz1 hz2 rfl (by decide) _ 0 [] rfl (World.ownsRow_lit w #[] 0 (Nat.le_refl _) (by unfold maxLen; omega) (by simp)) (some ad) n c xs rfl (HS.out.alloc _) H1.out (by unfold maxLen; omega) (by omega) (by simp) ?_; intro v' w1 hown' hgrow hat)
    go_ret
    refine ⟨_, rfl, by simpa using hown', ?_⟩
    exact ((Below.refl _ _).alloc (Nat.le_refl _) _).grown hgrow (by simp) (fun k hk => by have hk : some w.heap.size = some k := hk; injection hk with hk; omega)

end Go.Proofs.Ytogiedephnappaa.SlBytes
