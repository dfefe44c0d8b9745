import Derived.Test.YtmefjlcbkflbmaaLx1
namespace Go.Proofs.Ytmefjlcbkflbmaa
open Go.RowKit

set_option maxHeartbeats 400000 in
theorem eqEntry_any (x : En) (w : World) :
    Calls Try.prog 50 #[.agg #[.string x.word, .int .i64 x.cost], .agg #[.string x.word, .int .i64 x.cost]] w (Ret (.bool true) w) := by
  go_enter Try.func50, Try.ntmps50
  go_wp2
  go_ret
  exact ret_bool rfl (((Below.refl _ _).alloc (Nat.le_refl _) _).alloc (by simp) _)

set_option maxHeartbeats 400000 in
theorem eqEntryS_any (v1 v2 : Value) (es : List En) (w : World) (h1 : Arr enE w v1 es) (h2 : Arr enE w v2 es) :
    Calls Try.prog 35 #[v1, v2] w (Ret (.bool true) w) := by
  obtain ⟨b, off, ao, cap, rfl, hnc, hcm, hao, hc⟩ := h1
  obtain ⟨b2, off2, ao2, cap2, rfl, hnc2, hcm2, hao2, hc2⟩ := h2
  unfold maxLen at hcm
  go_enter Try.func35, Try.ntmps35
  go_wp2
  go_loopw [5] (fun i wr => ∃ k : Nat, k ≤ es.length ∧ i = .int .i64 k ∧ Below w.heap.size w wr) (fun i _ => es.length - (intOf i).toNat)
  case atStart => exact ⟨0, Nat.zero_le _, rfl, Below.refl _ _⟩
  case round =>
    obtain ⟨k, hk, rfl, hb⟩ := hrel
    by_cases hlt : k < es.length
    · obtain ⟨hao', hbw⟩ := hao (by omega)
      obtain ⟨hao2', hbw2⟩ := hao2 (by omega)
      subst hao' hao2'
      obtain ⟨x, hx⟩ : ∃ x, es[k]? = some x := ⟨_, List.getElem?_eq_getElem hlt⟩
      obtain ⟨c0, c1⟩ := enE_cells (hc.below hb hbw) hx
      obtain ⟨d0, d1⟩ := enE_cells (hc2.below hb hbw2) hx
      have c0 := ext_cell c0
      have c1 := ext_cell c1
      have d0 := ext_cell d0
      have d1 := ext_cell d1
      clear hao hao2
      have hli : (k : Int) < (es.length : Int) := by omega
      go_wp2
      refine wp_region_ext (by kernel_rfl) (by kernel_rfl) ?_
      repeat (go_big_quiet_step ((go_at_call 50; exact ret_ext (eqEntry_any _ _))))
      refine wpQuiet_nil ?_
      intro _ hw'
      obtain ⟨nq, hw''⟩ := hw'
      subst hw''
      go_wp2
      go_roundw
      case rel => exact ⟨k + 1, by omega, by go_num, hb.trans ((ext_below _ _).mono hb.size)⟩
      case measure => simp [intOf]; omega
    · go_wp2
      go_ret
      exact ret_bool rfl hb
end Go.Proofs.Ytmefjlcbkflbmaa
