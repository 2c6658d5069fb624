/- container/heap over refs.ready: Push, Pop; the closure push of refs.Order. -/
import Derived.Test.YtcakdjnnfonijaaRoUp
namespace Go.Proofs.Ytcakdjnnfonijaa
open Go.RowKit

set_option maxRecDepth 100000 in
set_option maxHeartbeats 1000000 in
theorem hpush_any (g : Nat) (v : Value) (H : List Rf) (x : Rf) (w : World) (h : HpAt w g v H) (hi : IsHp ltR H H.length) (hsz : H.length ≤ 100000) :
    Calls Try.prog 29 #[.iface 58 (.pointer (some ⟨g, 0, none⟩)), .iface 25 (rfV x)] w fun e w' => e = .returned (.tuple #[]) ∧ ∃ v' H', HpAt w' g v' H' ∧ H'.Perm (x :: H) ∧ IsHp ltR H' H'.length ∧ HUp w g v w' v' := by
  have HM := Lib.hid (mt_push w g)
  have HPU := Lib.hid (rpush_any g v H x w h (by omega))
  have HI := Lib.hid hi
  have HS := Lib.hid hsz
  obtain ⟨n, hn⟩ : ∃ n, H.length = n := ⟨_, rfl⟩
  have HN := Lib.hid hn
  have hnb : n ≤ 100000 := by omega
  clear h hi hsz hn
  go_enter Try.func29, Try.ntmps29
  go_wp2_with (first
    | (refine step_invoke (by rfl) (.tmp 4) "Push" #[.tmp 5] _ rfl rfl HM.out rfl rfl rfl _ rfl ?_; refine HPU.out.mono ?_; rintro _ w2 ⟨rfl, v2, hh2, hup2⟩; obtain ⟨a2, c2, hv2, hc2, -, -⟩ := hh2.own.rd; rw [List.length_append, List.length_singleton, HN.out] at hv2; have HM2 := Lib.hid (mt_len hh2); rw [hv2] at HM2; have HH2 := Lib.hid hh2; have HU2 := Lib.hid hup2; have HV2 := Lib.hid hv2; clear hh2 hup2 hv2 hc2)
    | (refine step_invoke (by rfl) (.tmp 8) "Len" #[] _ rfl rfl HM2.out rfl rfl rfl _ rfl ?_; refine (rlen_any _ _ _ _).mono ?_; rintro _ _ ⟨rfl, rfl⟩)
    | (go_at_call 47; refine (up_any g v2 (H ++ [x]) (n + 1) n _ HH2.out (by rw [List.length_append, HN.out]; exact Nat.le_refl _) (Nat.lt_succ_self _) (by have := UpEx.push HI.out x; rwa [HN.out] at this) (by rw [List.length_append, HN.out]; show n + 1 ≤ _; omega)).mono ?_; rintro _ w3 ⟨rfl, H3, hh3, hp3, hi3, hup3⟩))
  refine ⟨rfl, _, results_none rfl _ _ _, rfl, v2, H3, hh3, hp3.trans (List.perm_append_singleton x H), ?_, HU2.out.trans hup3⟩
  rw [hp3.length_eq, List.length_append, HN.out]
  exact hi3
theorem hp_take {H : List Rf} {n k : Nat} (hk : k < n) (hn : n ≤ H.length) : hp (H.take n) k = hp H k := by
  rw [hp_get (by rw [List.length_take]; omega), hp_get (by omega), List.getElem_take]
set_option maxRecDepth 100000 in
set_option maxHeartbeats 1000000 in
theorem hpop_any (g : Nat) (v : Value) (H : List Rf) (w : World) (h : HpAt w g v H) (hi : IsHp ltR H H.length) (hne : 0 < H.length) (hsz : H.length ≤ 100000) :
    Calls Try.prog 31 #[.iface 58 (.pointer (some ⟨g, 0, none⟩))] w fun e w' => e = .returned (.iface 25 (.agg #[.string (hp H 0).1, .int .i64 (hp H 0).2])) ∧ ∃ v' H', HpAt w' g v' H' ∧ H.Perm (hp H 0 :: H') ∧ IsHp ltR H' H'.length ∧ HUp w g v w' v' := by
  obtain ⟨n, hn⟩ : ∃ n, H.length = n + 1 := ⟨H.length - 1, by omega⟩
  obtain ⟨a1, c1, hv1, hc1, -, -⟩ := h.own.rd
  rw [hn] at hv1
  have HM1 := Lib.hid (mt_len h)
  have HM2 := Lib.hid (mt_swap h)
  have HSW : Hid (Calls Try.prog 100 #[v, .int .i64 ((0 : Nat) : Int), .int .i64 (n : Int)] w fun e w' => e = .returned (.tuple #[]) ∧ HpAt w' g v (swapL H 0 n) ∧ HUp w g v w' v) :=
    (rswap_any v H 0 n w h.own hne (by omega)).mono fun e w' q => ⟨q.1, (h.swap q.2.1 q.2.2).1, (h.swap q.2.1 q.2.2).2⟩
  have HDN : Hid (∀ W, HpAt W g v (swapL H 0 n) → Calls Try.prog 48 #[.iface 58 (.pointer (some ⟨g, 0, none⟩)), .int .i64 0, .int .i64 (n : Int)] W fun e w' => (∃ b, e = .returned (.bool b)) ∧ ∃ H', HpAt w' g v (H' ++ [hp H 0]) ∧ H.Perm (hp H 0 :: H') ∧ IsHp ltR H' H'.length ∧ HUp W g v w' v) := fun W hW => by
    have hl := swapL_len H 0 n
    refine (down_any g v (swapL H 0 n) n W hW (by omega) (IsHp.pop (by rw [← hn]; exact hi) (by omega)) (by omega)).mono fun e w' q => ?_
    obtain ⟨q1, H', q2, q3, q4, q5, q6⟩ := q
    have hl' : H'.length = n + 1 := by rw [q3.length_eq, hl, hn]
    have hlast : H'[n]'(by omega) = hp H 0 := by
      rw [← hp_get (by omega), q5 n (Nat.le_refl _), hp_swap hne (by omega), if_pos rfl]
    have hsplit : H' = H'.take n ++ [hp H 0] := by
      rw [← hlast, List.take_append_getElem]
      rw [List.take_of_length_le (by omega)]
    refine ⟨q1, H'.take n, ?_, ?_, ?_, q6⟩
    · rw [← hsplit]; exact q2
    · have p1 : H'.Perm (hp H 0 :: H'.take n) := by
        conv => lhs; rw [hsplit]
        exact List.perm_append_singleton _ _
      exact ((q3.trans (swapL_perm hne (by omega))).symm).trans p1
    · rw [List.length_take, show min n H'.length = n by omega]
      intro k k0 kn
      rw [hp_take kn (by omega), hp_take (by omega) (by omega)]
      exact q4 k k0 kn
  have HS := Lib.hid hsz
  have hnb : n ≤ 100000 := by omega
  obtain ⟨x, hx⟩ : ∃ x, hp H 0 = x := ⟨_, rfl⟩
  rw [hx] at HDN ⊢
  rw [hv1] at HM1 HM2 HSW HDN ⊢
  have h00 : ((0 : Nat) : Int) = 0 := rfl
  rw [h00] at HSW
  clear h hi hne hsz hv1 hc1 hx h00 hn
  go_enter Try.func31, Try.ntmps31
  go_wp2_with (first
    | (refine step_invoke (by rfl) (.tmp 4) "Len" #[] _ rfl rfl HM1.out rfl rfl rfl _ rfl ?_; refine (rlen_any _ _ _ _).mono ?_; rintro _ _ ⟨rfl, rfl⟩)
    | (refine step_invoke (by rfl) (.tmp 7) "Swap" #[.const (.int .i64 0), .tmp 8] _ rfl rfl HM2.out rfl rfl rfl _ rfl ?_; refine HSW.out.mono ?_; rintro _ w2 ⟨rfl, hh2, hup2⟩; have HH2 := Lib.hid hh2; have HU2 := Lib.hid hup2; clear hh2 hup2)
    | (go_at_call 48; refine (HDN.out _ HH2.out).mono ?_; rintro _ w3 ⟨⟨b3, rfl⟩, H3, hh3, hp3, hi3, hup3⟩; have HH3 := Lib.hid hh3; have HP3 := Lib.hid hp3; have HI3 := Lib.hid hi3; have HU3 := Lib.hid (HU2.out.trans hup3); clear hh3 hp3 hi3 hup3)
    | (refine step_invoke (by rfl) (.tmp 13) "Pop" #[] _ rfl rfl (mt_pop _ g) rfl rfl rfl _ rfl ?_; refine (rpop_any g _ H3 x _ HH3.out).mono ?_; rintro _ w4 ⟨rfl, v4, hh4, hup4⟩; have HH4 := Lib.hid hh4; have HU4 := Lib.hid hup4; clear hh4 hup4))
  go_ret
  exact ⟨rfl, v4, H3, HH4.out, HP3.out, HI3.out, HU3.out.trans HU4.out⟩
set_option maxRecDepth 100000 in
set_option maxHeartbeats 1000000 in
theorem push1_any (q g : Nat) (v : Value) (H : List Rf) (x : Rf) (w : World) (hq : Box w q 58 (.pointer (some ⟨g, 0, none⟩))) (h : HpAt w g v H) (hi : IsHp ltR H H.length) (hsz : H.length ≤ 100000) :
    Calls Try.prog 28 #[.agg #[.string x.1, .int .i64 x.2], .pointer (some ⟨q, 0, none⟩)] w fun e w' => e = .returned (.tuple #[]) ∧ ∃ v' H', HpAt w' g v' H' ∧ H'.Perm (x :: H) ∧ IsHp ltR H' H'.length ∧ HUp w g v w' v' := by
  have hc : w.cell? ⟨q, 0, none⟩ = some (.pointer (some ⟨g, 0, none⟩)) := cell_row hq rfl
  have hql : q < w.heap.size := (Array.getElem?_eq_some_iff.1 hq).1
  have HPU : Hid (∀ W, Below w.heap.size w W → Calls Try.prog 29 #[.iface 58 (.pointer (some ⟨g, 0, none⟩)), .iface 25 (rfV x)] W fun e w' => e = .returned (.tuple #[]) ∧ ∃ v' H', HpAt w' g v' H' ∧ H'.Perm (x :: H) ∧ IsHp ltR H' H'.length ∧ HUp w g v w' v') := fun W hW =>
    (hpush_any g v H x W (h.later hW) hi hsz).mono fun e w' ⟨q1, v', H', q2, q3, q4, q5⟩ => ⟨q1, v', H', q2, q3, q4, (HUp.below hW).trans q5⟩
  unfold rfV at HPU
  clear hq h hi hsz
  go_enter Try.func28, Try.ntmps28
  go_wp2_with (go_at_call 29; refine (HPU.out _ (below_alloc _)).mono ?_; rintro _ w2 ⟨rfl, hr2⟩)
  exact ⟨rfl, _, results_none rfl _ _ _, rfl, hr2⟩
end Go.Proofs.Ytcakdjnnfonijaa
