/- known() of lexiconlaw04, by the pager's contracts. -/
import Derived.Test.YtagipfkgnobjlaaPgPy
namespace Go.Proofs.Ytagipfkgnobjlaa
open Go.RowKit

attribute [local go_sem] Oper.semAt_some
/-- A fresh pager on a fresh disk. -/
theorem py_new (w0 w : World) (d size n room : Nat) (hb : Below w0.heap.size w0 w) (h : IsDk w w0.heap.size d ⟨size, fun _ => nought, []⟩ 0) (hn4 : 4 ≤ n) (hn : n ≤ size) (hn3 : n ≤ 300) (hroom : ((size : Int) - n) / 2 = (room : Int)) (hr2 : 2 ≤ room) :
    Calls Try.prog 15 #[.pointer (some ⟨d, 0, none⟩), .int .i64 (n : Int)] w fun e w1 => e = .returned (.int .i64 0) ∧ Below w0.heap.size w0 w1 ∧
      Calls Try.prog 8 #[.pointer (some ⟨d, 0, none⟩), .int .i64 (n : Int)] w1 fun e w2 => ∃ pb s, e = .returned (.tuple #[.pointer (some ⟨pb, 0, none⟩), .int .i64 0]) ∧ PyS w0 w2 pb d size n room 3 s [] [] ∧ s.op = false ∧ s.now = mt1 := by
  have hs := h.toS
  have hs6 : size ≤ 65536 := hs.sizes.2
  refine (pgFormat_yes w _ d _ n hs (fun y hy => hy.2) (by simp) hn4 (by show (n : Int) ≤ (size : Int); omega) (by show 2 ≤ ((size : Int) - n) / 2; omega)).mono ?_
  rintro e w1 ⟨rfl, ⟨S1, h1, hS1⟩, k1⟩
  have hb1 : Below w0.heap.size w0 w1 := hb.trans (k1.below hb.size fun y hy => hy.1)
  refine ⟨rfl, hb1, ?_⟩
  obtain ⟨f1, f2⟩ := fmt_rec (n := n) (room := room) (V := laid (fun _ => nought) []) (fun k => hs.sec k) hn4 (by omega)
  refine (py_open w0 w1 S1 d _ n room 1 _ mt1 (PS.fresh mt1 ⟨⟨size, fmtV n (laid (fun _ => nought) []), []⟩, 0, 0, 0, 0, false, []⟩) [] hb1 h1 (fun y hy => ⟨?_, (hS1 y hy).2⟩) (Nat.zero_le _) hn4 hn hn3 hr2 (by show spaceP size (n : Int) = _; rw [spaceP_ok (by omega) (by omega)]; exact hroom) (by show n + 2 * room ≤ size; omega) (by omega) f1 (by omega) mt1_ok (Nat.le_refl _) (by show 1 ≤ room; omega) f2 (fmt_free n _) rfl fun k h0 hk => ?_).mono ?_
  · have := hb.size
    rcases (hS1 y hy).1 with e | e
    · exact e.1
    · omega
  · exact absurd hk (by show ¬ k < 1; omega)
  · rintro e w2 ⟨pb, s, rfl, q1, q2, q3, -⟩
    exact ⟨pb, s, rfl, q1, q2, q3⟩
set_option maxRecDepth 100000 in
set_option maxHeartbeats 8000000 in
theorem known_any (w : World) : Calls Try.prog 4 #[] w fun e w' => e = .returned (.bool true) ∧ Below w.heap.size w w' := by
  have HNEW := Lib.hid (new_any none [] 0 0 40 w rfl (by omega) (.inl rfl) (by omega) (by omega) rfl)
  go_enter Try.func4, Try.ntmps4
  go_wp2_with fail
  refine HNEW.out.mono ?_
  rintro _ w1 ⟨⟨d, rfl, hd⟩, hb1⟩
  have HP := Lib.hid (py_new w w1 d 40 12 14 hb1 hd (by omega) (by omega) (by omega) (by decide) (by omega))
  clear hd hb1
  go_wp2_with fail
  refine HP.out.mono ?_
  rintro _ w2 ⟨rfl, -, hop⟩
  have HO := Lib.hid hop
  clear hop
  go_wp2_with fail
  refine HO.out.mono ?_
  rintro _ w3 ⟨pb, s3, rfl, hy3, ho3, hn3⟩
  have HY3 := Lib.hid (And.intro hy3 (And.intro ho3 hn3))
  clear hy3 ho3 hn3
  go_wp2_with fail
  refine (py_alloc HY3.out.1 (by omega)).mono ?_
  rintro _ w4 (⟨rfl, -, -, hbad⟩ | ⟨k, s4, l4, rfl, hy4, hA, -⟩)
  · rw [HY3.out.2.2] at hbad
    exact absurd hbad (by decide)
  · obtain rfl := hA.ln rfl
    have hc4 : s4.now.count = 2 := by
      have := hA.cl
      rw [HY3.out.2.2] at this
      simpa [mt1] using this
    have hin := (hA.set k hA.k0).2 (.inl rfl)
    rw [hc4] at hin
    have HY4 := Lib.hid (And.intro hy4 (And.intro hc4 (And.intro hA.k0 hin.1)))
    have HFU : Hid (Calls Try.prog 12 #[.int .u8 120] w4 (RetB 5 w4 (fullP 120))) := full_any 120 w4
    clear hy4 hA hc4 hin
    go_wp2_with fail
    refine HFU.out.mono ?_
    rintro _ w5 ⟨v5, rfl, ho5, hb5⟩
    have HPT := Lib.hid (py_put w4 HY4.out.1 hb5 (k := k) (by simp) HY4.out.2.2.1 (by rw [HY4.out.2.1]; exact HY4.out.2.2.2) v5 (fullP 120) (fullP_len 120) ho5)
    clear ho5 hb5
    go_wp2_with fail
    refine HPT.out.mono ?_
    rintro _ w6 ⟨rfl, s6, hy6, ho6, -, hn6, hby6, -⟩
    have HY6 := Lib.hid (And.intro hy6 (And.intro hn6 hby6))
    have HRT : Hid (Calls Try.prog 16 #[.pointer (some ⟨pb, 0, none⟩), .int .i64 0, .int .i64 (k : Int)] w6 _) := py_root HY6.out.1 0 k (by omega) (by have := HY4.out.2.2.2; omega)
    clear hy6 ho6 hn6 hby6
    go_wp2_with fail
    refine HRT.out.mono ?_
    rintro _ w7 ⟨rfl, s7, hy7, ho7, -, hc7, -, hby7⟩
    have hc7' : s7.now.count = 2 := by rw [hc7, HY6.out.2.1, HY4.out.2.1]
    have HY7 := Lib.hid (And.intro hy7 (And.intro hc7' (And.intro ho7 (show bytesP 12 s7 k = fullP 120 by rw [hby7, HY6.out.2.2]))))
    clear hy7 ho7 hc7 hby7 hc7'
    go_wp2_with fail
    refine (py_commit HY7.out.1 (by omega) (by omega)).mono ?_
    rintro _ w8 (⟨rfl, s8, hy8, ho8, hn8, hby8⟩ | ⟨rfl, -, s8, -, -, -, -, b, hb1, hb2⟩)
    rotate_left
    · rw [HY7.out.2.1] at hb1
      exact absurd (show secsOf b ≤ 12 - 2 by unfold secsOf; omega) hb2
    have HK : Hid (0 < k ∧ k < 2) := ⟨HY4.out.2.2.1, HY4.out.2.2.2⟩
    have HY8 := Lib.hid (And.intro hy8 (And.intro ho8 (And.intro (show s8.now.count = 2 by rw [hn8, HY7.out.2.1]) (show bytesP 12 s8 k = fullP 120 by rw [hby8 k HK.out.1 (by have := HK.out.2; omega), HY7.out.2.2.2]))))
    have HFU2 : Hid (Calls Try.prog 12 #[.int .u8 121] w8 (RetB 5 w8 (fullP 121))) := full_any 121 w8
    clear hy8 ho8 hn8 hby8
    go_wp2_with fail
    refine HFU2.out.mono ?_
    rintro _ w9 ⟨v9, rfl, ho9, hb9⟩
    have HPT2 := Lib.hid (py_put w8 HY8.out.1 hb9 (k := k) (by simp) HK.out.1 (by rw [HY8.out.2.2.1]; exact HK.out.2) v9 (fullP 121) (fullP_len 121) ho9)
    clear ho9 hb9
    go_wp2_with fail
    refine HPT2.out.mono ?_
    rintro _ w10 ⟨rfl, s10, hy10, -, hcm10, -, -, -⟩
    have HY10 := Lib.hid (And.intro hy10 hcm10)
    clear hy10 hcm10
    go_wp2_with fail
    refine (py_rollback HY10.out.1).mono ?_
    rintro _ w11 ⟨rfl, s11, hy11, ho11, hn11, hby11⟩
    have hst8 := HY8.out.1.2.2.1.st.idle HY8.out.2.1
    have hcn : s10.cn = s8.cn := congrArg PS.now HY10.out.2
    have hc11 : s11.now.count = 2 := by rw [hn11, hcn, hst8.1, HY8.out.2.2.1]
    have hb11 : bytesP 12 s11 k = fullP 120 := by rw [hby11, HY10.out.2, hst8.2.1, HY8.out.2.2.2]
    have HY11 := Lib.hid (And.intro hy11 (And.intro ho11 (And.intro hc11 hb11)))
    clear hy11 ho11 hn11 hby11 hst8 hcn hc11 hb11
    go_wp2_with fail
    refine (py_getyes HY11.out.1 (k := k) (by simp) HK.out.1 (by rw [HY11.out.2.2.1]; exact HK.out.2)).mono ?_
    rintro _ w12 ⟨vb, rfl, ho12, hy12, -⟩
    rw [HY11.out.2.2.2] at ho12
    obtain ⟨gb, cb, rfl, hcb, -, -, hrb⟩ := OwnB.rd2 ho12 (fun e => by have := fullP_len 120; rw [e] at this; cases this)
    rw [fullP_len] at hcb ⊢
    have HR12 := Lib.hid hrb
    have HY12 := Lib.hid hy12
    clear ho12 hrb hy12
    have hstv : ((s11.now.count : Int) - 1 - (([] : List Nat).length : Int)) = 1 := by rw [HY11.out.2.2.1]; rfl
    have HST := Lib.hid (py_state HY12.out (by omega))
    rw [hstv, HY11.out.2.1] at HST
    clear hstv
    go_wp2_with fail
    refine HST.out.mono ?_
    rintro _ w13 ⟨rfl, hy13, hb13⟩
    have HY13 := Lib.hid hy13
    have HR13 := Lib.hid (HR12.out.mono hb13)
    clear hy13 hb13
    have HG0 := Lib.hid (py_getno HY13.out 0 (by unfold takenB; rfl))
    go_wp2_with fail
    refine HG0.out.mono ?_
    rintro _ w14 ⟨rfl, hy14, hb14⟩
    have HB14 := Lib.hid hy14.1
    have hr14 := HR13.out.mono hb14
    obtain ⟨b2, o2, e2, hlt, hcell⟩ := RdB.at hr14 (by rw [fullP_len]; omega)
    cases e2
    have hc0 : w14.cell? ⟨gb, 0, none⟩ = some (.int .u8 120) := by
      have := hcell 0 (by rw [fullP_len]; omega)
      have e : (fullP 120)[0]'(by rw [fullP_len]; omega) = 120 := by unfold fullP; exact List.getElem_replicate _
      rw [e] at this
      exact this
    clear hy14 hb14 hr14 hcell hlt
    go_wp2
    go_ret
    exact ⟨rfl, HB14.out⟩
end Go.Proofs.Ytagipfkgnobjlaa
