/- A reader of parts takes one off its bytes. -/
import Derived.Test.YtlchnfjbcefkoaaGreatTabBld
import Derived.Test.YtlchnfjbcefkoaaGreatTabShelf
namespace Go.Proofs.YtlchnfjbcefkoaaGreat
open Go.RowKit

theorem RdB.dropA {w : World} {a : Option Addr} {l : List UInt8} (h : RdB w a l) (k c : Nat) (hc : l.length ≤ c) : RdB w (if c = k then a else Option.map (fun x => x.add k) a) (l.drop k) := by
  have := h.drop k c hc
  rwa [Nat.mul_one] at this
theorem or_byte {m c : Nat} (hm : m < 72057594037927936) (hc : c < 256) : bits .or .u64 ((m : Int) * 256) (c : Int) = ((m * 256 + c : Nat) : Int) := by
  rw [show (m : Int) * 256 = ((m * 256 : Nat) : Int) by omega, bits_or_nat .u64 rfl _ _ (by show m * 256 < 18446744073709551616; omega) (by show c < 18446744073709551616; omega)]
  congr 1
  rw [Nat.mul_comm]
  exact (Nat.two_pow_add_eq_or_of_lt (i := 8) (by omega : c < 2 ^ 8) m).symm
theorem grown_mid {w w1 w2 : World} {row : Option Nat} {B : Nat} (h : w.grownBy w1 row) (hb : Below B w1 w2) (hB : w.heap.size ≤ B) : w.grownBy w2 row :=
  ⟨hb.os.trans h.os, hb.tape.trans h.tape, hb.output.trans h.output, Nat.le_trans h.size hb.size, fun k hk hr => (hb.block k (by omega)).trans (h.block k hk hr)⟩
theorem grown_new {w w1 w2 : World} {row : Option Nat} {R : Nat} (h : w.grownBy w1 row) (hb : w1.grownBy w2 (some R)) (hR : w.heap.size ≤ R) : w.grownBy w2 row :=
  ⟨hb.os.trans h.os, hb.tape.trans h.tape, hb.output.trans h.output, Nat.le_trans h.size hb.size, fun k hk hr => (hb.block k (Nat.lt_of_lt_of_le hk h.size) (by intro e; have := Option.some.inj e; omega)).trans (h.block k hk hr)⟩
theorem Bld.keep {w w' : World} {base b : Nat} {l : List UInt8} (h : Bld w base b l) (hk : ∀ k, base ≤ k → w'.heap[k]? = w.heap[k]?) : Bld w' base b l := by
  have own : ∀ v n xs, w.ownsRow base 5 1 v n xs → w'.ownsRow base 5 1 v n xs := fun v n xs h => by
    refine ⟨h.1, ?_⟩
    rcases h.2 with h | ⟨g, cap, cur, hv, hg, hh, r⟩
    · exact .inl h
    · exact .inr ⟨g, cap, cur, hv, hg, (hk g hg).trans hh, r⟩
  rcases h with ⟨hb, v, h1, h2, h3⟩ | ⟨hb, v, h1, h2, h3⟩
  · exact .inl ⟨hb, v, (hk b hb).trans h1, own _ _ _ h2, h3⟩
  · exact .inr ⟨hb, v, (hk b hb).trans h1, own _ _ _ h2, h3⟩
/-- What a reader's taking of a part leaves. -/
def PartRet (w0 : World) (r : Nat) (b : List UInt8) (v : Value) (w : World) (e : Ending) (w' : World) : Prop :=
  w.grownBy w' (some r) ∧ ((∃ p rest a' cap', dec b = some (p, rest) ∧ e = .returned (.agg (ptC p).toArray) ∧ rest.length ≤ cap' ∧ RdB w0 a' rest ∧ RowAt w' r 62 #[.slice a' rest.length cap', .bool true]) ∨
    (dec b = none ∧ e = .returned (.agg (ptC ⟨[], 0, false⟩).toArray) ∧ RowAt w' r 62 #[v, .bool false]))
set_option maxRecDepth 100000 in
set_option maxHeartbeats 4000000 in
theorem part_any (w0 : World) (r : Nat) (a : Option Addr) (b : List UInt8) (n cap : Nat) (w : World) (hn : Hid (n = b.length)) (hc : n ≤ cap) (hm : n ≤ 100000) (hr : RowAt w r 62 #[.slice a n cap, .bool true]) (hw : Below w0.heap.size w0 w) (_hr0 : w0.heap.size ≤ r) (hb : RdB w0 a b) :
    Calls Tryz.prog 24 #[.pointer (some ⟨r, 0, none⟩)] w (PartRet w0 r b (.slice a n cap) w) := by
  have hrl := hr.lt
  have hcr0 := hr.cell 0
  have hcr1 := hr.cell 1
  have hfr0 := hr.frozen 0
  have hfr1 := hr.frozen 1
  simp only [List.getElem?_toArray, List.getElem?_cons_zero, List.getElem?_cons_succ] at hcr0 hcr1
  have HR := Lib.hid hr
  have HB := Lib.hid hb
  have HW := Lib.hid hw
  clear hb hr hw
  obtain ⟨K, hK⟩ : ∃ K, PartRet w0 r b (.slice a n cap) w = K := ⟨_, rfl⟩
  rw [hK]
  have HK : Hid (PartRet w0 r b (.slice a n cap) w = K) := hK
  clear hK
  have hbad : dec b = none → K (.returned (.agg #[.string ⟨#[]⟩, .int .i64 0, .bool false])) ((w.setCell ⟨r, 1, none⟩ (.bool false)).alloc (.cells #[.string ⟨#[]⟩, .int .i64 0, .bool false] 42)) := fun h1 => by
    rw [← HK.out]
    exact ⟨grown_trans (grown_setCell _ _ _) (grown_alloc _ _ |> fun h => ⟨h.os, h.tape, h.output, h.size, fun k hk _ => h.block k hk (by simp)⟩), .inr ⟨h1, rfl, (HR.out.set 1 _).below (below_alloc _)⟩⟩
  have HBAD := Lib.hid hbad
  have HROW : Hid (RowAt ((w.setCell ⟨r, 1, none⟩ (.bool false)).alloc (.cells #[.string ⟨#[]⟩, .int .i64 0, .bool false] 42)) w.heap.size 42 #[.string ⟨#[]⟩, .int .i64 0, .bool false]) := by
    have := RowAt.new (w.setCell ⟨r, 1, none⟩ (.bool false)) 42 #[.string ⟨#[]⟩, .int .i64 0, .bool false]
    rwa [show (w.setCell ⟨r, 1, none⟩ (.bool false)).heap.size = w.heap.size by simp] at this
  clear hbad
  cases b with
  | nil =>
    have hn0 : n = 0 := hn.out
    subst hn0
    go_enter Tryz.func24, Tryz.ntmps24
    go_wp2
    exact bodyPost_ret (results_row rfl rfl HROW.out aggP) rfl (HBAD.out rfl)
  | cons k t =>
    obtain ⟨blk, off, rfl, hlt, hcell⟩ := HB.out.at (by simp)
    have hcx : ∀ j (h : j < (k :: t).length), w.cell? ⟨blk, off + j, none⟩ = some (.int .u8 (((k :: t)[j]'h).toNat : Int)) := fun j h => (HW.out.cell (p := ⟨blk, off + j, none⟩) hlt).trans (hcell j h)
    have hcb : w.cell? ⟨blk, off, none⟩ = some (.int .u8 (k.toNat : Int)) := hcx 0 (by simp)
    have hn1 : n = t.length + 1 := hn.out
    have HCX := Lib.hid hcx
    have hbw : blk < w.heap.size := Nat.lt_of_lt_of_le hlt HW.out.size
    have HN1 := Lib.hid hn1
    have hn2 : 1 ≤ n := by omega
    clear hcell hcx hn1
    by_cases hk1 : k = 1
    · subst hk1
      have hcb : w.cell? ⟨blk, off, none⟩ = some (.int .u8 1) := hcb
      by_cases hn9 : 9 ≤ n
      · have HT : Hid (∀ j, j < 8 → ∃ x : UInt8, w.cell? ⟨blk, off + 1 + j, none⟩ = some (.int .u8 (x.toNat : Int)) ∧ beV (t.take (j + 1)) = beV (t.take j) * 256 + x.toNat) := fun j hj => by
          have hjl : j < t.length := by have := HN1.out; omega
          refine ⟨t[j], ?_, ?_⟩
          · have := HCX.out (j + 1) (by simp; omega)
            rw [show off + 1 + j = off + (j + 1) by omega]
            simpa using this
          · rw [List.take_succ_eq_append_getElem hjl]
            unfold beV
            rw [List.foldl_append]
            rfl
        have HLT : ∀ j, beV (t.take j) < 256 ^ j := fun j => by
          have key : ∀ (l : List UInt8) (a : Nat), l.foldl (fun n c => n * 256 + c.toNat) a < (a + 1) * 256 ^ l.length := by
            intro l
            induction l with
            | nil => intro a; simp
            | cons c l ih =>
              intro a
              have := ih (a * 256 + c.toNat)
              have hc := c.toNat_lt
              rw [List.foldl_cons, List.length_cons, Nat.pow_succ, Nat.mul_comm (256 ^ l.length) 256, ← Nat.mul_assoc]
              refine Nat.lt_of_lt_of_le this (Nat.mul_le_mul_right _ (by omega))
          have := key (t.take j) 0
          simp only [Nat.zero_add, Nat.one_mul] at this
          refine Nat.lt_of_lt_of_le this (Nat.pow_le_pow_right (by decide) (by simp; omega))
        have HLT := Lib.hid HLT
        go_enter Tryz.func24, Tryz.ntmps24
        go_wp2
        obtain ⟨W, hW⟩ : ∃ W, w.alloc (.cells #[.string ⟨#[]⟩, .int .i64 0, .bool false] 42) = W := ⟨_, rfl⟩
        rw [hW]
        go_loopw [4, 39] (fun m i wr => wr = W ∧ ∃ k : Nat, k ≤ 8 ∧ i = .int .i64 (k : Int) ∧ m = .int .u64 (beV (t.take k) : Int)) (fun _ i _ => 8 - (intOf i).toNat)
        case atStart => exact ⟨rfl, 0, by decide, rfl, rfl⟩
        case round =>
          obtain ⟨rfl, j, hj, rfl, rfl⟩ := hrel
          subst hW
          by_cases hj8 : j < 8
          · obtain ⟨x, hx, hv⟩ := HT.out j hj8
            have hl2 : beV (t.take j) < 72057594037927936 := Nat.lt_of_lt_of_le (HLT.out j) (Nat.le_trans (Nat.pow_le_pow_right (by decide) (by omega : j ≤ 7)) (by decide))
            obtain ⟨m, hm⟩ : ∃ m, beV (t.take j) = m := ⟨_, rfl⟩
            rw [hm] at hv hl2 ⊢
            have HV := Lib.hid hv
            have hxl := x.toNat_lt
            have hor := or_byte hl2 hxl
            clear hv hm
            go_wp2
            refine ⟨⟨trivial, j + 1, by omega, by go_num, ?_⟩, by simp [intOf]; omega⟩
            rw [HV.out]
            rfl
          · have hj8 : j = 8 := by omega
            subst hj8
            have hv64 : beV (t.take 8) < 18446744073709551616 := HLT.out 8
            obtain ⟨m, hm⟩ : ∃ m, beV (t.take 8) = m := ⟨_, rfl⟩
            rw [hm] at hv64 ⊢
            have HM := Lib.hid hm
            have hbk := bits_back m hv64
            clear hm
            have hgood : ∀ (a' : Option Addr) (c' : Nat) (nv : Int), nv = down m → RdB w0 a' (t.drop 8) → n - 9 ≤ c' → K (.returned (.agg #[.string ⟨#[]⟩, .int .i64 nv, .bool true])) ((w.setCell ⟨r, 0, none⟩ (.slice a' (n - 9) c')).alloc (.cells #[.string ⟨#[]⟩, .int .i64 nv, .bool true] 42)) := fun a' c' nv h1 h2 h3 => by
              rw [← HK.out]
              have hlen : n - 9 = (t.drop 8).length := by rw [HN1.out, List.length_drop]; omega
              refine ⟨grown_trans (grown_setCell _ _ _) (grown_alloc _ _ |> fun h => ⟨h.os, h.tape, h.output, h.size, fun k hk _ => h.block k hk (by simp)⟩), .inl ⟨⟨[], nv, true⟩, t.drop 8, a', c', ?_, rfl, by omega, h2, ?_⟩⟩
              · unfold dec
                dsimp only
                rw [if_pos ⟨rfl, by have := HN1.out; omega⟩, HM.out, h1]
              · rw [← hlen]
                exact (HR.out.set 0 _).below (below_alloc _)
            have hrow : ∀ (V : Value) (nv : Int), RowAt ((w.setCell ⟨r, 0, none⟩ V).alloc (.cells #[.string ⟨#[]⟩, .int .i64 nv, .bool true] 42)) w.heap.size 42 #[.string ⟨#[]⟩, .int .i64 nv, .bool true] := fun V nv => by
              have := RowAt.new (w.setCell ⟨r, 0, none⟩ V) 42 #[.string ⟨#[]⟩, .int .i64 nv, .bool true]
              rwa [show (w.setCell ⟨r, 0, none⟩ V).heap.size = w.heap.size by simp] at this
            have hdrop : RdB w0 (some ⟨blk, off + 9, none⟩) (t.drop 8) := by have := HB.out.skip 9; simpa using this
            have hnil : cap = 9 → t.drop 8 = [] := fun h => List.drop_eq_nil_of_le (by have := HN1.out; omega)
            have HGOOD := Lib.hid hgood
            have HROW2 := Lib.hid hrow
            have HDROP := Lib.hid hdrop
            have HNIL := Lib.hid hnil
            clear hgood hrow hdrop hnil
            go_wp2
            · refine bodyPost_ret (results_row rfl rfl (HROW2.out _ _) aggP) rfl (HGOOD.out _ _ _ ?_ ?_ ?_)
              · unfold wrap64 down; omega
              · rw [HNIL.out (by assumption)]; exact .inl rfl
              · omega
            · refine bodyPost_ret (results_row rfl rfl (HROW2.out _ _) aggP) rfl (HGOOD.out _ _ _ ?_ ?_ ?_)
              · unfold wrap64 down; omega
              · exact HDROP.out
              · omega
      · have HD : Hid (dec (1 :: t) = none) := by
          show _ = _
          unfold dec
          dsimp only
          rw [if_neg (fun h => by have := h.2; have := HN1.out; omega), if_neg (by decide)]
        go_enter Tryz.func24, Tryz.ntmps24
        go_wp2
        exact bodyPost_ret (results_row rfl rfl HROW.out aggP) rfl (HBAD.out HD.out)
    · by_cases hk2 : k = 2
      · subst hk2
        have hcb : w.cell? ⟨blk, off, none⟩ = some (.int .u8 2) := hcb
        obtain ⟨W1, hW1⟩ : ∃ W1, (w.alloc (.cells #[.string ⟨#[]⟩, .int .i64 0, .bool false] 42)).alloc (.cells #[.pointer none, .slice none 0 0] 96) = W1 := ⟨_, rfl⟩
        have hz0 : (w.alloc (.cells #[.string ⟨#[]⟩, .int .i64 0, .bool false] 42)).heap.size = w.heap.size + 1 := by rw [World.size_alloc]
        have hz1 : W1.heap.size = w.heap.size + 2 := by rw [← hW1, World.size_alloc, World.size_alloc]
        have hbw1 : Below w.heap.size w W1 := by rw [← hW1]; exact below_trans (below_alloc _) (below_alloc _)
        have hg1 : w.grownBy W1 (some r) := grown_below _ hbw1 (Nat.le_refl _)
        have hr1 : RowAt W1 r 62 #[.slice (some ⟨blk, off, none⟩) n cap, .bool true] := by rw [← hW1]; exact (HR.out.below (below_alloc _)).below (below_alloc _)
        have hR1 : RowAt W1 w.heap.size 42 #[.string ⟨#[]⟩, .int .i64 0, .bool false] := by rw [← hW1]; exact (RowAt.new _ _ _).below (below_alloc _)
        have hbl1 : Bld W1 (w.heap.size + 1) (w.heap.size + 1) [] := by
          have := Bld.new (w := w.alloc (.cells #[.string ⟨#[]⟩, .int .i64 0, .bool false] 42)) (base := w.heap.size + 1) (by omega)
          rwa [hW1, hz0] at this
        have hc1 : ∀ j (h : j < (2 :: t).length), W1.cell? ⟨blk, off + j, none⟩ = some (.int .u8 (((2 :: t)[j]'h).toNat : Int)) := fun j h => (hbw1.cell (p := ⟨blk, off + j, none⟩) hbw).trans (HCX.out j h)
        have hdec : dec (2 :: t) = (decT t []).map fun x => (⟨x.1, 0, false⟩, x.2) := by
          unfold dec
          dsimp only
          rw [if_neg (fun h => absurd h.1 (by decide)), if_pos rfl]
        have HG1 := Lib.hid hg1
        have HRR := Lib.hid hr1
        have HR1 := Lib.hid hR1
        have HBL := Lib.hid hbl1
        have HC1 := Lib.hid hc1
        have HDEC := Lib.hid hdec
        clear hg1 hr1 hR1 hbl1 hc1 hdec hbw1 HBAD HROW
        go_enter Tryz.func24, Tryz.ntmps24
        go_wp2
        generalize decide (0 < n) = bb
        go_loopw [8] (fun i wr => ∃ (j : Nat) (acc : List UInt8), 1 ≤ j ∧ j ≤ n ∧ i = .int .i64 (j : Int) ∧ Bld wr (w.heap.size + 1) (w.heap.size + 1) acc ∧ Below (w.heap.size + 1) W1 wr ∧ decT t [] = decT ((2 :: t).drop j) acc ∧ acc.length ≤ j) (fun i _ => n - (intOf i).toNat)
        case atStart => exact ⟨1, [], Nat.le_refl _, hn2, rfl, HBL.out, Below.refl _ _, rfl, Nat.zero_le _⟩
        case round =>
          obtain ⟨j, acc, hj1, hjn, rfl, hbl, hbe, hde, hal⟩ := hrel
          have hrr := HRR.out.mono hbe (by omega)
          have hRR := HR1.out.mono hbe (by omega)
          have HGW := Lib.hid (grown_mid HG1.out hbe (by omega))
          have hzw := hbe.size
          have hcr0 := hrr.cell 0
          have hcr1 := hrr.cell 1
          have hfr0 := hrr.frozen 0
          have hfr1 := hrr.frozen 1
          simp only [List.getElem?_toArray, List.getElem?_cons_zero, List.getElem?_cons_succ] at hcr0 hcr1
          have hcw : ∀ i (h : i < (2 :: t).length), wr.cell? ⟨blk, off + i, none⟩ = some (.int .u8 (((2 :: t)[i]'h).toNat : Int)) := fun i h => (hbe.cell (p := ⟨blk, off + i, none⟩) (by show blk < _; omega)).trans (HC1.out i h)
          have HBL2 := Lib.hid hbl
          have HBE := Lib.hid hbe
          have HDE := Lib.hid hde
          have HRR2 := Lib.hid hrr
          have HR2 := Lib.hid hRR
          have HCW := Lib.hid hcw
          clear hbl hbe hde hrr hRR hcw
          by_cases hlt2 : j + 1 < n
          · have hjl : j + 1 < (2 :: t).length := by rw [← hn.out]; exact hlt2
            obtain ⟨c, hcc⟩ : ∃ c, (2 :: t)[j]'(by omega) = c := ⟨_, rfl⟩
            obtain ⟨d, hdd⟩ : ∃ d, (2 :: t)[j + 1]'hjl = d := ⟨_, rfl⟩
            have hcj := HCW.out j (by omega)
            have hcj1 := HCW.out (j + 1) hjl
            rw [hcc] at hcj
            rw [hdd] at hcj1
            have hd1 : (2 :: t).drop (j + 1) = d :: (2 :: t).drop (j + 2) := by rw [List.drop_eq_getElem_cons hjl, hdd]
            have hd0 : (2 :: t).drop j = c :: d :: (2 :: t).drop (j + 2) := by rw [List.drop_eq_getElem_cons (by omega), hcc, hd1]
            have hde := HDE.out
            rw [hd0] at hde
            have HDE2 := Lib.hid hde
            have HD1 := Lib.hid hd1
            clear hde hd0 hd1 hcc hdd HDE hjl
            by_cases hc0 : c = 0
            · subst hc0
              have hcj : wr.cell? ⟨blk, off + j, none⟩ = some (.int .u8 0) := hcj
              by_cases hd1 : d = 1
              · subst hd1
                have hcj1 : wr.cell? ⟨blk, off + (j + 1), none⟩ = some (.int .u8 1) := hcj1
                have hgood : ∀ (w9 : World) (a' : Option Addr) (c' : Nat), w.grownBy w9 (some r) → RowAt w9 r 62 #[.slice a' (n - (j + 1 + 1)) c', .bool true] → RdB w0 a' ((2 :: t).drop (j + 2)) → n - (j + 1 + 1) ≤ c' → K (.returned (.agg #[.string ⟨acc.toArray⟩, .int .i64 0, .bool false])) w9 := fun w9 a' c' h1 h2 h3 h4 => by
                  rw [← HK.out]
                  have hlen : n - (j + 1 + 1) = ((2 :: t).drop (j + 2)).length := by rw [List.length_drop, ← hn.out]
                  rw [hlen] at h2 h4
                  refine ⟨h1, .inl ⟨⟨acc, 0, false⟩, (2 :: t).drop (j + 2), a', c', ?_, rfl, h4, h3, h2⟩⟩
                  rw [HDEC.out, HDE2.out, decT, if_pos rfl, if_pos rfl]
                  rfl
                have hset : ∀ V, RowAt (wr.setCell ⟨r, 0, none⟩ V) r 62 #[V, .bool true] ∧ RowAt (wr.setCell ⟨r, 0, none⟩ V) w.heap.size 42 #[.string ⟨#[]⟩, .int .i64 0, .bool false] ∧ w.grownBy (wr.setCell ⟨r, 0, none⟩ V) (some r) ∧ Bld (wr.setCell ⟨r, 0, none⟩ V) (w.heap.size + 1) (w.heap.size + 1) acc ∧ w.heap.size + 1 ≤ (wr.setCell ⟨r, 0, none⟩ V).heap.size := fun V =>
                  ⟨HRR2.out.set 0 V, HR2.out.other _ (by show w.heap.size ≠ r; omega), grown_trans HGW.out (grown_setCell _ _ _), HBL2.out.keep fun k hk => heap_setCell_other wr ⟨r, 0, none⟩ k V (by show k ≠ r; omega), by simp; omega⟩
                have hdrop : RdB w0 (some ⟨blk, off + (j + 1 + 1), none⟩) ((2 :: t).drop (j + 2)) := HB.out.skip (j + 2)
                have HGOOD := Lib.hid hgood
                have HSET := Lib.hid hset
                have HDROP := Lib.hid hdrop
                clear hgood hset hdrop
                have key : ∀ (a' : Option Addr) (c' : Nat) (V : Value), V = .slice a' (n - (j + 1 + 1)) c' → RdB w0 a' ((2 :: t).drop (j + 2)) → n - (j + 1 + 1) ≤ c' → Calls Tryz.prog 42 #[.pointer (some ⟨w.heap.size + 1, 0, none⟩)] (wr.setCell ⟨r, 0, none⟩ V) fun e w8 => e = .returned (.string ⟨acc.toArray⟩) ∧ RowAt w8 w.heap.size 42 #[.string ⟨#[]⟩, .int .i64 0, .bool false] ∧
                    ∀ w9, w8.grownBy w9 (some w.heap.size) → K (.returned (.agg #[.string ⟨acc.toArray⟩, .int .i64 0, .bool false])) w9 := fun a' c' V hV h1 h2 => by
                  obtain ⟨s1, s2, s3, s4, s5⟩ := HSET.out V
                  refine (shelf_Builder_String_any (w.heap.size + 1) (w.heap.size + 1) acc _ s4 s5).mono ?_
                  rintro e w8 ⟨rfl, hb8⟩
                  refine ⟨rfl, s2.mono hb8 (by omega), fun w9 h9 => ?_⟩
                  refine HGOOD.out w9 a' c' (grown_new (grown_mid s3 hb8 (by omega)) h9 (Nat.le_refl _)) ?_ h1 h2
                  rw [← hV]
                  exact (s1.mono hb8 (by omega)).grown h9 (fun g hg => by have := Option.some.inj hg; omega)
                have HKEY := Lib.hid key
                clear key
                go_wp2_with fail
                · refine (HKEY.out _ _ _ rfl (by rw [List.drop_eq_nil_of_le (by rw [← hn.out]; omega)]; exact .inl rfl) (by omega)).mono ?_
                  rintro e w8 ⟨rfl, h8, h9⟩
                  have H8 := Lib.hid h8
                  have H9 := Lib.hid h9
                  clear h8 h9
                  go_wp2_with (first | (refine step_storeRow rfl 42 (.tmp 2) (.tmp 108) rfl rfl w.heap.size #[.string ⟨acc.toArray⟩, .int .i64 0, .bool false] rfl rfl 42 _ H8.out aggP.2 rfl (by simp [Value.oneCell']) ?_; intro w9 h10 h11; have H10 := Lib.hid h10; have H11 := Lib.hid h11; clear h10 h11))
                  exact bodyPost_ret (results_row rfl rfl H10.out aggP) rfl (H9.out _ H11.out)
                · refine (HKEY.out _ _ _ rfl HDROP.out (by omega)).mono ?_
                  rintro e w8 ⟨rfl, h8, h9⟩
                  have H8 := Lib.hid h8
                  have H9 := Lib.hid h9
                  clear h8 h9
                  go_wp2_with (first | (refine step_storeRow rfl 42 (.tmp 2) (.tmp 108) rfl rfl w.heap.size #[.string ⟨acc.toArray⟩, .int .i64 0, .bool false] rfl rfl 42 _ H8.out aggP.2 rfl (by simp [Value.oneCell']) ?_; intro w9 h10 h11; have H10 := Lib.hid h10; have H11 := Lib.hid h11; clear h10 h11))
                  exact bodyPost_ret (results_row rfl rfl H10.out aggP) rfl (H9.out _ H11.out)
              · by_cases hd2 : d = 255
                · subst hd2
                  have hcj1 : wr.cell? ⟨blk, off + (j + 1), none⟩ = some (.int .u8 255) := hcj1
                  go_wp2_with (first | (go_at_call 41; refine (wbyte_any (w.heap.size + 1) (w.heap.size + 1) acc 0 wr HBL2.out (by omega) (by omega)).mono ?_; rintro e w2 ⟨rfl, h1, h2⟩; have H1 := Lib.hid h1; have H2 := Lib.hid (HBE.out.trans h2); clear h1 h2))
                  go_roundw
                  case rel => exact ⟨j + 2, acc ++ [0], by omega, by omega, by go_num, H1.out, H2.out, HDE2.out, by simp; omega⟩
                  case measure => simp [intOf]; omega
                · have hdi1 : (d.toNat : Int) ≠ 1 := fun e => hd1 (UInt8.toNat_inj.1 (by show d.toNat = 1; omega))
                  have hdi2 : (d.toNat : Int) ≠ 255 := fun e => hd2 (UInt8.toNat_inj.1 (by show d.toNat = 255; omega))
                  have HN : Hid (dec (2 :: t) = none) := by
                    show _ = _
                    rw [HDEC.out, HDE2.out]
                    unfold decT
                    rw [if_pos rfl, if_neg hd1, if_neg hd2]
                    rfl
                  have HS : Hid (RowAt (wr.setCell ⟨r, 1, none⟩ (.bool false)) w.heap.size 42 #[.string ⟨#[]⟩, .int .i64 0, .bool false]) := HR2.out.other _ (by show w.heap.size ≠ r; omega)
                  have HS2 : Hid (RowAt (wr.setCell ⟨r, 1, none⟩ (.bool false)) r 62 #[.slice (some ⟨blk, off, none⟩) n cap, .bool false]) := HRR2.out.set 1 _
                  have HS3 : Hid (w.grownBy (wr.setCell ⟨r, 1, none⟩ (.bool false)) (some r)) := grown_trans HGW.out (grown_setCell _ _ _)
                  go_wp2_with (first | (refine step_storeRow rfl 42 (.tmp 2) (.tmp 121) rfl rfl w.heap.size #[.string ⟨#[]⟩, .int .i64 0, .bool false] rfl rfl 42 _ HS.out aggP.2 rfl (by simp [Value.oneCell']) ?_; intro w9 h8 h9; have H8 := Lib.hid h8; have H9 := Lib.hid (grown_new HS3.out h9 (Nat.le_refl _)); have H10 := Lib.hid (HS2.out.grown h9 (fun g hg => by have := Option.some.inj hg; omega)); clear h8 h9))
                  refine bodyPost_ret (results_row rfl rfl H8.out aggP) rfl ?_
                  rw [← HK.out]
                  exact ⟨H9.out, .inr ⟨HN.out, rfl, H10.out⟩⟩
            · have hci : (c.toNat : Int) ≠ 0 := fun e => hc0 (UInt8.toNat_inj.1 (by show c.toNat = 0; omega))
              have HDE3 : Hid (decT t [] = decT ((2 :: t).drop (j + 1)) (acc ++ [c])) := by
                show _ = _
                rw [HDE2.out, HD1.out, decT, if_neg hc0]
              go_wp2_with (first | (go_at_call 41; refine (wbyte_any (w.heap.size + 1) (w.heap.size + 1) acc c wr HBL2.out (by omega) (by omega)).mono ?_; rintro e w2 ⟨rfl, h1, h2⟩; have H1 := Lib.hid h1; have H2 := Lib.hid (HBE.out.trans h2); clear h1 h2))
              go_roundw
              case rel => exact ⟨j + 1, acc ++ [c], by omega, by omega, by go_num, H1.out, H2.out, HDE3.out, by simp; omega⟩
              case measure => simp [intOf]; omega
          · have HN : Hid (dec (2 :: t) = none) := by
              show _ = _
              rw [HDEC.out, HDE.out]
              have hl : ((2 :: t).drop j).length ≤ 1 := by rw [List.length_drop, ← hn.out]; omega
              cases hd : (2 :: t).drop j with
              | nil => rfl
              | cons c l =>
                cases l with
                | nil => rfl
                | cons d l => rw [hd] at hl; simp at hl
            have HS : Hid (RowAt (wr.setCell ⟨r, 1, none⟩ (.bool false)) w.heap.size 42 #[.string ⟨#[]⟩, .int .i64 0, .bool false]) := HR2.out.other _ (by show w.heap.size ≠ r; omega)
            have HS2 : Hid (RowAt (wr.setCell ⟨r, 1, none⟩ (.bool false)) r 62 #[.slice (some ⟨blk, off, none⟩) n cap, .bool false]) := HRR2.out.set 1 _
            have HS3 : Hid (w.grownBy (wr.setCell ⟨r, 1, none⟩ (.bool false)) (some r)) := grown_trans HGW.out (grown_setCell _ _ _)
            go_wp2_with (first | (refine step_storeRow rfl 42 (.tmp 2) (.tmp 121) rfl rfl w.heap.size #[.string ⟨#[]⟩, .int .i64 0, .bool false] rfl rfl 42 _ HS.out aggP.2 rfl (by simp [Value.oneCell']) ?_; intro w9 h8 h9; have H8 := Lib.hid h8; have H9 := Lib.hid (grown_new HS3.out h9 (Nat.le_refl _)); have H10 := Lib.hid (HS2.out.grown h9 (fun g hg => by have := Option.some.inj hg; omega)); clear h8 h9))
            refine bodyPost_ret (results_row rfl rfl H8.out aggP) rfl ?_
            rw [← HK.out]
            exact ⟨H9.out, .inr ⟨HN.out, rfl, H10.out⟩⟩
      · have hki : (k.toNat : Int) ≠ 1 := fun e => hk1 (UInt8.toNat_inj.1 (by show k.toNat = 1; omega))
        have hki2 : (k.toNat : Int) ≠ 2 := fun e => hk2 (UInt8.toNat_inj.1 (by show k.toNat = 2; omega))
        have HD : Hid (dec (k :: t) = none) := by
          show _ = _
          unfold dec
          dsimp only
          rw [if_neg (fun h => hk1 h.1), if_neg hk2]
        go_enter Tryz.func24, Tryz.ntmps24
        go_wp2
        exact bodyPost_ret (results_row rfl rfl HROW.out aggP) rfl (HBAD.out HD.out)
end Go.Proofs.YtlchnfjbcefkoaaGreat
