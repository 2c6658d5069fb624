/- crc.All: the iterator's contract: it hands over the sums of all beginnings, one by one, for every loop body that leaves its cells alone. -/
import Derived.Test.YtiebcdobcnjmgaaCrcKnown
import Derived.Test.YtiebcdobcnjmgaaRange
namespace Go.Proofs.Ytiebcdobcnjmgaa
open Go.RowKit

attribute [local go_sem] Oper.semAt_some

set_option maxRecDepth 100000 in
set_option maxHeartbeats 1000000 in
theorem all1_stops (w : World) (B : Nat) (a : Option Addr) (n cap : Nat) (l : List UInt8) (hn : n = l.length) (hb : n ≤ 1000000) (hbox : w.cell? ⟨B, 0, none⟩ = some (.slice a n cap)) (hl : RdB w a l)
    (X : Nat → Prop) (hXB : ¬ X B) (hXa1 : ∀ b off, a = some ⟨b, off, none⟩ → 0 < l.length → ¬ X b) (hX : ∀ k, X k → k < w.heap.size) :
    Stops Try.prog 21 #[.pointer (some ⟨B, 0, none⟩)] X (fun k args _ => args = #[.int .i64 (k : Int), .int .u32 (sum32 (l.take k) : Nat)]) (n + 1) w := by
  intro lp J Jx W hW hJ hJx hY h0
  obtain ⟨T, htab, HTs, HT1, HTg⟩ := table_open
  have hi : (Try.prog.info? 39).map (·.size) = some T.size := by rw [HTs.out]; kernel_rfl
  have HX := Lib.hid htab
  have hz := zeroT32
  clear htab
  refine callsIn_of_wp Try.func21 rfl trivial ?_ rfl
  simp only [Try.ntmps21, List.size_toArray, List.length_cons, List.length_nil, Nat.reduceAdd, Nat.reduceSub, Array.replicate_succ, Array.replicate_zero, List.push_toArray, List.append_toArray, List.nil_append, List.cons_append]
  refine wpIn_wide.2 ?_
  go_wp2_with (first | (go_at_call 17; refine (HX.out _).mono ?_; rintro e w1 ⟨rfl, hb1⟩) | (refine wpList_store_row rfl 39 _ _ rfl _ T rfl rfl _ _ (heap_alloc_new _ _) hi (by rw [HTs.out]; simp) HT1 ?_))
  rw [setRow_alloc]
  have hbW := below_trans hb1 (below_alloc (w := w1) (.cells T 39))
  have hTW := heap_alloc_new w1 (.cells T 39)
  have hJ1 := hJ 0 _ _ none h0 (grown_below none hbW (Nat.le_refl _)) (by simp)
  have hgX : ¬ X w1.heap.size := fun h => by have := hX _ h; have := hW.size; have := hb1.size; omega
  have hbl : B < w.heap.size := World.block_lt_of_cell? w _ hbox
  have hbox1 : (w1.alloc (.cells T 39)).cell? ⟨B, 0, none⟩ = some (.slice a n cap) := (below_trans hW hbW).cell (p := ⟨B, 0, none⟩) hbl |>.trans hbox
  have hl1 := hl.mono (below_trans hW hbW)
  have hk0 : KeepC X W (w1.alloc (.cells T 39)) := (KeepA.of_below hbW).c
  generalize w1.alloc (.cells T 39) = W2 at *
  generalize w1.heap.size = g at *
  have HTW := Lib.hid hTW
  have HK0 := Lib.hid hk0
  have HJ := Lib.hid hJ1
  have HL := Lib.hid hl1
  have HBX := Lib.hid hbox1
  have HN := Lib.hid hn
  have HGX := Lib.hid hgX
  have HXB := Lib.hid hXB
  have HXA := Lib.hid hXa1
  have HY := Lib.hid hY
  clear hk0 hbW hTW hJ1 hgX hbl hbox1 hl1 hXa1 hJ hJx h0 hW hb1 hbox hl hX hXB hn HX HT1 hi hz hY
  refine (wpIn_wide (n := 3)).1 ?_
  gi_loopw [4, 5, 6] (fun r i _ wr => ∃ k : Nat, ∃ x : Nat, k ≤ n ∧ i = .int .i64 k ∧ r = .int .u32 x ∧ x = regs 4294967295 (l.take k) ∧ J k wr ∧ KeepC X W2 wr) (fun _ i _ _ => n - (intOf i).toNat)
  case atStart => exact ⟨0, 4294967295, by omega, rfl, rfl, by simp [regs], HJ.out, KeepC.refl _ _⟩
  case round =>
    obtain ⟨k, x, hk, rfl, rfl, hx, hJk, hkc⟩ := hrel
    have hxl : x < 4294967296 := by rw [hx]; exact regs_lt _ _ (by decide)
    have hc := comp32 x hxl
    have hsum : (x ^^^ 4294967295) = sum32 (l.take k) := by rw [hx]; rfl
    obtain ⟨fn, tmps, assign, body, hy, hR⟩ := HY.out k _ wr (by omega) rfl (HK0.out.trans hkc) hJk
    rw [← hsum] at hy
    have HR := Lib.hid hR
    have HKC := Lib.hid hkc
    have HX := Lib.hid hx
    clear hR hJk hkc hsum hx
    gi_wp2_with fail
    refine HR.out.mono ?_
    rintro e W3 (⟨rfl, hJ3, hk3⟩ | ⟨rfl, hJx3⟩)
    · have HJ3 := Lib.hid hJ3
      have HK3 := Lib.hid (HKC.out.trans hk3)
      clear hJ3 hk3
      have hbx3 : W3.cell? ⟨B, 0, none⟩ = some (.slice a n cap) := HK3.out.cell HBX.out HXB.out
      by_cases hlt : k < n
      · have hkl : k < l.length := by rw [← HN.out]; exact hlt
        have hl3 : RdB W3 a l := Rd.keepC HL.out HK3.out (fun b off ha _ => HXA.out b off ha (by omega))
        obtain ⟨b, off, rfl, hbl, hcell⟩ := RdB.at hl3 (by omega)
        have hck := hcell k hkl
        have hTW3 : W3.heap[g]? = some (.cells T 39) := HK3.out.same g _ _ _ HGX.out HTW.out
        have hx1 : Hid (regs 4294967295 (l.take (k + 1)) = (x / 256) ^^^ stps 3988292384 8 (x % 256 ^^^ l[k].toNat)) := by
          show _ = _
          rw [take_snoc l k hkl, regs_snoc, ← HX.out, reg1_table]
        have hbt := byte_lt l[k]
        generalize l[k].toNat = y at *
        obtain ⟨mm, hm, hm2, hxm⟩ : ∃ m : Nat, m < 256 ∧ bits .xor .u8 ((x : Int) % 256) (y : Int) = (m : Int) ∧ Hid (m = x % 256 ^^^ y) :=
          ⟨_, Nat.xor_lt_two_pow (n := 8) (by omega) hbt, by rw [show ((x : Int) % 256) = ((x % 256 : Nat) : Int) from rfl]; exact bits_xor_nat .u8 rfl _ _ (by show x % 256 < 256; omega) hbt, rfl⟩
        have hcm := cell_row hTW3 (HTg.out mm hm)
        have ht : stps 3988292384 8 mm < 4294967296 := stps_lt _ 32 (by decide) 8 mm (by omega)
        rw [← hxm.out] at hx1
        generalize stps 3988292384 8 mm = t at *
        have hbx2 : bits .xor .u32 ((x : Int) / 256) (t : Int) = ((x / 256 ^^^ t : Nat) : Int) := by
          rw [show ((x : Int) / 256) = ((x / 256 : Nat) : Int) from rfl]; exact bits_xor_nat .u32 rfl _ _ (by show x / 256 < 4294967296; omega) ht
        clear hl3 hcell hTW3 hc hy
        gi_wp2
        go_roundw
        case rel => exact ⟨k + 1, _, by omega, by go_num, rfl, hx1.out.symm, HJ3.out, HK3.out⟩
        case measure => simp [intOf]; omega
      · obtain rfl : k = n := by omega
        clear hc hy
        gi_wp2
        go_end0
        exact ⟨⟨_, rfl⟩, .inl HJ3.out⟩
    · have HJ3 := Lib.hid hJx3
      clear hJx3 hc hy
      gi_wp2
      go_end0
      exact ⟨⟨_, rfl⟩, .inr ⟨k, by omega, HJ3.out⟩⟩
end Go.Proofs.Ytiebcdobcnjmgaa
