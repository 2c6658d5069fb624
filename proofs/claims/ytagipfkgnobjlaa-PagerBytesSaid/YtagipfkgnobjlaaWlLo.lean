/- Numbers as bytes: wal.low, wal.value; bytes.Clone. / wal.value: a number out of bytes. / wal.head: a head's sector. / wal.asked, wal.put, wal.Format. / wal.Format. -/
import Derived.Test.YtagipfkgnobjlaaDkHi
namespace Go.Proofs.Ytagipfkgnobjlaa
open Go.RowKit

/-- The number that the first n bytes say, the lowest first. -/
def leB : List UInt8 → Nat
  | [] => 0
  | x :: r => x.toNat + 256 * leB r
theorem leB_lt (l : List UInt8) : leB l < 256 ^ l.length := by
  induction l with
  | nil => simp [leB]
  | cons x r ih => have := x.toNat_lt; simp only [leB, List.length_cons, Nat.pow_succ]; omega
theorem leB_lowB (n : Nat) : ∀ x, x < 256 ^ n → leB (lowB x n) = x := by
  induction n with
  | zero => intro x h; simp at h; subst h; rfl
  | succ n ih =>
    intro x h
    simp only [lowB, leB]
    rw [ih (x / 256) (by rw [Nat.pow_succ] at h; omega), UInt8.toNat_ofNat']
    show x % 256 + _ = x
    omega
attribute [local go_sem] Oper.semAt_some
theorem clone_any (a : Option Addr) (l : List UInt8) (n cap : Nat) (w : World) (hn : n = l.length) (hb : n ≤ 100000000) (hl : RdB w a l) :
    Calls Try.prog 40 #[.slice a n cap] w (RetB 5 w l) := by
  have HL := Lib.hid hl
  have hnil := fun w a l c => Lib.run_eql_slice_nil (P := Try.prog) w 22 5 a l c 0 0 Try.underlying22
  cases a with
  | none =>
    obtain rfl : l = [] := by
      rcases hl with h | ⟨b, off, ha, _⟩
      · exact List.map_eq_nil_iff.1 h
      · cases ha
    clear hl
    go_enter Try.func40, Try.ntmps40
    go_wp2
    go_ret
    exact ⟨_, rfl, OwnB.nil _ _ _, Below.refl _ _⟩
  | some ad =>
    clear hl
    have hk := HL.out.mono (below_alloc (w := w) (.cells #[] 5))
    have ho : OwnB (w.alloc (.cells #[] 5)) w.heap.size 5 (.slice (some ⟨w.heap.size, 0, none⟩) 0 0) [] := World.ownsRow_lit w #[] 0 (Nat.le_refl _) (by decide) rfl
    have HK := Lib.hid hk
    have HO := Lib.hid ho
    have HN := Lib.hid hn
    clear hk ho hn
    go_enter Try.func40, Try.ntmps40
    go_wp2_with (at_builtin; refine step_appendB rfl (.tmp 5) (.tmp 6) rfl eltB w.heap.size _ [] rfl _ _ _ l rfl HO.out HN.out HK.out (by rw [← HN.out]; simp; omega) (by simp) ?_; intro v' w' h1 h2)
    go_ret
    exact ⟨_, rfl, by simpa using h1, (below_alloc _).trans h2⟩
set_option maxRecDepth 100000 in
set_option maxHeartbeats 400000 in
theorem low_any (x n : Nat) (hx : x < 18446744073709551616) (hn : n ≤ 1000) (w : World) :
    Calls Try.prog 68 #[.int .u64 (x : Int), .int .i64 (n : Int)] w (RetB 5 w (lowB x n)) := by
  go_enter Try.func68, Try.ntmps68
  go_wp2
  go_loopw [0, 5, 7] (fun s v i wr => ∃ k : Nat, ∃ y : Nat, k ≤ n ∧ y < 18446744073709551616 ∧ i = .int .i64 k ∧ s = .int .u64 y ∧ y = x / 256 ^ k ∧ OwnB wr w.heap.size 5 v (lowB x k) ∧ Below w.heap.size w wr) (fun _ _ i _ => n - (intOf i).toNat)
  case atStart => exact ⟨0, x, by omega, hx, rfl, rfl, by simp, OwnB.nil _ _ _, Below.refl _ _⟩
  case round =>
    obtain ⟨k, y, hk, hy, rfl, rfl, hyk, ho, hb⟩ := hrel
    have HO := Lib.hid ho
    have HB := Lib.hid hb
    have HY := Lib.hid hyk
    clear ho hb hyk
    by_cases hlt : k < n
    · have HC := Lib.hid (rd_byte (w := wr) y ((y : Int) % 256) 5 rfl)
      have HL : Hid (lowB x k ++ [UInt8.ofNat y] = lowB x (k + 1)) := by show _ = _; rw [lowB_snoc, ← HY.out]
      have HL2 := Lib.hid (lowB_length k x)
      go_wp2_with (at_builtin; refine step_appendB rfl (.tmp 9) (.tmp 12) rfl eltB w.heap.size _ (lowB x k) rfl _ _ _ [UInt8.ofNat y] rfl (HO.out.kept (below_alloc _) (Nat.le_refl _)) rfl HC.out (by rw [HL2.out]; simp; omega) (by have := HB.out.size; simp; omega) ?_; intro v' w' h1 h2)
      have h3 := HB.out.trans (((Below.refl _ wr).alloc HB.out.size _).trans h2)
      rw [HL.out] at h1
      have H1 := Lib.hid h1
      have H3 := Lib.hid h3
      clear h1 h2 h3
      go_wp2
      go_roundw
      case rel => exact ⟨k + 1, y / 256, by omega, by omega, by go_num, by go_num, by rw [HY.out, Nat.div_div_eq_div_mul, Nat.pow_succ], H1.out, H3.out⟩
      case measure => simp [intOf]; omega
    · obtain rfl : k = n := by omega
      go_wp2
      go_ret
      exact ⟨_, rfl, HO.out, HB.out⟩
theorem backward_any (w : World) (a : Option Addr) (n cap : Nat) : Calls Try.prog 78 #[.slice a n cap] w fun e w' => e = .returned (.func (.func 90) #[] #[.pointer (some ⟨w.heap.size, 0, none⟩)]) ∧ w' = w.alloc (.cells #[.slice a n cap] 22) := by
  go_enter Try.func78, Try.ntmps78
  go_wp2
  go_ret
  exact ⟨rfl, rfl⟩
theorem rdB_keep {W W' : World} {X : Nat → Prop} {a : Option Addr} {l : List UInt8} (h : RdB W a l) (hk : KeepC X W W') (hx : ∀ b off, a = some ⟨b, off, none⟩ → 0 < l.length → ¬ X b) : RdB W' a l := by
  by_cases h0 : 0 < l.length
  · exact Rd.keepC h hk (fun b off ha _ => hx b off ha h0)
  · exact .inl (by rw [List.eq_nil_of_length_eq_zero (by omega : l.length = 0)]; rfl)
set_option maxRecDepth 100000 in
set_option maxHeartbeats 4000000 in
theorem backward_stops (w : World) (B : Nat) (a : Option Addr) (n cap : Nat) (l : List UInt8) (hn : Hid (n = l.length)) (hb : n ≤ 2000000) (hbox : w.cell? ⟨B, 0, none⟩ = some (.slice a n cap)) (hl : RdB w a l)
    (X : Nat → Prop) (hXB : ¬ X B) (hXa : ∀ b off, a = some ⟨b, off, none⟩ → 0 < l.length → ¬ X b) :
    Stops Try.prog 90 #[.pointer (some ⟨B, 0, none⟩)] X (fun k args _ => ∃ x : UInt8, l[n - 1 - k]? = some x ∧ args = #[.int .i64 ((n - 1 - k : Nat) : Int), .int .u8 (x.toNat : Int)]) l.length w := by
  intro lp J Jx W hW hJ hJx hY h0
  refine callsIn_of_wp Try.func90 rfl trivial ?_ rfl
  simp only [Try.ntmps90, List.size_toArray, List.length_cons, List.length_nil, Nat.reduceAdd, Nat.reduceSub, Array.replicate_succ, Array.replicate_zero, List.push_toArray, List.append_toArray, List.nil_append, List.cons_append]
  have hbl : B < w.heap.size := World.block_lt_of_cell? w _ hbox
  have hbox1 : W.cell? ⟨B, 0, none⟩ = some (.slice a n cap) := (hW.cell (p := ⟨B, 0, none⟩) hbl).trans hbox
  have HBX := Lib.hid hbox1
  have HL := Lib.hid (hl.mono hW)
  have HXA := Lib.hid hXa
  have HXB := Lib.hid hXB
  have HY := Lib.hid hY
  have H0 := Lib.hid h0
  clear hbl hXa hXB hJ hJx hY hbox hl h0 hW
  gi_wp2
  gi_loopw [3] (fun p wr => ∃ k : Nat, k ≤ n ∧ p = .int .i64 ((n : Int) - 1 - (k : Int)) ∧ J k wr ∧ KeepC X W wr) (fun p _ => (intOf p + 1).toNat)
  case atStart => exact ⟨0, Nat.zero_le _, by simp, H0.out, KeepC.refl _ _⟩
  case round =>
    obtain ⟨k, hk, rfl, hJk, hkc⟩ := hrel
    have HJK := Lib.hid hJk
    have HKC := Lib.hid hkc
    clear hJk hkc hbox1
    by_cases hlt : k < n
    · obtain ⟨q, hq⟩ : ∃ q : Nat, n - 1 - k = q := ⟨_, rfl⟩
      have hqi : (n : Int) - 1 - (k : Int) = (q : Int) := by omega
      have hkl : q < l.length := by rw [← hn.out]; omega
      have hbx := HKC.out.cell HBX.out HXB.out
      obtain ⟨b2, off, rfl, hlt2, hcell⟩ := (rdB_keep HL.out HKC.out HXA.out).at (by omega)
      have c0 := hcell q hkl
      obtain ⟨x, hx⟩ : ∃ x, l[q] = x := ⟨_, rfl⟩
      rw [hx] at c0
      obtain ⟨fn, tmps, assign, body, hy, hR⟩ := HY.out k #[.int .i64 (q : Int), .int .u8 (x.toNat : Int)] wr (by rw [← hn.out]; exact hlt) ⟨x, by rw [hq, ← hx]; exact List.getElem?_eq_getElem hkl, by rw [hq]⟩ HKC.out HJK.out
      have HR := Lib.hid hR
      have hb0 : (0 : Int) ≤ (q : Int) := by omega
      have hb1 : (q : Int) < (n : Int) := by omega
      rw [hqi]
      clear hcell hx hR
      gi_wp2_with fail
      refine HR.out.mono ?_
      rintro e W3 (⟨rfl, hJ3, hk3⟩ | ⟨rfl, hJx3⟩)
      · have HJ3 := Lib.hid hJ3
        have HK3 := Lib.hid (HKC.out.trans hk3)
        clear hJ3 hk3 c0 hy hbx
        gi_wp2
        go_roundw
        case rel => exact ⟨k + 1, by omega, by go_num, HJ3.out, HK3.out⟩
        case measure => first | (simp [intOf]; done) | (simp [intOf]; omega)
      · have HJ3 := Lib.hid hJx3
        clear hJx3 c0 hy hbx
        gi_wp2
        exact bodyPost_ret (results_none rfl _ _ _) rfl ⟨⟨_, rfl⟩, .inr ⟨k, by rw [← hn.out]; exact hlt, HJ3.out⟩⟩
    · obtain rfl : k = n := by omega
      have hneg : (k : Int) - 1 - (k : Int) = -1 := by omega
      rw [hneg]
      gi_wp2
      go_end0
      exact ⟨⟨_, rfl⟩, .inl (hn.out ▸ HJK.out)⟩
end Go.Proofs.Ytagipfkgnobjlaa
namespace Go.Proofs.Ytagipfkgnobjlaa
open Go.RowKit

attribute [local go_sem] Oper.semAt_some
theorem leB_drop (l : List UInt8) (q : Nat) (h : q < l.length) : leB (l.drop q) = l[q].toNat + 256 * leB (l.drop (q + 1)) := by
  rw [List.drop_eq_getElem_cons h]
  rfl
set_option maxRecDepth 100000 in
set_option maxHeartbeats 4000000 in
theorem value_any (w : World) (a : Option Addr) (l : List UInt8) (n cap : Nat) (hn : n = l.length) (hn8 : n ≤ 8) (hl : RdB w a l) :
    Calls Try.prog 72 #[.slice a n cap] w fun e w' => e = .returned (.int .u64 (leB l : Int)) ∧ Below w.heap.size w w' := by
  obtain ⟨g, hg⟩ : ∃ x, w.heap.size = x := ⟨_, rfl⟩
  have HL := Lib.hid hl
  have HN := Lib.hid hn
  rw [hg]
  obtain ⟨K, hK⟩ : ∃ K : Ending → World → Prop, (fun (e : Ending) (w' : World) => e = .returned (.int .u64 (leB l : Int)) ∧ Below g w w') = K := ⟨_, rfl⟩
  have HKT : Hid (∀ w', Below g w w' → K (.returned (.int .u64 (leB l : Int))) w') := fun w' h => by rw [← hK]; exact ⟨rfl, h⟩
  rw [hK]
  clear hK hl hn
  refine calls_of_wp_marks Try.func72 rfl ?_
  simp only [Try.ntmps72, List.size_toArray, List.length_cons, List.length_nil, Nat.reduceAdd, Nat.reduceSub, Array.replicate_succ, Array.replicate_zero, List.push_toArray, List.append_toArray, List.nil_append, List.cons_append]
  go_upto_region 2 with fail
  obtain ⟨W0, hW0⟩ : ∃ x, w.alloc (.cells #[.int .u64 0] 93) = x := ⟨_, rfl⟩
  have HB0 : Hid (Box W0 g 93 (.int .u64 0)) := by rw [← hW0, ← hg]; exact Box.new w _ _
  have HW0 : Hid (Below w.heap.size w W0) := by rw [← hW0]; exact below_alloc _
  have hWs : W0.heap.size = g + 1 := by rw [← hW0, ← hg]; simp
  rw [hW0]
  clear hW0
  go_wp2_with fail
  refine (backward_any _ _ _ _).mono ?_
  rintro _ w1 ⟨rfl, rfl⟩
  obtain ⟨W1, hW1⟩ : ∃ x, W0.alloc (.cells #[.slice a n cap] 22) = x := ⟨_, rfl⟩
  have HB1 : Hid (RowAt W1 (g + 1) 22 #[.slice a n cap]) := by rw [← hW1, ← hWs]; exact RowAt.new _ _ _
  have hb01 : Below W0.heap.size W0 W1 := by rw [← hW1]; exact below_alloc _
  have hW1s : W1.heap.size = g + 2 := by rw [← hW1, World.size_alloc, hWs]
  have HG1 : Hid (Box W1 g 93 (.int .u64 0)) := HB0.out.below hb01
  have HW1 : Hid (Below w.heap.size w W1) := below_trans HW0.out hb01
  have HBW : Hid (Below g w W1) := by have := HW1.out; rw [hg] at this; exact this
  have HL1 := Lib.hid (HL.out.mono HW1.out)
  rw [hWs, hW1]
  clear hW1 hb01
  go_wp2_with fail
  have hst := backward_stops W1 (g + 1) a n cap l HN (by omega) (HB1.out.cell 0) HL1.out (fun b => b = g) (by omega) (fun b off ha h1 hx => by
    rcases HL.out with h | ⟨b3, o3, h3, hlt3, _⟩
    · rw [List.map_eq_nil_iff.1 h] at h1; simp at h1
    · rw [ha] at h3; cases h3; omega)
  rw [← HN.out] at hst
  refine wp_range (gf := 90) (lb := #[.pointer (some ⟨g + 1, 0, none⟩)]) rfl (enters_of Try.func90 (by kernel_rfl) rfl) (fun b => b = g) (len := n) hst (fun k hk => by subst hk; omega) ?cps
    (fun k W => Box W g 93 (.int .u64 (leB (l.drop (n - k)) : Int))) (fun _ _ _ => False) ?cG ?cGx ?c0 ?cround ?cdone ?cstop
  case cps => rintro j args W ⟨x, _, rfl⟩; rfl
  case cG => exact fun j W W' h hs => h.stays hs
  case cGx => exact fun c j W W' h hs => h
  case c0 =>
    have h := HG1.out
    rw [Nat.sub_zero, List.drop_of_length_le (by rw [HN.out]; exact Nat.le_refl _)]
    exact h
  case cstop => exact fun D c k W _ _ _ h _ => h.elim
  case cround =>
    rintro lp k args W hk ⟨x, hget, rfl⟩ hkw hbx
    obtain ⟨q, hq⟩ : ∃ q : Nat, n - 1 - k = q := ⟨_, rfl⟩
    have hql : q < l.length := by rw [← HN.out]; omega
    have hxq : l[q] = x := by rw [hq, List.getElem?_eq_getElem hql] at hget; exact Option.some.inj hget
    have hst2 : leB (l.drop (n - (k + 1))) = x.toNat + 256 * leB (l.drop (n - k)) := by
      rw [show n - (k + 1) = q by omega, leB_drop l q hql, hxq, show q + 1 = n - k by omega]
    have hlt := leB_lt (l.drop (n - k))
    rw [List.length_drop, ← HN.out, show n - (n - k) = k by omega] at hlt
    have hlt7 : 256 ^ k ≤ 256 ^ 7 := Nat.pow_le_pow_right (by omega) (by omega)
    obtain ⟨y, hy⟩ : ∃ y, leB (l.drop (n - k)) = y := ⟨_, rfl⟩
    rw [hy] at hst2 hlt hbx
    have hy7 : y < 72057594037927936 := Nat.lt_of_lt_of_le hlt (by simpa using hlt7)
    obtain ⟨z, hz⟩ : ∃ z, x.toNat = z := ⟨_, rfl⟩
    have hz8 : z < 256 := by rw [← hz]; exact x.toNat_lt
    rw [hz] at hst2
    have HST := Lib.hid hst2
    have HBX := Lib.hid hbx
    rw [hz]
    clear hget hxq hst2 hlt hlt7 hy hbx hz hst hkw
    gi_wp2
    refine ⟨KeepA.refl _ _, fun W2 hs2 hk2 => ?_⟩
    have hb2 := HBX.out.stays hs2
    have hc := hb2.cell
    have hf := hb2.frozen
    clear hs2 hk2
    gi_wp2
    have hor : bits .or .u64 ((y : Int) * 256) (z : Int) = ((leB (l.drop (n - (k + 1))) : Nat) : Int) := by
      rw [HST.out]
      have h1 : ((y : Int) * 256) = ((y * 256 : Nat) : Int) := by omega
      rw [h1, bits_or_nat .u64 rfl (y * 256) z (by show y * 256 < 2 ^ 64; omega) (by show z < 2 ^ 64; omega)]
      have h2 := Nat.shiftLeft_add_eq_or_of_lt (i := 8) (show z < 2 ^ 8 by omega) y
      rw [Nat.shiftLeft_eq] at h2
      have h3 : y * 256 ||| z = y * 256 + z := h2.symm
      rw [h3]
      congr 1
      omega
    refine ⟨(KeepA.setCell (KeepA.setCell (KeepA.refl _ _) rfl) rfl), ?_⟩
    have := (hb2.set (.int .u64 ((y : Int) * 256))).set (.int .u64 (bits .or .u64 ((y : Int) * 256) (z : Int)))
    rw [hor] at this
    rw [hor]
    exact this
  case cdone =>
    rintro D W hD hkw hbx hdf
    rw [Nat.sub_self, List.drop_zero] at hbx
    have HDF := Lib.hid hdf
    have hBW : Below g w W := HBW.out.trans (hkw.below (by omega) (by rintro x rfl; exact Nat.le_refl _))
    have HBWW := Lib.hid hBW
    have hc := hbx.cell
    rw [hW1s] at hD
    clear hkw hdf hBW hbx hst
    go_wp2
    refine post_marks [D] rfl (by simp) (by intro x hx; simp at hx; rw [hx]; exact HDF.out) fun w' hk => ⟨.int .u64 (leB l : Int), (results_tmp (t := 2) rfl _ _ _).trans rfl, HKT.out _ ?_⟩
    exact HBWW.out.trans (hk.below (by have := HBWW.out.size; omega) (fun x hx => by simp at hx; subst hx; omega))
end Go.Proofs.Ytagipfkgnobjlaa
namespace Go.Proofs.Ytagipfkgnobjlaa
open Go.RowKit

def headB (run base : Nat) : List UInt8 := lowB run 8 ++ (lowB base 8 ++ (List.replicate 488 0 ++ lowB run 8))
theorem splice_mid {α : Type} (P Q R C : List α) (k : Nat) (hk : P.length = k) (h : C.length = Q.length) : splice (P ++ (Q ++ R)) k C = P ++ (C ++ R) := by
  subst hk
  unfold splice
  rw [List.take_left, h, ← List.length_append, ← List.append_assoc P Q R, List.drop_left]
theorem head_gen (A B : List UInt8) (a b m : Nat) (hA : A.length = a) (hB : B.length = b) : splice (splice (splice (List.replicate (a + (b + (m + a))) (0 : UInt8)) 0 A) a B) (a + b + m) A = A ++ (B ++ (List.replicate m 0 ++ A)) := by
  have e1 : splice (List.replicate (a + (b + (m + a))) (0 : UInt8)) 0 A = A ++ (List.replicate b 0 ++ (List.replicate m 0 ++ List.replicate a 0)) := by
    rw [← List.replicate_append_replicate, ← List.replicate_append_replicate, ← List.replicate_append_replicate]
    exact splice_mid [] (List.replicate a 0) _ A 0 rfl (by rw [hA, List.length_replicate])
  rw [e1, splice_mid A (List.replicate b 0) _ B a hA (by rw [hB, List.length_replicate])]
  have e3 := splice_mid (A ++ (B ++ List.replicate m (0 : UInt8))) (List.replicate a 0) [] A (a + b + m) (by simp [hA, hB]; omega) (by rw [hA, List.length_replicate])
  simp only [List.append_nil, List.append_assoc] at e3
  exact e3
theorem headB_len (run base : Nat) : (headB run base).length = 512 := by
  unfold headB
  rw [List.length_append, List.length_append, List.length_append, lowB_length, lowB_length, List.length_replicate]
theorem head_splice (run base : Nat) : splice (splice (splice (List.replicate 512 (0 : UInt8)) 0 (lowB run 8)) 8 (lowB base 8)) 504 (lowB run 8) = headB run base := head_gen (lowB run 8) (lowB base 8) 8 8 488 (lowB_length 8 run) (lowB_length 8 base)
theorem rd_src {w : World} {a : Option Addr} {l : List UInt8} {cs : List Value} (h : RdB w a l) (hcs : l.map bv = cs) : 0 < cs.length → ∃ ad, a = some ad ∧ ∀ j v, cs[j]? = some v → w.cell? (ad.add j) = some v := fun hl => by
  subst hcs
  obtain ⟨b, off, rfl, _, hc⟩ := h.at (by simpa using hl)
  refine ⟨_, rfl, fun j v hv => ?_⟩
  rw [Addr.add_mid]
  rw [List.getElem?_map] at hv
  cases hj : l[j]? with
  | none => rw [hj] at hv; cases hv
  | some y =>
    rw [hj] at hv
    cases hv
    obtain ⟨hlt, rfl⟩ := List.getElem?_eq_some_iff.1 hj
    exact hc j hlt
set_option maxRecDepth 100000 in
set_option maxHeartbeats 1000000 in
theorem head_any (run base : Nat) (hr : run < 18446744073709551616) (hb : base < 18446744073709551616) (w : World) : Calls Try.prog 70 #[.int .u64 (run : Int), .int .u64 (base : Int)] w (RetB 5 w (headB run base)) := by
  have HL1 := Lib.hid (low_any run 8 hr (by omega))
  have HL2 := Lib.hid (low_any base 8 hb (by omega))
  obtain ⟨g, hg⟩ : ∃ x, w.heap.size = x := ⟨_, rfl⟩
  obtain ⟨A, hA⟩ : ∃ A, lowB run 8 = A := ⟨_, rfl⟩
  obtain ⟨B, hB⟩ : ∃ B, lowB base 8 = B := ⟨_, rfl⟩
  have hAl : A.length = 8 := by rw [← hA]; exact lowB_length 8 run
  have hBl : B.length = 8 := by rw [← hB]; exact lowB_length 8 base
  have HEQ := Lib.hid (head_splice run base)
  rw [hA] at HL1 HEQ
  rw [hB] at HL2 HEQ
  obtain ⟨AV, hAV⟩ : ∃ x, A.map bv = x := ⟨_, rfl⟩
  obtain ⟨BV, hBV⟩ : ∃ x, B.map bv = x := ⟨_, rfl⟩
  have hAVl : AV.length = 8 := by rw [← hAV, List.length_map, hAl]
  have hBVl : BV.length = 8 := by rw [← hBV, List.length_map, hBl]
  have HA1 : Hid (∀ v ∈ AV, v.oneCell' = true) := by rw [← hAV]; exact bv_one _
  have HB1 : Hid (∀ v ∈ BV, v.oneCell' = true) := by rw [← hBV]; exact bv_one _
  obtain ⟨Z, hZ⟩ : ∃ x, (List.replicate 512 (0 : UInt8)).map bv = x := ⟨_, rfl⟩
  have hZl : Z.length = 512 := by rw [← hZ]; simp
  obtain ⟨Z1, hZ1⟩ : ∃ x, splice Z 0 AV = x := ⟨_, rfl⟩
  obtain ⟨Z2, hZ2⟩ : ∃ x, splice Z1 8 BV = x := ⟨_, rfl⟩
  obtain ⟨Z3, hZ3⟩ : ∃ x, splice Z2 504 AV = x := ⟨_, rfl⟩
  have hZ1l : Z1.length = 512 := by rw [← hZ1, length_splice _ _ _ (by omega)]; exact hZl
  have hZ2l : Z2.length = 512 := by rw [← hZ2, length_splice _ _ _ (by omega)]; exact hZ1l
  have HFIN : Hid (Z3 = (headB run base).map bv) := by
    show _ = _
    rw [← HEQ.out, ← hZ3, ← hZ2, ← hZ1, ← hZ, ← hAV, ← hBV, splice_map, splice_map, splice_map]
  have HAV := Lib.hid hAV
  have HBV := Lib.hid hBV
  have HZ := Lib.hid hZ
  have HZ1 := Lib.hid hZ1
  have HZ2 := Lib.hid hZ2
  have HZ3 := Lib.hid hZ3
  clear hA hB hAV hBV hZ hZ1 hZ2 hZ3
  unfold RetB
  rw [hg]
  go_enter Try.func70, Try.ntmps70
  go_wp2_with (refine step_makeB rfl (.const (.int .i64 512)) (.const (.int .i64 512)) rfl 512 rfl rfl (by omega) ?_; rw [hg]; intro w1 q1 q2)
  rw [HZ.out] at q1
  have hg1 : g < w1.heap.size := q1.lt
  have HR1 : Hid (w1.heap[g]? = some (.cells Z.toArray 5 (0, 0))) := q1
  have HB1' := Lib.hid q2
  clear q1 q2
  refine (HL1.out w1).mono ?_
  rintro _ w2 ⟨v, rfl, hv, hb2⟩
  obtain ⟨va, vc, hv2, hvc, hvr⟩ := OwnB.rd hv
  rw [hAl] at hv2
  subst hv2
  have HS := Lib.hid (rd_src hvr HAV.out)
  have HR2 : Hid (w2.heap[g]? = some (.cells Z.toArray 5 (0, 0))) := (hb2.block g hg1).trans HR1.out
  have HB2 := Lib.hid (HB1'.out.trans (hb2.mono (by omega)))
  clear hv hvr hvc hb2
  go_wp2_with (refine wpList_copy_splice rfl (.tmp 7) (.tmp 9) 22 22 rfl 5 Try.underlying22 (by kernel_rfl) _ _ _ _ _ _ rfl rfl g 0 Z 5 HR2.out AV (by rw [hAVl]; rfl) (fun h => ⟨rfl, HS.out h⟩) (by omega) HA1.out g w HB2.out (Nat.le_refl _) ?_; intro w3 q1 q2)
  rw [HZ1.out] at q1
  have hg3 : g < w3.heap.size := (Array.getElem?_eq_some_iff.1 q1.out).1
  have HC2 := Lib.hid (HL2.out w3.drew)
  have hsl1 : ¬ (512 : Nat) = 8 := by decide
  go_region_held_law (fun _ => True) (trivial) (first
    | (go_at_call 68; refine HC2.out.mono ?_; rintro e w4 ⟨v, rfl, hv, hb4⟩; have hv' := hv; obtain ⟨ua, uc, hu2, hx⟩ := OwnB.rd hv'; clear hv'; rw [hBl] at hu2; subst hu2; have HS4 := Lib.hid (rd_src hx.2 HBV.out); have HR4 : Hid (w4.heap[g]? = some (.cells Z1.toArray 5 (0, 0))) := (hb4.block g hg3).trans q1.out; have HB4 : Hid (Below g w w4) := (drewN_below q2 1).trans (hb4.mono (Nat.le_of_lt hg3)); clear hx hv hb4)
    | (refine step_copy_splice rfl (.tmp 12) (.tmp 14) 22 22 rfl 5 Try.underlying22 (by kernel_rfl) _ _ _ _ _ _ rfl rfl g 8 Z1 5 HR4.out BV (by rw [hBVl]; rfl) (fun h => ⟨rfl, HS4.out h⟩) (by omega) HB1.out g w HB4.out (Nat.le_refl _) ?_; intro w5 q3 q4))
  rw [HZ2.out] at q3
  have hg5 : g < w5.heap.size := (Array.getElem?_eq_some_iff.1 q3.out).1
  have HC3 := Lib.hid (HL1.out w5.drew)
  clear q1 q2
  go_wp2
  go_region_held_law (fun _ => True) (trivial) (first
    | (go_at_call 68; refine HC3.out.mono ?_; rintro e w6 ⟨v, rfl, hv, hb4⟩; have hv' := hv; obtain ⟨xa, xc, hu2, hx⟩ := OwnB.rd hv'; clear hv'; rw [hAl] at hu2; subst hu2; have HS6 := Lib.hid (rd_src hx.2 HAV.out); have HR6 : Hid (w6.heap[g]? = some (.cells Z2.toArray 5 (0, 0))) := (hb4.block g hg5).trans q3.out; have HB6 : Hid (Below g w w6) := (drewN_below q4 1).trans (hb4.mono (Nat.le_of_lt hg5)); clear hx hv hb4)
    | (refine step_copy_splice rfl (.tmp 17) (.tmp 19) 22 22 rfl 5 Try.underlying22 (by kernel_rfl) _ _ _ _ _ _ rfl rfl g 504 Z2 5 HR6.out AV (by rw [hAVl]; rfl) (fun h => ⟨rfl, HS6.out h⟩) (by omega) HA1.out g w HB6.out (Nat.le_refl _) ?_; intro w7 q5 q6))
  rw [HZ3.out, HFIN.out] at q5
  go_wp2
  go_ret
  exact ⟨_, rfl, own_of_row q5.out (headB_len run base) (by unfold maxLen; omega) (Nat.le_refl _), q6⟩
end Go.Proofs.Ytagipfkgnobjlaa
namespace Go.Proofs.Ytagipfkgnobjlaa
open Go.RowKit

theorem size_any (w : World) (S : Nat → Prop) (b : Nat) (D : DK) (F : Nat) (h : DkS w S b D F) : Calls Try.prog 53 #[.pointer (some ⟨b, 0, none⟩)] w fun e w' => e = .returned (.int .i64 (D.size : Int)) ∧ w' = w := by
  obtain ⟨m, pv, fv, fl, st, h, -⟩ := h
  have HNO := Lib.hid (fun w hh => none_any w b D.size (.map (some m)) pv fv st hh h.size.1)
  have HD := Lib.hid h.hd
  obtain ⟨c0, _⟩ := DkHd.cells h.hd
  clear h
  go_enter Try.func53, Try.ntmps53
  go_wp2_with fail
  refine (HNO.out _ HD.out).mono ?_
  rintro _ w0 ⟨rfl, rfl⟩
  go_wp2
  go_ret
  exact ⟨rfl, rfl⟩
/-- May a log lie there? -/
def askW (size : Nat) (from_ n : Int) : Int := if n < 4 ∨ from_ < 0 then 2 else if (size : Int) < from_ ∨ (size : Int) - from_ < n then 4 else 0
set_option maxRecDepth 100000 in
theorem asked_s (w : World) (S : Nat → Prop) (b : Nat) (D : DK) (F : Nat) (from_ n : Int) (h : DkS w S b D F) : Calls Try.prog 69 #[.pointer (some ⟨b, 0, none⟩), .int .i64 from_, .int .i64 n] w fun e w' => e = .returned (.int .i64 (askW D.size from_ n)) ∧ w' = w := by
  have HS := Lib.hid (fun w h => size_any w S b D F h)
  have HZ := h.sizes
  have HH := Lib.hid h
  obtain ⟨s, hs⟩ : ∃ s, D.size = s := ⟨_, rfl⟩
  rw [hs] at HS HZ ⊢
  obtain ⟨hz1, hz2⟩ := HZ
  have hz3 : ((s : Int) == 0) = false := by simp; omega
  clear h hs
  by_cases h1 : n < 4
  · rw [show askW s from_ n = 2 by unfold askW; rw [if_pos (.inl h1)]]
    go_enter Try.func69, Try.ntmps69
    go_wp2_with fail
    refine (HS.out _ HH.out).mono ?_
    rintro _ w0 ⟨rfl, rfl⟩
    go_wp2
    go_ret
    exact ⟨rfl, rfl⟩
  by_cases h2 : from_ < 0
  · rw [show askW s from_ n = 2 by unfold askW; rw [if_pos (.inr h2)]]
    go_enter Try.func69, Try.ntmps69
    go_wp2_with fail
    refine (HS.out _ HH.out).mono ?_
    rintro _ w0 ⟨rfl, rfl⟩
    go_wp2
    go_ret
    exact ⟨rfl, rfl⟩
  by_cases h3 : (s : Int) < from_
  · rw [show askW s from_ n = 4 by unfold askW; rw [if_neg (by omega), if_pos (.inl h3)]]
    go_enter Try.func69, Try.ntmps69
    go_wp2_with fail
    refine (HS.out _ HH.out).mono ?_
    rintro _ w0 ⟨rfl, rfl⟩
    go_wp2
    go_ret
    exact ⟨rfl, rfl⟩
  have hw : IntKind.i64.wrap ((s : Int) - from_) = (s : Int) - from_ := IntWalk.i64_in _ (by omega)
  by_cases h4 : (s : Int) - from_ < n
  · rw [show askW s from_ n = 4 by unfold askW; rw [if_neg (by omega), if_pos (.inr h4)]]
    go_enter Try.func69, Try.ntmps69
    go_wp2_with fail
    refine (HS.out _ HH.out).mono ?_
    rintro _ w0 ⟨rfl, rfl⟩
    go_wp2
    go_ret
    exact ⟨rfl, rfl⟩
  · rw [show askW s from_ n = 0 by unfold askW; rw [if_neg (by omega), if_neg (by omega)]]
    go_enter Try.func69, Try.ntmps69
    go_wp2_with fail
    refine (HS.out _ HH.out).mono ?_
    rintro _ w0 ⟨rfl, rfl⟩
    go_wp2
    go_ret
    exact ⟨rfl, rfl⟩
/-- Written, and synced: what becomes of a disk. -/
def WS (F : Nat) (D : DK) (at_ : Int) (B : List UInt8) (er : Int) (D' : DK) : Prop :=
  (F = 0 → er = 0) ∧ ((er = 5 ∧ ∃ k, k ≤ B.length / 512 ∧ D' = ⟨D.size, D.last, D.pcs ++ wps at_ B k⟩) ∨
    ∃ k, k ≤ D.pcs.length + B.length / 512 ∧ Fine er k (D.pcs.length + B.length / 512) ∧ D' = ⟨D.size, laid D.last ((D.pcs ++ wps at_ B (B.length / 512)).take k), (D.pcs ++ wps at_ B (B.length / 512)).drop k⟩)
theorem wps_len (at_ : Int) (B : List UInt8) (k : Nat) : (wps at_ B k).length = k := by simp [wps]
theorem WS.ok {F : Nat} {D : DK} {at_ : Int} {B : List UInt8} {er : Int} {D' : DK} (h : WS F D at_ B er D') (he : er = 0) : D' = ⟨D.size, laid D.last (D.pcs ++ wps at_ B (B.length / 512)), []⟩ := by
  subst he
  rcases h.2 with ⟨h, _⟩ | ⟨k, hk, hf, rfl⟩
  · cases h
  · rcases hf with ⟨_, rfl⟩ | h
    · have hl : (D.pcs ++ wps at_ B (B.length / 512)).length = D.pcs.length + B.length / 512 := by rw [List.length_append, wps_len]
      rw [List.take_of_length_le (by omega), List.drop_of_length_le (by omega)]
    · cases h
theorem WS.size {F : Nat} {D : DK} {at_ : Int} {B : List UInt8} {er : Int} {D' : DK} (h : WS F D at_ B er D') : D'.size = D.size ∧ D'.pcs.length ≤ D.pcs.length + B.length / 512 := by
  rcases h.2 with ⟨_, k, hk, rfl⟩ | ⟨k, hk, hf, rfl⟩
  · exact ⟨rfl, by dsimp only; rw [List.length_append, wps_len]; omega⟩
  · exact ⟨rfl, by dsimp only; rw [List.length_drop, List.length_append, wps_len]; omega⟩
theorem plus_plus {S : Nat → Prop} {w w1 w2 w3 : World} (h1 : w.heap.size ≤ w1.heap.size) (h2 : w1.heap.size ≤ w2.heap.size) (h3 : w2.heap.size ≤ w3.heap.size) : ∀ x, Plus (Plus S (Span w1 w2)) (Span w2 w3) x → Plus S (Span w w3) x := by
  rintro x ((h | ⟨h, h'⟩) | ⟨h, h'⟩)
  · exact .inl h
  · exact .inr ⟨by omega, by omega⟩
  · exact .inr ⟨by omega, h'⟩
theorem plus_le {S : Nat → Prop} {w w1 w2 w3 : World} (h1 : w.heap.size ≤ w1.heap.size) (h3 : w2.heap.size ≤ w3.heap.size) : ∀ x, Plus S (Span w1 w2) x → Plus S (Span w w3) x := by
  rintro x (h | ⟨h, h'⟩)
  · exact .inl h
  · exact .inr ⟨by omega, by omega⟩
/-- A write, then a sync, seen from the world ahead. -/
theorem keep_ws {S : Nat → Prop} {w w1 w2 w3 : World} (hb : Below w.heap.size w w1) (k1 : KeepA S w1 w2) (k2 : KeepA (Plus S (Span w1 w2)) w2 w3) : KeepA S w w3 :=
  ((KeepA.of_below hb).trans k1).trans2 k2 fun x hx h => h.elim id fun h => by have := hb.size; have := h.1; omega
theorem keep_w {S : Nat → Prop} {w w1 w2 : World} (hb : Below w.heap.size w w1) (k1 : KeepA S w1 w2) : KeepA S w w2 := (KeepA.of_below hb).trans k1
theorem ws_write {F : Nat} {D : DK} {at_ : Int} {B : List UInt8} {k : Nat} (hk : k ≤ B.length / 512) (hF : F = 0 → False) : WS F D at_ B 5 ⟨D.size, D.last, D.pcs ++ wps at_ B k⟩ := ⟨fun h => (hF h).elim, .inl ⟨rfl, k, hk, rfl⟩⟩
theorem ws_sync {F : Nat} {D : DK} {at_ : Int} {B : List UInt8} {k : Nat} {er : Int} (hk : k ≤ D.pcs.length + B.length / 512) (hF : F = 0 → er = 0) (hf : Fine er k (D.pcs.length + B.length / 512)) :
    WS F D at_ B er ⟨D.size, laid D.last ((D.pcs ++ wps at_ B (B.length / 512)).take k), (D.pcs ++ wps at_ B (B.length / 512)).drop k⟩ := ⟨hF, .inr ⟨k, hk, hf, rfl⟩⟩
set_option maxRecDepth 100000 in
set_option maxHeartbeats 1000000 in
theorem put_any (w : World) (S : Nat → Prop) (b : Nat) (D : DK) (F : Nat) (from_ : Int) (run base : Nat) (h : DkS w S b D F) (hs : ∀ x, S x → x < w.heap.size) (hf0 : 0 ≤ from_) (hf1 : from_ + 2 ≤ D.size) (hr : run < 18446744073709551616) (hbs : base < 18446744073709551616) (hp : D.pcs.length ≤ 900000) :
    Calls Try.prog 55 #[.pointer (some ⟨b, 0, none⟩), .int .i64 from_, .int .u64 (run : Int), .int .u64 (base : Int)] w fun e w' => (∃ er D', e = .returned (.int .i64 er) ∧ WS F D (from_ + ((run % 2 : Nat) : Int)) (headB run base) er D' ∧ DkS w' (Plus S (Span w w')) b D' F) ∧ KeepA S w w' := by
  have HH := Lib.hid (head_any run base hr hbs)
  have HD := Lib.hid h
  have HS := Lib.hid hs
  have hz := h.sizes
  obtain ⟨B, hB⟩ : ∃ B, headB run base = B := ⟨_, rfl⟩
  have hBl : B.length = 512 := by rw [← hB]; exact headB_len run base
  rw [hB] at HH ⊢
  have hm : IntKind.i64.wrap (from_ + (run : Int) % 2) = from_ + ((run % 2 : Nat) : Int) := by rw [IntWalk.i64_in _ (by omega)]; omega
  have hq : B.length / 512 = 1 := by rw [hBl]
  clear h hs hB
  go_enter Try.func55, Try.ntmps55
  go_wp2_with fail
  refine (HH.out _).mono ?_
  rintro _ w1 ⟨v, rfl, hv, hb1⟩
  obtain ⟨a, c, hv2, hc, hrd⟩ := OwnB.rd hv
  rw [hBl] at hv2 hc
  have hab : ∀ ad, a = some ad → ¬ S ad.block := fun ad had hsx => by
    have h1 := HS.out _ hsx
    have h2 := (World.ownsRow.lt hv ad.block (by rw [hv2, had]; rfl)).1
    omega
  subst hv2
  have HB1 := Lib.hid hb1
  have HW := Lib.hid (write_s w1 S b D F (from_ + ((run % 2 : Nat) : Int)) a B 512 c (HD.out.later hb1) hBl.symm hc hrd (fun _ => hab) (by omega) (by omega))
  clear hv hb1 hrd hab
  go_wp2_with fail
  refine HW.out.mono ?_
  rintro _ w2 ⟨⟨k, er, hk, -, hk0, hkf, rfl, hd2⟩, hk2⟩
  have hfine := hkf (by omega) (by omega) (by omega)
  have hall := fun h0 => hk0 h0 (by omega) (by omega) (by omega)
  have HD2 := Lib.hid hd2
  have HK2 := Lib.hid hk2
  have HFI := Lib.hid hfine
  have HAL := Lib.hid hall
  clear hk0 hkf hd2 hk2 hfine hall
  rcases HFI.out with ⟨rfl, hk1⟩ | rfl
  · subst hk1
    have HSY := Lib.hid (sync_s w2 _ b _ F HD2.out (by dsimp only; rw [List.length_append, wps_len]; omega))
    go_wp2_with fail
    refine HSY.out.mono ?_
    rintro _ w3 ⟨⟨k2, hk2, er, he0, hef, rfl, hd3⟩, hk3⟩
    have hl : (D.pcs ++ wps (from_ + ((run % 2 : Nat) : Int)) B (B.length / 512)).length = D.pcs.length + B.length / 512 := by rw [List.length_append, wps_len]
    try dsimp only at hk2 hef
    rw [hl] at hk2 hef
    have HF3 := Lib.hid (ws_sync (F := F) (D := D) (at_ := from_ + ((run % 2 : Nat) : Int)) (B := B) hk2 (fun h => (he0 h).2) hef)
    have HD3 := Lib.hid (hd3.mono (plus_plus (w := w) HB1.out.size HK2.out.size hk3.size))
    have HK3 := Lib.hid (keep_ws HB1.out HK2.out hk3)
    clear hd3 hk3 he0 hef
    go_wp2_with fail
    go_ret
    exact ⟨⟨_, _, rfl, HF3.out, HD3.out⟩, HK3.out⟩
  · have HD3 := Lib.hid (HD2.out.mono (plus_le (w := w) HB1.out.size (Nat.le_refl _)))
    have HF3 := Lib.hid (ws_write (F := F) (D := D) (at_ := from_ + ((run % 2 : Nat) : Int)) (B := B) hk (fun h0 => by have := (HAL.out h0).2; omega))
    go_wp2_with fail
    go_ret
    exact ⟨⟨_, _, rfl, HF3.out, HD3.out⟩, keep_w HB1.out HK2.out⟩
end Go.Proofs.Ytagipfkgnobjlaa
namespace Go.Proofs.Ytagipfkgnobjlaa
open Go.RowKit

/-- An empty log's bytes. -/
def fmtB (n : Nat) : List UInt8 := splice (List.replicate (n * 512) 0) 512 (headB 1 1)
theorem fmtB_len {n : Nat} (h : 2 ≤ n) : (fmtB n).length = n * 512 := by
  unfold fmtB
  rw [length_splice _ _ _ (by rw [headB_len, List.length_replicate]; omega), List.length_replicate]
set_option maxRecDepth 100000 in
set_option maxHeartbeats 1000000 in
theorem format_any (w : World) (S : Nat → Prop) (b : Nat) (D : DK) (F : Nat) (from_ : Int) (n : Nat) (h : DkS w S b D F) (hs : ∀ x, S x → x < w.heap.size) (hok : askW D.size from_ (n : Int) = 0) (hp : D.pcs.length ≤ 900000) :
    Calls Try.prog 50 #[.pointer (some ⟨b, 0, none⟩), .int .i64 from_, .int .i64 (n : Int)] w fun e w' => (∃ er D', e = .returned (.int .i64 er) ∧ WS F D from_ (fmtB n) er D' ∧ DkS w' (Plus S (Span w w')) b D' F) ∧ KeepA S w w' := by
  have HA := Lib.hid (asked_s w S b D F from_ n h)
  rw [hok] at HA
  have hz := h.sizes
  obtain ⟨hn4, hf0, hfs⟩ : 4 ≤ n ∧ 0 ≤ from_ ∧ from_ + (n : Int) ≤ D.size := by
    unfold askW at hok
    split at hok
    · cases hok
    · split at hok
      · cases hok
      · omega
  have HH := Lib.hid (head_any 1 1 (by omega) (by omega))
  have HD := Lib.hid h
  have HS := Lib.hid hs
  obtain ⟨HB', hHB⟩ : ∃ B, headB 1 1 = B := ⟨_, rfl⟩
  have hHl : HB'.length = 512 := by rw [← hHB]; exact headB_len 1 1
  rw [hHB] at HH
  obtain ⟨B, hB⟩ : ∃ B, fmtB n = B := ⟨_, rfl⟩
  have hBl : B.length = n * 512 := by rw [← hB]; exact fmtB_len (by omega)
  rw [hB]
  have HEQ : Hid (splice (List.replicate (n * 512) 0) 512 HB' = B) := by show _ = _; rw [← hB, ← hHB]; rfl
  have hq : B.length / 512 = n := by rw [hBl]; omega
  obtain ⟨g, hg⟩ : ∃ x, w.heap.size = x := ⟨_, rfl⟩
  obtain ⟨AV, hAV⟩ : ∃ x, HB'.map bv = x := ⟨_, rfl⟩
  have hAVl : AV.length = 512 := by rw [← hAV, List.length_map, hHl]
  have HA1 : Hid (∀ v ∈ AV, v.oneCell' = true) := by rw [← hAV]; exact bv_one _
  obtain ⟨Z, hZ⟩ : ∃ x, (List.replicate (n * 512) (0 : UInt8)).map bv = x := ⟨_, rfl⟩
  have hZl : Z.length = n * 512 := by rw [← hZ, List.length_map, List.length_replicate]
  have HFIN : Hid (splice Z 512 AV = B.map bv) := by show _ = _; rw [← HEQ.out, ← hZ, ← hAV, splice_map]
  have HAV := Lib.hid hAV
  have HZ := Lib.hid hZ
  have hw1 : IntKind.i64.wrap ((n : Int) * 512) = ((n * 512 : Nat) : Int) := by rw [IntWalk.i64_in _ (by omega)]; omega
  clear h hs hHB hB hAV hZ hok
  go_enter Try.func50, Try.ntmps50
  go_wp2_with fail
  refine HA.out.mono ?_
  rintro _ w0 ⟨rfl, rfl⟩
  go_wp2_with (refine step_makeB rfl (.tmp 18) (.tmp 18) rfl (n * 512) rfl rfl (by omega) ?_; rw [hg]; intro w1 q1 q2)
  rw [HZ.out] at q1
  have hg1 : g < w1.heap.size := q1.lt
  have HR1 := Lib.hid q1
  have HB1 := Lib.hid q2
  have HC := Lib.hid (HH.out w1.drew)
  have hn1 : ¬ n * 512 = 512 := by omega
  have hn2 : (512 : Int) ≤ ((n * 512 : Nat) : Int) := by omega
  have hn3 : 512 ≤ n * 512 := by omega
  clear q1 q2
  go_region_held_law (fun _ => True) (trivial) (first
    | (go_at_call 70; refine HC.out.mono ?_; rintro e w2 ⟨v, rfl, hv, hb2⟩; have hv' := hv; obtain ⟨ua, uc, hu2, hx⟩ := OwnB.rd hv'; clear hv'; rw [hHl] at hu2; subst hu2; have HS2 := Lib.hid (rd_src hx.2 HAV.out); have HR2 : Hid (w2.heap[g]? = some (.cells Z.toArray 5 (0, 0))) := (hb2.block g hg1).trans HR1.out; have HB2 : Hid (Below g w0 w2) := (drewN_below HB1.out 1).trans (hb2.mono (Nat.le_of_lt hg1)); clear hx hv hb2)
    | (refine step_copy_splice rfl (.tmp 21) (.tmp 22) 22 22 rfl 5 Try.underlying22 (by kernel_rfl) _ _ _ _ _ _ rfl rfl g 512 Z 5 HR2.out AV (by rw [hAVl]; exact (Nat.min_eq_left (by omega)).symm) (fun h => ⟨rfl, HS2.out h⟩) (by omega) HA1.out g w0 HB2.out (Nat.le_refl _) ?_; intro w3 q3 q4))
  all_goals
    rw [HFIN.out] at q3
    have hb3 : Below w0.heap.size w0 w3 := by rw [hg]; exact q4
    have hrow : RowAt w3 g 5 (B.map bv).toArray := q3.out
    have hown := own_of_row (base := g) hrow hBl (by unfold maxLen; omega) (Nat.le_refl _)
    obtain ⟨a', c', hv2, hc, hrd⟩ := OwnB.rd hown
    rw [hBl] at hv2 hc
    have hcc : c' = n * 512 ∧ a' = some ⟨g, 0, none⟩ := by cases hv2; exact ⟨rfl, rfl⟩
    obtain ⟨rfl, rfl⟩ := hcc
    have HB3 := Lib.hid hb3
    have HW := Lib.hid (write_s w3 S b D F from_ (some ⟨g, 0, none⟩) B (n * 512) (n * 512) (HD.out.later hb3) hBl.symm (Nat.le_refl _) hrd (fun _ ad had hsx => by cases had; have := HS.out _ hsx; dsimp only at this; omega) (by omega) (by omega))
    clear q3 q4 hb3 hrow hown hv2 hc hrd
    go_wp2_with fail
    refine HW.out.mono ?_
    rintro _ w4 ⟨⟨k, er, hk, -, hk0, hkf, rfl, hd2⟩, hk2⟩
    have hfine := hkf (by omega) (by omega) (by omega)
    have hall := fun h0 => hk0 h0 (by omega) (by omega) (by omega)
    have HD2 := Lib.hid hd2
    have HK2 := Lib.hid hk2
    have HFI := Lib.hid hfine
    have HAL := Lib.hid hall
    clear hk0 hkf hd2 hk2 hfine hall
    rcases HFI.out with ⟨rfl, hk1⟩ | rfl
    · subst hk1
      have HSY := Lib.hid (sync_s w4 _ b _ F HD2.out (by dsimp only; rw [List.length_append, wps_len]; omega))
      go_wp2_with fail
      refine HSY.out.mono ?_
      rintro _ w5 ⟨⟨k2, hk2, er, he0, hef, rfl, hd3⟩, hk3⟩
      have hl : (D.pcs ++ wps from_ B (B.length / 512)).length = D.pcs.length + B.length / 512 := by rw [List.length_append, wps_len]
      try dsimp only at hk2 hef
      rw [hl] at hk2 hef
      have HF3 := Lib.hid (ws_sync (F := F) (D := D) (at_ := from_) (B := B) hk2 (fun h => (he0 h).2) hef)
      have HD3 := Lib.hid (hd3.mono (plus_plus (w := w0) HB3.out.size HK2.out.size hk3.size))
      have HK3 := Lib.hid (keep_ws HB3.out HK2.out hk3)
      clear hd3 hk3 he0 hef
      go_wp2_with fail
      go_ret
      exact ⟨⟨_, _, rfl, HF3.out, HD3.out⟩, HK3.out⟩
    · have HD3 := Lib.hid (HD2.out.mono (plus_le (w := w0) HB3.out.size (Nat.le_refl _)))
      have HF3 := Lib.hid (ws_write (F := F) (D := D) (at_ := from_) (B := B) hk (fun h0 => by have := (HAL.out h0).2; omega))
      go_wp2_with fail
      go_ret
      exact ⟨⟨_, _, rfl, HF3.out, HD3.out⟩, keep_w HB3.out HK2.out⟩
end Go.Proofs.Ytagipfkgnobjlaa
