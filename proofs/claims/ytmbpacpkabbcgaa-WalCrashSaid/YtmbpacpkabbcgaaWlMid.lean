/- wal.copied: batches in memory of their own; wal.Look. / Small functions of package wal: none, room, dies, Look, State. / A log and its disk, all their blocks in a set. / wal.Log.Reset. / wal.Open. -/
import Derived.Test.YtmbpacpkabbcgaaWlLook
namespace Go.Proofs.Ytmbpacpkabbcgaa
open Go.RowKit

theorem step_pushV {ops : Array Oper} {rest : List Oper} {o : Oper} {act : Act} {Q : Exit → Act → World → Prop} {w : World} (hgd : o.guard = none) (s x : Operand)
    (ho : o.op = .call { callee := .builtin .append, args := #[s, x], argTypes := #[36, 36] }) (base : Nat)
    (v : Value) (bs : List (List UInt8)) (hv : act.eval s = v) (g : Nat) (a : Option Addr) (l : List UInt8) (c : Nat) (hx : act.eval x = .slice (some ⟨g, 0, none⟩) 1 1)
    (hB : Bats w base v bs) (hg : RowAt w g 41 #[.slice a l.length c]) (hr : RdB w a l) (ha : ∀ ad, a = some ad → base ≤ ad.block ∧ ad.block < w.heap.size ∧ v.ownBlock ≠ some ad.block) (hsz : bs.length ≤ 1000000) (hbase : base ≤ w.heap.size)
    (h : ∀ v' w', Bats w' base v' (bs ++ [l]) → w.grownBy w' v.ownBlock → NewRow w v v' → wpList Try.prog ops Q rest (act.put o.dst v') w') : wpList Try.prog ops Q (o :: rest) act w :=
  wpList_plain hgd fun _ hK => wp_pushV s x ho base v bs hv g a l c hx hB hg hr ha hsz hbase fun v' w' q1 q2 q3 => hK _ _ (h v' w' q1 q2 q3)
theorem Bats.at {w : World} {base : Nat} {v : Value} {bs : List (List UInt8)} (h : Bats w base v bs) : ∃ a cp, v = .slice a bs.length cp ∧ bs.length ≤ cp ∧ ∀ j (hj : j < bs.length), ∃ hb ho xa xc, a = some ⟨hb, ho, none⟩ ∧ hb < w.heap.size ∧ w.cell? ⟨hb, ho + j, none⟩ = some (.slice xa bs[j].length xc) ∧ RdB w xa bs[j] := by
  obtain ⟨xs, h1, h2, h3⟩ := h
  obtain ⟨a, cp, hv, hcp, hrd⟩ := Rd.of_own h2
  subst h1
  refine ⟨a, cp, by rw [List.length_map]; exact hv, by rw [List.length_map]; exact hcp, fun j hj0 => ?_⟩
  have hj : j < xs.length := by simpa using hj0
  rcases hrd with h | ⟨hb, ho, ha, hlt, hc⟩
  · have : xs.length = 0 := by have := congrArg List.length h; simpa using this
    omega
  · have hx := hc j (by simpa using hj)
    refine ⟨hb, ho, (xs[j]).1, (xs[j]).2.1, ha, hlt, ?_, ?_⟩
    · rw [hx]
      simp
    · have := (h3 xs[j] (List.getElem_mem hj)).1
      simpa using this
set_option maxRecDepth 100000 in
set_option maxHeartbeats 2000000 in
theorem copied_any (w : World) (base : Nat) (v : Value) (bs : List (List UInt8)) (h : Bats w base v bs) (hn : bs.length ≤ 1000000) (hs : ∀ b ∈ bs, b.length ≤ 100000000) :
    Calls Try.prog 31 #[v] w fun e w' => (∃ v', e = .returned v' ∧ Bats w' w.heap.size v' bs) ∧ Below w.heap.size w w' := by
  obtain ⟨a, cp, rfl, hcp, hat⟩ := h.at
  have HAT := Lib.hid hat
  obtain ⟨m, hm⟩ : ∃ m, bs.length = m := ⟨_, rfl⟩
  rw [hm] at hcp hn ⊢
  have HM := Lib.hid hm
  clear h hat hm
  go_enter Try.func31, Try.ntmps31
  go_wp2
  go_loopw [3, 8] (fun v' i wr => ∃ j : Nat, j ≤ m ∧ i = .int .i64 (j : Int) ∧ Bats wr w.heap.size v' (bs.take j) ∧ Below w.heap.size w wr) (fun _ i _ => m - (intOf i).toNat)
  case atStart => exact ⟨0, by omega, rfl, Bats.nil _ _, Below.refl _ _⟩
  case round =>
    obtain ⟨j, hj, rfl, hB, hb⟩ := hrel
    have HB := Lib.hid hB
    have HBB := Lib.hid hb
    clear hB hb
    by_cases hjm : j < m
    · have hjI : (j : Int) < (m : Int) := by omega
      have hjl : j < bs.length := by rw [HM.out]; exact hjm
      obtain ⟨hbk, ho, xa, xc, rfl, hlt, hc, hr⟩ := HAT.out j hjl
      have hc1 := cell_later HBB.out hlt hc
      obtain ⟨l, hl⟩ : ∃ l, bs[j] = l := ⟨_, rfl⟩
      have hll : l.length ≤ 100000000 := by rw [← hl]; exact hs _ (List.getElem_mem hjl)
      rw [hl] at hc1 hr
      have HC := Lib.hid (clone_any xa l l.length xc wr rfl hll (hr.mono HBB.out))
      have htk : bs.take (j + 1) = bs.take j ++ [l] := by rw [← hl]; exact (List.take_append_getElem hjl).symm
      have HTK := Lib.hid htk
      obtain ⟨ll, hll2⟩ : ∃ z, l.length = z := ⟨_, rfl⟩
      have HLL := Lib.hid hll2
      rw [hll2] at hc1 HC
      clear hc hr hl htk hll2 hll
      go_wp2_with fail
      refine HC.out.mono ?_
      rintro _ w2 ⟨v2, rfl, ho2, hb2⟩
      obtain ⟨a2, c2, rfl, hc2, hr2⟩ := ho2.rd
      have HO2 := Lib.hid ho2
      have HR2 := Lib.hid hr2
      have HB2 := Lib.hid (HB.out.later hb2)
      have HBW := Lib.hid (HBB.out.trans (hb2.mono HBB.out.size))
      have HBS := Lib.hid hb2.size
      rw [HLL.out] at hc2 HO2 ⊢
      clear ho2 hr2 hb2
      obtain ⟨W3, hW3⟩ : ∃ y, w2.alloc (.cells #[.slice a2 ll c2] 41) = y := ⟨_, rfl⟩
      have hb3 : Below w2.heap.size w2 W3 := by rw [← hW3]; exact below_alloc _
      have HR3 : Hid (RowAt W3 w2.heap.size 41 #[.slice a2 l.length c2]) := by rw [← hW3, HLL.out]; exact RowAt.new _ _ _
      have HB3 := Lib.hid (HB2.out.later hb3)
      have HRD3 := Lib.hid (HR2.out.mono hb3)
      have HBW3 := Lib.hid (HBW.out.trans (hb3.mono HBW.out.size))
      have HHA : Hid (∀ ad, a2 = some ad → w.heap.size ≤ ad.block ∧ ad.block < W3.heap.size ∧ ∀ vv, Bats wr w.heap.size vv (bs.take j) → vv.ownBlock ≠ some ad.block) := fun ad he => by
        subst he
        have h1 := World.ownsRow.lt HO2.out ad.block rfl
        have h2 := HBB.out.size
        have h3 := hb3.size
        refine ⟨by omega, by omega, fun vv hv e => ?_⟩
        have := (hv.lt _ e).2
        omega
      have htl : (bs.take j).length ≤ 1000000 := by rw [List.length_take, HM.out]; omega
      have HTL := Lib.hid htl
      clear hb3 htl
      go_wp2_with (at_builtin; refine step_pushV rfl (.tmp 12) (.tmp 15) rfl w.heap.size _ (bs.take j) rfl w2.heap.size a2 l c2 rfl HB3.out HR3.out HRD3.out (fun ad he => ⟨(HHA.out ad he).1, (HHA.out ad he).2.1, (HHA.out ad he).2.2 _ HB.out⟩) HTL.out HBW3.out.size ?_; intro v4 w4 k1 k2 k3; have HB4 := Lib.hid k1; have HBW4 := Lib.hid (HBW3.out.trans (below_of_grown k2 HBW3.out.size (fun g hg => (HB3.out.lt g hg).1))); clear k1 k2 k3)
      refine ⟨⟨j + 1, by omega, by go_num, by rw [HTK.out]; exact HB4.out, HBW4.out⟩, by simp [intOf]; omega⟩
    · have hjm2 : j = m := by omega
      subst hjm2
      have hjI : ¬ (j : Int) < (j : Int) := by omega
      go_wp2
      go_ret
      refine ⟨⟨_, rfl, ?_⟩, HBB.out⟩
      have h := HB.out
      rw [List.take_of_length_le (by rw [HM.out]; omega)] at h
      exact h
end Go.Proofs.Ytmbpacpkabbcgaa
namespace Go.Proofs.Ytmbpacpkabbcgaa
open Go.RowKit

theorem results_tmp4 {fn : Func} {t u v x : Tmp} (h : fn.results = #[.tmp t, .tmp u, .tmp v, .tmp x]) (tmps : Array Value) (P : Program) (w : World) :
    (results fn tmps).run P w = .ok (.tuple #[tmps.getD t undef, tmps.getD u undef, tmps.getD v undef, tmps.getD x undef]) w := by
  simp [results, h]
theorem coll_len {BY : List UInt8} {n base run r long : Nat} : ∀ (f i : Nat) (acc : List UInt8) (a' : List UInt8) (i' : Nat), coll BY n base run r long f i acc = some (a', i') → a'.length ≤ acc.length + f * 488 ∧ i ≤ i' ∧ i' ≤ i + f
  | 0, i, acc, a', i', h => by
    unfold coll at h
    split at h
    · cases h
      omega
    · cases h
  | f + 1, i, acc, a', i', h => by
    unfold coll at h
    split at h
    · cases h
      omega
    · split at h
      · obtain ⟨h1, h2, h3⟩ := coll_len f (i + 1) _ a' i' h
        rw [List.length_append] at h1
        have : (dataOf BY i).length ≤ 488 := by unfold dataOf; rw [List.length_take]; omega
        exact ⟨by omega, by omega, by omega⟩
      · cases h
theorem parse_small {BY : List UInt8} {n base run : Nat} : ∀ (f used least : Nat) (bs : List (List UInt8)), (∀ b ∈ bs, b.length ≤ n * 488) → (∀ b ∈ (parse BY n base run f used least bs).2, b.length ≤ n * 488) ∧ (parse BY n base run f used least bs).2.length ≤ bs.length + f
  | 0, used, least, bs, h => by unfold parse; exact ⟨h, by simp⟩
  | f + 1, used, least, bs, h => by
    unfold parse
    split
    · split
      · exact ⟨h, by simp⟩
      · rename_i acc i hc
        obtain ⟨h1, h2, h3⟩ := coll_len _ _ _ _ _ hc
        have hl : ((acc.take (longOf BY used)).drop 4).length ≤ n * 488 := by
          rw [List.length_drop, List.length_take]
          have : (n - used) * 488 ≤ n * 488 := Nat.mul_le_mul_right _ (by omega)
          simp only [List.length_nil] at h1
          omega
        obtain ⟨h4, h5⟩ := parse_small f i (leB ((sec BY used).take 8)) (bs ++ [(acc.take (longOf BY used)).drop 4]) (fun b hb => by
          rcases List.mem_append.1 hb with hb | hb
          · exact h b hb
          · rw [List.mem_singleton.1 hb]; exact hl)
        refine ⟨h4, ?_⟩
        rw [List.length_append, List.length_singleton] at h5
        omega
    · exact ⟨h, by simp⟩
theorem headsP_small {L : Int → List UInt8} (from_ : Int) : ∀ k, (headsP L from_ k).1 < 4611686018427387904 ∧ (headsP L from_ k).2 ≤ (headsP L from_ k).1
  | 0 => by unfold headsP; exact ⟨by decide, by decide⟩
  | k + 1 => by
    unfold headsP hdStep
    split
    · rename_i h
      unfold hdOk at h
      simp only [Bool.and_eq_true, decide_eq_true_eq] at h
      exact ⟨h.2.1, h.2.2.2.2⟩
    · exact headsP_small from_ k
theorem lookP_small {L : Int → List UInt8} {from_ : Int} {n run base used : Nat} {bs : List (List UInt8)} (h : lookP L from_ n = some (run, base, used, bs)) (hn : n ≤ 65536) : (∀ b ∈ bs, b.length ≤ 100000000) ∧ bs.length ≤ 65537 ∧ run < 4611686018427387904 ∧ base ≤ run := by
  unfold lookP at h
  split at h
  · cases h
  · split at h
    · cases h
    · have h1 := parse_small (BY := bodyP L from_ n) (n := n) (base := (headsP L from_ 2).2) (run := (headsP L from_ 2).1) (n + 1) 0 (headsP L from_ 2).2 [] (fun b hb => by cases hb)
      have h2 := headsP_small (L := L) from_ 2
      obtain ⟨e1, e2⟩ := Prod.mk.inj (Option.some.inj h)
      obtain ⟨e2, e3⟩ := Prod.mk.inj e2
      rw [e3] at h1
      rw [e1, e2] at h2
      refine ⟨fun b hb => Nat.le_trans (h1.1 b hb) (by omega), ?_, h2⟩
      have := h1.2
      simp only [List.length_nil] at this
      omega
theorem LgRow.cells {w : World} {lb d : Nat} {from_ : Int} {n run base : Nat} {allv : Value} {used : Nat} {dead : Bool} (h : LgRow w lb d from_ n run base allv used dead) :
    w.cell? ⟨lb, 0, none⟩ = some (.pointer (some ⟨d, 0, none⟩)) ∧ w.cell? ⟨lb, 1, none⟩ = some (.int .i64 from_) ∧ w.cell? ⟨lb, 2, none⟩ = some (.int .i64 (n : Int)) ∧ w.cell? ⟨lb, 3, none⟩ = some (.int .u64 (run : Int)) ∧ w.cell? ⟨lb, 4, none⟩ = some (.int .u64 (base : Int)) ∧ w.cell? ⟨lb, 5, none⟩ = some allv ∧ w.cell? ⟨lb, 6, none⟩ = some (.int .i64 (used : Int)) ∧ w.cell? ⟨lb, 7, none⟩ = some (.bool dead) :=
  ⟨RowAt.cell h 0, RowAt.cell h 1, RowAt.cell h 2, RowAt.cell h 3, RowAt.cell h 4, RowAt.cell h 5, RowAt.cell h 6, RowAt.cell h 7⟩
set_option maxRecDepth 100000 in
theorem wnone_nil (w : World) : Calls Try.prog 32 #[.pointer none] w fun e w' => e = .returned (.bool true) ∧ w' = w := by
  go_enter Try.func32, Try.ntmps32
  go_wp2
  go_ret
  exact ⟨rfl, rfl⟩
set_option maxRecDepth 100000 in
theorem wnone_any (w : World) (lb d : Nat) (from_ : Int) (n run base : Nat) (allv : Value) (used : Nat) (dead : Bool) (h : LgRow w lb d from_ n run base allv used dead) :
    Calls Try.prog 32 #[.pointer (some ⟨lb, 0, none⟩)] w fun e w' => e = .returned (.bool false) ∧ w' = w := by
  have h0 := h.cells.1
  clear h
  go_enter Try.func32, Try.ntmps32
  go_wp2
  go_ret
  exact ⟨rfl, rfl⟩
def roomOf (n used : Nat) : Int := ((n : Int) - 2 - (used : Int)) * 488 - 4
set_option maxRecDepth 100000 in
theorem room_any (w : World) (lb d : Nat) (from_ : Int) (n run base : Nat) (allv : Value) (used : Nat) (dead : Bool) (h : LgRow w lb d from_ n run base allv used dead) (hn : n ≤ 65536) (hu : used ≤ 65536) :
    Calls Try.prog 33 #[.pointer (some ⟨lb, 0, none⟩)] w fun e w' => e = .returned (.int .i64 (roomOf n used)) ∧ Below w.heap.size w w' := by
  obtain ⟨-, -, h2, -, -, -, h6, -⟩ := h.cells
  have e1 : IntKind.i64.wrap ((n : Int) - 2) = (n : Int) - 2 := IntWalk.i64_in _ (by omega)
  have e2 : IntKind.i64.wrap ((n : Int) - 2 - (used : Int)) = (n : Int) - 2 - (used : Int) := IntWalk.i64_in _ (by omega)
  have e3 : IntKind.i64.wrap (((n : Int) - 2 - (used : Int)) * 488) = ((n : Int) - 2 - (used : Int)) * 488 := IntWalk.i64_in _ (by omega)
  have e4 : IntKind.i64.wrap (((n : Int) - 2 - (used : Int)) * 488 - 4) = roomOf n used := by rw [IntWalk.i64_in _ (by omega)]; rfl
  clear h
  go_enter Try.func33, Try.ntmps33
  go_wp2
  go_quiet (fail)
  go_wp2
  go_ret
  exact ⟨rfl, drewN_below (Below.refl _ _) _⟩
set_option maxRecDepth 100000 in
theorem dies_any (w : World) (lb d : Nat) (from_ : Int) (n run base : Nat) (allv : Value) (used : Nat) (dead : Bool) (er : Int) (h : LgRow w lb d from_ n run base allv used dead) :
    Calls Try.prog 35 #[.pointer (some ⟨lb, 0, none⟩), .int .i64 er] w fun e w' => e = .returned (.int .i64 er) ∧ LgRow w' lb d from_ n run base allv used (dead || er != 0) ∧ KeepA (fun x => x = lb) w w' := by
  obtain ⟨-, -, -, -, -, -, -, h7⟩ := h.cells
  have z7 := RowAt.frozen h 7
  have hset := RowAt.set h 7 (.bool (dead || er != 0))
  have HSET : Hid (LgRow (w.setCell ⟨lb, 7, none⟩ (.bool (dead || er != 0))) lb d from_ n run base allv used (dead || er != 0)) := hset
  have HK : Hid (KeepA (fun x => x = lb) w (w.setCell ⟨lb, 7, none⟩ (.bool (dead || er != 0)))) := keep_grown (grown_setCell _ _ _)
  clear h hset
  cases dead with
  | true =>
    go_enter Try.func35, Try.ntmps35
    go_wp2
    go_ret
    exact ⟨rfl, HSET.out, HK.out⟩
  | false =>
    obtain ⟨c, hc⟩ : ∃ c : Bool, (er != 0) = c := ⟨_, rfl⟩
    rw [hc] at HSET HK ⊢
    go_enter Try.func35, Try.ntmps35
    go_wp2
    go_ret
    exact ⟨rfl, HSET.out, HK.out⟩
set_option maxRecDepth 100000 in
/-- wal.Look. -/
theorem wlook_no (w : World) (S : Nat → Prop) (b : Nat) (D : DK) (F : Nat) (from_ n : Int) (h : DkS w S b D F) (hno : ¬ askW D.size from_ n = 0) :
    Calls Try.prog 11 #[.pointer (some ⟨b, 0, none⟩), .int .i64 from_, .int .i64 n] w fun e w' => e = .returned (.tuple #[.slice none 0 0, .int .i64 (askW D.size from_ n)]) ∧ Below w.heap.size w w' := by
  have HA := Lib.hid (look_no w S b D F from_ n h hno)
  obtain ⟨r, hr⟩ : ∃ r, askW D.size from_ n = r := ⟨_, rfl⟩
  rw [hr] at HA hno ⊢
  have hb : (r != 0) = true := by simpa using hno
  clear h hr
  go_enter Try.func11, Try.ntmps11
  go_wp2_with fail
  refine HA.out.mono ?_
  rintro _ w1 ⟨rfl, hb1⟩
  have HB := Lib.hid hb1
  clear hb1
  go_wp2
  go_ret2
  exact ⟨rfl, HB.out⟩
def WLookPost (w : World) (o : Option (Nat × Nat × Nat × List (List UInt8))) (e : Ending) (w' : World) : Prop :=
  Below w.heap.size w w' ∧ match o with
  | none => e = .returned (.tuple #[.slice none 0 0, .int .i64 9])
  | some (_, _, _, bs) => ∃ v, e = .returned (.tuple #[v, .int .i64 0]) ∧ Bats w' w.heap.size v bs
set_option maxRecDepth 100000 in
theorem wlook_any (w : World) (S : Nat → Prop) (b : Nat) (D : DK) (F : Nat) (from_ : Int) (n : Nat) (h : DkS w S b D F) (hok : askW D.size from_ (n : Int) = 0) (hp : D.pcs.length ≤ 900000) :
    Calls Try.prog 11 #[.pointer (some ⟨b, 0, none⟩), .int .i64 from_, .int .i64 (n : Int)] w (WLookPost w (lookP (laid D.last D.pcs) from_ n)) := by
  have HA := Lib.hid (look_any w S b D F from_ n h hok hp)
  have hn : n ≤ 65536 := by
    have hz := h.sizes
    unfold askW at hok
    split at hok
    · cases hok
    · split at hok
      · cases hok
      · omega
  obtain ⟨o, ho⟩ : ∃ o, lookP (laid D.last D.pcs) from_ n = o := ⟨_, rfl⟩
  rw [ho] at HA ⊢
  have HO := Lib.hid ho
  clear h hok ho
  cases o with
  | none =>
    go_enter Try.func11, Try.ntmps11
    go_wp2_with fail
    refine HA.out.mono ?_
    rintro _ w1 ⟨hb1, rfl⟩
    have HB := Lib.hid hb1
    clear hb1
    go_wp2
    go_ret2
    exact ⟨HB.out, rfl⟩
  | some q =>
    obtain ⟨run, base, used, bs⟩ := q
    obtain ⟨hs1, hs2, -, -⟩ := lookP_small HO.out hn
    have HS1 := Lib.hid hs1
    have HS2 := Lib.hid hs2
    clear hs1 hs2
    go_enter Try.func11, Try.ntmps11
    go_wp2_with fail
    refine HA.out.mono ?_
    rintro _ w1 ⟨hb1, lb, allv, rfl, hlb, hrow, hbats⟩
    have HB := Lib.hid hb1
    have HC := Lib.hid (fun (w' : World) (hb : Below w1.heap.size w1 w') => copied_any w' (lb + 1) allv bs (hbats.later hb) (by have := HS2.out; omega) HS1.out)
    have HR := Lib.hid hrow
    have c5 := hrow.cells.2.2.2.2.2.1
    clear hb1 hrow hbats
    go_wp2_with fail
    refine (HC.out _ (Below.refl _ _)).mono ?_
    rintro _ w2 ⟨⟨v, rfl, hbv⟩, hb2⟩
    have HB2 := Lib.hid (HB.out.trans (hb2.mono HB.out.size))
    have HV := Lib.hid (hbv.down HB.out.size)
    clear hbv hb2
    go_wp2
    go_ret2
    exact ⟨HB2.out, _, rfl, HV.out⟩
set_option maxRecDepth 100000 in
theorem state_nil (w : World) : Calls Try.prog 18 #[.pointer none] w fun e w' => e = .returned (.tuple #[.int .i64 0, .int .i64 0, .int .u64 0, .bool false]) ∧ w' = w := by
  have HN := Lib.hid (wnone_nil w)
  go_enter Try.func18, Try.ntmps18
  go_wp2_with fail
  refine HN.out.mono ?_
  rintro _ w1 ⟨rfl, rfl⟩
  go_wp2
  refine bodyPost_ret (results_tmp4 rfl _ _ _) rfl ?_
  exact ⟨rfl, rfl⟩
set_option maxRecDepth 100000 in
theorem state_any (w : World) (lb d : Nat) (from_ : Int) (n run base : Nat) (a5 : Option Addr) (n5 c5 : Nat) (used : Nat) (dead : Bool) (h : LgRow w lb d from_ n run base (.slice a5 n5 c5) used dead) (hn : n ≤ 65536) (hu : used ≤ 65536) :
    Calls Try.prog 18 #[.pointer (some ⟨lb, 0, none⟩)] w fun e w' => e = .returned (.tuple #[.int .i64 (n5 : Int), .int .i64 (max 0 (roomOf n used)), .int .u64 (run : Int), .bool dead]) ∧ Below w.heap.size w w' := by
  have HN := Lib.hid (wnone_any w lb d from_ n run base _ used dead h)
  have HR := Lib.hid (fun (w' : World) (hb : Below w.heap.size w w') => room_any w' lb d from_ n run base _ used dead (RowAt.below h hb) hn hu)
  obtain ⟨-, -, -, h3, -, h5, -, h7⟩ := h.cells
  have hlb : lb < w.heap.size := RowAt.lt h
  have HK : Hid (∀ w', Below w.heap.size w w' → w'.cell? ⟨lb, 5, none⟩ = some (.slice a5 n5 c5) ∧ w'.cell? ⟨lb, 3, none⟩ = some (.int .u64 (run : Int)) ∧ w'.cell? ⟨lb, 7, none⟩ = some (.bool dead)) := fun w' hb => ⟨cell_later hb hlb h5, cell_later hb hlb h3, cell_later hb hlb h7⟩
  obtain ⟨rm, hrm⟩ : ∃ x, roomOf n used = x := ⟨_, rfl⟩
  rw [hrm] at HR ⊢
  clear h hrm h3 h5 h7
  go_enter Try.func18, Try.ntmps18
  go_wp2_with fail
  refine HN.out.mono ?_
  rintro _ w1 ⟨rfl, rfl⟩
  have hbd : Below w1.heap.size w1 w1.drew := drewN_below (Below.refl _ w1) 1
  have HBD := Lib.hid hbd
  have hk1 := HK.out _ hbd
  clear hbd
  go_wp2
  go_region_held (fun w' => w'.cell? ⟨lb, 5, none⟩ = some (.slice a5 n5 c5) ∧ w'.cell? ⟨lb, 3, none⟩ = some (.int .u64 (run : Int)) ∧ w'.cell? ⟨lb, 7, none⟩ = some (.bool dead)) (first | assumption) (first
    | (go_simp; go_at_call 33; refine (HR.out w1.drew HBD.out).mono ?_; rintro e w5 ⟨rfl, hb5⟩; have HB5 := Lib.hid (below_trans HBD.out hb5); have hk5 := HK.out _ HB5.out; clear hb5))
  go_wp2
  all_goals
    refine bodyPost_ret (results_tmp4 rfl _ _ _) rfl ?_
    refine ⟨?_, HB5.out⟩
    first
      | (have h0 : max 0 rm = 0 := by omega
         rw [h0]; rfl)
      | (have h0 : max 0 rm = rm := by omega
         rw [h0]; rfl)
end Go.Proofs.Ytmbpacpkabbcgaa
namespace Go.Proofs.Ytmbpacpkabbcgaa
open Go.RowKit

/-- Batches in the heap, their blocks in a set. -/
def BatsT (w : World) (U : Nat → Prop) (v : Value) (bs : List (List UInt8)) : Prop :=
  ∃ xs : List (Option Addr × Nat × List UInt8), xs.map (fun x => x.2.2) = bs ∧ w.ownsRow 0 41 1 v xs.length (xs.map fun x => .slice x.1 x.2.2.length x.2.1) ∧ (∀ g, v.ownBlock = some g → U g) ∧
    ∀ x ∈ xs, RdB w x.1 x.2.2 ∧ ∀ ad, x.1 = some ad → U ad.block ∧ ad.block < w.heap.size ∧ v.ownBlock ≠ some ad.block
theorem BatsT.nil (w : World) (U : Nat → Prop) : BatsT w U (.slice none 0 0) [] := ⟨[], rfl, World.ownsRow_nil w 0 _ 1, fun g h => by simp [Value.ownBlock] at h, fun x hx => by cases hx⟩
theorem Bats.toT {w : World} {base : Nat} {v : Value} {bs : List (List UInt8)} (h : Bats w base v bs) : BatsT w (fun x => base ≤ x) v bs := by
  have h0 := h.lt
  obtain ⟨xs, h1, h2, h3⟩ := h
  obtain ⟨xs', h1', h2', h3'⟩ := Bats.down ⟨xs, h1, h2, h3⟩ (Nat.zero_le base)
  refine ⟨xs, h1, ⟨h2.1, ?_⟩, fun g hg => (h0 g hg).1, h3⟩
  rcases h2.2 with h | ⟨g, cap, cur, hv, hg, r⟩
  · exact .inl h
  · exact .inr ⟨g, cap, cur, hv, Nat.zero_le _, r⟩
theorem BatsT.toB {w : World} {U : Nat → Prop} {v : Value} {bs : List (List UInt8)} (h : BatsT w U v bs) : Bats w 0 v bs := by
  obtain ⟨xs, h1, h2, _, h3⟩ := h
  exact ⟨xs, h1, h2, fun x hx => ⟨(h3 x hx).1, fun ad he => ⟨Nat.zero_le _, ((h3 x hx).2 ad he).2⟩⟩⟩
theorem BatsT.mono {w : World} {U V : Nat → Prop} {v : Value} {bs : List (List UInt8)} (h : BatsT w U v bs) (hu : ∀ x, x < w.heap.size → U x → V x) : BatsT w V v bs := by
  have hl := h.toB.lt
  obtain ⟨xs, h1, h2, h0, h3⟩ := h
  exact ⟨xs, h1, h2, fun g hg => hu _ (hl g hg).2 (h0 g hg), fun x hx => ⟨(h3 x hx).1, fun ad he => ⟨hu _ ((h3 x hx).2 ad he).2.1 ((h3 x hx).2 ad he).1, ((h3 x hx).2 ad he).2⟩⟩⟩
theorem BatsT.mono' {w : World} {U V : Nat → Prop} {v : Value} {bs : List (List UInt8)} (h : BatsT w U v bs) (hu : ∀ x, U x → V x) : BatsT w V v bs := h.mono fun x _ => hu x
theorem BatsT.keep {w w' : World} {X U : Nat → Prop} (hk : KeepA X w w') {v : Value} {bs : List (List UInt8)} (h : BatsT w U v bs) (hx : ∀ g, U g → ¬ X g) : BatsT w' U v bs := by
  obtain ⟨xs, h1, h2, h0, h3⟩ := h
  refine ⟨xs, h1, own_keep hk h2 (fun g hg => hx g (h0 g hg)), h0, fun x hm => ?_⟩
  obtain ⟨r, q⟩ := h3 x hm
  refine ⟨Rd.keepA r hk (fun b off he _ => hx b (q _ he).1), fun ad he => ?_⟩
  obtain ⟨q1, q2, q3⟩ := q ad he
  exact ⟨q1, Nat.lt_of_lt_of_le q2 hk.size, q3⟩
theorem wp_pushT {o : Oper} {act : Act} {K : Act → World → Prop} {Q : Exit → Act → World → Prop} {w : World} (s x : Operand)
    (ho : o.op = .call { callee := .builtin .append, args := #[s, x], argTypes := #[36, 36] }) (U V : Nat → Prop)
    (v : Value) (bs : List (List UInt8)) (hv : act.eval s = v) (g : Nat) (a : Option Addr) (l : List UInt8) (c : Nat) (hx : act.eval x = .slice (some ⟨g, 0, none⟩) 1 1)
    (hB : BatsT w U v bs) (hg : RowAt w g 41 #[.slice a l.length c]) (hr : RdB w a l) (ha : ∀ ad, a = some ad → V ad.block ∧ ad.block < w.heap.size ∧ v.ownBlock ≠ some ad.block) (hsz : bs.length ≤ 1000000)
    (hUV : ∀ x, U x → V x) (hnew : ∀ x, w.heap.size ≤ x → V x)
    (h : ∀ v' w', BatsT w' V v' (bs ++ [l]) → w.grownBy w' v.ownBlock → NewRow w v v' → K (act.put o.dst v') w') : o.wp Try.prog act w K Q := by
  obtain ⟨xs, h1, h2, h0, h3⟩ := hB
  have hxl : xs.length = bs.length := by rw [← h1, List.length_map]
  have hrd : Rd w (some ⟨g, 0, none⟩) [.slice a l.length c] := .inr ⟨g, 0, rfl, hg.lt, fun k hkl => by
    obtain rfl : k = 0 := by simpa using hkl
    exact hg.cell 0⟩
  obtain ⟨v', w', hrun, q2, q3, q4⟩ := run_append_any eltV w 0 o.type v xs.length _ h2 (some ⟨g, 0, none⟩) 1 1 [.slice a l.length c] rfl hrd (fun u hu => by rw [List.mem_singleton.1 hu]; rfl) (by omega) (by omega) (Nat.zero_le _)
  unfold Oper.wp execOp
  simp only [ho, resolve, invoke, builtin, Sem.run_bind, Sem.run_pure, Result.andThen_ok, List.map_toArray, List.map_cons, List.map_nil, hv, hx, hrun]
  refine h v' w' ⟨xs ++ [(a, c, l)], by simp [h1], ?_, fun gg hgg => ?_, fun y hy => ?_⟩ q3 q4
  · rw [List.map_append, List.length_append]
    exact q2
  · rcases q4 _ hgg with e2 | e2
    · exact hUV _ (h0 _ e2)
    · exact hnew _ e2
  · have key : ∀ (z : Option Addr × Nat × List UInt8), RdB w z.1 z.2.2 → (∀ ad, z.1 = some ad → V ad.block ∧ ad.block < w.heap.size ∧ v.ownBlock ≠ some ad.block) → RdB w' z.1 z.2.2 ∧ ∀ ad, z.1 = some ad → V ad.block ∧ ad.block < w'.heap.size ∧ v'.ownBlock ≠ some ad.block := by
      intro z hz hzz
      refine ⟨Rd.keepA hz (keep_grownO q3) (fun b off he hb e => (hzz _ he).2.2 e), fun ad he => ⟨(hzz ad he).1, Nat.lt_of_lt_of_le (hzz ad he).2.1 q3.size, fun e => ?_⟩⟩
      rcases q4 _ e with e2 | e2
      · exact (hzz ad he).2.2 e2
      · exact absurd (hzz ad he).2.1 (by omega)
    rcases List.mem_append.1 hy with hy | hy
    · exact key y (h3 y hy).1 (fun ad he => ⟨hUV _ ((h3 y hy).2 ad he).1, ((h3 y hy).2 ad he).2⟩)
    · obtain rfl := List.mem_singleton.1 hy
      exact key _ hr ha
/-- A log and its disk: T holds all their blocks. -/
structure LgAt (w : World) (T S : Nat → Prop) (lb d : Nat) (D : DK) (F : Nat) (from_ : Int) (n run base : Nat) (allv : Value) (used : Nat) (dead : Bool) (bs : List (List UInt8)) : Prop where
  dk : DkS w S d D F
  row : LgRow w lb d from_ n run base allv used dead
  bats : BatsT w (fun x => T x ∧ ¬ S x ∧ x ≠ lb) allv bs
  sub : ∀ x, S x → T x
  lbT : T lb
  lbS : ¬ S lb
  lt : ∀ x, T x → x < w.heap.size
theorem LgAt.keep {w w' : World} {X T S : Nat → Prop} {lb d : Nat} {D : DK} {F : Nat} {from_ : Int} {n run base : Nat} {allv : Value} {used : Nat} {dead : Bool} {bs : List (List UInt8)} (h : LgAt w T S lb d D F from_ n run base allv used dead bs)
    (hk : KeepA X w w') (hx : ∀ x, T x → ¬ X x) : LgAt w' T S lb d D F from_ n run base allv used dead bs :=
  ⟨h.dk.keep hk (fun x hs => hx x (h.sub x hs)), row_keep hk h.row (hx lb h.lbT), h.bats.keep hk (fun g hg => hx g hg.1), h.sub, h.lbT, h.lbS, fun x hx' => Nat.lt_of_lt_of_le (h.lt x hx') hk.size⟩
theorem LgAt.later {w w' : World} {T S : Nat → Prop} {lb d : Nat} {D : DK} {F : Nat} {from_ : Int} {n run base : Nat} {allv : Value} {used : Nat} {dead : Bool} {bs : List (List UInt8)} (h : LgAt w T S lb d D F from_ n run base allv used dead bs)
    (hb : Below w.heap.size w w') : LgAt w' T S lb d D F from_ n run base allv used dead bs := h.keep (KeepA.of_below (X := fun _ => False) hb) fun _ _ h => h
/-- A step on the disk. -/
theorem LgAt.step {w w' : World} {T S : Nat → Prop} {lb d : Nat} {D D' : DK} {F : Nat} {from_ : Int} {n run base : Nat} {allv : Value} {used : Nat} {dead : Bool} {bs : List (List UInt8)} (h : LgAt w T S lb d D F from_ n run base allv used dead bs)
    (hd : DkS w' (Plus S (Span w w')) d D' F) (hk : KeepA S w w') : LgAt w' (Plus T (Span w w')) (Plus S (Span w w')) lb d D' F from_ n run base allv used dead bs := by
  have hlb := h.lt lb h.lbT
  refine ⟨hd, row_keep hk h.row h.lbS, (h.bats.keep hk (fun g hg => hg.2.1)).mono' ?_, fun x hx => hx.imp (h.sub x) id, .inl h.lbT, fun hx => hx.elim h.lbS (fun e => by have := e.1; omega), fun x hx => ?_⟩
  · exact fun x hx => ⟨.inl hx.1, fun e => e.elim hx.2.1 (fun e => by have := h.lt x hx.1; have := e.1; omega), hx.2.2⟩
  · rcases hx with hx | hx
    · exact Nat.lt_of_lt_of_le (h.lt x hx) hk.size
    · exact hx.2
/-- A cell of the log is set. -/
theorem LgAt.setRow {w w' : World} {T S : Nat → Prop} {lb d : Nat} {D : DK} {F : Nat} {from_ : Int} {n run base run2 base2 : Nat} {allv : Value} {used used2 : Nat} {dead dead2 : Bool} {bs : List (List UInt8)} (h : LgAt w T S lb d D F from_ n run base allv used dead bs)
    (hr : LgRow w' lb d from_ n run2 base2 allv used2 dead2) (hk : KeepA (fun x => x = lb) w w') : LgAt w' T S lb d D F from_ n run2 base2 allv used2 dead2 bs :=
  ⟨h.dk.keep hk (fun x hs e => h.lbS (by rw [← e]; exact hs)), hr, h.bats.keep hk (fun g hg => hg.2.2), h.sub, h.lbT, h.lbS, fun x hx' => Nat.lt_of_lt_of_le (h.lt x hx') hk.size⟩
theorem LgAt.setNil {w w' : World} {T S : Nat → Prop} {lb d : Nat} {D : DK} {F : Nat} {from_ : Int} {n run base run2 base2 : Nat} {allv : Value} {used used2 : Nat} {dead dead2 : Bool} {bs : List (List UInt8)} (h : LgAt w T S lb d D F from_ n run base allv used dead bs)
    (hr : LgRow w' lb d from_ n run2 base2 (.slice none 0 0) used2 dead2) (hk : KeepA (fun x => x = lb) w w') : LgAt w' T S lb d D F from_ n run2 base2 (.slice none 0 0) used2 dead2 [] :=
  ⟨h.dk.keep hk (fun x hs e => h.lbS (by rw [← e]; exact hs)), hr, BatsT.nil _ _, h.sub, h.lbT, h.lbS, fun x hx' => Nat.lt_of_lt_of_le (h.lt x hx') hk.size⟩
end Go.Proofs.Ytmbpacpkabbcgaa
namespace Go.Proofs.Ytmbpacpkabbcgaa
open Go.RowKit

/-- A log lies somewhere, in old blocks of T or in new ones. -/
def LgSome (w w' : World) (T : Nat → Prop) (lb d : Nat) (D : DK) (F : Nat) (from_ : Int) (n run base used : Nat) (dead : Bool) (bs : List (List UInt8)) : Prop :=
  ∃ T' S' allv, LgAt w' T' S' lb d D F from_ n run base allv used dead bs ∧ ∀ x, T' x → T x ∨ w.heap.size ≤ x
set_option maxRecDepth 100000 in
theorem reset_nil (w : World) : Calls Try.prog 14 #[.pointer none] w fun e w' => e = .returned (.int .i64 1) ∧ w' = w := by
  have HN := Lib.hid (wnone_nil w)
  go_enter Try.func14, Try.ntmps14
  go_wp2_with fail
  refine HN.out.mono ?_
  rintro _ w1 ⟨rfl, rfl⟩
  go_wp2
  go_ret
  exact ⟨rfl, rfl⟩
set_option maxRecDepth 100000 in
theorem reset_dead (w : World) (lb d : Nat) (from_ : Int) (n run base : Nat) (allv : Value) (used : Nat) (h : LgRow w lb d from_ n run base allv used true) : Calls Try.prog 14 #[.pointer (some ⟨lb, 0, none⟩)] w fun e w' => e = .returned (.int .i64 10) ∧ w' = w := by
  have HN := Lib.hid (wnone_any w lb d from_ n run base _ used true h)
  have h7 := h.cells.2.2.2.2.2.2.2
  clear h
  go_enter Try.func14, Try.ntmps14
  go_wp2_with fail
  refine HN.out.mono ?_
  rintro _ w1 ⟨rfl, rfl⟩
  go_wp2
  go_ret
  exact ⟨rfl, rfl⟩
set_option maxRecDepth 100000 in
set_option maxHeartbeats 2000000 in
theorem reset_any (w : World) (T S : Nat → Prop) (lb d : Nat) (D : DK) (F : Nat) (from_ : Int) (n run base : Nat) (allv : Value) (used : Nat) (bs : List (List UInt8)) (h : LgAt w T S lb d D F from_ n run base allv used false bs)
    (hf0 : 0 ≤ from_) (hf1 : from_ + 2 ≤ D.size) (hrun : run < 9223372036854775808) (hp : D.pcs.length ≤ 900000) :
    Calls Try.prog 14 #[.pointer (some ⟨lb, 0, none⟩)] w fun e w' => (∃ er D', e = .returned (.int .i64 er) ∧ WS F D (from_ + (((run + 1) % 2 : Nat) : Int)) (headB (run + 1) (run + 1)) er D' ∧
      ((er = 0 ∧ LgSome w w' T lb d D' F from_ n (run + 1) (run + 1) 0 false []) ∨ (er ≠ 0 ∧ LgSome w w' T lb d D' F from_ n run base used true bs))) ∧ KeepA T w w' := by
  have HN := Lib.hid (wnone_any w lb d from_ n run base _ used false h.row)
  have HL := Lib.hid h
  have HP := Lib.hid (put_any w.drew S d D F from_ (run + 1) (run + 1) (h.dk.later (drewN_below (Below.refl _ w) 1)) (fun x hx => h.lt x (h.sub x hx)) hf0 hf1 (by omega) (by omega) hp)
  obtain ⟨c0, c1, -, c3, -, -, -, c7⟩ := h.row.cells
  obtain ⟨r1, hr1⟩ : ∃ r, run + 1 = r := ⟨_, rfl⟩
  have hrw : IntKind.u64.wrap ((run : Int) + 1) = (r1 : Int) := by rw [IntWalk.u64_in _ ⟨by omega, by omega⟩]; omega
  rw [hr1] at HP ⊢
  have hk0 : w.drew.cell? ⟨lb, 0, none⟩ = some (.pointer (some ⟨d, 0, none⟩)) ∧ w.drew.cell? ⟨lb, 1, none⟩ = some (.int .i64 from_) ∧ w.drew.cell? ⟨lb, 3, none⟩ = some (.int .u64 (run : Int)) := ⟨c0, c1, c3⟩
  clear h hp hr1
  go_enter Try.func14, Try.ntmps14
  go_wp2_with fail
  refine HN.out.mono ?_
  rintro _ w1 ⟨rfl, rfl⟩
  go_wp2
  go_region_held (fun w' => w'.cell? ⟨lb, 0, none⟩ = some (.pointer (some ⟨d, 0, none⟩)) ∧ w'.cell? ⟨lb, 1, none⟩ = some (.int .i64 from_) ∧ w'.cell? ⟨lb, 3, none⟩ = some (.int .u64 (run : Int))) (first | assumption) (first
    | (go_simp; go_at_call 35; refine (dies_any w2 lb d from_ n run base allv used false er HLW.out.row).mono ?_; rintro e w3 ⟨rfl, hr3, hk3⟩; have HL3 := Lib.hid (HLW.out.setRow hr3 hk3); have HK3 := Lib.hid hk3; have hk3c : w3.cell? ⟨lb, 0, none⟩ = some (.pointer (some ⟨d, 0, none⟩)) ∧ w3.cell? ⟨lb, 1, none⟩ = some (.int .i64 from_) ∧ w3.cell? ⟨lb, 3, none⟩ = some (.int .u64 (run : Int)) := ⟨RowAt.cell hr3 0, RowAt.cell hr3 1, RowAt.cell hr3 3⟩; clear hr3 hk3)
    | (go_simp; go_at_call 30; refine HP.out.mono ?_; rintro e w2 ⟨⟨er, D', rfl, hws, hdk⟩, hk2⟩; have HWS := Lib.hid hws; have HLW := Lib.hid ((HL.out.later (drewN_below (Below.refl _ _) 1)).step hdk hk2); have HK2 := Lib.hid hk2; have hk2c : w2.cell? ⟨lb, 0, none⟩ = some (.pointer (some ⟨d, 0, none⟩)) ∧ w2.cell? ⟨lb, 1, none⟩ = some (.int .i64 from_) ∧ w2.cell? ⟨lb, 3, none⟩ = some (.int .u64 (run : Int)) := ⟨RowAt.cell HLW.out.row 0, RowAt.cell HLW.out.row 1, RowAt.cell HLW.out.row 3⟩; clear hws hdk hk2))
  have HKT : Hid (KeepA T w1 w3) := by
    have k2 : KeepA T w1 w2 := (KeepA.of_below (drewN_below (Below.refl _ w1) 1)).trans (HK2.out.mono HL.out.sub)
    exact k2.trans (HK3.out.mono fun x e => by rw [e]; exact HL.out.lbT)
  have HTS : Hid (∀ x, Plus T (Span w1.drew w2) x → T x ∨ w1.heap.size ≤ x) := fun x hx => hx.imp id fun h => h.1
  have hr3 := HL3.out.row
  by_cases her : er = 0
  · subst her
    have q3 := RowAt.cell hr3 3
    have z3 := RowAt.frozen hr3 3
    obtain ⟨wa, hwa⟩ : ∃ y, w3.setCell ⟨lb, 3, none⟩ (.int .u64 (r1 : Int)) = y := ⟨_, rfl⟩
    have hra : LgRow wa lb d from_ n r1 base allv used (false || (0 : Int) != 0) := by rw [← hwa]; exact RowAt.set hr3 3 (.int .u64 (r1 : Int))
    have qa3 := RowAt.cell hra 3
    have qa4 := RowAt.cell hra 4
    have za4 := RowAt.frozen hra 4
    obtain ⟨wb, hwb⟩ : ∃ y, wa.setCell ⟨lb, 4, none⟩ (.int .u64 (r1 : Int)) = y := ⟨_, rfl⟩
    have hrb : LgRow wb lb d from_ n r1 r1 allv used (false || (0 : Int) != 0) := by rw [← hwb]; exact RowAt.set hra 4 (.int .u64 (r1 : Int))
    have qb5 := RowAt.cell hrb 5
    have zb5 := RowAt.frozen hrb 5
    obtain ⟨wc, hwc⟩ : ∃ y, wb.setCell ⟨lb, 5, none⟩ (.slice none 0 0) = y := ⟨_, rfl⟩
    have hrc : LgRow wc lb d from_ n r1 r1 (.slice none 0 0) used (false || (0 : Int) != 0) := by rw [← hwc]; exact RowAt.set hrb 5 (.slice none 0 0)
    have qc6 := RowAt.cell hrc 6
    have zc6 := RowAt.frozen hrc 6
    obtain ⟨wd, hwd⟩ : ∃ y, wc.setCell ⟨lb, 6, none⟩ (.int .i64 0) = y := ⟨_, rfl⟩
    have hrd : LgRow wd lb d from_ n r1 r1 (.slice none 0 0) 0 (false || (0 : Int) != 0) := by rw [← hwd]; exact RowAt.set hrc 6 (.int .i64 0)
    have hkd : KeepA (fun x => x = lb) w3 wd := by
      rw [← hwd, ← hwc, ← hwb, ← hwa]
      exact ((((KeepA.refl (fun x => x = lb) w3).setCell (a := ⟨lb, 3, none⟩) rfl).setCell (a := ⟨lb, 4, none⟩) rfl).setCell (a := ⟨lb, 5, none⟩) rfl).setCell (a := ⟨lb, 6, none⟩) rfl
    have HLD : Hid (LgAt wd (Plus T (Span w1.drew w2)) (Plus S (Span w1.drew w2)) lb d D' F from_ n r1 r1 (.slice none 0 0) 0 false []) := HL3.out.setNil hrd hkd
    have HKD := Lib.hid hkd
    simp only [List.getElem?_toArray, List.getElem?_cons_zero, List.getElem?_cons_succ, List.setIfInBounds_toArray, List.set_cons_succ, List.set_cons_zero] at q3 qa3 qa4 qb5 qc6
    clear hrd hkd hrc hrb hra hr3
    go_wp2
    go_ret
    exact ⟨⟨0, D', rfl, HWS.out, .inl ⟨rfl, _, _, _, HLD.out, HTS.out⟩⟩, HKT.out.trans (HKD.out.mono fun x e => by rw [e]; exact HL.out.lbT)⟩
  · have hb : (er != 0) = true := by simpa using her
    have hd2 : (false || er != 0) = true := by rw [hb]; rfl
    rw [hd2] at HL3
    clear hr3
    go_wp2
    go_ret
    exact ⟨⟨er, D', rfl, HWS.out, .inr ⟨her, _, _, _, HL3.out, HTS.out⟩⟩, HKT.out⟩
end Go.Proofs.Ytmbpacpkabbcgaa
namespace Go.Proofs.Ytmbpacpkabbcgaa
open Go.RowKit

set_option maxRecDepth 100000 in
theorem open_no (w : World) (S : Nat → Prop) (b : Nat) (D : DK) (F : Nat) (from_ n : Int) (h : DkS w S b D F) (hno : ¬ askW D.size from_ n = 0) :
    Calls Try.prog 10 #[.pointer (some ⟨b, 0, none⟩), .int .i64 from_, .int .i64 n] w fun e w' => e = .returned (.tuple #[.pointer none, .int .i64 (askW D.size from_ n)]) ∧ Below w.heap.size w w' := by
  have HA := Lib.hid (look_no w S b D F from_ n h hno)
  obtain ⟨r, hr⟩ : ∃ r, askW D.size from_ n = r := ⟨_, rfl⟩
  rw [hr] at HA hno ⊢
  have hb : (r != 0) = true := by simpa using hno
  clear h hr
  go_enter Try.func10, Try.ntmps10
  go_wp2_with fail
  refine HA.out.mono ?_
  rintro _ w1 ⟨rfl, hb1⟩
  have HB := Lib.hid hb1
  clear hb1
  go_wp2
  go_ret2
  exact ⟨rfl, HB.out⟩
def OpenPost (w : World) (S : Nat → Prop) (b : Nat) (D : DK) (F : Nat) (from_ : Int) (n : Nat) (o : Option (Nat × Nat × Nat × List (List UInt8))) (e : Ending) (w' : World) : Prop :=
  match o with
  | none => Below w.heap.size w w' ∧ e = .returned (.tuple #[.pointer none, .int .i64 9])
  | some (run, base, used, bs) =>
    (4611686018427387904 ≤ run + 1 ∧ Below w.heap.size w w' ∧ e = .returned (.tuple #[.pointer none, .int .i64 9])) ∨
    (run + 1 < 4611686018427387904 ∧ KeepA S w w' ∧ ∃ er D', WS F D (from_ + (((run + 1) % 2 : Nat) : Int)) (headB (run + 1) base) er D' ∧
      ((er = 0 ∧ ∃ lb, e = .returned (.tuple #[.pointer (some ⟨lb, 0, none⟩), .int .i64 0]) ∧ w.heap.size ≤ lb ∧ LgSome w w' S lb b D' F from_ n (run + 1) base used false bs) ∨
       (er ≠ 0 ∧ e = .returned (.tuple #[.pointer none, .int .i64 er]) ∧ ∃ S', DkS w' S' b D' F ∧ ∀ x, S' x → (S x ∨ w.heap.size ≤ x) ∧ x < w'.heap.size)))
set_option maxRecDepth 100000 in
set_option maxHeartbeats 2000000 in
theorem open_any (w : World) (S : Nat → Prop) (b : Nat) (D : DK) (F : Nat) (from_ : Int) (n : Nat) (h : DkS w S b D F) (hs : ∀ x, S x → x < w.heap.size) (hok : askW D.size from_ (n : Int) = 0) (hp : D.pcs.length ≤ 900000) :
    Calls Try.prog 10 #[.pointer (some ⟨b, 0, none⟩), .int .i64 from_, .int .i64 (n : Int)] w (OpenPost w S b D F from_ n (lookP (laid D.last D.pcs) from_ n)) := by
  have HA := Lib.hid (look_any w S b D F from_ n h hok hp)
  obtain ⟨hn4, hf0, hfs, hn⟩ : 4 ≤ n ∧ 0 ≤ from_ ∧ from_ + (n : Int) ≤ D.size ∧ n ≤ 65536 := by
    have hz := h.sizes
    unfold askW at hok
    split at hok
    · cases hok
    · split at hok
      · cases hok
      · omega
  obtain ⟨o, ho⟩ : ∃ o, lookP (laid D.last D.pcs) from_ n = o := ⟨_, rfl⟩
  rw [ho] at HA ⊢
  have HO := Lib.hid ho
  have HD := Lib.hid h
  have HS := Lib.hid hs
  clear hok ho h hs
  cases o with
  | none =>
    go_enter Try.func10, Try.ntmps10
    go_wp2_with fail
    refine HA.out.mono ?_
    rintro _ w1 ⟨hb1, rfl⟩
    have HB := Lib.hid hb1
    clear hb1
    go_wp2
    go_ret2
    exact ⟨HB.out, rfl⟩
  | some q =>
    obtain ⟨run, base, used, bs⟩ := q
    obtain ⟨-, -, hrun, hbase⟩ := lookP_small HO.out hn
    obtain ⟨r1, hr1⟩ : ∃ r, run + 1 = r := ⟨_, rfl⟩
    have hrw : IntKind.u64.wrap ((run : Int) + 1) = (r1 : Int) := by rw [IntWalk.u64_in _ ⟨by omega, by omega⟩]; omega
    have HR1 := Lib.hid hr1
    have HRUN := Lib.hid hrun
    clear hr1 hrun
    go_enter Try.func10, Try.ntmps10
    go_wp2_with fail
    refine HA.out.mono ?_
    rintro _ w1 ⟨hb1, lb, allv, rfl, hlb, hrow, hbats⟩
    have HB := Lib.hid hb1
    have HBT := Lib.hid hbats
    have HROW := Lib.hid hrow
    have q3 := RowAt.cell hrow 3
    have z3 := RowAt.frozen hrow 3
    obtain ⟨w2, hw2⟩ : ∃ y, w1.setCell ⟨lb, 3, none⟩ (.int .u64 (r1 : Int)) = y := ⟨_, rfl⟩
    have hr2 : LgRow w2 lb b from_ n r1 base allv used false := by rw [← hw2]; exact RowAt.set hrow 3 (.int .u64 (r1 : Int))
    have hk2 : KeepA (fun x => x = lb) w1 w2 := by rw [← hw2]; exact keep_grown (grown_setCell _ _ _)
    have HR2 := Lib.hid hr2
    have HK2 := Lib.hid hk2
    have HLB := Lib.hid hlb
    have HBW2 : Hid (Below w.heap.size w w2) := by rw [← hw2]; exact hb1.trans (below_of_grown (grown_setCell w1 ⟨lb, 3, none⟩ _) hb1.size (fun g hg => by cases hg; exact hlb))
    have c3 := RowAt.cell hr2 3
    have c4 := RowAt.cell hr2 4
    simp only [List.getElem?_toArray, List.getElem?_cons_zero, List.getElem?_cons_succ] at q3 c3 c4
    clear hb1 hrow hbats hlb hr2 hk2
    by_cases hm : r1 < 4611686018427387904
    rotate_left
    · have hmI : (4611686018427387904 : Int) ≤ (r1 : Int) := by omega
      have HM : Hid (4611686018427387904 ≤ run + 1) := by have := HR1.out; exact (by omega : 4611686018427387904 ≤ run + 1)
      have hmD : decide ((4611686018427387904 : Int) ≤ (r1 : Int)) = true := decide_eq_true hmI
      clear hmI hm
      go_wp2
      go_ret2
      exact .inl ⟨HM.out, HBW2.out, rfl⟩
    · have hmD : decide ((4611686018427387904 : Int) ≤ (r1 : Int)) = false := decide_eq_false (by omega)
      have HM : Hid (run + 1 < 4611686018427387904) := by have := HR1.out; exact (by omega : run + 1 < 4611686018427387904)
      have HL2 : Hid (LgAt w2 (fun x => S x ∨ (w.heap.size ≤ x ∧ x < w2.heap.size)) S lb b D F from_ n r1 base allv used false bs) := by
        refine ⟨HD.out.keep (KeepA.of_below (X := fun _ => False) HBW2.out) (fun _ _ h => h), HR2.out, ?_, fun x hx => .inl hx, .inr ⟨HLB.out, RowAt.lt HR2.out⟩, fun hx => ?_, fun x hx => ?_⟩
        · have h1 := HBT.out.toT.keep HK2.out (fun g hg e => by omega)
          refine h1.mono fun x hx hx2 => ⟨.inr ⟨?_, hx⟩, fun hx3 => ?_, ?_⟩
          · have := HLB.out; omega
          · have := HS.out x hx3; have := HLB.out; omega
          · omega
        · have := HS.out lb hx; have := HLB.out; omega
        · rcases hx with hx | hx
          · exact Nat.lt_of_lt_of_le (HS.out x hx) HBW2.out.size
          · exact hx.2
      have HP := Lib.hid (put_any w2.drew S b D F from_ r1 base (HL2.out.dk.later (drewN_below (Below.refl _ w2) 1)) (fun x hx => HL2.out.lt x (.inl hx)) hf0 (by omega) (by omega) (by have := HRUN.out; omega) hp)
      have hk0 : w2.drew.cell? ⟨lb, 3, none⟩ = some (.int .u64 (r1 : Int)) ∧ w2.drew.cell? ⟨lb, 4, none⟩ = some (.int .u64 (base : Int)) := ⟨c3, c4⟩
      clear hm
      go_wp2
      go_region_held (fun w' => w'.cell? ⟨lb, 3, none⟩ = some (.int .u64 (r1 : Int)) ∧ w'.cell? ⟨lb, 4, none⟩ = some (.int .u64 (base : Int))) (first | assumption) (first
        | (go_simp; go_at_call 30; refine HP.out.mono ?_; rintro e w3 ⟨⟨er, D', rfl, hws, hdk⟩, hk3⟩; have HWS := Lib.hid hws; have HDK := Lib.hid hdk; have HL3 := Lib.hid ((HL2.out.later (drewN_below (Below.refl _ _) 1)).step hdk hk3); have HK3 := Lib.hid hk3; have hk3c : w3.cell? ⟨lb, 3, none⟩ = some (.int .u64 (r1 : Int)) ∧ w3.cell? ⟨lb, 4, none⟩ = some (.int .u64 (base : Int)) := ⟨RowAt.cell HL3.out.row 3, RowAt.cell HL3.out.row 4⟩; clear hws hdk hk3))
      have HKT : Hid (KeepA S w w3) := (KeepA.of_below (below_trans HBW2.out (drewN_below (Below.refl _ w2) 1))).trans HK3.out
      by_cases her : er = 0
      · subst her
        go_wp2
        go_ret2
        refine .inr ⟨HM.out, HKT.out, 0, D', by rw [HR1.out]; exact HWS.out, .inl ⟨rfl, lb, rfl, HLB.out, _, _, _, by rw [HR1.out]; exact HL3.out, fun x hx => ?_⟩⟩
        rcases hx with (hx | hx) | hx
        · exact .inl hx
        · exact .inr hx.1
        · exact .inr (Nat.le_trans HBW2.out.size hx.1)
      · have hb : (er != 0) = true := by simpa using her
        go_wp2
        go_ret2
        refine .inr ⟨HM.out, HKT.out, er, D', by rw [HR1.out]; exact HWS.out, .inr ⟨her, rfl, _, HDK.out, fun x hx => ⟨?_, HL3.out.lt x ?_⟩⟩⟩
        · rcases hx with hx | hx
          · exact .inl hx
          · exact .inr (Nat.le_trans HBW2.out.size hx.1)
        · exact hx.imp (fun h => .inl h) id
end Go.Proofs.Ytmbpacpkabbcgaa
