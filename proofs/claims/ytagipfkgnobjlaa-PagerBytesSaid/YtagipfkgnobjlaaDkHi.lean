/- (*disk.Disk).Sync. / A piece is built, and a row of one piece is made, its cells hidden. / (*disk.Disk).Write. / Bytes of so many sectors. / (*disk.Disk).Read. / maps.Clone of a map of sectors. / What a crash leaves; laws for its walk. / (*disk.Disk).Crash. / Sectors held against each other; a range over a map; (*disk.Disk).Same of disks that are alike. / Fates behind fates, wherever their row begins; (*disk.Disk).Feed. / (*disk.Disk).Copy. / A disk as a set of blocks: what a mutator leaves alone. -/
import Derived.Test.YtagipfkgnobjlaaDkLo
import Derived.Deep.RegionHeldLaw
import Derived.Deep.MidRow
import Derived.Laws.CopyOwn
import Derived.Great.BuildSlice
import Derived.Laws.OwnMore
import Derived.Laws.MakeOwn
import Derived.ChangeKeysEq
import Derived.Laws.IdiomRangeMap
import Derived.Laws.StructEq
import Derived.Laws.AppendOwn
namespace Go.Proofs.Ytagipfkgnobjlaa
open Go.RowKit

theorem own_low {w : World} {base base' : Nat} {e : TypeId} {size : Nat} {v : Value} {n : Nat} {xs : List Value} (h : w.ownsRow base e size v n xs) (hb : base' ≤ base) : w.ownsRow base' e size v n xs := ⟨h.1, h.2.imp id fun ⟨g, cap, cur, h1, h2, h3⟩ => ⟨g, cap, cur, h1, Nat.le_trans hb h2, h3⟩⟩
/-- What lasts behind some pieces. -/
def updS (L : Int → List UInt8) (p : Int × List UInt8) : Int → List UInt8 := fun j => if j = p.1 then p.2 else L j
def laid (L : Int → List UInt8) (l : List (Int × List UInt8)) : Int → List UInt8 := l.foldl updS L
theorem laid_succ (L : Int → List UInt8) {l : List (Int × List UInt8)} {k : Nat} (h : k < l.length) : laid L (l.take (k + 1)) = updS (laid L (l.take k)) l[k] := by
  unfold laid
  rw [List.take_succ_eq_append_getElem h, List.foldl_append]
  rfl
set_option maxRecDepth 100000 in
theorem upon_update {o : Oper} {act : Act} {K : Act → World → Prop} {Q : Exit → Act → World → Prop} {w : World} {m : Nat} {es : Array MapEntry} {clock : Nat} {last : Int → List UInt8}
    (h : w.heap[m]? = some (.map es clock)) (hm : MapIs clock es.toList last) (k : Int) (s : List UInt8)
    (hK : ∀ w' es' clock', w'.heap[m]? = some (.map es' clock') → MapIs clock' es'.toList (updS last (k, s)) → KeepA (fun j => j = m) w w' → w'.heap.size = w.heap.size → K (act.put o.dst undef) w') :
    Oper.upon Try.prog o act K Q ((Sem.run Try.prog (Instr.mapUpdate 46 (.map (some m)) (.int .i64 k) (.agg (s.map bv).toArray)) w).andThen fun _ w' => .ok .skip w') := by
  obtain ⟨es', clock', hr, hm'⟩ := update_run h hm k s
  have hlt : m < w.heap.size := (Array.getElem?_eq_some_iff.1 h).1
  have hr' : Sem.run Try.prog (Instr.mapUpdate 46 (.map (some m)) (.int .i64 k) (.agg (s.map bv).toArray)) w = .ok () { w with heap := w.heap.setIfInBounds m (.map es' clock') } := hr
  rw [hr', Result.andThen_ok]
  exact hK { w with heap := w.heap.setIfInBounds m (.map es' clock') } es' clock' (by simp [hlt]) hm' ⟨rfl, rfl, rfl, by simp, fun j hj hne => by simp [Ne.symm hne]⟩ (by simp)
theorem und_sec : ∃ e, Try.prog.underlying 56 = some (.array 512 e) := ⟨_, Try.underlying56⟩
theorem zeroP_size : zeroP.size = 513 := by kernel_rfl
theorem piece_store {p : Int × List UInt8} (hp : p.2.length = 512) : Hid ((Try.prog.info? 58).map (·.size) = some (pcC p).toArray.size) ∧ Hid (zeroP.size = (pcC p).toArray.size) ∧ Hid ((pcC p).toArray.all (·.oneCell') = true) := by
  refine ⟨?_, ?_, ?_⟩
  · show _ = _
    rw [List.size_toArray, pcC_len hp]
    exact aggP.2
  · show _ = _
    rw [zeroP_size, List.size_toArray, pcC_len hp]
  · show _ = _
    simp only [List.all_toArray, List.all_eq_true]
    exact pcC_one p
theorem RowAt.range {w : World} {b : Nat} {t : TypeId} {p : Int × List UInt8} (h : RowAt w b t (pcC p).toArray) : w.cell? ⟨b, 0, none⟩ = some (.int .i64 p.1) ∧ w.rangeAt b 1 (p.2.map bv) := by
  refine ⟨h.cell 0, fun j v hv => ?_⟩
  rw [h.cell (1 + j)]
  simp only [pcC, List.getElem?_toArray]
  rw [Nat.add_comm]
  exact hv
theorem laid_len {L : Int → List UInt8} (hL : ∀ k, (L k).length = 512) : ∀ (l : List (Int × List UInt8)), (∀ p ∈ l, p.2.length = 512) → ∀ k, (laid L l k).length = 512 := by
  intro l
  induction l generalizing L with
  | nil => intro _ k; exact hL k
  | cons p r ih =>
    intro h k
    refine ih (L := updS L p) (fun k => ?_) (fun q hq => h q (List.mem_cons_of_mem _ hq)) k
    unfold updS
    split
    · exact h p List.mem_cons_self
    · exact hL k
theorem RdPc.drop {w : World} {a : Option Addr} {l : List (Int × List UInt8)} (h : RdPc w a l) (h5 : ∀ p ∈ l, p.2.length = 512) (k c : Nat) (hc : l.length ≤ c) : RdPc w (if c = k then a else Option.map (fun x => x.add (k * 513)) a) (l.drop k) := by
  by_cases hk : l.length ≤ k
  · rw [List.drop_eq_nil_of_le hk]; exact .inl rfl
  · rw [if_neg (by omega)]
    have hr := RdPc.rows h h5
    rcases hr with h | ⟨b, off, rfl, hlt, hi⟩
    · exact absurd h (by intro e; simp [e] at hk)
    · refine RdPc.of_rows (.inr ⟨b, off + k * 513, ?_, hlt, fun j hj => ?_⟩) fun p hp => h5 p (List.mem_of_mem_drop hp)
      · rw [Option.map_some, Addr.add_mid]
      · have := hi (k + j) (by rw [List.length_drop] at hj; omega)
        rw [List.getElem_drop, Nat.add_assoc, ← Nat.add_mul]
        exact this
set_option maxRecDepth 100000 in
set_option maxHeartbeats 1000000 in
theorem sync_at (w : World) (base b : Nat) (D : DK) (F m : Nat) (pv fv : Value) (fl : List Ft) (st : Int) (h : DkAt w base b D m pv fv fl st) (hF : fl.length ≤ F) (hbase : base ≤ w.heap.size) (hp : D.pcs.length ≤ 1000000) :
    Calls Try.prog 7 #[.pointer (some ⟨b, 0, none⟩)] w fun e w' => (∃ k, k ≤ D.pcs.length ∧ ∃ er : Int, (F = 0 → k = D.pcs.length ∧ er = 0) ∧ Fine er k D.pcs.length ∧ e = .returned (.int .i64 er) ∧ ∃ pv' fv' fl' st', DkAt w' base b ⟨D.size, laid D.last (D.pcs.take k), D.pcs.drop k⟩ m pv' fv' fl' st' ∧ fl'.length ≤ F ∧ (∀ g, pv'.ownBlock = some g → w.heap.size ≤ g) ∧ ∀ g, slB fv' = some g → slB fv = some g) ∧ KeepA (fun x => x = m ∨ x = b) w w' := by
  obtain ⟨n, hn⟩ : ∃ n, D.pcs.length = n := ⟨_, rfl⟩
  obtain ⟨pa, pc, hpv, hpc, hrd⟩ := Rd.of_own h.pcs
  rw [hn] at hpv hpc hp
  subst hpv
  have HN := Lib.hid hn
  have HRD := Lib.hid hrd
  clear hrd hn
  obtain ⟨c0, c1, c2, c3, c4⟩ := h.hd.cells
  have HNO := Lib.hid (fun w hh => none_any w b D.size (.map (some m)) (.slice pa n pc) fv st hh h.size.1)
  have HST := Lib.hid (fun k => step_any w base b D m (.slice pa n pc) fv fl st k h)
  have HD := Lib.hid h
  clear h
  go_enter Try.func7, Try.ntmps7
  go_wp2_with fail
  refine (HNO.out _ HD.out.hd).mono ?_
  rintro _ w0 ⟨rfl, rfl⟩
  go_wp2_with fail
  refine (HST.out n).mono ?_
  rintro _ w1 ⟨⟨k, hk, er, hke, her, rfl⟩, ⟨fv', fl', st', hD1, hF1, hsl⟩, hK1⟩
  have HER : Hid (Fine er k D.pcs.length) := by show Fine _ _ _; rw [HN.out]; exact her
  have HKE : Hid (F = 0 → k = D.pcs.length ∧ er = 0) := fun h0 => by rw [HN.out]; exact hke (by omega)
  have HSLB := Lib.hid hsl
  clear hke her hsl
  have HD1 := Lib.hid hD1
  have HK1 := Lib.hid hK1
  obtain ⟨d0, d1, d2, d3, d4⟩ := hD1.hd.cells
  obtain ⟨es1, cl1, hm1, hmi1⟩ := hD1.map
  have HM1 := Lib.hid hm1
  have HMI1 := Lib.hid hmi1
  clear hD1 hK1 hm1 hmi1 c0 c1 c2 c3 c4
  go_wp2
  go_loopw [26] (fun i wr => KeepA (fun x => x = m) w1 wr ∧ (∃ es cl, wr.heap[m]? = some (.map es cl) ∧ MapIs cl es.toList (laid D.last (D.pcs.take (intOf i).toNat))) ∧ ∃ j : Nat, j ≤ k ∧ i = .int .i64 j) (fun i _ => k - (intOf i).toNat)
  case atStart => exact ⟨KeepA.refl _ _, ⟨es1, cl1, HM1.out, HMI1.out⟩, 0, Nat.zero_le _, rfl⟩
  case round =>
    obtain ⟨hkp, ⟨es, cl, hm, hmi⟩, j, hj, rfl⟩ := hrel
    have HKP := Lib.hid hkp
    have HM := Lib.hid hm
    have HMI := Lib.hid hmi
    clear hkp hm hmi
    by_cases hjk : j < k
    · have hjn : j < D.pcs.length := by rw [HN.out]; omega
      have hrd1 : Rd w1 pa (D.pcs.flatMap pcC) := by
        obtain ⟨a', c', q1, _, q2⟩ := Rd.of_own HD1.out.pcs
        rw [HN.out] at q1
        cases q1
        exact q2
      have h5 := HD1.out.psec
      obtain ⟨g, o, rfl, hg, hrow⟩ := (RdPc.rows hrd1 fun p hp => (h5 p hp).2.2).resolve_left (by intro e; rw [e] at hjn; simp at hjn)
      have hgm : g ≠ m := fun e => HD1.out.pb.2 (by rw [← e]; rfl)
      have hbm := HD1.out.mb
      have hcell := hrow j hjn
      have hls := laid_succ D.last hjn
      obtain ⟨p, hp'⟩ : ∃ p, D.pcs[j] = p := ⟨_, rfl⟩
      have hp5 := (h5 p (by rw [← hp']; exact List.getElem_mem hjn)).2.2
      rw [hp'] at hcell hls
      have HC : Hid (∀ i v, (pcC p)[i]? = some v → wr.cell? ((⟨g, o + j * 513, none⟩ : Addr).add i) = some v) := fun i v hv => by
        rw [Addr.add_mid]
        refine HKP.out.cell (hcell i v ?_) hgm
        rw [pcD_eq hp5]; exact hv
      have HLS := Lib.hid hls
      have hAg : Agg Try.prog 58 (pcC p).length := by rw [pcC_len hp5]; exact aggP
      obtain ⟨hS1, hS2, hS3⟩ := piece_store hp5
      have e1 : wr.cell? ⟨b, 1, none⟩ = some (.map (some m)) := HKP.out.cell d1 (fun e => hbm e.symm)
      have hms : m < wr.heap.size := (Array.getElem?_eq_some_iff.1 HM.out).1
      have hbs : b < wr.heap.size := World.block_lt_of_cell? wr _ e1
      clear hrow hcell hls h5 hrd1 hp'
      have hb1 : (j : Int) < (k : Int) := by omega
      go_wp2_with (first
        | (refine step_loadCells rfl 58 (.tmp 28) rfl ⟨g, o + j * 513, none⟩ rfl (pcC p) hAg HC.out ?_)
        | (refine step_allocZ rfl 58 rfl zeroP zero_piece ?_; intro w2 q1 q2 q3)
        | (refine step_storeRow rfl 58 (.tmp 6) (.tmp 29) rfl rfl wr.heap.size (pcC p).toArray rfl rfl 58 zeroP q1 hS1.out hS2.out hS3.out ?_; intro w3 q4 q5))
      simp only [Act.put, List.setIfInBounds_toArray, List.set_cons_zero, List.set_cons_succ]
      have HB3 := Lib.hid (below_grown q2 q5 (by omega) (by intro x hx; have := Option.some.inj hx; omega))
      have e3 : w3.cell? ⟨b, 1, none⟩ = some (.map (some m)) := cell_later HB3.out hbs e1
      have HM3 : Hid (w3.drew.heap[m]? = some (.map es cl)) := (HB3.out.block m hms).trans HM.out
      obtain ⟨r0, r1⟩ := q4.range
      obtain ⟨bx, hbx⟩ : ∃ x, wr.heap.size = x := ⟨_, rfl⟩
      rw [hbx] at r0 r1 ⊢
      have hbxm : bx ≠ m := by omega
      have HMI2 : Hid (MapIs cl es.toList (laid D.last (D.pcs.take j))) := by
        have h := HMI.out
        rw [show (intOf (.int .i64 (j : Int))).toNat = j by simp [intOf]] at h
        exact h
      obtain ⟨e8, hu8⟩ := und_sec
      have hi8 : (Try.prog.info? 56).map (·.size) = some (p.2.map bv).length := by rw [List.length_map, hp5]; kernel_rfl
      have hk1 : w3.drew.cell? ⟨b, 1, none⟩ = some (.map (some m)) ∧ w3.drew.cell? ⟨bx, 0, none⟩ = some (.int .i64 p.1) ∧ w3.drew.rangeAt bx 1 (p.2.map bv) := ⟨e3, r0, r1⟩
      clear e1 e3 r0 r1 q1 q2 q3 q4 q5 hS1 hS2 hS3 hAg hms hbs hbx
      go_region_held_law (fun w' => w'.cell? ⟨b, 1, none⟩ = some (.map (some m)) ∧ w'.cell? ⟨bx, 0, none⟩ = some (.int .i64 p.1) ∧ w'.rangeAt bx 1 (p.2.map bv)) (first | assumption) (first
        | (refine upon_update HM3.out HMI2.out p.1 p.2 ?_; intro w4 es4 cl4 m1 m2 m3 m4; have hk2 : w4.cell? ⟨b, 1, none⟩ = some (.map (some m)) ∧ w4.cell? ⟨bx, 0, none⟩ = some (.int .i64 p.1) ∧ w4.rangeAt bx 1 (p.2.map bv) := ⟨m3.cell hk1.1 (fun e => hbm e.symm), m3.cell hk1.2.1 hbxm, fun i v hv => m3.cell (hk1.2.2 i v hv) hbxm⟩))
      go_wp2
      refine ⟨⟨(HKP.out.trans (KeepA.of_below (drewN_below HB3.out 1))).trans m3, ⟨es4, cl4, m1, ?_⟩, j + 1, by omega, by go_num⟩, by simp [intOf]; omega⟩
      rw [show (intOf (.int .i64 ((j : Int) + 1))).toNat = j + 1 by simp [intOf], HLS.out]
      exact m2
    · have hjk2 : j = k := by omega
      subst hjk2
      have e2 : wr.cell? ⟨b, 2, none⟩ = some (.slice pa n pc) := HKP.out.cell d2 (fun e => HD1.out.mb e.symm)
      have h5 : ∀ p ∈ D.pcs.drop j, p.2.length = 512 := fun p hp => (HD1.out.psec p (List.mem_of_mem_drop hp)).2.2
      have hrd1 : RdPc wr (if pc = j then pa else Option.map (fun x => x.add (j * 513)) pa) (D.pcs.drop j) := by
        refine RdPc.drop ?_ (fun p hp => (HD1.out.psec p hp).2.2) j pc (by rw [HN.out]; exact hpc)
        obtain ⟨a', c', q1, _, q2⟩ := Rd.of_own HD1.out.pcs
        rw [HN.out] at q1
        cases q1
        refine Rd.keepA q2 HKP.out fun g o ha _ e => HD1.out.pb.2 ?_
        rw [ha]; exact congrArg some e
      have hdl : n - j = (D.pcs.drop j).length := by rw [List.length_drop, HN.out]
      have hC := fun w hw => pcclone_any (if pc = j then pa else Option.map (fun x => x.add (j * 513)) pa) (D.pcs.drop j) (n - j) (pc - j) w hdl (by omega) hw h5
      have hms : m < wr.heap.size := (Array.getElem?_eq_some_iff.1 HM.out).1
      have hbs : b < wr.heap.size := World.block_lt_of_cell? wr _ e2
      have HX : Hid (∀ w5 v, Below wr.heap.size wr w5 → v.oneCell' = true → w5.ownsRow wr.heap.size 58 513 v (D.pcs.drop j).length ((D.pcs.drop j).flatMap pcC) → w5.frozen? ⟨b, 2, none⟩ = false ∧ (∃ pv' fv' fl' st', DkAt (w5.setCell ⟨b, 2, none⟩ v) base b ⟨D.size, laid D.last (D.pcs.take j), D.pcs.drop j⟩ m pv' fv' fl' st' ∧ fl'.length ≤ F ∧ (∀ g, pv'.ownBlock = some g → w0.heap.size ≤ g) ∧ ∀ g, slB fv' = some g → slB fv = some g) ∧ KeepA (fun x => x = m ∨ x = b) w0 (w5.setCell ⟨b, 2, none⟩ v)) := fun w5 v h1 h2 h3 => by
        have hd5 := RowAt.below (w := wr) (show RowAt wr _ _ _ from (HKP.out.same b (RowAt.lt HD1.out.hd) (fun e => HD1.out.mb e.symm)).trans HD1.out.hd) h1
        refine ⟨hd5.frozen 2, ⟨v, fv', fl', st', ?_, Nat.le_trans hF1 hF, fun g hg => Nat.le_trans (Nat.le_trans HK1.out.size HKP.out.size) (h3.lt g hg).1, HSLB.out⟩, ?_⟩
        · have hfar := HKP.out.size
          have hset : KeepA (fun x => x = b) w5 (w5.setCell ⟨b, 2, none⟩ v) := keep_grown (grown_setCell _ _ _)
          have hall : KeepA (fun x => x = m ∨ x = b) w1 (w5.setCell ⟨b, 2, none⟩ v) := ((HKP.out.mono fun _ e => .inl e).trans (KeepA.of_below h1)).trans (hset.mono fun _ e => .inr e)
          have hown : ∀ g, v.ownBlock = some g → wr.heap.size ≤ g ∧ g < w5.heap.size := fun g hg => h3.lt g hg
          refine ⟨hd5.set 2 v, HD1.out.hb, HD1.out.hm, HD1.out.mb, ⟨es, cl, ?_, ?_⟩, own_keep hset (own_low h3 ?_) ?_, ⟨fun e => ?_, fun e => ?_⟩, HD1.out.fts.keep hall ?_, fun g hg => ⟨(HD1.out.fb g hg).1, (HD1.out.fb g hg).2.1, fun e => ?_⟩, HD1.out.size, ?_, ?_⟩
          · exact (hset.same m (Nat.lt_of_lt_of_le hms h1.size) HD1.out.mb).trans ((h1.block m hms).trans HM.out)
          · have := HMI.out
            rw [show (intOf (.int .i64 (j : Int))).toNat = j by simp [intOf]] at this
            exact this
          · exact Nat.le_trans hbase (Nat.le_trans HK1.out.size hfar)
          · rintro g hg rfl
            exact absurd hbs (by have := (hown _ hg).1; omega)
          · exact absurd hbs (by have := (hown _ e).1; omega)
          · exact absurd hms (by have := (hown _ e).1; omega)
          · rintro g hg (rfl | rfl)
            · exact (HD1.out.fb _ hg).2.1 rfl
            · exact (HD1.out.fb _ hg).1 rfl
          · have := (HD1.out.fts.blk hg).2
            have := (hown _ e).1
            omega
          · exact laid_len HD1.out.sec _ fun p hp => (HD1.out.psec p (List.mem_of_mem_take hp)).2.2
          · exact fun p hp => HD1.out.psec p (List.mem_of_mem_drop hp)
        · have hset : KeepA (fun x => x = b) w5 (w5.setCell ⟨b, 2, none⟩ v) := keep_grown (grown_setCell _ _ _)
          have hall : KeepA (fun x => x = m ∨ x = b) w0 (w5.setCell ⟨b, 2, none⟩ v) := (((HK1.out.mono fun _ e => .inr e).trans (HKP.out.mono fun _ e => .inl e)).trans (KeepA.of_below h1)).trans (hset.mono fun _ e => .inr e)
          exact hall
      clear h5 hdl
      by_cases hpj : pc = j
      · rw [if_pos hpj] at hrd1
        rw [if_pos hpj, show pc - j = 0 by omega] at hC
        have HC := Lib.hid hC
        have HRD1 := Lib.hid hrd1
        clear hrd1 hC
        go_wp2_with fail
        refine (HC.out _ HRD1.out).mono ?_
        rintro _ w5 ⟨⟨v, rfl, hv1, hv2⟩, hv3⟩
        obtain ⟨hfz, hY⟩ := HX.out w5 v hv3 hv1 hv2
        have HY := Lib.hid hY
        obtain ⟨av, cv, rfl, _, _⟩ := Rd.of_own hv2
        have e25 := cell_later hv3 hbs e2
        clear hv1 hv2 hv3 hY
        go_wp2
        go_ret
        rw [← List.length_drop]
        exact ⟨⟨j, by rw [HN.out]; exact hk, _, HKE.out, HER.out, rfl, HY.out.1⟩, HY.out.2⟩
      · rw [if_neg hpj] at hC hrd1
        have HC := Lib.hid hC
        have HRD1 := Lib.hid hrd1
        clear hrd1 hC
        go_wp2_with fail
        refine (HC.out _ HRD1.out).mono ?_
        rintro _ w5 ⟨⟨v, rfl, hv1, hv2⟩, hv3⟩
        obtain ⟨hfz, hY⟩ := HX.out w5 v hv3 hv1 hv2
        have HY := Lib.hid hY
        obtain ⟨av, cv, rfl, _, _⟩ := Rd.of_own hv2
        have e25 := cell_later hv3 hbs e2
        clear hv1 hv2 hv3 hY
        go_wp2
        go_ret
        rw [← List.length_drop]
        exact ⟨⟨j, by rw [HN.out]; exact hk, _, HKE.out, HER.out, rfl, HY.out.1⟩, HY.out.2⟩
end Go.Proofs.Ytagipfkgnobjlaa
namespace Go.Proofs.Ytagipfkgnobjlaa
open Go.RowKit

theorem foldl_whole (vs : List Value) : ∀ (k : Nat) (C : Array Value), k + vs.length = C.size →
    ((vs.zipIdx k).foldl (fun cs (c, j) => cs.setIfInBounds (0 + j) c) C).toList = C.toList.take k ++ vs := by
  induction vs with
  | nil => intro k C h; simp only [List.length_nil, Nat.add_zero] at h; subst h; simp [← Array.length_toList]
  | cons v r ih =>
    intro k C h
    rw [List.zipIdx_cons, List.foldl_cons]
    simp only [List.length_cons] at h
    rw [ih (k + 1) _ (by simp; omega)]
    simp only [Array.toList_setIfInBounds, Nat.zero_add]
    have hk : k < C.toList.length := by rw [Array.length_toList]; omega
    rw [List.take_set, List.take_succ_eq_append_getElem hk, List.set_append_right _ _ (by simp; omega), List.length_take, Nat.min_eq_left (by omega), Nat.sub_self, List.append_assoc]
    rfl
theorem fill_whole (place : Nat → Option (Nat × Nat)) (C c : Array Value) (hp : place 0 = some (0, C.size)) (h : c.size = C.size) : Instr.fill place C [(0, .agg c)] = some c := by
  have hne : (decide (c.size ≠ C.size) || decide (0 + c.size > C.size)) = false := by simp [h]
  simp only [Instr.fill, hp, show (Value.agg c).cells = c from rfl, hne, Bool.false_eq_true, if_false]
  congr 1
  apply Array.toList_inj.1
  have := foldl_whole c.toList 0 C (by rw [Array.length_toList]; omega)
  rw [List.take_zero, List.nil_append] at this
  rw [← this, ← Array.foldl_toList, Array.toList_zipIdx]
theorem run_sliceP (w : World) (p : Int × List UInt8) (hp : p.2.length = 512) :
    (Instr.buildSlice 51 1 #[(0, .agg (pcC p).toArray)]).run Try.prog w = .ok (.slice (some ⟨w.heap.size, 0, none⟩) 1 1) (w.alloc (.cells (pcC p).toArray 58)) := by
  obtain ⟨i, hi, hz, hs, hb⟩ := info_parts eltP.info
  refine run_buildSlice w _ _ 1 _ (pcC p).toArray i _ Try.underlying51 hi hz (by rw [hs]; decide) (by rw [hs]; decide) ?_
  refine fill_whole _ _ _ ?_ ?_
  · simp
  · simp [hs, pcC_len hp]
theorem run_buildP (w : World) (k : Int) : (Instr.build 58 #[(0, .int .i64 k)]).run Try.prog w = .ok (.agg (pcC (k, nought)).toArray) w := by kernel_rfl
theorem step_buildP {ops : Array Oper} {rest : List Oper} {o : Oper} {act : Act} {Q : Exit → Act → World → Prop} {w : World} (hgd : o.guard = none) (x : Operand) (ho : o.op = .build 58 #[(0, x)]) (k : Int) (hx : act.eval x = .int .i64 k)
    (h : wpList Try.prog ops Q rest (act.put o.dst (.agg (pcC (k, nought)).toArray)) w) : wpList Try.prog ops Q (o :: rest) act w :=
  wpList_plain hgd fun K hK => by
    unfold Oper.wp execOp
    simp only [ho, List.map_toArray, List.map_cons, List.map_nil, hx]
    have hr := run_buildP w k
    rw [Sem.run_bind, hr, Result.andThen_ok]
    exact hK _ _ h
theorem wp_appendP {o : Oper} {act : Act} {K : Act → World → Prop} {Q : Exit → Act → World → Prop} {w : World} (s x : Operand)
    (ho : o.op = .call { callee := .builtin .append, args := #[s, x], argTypes := #[51, 51] }) (base : Nat)
    (v : Value) (l : List (Int × List UInt8)) (hv : act.eval s = v) (g : Nat) (p : Int × List UInt8) (hx : act.eval x = .slice (some ⟨g, 0, none⟩) 1 1)
    (hown : w.ownsRow base 58 513 v l.length (l.flatMap pcC)) (hp : p.2.length = 512) (hk : RowAt w g 58 (pcC p).toArray) (hsz : l.length ≤ 1000000) (hbase : base ≤ w.heap.size)
    (h : ∀ v' w', w'.ownsRow base 58 513 v' (l ++ [p]).length ((l ++ [p]).flatMap pcC) → w.grownBy w' v.ownBlock → NewRow w v v' → K (act.put o.dst v') w') : o.wp Try.prog act w K Q := by
  have hrd : Rd w (some ⟨g, 0, none⟩) (pcC p) := .inr ⟨g, 0, rfl, hk.lt, fun k hkl => by rw [Nat.zero_add, hk.cell k]; simp [hkl]⟩
  obtain ⟨v', w', hr, h2, h3, h4⟩ := run_append_any eltP w base o.type v l.length (l.flatMap pcC) hown (some ⟨g, 0, none⟩) 1 1 (pcC p) (by rw [pcC_len hp]) hrd (pcC_one p) (by omega) (by omega) hbase
  unfold Oper.wp execOp
  simp only [ho, resolve, invoke, builtin, Sem.run_bind, Sem.run_pure, Result.andThen_ok, List.map_toArray, List.map_cons, List.map_nil, hv, hx, hr]
  refine h v' w' ?_ h3 h4
  rw [List.flatMap_append, List.length_append]
  simpa using h2
theorem wp_sliceP {o : Oper} {act : Act} {K : Act → World → Prop} {Q : Exit → Act → World → Prop} {w : World} (x : Operand) (ho : o.op = .buildSlice 51 1 #[(0, x)]) (p : Int × List UInt8) (hp : p.2.length = 512) (hx : act.eval x = .agg (pcC p).toArray)
    (h : ∀ w', RowAt w' w.heap.size 58 (pcC p).toArray → Below w.heap.size w w' → w'.heap.size = w.heap.size + 1 → K (act.put o.dst (.slice (some ⟨w.heap.size, 0, none⟩) 1 1)) w') : o.wp Try.prog act w K Q := by
  have hr := run_sliceP w p hp
  unfold Oper.wp execOp
  simp only [ho, List.map_toArray, List.map_cons, List.map_nil, hx]
  rw [Sem.run_bind, hr, Result.andThen_ok]
  exact h _ (RowAt.new _ _ _) (below_alloc _) (by simp)
theorem keep_grownO {w w' : World} {row : Option Nat} (h : w.grownBy w' row) : KeepA (fun k => row = some k) w w' := ⟨h.os, h.tape, h.output, h.size, fun k hk hx => h.block k hk fun e => hx e.symm⟩
theorem DkAt.appended {w w5 w6 : World} {base b : Nat} {D : DK} {m : Nat} {pv fv v' : Value} {fl : List Ft} {st : Int} (h : DkAt w base b D m pv fv fl st) (p : Int × List UInt8) (hp : 0 ≤ p.1 ∧ p.1 < D.size ∧ p.2.length = 512)
    (hb : Below w.heap.size w w5) (ho : w6.ownsRow base 58 513 v' (D.pcs ++ [p]).length ((D.pcs ++ [p]).flatMap pcC)) (hg : w5.grownBy w6 pv.ownBlock) (hn : NewRow w5 pv v') :
    w6.cell? ⟨b, 2, none⟩ = some pv ∧ w6.frozen? ⟨b, 2, none⟩ = false ∧ DkAt (w6.setCell ⟨b, 2, none⟩ v') base b ⟨D.size, D.last, D.pcs ++ [p]⟩ m v' fv fl st := by
  have hd6 : DkHd w6 b D.size (.map (some m)) pv fv st := RowAt.grown (RowAt.below h.hd hb) hg fun g hg e => h.pb.1 (by rw [hg, e])
  obtain ⟨_, _, c2, _, _⟩ := hd6.cells
  obtain ⟨es, cl, hm, hmi⟩ := h.map
  have hms : m < w.heap.size := (Array.getElem?_eq_some_iff.1 hm).1
  have hbs : b < w.heap.size := h.hd.lt
  have hset : KeepA (fun x => x = b) w6 (w6.setCell ⟨b, 2, none⟩ v') := keep_grown (grown_setCell _ _ _)
  have hall : KeepA (fun x => pv.ownBlock = some x ∨ x = b) w (w6.setCell ⟨b, 2, none⟩ v') := ((KeepA.of_below hb).trans ((keep_grownO hg).mono fun _ e => .inl e)).trans (hset.mono fun _ e => .inr e)
  have hv : ∀ g, v'.ownBlock = some g → pv.ownBlock = some g ∨ w.heap.size ≤ g := fun g hg' => (hn g hg').imp id fun h => Nat.le_trans hb.size h
  refine ⟨c2, hd6.frozen 2, hd6.set 2 v', h.hb, h.hm, h.mb, ⟨es, cl, (hall.same m hms ?_).trans hm, hmi⟩, own_keep hset ho ?_, ⟨fun e => ?_, fun e => ?_⟩, h.fts.keep hall ?_, fun g hg' => ⟨(h.fb g hg').1, (h.fb g hg').2.1, fun e => ?_⟩, h.size, h.sec, ?_⟩
  · rintro (e | e)
    · exact h.pb.2 e
    · exact h.mb e
  · rintro g hg' rfl
    rcases hv _ hg' with e | e
    · exact h.pb.1 e
    · omega
  · rcases hv _ e with e | e
    · exact h.pb.1 e
    · omega
  · rcases hv _ e with e | e
    · exact h.pb.2 e
    · omega
  · rintro g hg' (e | e)
    · exact (h.fb g hg').2.2 e
    · exact (h.fb g hg').1 e
  · rcases hv _ e with e | e
    · exact (h.fb g hg').2.2 e
    · have := (h.fts.blk hg').2
      omega
  · intro q hq
    rcases List.mem_append.1 hq with hq | hq
    · exact h.psec q hq
    · rw [List.mem_singleton.1 hq]; exact hp
end Go.Proofs.Ytagipfkgnobjlaa
namespace Go.Proofs.Ytagipfkgnobjlaa
open Go.RowKit

/-- The pieces of some bytes. -/
def sec (B : List UInt8) (i : Nat) : List UInt8 := (B.drop (i * 512)).take 512
def wps (at_ : Int) (B : List UInt8) (k : Nat) : List (Int × List UInt8) := (List.range k).map fun (i : Nat) => (at_ + (i : Int), sec B i)
theorem wps_succ (at_ : Int) (B : List UInt8) (k : Nat) : wps at_ B (k + 1) = wps at_ B k ++ [(at_ + (k : Int), sec B k)] := by
  unfold wps
  rw [List.range_succ, List.map_append]
  rfl
theorem sec_len {B : List UInt8} {i : Nat} (h : i * 512 + 512 ≤ B.length) : (sec B i).length = 512 := by
  unfold sec
  rw [List.length_take, List.length_drop]
  omega
theorem sec_get {B : List UInt8} {j jj : Nat} {v : Value} (h : ((sec B j).map bv)[jj]? = some v) : (B.map bv)[j * 512 + jj]? = some v := by
  unfold sec at h
  rw [List.map_take, List.map_drop, List.getElem?_take] at h
  split at h
  · rw [List.getElem?_drop] at h; exact h
  · cases h
theorem splice_piece (k : Int) (B S : List UInt8) (hB : B.length = 512) (hS : S.length = 512) : splice (pcC (k, B)) 1 (S.map bv) = pcC (k, S) := by
  unfold splice pcC
  simp [hB, hS]
set_option maxRecDepth 100000 in
set_option maxHeartbeats 1000000 in
theorem write_at (w : World) (base b : Nat) (D : DK) (F m : Nat) (pv fv : Value) (fl : List Ft) (st : Int) (at_ : Int) (a : Option Addr) (B : List UInt8) (nb cap : Nat) (h : DkAt w base b D m pv fv fl st) (hF : fl.length ≤ F) (hbase : base ≤ w.heap.size) (hn : nb = B.length) (hcap : nb ≤ cap) (hB : RdB w a B)
    (hsep : B ≠ [] → ∀ ad, a = some ad → ad.block ≠ b ∧ pv.ownBlock ≠ some ad.block) (hsz : D.pcs.length + B.length / 512 ≤ 1000000) (hnb : B.length ≤ 100000000) :
    Calls Try.prog 6 #[.pointer (some ⟨b, 0, none⟩), .int .i64 at_, .slice a nb cap] w fun e w' =>
      (∃ (k : Nat) (er : Int), k ≤ B.length / 512 ∧ (k ≠ 0 → 0 ≤ at_ ∧ at_ + ((B.length / 512 : Nat) : Int) ≤ D.size) ∧ (F = 0 → B.length % 512 = 0 → 0 ≤ at_ → at_ + ((B.length / 512 : Nat) : Int) ≤ D.size → k = B.length / 512 ∧ er = 0) ∧ (B.length % 512 = 0 → 0 ≤ at_ → at_ + ((B.length / 512 : Nat) : Int) ≤ D.size → Fine er k (B.length / 512)) ∧ e = .returned (.int .i64 er) ∧ ∃ pv' fv' fl' st', DkAt w' base b ⟨D.size, D.last, D.pcs ++ wps at_ B k⟩ m pv' fv' fl' st' ∧ fl'.length ≤ F ∧ (∀ g, pv'.ownBlock = some g → pv.ownBlock = some g ∨ w.heap.size ≤ g) ∧ ∀ g, slB fv' = some g → slB fv = some g) ∧ KeepA (fun x => x = b ∨ pv.ownBlock = some x) w w' := by
  have HN := Lib.hid hn
  have HB := Lib.hid hB
  have HSEP := Lib.hid hsep
  have HSZ := Lib.hid hsz
  have HNO := Lib.hid (fun w hh => none_any w b D.size (.map (some m)) pv fv st hh h.size.1)
  have HAS := Lib.hid (fun w at_ n hh => asked_any w b D.size (.map (some m)) pv fv st at_ n hh h.size.2)
  have HST := Lib.hid (fun k => step_any w base b D m pv fv fl st k h)
  have HD := Lib.hid h
  clear h hn hB hsep hsz
  by_cases hm : nb % 512 = 0
  · obtain ⟨n, hn2⟩ : ∃ n, B.length / 512 = n := ⟨_, rfl⟩
    have hB512 : B.length = n * 512 := by have := HN.out; omega
    have HN2 := Lib.hid hn2
    have HL := Lib.hid hB512
    have htest : (((nb : Int) % 512) != 0) = false := by simp; omega
    have hq : (nb : Int) / 512 = (n : Int) := by have := HN.out; omega
    have hnn : n ≤ 1000000 := by have := HSZ.out; omega
    rw [hn2]
    clear hn2 hB512
    by_cases hask : askB D.size at_ n = true
    · go_enter Try.func6, Try.ntmps6
      go_wp2_with fail
      refine (HNO.out _ HD.out.hd).mono ?_
      rintro _ w0 ⟨rfl, rfl⟩
      go_wp2_with fail
      have hask3 := hask
      simp only [askB, Bool.and_eq_true, decide_eq_true_eq] at hask3
      obtain ⟨ha1, ha2, ha3⟩ := hask3
      have hds := HD.out.size.2
      refine (HAS.out _ _ _ HD.out.hd).mono ?_
      rw [hask]
      rintro _ w0 ⟨rfl, rfl⟩
      go_wp2_with fail
      refine (HST.out n).mono ?_
      rintro _ w1 ⟨⟨k, hk, er, hke, her, rfl⟩, ⟨fv', fl', st', hD1, hF1, hsl⟩, hK1⟩
      have HER : Hid (Fine er k n) := her
      have HKE : Hid (F = 0 → k = n ∧ er = 0) := fun h0 => hke (by omega)
      have HD1 := Lib.hid hD1
      have HB1 : Hid (KeepA (fun x => x = b ∨ pv.ownBlock = some x) w0 w1) := hK1.mono fun _ e => .inl e
      have HSLB := Lib.hid hsl
      clear hke her hD1 hK1 hask hsl
      go_wp2
      go_loopw [38] (fun i wr => (∃ pv2, DkAt wr base b ⟨D.size, D.last, D.pcs ++ wps at_ B (intOf i).toNat⟩ m pv2 fv' fl' st' ∧ ∀ g, pv2.ownBlock = some g → pv.ownBlock = some g ∨ w0.heap.size ≤ g) ∧ KeepA (fun x => x = b ∨ pv.ownBlock = some x) w0 wr ∧ ∃ j : Nat, j ≤ k ∧ i = .int .i64 j) (fun i _ => k - (intOf i).toNat)
      case atStart => exact ⟨⟨pv, by rw [show wps at_ B (intOf (.int .i64 (0 : Int))).toNat = [] from rfl, List.append_nil]; exact ⟨HD1.out, fun g hg => .inl hg⟩⟩, HB1.out, 0, Nat.zero_le _, rfl⟩
      case round =>
        obtain ⟨⟨pv2, hdr, hpn⟩, hbr, j, hj, rfl⟩ := hrel
        have HPN := Lib.hid hpn
        clear hpn
        rw [show (intOf (.int .i64 (j : Int))).toNat = j by simp [intOf]] at hdr
        have HDR := Lib.hid hdr
        have HBR := Lib.hid hbr
        clear hdr hbr
        by_cases hjk : j < k
        · have hb1 : (j : Int) < (k : Int) := by omega
          have hjl : j * 512 + 512 ≤ B.length := by rw [HL.out]; omega
          have hBne : B ≠ [] := by intro e; rw [e] at hjl; simp at hjl
          obtain ⟨ga, oa, rfl, hga, hca⟩ := HB.out.resolve_left (by simpa using hBne)
          have hsl := sec_len (i := j) hjl
          obtain ⟨p0, hp0⟩ : ∃ p, ((at_ + (j : Int), nought) : Int × List UInt8) = p := ⟨_, rfl⟩
          obtain ⟨S, hS⟩ : ∃ S, (sec B j).map bv = S := ⟨_, rfl⟩
          have hSl : S.length = 512 := by rw [← hS, List.length_map, hsl]
          have hS1 : Hid (∀ v ∈ S, v.oneCell' = true) := by rw [← hS]; exact bv_one _
          have hp05 : p0.2.length = 512 := by rw [← hp0]; exact List.length_replicate
          obtain ⟨t1, t2, t3⟩ := piece_store hp05
          have hsrc : Hid (∀ jj v, S[jj]? = some v → wr.cell? ((⟨ga, oa + j * 512, none⟩ : Addr).add jj) = some v) := fun jj v hv => by
            rw [Addr.add_mid]
            obtain ⟨hs1, hs2⟩ := HSEP.out hBne _ rfl
            rw [← hS] at hv
            obtain ⟨hlt2, he2⟩ := List.getElem?_eq_some_iff.1 (sec_get hv)
            refine HBR.out.cell (p := ⟨ga, _, none⟩) ?_ (by rintro (e | e); exact hs1 e; exact hs2 e)
            rw [Nat.add_assoc, hca (j * 512 + jj) hlt2, he2]
          have hcap1 : ¬ cap = j * 512 := by have := HN.out; omega
          have hj1 : j * 512 ≤ nb := by have := HN.out; omega
          have hjw : IntKind.i64.wrap ((j : Int) * 512) = (j : Int) * 512 := IntWalk.i64_in _ (by omega)
          have hj2 : (0 : Int) ≤ (j : Int) * 512 := by omega
          have hj3 : (j : Int) * 512 ≤ (nb : Int) := by omega
          have hj4 : ((j : Int) * 512).toNat = j * 512 := by omega
          have HSS := Lib.hid hS
          clear hS
          obtain ⟨bx, hbx⟩ : ∃ x, wr.heap.size = x := ⟨_, rfl⟩
          go_wp2_with (first
            | (refine step_buildP rfl (.tmp 43) rfl (at_ + (j : Int)) rfl ?_; rw [hp0])
            | (refine step_allocZ rfl 58 rfl zeroP zero_piece ?_; intro w2 q1 q2 q3; rw [hbx] at q1 q3 ⊢)
            | (refine step_storeRow rfl 58 (.tmp 12) (.tmp 44) rfl rfl bx (pcC p0).toArray rfl rfl 58 zeroP q1 t1.out t2.out t3.out ?_; intro w3 q4 q5))
          have HB3 := Lib.hid (below_grown q2 q5 (by omega) (by intro x hx; have := Option.some.inj hx; omega))
          have HR3 := Lib.hid q4
          have HS3 : Hid (∀ jj v, S[jj]? = some v → w3.drew.cell? ((⟨ga, oa + j * 512, none⟩ : Addr).add jj) = some v) := fun jj v hv => by
            have h := hsrc.out jj v hv
            rw [Addr.add_mid] at h ⊢
            exact cell_later (drewN_below HB3.out 1) (Nat.lt_of_lt_of_le hga HBR.out.size) h
          have hsz3 : Hid (bx < w3.heap.size) := q4.lt
          clear q1 q2 q3 q4 q5 t1 t2 t3
          simp only [Act.put, List.setIfInBounds_toArray, List.set_cons_zero, List.set_cons_succ]
          go_region_held_law (fun _ => True) (trivial) (first
            | (refine step_copy_splice rfl (.tmp 46) (.tmp 50) 22 22 rfl 5 Try.underlying22 (by kernel_rfl) _ _ _ _ _ _ rfl rfl bx 1 (pcC p0) 58 HR3.out S (by rw [hSl]; exact (Nat.min_eq_right (by have := HN.out; omega)).symm) (fun _ => ⟨rfl, _, rfl, HS3.out⟩) (by rw [hSl, pcC_len hp05]; decide) hS1.out wr.heap.size wr (drewN_below HB3.out 1) (by omega) ?_; intro w4 q6 q7))
          simp only [List.getElem_toArray, List.getElem_cons_succ, List.getElem_cons_zero, Act.put, List.setIfInBounds_toArray, List.set_cons_zero, List.set_cons_succ]
          obtain ⟨p, hp⟩ : ∃ p, ((at_ + (j : Int), sec B j) : Int × List UInt8) = p := ⟨_, rfl⟩
          have hp5 : p.2.length = 512 := by rw [← hp]; exact hsl
          have HR4 : Hid (RowAt w4 bx 58 (pcC p).toArray) := by
            have h := q6.out
            rw [← HSS.out, ← hp0, splice_piece (at_ + (j : Int)) nought (sec B j) List.length_replicate hsl, hp] at h
            exact h
          have HB4 := Lib.hid q7
          have HP := Lib.hid hp
          clear q6 q7 hp hp0 hp05 hSl hS1 hsrc hsl HS3 HR3 HB3 HSS hjw hj1 hj2 hj3 hj4 hcap1 hca
          go_wp2
          obtain ⟨f8, hu8⟩ : ∃ f, Try.prog.underlying 58 = some (.struct f) := ⟨_, Try.underlying58⟩
          have hi8 : (Try.prog.info? 58).map (·.size) = some (pcC p).length := by rw [pcC_len hp5]; kernel_rfl
          obtain ⟨d0, d1, d2, d3, d4⟩ := HDR.out.hd.cells
          have hbs : b < wr.heap.size := HDR.out.hd.lt
          have hbxb : ¬ bx = b := by omega
          have hbw : base ≤ wr.heap.size := Nat.le_trans hbase HBR.out.size
          have hR4d : w4.drew.rangeAt bx 0 (pcC p) := fun jj v hv => by
            rw [Nat.zero_add]
            have := RowAt.cell (w := w4.drew) HR4.out jj
            rw [this, List.getElem?_toArray]
            exact hv
          have hk1 : w4.drew.cell? ⟨b, 2, none⟩ = some pv2 ∧ w4.drew.rangeAt bx 0 (pcC p) := ⟨cell_later (drewN_below HB4.out 1) hbs d2, hR4d⟩
          have D2 := Lib.hid d2
          clear d0 d1 d2 d3 d4 hR4d
          refine wp_region_held_drew (S := fun w' => w'.rangeAt bx 0 (pcC p)) (by kernel_rfl) hk1.2 (fun hHeld => ?_)
          refine wpAnyH_take (i := 5) (v := _) rfl (by kernel_rfl) (by kernel_rfl) (by kernel_rfl) (fun _ _ _ h => h) (yieldsIf_load_mid (by rfl) 58 (.tmp 12) rfl bx 0 rfl (pcC p) _ (fun _ h => h) hu8 rfl hi8) hHeld ?_
          simp only [List.getElem_toArray, List.getElem_cons_succ, List.getElem_cons_zero, Act.put, List.setIfInBounds_toArray, List.set_cons_zero, List.set_cons_succ]
          clear hu8 hi8
          have hk2 := hk1.1
          refine wpAnyH_take (i := 0) (v := ?vv0) rfl (by kernel_rfl) (by kernel_rfl) (by kernel_rfl) (fun _ _ _ h => h) (Or.inl ⟨by rfl, ?yy0⟩) hHeld ?rest0
          case yy0 =>
            intro w' hS'
            go_simp
            try with_reducible rfl
          simp only [List.getElem_toArray, List.getElem_cons_succ, List.getElem_cons_zero, Act.put, List.setIfInBounds_toArray, List.set_cons_zero, List.set_cons_succ]
          refine wpAnyH_take (i := 1) (v := ?vv1) rfl (by kernel_rfl) (by kernel_rfl) (by kernel_rfl) (fun _ _ _ h => h) (Or.inl ⟨by rfl, ?yy1⟩) hHeld ?rest1
          case yy1 =>
            intro w' hS'
            go_simp
            try with_reducible rfl
          simp only [List.getElem_toArray, List.getElem_cons_succ, List.getElem_cons_zero, Act.put, List.setIfInBounds_toArray, List.set_cons_zero, List.set_cons_succ]
          refine wpAnyH_take (i := 2) (v := ?vv2) rfl (by kernel_rfl) (by kernel_rfl) (by kernel_rfl) (fun _ _ _ h => h) (Or.inl ⟨by rfl, ?yy2⟩) hHeld ?rest2
          case yy2 =>
            intro w' hS'
            go_simp
            try with_reducible rfl
          simp only [List.getElem_toArray, List.getElem_cons_succ, List.getElem_cons_zero, Act.put, List.setIfInBounds_toArray, List.set_cons_zero, List.set_cons_succ]
          refine wpAnyH_take (i := 3) (v := ?vv3) rfl (by kernel_rfl) (by kernel_rfl) (by kernel_rfl) (fun _ _ _ h => h) (Or.inl ⟨by rfl, ?yy3⟩) hHeld ?rest3
          case yy3 =>
            intro w' hS'
            go_simp
            try with_reducible rfl
          simp only [List.getElem_toArray, List.getElem_cons_succ, List.getElem_cons_zero, Act.put, List.setIfInBounds_toArray, List.set_cons_zero, List.set_cons_succ]
          refine wpAnyH_ready (rs := [4, 6]) (by kernel_rfl) (by simp) (AllReadyH.cons rfl (fun K hK => ?_) (AllReadyH.cons rfl (fun K hK => ?_) AllReadyH.nil))
          rotate_left
          rw [if_pos (by rfl)]
          refine wp_sliceP (.tmp 57) rfl p hp5 rfl ?_
          intro w5 q1 q2 q3
          have HB5 := Lib.hid (below_trans (show Below wr.heap.size wr w4.drew from drewN_below HB4.out 1) q2)
          have HR5 := Lib.hid q1
          obtain ⟨b5, hb5⟩ : ∃ x, w4.drew.heap.size = x := ⟨_, rfl⟩
          rw [hb5] at HR5 ⊢
          have hRr : w5.rangeAt bx 0 (pcC p) := fun jj v hv => q2.cell (p := ⟨bx, _, none⟩) HR4.out.lt |>.trans (hHeld jj v hv)
          have hC5 := cell_later HB5.out hbs D2.out
          refine hK.out _ _ hRr (fun hHeld5 => ?_)
          simp only [List.getElem_toArray, List.getElem_cons_succ, List.getElem_cons_zero, Act.put, List.setIfInBounds_toArray, List.set_cons_zero, List.set_cons_succ]
          clear hK K q1 q2 q3
          refine wpAnyH_ready (rs := [4]) (by kernel_rfl) (by simp) (AllReadyH.cons rfl (fun K hK => ?_) AllReadyH.nil)
          go_simp
          refine hK.out _ _ hHeld5 (fun _ => ?_)
          clear hK K
          rotate_left
          go_simp
          refine hK.out _ _ hHeld (fun _ => ?_)
          clear hK K
          refine wpAnyH_ready (rs := [6]) (by kernel_rfl) (by simp) (AllReadyH.cons rfl (fun K hK => ?_) AllReadyH.nil)
          rw [if_pos (by rfl)]
          refine wp_sliceP (.tmp 57) rfl p hp5 rfl ?_
          intro w5 q1 q2 q3
          have HB5 := Lib.hid (below_trans (show Below wr.heap.size wr w4.drew from drewN_below HB4.out 1) q2)
          have HR5 := Lib.hid q1
          obtain ⟨b5, hb5⟩ : ∃ x, w4.drew.heap.size = x := ⟨_, rfl⟩
          rw [hb5] at HR5 ⊢
          have hRr : w5.rangeAt bx 0 (pcC p) := fun jj v hv => q2.cell (p := ⟨bx, _, none⟩) HR4.out.lt |>.trans (hHeld jj v hv)
          have hC5 := cell_later HB5.out hbs D2.out
          refine hK.out _ _ hRr (fun hHeld5 => ?_)
          simp only [List.getElem_toArray, List.getElem_cons_succ, List.getElem_cons_zero, Act.put, List.setIfInBounds_toArray, List.set_cons_zero, List.set_cons_succ]
          clear hK K q1 q2 q3
          all_goals
            have HO5 := Lib.hid (own_keep (KeepA.of_below (X := fun _ => False) HB5.out) HDR.out.pcs fun _ _ h => h)
            have hlen : (D.pcs ++ wps at_ B j).length = D.pcs.length + j := by simp [wps]
            refine wpAnyH_ready (rs := [7]) (by kernel_rfl) (by simp) (AllReadyH.cons rfl (fun K hK => ?_) AllReadyH.nil)
            rw [if_pos (by rfl)]
            refine wp_appendP (.tmp 56) (.tmp 58) rfl base pv2 _ rfl b5 p rfl HO5.out hp5 HR5.out (by dsimp only; rw [hlen]; have := HSZ.out; have := HN2.out; omega) (Nat.le_trans hbase (Nat.le_trans HBR.out.size HB5.out.size)) ?_
            intro v6 w6 q1 q2 q3
            obtain ⟨f1, f2, f3⟩ := HDR.out.appended p (by rw [← HP.out]; exact ⟨by dsimp only; omega, by dsimp only; omega, by rw [HP.out]; exact hp5⟩) HB5.out q1 q2 q3
            have hbp : pv2.ownBlock ≠ some bx := fun e => by have := (HDR.out.pcs.lt _ e).2; omega
            have hR6 : w6.rangeAt bx 0 (pcC p) := fun jj v hv => ((keep_grownO q2).cell (p := ⟨bx, _, none⟩) (hHeld5 jj v hv) hbp)
            have HB6 : Hid (KeepA (fun x => x = b ∨ pv.ownBlock = some x) w0 w6) := HBR.out.trans2 ((KeepA.of_below HB5.out).trans (keep_grownO q2)) (fun x hx e => .inr ((HPN.out x e).resolve_right (by omega)))
            have HPN6 : Hid (∀ g, v6.ownBlock = some g → pv.ownBlock = some g ∨ w0.heap.size ≤ g) := fun g hg => (q3 g hg).elim (HPN.out g) fun h => .inr (Nat.le_trans HBR.out.size (Nat.le_trans HB5.out.size h))
            refine hK.out _ _ hR6 (fun hHeld6 => ?_)
            simp only [List.getElem_toArray, List.getElem_cons_succ, List.getElem_cons_zero, Act.put, List.setIfInBounds_toArray, List.set_cons_zero, List.set_cons_succ]
            obtain ⟨pa6, pc6, hpv6, -, -⟩ := Rd.of_own q1
            obtain ⟨n6, hn6⟩ : ∃ x, ((D.pcs ++ wps at_ B j) ++ [p]).length = x := ⟨_, rfl⟩
            rw [hn6] at hpv6
            subst hpv6
            have HD6 := Lib.hid f3
            clear hK K q1 q2 q3 f3 hn6
            refine wpAnyH_take (i := 8) (v := ?_) rfl (by kernel_rfl) (by kernel_rfl) (by kernel_rfl) (fun _ _ _ h => h) (Or.inl ⟨by rfl, ?_⟩) hHeld6 ?_
            rotate_left
            · intro w' hS'
              go_simp
              try with_reducible rfl
            simp only [List.getElem_toArray, List.getElem_cons_succ, List.getElem_cons_zero, Act.put, List.setIfInBounds_toArray, List.set_cons_zero, List.set_cons_succ]
            refine wpAnyH_take (i := 9) (v := ?_) rfl (by kernel_rfl) (by kernel_rfl) (by kernel_rfl) (fun _ _ _ h => h) (Or.inl ⟨by rfl, ?_⟩) hHeld6 ?_
            rotate_left
            · intro w' hS'
              go_simp
              try with_reducible rfl
            simp only [List.getElem_toArray, List.getElem_cons_succ, List.getElem_cons_zero, Act.put, List.setIfInBounds_toArray, List.set_cons_zero, List.set_cons_succ]
            refine wpAnyH_ready (rs := [10]) (by kernel_rfl) (by simp) (AllReadyH.cons rfl (fun K hK => ?_) AllReadyH.nil)
            go_simp
            have hset : KeepA (fun x => x = b) w6 (w6.setCell ⟨b, 2, none⟩ (.slice pa6 n6 pc6)) := keep_grown (grown_setCell _ _ _)
            refine hK.out _ _ (fun jj v hv => hset.cell (p := ⟨bx, _, none⟩) (hHeld6 jj v hv) hbxb) (fun _ => ?_)
            clear hK K
            refine wpAnyH_done (by kernel_rfl) ?_ _
            go_wp2
            refine ⟨⟨⟨.slice pa6 n6 pc6, ?_, HPN6.out⟩, HB6.out.trans (hset.mono fun _ e => .inl e), j + 1, by omega, by go_num⟩, by simp [intOf]; omega⟩
            rw [show (intOf (.int .i64 ((j : Int) + 1))).toNat = j + 1 by simp [intOf], wps_succ, HP.out, ← List.append_assoc]
            exact HD6.out
        · have hjk2 : j = k := by omega
          subst hjk2
          go_wp2_with fail
          go_ret
          exact ⟨⟨j, er, by omega, fun _ => ⟨ha1, by omega⟩, fun h0 _ _ _ => HKE.out h0, fun _ _ _ => HER.out, rfl, ⟨pv2, fv', fl', st', HDR.out, by omega, HPN.out, HSLB.out⟩⟩, HBR.out⟩
    · have hask2 : askB D.size at_ n = false := by simpa using hask
      have HASK := Lib.hid hask2
      clear hask hask2
      go_enter Try.func6, Try.ntmps6
      go_wp2_with fail
      refine (HNO.out _ HD.out.hd).mono ?_
      rintro _ w0 ⟨rfl, rfl⟩
      go_wp2_with fail
      refine (HAS.out _ _ _ HD.out.hd).mono ?_
      rw [HASK.out]
      rintro _ w0 ⟨rfl, rfl⟩
      go_wp2_with fail
      go_ret
      have hno : 0 ≤ at_ → at_ + (n : Int) ≤ D.size → False := fun h1 h2 => by
        have := HASK.out
        simp [askB, h1] at this
        have h3 := HD.out.size
        omega
      refine ⟨⟨0, 4, Nat.zero_le _, fun h => absurd rfl h, fun _ _ h1 h2 => (hno h1 h2).elim, fun _ h1 h2 => (hno h1 h2).elim, rfl, ?_⟩, KeepA.refl _ _⟩
      rw [show wps at_ B 0 = [] from rfl, List.append_nil]
      exact ⟨pv, fv, fl, st, HD.out, hF, fun g hg => .inl hg, fun g hg => hg⟩
  · have HM : Hid (¬ B.length % 512 = 0) := by rw [← HN.out]; exact hm
    have htest : (((nb : Int) % 512) != 0) = true := by simp; omega
    go_enter Try.func6, Try.ntmps6
    go_wp2_with fail
    refine (HNO.out _ HD.out.hd).mono ?_
    rintro _ w0 ⟨rfl, rfl⟩
    go_wp2_with fail
    go_ret
    refine ⟨⟨0, 2, Nat.zero_le _, fun h => absurd rfl h, fun _ h => absurd h HM.out, fun h => absurd h HM.out, rfl, ?_⟩, KeepA.refl _ _⟩
    rw [show wps at_ B 0 = [] from rfl, List.append_nil]
    exact ⟨pv, fv, fl, st, HD.out, hF, fun g hg => .inl hg, fun g hg => hg⟩
end Go.Proofs.Ytagipfkgnobjlaa
namespace Go.Proofs.Ytagipfkgnobjlaa
open Go.RowKit

def flatS (L : Int → List UInt8) (at_ : Int) (n : Nat) : List UInt8 := (List.range n).flatMap fun (i : Nat) => L (at_ + (i : Int))
theorem flatS_succ (L : Int → List UInt8) (at_ : Int) (n : Nat) : flatS L at_ (n + 1) = flatS L at_ n ++ L (at_ + (n : Int)) := by
  unfold flatS
  rw [List.range_succ, List.flatMap_append, List.flatMap_singleton]
theorem flatS_len {L : Int → List UInt8} (hL : ∀ k, (L k).length = 512) (at_ : Int) : ∀ n, (flatS L at_ n).length = n * 512
  | 0 => by simp [flatS]
  | n + 1 => by rw [flatS_succ, List.length_append, flatS_len hL at_ n, hL, Nat.succ_mul]
theorem flatS_congr {L M : Int → List UInt8} (at_ : Int) : ∀ n, (∀ i : Nat, i < n → L (at_ + (i : Int)) = M (at_ + (i : Int))) → flatS L at_ n = flatS M at_ n
  | 0, _ => rfl
  | n + 1, h => by rw [flatS_succ, flatS_succ, flatS_congr at_ n fun i hi => h i (by omega), h n (by omega)]
theorem flatS_splice {L : Int → List UInt8} (hL : ∀ k, (L k).length = 512) (at_ : Int) (s : List UInt8) (hs : s.length = 512) (i : Nat) : ∀ n, i < n → splice (flatS L at_ n) (i * 512) s = flatS (updS L (at_ + (i : Int), s)) at_ n
  | 0, h => by omega
  | n + 1, h => by
    have hl := flatS_len hL at_ n
    rw [flatS_succ, flatS_succ]
    by_cases hi : i < n
    · rw [← flatS_splice hL at_ s hs i n hi]
      have hu : updS L (at_ + (i : Int), s) (at_ + (n : Int)) = L (at_ + (n : Int)) := by unfold updS; rw [if_neg (by dsimp only; omega)]
      rw [hu]
      unfold splice
      rw [List.take_append_of_le_length (by omega), List.drop_append_of_le_length (by omega), List.append_assoc, List.append_assoc]
    · obtain rfl : i = n := by omega
      have hu : updS L (at_ + (i : Int), s) (at_ + (i : Int)) = s := by unfold updS; rw [if_pos rfl]
      rw [hu, flatS_congr (M := updS L (at_ + (i : Int), s)) at_ i fun j hj => by unfold updS; rw [if_neg (by dsimp only; omega)]] at *
      unfold splice
      have h5 := hL (at_ + (i : Int))
      rw [List.take_append_of_le_length (by omega), List.take_of_length_le (by omega), List.drop_of_length_le (by rw [List.length_append]; omega), List.append_nil]
theorem splice_map {α β : Type} (f : α → β) (l s : List α) (off : Nat) : splice (l.map f) off (s.map f) = (splice l off s).map f := by
  unfold splice
  simp
theorem flatS_nought (at_ : Int) : ∀ n, flatS (fun _ => nought) at_ n = List.replicate (n * 512) 0
  | 0 => by simp [flatS]
  | n + 1 => by rw [flatS_succ, flatS_nought at_ n, Nat.succ_mul]; exact List.replicate_append_replicate
/-- What is there behind the first i sectors. -/
def upTo (L : Int → List UInt8) (at_ : Int) (i : Nat) : Int → List UInt8 := fun k => if k < at_ + (i : Int) then L k else nought
theorem upTo_len {L : Int → List UInt8} (hL : ∀ k, (L k).length = 512) (at_ : Int) (i : Nat) : ∀ k, (upTo L at_ i k).length = 512 := fun k => by
  unfold upTo
  split
  · exact hL k
  · exact List.length_replicate
theorem upTo_succ (L : Int → List UInt8) (at_ : Int) (i n : Nat) : flatS (updS (upTo L at_ i) (at_ + (i : Int), L (at_ + (i : Int)))) at_ n = flatS (upTo L at_ (i + 1)) at_ n := by
  refine flatS_congr at_ n fun j _ => ?_
  unfold updS upTo
  dsimp only
  by_cases h : j = i
  · subst h; rw [if_pos rfl, if_pos (by omega)]
  · rw [if_neg (by omega)]
    by_cases h2 : j < i
    · rw [if_pos (by omega), if_pos (by omega)]
    · rw [if_neg (by omega), if_neg (by omega)]
theorem upTo_all (L : Int → List UInt8) (at_ : Int) (n : Nat) : flatS (upTo L at_ n) at_ n = flatS L at_ n := flatS_congr at_ n fun j hj => by unfold upTo; rw [if_pos (by omega)]
theorem upTo_none (L : Int → List UInt8) (at_ : Int) (n : Nat) : flatS (upTo L at_ 0) at_ n = List.replicate (n * 512) 0 := by
  rw [← flatS_nought at_]
  exact flatS_congr at_ n fun j hj => by unfold upTo; rw [if_neg (by omega)]
/-- A piece that is not among the sectors. -/
theorem flatS_out (L : Int → List UInt8) (at_ : Int) (n : Nat) (p : Int × List UInt8) (h : ¬ (at_ ≤ p.1 ∧ p.1 < at_ + (n : Int))) : flatS (updS L p) at_ n = flatS L at_ n := flatS_congr at_ n fun j hj => by
  unfold updS
  rw [if_neg (by omega)]
theorem eltB : Elt Try.prog 22 5 1 1 (.int .u8 0) := ⟨Try.underlying22, by kernel_rfl, rfl, by decide⟩
set_option maxRecDepth 100000 in
/-- So many bytes are made. -/
theorem step_makeB {ops : Array Oper} {rest : List Oper} {o : Oper} {act : Act} {Q : Exit → Act → World → Prop} {w : World} (hgd : o.guard = none) (l c : Operand) (ho : o.op = .makeSlice 22 l c) (n : Nat) (hl : act.eval l = .int .i64 (n : Int)) (hc : act.eval c = .int .i64 (n : Int)) (hm : n ≤ 281474976710656)
    (h : ∀ w', RowAt w' w.heap.size 5 ((List.replicate n (0 : UInt8)).map bv).toArray → Below w.heap.size w w' → wpList Try.prog ops Q rest (act.put o.dst (.slice (some ⟨w.heap.size, 0, none⟩) n n)) w') : wpList Try.prog ops Q (o :: rest) act w := by
  obtain ⟨i, hi, hz0, hs, hby⟩ := info_parts eltB.info
  refine wpList_plain hgd fun K hK => ?_
  obtain ⟨w', hrun, r1, r2⟩ := run_make_full (P := Try.prog) w w.heap.size _ _ i _ 1 eltB.und hi hz0 hs .i64 .i64 n (by rw [hby]; omega) (by unfold maxLen; omega) (Nat.le_refl _)
  unfold Oper.wp execOp
  simp only [ho, hl, hc, Sem.run_bind, Sem.run_pure, Result.andThen_ok, hrun]
  refine hK _ _ (h w' ?_ ⟨r2.os, r2.tape, r2.output, r2.size, fun k hk => r2.block k hk (by simp)⟩)
  rw [show (Value.int .u8 0).cells = #[Value.int .u8 0] from rfl, Nat.mul_one, toList_madeCells_one] at r1
  rcases r1.2 with ⟨h1, _⟩ | ⟨g, cap, cur, h1, _, hg, h3, _, h4, h5⟩
  · cases h1
  · simp only [Value.slice.injEq, Option.some.injEq, Addr.mk.injEq, and_true, true_and] at h1
    obtain ⟨rfl, rfl⟩ := h1
    rw [Nat.mul_one] at h4 h5
    rw [List.take_of_length_le (by rw [Array.length_toList]; omega)] at h5
    unfold RowAt
    rw [hg, List.map_replicate]
    congr 2
    apply Array.toList_inj.1
    rw [h5]
    rfl
end Go.Proofs.Ytagipfkgnobjlaa
namespace Go.Proofs.Ytagipfkgnobjlaa
open Go.RowKit

set_option maxRecDepth 100000 in
theorem step_lookup {ops : Array Oper} {rest : List Oper} {o : Oper} {act : Act} {Q : Exit → Act → World → Prop} {w : World} (hgd : o.guard = none) (x y : Operand) (ho : o.op = .lookup 46 x y false) {m : Nat} {es : Array MapEntry} {clock : Nat} {last : Int → List UInt8}
    (h : w.heap[m]? = some (.map es clock)) (hm : MapIs clock es.toList last) (k : Int) (hx : act.eval x = .map (some m)) (hy : act.eval y = .int .i64 k)
    (hK : wpList Try.prog ops Q rest (act.put o.dst (.agg ((last k).map bv).toArray)) w) : wpList Try.prog ops Q (o :: rest) act w :=
  wpList_plain hgd fun K hK' => by
    unfold Oper.wp execOp
    simp only [ho, hx, hy]
    rw [Sem.run_bind, lookup_run h hm k]
    exact hK' _ _ hK
theorem sec_store {s : List UInt8} (hs : s.length = 512) : Hid ((Try.prog.info? 56).map (·.size) = some (s.map bv).toArray.size) ∧ Hid (zeroS.size = (s.map bv).toArray.size) ∧ Hid ((s.map bv).toArray.all (·.oneCell') = true) := by
  have h : (s.map bv).toArray.size = 512 := by rw [List.size_toArray, List.length_map, hs]
  refine ⟨?_, ?_, ?_⟩
  · show _ = _
    rw [h]; kernel_rfl
  · show _ = _
    rw [h]; kernel_rfl
  · show _ = _
    simp only [List.all_toArray, List.all_eq_true]
    exact bv_one s
theorem own_of_row {w : World} {g n base : Nat} {T : TypeId} {l : List UInt8} (h : RowAt w g T (l.map bv).toArray) (hn : l.length = n) (hm : n ≤ maxLen) (hb : base ≤ g) : OwnB w base T (.slice (some ⟨g, 0, none⟩) n n) l := by
  subst hn
  refine ⟨by simp, .inr ⟨g, _, _, rfl, hb, h, Nat.le_refl _, hm, by simp, ?_⟩⟩
  rw [List.take_of_length_le (by simp)]
theorem step_copyG {ops : Array Oper} {o : Oper} {a : Act} {w : World} {K : Act → World → Prop} {Q : Exit → Act → World → Prop} {E : Prop} (hgd : o.guard = none) (d s : Operand)
    (ho : o.op = .call { callee := .builtin .copy, args := #[d, s], argTypes := #[22, 22] })
    (g off dLen dCap : Nat) (ad : Addr) (sLen sCap : Nat) (hd : a.eval d = .slice (some ⟨g, off, none⟩) dLen dCap) (hs : a.eval s = .slice (some ad) sLen sCap)
    (cur : List Value) (hg : RowAt w g 5 cur.toArray) (cs : List Value) (hn : cs.length = Nat.min sLen dLen)
    (hsrc : ∀ j v, cs[j]? = some v → w.cell? (ad.add j) = some v) (hfit : off + cs.length ≤ cur.length) (h1 : ∀ v ∈ cs, v.oneCell' = true)
    (h : ∀ w', RowAt w' g 5 (splice cur off cs).toArray → w.grownBy w' (some g) → K (a.put o.dst (goInt cs.length)) w') :
    if Region.wanted o (yielded ops a.tmps) = true then Oper.wp Try.prog o a w K Q else E := by
  have hw : Region.wanted o (yielded ops a.tmps) = true := by simp [Region.wanted, hgd]
  rw [if_pos hw]
  have hrun := run_copy_row (P := Try.prog) w 22 22 o.type 5 g off dLen dCap ad sLen sCap cur.toArray 5 cs Try.underlying22 (by kernel_rfl) hg hn hsrc (by simpa using hfit) h1
  unfold Oper.wp
  simp [execOp, ho, resolve, invoke, builtin, hd, hs, hrun, Result.andThen]
  refine h _ (show _ = _ by simpa [splice] using setRow_heap w g _ _ _ _ hg) (grown_setRow w g _)
set_option maxRecDepth 100000 in
set_option maxHeartbeats 1000000 in
theorem read_any (w : World) (base b : Nat) (D : DK) (F : Nat) (at_ : Int) (n : Nat) (hI : IsDk w base b D F) (hp : D.pcs.length ≤ 1000000) (h1 : 0 ≤ at_) (h2 : at_ + (n : Int) ≤ D.size) :
    Calls Try.prog 32 #[.pointer (some ⟨b, 0, none⟩), .int .i64 at_, .int .i64 (n : Int)] w fun e w' =>
      (∃ v, e = .returned (.tuple #[v, .int .i64 0]) ∧ OwnB w' w.heap.size 5 v (flatS (laid D.last D.pcs) at_ n)) ∧ Below w.heap.size w w' := by
  obtain ⟨m, pv, fv, fl, st, h, hF⟩ := hI
  obtain ⟨np, hnp⟩ : ∃ x, D.pcs.length = x := ⟨_, rfl⟩
  obtain ⟨pa, pc, hpv, hpc, hrd⟩ := Rd.of_own h.pcs
  rw [hnp] at hpv hpc hp
  subst hpv
  have HN := Lib.hid hnp
  have HRD := Lib.hid (show RdPc w pa D.pcs from hrd)
  clear hrd hnp
  have HNO := Lib.hid (fun w hh => none_any w b D.size (.map (some m)) (.slice pa np pc) fv st hh h.size.1)
  have HAS := Lib.hid (fun w at_ n hh => asked_any w b D.size (.map (some m)) (.slice pa np pc) fv st at_ n hh h.size.2)
  have hask : Hid (askB D.size at_ (n : Int) = true) := by
    show _ = _
    simp only [askB, Bool.and_eq_true, decide_eq_true_eq]
    exact ⟨h1, by omega, by omega⟩
  have hds := h.size.2
  have hnn : n ≤ 65536 := by omega
  obtain ⟨es, cl, hm, hmi⟩ := h.map
  have HM := Lib.hid hm
  have HMI := Lib.hid hmi
  have HL := Lib.hid h.sec
  have H5 := Lib.hid h.psec
  have HD := Lib.hid h
  clear h hm hmi
  have hw1 : IntKind.i64.wrap ((n : Int) * 512) = ((n * 512 : Nat) : Int) := by rw [IntWalk.i64_in _ (by omega)]; omega
  go_enter Try.func32, Try.ntmps32
  go_wp2_with fail
  refine (HNO.out _ HD.out.hd).mono ?_
  rintro _ w0 ⟨rfl, rfl⟩
  go_wp2_with fail
  refine (HAS.out _ _ _ HD.out.hd).mono ?_
  rw [hask.out]
  rintro _ w0 ⟨rfl, rfl⟩
  obtain ⟨g, hg⟩ : ∃ x, w0.heap.size = x := ⟨_, rfl⟩
  go_wp2_with (refine step_makeB rfl (.tmp 28) (.tmp 28) rfl (n * 512) rfl rfl (by omega) ?_; rw [hg]; intro w2 q1 q2)
  have hR2 : RowAt w2 g 5 ((flatS (upTo D.last at_ 0) at_ n).map bv).toArray := by rw [upTo_none]; exact q1
  have HR2 := Lib.hid hR2
  have HB2 := Lib.hid q2
  clear q1 q2 hR2
  go_loopw [31] (fun i wr => RowAt wr g 5 ((flatS (upTo D.last at_ (intOf i).toNat) at_ n).map bv).toArray ∧ Below g w0 wr ∧ ∃ j : Nat, j ≤ n ∧ i = .int .i64 j) (fun i _ => n - (intOf i).toNat)
  case atStart => exact ⟨HR2.out, HB2.out, 0, Nat.zero_le _, rfl⟩
  case round =>
    obtain ⟨hr, hb, j, hj, rfl⟩ := hrel
    rw [show (intOf (.int .i64 (j : Int))).toNat = j by simp [intOf]] at hr
    have HR := Lib.hid hr
    have HB := Lib.hid hb
    clear hr hb
    by_cases hjn : j < n
    · have hb1 : (j : Int) < (n : Int) := by omega
      obtain ⟨c0, c1, c2, c3, c4⟩ := HD.out.hd.cells
      have hbs : b < w0.heap.size := HD.out.hd.lt
      have hms : m < w0.heap.size := (Array.getElem?_eq_some_iff.1 HM.out).1
      have e1 : wr.cell? ⟨b, 1, none⟩ = some (.map (some m)) := (HB.out.cell (p := ⟨b, 1, none⟩) (by dsimp only; omega)).trans c1
      have HMr : Hid (wr.heap[m]? = some (.map es cl)) := (HB.out.block m (by omega)).trans HM.out
      obtain ⟨s, hs⟩ : ∃ s, D.last (at_ + (j : Int)) = s := ⟨_, rfl⟩
      have hs5 : s.length = 512 := by rw [← hs]; exact HL.out _
      obtain ⟨t1, t2, t3⟩ := sec_store hs5
      obtain ⟨S, hS⟩ : ∃ S, s.map bv = S := ⟨_, rfl⟩
      have hSl : S.length = 512 := by rw [← hS, List.length_map, hs5]
      have hS1 : Hid (∀ v ∈ S, v.oneCell' = true) := by rw [← hS]; exact bv_one _
      rw [hS] at t1 t2 t3
      have hjw : IntKind.i64.wrap ((j : Int) * 512) = (j : Int) * 512 := IntWalk.i64_in _ (by omega)
      have hj1 : j * 512 ≤ n * 512 := by omega
      have hj2 : (0 : Int) ≤ (j : Int) * 512 := by omega
      have hj3 : (j : Int) * 512 ≤ ((n * 512 : Nat) : Int) := by omega
      have hj4 : ((j : Int) * 512).toNat = j * 512 := by omega
      have hcap1 : ¬ n * 512 = j * 512 := by omega
      have hgs : g < wr.heap.size := HR.out.lt
      clear c0 c1 c2 c3 c4
      obtain ⟨bx, hbx⟩ : ∃ x, wr.heap.size = x := ⟨_, rfl⟩
      go_wp2_with (first
        | (refine step_lookup rfl (.tmp 37) (.tmp 40) rfl HMr.out HMI.out (at_ + (j : Int)) rfl rfl ?_; rw [hs, hS])
        | (refine step_allocZ rfl 56 rfl zeroS zero_sec ?_; intro w3 q1 q2 q3; rw [hbx] at q1 q3 ⊢)
        | (refine step_storeRow rfl 56 (.tmp 11) (.tmp 41) rfl rfl bx S.toArray rfl rfl 56 zeroS q1 t1.out t2.out t3.out ?_; intro w4 q4 q5))
      simp only [Act.put, List.setIfInBounds_toArray, List.set_cons_zero, List.set_cons_succ]
      have hb4 : Below wr.heap.size wr w4 := below_grown q2 q5 (by omega) (by intro x hx; have := Option.some.inj hx; omega)
      have HB4 := Lib.hid (show Below g w0 w4.drew from drewN_below (HB.out.trans (hb4.mono (Nat.le_of_lt hgs))) 1)
      have HR4 : Hid (RowAt w4.drew g 5 ((flatS (upTo D.last at_ j) at_ n).map bv).toArray) := RowAt.below HR.out (show Below wr.heap.size wr w4.drew from drewN_below hb4 1)
      have HS4 : Hid (∀ jj v, S[jj]? = some v → w4.drew.cell? ((⟨bx, 0, none⟩ : Addr).add jj) = some v) := fun jj v hv => by
        rw [Addr.add_mid, Nat.zero_add]
        have := RowAt.cell (w := w4.drew) q4 jj
        rw [this, List.getElem?_toArray]
        exact hv
      obtain ⟨C, hC⟩ : ∃ C, (flatS (upTo D.last at_ j) at_ n).map bv = C := ⟨_, rfl⟩
      have hCl : C.length = n * 512 := by rw [← hC, List.length_map, flatS_len (upTo_len HL.out at_ j)]
      rw [hC] at HR4
      have HC := Lib.hid hC
      have HSS := Lib.hid hS
      have HS := Lib.hid hs
      clear q1 q2 q3 q4 q5 hb4 t1 t2 t3 hC hS hs
      go_region_held_law (fun _ => True) (trivial) (first
        | (refine step_copy_splice rfl (.tmp 45) (.tmp 46) 22 22 rfl 5 Try.underlying22 (by kernel_rfl) _ _ _ _ _ _ rfl rfl g (j * 512) C 5 HR4.out S (by rw [hSl]; exact (Nat.min_eq_left (by omega)).symm) (fun _ => ⟨rfl, _, rfl, HS4.out⟩) (by rw [hSl, hCl]; omega) hS1.out g w0 HB4.out (Nat.le_refl _) ?_; intro w5 q6 q7))
      go_wp2
      refine ⟨⟨?_, q7, j + 1, by omega, by go_num⟩, by simp [intOf]; omega⟩
      rw [show (intOf (.int .i64 ((j : Int) + 1))).toNat = j + 1 by simp [intOf]]
      have h := q6.out
      rw [← HC.out, ← HSS.out, splice_map, flatS_splice (upTo_len HL.out at_ j) at_ s hs5 j n hjn, ← HS.out, upTo_succ] at h
      exact h
    · have hjk2 : j = n := by omega
      subst hjk2
      rw [upTo_all] at HR
      obtain ⟨c0, c1, c2, c3, c4⟩ := HD.out.hd.cells
      have hbs : b < w0.heap.size := HD.out.hd.lt
      have e2 : wr.cell? ⟨b, 2, none⟩ = some (.slice pa np pc) := (HB.out.cell (p := ⟨b, 2, none⟩) (by dsimp only; omega)).trans c2
      clear c0 c1 c2 c3 c4 HB2 HR2
      go_wp2
      clear e2
      go_loopw [54] (fun i wq => RowAt wq g 5 ((flatS (laid D.last (D.pcs.take (intOf i).toNat)) at_ j).map bv).toArray ∧ Below g w0 wq ∧ ∃ k : Nat, k ≤ np ∧ i = .int .i64 k) (fun i _ => np - (intOf i).toNat)
      case atStart => exact ⟨HR.out, HB.out, 0, Nat.zero_le _, rfl⟩
      case round =>
        clear HR HB
        obtain ⟨hr, hb, k, hk, rfl⟩ := hrel
        rw [show (intOf (.int .i64 (k : Int))).toNat = k by simp [intOf]] at hr
        have HR := Lib.hid hr
        have HB := Lib.hid hb
        clear hr hb
        have hLL : Hid (∀ x, (laid D.last (D.pcs.take k) x).length = 512) := laid_len HL.out _ fun p hp => (H5.out p (List.mem_of_mem_take hp)).2.2
        by_cases hkn : k < np
        · have hkl : k < D.pcs.length := by rw [HN.out]; exact hkn
          obtain ⟨g2, o2, rfl, hg2, hrow⟩ := (RdPc.rows HRD.out fun p hp => (H5.out p hp).2.2).resolve_left (by intro e; rw [e] at hkl; simp at hkl)
          have hcell := hrow k hkl
          have hls := laid_succ D.last hkl
          obtain ⟨p, hp'⟩ : ∃ p, D.pcs[k] = p := ⟨_, rfl⟩
          have hp5 := H5.out p (by rw [← hp']; exact List.getElem_mem hkl)
          obtain ⟨hp1, hp2, hp5⟩ := hp5
          rw [hp'] at hcell hls
          have HC : Hid (∀ i v, (pcC p)[i]? = some v → wr.cell? ((⟨g2, o2 + k * 513, none⟩ : Addr).add i) = some v) := fun i v hv => by
            rw [Addr.add_mid]
            refine (HB.out.cell (p := ⟨g2, _, none⟩) (by dsimp only; omega)).trans (hcell i v ?_)
            rw [pcD_eq hp5]; exact hv
          have HLS := Lib.hid hls
          have hAg : Agg Try.prog 58 (pcC p).length := by rw [pcC_len hp5]; exact aggP
          obtain ⟨t1, t2, t3⟩ := piece_store hp5
          clear hrow hcell hls hp'
          obtain ⟨bx, hbx⟩ : ∃ x, wr.heap.size = x := ⟨_, rfl⟩
          have hgs : g < wr.heap.size := HR.out.lt
          have hb1 : (k : Int) < (np : Int) := by omega
          obtain ⟨x, hx⟩ : ∃ x, p.1 = x := ⟨_, rfl⟩
          by_cases hin : at_ ≤ x ∧ x < at_ + (j : Int)
          · go_wp2_with (first
              | (refine step_loadCells rfl 58 (.tmp 56) rfl ⟨g2, o2 + k * 513, none⟩ rfl (pcC p) hAg HC.out ?_)
              | (refine step_allocZ rfl 58 rfl zeroP zero_piece ?_; intro w2 q1 q2 q3; rw [hbx] at q1 q3 ⊢)
              | (refine step_storeRow rfl 58 (.tmp 13) (.tmp 57) rfl rfl bx (pcC p).toArray rfl rfl 58 zeroP q1 t1.out t2.out t3.out ?_; intro w3 q4 q5; obtain ⟨r0, r1⟩ := q4.range; rw [hx] at r0))
            obtain ⟨i, hi⟩ : ∃ i : Nat, x - at_ = (i : Int) := ⟨(x - at_).toNat, by omega⟩
            have hij : i < j := by omega
            have hiw0 : IntKind.i64.wrap (i : Int) = (i : Int) := IntWalk.i64_in _ (by omega)
            have hiw : IntKind.i64.wrap ((i : Int) * 512) = (i : Int) * 512 := IntWalk.i64_in _ (by omega)
            have hi2 : (0 : Int) ≤ (i : Int) * 512 := by omega
            have hi3 : (i : Int) * 512 ≤ ((j * 512 : Nat) : Int) := by omega
            have hi4 : ((i : Int) * 512).toNat = i * 512 := by omega
            have hcap1 : ¬ j * 512 = i * 512 := by omega
            have hne1 : ¬ j = i := by omega
            have hne2 : ¬ i = j := by omega
            have hiI : (i : Int) < (j : Int) := by omega
            have hb4 : Below wr.heap.size wr w3 := below_grown q2 q5 (by omega) (by intro x hx; have := Option.some.inj hx; omega)
            have HB4 := Lib.hid (show Below g w0 w3.drew from drewN_below (HB.out.trans (hb4.mono (Nat.le_of_lt hgs))) 1)
            have HR4 : Hid (RowAt w3.drew g 5 ((flatS (laid D.last (D.pcs.take k)) at_ j).map bv).toArray) := RowAt.below HR.out (show Below wr.heap.size wr w3.drew from drewN_below hb4 1)
            obtain ⟨S, hS⟩ : ∃ S, p.2.map bv = S := ⟨_, rfl⟩
            have hSl : S.length = 512 := by rw [← hS, List.length_map, hp5]
            have hS1 : Hid (∀ v ∈ S, v.oneCell' = true) := by rw [← hS]; exact bv_one _
            rw [hS] at r1
            have HS4 : Hid (∀ jj v, S[jj]? = some v → w3.drew.cell? ((⟨bx, 1, none⟩ : Addr).add jj) = some v) := fun jj v hv => by
              rw [Addr.add_mid]
              exact r1 jj v hv
            obtain ⟨C, hC⟩ : ∃ C, (flatS (laid D.last (D.pcs.take k)) at_ j).map bv = C := ⟨_, rfl⟩
            have hCl : C.length = j * 512 := by rw [← hC, List.length_map, flatS_len hLL.out]
            rw [hC] at HR4
            have hbg : ¬ bx = g := by omega
            have hk1 : w3.drew.cell? ⟨bx, 0, none⟩ = some (.int .i64 x) := r0
            have HC2 := Lib.hid hC
            have HSS := Lib.hid hS
            have HX := Lib.hid hx
            have HI := Lib.hid hi
            have HP5 := Lib.hid hp5
            clear q1 q2 q3 q4 q5 r0 r1 hb4 t1 t2 t3 hC hS hx hAg HC hp5
            go_region_held_law (fun w' => w'.cell? ⟨bx, 0, none⟩ = some (.int .i64 x)) (first | assumption) (first
              | (refine step_copyG rfl (.tmp 76) (.tmp 78) rfl g (i * 512) _ _ ⟨bx, 1, none⟩ _ _ rfl rfl C HR4.out S (by rw [hSl]; exact (Nat.min_eq_left (by omega)).symm) HS4.out (by rw [hSl, hCl]; omega) hS1.out ?_; intro w5 q6 q7; have hk2 : w5.cell? ⟨bx, 0, none⟩ = some (.int .i64 x) := (keep_grownO q7).cell hk1 (fun e => hbg (Option.some.inj e).symm)))
            go_wp2
            refine ⟨⟨?_, HB4.out.trans (KeepA.below (keep_grownO q7) (Nat.le_of_lt (RowAt.lt HR4.out)) fun y e => Nat.le_of_eq (Option.some.inj e)), k + 1, by omega, by go_num⟩, by simp [intOf]; omega⟩
            rw [show (intOf (.int .i64 ((k : Int) + 1))).toNat = k + 1 by simp [intOf]]
            have h := q6
            rw [← HC2.out, ← HSS.out, splice_map, flatS_splice hLL.out at_ p.2 HP5.out i j hij, ← HI.out, ← HX.out, show at_ + (p.1 - at_) = p.1 by omega] at h
            rw [HLS.out]
            exact h
          · have hin2 : decide (at_ ≤ x) = true → decide (x < at_ + (j : Int)) = false := fun h => decide_eq_false (fun h2 => hin ⟨of_decide_eq_true h, h2⟩)
            by_cases hin3 : at_ ≤ x
            · have hin4 : ¬ x < at_ + (j : Int) := fun h => hin ⟨hin3, h⟩
              clear hin hin2
              go_wp2_with (first
                | (refine step_loadCells rfl 58 (.tmp 56) rfl ⟨g2, o2 + k * 513, none⟩ rfl (pcC p) hAg HC.out ?_)
                | (refine step_allocZ rfl 58 rfl zeroP zero_piece ?_; intro w2 q1 q2 q3; rw [hbx] at q1 q3 ⊢)
                | (refine step_storeRow rfl 58 (.tmp 13) (.tmp 57) rfl rfl bx (pcC p).toArray rfl rfl 58 zeroP q1 t1.out t2.out t3.out ?_; intro w3 q4 q5; obtain ⟨r0, r1⟩ := q4.range; rw [hx] at r0))
              have hb4 : Below wr.heap.size wr w3 := below_grown q2 q5 (by omega) (by intro x hx; have := Option.some.inj hx; omega)
              refine ⟨⟨?_, HB.out.trans (hb4.mono (Nat.le_of_lt hgs)), k + 1, by omega, by go_num⟩, by simp [intOf]; omega⟩
              rw [show (intOf (.int .i64 ((k : Int) + 1))).toNat = k + 1 by simp [intOf], HLS.out, flatS_out _ _ _ _ (by rw [hx]; exact fun h => hin4 h.2)]
              exact RowAt.below HR.out hb4
            · clear hin hin2
              go_wp2_with (first
                | (refine step_loadCells rfl 58 (.tmp 56) rfl ⟨g2, o2 + k * 513, none⟩ rfl (pcC p) hAg HC.out ?_)
                | (refine step_allocZ rfl 58 rfl zeroP zero_piece ?_; intro w2 q1 q2 q3; rw [hbx] at q1 q3 ⊢)
                | (refine step_storeRow rfl 58 (.tmp 13) (.tmp 57) rfl rfl bx (pcC p).toArray rfl rfl 58 zeroP q1 t1.out t2.out t3.out ?_; intro w3 q4 q5; obtain ⟨r0, r1⟩ := q4.range; rw [hx] at r0))
              have hb4 : Below wr.heap.size wr w3 := below_grown q2 q5 (by omega) (by intro x hx; have := Option.some.inj hx; omega)
              refine ⟨⟨?_, HB.out.trans (hb4.mono (Nat.le_of_lt hgs)), k + 1, by omega, by go_num⟩, by simp [intOf]; omega⟩
              rw [show (intOf (.int .i64 ((k : Int) + 1))).toNat = k + 1 by simp [intOf], HLS.out, flatS_out _ _ _ _ (by rw [hx]; exact fun h => hin3 h.1)]
              exact RowAt.below HR.out hb4
        · have hkk : k = np := by omega
          subst hkk
          go_wp2_with fail
          go_ret2
          have h := HR.out
          rw [List.take_of_length_le (by rw [HN.out]; exact Nat.le_refl _)] at h
          rw [hg]
          exact ⟨⟨_, rfl, own_of_row h (flatS_len (laid_len HL.out _ fun p hp => (H5.out p hp).2.2) at_ j) (by unfold maxLen; omega) (Nat.le_refl _)⟩, HB.out⟩
end Go.Proofs.Ytagipfkgnobjlaa
namespace Go.Proofs.Ytagipfkgnobjlaa
open Go.RowKit

end Go.Proofs.Ytagipfkgnobjlaa
namespace Go.Proofs.Ytagipfkgnobjlaa
open Go.RowKit

/-- How much of a new sector there is. -/
def keepN (p : Int) : Nat := ((p - 2) % 512).toNat
def cut (old new : List UInt8) (p : Int) : List UInt8 := if p = 0 then old else if p = 1 then new else new.take (keepN p) ++ old.drop (keepN p)
theorem RdI.low {w w' : World} {g : Nat} (hb : Below g w w') {a : Option Addr} {l : List Int} (h : RdI w a l) (hg : ∀ ad, a = some ad → l ≠ [] → ad.block < g) : RdI w' a l := by
  rcases h with h | ⟨b, off, ha, hlt, hc⟩
  · exact .inl h
  · by_cases hl : l = []
    · exact .inl (by rw [hl]; rfl)
    · have := hg _ ha hl
      exact .inr ⟨b, off, ha, Nat.lt_of_lt_of_le hlt hb.size, fun k hk => (hb.cell (p := ⟨b, off + k, none⟩) this).trans (hc k hk)⟩
theorem row_keep {w w' : World} {X : Nat → Prop} (hk : KeepA X w w') {b : Nat} {t : TypeId} {cells : Array Value} (h : RowAt w b t cells) (hx : ¬ X b) : RowAt w' b t cells := (hk.same b h.lt hx).trans h
end Go.Proofs.Ytagipfkgnobjlaa
namespace Go.Proofs.Ytagipfkgnobjlaa
open Go.RowKit

end Go.Proofs.Ytagipfkgnobjlaa
namespace Go.Proofs.Ytagipfkgnobjlaa
open Go.RowKit

theorem run_next_g {P : Program} {w : World} {r m since c0 clock : Nat} {seen : Array Nat} {es : Array MapEntry} (ty : TypeId) (hr : w.heap[r]? = some (.mapIter (some m) since seen c0)) (hb : w.heap[m]? = some (.map es clock)) (hold : ∀ x ∈ es.toList, x.born < since) (hsc : since ≤ c0) :
    ((leftOf es seen).size = 0 ∧ (Instr.next (.pointer (some ⟨r, 0, none⟩)) false ty).run P w = .ok (.tuple #[.bool false]) w) ∨
    ∃ e ∈ (leftOf es seen).toList, ∃ w1 : World, (w1 = w ∨ w1 = w.drew) ∧ (Instr.next (.pointer (some ⟨r, 0, none⟩)) false ty).run P w = .ok (.tuple #[.bool true, e.key, e.val]) { w1 with heap := w1.heap.setIfInBounds r (.mapIter (some m) since (seen.push e.born) clock) } := by
  simp only [Instr.next, getObj, Sem.run_bind, Sem.run, hr, hb, Result.andThen, next_test_false seen es since c0 hold hsc, Bool.false_eq_true, if_false]
  unfold leftOf
  have hmem : ∀ x ∈ (Array.filter (fun e => !seen.contains e.born) es).toList, x.born < since := fun x hx => hold x (by simp at hx ⊢; exact hx.1)
  generalize Array.filter (fun e => !seen.contains e.born) es = L at hmem ⊢
  have e1 : L.filter (fun x => decide (x.born < since)) = L := Array.filter_eq_self.2 (fun x hx => by simpa using hmem x (by simpa using hx))
  have e2 : L.filter (fun x => decide (x.born ≥ since)) = #[] := by
    rw [Array.filter_eq_empty_iff]
    intro x hx
    have := hmem x (by simpa using hx)
    simp
    omega
  simp only [e1, e2, Array.append_empty]
  by_cases h0 : L.size = 0
  · left
    have : L = #[] := Array.eq_empty_of_size_eq_zero h0
    subst this
    refine ⟨rfl, ?_⟩
    simp [choose, Sem.run, Question.forced]
  · right
    have hne : L.isEmpty = false := by simp [Array.isEmpty, h0]
    simp only [hne, Bool.false_eq_true, if_false, Array.empty_append, Array.size_map]
    have hch : ∃ (j : Nat) (w1 : World), j < L.size ∧ (w1 = w ∨ w1 = w.drew) ∧ (choose (Question.mapNext L.size)).run P w = .ok j w1 := by
      by_cases hf : L.size ≤ 1
      · exact ⟨0, w, by omega, .inl rfl, by simp [choose, Sem.run, Question.forced, hf]⟩
      · exact ⟨_, w.drew, Nat.mod_lt _ (by omega), .inr rfl, by
          simp only [choose, Sem.run, Question.forced, decide_eq_true_eq, hf, if_false, Question.cut]
          rfl⟩
    obtain ⟨j, w1, hj, hal, hrun⟩ := hch
    refine ⟨L[j], by simp, w1, hal, ?_⟩
    have hw1 : w1.heap[r]? = some (.mapIter (some m) since seen c0) := by rcases hal with rfl | rfl <;> exact hr
    simp only [hrun, Array.getElem?_map, Array.getElem?_eq_getElem hj, Option.map_some, Sem.run_bind, Result.andThen, setObj, Sem.run, hw1]
    rfl
theorem step_next {P : Program} {ops : Array Oper} {rest : List Oper} {o : Oper} {act : Act} {Q : Exit → Act → World → Prop} {w : World} (hgd : o.guard = none) (x : Operand) (ho : o.op = .next x false) (it : Value) (hx : act.eval x = it) (v : Value) (w1 : World) (hr : (Instr.next it false o.type).run P w = .ok v w1)
    (h : wpList P ops Q rest (act.put o.dst v) w1) : wpList P ops Q (o :: rest) act w :=
  wpList_plain hgd fun K hK => by
    unfold Oper.wp execOp
    simp only [ho, hx]
    rw [Sem.run_bind, hr]
    exact hK _ _ h
theorem step_range {P : Program} {ops : Array Oper} {rest : List Oper} {o : Oper} {act : Act} {Q : Exit → Act → World → Prop} {w : World} (hgd : o.guard = none) (T : TypeId) (x : Operand) (ho : o.op = .range T x) (it : Value) (hx : act.eval x = it) (v : Value) (w1 : World) (hr : (Instr.range T it).run P w = .ok v w1)
    (h : wpList P ops Q rest (act.put o.dst v) w1) : wpList P ops Q (o :: rest) act w :=
  wpList_plain hgd fun K hK => by
    unfold Oper.wp execOp
    simp only [ho, hx]
    rw [Sem.run_bind, hr]
    exact hK _ _ h
theorem iterSeen_of {w : World} {r m a b : Nat} {s : Array Nat} (h : w.heap[r]? = some (.mapIter (some m) a s b)) : w.iterSeen r = s := by
  unfold World.iterSeen
  rw [h]
end Go.Proofs.Ytagipfkgnobjlaa
namespace Go.Proofs.Ytagipfkgnobjlaa
open Go.RowKit

theorem row_keepS {w w' : World} {X : Nat → Prop} (hk : KeepA X w w') {b : Nat} {t : TypeId} {cells : Array Value} (h : RowAt w b t cells) (hx : ¬ X b) : RowAt w' b t cells := (hk.same b h.lt hx).trans h
theorem DkAt.later {w w' : World} (hb : Below w.heap.size w w') {base b : Nat} {D : DK} {m : Nat} {pv fv : Value} {fl : List Ft} {st : Int} (h : DkAt w base b D m pv fv fl st) : DkAt w' base b D m pv fv fl st := by
  obtain ⟨es, cl, hm, hmi⟩ := h.map
  exact ⟨RowAt.below h.hd hb, h.hb, h.hm, h.mb, ⟨es, cl, (hb.block m (Array.getElem?_eq_some_iff.1 hm).1).trans hm, hmi⟩, own_keep (KeepA.of_below (X := fun _ => False) hb) h.pcs fun _ _ h => h, h.pb, h.fts.later hb, h.fb, h.size, h.sec, h.psec⟩
theorem IsDk.later {w w' : World} (hb : Below w.heap.size w w') {base b : Nat} {D : DK} {F : Nat} (h : IsDk w base b D F) : IsDk w' base b D F := by
  obtain ⟨m, pv, fv, fl, st, h, hF⟩ := h
  exact ⟨m, pv, fv, fl, st, h.later hb, hF⟩
end Go.Proofs.Ytagipfkgnobjlaa
namespace Go.Proofs.Ytagipfkgnobjlaa
open Go.RowKit

end Go.Proofs.Ytagipfkgnobjlaa
namespace Go.Proofs.Ytagipfkgnobjlaa
open Go.RowKit

/-- A disk whose blocks are all among S. -/
def DkS (w : World) (S : Nat → Prop) (b : Nat) (D : DK) (F : Nat) : Prop :=
  ∃ m pv fv fl st, DkAt w 0 b D m pv fv fl st ∧ fl.length ≤ F ∧ S b ∧ S m ∧ (∀ g, pv.ownBlock = some g → S g) ∧ ∀ g, slB fv = some g → S g
/-- What was made in between. -/
def Span (w w' : World) : Nat → Prop := fun x => w.heap.size ≤ x ∧ x < w'.heap.size
def Plus (S T : Nat → Prop) : Nat → Prop := fun x => S x ∨ T x
theorem DkAt.zero {w : World} {base b : Nat} {D : DK} {m : Nat} {pv fv : Value} {fl : List Ft} {st : Int} (h : DkAt w base b D m pv fv fl st) : DkAt w 0 b D m pv fv fl st :=
  ⟨h.hd, Nat.zero_le _, Nat.zero_le _, h.mb, h.map, own_low h.pcs (Nat.zero_le _), h.pb, h.fts.low (Nat.zero_le _), h.fb, h.size, h.sec, h.psec⟩
theorem DkAt.mlt {w : World} {base b : Nat} {D : DK} {m : Nat} {pv fv : Value} {fl : List Ft} {st : Int} (h : DkAt w base b D m pv fv fl st) : m < w.heap.size := by
  obtain ⟨es, cl, hm, _⟩ := h.map
  exact (Array.getElem?_eq_some_iff.1 hm).1
theorem IsDk.toS {w : World} {base b : Nat} {D : DK} {F : Nat} (h : IsDk w base b D F) : DkS w (fun x => base ≤ x ∧ x < w.heap.size) b D F := by
  obtain ⟨m, pv, fv, fl, st, h, hF⟩ := h
  exact ⟨m, pv, fv, fl, st, h.zero, hF, ⟨h.hb, h.hd.lt⟩, ⟨h.hm, h.mlt⟩, fun g hg => h.pcs.lt g hg, fun g hg => h.fts.blk hg⟩
theorem DkS.isDk {w : World} {S : Nat → Prop} {b : Nat} {D : DK} {F : Nat} (h : DkS w S b D F) : IsDk w 0 b D F := by
  obtain ⟨m, pv, fv, fl, st, h, hF, _⟩ := h
  exact ⟨m, pv, fv, fl, st, h, hF⟩
theorem DkS.mono {w : World} {S T : Nat → Prop} {b : Nat} {D : DK} {F : Nat} (h : DkS w S b D F) (hs : ∀ x, S x → T x) : DkS w T b D F := by
  obtain ⟨m, pv, fv, fl, st, h, hF, h1, h2, h3, h4⟩ := h
  exact ⟨m, pv, fv, fl, st, h, hF, hs _ h1, hs _ h2, fun g hg => hs _ (h3 g hg), fun g hg => hs _ (h4 g hg)⟩
theorem DkS.keep {w w' : World} {S X : Nat → Prop} {b : Nat} {D : DK} {F : Nat} (h : DkS w S b D F) (hk : KeepA X w w') (hx : ∀ x, S x → ¬ X x) : DkS w' S b D F := by
  obtain ⟨m, pv, fv, fl, st, h, hF, h1, h2, h3, h4⟩ := h
  obtain ⟨es, cl, q1, q2⟩ := h.map
  exact ⟨m, pv, fv, fl, st, ⟨row_keepS hk h.hd (hx _ h1), h.hb, h.hm, h.mb, ⟨es, cl, (hk.same m (Array.getElem?_eq_some_iff.1 q1).1 (hx _ h2)).trans q1, q2⟩, own_keep hk h.pcs fun g hg => hx _ (h3 g hg), h.pb, h.fts.keep hk fun g hg => hx _ (h4 g hg), h.fb, h.size, h.sec, h.psec⟩, hF, h1, h2, h3, h4⟩
theorem DkS.later {w w' : World} {S : Nat → Prop} {b : Nat} {D : DK} {F : Nat} (hb : Below w.heap.size w w') (h : DkS w S b D F) : DkS w' S b D F := h.keep (KeepA.of_below (X := fun _ => False) hb) fun _ _ h => h
theorem DkS.sizes {w : World} {S : Nat → Prop} {b : Nat} {D : DK} {F : Nat} (h : DkS w S b D F) : 0 < D.size ∧ D.size ≤ 65536 := by
  obtain ⟨m, pv, fv, fl, st, h, _⟩ := h
  exact h.size
theorem DkS.sec {w : World} {S : Nat → Prop} {b : Nat} {D : DK} {F : Nat} (h : DkS w S b D F) : ∀ k, (D.last k).length = 512 := by
  obtain ⟨m, pv, fv, fl, st, h, _⟩ := h
  exact h.sec
theorem DkS.psec {w : World} {S : Nat → Prop} {b : Nat} {D : DK} {F : Nat} (h : DkS w S b D F) : ∀ p ∈ D.pcs, 0 ≤ p.1 ∧ p.1 < D.size ∧ p.2.length = 512 := by
  obtain ⟨m, pv, fv, fl, st, h, _⟩ := h
  exact h.psec
theorem DkS.blt {w : World} {S : Nat → Prop} {b : Nat} {D : DK} {F : Nat} (h : DkS w S b D F) : b < w.heap.size ∧ S b := by
  obtain ⟨m, pv, fv, fl, st, h, _, h1, _⟩ := h
  exact ⟨h.hd.lt, h1⟩
theorem write_s (w : World) (S : Nat → Prop) (b : Nat) (D : DK) (F : Nat) (at_ : Int) (a : Option Addr) (B : List UInt8) (nb cap : Nat) (h : DkS w S b D F) (hn : nb = B.length) (hcap : nb ≤ cap) (hB : RdB w a B)
    (hsep : B ≠ [] → ∀ ad, a = some ad → ¬ S ad.block) (hsz : D.pcs.length + B.length / 512 ≤ 1000000) (hnb : B.length ≤ 100000000) :
    Calls Try.prog 6 #[.pointer (some ⟨b, 0, none⟩), .int .i64 at_, .slice a nb cap] w fun e w' =>
      (∃ (k : Nat) (er : Int), k ≤ B.length / 512 ∧ (k ≠ 0 → 0 ≤ at_ ∧ at_ + ((B.length / 512 : Nat) : Int) ≤ D.size) ∧ (F = 0 → B.length % 512 = 0 → 0 ≤ at_ → at_ + ((B.length / 512 : Nat) : Int) ≤ D.size → k = B.length / 512 ∧ er = 0) ∧ (B.length % 512 = 0 → 0 ≤ at_ → at_ + ((B.length / 512 : Nat) : Int) ≤ D.size → Fine er k (B.length / 512)) ∧
        e = .returned (.int .i64 er) ∧ DkS w' (Plus S (Span w w')) b ⟨D.size, D.last, D.pcs ++ wps at_ B k⟩ F) ∧ KeepA S w w' := by
  obtain ⟨m, pv, fv, fl, st, h, hF, h1, h2, h3, h4⟩ := h
  refine (write_at w 0 b D F m pv fv fl st at_ a B nb cap h hF (Nat.zero_le _) hn hcap hB (fun hne ad ha => ⟨fun e => hsep hne ad ha (by rw [e]; exact h1), fun e => hsep hne ad ha (h3 _ e)⟩) hsz hnb).mono ?_
  rintro e w' ⟨⟨k, er, q1, q2, q3, q4, q5, pv', fv', fl', st', q6, q7, q8, q9⟩, q10⟩
  refine ⟨⟨k, er, q1, q2, q3, q4, q5, m, pv', fv', fl', st', q6, q7, .inl h1, .inl h2, fun g hg => ?_, fun g hg => .inl (h4 g (q9 g hg))⟩, q10.mono ?_⟩
  · rcases q8 g hg with e | e
    · exact .inl (h3 g e)
    · exact .inr ⟨e, (q6.pcs.lt g hg).2⟩
  · rintro x (rfl | e)
    · exact h1
    · exact h3 _ e
theorem sync_s (w : World) (S : Nat → Prop) (b : Nat) (D : DK) (F : Nat) (h : DkS w S b D F) (hp : D.pcs.length ≤ 1000000) :
    Calls Try.prog 7 #[.pointer (some ⟨b, 0, none⟩)] w fun e w' => (∃ k, k ≤ D.pcs.length ∧ ∃ er : Int, (F = 0 → k = D.pcs.length ∧ er = 0) ∧ Fine er k D.pcs.length ∧ e = .returned (.int .i64 er) ∧ DkS w' (Plus S (Span w w')) b ⟨D.size, laid D.last (D.pcs.take k), D.pcs.drop k⟩ F) ∧ KeepA S w w' := by
  obtain ⟨m, pv, fv, fl, st, h, hF, h1, h2, h3, h4⟩ := h
  refine (sync_at w 0 b D F m pv fv fl st h hF (Nat.zero_le _) hp).mono ?_
  rintro e w' ⟨⟨k, q1, er, q2, q3, q4, pv', fv', fl', st', q5, q6, q7, q8⟩, q9⟩
  refine ⟨⟨k, q1, er, q2, q3, q4, m, pv', fv', fl', st', q5, q6, .inl h1, .inl h2, fun g hg => .inr ⟨q7 g hg, (q5.pcs.lt g hg).2⟩, fun g hg => .inl (h4 g (q8 g hg))⟩, q9.mono ?_⟩
  rintro x (rfl | rfl)
  · exact h2
  · exact h1
end Go.Proofs.Ytagipfkgnobjlaa
