/- (*disk.Disk).Write. -/
import Derived.Test.YtmbpacpkabbcgaaDkLo
namespace Go.Proofs.Ytmbpacpkabbcgaa
open Go.RowKit

/-- The pieces of some bytes. -/
def sec (B : List UInt8) (i : Nat) : List UInt8 := (B.drop (i * 512)).take 512
def wps (at_ : Int) (B : List UInt8) (k : Nat) : List (Int × List UInt8) := (List.range k).map fun (i : Nat) => (at_ + (i : Int), sec B i)
theorem wps_succ (at_ : Int) (B : List UInt8) (k : Nat) : wps at_ B (k + 1) = wps at_ B k ++ [(at_ + (k : Int), sec B k)] := by
  unfold wps
  rw [List.range_succ, List.map_append]
  rfl
theorem sec_len {B : List UInt8} {i : Nat} (h : i * 512 + 512 ≤ B.length) : (sec B i).length = 512 := by
  unfold sec
  rw [List.length_take, List.length_drop]
  omega
theorem sec_get {B : List UInt8} {j jj : Nat} {v : Value} (h : ((sec B j).map bv)[jj]? = some v) : (B.map bv)[j * 512 + jj]? = some v := by
  unfold sec at h
  rw [List.map_take, List.map_drop, List.getElem?_take] at h
  split at h
  · rw [List.getElem?_drop] at h; exact h
  · cases h
theorem splice_piece (k : Int) (B S : List UInt8) (hB : B.length = 512) (hS : S.length = 512) : splice (pcC (k, B)) 1 (S.map bv) = pcC (k, S) := by
  unfold splice pcC
  simp [hB, hS]
set_option maxRecDepth 100000 in
set_option maxHeartbeats 1000000 in
theorem write_at (w : World) (base b : Nat) (D : DK) (F m : Nat) (pv fv : Value) (fl : List Ft) (st : Int) (at_ : Int) (a : Option Addr) (B : List UInt8) (nb cap : Nat) (h : DkAt w base b D m pv fv fl st) (hF : fl.length ≤ F) (hbase : base ≤ w.heap.size) (hn : nb = B.length) (hcap : nb ≤ cap) (hB : RdB w a B)
    (hsep : B ≠ [] → ∀ ad, a = some ad → ad.block ≠ b ∧ pv.ownBlock ≠ some ad.block) (hsz : D.pcs.length + B.length / 512 ≤ 1000000) (hnb : B.length ≤ 100000000) :
    Calls Try.prog 27 #[.pointer (some ⟨b, 0, none⟩), .int .i64 at_, .slice a nb cap] w fun e w' =>
      (∃ (k : Nat) (er : Int), k ≤ B.length / 512 ∧ (k ≠ 0 → 0 ≤ at_ ∧ at_ + ((B.length / 512 : Nat) : Int) ≤ D.size) ∧ (F = 0 → B.length % 512 = 0 → 0 ≤ at_ → at_ + ((B.length / 512 : Nat) : Int) ≤ D.size → k = B.length / 512 ∧ er = 0) ∧ (B.length % 512 = 0 → 0 ≤ at_ → at_ + ((B.length / 512 : Nat) : Int) ≤ D.size → Fine er k (B.length / 512)) ∧ e = .returned (.int .i64 er) ∧ ∃ pv' fv' fl' st', DkAt w' base b ⟨D.size, D.last, D.pcs ++ wps at_ B k⟩ m pv' fv' fl' st' ∧ fl'.length ≤ F ∧ (∀ g, pv'.ownBlock = some g → pv.ownBlock = some g ∨ w.heap.size ≤ g) ∧ ∀ g, slB fv' = some g → slB fv = some g) ∧ KeepA (fun x => x = b ∨ pv.ownBlock = some x) w w' := by
  have HN := Lib.hid hn
  have HB := Lib.hid hB
  have HSEP := Lib.hid hsep
  have HSZ := Lib.hid hsz
  have HNO := Lib.hid (fun w hh => none_any w b D.size (.map (some m)) pv fv st hh h.size.1)
  have HAS := Lib.hid (fun w at_ n hh => asked_any w b D.size (.map (some m)) pv fv st at_ n hh h.size.2)
  have HST := Lib.hid (fun k => step_any w base b D m pv fv fl st k h)
  have HD := Lib.hid h
  clear h hn hB hsep hsz
  by_cases hm : nb % 512 = 0
  · obtain ⟨n, hn2⟩ : ∃ n, B.length / 512 = n := ⟨_, rfl⟩
    have hB512 : B.length = n * 512 := by have := HN.out; omega
    have HN2 := Lib.hid hn2
    have HL := Lib.hid hB512
    have htest : (((nb : Int) % 512) != 0) = false := by simp; omega
    have hq : (nb : Int) / 512 = (n : Int) := by have := HN.out; omega
    have hnn : n ≤ 1000000 := by have := HSZ.out; omega
    rw [hn2]
    clear hn2 hB512
    by_cases hask : askB D.size at_ n = true
    · go_enter Try.func27, Try.ntmps27
      go_wp2_with fail
      refine (HNO.out _ HD.out.hd).mono ?_
      rintro _ w0 ⟨rfl, rfl⟩
      go_wp2_with fail
      have hask3 := hask
      simp only [askB, Bool.and_eq_true, decide_eq_true_eq] at hask3
      obtain ⟨ha1, ha2, ha3⟩ := hask3
      have hds := HD.out.size.2
      refine (HAS.out _ _ _ HD.out.hd).mono ?_
      rw [hask]
      rintro _ w0 ⟨rfl, rfl⟩
      go_wp2_with fail
      refine (HST.out n).mono ?_
      rintro _ w1 ⟨⟨k, hk, er, hke, her, rfl⟩, ⟨fv', fl', st', hD1, hF1, hsl⟩, hK1⟩
      have HER : Hid (Fine er k n) := her
      have HKE : Hid (F = 0 → k = n ∧ er = 0) := fun h0 => hke (by omega)
      have HD1 := Lib.hid hD1
      have HB1 : Hid (KeepA (fun x => x = b ∨ pv.ownBlock = some x) w0 w1) := hK1.mono fun _ e => .inl e
      have HSLB := Lib.hid hsl
      clear hke her hD1 hK1 hask hsl
      go_wp2
      go_loopw [38] (fun i wr => (∃ pv2, DkAt wr base b ⟨D.size, D.last, D.pcs ++ wps at_ B (intOf i).toNat⟩ m pv2 fv' fl' st' ∧ ∀ g, pv2.ownBlock = some g → pv.ownBlock = some g ∨ w0.heap.size ≤ g) ∧ KeepA (fun x => x = b ∨ pv.ownBlock = some x) w0 wr ∧ ∃ j : Nat, j ≤ k ∧ i = .int .i64 j) (fun i _ => k - (intOf i).toNat)
      case atStart => exact ⟨⟨pv, by rw [show wps at_ B (intOf (.int .i64 (0 : Int))).toNat = [] from rfl, List.append_nil]; exact ⟨HD1.out, fun g hg => .inl hg⟩⟩, HB1.out, 0, Nat.zero_le _, rfl⟩
      case round =>
        obtain ⟨⟨pv2, hdr, hpn⟩, hbr, j, hj, rfl⟩ := hrel
        have HPN := Lib.hid hpn
        clear hpn
        rw [show (intOf (.int .i64 (j : Int))).toNat = j by simp [intOf]] at hdr
        have HDR := Lib.hid hdr
        have HBR := Lib.hid hbr
        clear hdr hbr
        by_cases hjk : j < k
        · have hb1 : (j : Int) < (k : Int) := by omega
          have hjl : j * 512 + 512 ≤ B.length := by rw [HL.out]; omega
          have hBne : B ≠ [] := by intro e; rw [e] at hjl; simp at hjl
          obtain ⟨ga, oa, rfl, hga, hca⟩ := HB.out.resolve_left (by simpa using hBne)
          have hsl := sec_len (i := j) hjl
          obtain ⟨p0, hp0⟩ : ∃ p, ((at_ + (j : Int), nought) : Int × List UInt8) = p := ⟨_, rfl⟩
          obtain ⟨S, hS⟩ : ∃ S, (sec B j).map bv = S := ⟨_, rfl⟩
          have hSl : S.length = 512 := by rw [← hS, List.length_map, hsl]
          have hS1 : Hid (∀ v ∈ S, v.oneCell' = true) := by rw [← hS]; exact bv_one _
          have hp05 : p0.2.length = 512 := by rw [← hp0]; exact List.length_replicate
          obtain ⟨t1, t2, t3⟩ := piece_store hp05
          have hsrc : Hid (∀ jj v, S[jj]? = some v → wr.cell? ((⟨ga, oa + j * 512, none⟩ : Addr).add jj) = some v) := fun jj v hv => by
            rw [Addr.add_mid]
            obtain ⟨hs1, hs2⟩ := HSEP.out hBne _ rfl
            rw [← hS] at hv
            obtain ⟨hlt2, he2⟩ := List.getElem?_eq_some_iff.1 (sec_get hv)
            refine HBR.out.cell (p := ⟨ga, _, none⟩) ?_ (by rintro (e | e); exact hs1 e; exact hs2 e)
            rw [Nat.add_assoc, hca (j * 512 + jj) hlt2, he2]
          have hcap1 : ¬ cap = j * 512 := by have := HN.out; omega
          have hj1 : j * 512 ≤ nb := by have := HN.out; omega
          have hjw : IntKind.i64.wrap ((j : Int) * 512) = (j : Int) * 512 := IntWalk.i64_in _ (by omega)
          have hj2 : (0 : Int) ≤ (j : Int) * 512 := by omega
          have hj3 : (j : Int) * 512 ≤ (nb : Int) := by omega
          have hj4 : ((j : Int) * 512).toNat = j * 512 := by omega
          have HSS := Lib.hid hS
          clear hS
          obtain ⟨bx, hbx⟩ : ∃ x, wr.heap.size = x := ⟨_, rfl⟩
          go_wp2_with (first
            | (refine step_buildP rfl (.tmp 43) rfl (at_ + (j : Int)) rfl ?_; rw [hp0])
            | (refine step_allocZ rfl 87 rfl zeroP zero_piece ?_; intro w2 q1 q2 q3; rw [hbx] at q1 q3 ⊢)
            | (refine step_storeRow rfl 87 (.tmp 12) (.tmp 44) rfl rfl bx (pcC p0).toArray rfl rfl 87 zeroP q1 t1.out t2.out t3.out ?_; intro w3 q4 q5))
          have HB3 := Lib.hid (below_grown q2 q5 (by omega) (by intro x hx; have := Option.some.inj hx; omega))
          have HR3 := Lib.hid q4
          have HS3 : Hid (∀ jj v, S[jj]? = some v → w3.drew.cell? ((⟨ga, oa + j * 512, none⟩ : Addr).add jj) = some v) := fun jj v hv => by
            have h := hsrc.out jj v hv
            rw [Addr.add_mid] at h ⊢
            exact cell_later (drewN_below HB3.out 1) (Nat.lt_of_lt_of_le hga HBR.out.size) h
          have hsz3 : Hid (bx < w3.heap.size) := q4.lt
          clear q1 q2 q3 q4 q5 t1 t2 t3
          simp only [Act.put, List.setIfInBounds_toArray, List.set_cons_zero, List.set_cons_succ]
          go_region_held_law (fun _ => True) (trivial) (first
            | (refine step_copy_splice rfl (.tmp 46) (.tmp 50) 41 41 rfl 5 Try.underlying41 (by kernel_rfl) _ _ _ _ _ _ rfl rfl bx 1 (pcC p0) 87 HR3.out S (by rw [hSl]; exact (Nat.min_eq_right (by have := HN.out; omega)).symm) (fun _ => ⟨rfl, _, rfl, HS3.out⟩) (by rw [hSl, pcC_len hp05]; decide) hS1.out wr.heap.size wr (drewN_below HB3.out 1) (by omega) ?_; intro w4 q6 q7))
          simp only [List.getElem_toArray, List.getElem_cons_succ, List.getElem_cons_zero, Act.put, List.setIfInBounds_toArray, List.set_cons_zero, List.set_cons_succ]
          obtain ⟨p, hp⟩ : ∃ p, ((at_ + (j : Int), sec B j) : Int × List UInt8) = p := ⟨_, rfl⟩
          have hp5 : p.2.length = 512 := by rw [← hp]; exact hsl
          have HR4 : Hid (RowAt w4 bx 87 (pcC p).toArray) := by
            have h := q6.out
            rw [← HSS.out, ← hp0, splice_piece (at_ + (j : Int)) nought (sec B j) List.length_replicate hsl, hp] at h
            exact h
          have HB4 := Lib.hid q7
          have HP := Lib.hid hp
          clear q6 q7 hp hp0 hp05 hSl hS1 hsrc hsl HS3 HR3 HB3 HSS hjw hj1 hj2 hj3 hj4 hcap1 hca
          go_wp2
          obtain ⟨f8, hu8⟩ : ∃ f, Try.prog.underlying 87 = some (.struct f) := ⟨_, Try.underlying87⟩
          have hi8 : (Try.prog.info? 87).map (·.size) = some (pcC p).length := by rw [pcC_len hp5]; kernel_rfl
          obtain ⟨d0, d1, d2, d3, d4⟩ := HDR.out.hd.cells
          have hbs : b < wr.heap.size := HDR.out.hd.lt
          have hbxb : ¬ bx = b := by omega
          have hbw : base ≤ wr.heap.size := Nat.le_trans hbase HBR.out.size
          have hR4d : w4.drew.rangeAt bx 0 (pcC p) := fun jj v hv => by
            rw [Nat.zero_add]
            have := RowAt.cell (w := w4.drew) HR4.out jj
            rw [this, List.getElem?_toArray]
            exact hv
          have hk1 : w4.drew.cell? ⟨b, 2, none⟩ = some pv2 ∧ w4.drew.rangeAt bx 0 (pcC p) := ⟨cell_later (drewN_below HB4.out 1) hbs d2, hR4d⟩
          have D2 := Lib.hid d2
          clear d0 d1 d2 d3 d4 hR4d
          refine wp_region_held_drew (S := fun w' => w'.rangeAt bx 0 (pcC p)) (by kernel_rfl) hk1.2 (fun hHeld => ?_)
          refine wpAnyH_take (i := 5) (v := _) rfl (by kernel_rfl) (by kernel_rfl) (by kernel_rfl) (fun _ _ _ h => h) (yieldsIf_load_mid (by rfl) 87 (.tmp 12) rfl bx 0 rfl (pcC p) _ (fun _ h => h) hu8 rfl hi8) hHeld ?_
          simp only [List.getElem_toArray, List.getElem_cons_succ, List.getElem_cons_zero, Act.put, List.setIfInBounds_toArray, List.set_cons_zero, List.set_cons_succ]
          clear hu8 hi8
          have hk2 := hk1.1
          refine wpAnyH_take (i := 0) (v := ?vv0) rfl (by kernel_rfl) (by kernel_rfl) (by kernel_rfl) (fun _ _ _ h => h) (Or.inl ⟨by rfl, ?yy0⟩) hHeld ?rest0
          case yy0 =>
            intro w' hS'
            go_simp
            try with_reducible rfl
          simp only [List.getElem_toArray, List.getElem_cons_succ, List.getElem_cons_zero, Act.put, List.setIfInBounds_toArray, List.set_cons_zero, List.set_cons_succ]
          refine wpAnyH_take (i := 1) (v := ?vv1) rfl (by kernel_rfl) (by kernel_rfl) (by kernel_rfl) (fun _ _ _ h => h) (Or.inl ⟨by rfl, ?yy1⟩) hHeld ?rest1
          case yy1 =>
            intro w' hS'
            go_simp
            try with_reducible rfl
          simp only [List.getElem_toArray, List.getElem_cons_succ, List.getElem_cons_zero, Act.put, List.setIfInBounds_toArray, List.set_cons_zero, List.set_cons_succ]
          refine wpAnyH_take (i := 2) (v := ?vv2) rfl (by kernel_rfl) (by kernel_rfl) (by kernel_rfl) (fun _ _ _ h => h) (Or.inl ⟨by rfl, ?yy2⟩) hHeld ?rest2
          case yy2 =>
            intro w' hS'
            go_simp
            try with_reducible rfl
          simp only [List.getElem_toArray, List.getElem_cons_succ, List.getElem_cons_zero, Act.put, List.setIfInBounds_toArray, List.set_cons_zero, List.set_cons_succ]
          refine wpAnyH_take (i := 3) (v := ?vv3) rfl (by kernel_rfl) (by kernel_rfl) (by kernel_rfl) (fun _ _ _ h => h) (Or.inl ⟨by rfl, ?yy3⟩) hHeld ?rest3
          case yy3 =>
            intro w' hS'
            go_simp
            try with_reducible rfl
          simp only [List.getElem_toArray, List.getElem_cons_succ, List.getElem_cons_zero, Act.put, List.setIfInBounds_toArray, List.set_cons_zero, List.set_cons_succ]
          refine wpAnyH_ready (rs := [4, 6]) (by kernel_rfl) (by simp) (AllReadyH.cons rfl (fun K hK => ?_) (AllReadyH.cons rfl (fun K hK => ?_) AllReadyH.nil))
          rotate_left
          rw [if_pos (by rfl)]
          refine wp_sliceP (.tmp 57) rfl p hp5 rfl ?_
          intro w5 q1 q2 q3
          have HB5 := Lib.hid (below_trans (show Below wr.heap.size wr w4.drew from drewN_below HB4.out 1) q2)
          have HR5 := Lib.hid q1
          obtain ⟨b5, hb5⟩ : ∃ x, w4.drew.heap.size = x := ⟨_, rfl⟩
          rw [hb5] at HR5 ⊢
          have hRr : w5.rangeAt bx 0 (pcC p) := fun jj v hv => q2.cell (p := ⟨bx, _, none⟩) HR4.out.lt |>.trans (hHeld jj v hv)
          have hC5 := cell_later HB5.out hbs D2.out
          refine hK.out _ _ hRr (fun hHeld5 => ?_)
          simp only [List.getElem_toArray, List.getElem_cons_succ, List.getElem_cons_zero, Act.put, List.setIfInBounds_toArray, List.set_cons_zero, List.set_cons_succ]
          clear hK K q1 q2 q3
          refine wpAnyH_ready (rs := [4]) (by kernel_rfl) (by simp) (AllReadyH.cons rfl (fun K hK => ?_) AllReadyH.nil)
          go_simp
          refine hK.out _ _ hHeld5 (fun _ => ?_)
          clear hK K
          rotate_left
          go_simp
          refine hK.out _ _ hHeld (fun _ => ?_)
          clear hK K
          refine wpAnyH_ready (rs := [6]) (by kernel_rfl) (by simp) (AllReadyH.cons rfl (fun K hK => ?_) AllReadyH.nil)
          rw [if_pos (by rfl)]
          refine wp_sliceP (.tmp 57) rfl p hp5 rfl ?_
          intro w5 q1 q2 q3
          have HB5 := Lib.hid (below_trans (show Below wr.heap.size wr w4.drew from drewN_below HB4.out 1) q2)
          have HR5 := Lib.hid q1
          obtain ⟨b5, hb5⟩ : ∃ x, w4.drew.heap.size = x := ⟨_, rfl⟩
          rw [hb5] at HR5 ⊢
          have hRr : w5.rangeAt bx 0 (pcC p) := fun jj v hv => q2.cell (p := ⟨bx, _, none⟩) HR4.out.lt |>.trans (hHeld jj v hv)
          have hC5 := cell_later HB5.out hbs D2.out
          refine hK.out _ _ hRr (fun hHeld5 => ?_)
          simp only [List.getElem_toArray, List.getElem_cons_succ, List.getElem_cons_zero, Act.put, List.setIfInBounds_toArray, List.set_cons_zero, List.set_cons_succ]
          clear hK K q1 q2 q3
          all_goals
            have HO5 := Lib.hid (own_keep (KeepA.of_below (X := fun _ => False) HB5.out) HDR.out.pcs fun _ _ h => h)
            have hlen : (D.pcs ++ wps at_ B j).length = D.pcs.length + j := by simp [wps]
            refine wpAnyH_ready (rs := [7]) (by kernel_rfl) (by simp) (AllReadyH.cons rfl (fun K hK => ?_) AllReadyH.nil)
            rw [if_pos (by rfl)]
            refine wp_appendP (.tmp 56) (.tmp 58) rfl base pv2 _ rfl b5 p rfl HO5.out hp5 HR5.out (by dsimp only; rw [hlen]; have := HSZ.out; have := HN2.out; omega) (Nat.le_trans hbase (Nat.le_trans HBR.out.size HB5.out.size)) ?_
            intro v6 w6 q1 q2 q3
            obtain ⟨f1, f2, f3⟩ := HDR.out.appended p (by rw [← HP.out]; exact ⟨by dsimp only; omega, by dsimp only; omega, by rw [HP.out]; exact hp5⟩) HB5.out q1 q2 q3
            have hbp : pv2.ownBlock ≠ some bx := fun e => by have := (HDR.out.pcs.lt _ e).2; omega
            have hR6 : w6.rangeAt bx 0 (pcC p) := fun jj v hv => ((keep_grownO q2).cell (p := ⟨bx, _, none⟩) (hHeld5 jj v hv) hbp)
            have HB6 : Hid (KeepA (fun x => x = b ∨ pv.ownBlock = some x) w0 w6) := HBR.out.trans2 ((KeepA.of_below HB5.out).trans (keep_grownO q2)) (fun x hx e => .inr ((HPN.out x e).resolve_right (by omega)))
            have HPN6 : Hid (∀ g, v6.ownBlock = some g → pv.ownBlock = some g ∨ w0.heap.size ≤ g) := fun g hg => (q3 g hg).elim (HPN.out g) fun h => .inr (Nat.le_trans HBR.out.size (Nat.le_trans HB5.out.size h))
            refine hK.out _ _ hR6 (fun hHeld6 => ?_)
            simp only [List.getElem_toArray, List.getElem_cons_succ, List.getElem_cons_zero, Act.put, List.setIfInBounds_toArray, List.set_cons_zero, List.set_cons_succ]
            obtain ⟨pa6, pc6, hpv6, -, -⟩ := Rd.of_own q1
            obtain ⟨n6, hn6⟩ : ∃ x, ((D.pcs ++ wps at_ B j) ++ [p]).length = x := ⟨_, rfl⟩
            rw [hn6] at hpv6
            subst hpv6
            have HD6 := Lib.hid f3
            clear hK K q1 q2 q3 f3 hn6
            refine wpAnyH_take (i := 8) (v := ?_) rfl (by kernel_rfl) (by kernel_rfl) (by kernel_rfl) (fun _ _ _ h => h) (Or.inl ⟨by rfl, ?_⟩) hHeld6 ?_
            rotate_left
            · intro w' hS'
              go_simp
              try with_reducible rfl
            simp only [List.getElem_toArray, List.getElem_cons_succ, List.getElem_cons_zero, Act.put, List.setIfInBounds_toArray, List.set_cons_zero, List.set_cons_succ]
            refine wpAnyH_take (i := 9) (v := ?_) rfl (by kernel_rfl) (by kernel_rfl) (by kernel_rfl) (fun _ _ _ h => h) (Or.inl ⟨by rfl, ?_⟩) hHeld6 ?_
            rotate_left
            · intro w' hS'
              go_simp
              try with_reducible rfl
            simp only [List.getElem_toArray, List.getElem_cons_succ, List.getElem_cons_zero, Act.put, List.setIfInBounds_toArray, List.set_cons_zero, List.set_cons_succ]
            refine wpAnyH_ready (rs := [10]) (by kernel_rfl) (by simp) (AllReadyH.cons rfl (fun K hK => ?_) AllReadyH.nil)
            go_simp
            have hset : KeepA (fun x => x = b) w6 (w6.setCell ⟨b, 2, none⟩ (.slice pa6 n6 pc6)) := keep_grown (grown_setCell _ _ _)
            refine hK.out _ _ (fun jj v hv => hset.cell (p := ⟨bx, _, none⟩) (hHeld6 jj v hv) hbxb) (fun _ => ?_)
            clear hK K
            refine wpAnyH_done (by kernel_rfl) ?_ _
            go_wp2
            refine ⟨⟨⟨.slice pa6 n6 pc6, ?_, HPN6.out⟩, HB6.out.trans (hset.mono fun _ e => .inl e), j + 1, by omega, by go_num⟩, by simp [intOf]; omega⟩
            rw [show (intOf (.int .i64 ((j : Int) + 1))).toNat = j + 1 by simp [intOf], wps_succ, HP.out, ← List.append_assoc]
            exact HD6.out
        · have hjk2 : j = k := by omega
          subst hjk2
          go_wp2_with fail
          go_ret
          exact ⟨⟨j, er, by omega, fun _ => ⟨ha1, by omega⟩, fun h0 _ _ _ => HKE.out h0, fun _ _ _ => HER.out, rfl, ⟨pv2, fv', fl', st', HDR.out, by omega, HPN.out, HSLB.out⟩⟩, HBR.out⟩
    · have hask2 : askB D.size at_ n = false := by simpa using hask
      have HASK := Lib.hid hask2
      clear hask hask2
      go_enter Try.func27, Try.ntmps27
      go_wp2_with fail
      refine (HNO.out _ HD.out.hd).mono ?_
      rintro _ w0 ⟨rfl, rfl⟩
      go_wp2_with fail
      refine (HAS.out _ _ _ HD.out.hd).mono ?_
      rw [HASK.out]
      rintro _ w0 ⟨rfl, rfl⟩
      go_wp2_with fail
      go_ret
      have hno : 0 ≤ at_ → at_ + (n : Int) ≤ D.size → False := fun h1 h2 => by
        have := HASK.out
        simp [askB, h1] at this
        have h3 := HD.out.size
        omega
      refine ⟨⟨0, 4, Nat.zero_le _, fun h => absurd rfl h, fun _ _ h1 h2 => (hno h1 h2).elim, fun _ h1 h2 => (hno h1 h2).elim, rfl, ?_⟩, KeepA.refl _ _⟩
      rw [show wps at_ B 0 = [] from rfl, List.append_nil]
      exact ⟨pv, fv, fl, st, HD.out, hF, fun g hg => .inl hg, fun g hg => hg⟩
  · have HM : Hid (¬ B.length % 512 = 0) := by rw [← HN.out]; exact hm
    have htest : (((nb : Int) % 512) != 0) = true := by simp; omega
    go_enter Try.func27, Try.ntmps27
    go_wp2_with fail
    refine (HNO.out _ HD.out.hd).mono ?_
    rintro _ w0 ⟨rfl, rfl⟩
    go_wp2_with fail
    go_ret
    refine ⟨⟨0, 2, Nat.zero_le _, fun h => absurd rfl h, fun _ h => absurd h HM.out, fun h => absurd h HM.out, rfl, ?_⟩, KeepA.refl _ _⟩
    rw [show wps at_ B 0 = [] from rfl, List.append_nil]
    exact ⟨pv, fv, fl, st, HD.out, hF, fun g hg => .inl hg, fun g hg => hg⟩
end Go.Proofs.Ytmbpacpkabbcgaa
