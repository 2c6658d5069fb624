/- (*disk.Disk).Copy. -/
import Derived.Test.YtmbpacpkabbcgaaDkSame
import Derived.Test.YtmbpacpkabbcgaaDkFeed
namespace Go.Proofs.Ytmbpacpkabbcgaa
open Go.RowKit

set_option maxRecDepth 100000 in
set_option maxHeartbeats 1000000 in
theorem copy_any (w : World) (base b : Nat) (D : DK) (F : Nat) (hI : IsDk w base b D F) (hp : D.pcs.length ≤ 1000000) (hF2 : F ≤ 1000000) :
    Calls Try.prog 15 #[.pointer (some ⟨b, 0, none⟩)] w fun e w' => (∃ b', e = .returned (.pointer (some ⟨b', 0, none⟩)) ∧ IsDk w' w.heap.size b' D F) ∧ Below w.heap.size w w' := by
  obtain ⟨m, pv, fv, fl, st, h, hF⟩ := hI
  obtain ⟨np, hnp⟩ : ∃ x, D.pcs.length = x := ⟨_, rfl⟩
  obtain ⟨pa, pc, rfl, hpc, hrd⟩ := Rd.of_own h.pcs
  obtain ⟨fa, fn, fc, rfl, hfn, hfc, hfr, -⟩ := h.fts
  obtain ⟨es, cl, hm, hmi⟩ := h.map
  have hms : m < w.heap.size := (Array.getElem?_eq_some_iff.1 hm).1
  have hbs : b < w.heap.size := h.hd.lt
  rw [hnp] at hp hpc h
  have HN := Lib.hid hnp
  have HFN := Lib.hid hfn
  have HM := Lib.hid hm
  have HMI := Lib.hid hmi
  have HNO := Lib.hid (fun w hh => none_any w b D.size (.map (some m)) (.slice pa np pc) (.slice fa fn fc) st hh h.size.1)
  have HD := Lib.hid h.hd
  have HS := Lib.hid h.size
  have HSEC := Lib.hid h.sec
  have HPS := Lib.hid h.psec
  have HPC := Lib.hid (fun (w : World) (hl : RdPc w pa D.pcs) => pcclone_any pa D.pcs np pc w hnp.symm hp hl fun p hp => (h.psec p hp).2.2)
  have HFC := Lib.hid (fun (w : World) (hl : RdFt w fa fl) => ftclone_any fa fl fn fc w hfn (by omega) hl)
  have HRD := Lib.hid (show RdPc w pa D.pcs from hrd)
  have HFR := Lib.hid hfr
  clear h hrd hfr hm hmi hnp hfn
  go_enter Try.func15, Try.ntmps15
  go_wp2_with fail
  refine (HNO.out _ HD.out).mono ?_
  rintro _ w0 ⟨rfl, rfl⟩
  go_wp2
  obtain ⟨g, hg⟩ : ∃ x, w0.drew.heap.size = x := ⟨_, rfl⟩
  have hgw : w0.heap.size = g := hg
  obtain ⟨c0, c1, c2, c3, c4⟩ := DkHd.cells HD.out
  have hk0 : Hid (w0.cell? ⟨b, 0, none⟩ = some (.int .i64 (D.size : Int)) ∧ w0.cell? ⟨b, 1, none⟩ = some (.map (some m)) ∧ w0.cell? ⟨b, 2, none⟩ = some (.slice pa np pc) ∧ w0.cell? ⟨b, 3, none⟩ = some (.slice fa fn fc) ∧ w0.cell? ⟨b, 4, none⟩ = some (.int .i64 st)) := ⟨c0, c1, c2, c3, c4⟩
  have HK : Hid (∀ w', Below w0.drew.heap.size w0.drew w' → w'.cell? ⟨b, 0, none⟩ = some (.int .i64 (D.size : Int)) ∧ w'.cell? ⟨b, 1, none⟩ = some (.map (some m)) ∧ w'.cell? ⟨b, 2, none⟩ = some (.slice pa np pc) ∧ w'.cell? ⟨b, 3, none⟩ = some (.slice fa fn fc) ∧ w'.cell? ⟨b, 4, none⟩ = some (.int .i64 st)) := fun w' hb => by
    obtain ⟨c0, c1, c2, c3, c4⟩ := hk0.out
    exact ⟨cell_later hb hbs c0, cell_later hb hbs c1, cell_later hb hbs c2, cell_later hb hbs c3, cell_later hb hbs c4⟩
  have hk1 := HK.out _ (Below.refl _ _)
  have HMd : Hid (w0.drew.heap[m]? = some (.map es cl)) := HM.out
  have HRDd : Hid (∀ w', Below w0.drew.heap.size w0.drew w' → RdPc w' pa D.pcs) := fun w' hb => Rd.mono HRD.out (show Below w0.heap.size w0 w' from below_trans (drewN_below (Below.refl _ w0) 1) hb)
  have HFRd : Hid (∀ w', Below w0.drew.heap.size w0.drew w' → RdFt w' fa fl) := fun w' hb => RdFt.later (w := w0) (show Below w0.heap.size w0 w' from below_trans (drewN_below (Below.refl _ w0) 1) hb) HFR.out
  clear c0 c1 c2 c3 c4
  go_region_held_law (fun w' => w'.cell? ⟨b, 0, none⟩ = some (.int .i64 (D.size : Int)) ∧ w'.cell? ⟨b, 1, none⟩ = some (.map (some m)) ∧ w'.cell? ⟨b, 2, none⟩ = some (.slice pa np pc) ∧ w'.cell? ⟨b, 3, none⟩ = some (.slice fa fn fc) ∧ w'.cell? ⟨b, 4, none⟩ = some (.int .i64 st)) (first | assumption | go_keep) (first
    | (go_at_call 24; refine (HFC.out w4 (HFRd.out _ HB4.out)).mono ?_; rintro e w5 ⟨⟨fv, rfl, fo, hfs⟩, hb5⟩; clear fo; have HFS := Lib.hid hfs; obtain ⟨fa2, fn2, fc2, rfl, hx⟩ := hfs; clear hx; have HB5 := Lib.hid (below_trans HB4.out hb5); have hk5 := HK.out _ HB5.out)
    | (go_at_call 39; refine (HPC.out w3 (HRDd.out _ HB3.out)).mono ?_; rintro e w4 ⟨⟨pv, rfl, po, hps⟩, hb4⟩; clear po; have HPS2 := Lib.hid hps; obtain ⟨pa2, pc2, rfl, hx⟩ := Rd.of_own hps; clear hx hps; have HB4 := Lib.hid (below_trans HB3.out hb4); have hk4 := HK.out _ HB4.out)
    | (go_at_call 38; refine (mapclone_any HMd.out).mono ?_; rintro e w3 ⟨rfl, q1, q2, q3⟩; have HB3 := Lib.hid q2; have hk3 := HK.out _ HB3.out; rw [hg] at q1 q3 ⊢))
  obtain ⟨w6, hw6⟩ : ∃ x, w5.alloc (.cells #[.int .i64 (D.size : Int), .map (some g), .slice pa2 D.pcs.length pc2, .slice fa2 fn2 fc2, .int .i64 st] 71) = x := ⟨_, rfl⟩
  have HR6 : Hid (RowAt w6 w5.heap.size 71 #[.int .i64 (D.size : Int), .map (some g), .slice pa2 D.pcs.length pc2, .slice fa2 fn2 fc2, .int .i64 st]) := by rw [← hw6]; exact RowAt.new _ _ _
  have hb56 : Below w5.heap.size w5 w6 := by rw [← hw6]; exact below_alloc _
  rw [hw6]
  clear hw6 hk1 hk3 hk4 hk5
  go_wp2
  go_ret
  have hsd : w0.drew.heap.size = w0.heap.size := rfl
  have hs4 : w3.heap.size ≤ w4.heap.size := hb4.size
  have hs5 : w4.heap.size ≤ w5.heap.size := hb5.size
  have hb36 : Below w3.heap.size w3 w6 := (hb4.trans (hb5.mono hs4)).trans (hb56.mono (by omega))
  have hb46 : Below w4.heap.size w4 w6 := hb5.trans (hb56.mono (by omega))
  have hpo := HPS2.out
  have hfo := HFS.out
  have hpb := hpo.lt
  rw [hgw]
  refine ⟨⟨w5.heap.size, rfl, g, _, _, fl, st, ⟨HR6.out, by omega, by omega, by omega, ⟨es, cl, (hb36.block g (by omega)).trans q1, HMI.out⟩, own_low (own_keep (KeepA.of_below (X := fun _ => False) hb46) hpo fun _ _ h => h) (by omega), ⟨fun e => by have := hpb _ e; omega, fun e => by have := hpb _ e; omega⟩, (hfo.later hb56).low (by omega), fun g' hg' => ?_, HS.out, HSEC.out, HPS.out⟩, hF⟩, ?_⟩
  · have h1 := hfo.blk hg'
    exact ⟨by omega, by omega, fun e => by have := hpb _ e; omega⟩
  · exact (show Below g w0 w5 from by rw [← hgw]; exact (drewN_below (Below.refl _ w0) 1).trans HB5.out).trans (hb56.mono (by omega))
end Go.Proofs.Ytmbpacpkabbcgaa
