/- A script's steps: how they lie; vast, Right, play. -/
import Derived.Test.YtchdipakekglmaaDkVals
namespace Go.Proofs.Ytchdipakekglmaa
open Go.RowKit

structure Sp where
  kind : Int
  at_ : Int
  n : Int
  ba : Option Addr
  bs : List UInt8
  bc : Nat
  fa : Option Addr
  fs : List Ft
  fc : Nat
  pa : Option Addr
  pn : Nat
  pc : Nat
def spC (s : Sp) : List Value := [.int .i64 s.kind, .int .i64 s.at_, .int .i64 s.n, .slice s.ba s.bs.length s.bc, .slice s.fa s.fs.length s.fc, .slice s.pa s.pn s.pc]
structure StAt (w : World) (b o : Nat) (s : Sp) : Prop where
  cells : CellsAt w spC b o s
  bytes : RdB w s.ba s.bs
  bcap : s.bs.length ≤ s.bc
  fates : RdFt w s.fa s.fs
def RdSt (w : World) (a : Option Addr) (l : List Sp) : Prop := RowsAt w a 6 l (StAt w)
theorem CellsAt.later {α : Type} {C : α → List Value} {w w' : World} (hb : Below w.heap.size w w') {b o : Nat} {x : α} (hlt : b < w.heap.size) (h : CellsAt w C b o x) : CellsAt w' C b o x := fun j v hv => cell_later hb hlt (h j v hv)
theorem RdSt.later {w w' : World} (hb : Below w.heap.size w w') {a : Option Addr} {l : List Sp} (h : RdSt w a l) : RdSt w' a l :=
  RowsAt.imp h hb.size fun _ _ _ hlt h => ⟨h.cells.later hb hlt, h.bytes.mono hb, h.bcap, h.fates.later hb⟩
/-- What is done here. -/
def Sp.small (s : Sp) : Prop := s.bs.length ≤ 6000 ∧ s.fs.length ≤ 40
set_option maxRecDepth 100000 in
theorem vast_any (w : World) (sectors : Int) (a : Option Addr) (l : List Sp) (n cap : Nat) (hn : n = l.length) (hn2 : n ≤ 9223372036854775807) (hlen : ∀ s ∈ l, s.bs.length ≤ 9223372036854775807 ∧ s.fs.length ≤ 9223372036854775807 ∧ s.pn ≤ 9223372036854775807) (hl : RdSt w a l) :
    Calls Try.prog 4 #[.int .i64 sectors, .slice a n cap] w fun e w' => (∃ r : Bool, e = .returned (.bool r) ∧ (r = false → n ≤ 60 ∧ ∀ s ∈ l, s.small)) ∧ w' = w := by
  have HL := Lib.hid hl
  have HN := Lib.hid hn
  have HLE := Lib.hid hlen
  clear hl hn hlen
  by_cases h60 : 60 < (n : Int)
  · go_enter Try.func4, Try.ntmps4
    go_wp2
    go_ret
    first | exact ⟨⟨true, rfl, fun h => by cases h⟩, rfl⟩ | exact ⟨.inr rfl, rfl⟩
  by_cases s1 : 100 < sectors
  by_cases s2 : sectors ≤ 65536
  · go_enter Try.func4, Try.ntmps4
    go_wp2
    go_ret
    first | exact ⟨⟨true, rfl, fun h => by cases h⟩, rfl⟩ | exact ⟨.inr rfl, rfl⟩
  all_goals
    go_enter Try.func4, Try.ntmps4
    go_wp2
    go_loopw [5] (fun i wr => wr = w ∧ ∃ k : Nat, k ≤ n ∧ i = .int .i64 k ∧ ∀ s ∈ l.take k, s.small) (fun i _ => n - (intOf i).toNat)
    case atStart => exact ⟨rfl, 0, Nat.zero_le _, rfl, fun s hs => by cases hs⟩
    case round =>
      obtain ⟨rfl, k, hk, rfl, hall⟩ := hrel
      have HALL := Lib.hid hall
      clear hall
      by_cases hkn : k < n
      · have hkl : k < l.length := by rw [← HN.out]; exact hkn
        obtain ⟨b2, off, rfl, hlt, hrow⟩ := HL.out.resolve_left (by intro e; rw [e] at hkl; simp at hkl)
        have hst := hrow k hkl
        have htk : ∀ s ∈ l.take (k + 1), s ∈ l.take k ∨ s = l[k] := fun s hs => by rw [List.take_succ_eq_append_getElem hkl] at hs; exact (List.mem_append.1 hs).imp id fun h => List.mem_singleton.1 h
        have hle := HLE.out l[k] (List.getElem_mem hkl)
        obtain ⟨s, hs⟩ : ∃ s, l[k] = s := ⟨_, rfl⟩
        rw [hs] at hst htk hle
        have c3 := hst.cells 3 _ rfl
        have c4 := hst.cells 4 _ rfl
        have c5 := hst.cells 5 _ rfl
        obtain ⟨l1, l2, l3⟩ := hle
        have HTK := Lib.hid htk
        have hb1 : (k : Int) < (n : Int) := by omega
        obtain ⟨nb, hnb⟩ : ∃ x, s.bs.length = x := ⟨_, rfl⟩
        obtain ⟨nf, hnf⟩ : ∃ x, s.fs.length = x := ⟨_, rfl⟩
        rw [hnb] at c3 l1
        rw [hnf] at c4 l2
        have HNB := Lib.hid hnb
        have HNF := Lib.hid hnf
        clear hrow hst htk hs hnb hnf
        by_cases t1 : 6000 < (nb : Int)
        · go_wp2
          go_ret
          first | exact ⟨⟨true, rfl, fun h => by cases h⟩, rfl⟩ | exact ⟨.inr rfl, rfl⟩
        by_cases t2 : 40 < (nf : Int)
        · go_wp2
          go_ret
          first | exact ⟨⟨true, rfl, fun h => by cases h⟩, rfl⟩ | exact ⟨.inr rfl, rfl⟩
        by_cases t3 : 300 < (s.pn : Int)
        · go_wp2
          go_ret
          first | exact ⟨⟨true, rfl, fun h => by cases h⟩, rfl⟩ | exact ⟨.inr rfl, rfl⟩
        go_wp2
        refine ⟨⟨trivial, k + 1, by omega, by go_num, fun s' hs' => ?_⟩, by simp [intOf]; omega⟩
        rcases HTK.out s' hs' with h | rfl
        · exact HALL.out s' h
        · exact ⟨by rw [HNB.out]; omega, by rw [HNF.out]; omega⟩
      · obtain rfl : k = n := by omega
        go_wp2
        go_ret
        refine ⟨⟨false, rfl, fun _ => ⟨by omega, ?_⟩⟩, rfl⟩
        have h := HALL.out
        rw [HN.out, List.take_length] at h
        exact h
set_option maxRecDepth 100000 in
theorem rright_any (a : Option Addr) (l : List Ft) (n cap : Nat) (w : World) (hn : n = l.length) (hn2 : n ≤ 9223372036854775807) (hl : RdFt w a l) :
    Calls Try.prog 5 #[.slice a n cap] w fun e w' => e = .returned (.bool (l.all Ft.ok)) ∧ w' = w := by
  have HL := Lib.hid hl
  have HN := Lib.hid hn
  clear hl hn
  obtain ⟨r, hr⟩ : ∃ r, l.all Ft.ok = r := ⟨_, rfl⟩
  have HR := Lib.hid hr
  rw [hr]
  clear hr
  go_enter Try.func5, Try.ntmps5
  go_wp2
  go_loopw [3] (fun i wr => wr = w ∧ ∃ k : Nat, k ≤ n ∧ i = .int .i64 k ∧ (l.take k).all Ft.ok = true) (fun i _ => n - (intOf i).toNat)
  case atStart => exact ⟨rfl, 0, Nat.zero_le _, rfl, rfl⟩
  case round =>
    obtain ⟨rfl, k, hk, rfl, hall⟩ := hrel
    have HA := Lib.hid hall
    clear hall
    by_cases hkn : k < n
    · have hkl : k < l.length := by rw [← HN.out]; omega
      obtain ⟨b2, off, rfl, hlt, hcell⟩ := HL.out.resolve_left (by intro e; rw [e] at hkl; simp at hkl)
      obtain ⟨c0, c1⟩ := hcell k hkl
      have htk := all_take (p := Ft.ok) hkl
      have hdr := all_drop (p := Ft.ok) hkl
      rw [HA.out, Bool.true_and] at htk
      obtain ⟨⟨x, y⟩, hf⟩ : ∃ f, l[k] = f := ⟨_, rfl⟩
      rw [hf] at htk hdr c0 c1
      dsimp only at c0 c1
      have HTK : Hid (0 ≤ x → x ≤ 1 → (l.take (k + 1)).all Ft.ok = true) := fun h1 h2 => by rw [htk]; simp [Ft.ok]; omega
      have HDR : Hid (x < 0 ∨ 1 < x → r = false) := fun h => by rw [← HR.out]; exact hdr (by simp [Ft.ok]; omega)
      have hb1 : (k : Int) < (n : Int) := by omega
      clear hcell hf htk hdr c1
      by_cases t1 : x < 0
      · obtain rfl := HDR.out (.inl t1)
        go_wp2
        go_ret
        exact ⟨rfl, rfl⟩
      by_cases t2 : 1 < x
      · obtain rfl := HDR.out (.inr t2)
        go_wp2
        go_ret
        exact ⟨rfl, rfl⟩
      have HK := Lib.hid (HTK.out (by omega) (by omega))
      go_wp2
      exact ⟨⟨trivial, k + 1, by omega, by go_num, HK.out⟩, by simp [intOf]; omega⟩
    · obtain rfl : k = n := by omega
      have he : r = true := by
        have h := HA.out
        rw [HN.out, List.take_length, HR.out] at h
        exact h
      subst he
      go_wp2
      go_ret
      exact ⟨rfl, rfl⟩
theorem aggSp : Agg Try.prog 49 6 := ⟨⟨_, Try.underlying49⟩, by kernel_rfl⟩
/-- Where no sector is, nothing lasts. -/
def DK.Out (D : DK) : Prop := ∀ k, (k < 0 ∨ (D.size : Int) ≤ k) → D.last k = nought
theorem laid_out {L : Int → List UInt8} {size : Nat} (h : ∀ k, (k < 0 ∨ (size : Int) ≤ k) → L k = nought) : ∀ (l : List (Int × List UInt8)), (∀ p ∈ l, 0 ≤ p.1 ∧ p.1 < (size : Int)) → ∀ k, (k < 0 ∨ (size : Int) ≤ k) → laid L l k = nought
  | [], _ => h
  | p :: r, hp => by
    refine laid_out (L := updS L p) (fun k hk => ?_) r fun q hq => hp q (List.mem_cons_of_mem _ hq)
    have := hp p List.mem_cons_self
    unfold updS
    rw [if_neg (by omega)]
    exact h k hk
theorem IsDk.psec {w : World} {base b F : Nat} {D : DK} (h : IsDk w base b D F) : ∀ p ∈ D.pcs, 0 ≤ p.1 ∧ p.1 < D.size ∧ p.2.length = 512 := by
  obtain ⟨m, pv, fv, fl, st, h, -⟩ := h
  exact h.psec
theorem IsDk.sec {w : World} {base b F : Nat} {D : DK} (h : IsDk w base b D F) : ∀ k, (D.last k).length = 512 := by
  obtain ⟨m, pv, fv, fl, st, h, -⟩ := h
  exact h.sec
theorem IsDk.more {w : World} {base b F F' : Nat} {D : DK} (h : IsDk w base b D F) (hF : F ≤ F') : IsDk w base b D F' := by
  obtain ⟨m, pv, fv, fl, st, h, hF2⟩ := h
  exact ⟨m, pv, fv, fl, st, h, Nat.le_trans hF2 hF⟩
/-- A disk that a script leaves. -/
def Played (w : World) (g b size k : Nat) : Prop := ∃ D, D.size = size ∧ D.Out ∧ D.pcs.length ≤ k * 12 ∧ IsDk w g b D (100 + k * 40)
set_option maxRecDepth 100000 in
set_option maxHeartbeats 2000000 in
theorem play_any (w : World) (size : Nat) (fa : Option Addr) (fs : List Ft) (nf cf : Nat) (a : Option Addr) (l : List Sp) (n cap : Nat) (hs : 0 < size) (hs2 : size ≤ 100) (hfn : nf = fs.length) (hfl : nf ≤ 100) (hf : RdFt w fa fs) (hok : fs.all Ft.ok = true)
    (hn : n = l.length) (hn2 : n ≤ 60) (hsm : ∀ s ∈ l, s.small) (hl : RdSt w a l) :
    Calls Try.prog 7 #[.int .i64 (size : Int), .slice fa nf cf, .slice a n cap] w fun e w' => (∃ b, e = .returned (.pointer (some ⟨b, 0, none⟩)) ∧ Played w' w.heap.size b size 60) ∧ Below w.heap.size w w' := by
  have HNW := Lib.hid (new_any fa fs nf cf size w hfn (by omega) hf hs (by omega) hok)
  have HL := Lib.hid hl
  have HN := Lib.hid hn
  have HSM := Lib.hid hsm
  have HF := Lib.hid hfn
  obtain ⟨g, hg⟩ : ∃ x, w.heap.size = x := ⟨_, rfl⟩
  rw [hg] at HNW
  clear hl hn hsm hfn hf hok
  go_enter Try.func7, Try.ntmps7
  go_wp2_with fail
  refine HNW.out.mono ?_
  rintro _ w1 ⟨⟨b, rfl, hd⟩, hb1⟩
  have HP1 : Hid (Played w1 g b size 0) := ⟨_, rfl, fun _ _ => rfl, Nat.zero_le _, hd.more (by have := HF.out; omega)⟩
  have HB1 := Lib.hid hb1
  clear hd hb1
  go_wp2
  go_loopw [9] (fun i wr => Below g w wr ∧ ∃ k : Nat, k ≤ n ∧ i = .int .i64 k ∧ Played wr g b size k) (fun i _ => n - (intOf i).toNat)
  case atStart => exact ⟨HB1.out, 0, Nat.zero_le _, rfl, HP1.out⟩
  case round =>
    obtain ⟨hbr, k, hk, rfl, hpl⟩ := hrel
    have HBR := Lib.hid hbr
    have HPL := Lib.hid hpl
    clear hbr hpl
    by_cases hkn : k < n
    · have hkl : k < l.length := by rw [← HN.out]; exact hkn
      obtain ⟨b2, off, rfl, hlt, hrow⟩ := HL.out.resolve_left (by intro e; rw [e] at hkl; simp at hkl)
      have hst := hrow k hkl
      have hss := HSM.out l[k] (List.getElem_mem hkl)
      obtain ⟨s, hs'⟩ : ∃ s, l[k] = s := ⟨_, rfl⟩
      rw [hs'] at hst hss
      have hbw : Below w.heap.size w wr := by rw [hg]; exact HBR.out
      have HC : Hid (∀ i v, (spC s)[i]? = some v → wr.cell? ((⟨b2, off + k * 6, none⟩ : Addr).add i) = some v) := fun i v hv => by
        rw [Addr.add_mid]
        exact CellsAt.later hbw hlt hst.cells i v hv
      have HBY := Lib.hid (hst.bytes.mono hbw)
      have HFT := Lib.hid (hst.fates.later hbw)
      have HBC := Lib.hid hst.bcap
      have HSEP : Hid (s.bs ≠ [] → ∀ ad, s.ba = some ad → ad.block < g) := fun hne ad ha => by
        rcases hst.bytes with h | ⟨b3, o3, h3, hlt3, _⟩
        · exact absurd (List.map_eq_nil_iff.1 h) hne
        · rw [ha] at h3; cases h3; rw [← hg]; exact hlt3
      have HSS := Lib.hid hss
      have hb1 : (k : Int) < (n : Int) := by omega
      have hgr : g ≤ wr.heap.size := by rw [← hg]; exact hbw.size
      obtain ⟨D, hsz, hout, hpc, hdk⟩ := HPL.out
      have HD := Lib.hid hdk
      have HOUT := Lib.hid hout
      obtain ⟨kd, at_, nn, ba, bs, bc, fa2, fs2, fc2, pa, pn, pc⟩ := s
      dsimp only [spC, Sp.small] at HC HBY HFT HBC HSEP HSS
      obtain ⟨nb, hnb⟩ : ∃ x, bs.length = x := ⟨_, rfl⟩
      obtain ⟨nf2, hnf2⟩ : ∃ x, fs2.length = x := ⟨_, rfl⟩
      have HSS1 : Hid (bs.length ≤ 6000) := HSS.out.1
      have HSS2 : Hid (fs2.length ≤ 40) := HSS.out.2
      rw [hnb] at HC HBC HSS1
      rw [hnf2] at HC HSS2
      have HNB := Lib.hid hnb
      have HNF := Lib.hid hnf2
      have hAg : Agg Try.prog 49 [Value.int .i64 kd, .int .i64 at_, .int .i64 nn, .slice ba nb bc, .slice fa2 nf2 fc2, .slice pa pn pc].length := aggSp
      clear hrow hst hss hs' hbw hnb hnf2 HSS hdk hout HPL
      obtain ⟨bx, hbx⟩ : ∃ x, wr.heap.size = x := ⟨_, rfl⟩
      go_upto_region 6 with (refine step_loadCells rfl 49 (.tmp 25) rfl ⟨b2, off + k * 6, none⟩ rfl _ hAg HC.out ?_)
      obtain ⟨w3, hw3⟩ : ∃ x, wr.alloc (.cells #[.int .i64 kd, .int .i64 at_, .int .i64 nn, .slice ba nb bc, .slice fa2 nf2 fc2, .slice pa pn pc] 49) = x := ⟨_, rfl⟩
      have hr3 : RowAt w3 bx 49 #[.int .i64 kd, .int .i64 at_, .int .i64 nn, .slice ba nb bc, .slice fa2 nf2 fc2, .slice pa pn pc] := by rw [← hw3, ← hbx]; exact RowAt.new _ _ _
      have hb3 : Below wr.heap.size wr w3 := by rw [← hw3]; exact below_alloc _
      have e0 := hr3.cell 0
      have e1 := hr3.cell 1
      have e3 := hr3.cell 3
      have e4 := hr3.cell 4
      simp only [List.getElem?_toArray, List.getElem?_cons_zero, List.getElem?_cons_succ] at e0 e1 e3 e4
      have HB3 := Lib.hid (HBR.out.trans (hb3.mono hgr))
      have HD3 := Lib.hid (HD.out.later hb3)
      have HBY3 := Lib.hid (HBY.out.mono hb3)
      have HFT3 := Lib.hid (HFT.out.later hb3)
      have hg3 : g ≤ w3.heap.size := Nat.le_trans hgr hb3.size
      rw [hw3]
      clear hr3 hb3 hw3
      by_cases k1 : kd = 1
      · subst k1
        go_wp2_with fail
        refine (write_any w3 g b D _ at_ ba bs nb bc HD3.out hg3 HNB.out.symm HBC.out HBY3.out HSEP.out (by have := HNB.out; have := HSS1.out; omega) (by have := HNB.out; have := HSS1.out; omega)).mono ?_
        rintro _ w4 ⟨⟨kw, er, hkw, -, -, rfl, hd4⟩, hb4⟩
        have HP4 : Hid (Played w4 g b size (k + 1)) := ⟨⟨D.size, D.last, D.pcs ++ wps at_ bs kw⟩, hsz, fun k hk => HOUT.out k hk, by dsimp only; rw [List.length_append]; simp only [wps, List.length_map, List.length_range]; have := HNB.out; have := HSS1.out; omega, hd4.more (by omega)⟩
        have HB4 := Lib.hid (HB3.out.trans hb4)
        clear hd4 hb4 hkw e0 e1 e3 e4
        go_wp2
        exact ⟨⟨HB4.out, k + 1, by omega, by go_num, HP4.out⟩, by simp [intOf]; omega⟩
      by_cases k3 : kd = 3
      · subst k3
        go_wp2_with fail
        refine (sync_any w3 g b D _ HD3.out hg3 (by omega)).mono ?_
        rintro _ w4 ⟨⟨kw, hkw, er, -, rfl, hd4⟩, hb4⟩
        have HP4 : Hid (Played w4 g b size (k + 1)) := ⟨⟨D.size, laid D.last (D.pcs.take kw), D.pcs.drop kw⟩, hsz, laid_out HOUT.out _ fun p hp => by have := HD3.out.psec p (List.mem_of_mem_take hp); exact ⟨this.1, this.2.1⟩, by dsimp only; rw [List.length_drop]; omega, hd4.more (by omega)⟩
        have HB4 := Lib.hid (HB3.out.trans hb4)
        clear hd4 hb4 hkw e0 e1 e3 e4
        go_wp2
        exact ⟨⟨HB4.out, k + 1, by omega, by go_num, HP4.out⟩, by simp [intOf]; omega⟩
      by_cases k4 : kd = 4
      · subst k4
        go_wp2_with fail
        refine (feed_any w3 g b D _ HD3.out hg3 fa2 fs2 nf2 fc2 HNF.out.symm HFT3.out (by have := HSS2.out; have := HNF.out; omega)).mono ?_
        rintro _ w4 ⟨⟨er, rfl⟩, hd4, hb4⟩
        have HP4 : Hid (Played w4 g b size (k + 1)) := ⟨_, hsz, HOUT.out, by omega, hd4.more (by have := HSS2.out; have := HNF.out; omega)⟩
        have HB4 := Lib.hid (HB3.out.trans hb4)
        clear hd4 hb4 e0 e1 e3 e4
        go_wp2
        exact ⟨⟨HB4.out, k + 1, by omega, by go_num, HP4.out⟩, by simp [intOf]; omega⟩
      have HP4 : Hid (Played w3 g b size (k + 1)) := ⟨_, hsz, HOUT.out, by omega, HD3.out.more (by omega)⟩
      go_wp2
      exact ⟨⟨HB3.out, k + 1, by omega, by go_num, HP4.out⟩, by simp [intOf]; omega⟩
    · obtain rfl : k = n := by omega
      go_wp2
      go_ret
      obtain ⟨D, h1, h2, h3, h4⟩ := HPL.out
      rw [hg]
      exact ⟨⟨b, rfl, D, h1, h2, by omega, h4.more (by omega)⟩, HBR.out⟩
end Go.Proofs.Ytchdipakekglmaa

