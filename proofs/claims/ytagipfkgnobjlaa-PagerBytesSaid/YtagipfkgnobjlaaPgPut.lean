/- pager.steps; pager.put: a batch's pages are written to their places. -/
import Derived.Test.YtagipfkgnobjlaaPgRead
namespace Go.Proofs.Ytagipfkgnobjlaa
open Go.RowKit

attribute [local go_sem] Oper.semAt_some
/-- Functions, one behind the other: the first that fails ends it. -/
def Chn (sb : Nat) (R : Int → World → Prop) : List Value → World → Prop
  | [], w => R 0 w
  | f :: fs, w => ∃ (g : Nat) (a b : Array Value), f = .func (.func g) a b ∧ (∀ args w, (callFunc g args).run Try.prog w = .ok (.enter g args) w) ∧ Calls Try.prog g (a ++ b) w fun e w' => ∃ er : Int, e = .returned (.int .i64 er) ∧ w'.heap[sb]? = w.heap[sb]? ∧ ((er ≠ 0 ∧ R er w') ∨ (er = 0 ∧ Chn sb R fs w'))
set_option maxRecDepth 100000 in
set_option maxHeartbeats 1000000 in
theorem steps_any (sb : Nat) (R : Int → World → Prop) (fs : List Value) (w : World) (n cap : Nat) (hn : fs.length = n) (hn2 : n ≤ 100) (hrow : RowAt w sb 29 fs.toArray) (hc : Chn sb R fs w) :
    Calls Try.prog 30 #[.slice (some ⟨sb, 0, none⟩) n cap] w fun e w' => ∃ er : Int, e = .returned (.int .i64 er) ∧ R er w' := by
  have HN := Lib.hid hn
  have HR := Lib.hid hrow
  have HC := Lib.hid hc
  clear hn hrow hc
  go_enter Try.func30, Try.ntmps30
  go_wp2
  go_loopw [8] (fun iv wr => ∃ k : Nat, k ≤ n ∧ iv = .int .i64 (k : Int) ∧ RowAt wr sb 29 fs.toArray ∧ Chn sb R (fs.drop k) wr) (fun iv _ => n - (intOf iv).toNat)
  case atStart => exact ⟨0, Nat.zero_le _, rfl, HR.out, HC.out⟩
  case round =>
    obtain ⟨k, hk, rfl, hrow, hch⟩ := hrel
    by_cases hkn : k < n
    · have hkl : k < fs.length := by rw [HN.out]; exact hkn
      rw [List.drop_eq_getElem_cons hkl] at hch
      obtain ⟨g, ga, gb, hf, heg, hcall⟩ := hch
      have hen := heg (ga ++ gb) wr
      have hcell := hrow.cell k
      rw [List.getElem?_toArray, List.getElem?_eq_getElem hkl, hf] at hcell
      have hkI : (k : Int) < (n : Int) := by omega
      have HROW := Lib.hid hrow
      have HCALL := Lib.hid hcall
      clear hrow hcall hf heg
      go_wp2_with fail
      refine HCALL.out.mono ?_
      rintro _ w2 ⟨er, rfl, hsb, hcase⟩
      have hrow2 : RowAt w2 sb 29 fs.toArray := hsb.trans HROW.out
      have HROW2 := Lib.hid hrow2
      rcases hcase with ⟨hne, hR⟩ | ⟨rfl, hch⟩
      · have HRR := Lib.hid hR
        have hne1 : (er != 0) = true := by simpa using hne
        clear hsb hrow2 hR hne hen
        go_wp2
        go_ret
        exact ⟨er, rfl, HRR.out⟩
      · have HCH := Lib.hid hch
        clear hsb hrow2 hch hen
        go_wp2
        exact ⟨⟨k + 1, by omega, by go_num, HROW2.out, HCH.out⟩, by simp [intOf]; omega⟩
    · obtain rfl : k = n := by omega
      rw [List.drop_of_length_le (by rw [HN.out]; exact Nat.le_refl _)] at hch
      have HCH := Lib.hid hch
      clear hrow hch
      go_wp2
      go_ret
      exact ⟨0, rfl, HCH.out⟩
/-- The pages that a batch's bytes tell: a number and 1024 bytes each. -/
def entsN : Nat → List UInt8 → List (Nat × List UInt8)
  | 0, _ => []
  | f + 1, B => if 1028 ≤ B.length then (leB (B.take 4), (B.drop 4).take 1024) :: entsN f (B.drop 1028) else []
def ents (B : List UInt8) : List (Nat × List UInt8) := entsN B.length B
theorem entsN_more : ∀ (f : Nat) (B : List UInt8), B.length ≤ f → ∀ g, B.length ≤ g → entsN f B = entsN g B
  | 0, B, h, g, _ => by
    have : B = [] := List.eq_nil_of_length_eq_zero (by omega)
    subst this
    cases g with
    | zero => rfl
    | succ g => unfold entsN; rw [if_neg (by simp)]
  | f + 1, B, h, 0, hg => by
    have : B = [] := List.eq_nil_of_length_eq_zero (by omega)
    subst this
    unfold entsN; rw [if_neg (by simp)]
  | f + 1, B, h, g + 1, hg => by
    unfold entsN
    by_cases hl : 1028 ≤ B.length
    · rw [if_pos hl, if_pos hl, entsN_more f (B.drop 1028) (by rw [List.length_drop]; omega) g (by rw [List.length_drop]; omega)]
    · rw [if_neg hl, if_neg hl]
theorem ents_cons {B : List UInt8} (h : 1028 ≤ B.length) : ents B = (leB (B.take 4), (B.drop 4).take 1024) :: ents (B.drop 1028) := by
  unfold ents
  obtain ⟨f, hf⟩ : ∃ f, B.length = f + 1 := ⟨B.length - 1, by omega⟩
  rw [hf]
  conv => lhs; unfold entsN
  rw [if_pos h]
  congr 1
  exact entsN_more _ _ (by rw [List.length_drop]; omega) _ (Nat.le_refl _)
theorem ents_nil {B : List UInt8} (h : ¬ 1028 ≤ B.length) : ents B = [] := by
  unfold ents
  cases hb : B.length with
  | zero => rfl
  | succ f => unfold entsN; rw [if_neg h]
/-- What a batch's pages make of a disk. -/
def putE (n : Nat) (room : Int) (V : Int → List UInt8) (e : Nat × List UInt8) : Int → List UInt8 := if (e.1 : Int) < room then laid V (wps ((n : Int) + 2 * (e.1 : Int)) e.2 2) else V
def putV (n : Nat) (room : Int) (V : Int → List UInt8) (l : List (Nat × List UInt8)) : Int → List UInt8 := l.foldl (putE n room) V
/-- A log, and what lies in its disk's hands. -/
def GL (b0 : Nat) (w0 W : World) (T0 : Nat → Prop) (lb d size n : Nat) (x : LX) : Prop :=
  ∃ T, GLog b0 W T lb d size n x ∧ (∀ y, T y → T0 y ∨ w0.heap.size ≤ y) ∧ KeepA (fun y => T0 y ∨ w0.heap.size ≤ y) w0 W
/-- What put does: the first write that fails ends it. -/
def PutR (n : Nat) (room : Int) : List (Nat × List UInt8) → Int → LX → LX → Prop
  | [], er, x, x' => er = 0 ∧ x' = x
  | e :: l, er, x, x' => if (e.1 : Int) < room then ∃ er1 x1, WriteR ((n : Int) + 2 * (e.1 : Int)) e.2 er1 x x1 ∧ ((er1 ≠ 0 ∧ er = er1 ∧ x' = x1) ∨ (er1 = 0 ∧ PutR n room l er x1 x')) else PutR n room l er x x'
set_option maxRecDepth 100000 in
set_option maxHeartbeats 4000000 in
theorem pgput_any (b0 : Nat) (w : World) (T : Nat → Prop) (lb d size n : Nat) (x : LX) (h : GLog b0 w T lb d size n x) (hb0 : b0 ≤ w.heap.size) (room : Nat) (hroom : n + 2 * room ≤ size)
    (a : Option Addr) (B : List UInt8) (m cap : Nat) (hm : m = B.length) (hc : m ≤ cap) (hr : RdB w a B) (hsep : ∀ b off, a = some ⟨b, off, none⟩ → ¬ T b) (hq : x.D.pcs.length + m ≤ 700000) :
    Calls Try.prog 29 #[.pointer (some ⟨d, 0, none⟩), .int .i64 (n : Int), .slice a m cap, .int .i64 (room : Int)] w fun e w' => ∃ er x', e = .returned (.int .i64 er) ∧ PutR n room (ents B) er x x' ∧ GL b0 w w' T lb d size n x' := by
  have HM := Lib.hid hm
  have H0 : Hid (GL b0 w w T lb d size n x) := ⟨T, h, fun x hx => .inl hx, KeepA.refl _ _⟩
  have HR := Lib.hid hr
  have HSEP := Lib.hid hsep
  have HS6 : Hid (size ≤ 65536) := Lib.hid h.sizes.2.2.1
  have HTL : Hid (∀ x, T x → x < w.heap.size) := Lib.hid fun x hx => (h.lt x hx).2
  obtain ⟨K, hK⟩ : ∃ K : Ending → World → Prop, (fun (e : Ending) (w' : World) => ∃ er x', e = .returned (.int .i64 er) ∧ PutR n room (ents B) er x x' ∧ GL b0 w w' T lb d size n x') = K := ⟨_, rfl⟩
  have HK : Hid (∀ er x' w', PutR n room (ents B) er x x' → GL b0 w w' T lb d size n x' → K (.returned (.int .i64 er)) w') := Lib.hid fun er x' w' h1 h2 => by rw [← hK]; exact ⟨er, x', rfl, h1, h2⟩
  rw [hK]
  obtain ⟨q, hqq⟩ : ∃ y, x.D.pcs.length = y := ⟨_, rfl⟩
  have HQ0 := Lib.hid hqq
  rw [hqq] at hq
  clear hK h hr hsep hm hqq
  go_enter Try.func29, Try.ntmps29
  go_wp2
  go_loopw [2] (fun bv_ wr => ∃ (k : Nat) (ak : Option Addr) (x1 : LX), 1028 * k ≤ m ∧ bv_ = .slice ak (m - 1028 * k) (cap - 1028 * k) ∧ RdB w ak (B.drop (1028 * k)) ∧ (∀ b off, ak = some ⟨b, off, none⟩ → 0 < (B.drop (1028 * k)).length → ¬ T b) ∧ GL b0 w wr T lb d size n x1 ∧ (∀ er x', PutR n room (ents (B.drop (1028 * k))) er x1 x' → PutR n room (ents B) er x x') ∧ x1.D.pcs.length ≤ q + 2 * k) (fun bv_ _ => match bv_ with | .slice _ l _ => l | _ => 0)
  case atStart => exact ⟨0, a, x, by omega, rfl, HR.out, fun b off e _ => HSEP.out b off e, H0.out, fun _ _ h => h, by rw [HQ0.out]; exact Nat.le_add_right _ _⟩
  case round =>
    obtain ⟨k, ak, x1, hk, rfl, hrk, hsk, hgl, hpv, hql⟩ := hrel
    obtain ⟨R, hR⟩ : ∃ R, B.drop (1028 * k) = R := ⟨_, rfl⟩
    obtain ⟨r, hr⟩ : ∃ y, m - 1028 * k = y := ⟨_, rfl⟩
    obtain ⟨c, hcc⟩ : ∃ y, cap - 1028 * k = y := ⟨_, rfl⟩
    have hRl : R.length = r := by rw [← hR, List.length_drop, ← HM.out, hr]
    have HD : Hid (∀ j, B.drop (1028 * k + j) = R.drop j) := Lib.hid fun j => by rw [← hR, List.drop_drop]
    rw [hR] at hrk hsk hpv
    have hrc : r ≤ c := by omega
    have HRC : Hid (r + 1028 * k = m ∧ c + 1028 * k = cap) := ⟨by omega, by omega⟩
    rw [hr, hcc]
    clear hR hr hcc
    by_cases hlt : r < 1028
    · have HEX : Hid (K (.returned (.int .i64 0)) wr) := by
        have hnil : ents R = [] := ents_nil (by omega)
        rw [hnil] at hpv
        exact HK.out 0 x1 wr (hpv 0 x1 ⟨rfl, rfl⟩) hgl
      clear hgl hpv hrk hsk hql
      go_wp2
      exact HEX.out
    · obtain ⟨b, off, rfl, hbl, -⟩ := RdB.at hrk (by omega)
      obtain ⟨T', hg', hT', hkp⟩ := hgl
      have hTb : ¬ (T b ∨ w.heap.size ≤ b) := fun h => h.elim (hsk b off rfl (by omega)) (by omega)
      have hrw : RdB wr (some ⟨b, off, none⟩) R := Rd.keepA hrk hkp fun b2 o2 e _ => by cases e; exact hTb
      have HV := Lib.hid (pvalue_any wr (some ⟨b, off, none⟩) R r c hRl.symm (by omega) hrw)
      obtain ⟨v, hv⟩ : ∃ y, leB (R.take 4) = y := ⟨_, rfl⟩
      rw [hv] at HV
      have HRW := Lib.hid hrw
      have HRK := Lib.hid hrk
      have HSK := Lib.hid hsk
      have HG' := Lib.hid hg'
      have HT' := Lib.hid hT'
      have HKP := Lib.hid hkp
      have HTB := Lib.hid hTb
      have hpl : ((R.drop 4).take 1024).length = 1024 := by rw [List.length_take, List.length_drop]; omega
      obtain ⟨pg, hpg⟩ : ∃ y, (R.drop 4).take 1024 = y := ⟨_, rfl⟩
      have HPG := Lib.hid hpg
      rw [hpg] at hpl
      have HPL := Lib.hid hpl
      have HEC : Hid (ents R = (v, pg) :: ents (R.drop 1028)) := by
        show _ = _
        rw [ents_cons (by omega), hv, hpg]
      have HQ := Lib.hid hql
      have HNX : Hid (∀ er x', PutR n room ((v, pg) :: ents (R.drop 1028)) er x1 x' → PutR n room (ents B) er x x') := Lib.hid fun er x' h => hpv er x' (by rw [HEC.out]; exact h)
      have HSL : Hid (∀ (W : World) (a2 : Option Addr), (c = 1028 ∧ a2 = some ⟨b, off, none⟩ ∨ a2 = some ⟨b, off + 1028, none⟩) → RdB w a2 (B.drop (1028 * (k + 1))) ∧ ∀ b' off', a2 = some ⟨b', off', none⟩ → 0 < (B.drop (1028 * (k + 1))).length → ¬ T b') := Lib.hid fun W a2 h => by
        rw [show 1028 * (k + 1) = 1028 * k + 1028 by omega, HD.out]
        rcases h with ⟨hc8, rfl⟩ | rfl
        · have hnil : R.drop 1028 = [] := List.eq_nil_of_length_eq_zero (by rw [List.length_drop]; omega)
          rw [hnil]
          exact ⟨.inl rfl, fun _ _ _ h => absurd h (by simp)⟩
        · exact ⟨hrk.dropK 1028, fun b' off' e _ => by cases e; exact hsk b off rfl (by omega)⟩
      have hr0 : 1028 ≤ r := by omega
      have hrI : (1028 : Int) ≤ (r : Int) := by omega
      have hcI : (1028 : Int) ≤ (c : Int) := by omega
      have hcN : 1028 ≤ c := by omega
      have hrm : r ≤ 1000000 := by have := HRC.out; omega
      clear hpv hql hrk hsk hg' hT' hkp hTb hrw hv hpg hpl hRl
      by_cases hvr : v < room
      · have hvI : (v : Int) < (room : Int) := by omega
        have y1 : IntKind.i64.wrap (2 * (v : Int)) = 2 * (v : Int) := IntWalk.i64_in _ (by have := HS6.out; omega)
        have y2 : IntKind.i64.wrap ((n : Int) + 2 * (v : Int)) = (n : Int) + 2 * (v : Int) := IntWalk.i64_in _ (by have := HS6.out; omega)
        have HWR : Hid (∀ W, Below wr.heap.size wr W → Calls Try.prog 6 #[.pointer (some ⟨d, 0, none⟩), .int .i64 ((n : Int) + 2 * (v : Int)), .slice (some ⟨b, off + 4, none⟩) 1024 (c - 4)] W fun e w' => ∃ er, e = .returned (.int .i64 er) ∧ ((er ≠ 0 ∧ K (.returned (.int .i64 er)) w') ∨ (er = 0 ∧ ∃ x2, GL b0 w w' T lb d size n x2 ∧ (∀ er x', PutR n room (ents (R.drop 1028)) er x2 x' → PutR n room (ents B) er x x') ∧ x2.D.pcs.length ≤ q + 2 * (k + 1)))) := Lib.hid fun W hW => by
          have hrp : RdB W (some ⟨b, off + 4, none⟩) pg := by
            have h1 := ((HRW.out.dropK 4).take 1024).mono hW
            rw [HPG.out] at h1
            exact h1
          have h4 : pg.length / 512 = 2 := by rw [HPL.out]
          have hsz := HKP.out.size
          have hq1 := HQ.out
          refine (gl_write (HG'.out.later hW) (by have := hW.size; omega) (by omega) ((n : Int) + 2 * (v : Int)) (some ⟨b, off + 4, none⟩) pg 1024 (c - 4) HPL.out.symm (by omega) hrp (fun ad e q => by cases e; exact HTB.out (HT'.out b q)) (by rw [HPL.out]) (by rw [HPL.out]; decide) (by omega) (by rw [h4]; omega)).mono ?_
          rintro e w' ⟨er, x2, rfl, hwr, hk2, T2, hg2, hT2⟩
          have hGL : GL b0 w w' T lb d size n x2 := by
            refine ⟨T2, hg2, fun x hx => ?_, ?_⟩
            · rcases hT2 x hx with e | e
              · exact HT'.out x e
              · exact .inr (by have := hW.size; omega)
            · exact HKP.out.trans ((KeepA.of_below hW).trans (hk2.mono fun x hx => HT'.out x hx))
          refine ⟨er, rfl, ?_⟩
          by_cases her : er = 0
          · refine .inr ⟨her, x2, hGL, fun er' x' hp => HNX.out er' x' ?_, ?_⟩
            · unfold PutR
              rw [if_pos hvI]
              exact ⟨er, x2, hwr, .inr ⟨her, hp⟩⟩
            · obtain ⟨kk, hkk, -, -, rfl⟩ := hwr
              rw [h4] at hkk
              show (x1.D.pcs ++ _).length ≤ _
              rw [List.length_append, wps_len]
              omega
          · refine .inl ⟨her, HK.out er x2 w' (HNX.out er x2 ?_) hGL⟩
            unfold PutR
            rw [if_pos hvI]
            exact ⟨er, x2, hwr, .inl ⟨her, rfl, rfl⟩⟩
        go_wp2_with fail
        refine HV.out.mono ?_
        rintro _ w2 ⟨rfl, hb2⟩
        have HB2 := Lib.hid hb2
        clear hb2
        go_wp2_with fail
        refine (HWR.out w2 HB2.out).mono ?_
        rintro _ w3 ⟨er, rfl, ⟨hne, hE⟩ | ⟨rfl, x2, hg2, hp2, hq2⟩⟩
        · have HE := Lib.hid hE
          have hne1 : (er != 0) = true := by simpa using hne
          clear hE hne y1 y2
          go_wp2
          exact HE.out
        · have HN2 := Lib.hid (And.intro hg2 (And.intro hp2 hq2))
          clear hg2 hp2 hq2 y1 y2
          go_wp2
          have HAD : Hid (c = 1028 ∧ (if c = 1028 then some (⟨b, off, none⟩ : Addr) else some ⟨b, off + 1028, none⟩) = some ⟨b, off, none⟩ ∨ (if c = 1028 then some (⟨b, off, none⟩ : Addr) else some ⟨b, off + 1028, none⟩) = some ⟨b, off + 1028, none⟩) := by
            by_cases h : c = 1028
            · exact .inl ⟨h, if_pos h⟩
            · exact .inr (if_neg h)
          exact ⟨⟨k + 1, _, x2, by have := HRC.out; omega, by rw [show m - 1028 * (k + 1) = r - 1028 by have := HRC.out; omega, show cap - 1028 * (k + 1) = c - 1028 by have := HRC.out; omega], (HSL.out w _ HAD.out).1, (HSL.out w _ HAD.out).2, HN2.out.1, by rw [show 1028 * (k + 1) = 1028 * k + 1028 by omega, HD.out]; exact HN2.out.2.1, HN2.out.2.2⟩, by show r - 1028 < r; omega⟩
      · have hvI : ¬ (v : Int) < (room : Int) := by omega
        have HN2 : Hid (∀ w2, Below wr.heap.size wr w2 → GL b0 w w2 T lb d size n x1 ∧ (∀ er x', PutR n room (ents (R.drop 1028)) er x1 x' → PutR n room (ents B) er x x') ∧ x1.D.pcs.length ≤ q + 2 * (k + 1)) := Lib.hid fun w2 hb2 => by
          refine ⟨⟨T', HG'.out.later hb2, HT'.out, HKP.out.trans (KeepA.of_below hb2)⟩, fun er x' hp => HNX.out er x' ?_, by have := HQ.out; omega⟩
          unfold PutR
          rw [if_neg hvI]
          exact hp
        go_wp2_with fail
        refine HV.out.mono ?_
        rintro _ w2 ⟨rfl, hb2⟩
        have HN3 := Lib.hid (HN2.out w2 hb2)
        clear hb2
        go_wp2
        have HAD : Hid (c = 1028 ∧ (if c = 1028 then some (⟨b, off, none⟩ : Addr) else some ⟨b, off + 1028, none⟩) = some ⟨b, off, none⟩ ∨ (if c = 1028 then some (⟨b, off, none⟩ : Addr) else some ⟨b, off + 1028, none⟩) = some ⟨b, off + 1028, none⟩) := by
          by_cases h : c = 1028
          · exact .inl ⟨h, if_pos h⟩
          · exact .inr (if_neg h)
        exact ⟨⟨k + 1, _, x1, by have := HRC.out; omega, by rw [show m - 1028 * (k + 1) = r - 1028 by have := HRC.out; omega, show cap - 1028 * (k + 1) = c - 1028 by have := HRC.out; omega], (HSL.out w _ HAD.out).1, (HSL.out w _ HAD.out).2, HN3.out.1, by rw [show 1028 * (k + 1) = 1028 * k + 1028 by omega, HD.out]; exact HN3.out.2.1, HN3.out.2.2⟩, by show r - 1028 < r; omega⟩
end Go.Proofs.Ytagipfkgnobjlaa
