/- wal.Log.Reset. / wal.Open. / wal.Log.Append. -/
import Derived.Test.YtagipfkgnobjlaaWlMid
namespace Go.Proofs.Ytagipfkgnobjlaa
open Go.RowKit

/-- A log lies somewhere, in old blocks of T or in new ones. -/
def LgSome (w w' : World) (T : Nat → Prop) (lb d : Nat) (D : DK) (F : Nat) (from_ : Int) (n run base used : Nat) (dead : Bool) (bs : List (List UInt8)) : Prop :=
  ∃ T' S' allv, LgAt w' T' S' lb d D F from_ n run base allv used dead bs ∧ ∀ x, T' x → T x ∨ w.heap.size ≤ x
set_option maxRecDepth 100000 in
set_option maxHeartbeats 2000000 in
theorem reset_any (w : World) (T S : Nat → Prop) (lb d : Nat) (D : DK) (F : Nat) (from_ : Int) (n run base : Nat) (allv : Value) (used : Nat) (bs : List (List UInt8)) (h : LgAt w T S lb d D F from_ n run base allv used false bs)
    (hf0 : 0 ≤ from_) (hf1 : from_ + 2 ≤ D.size) (hrun : run < 9223372036854775808) (hp : D.pcs.length ≤ 900000) :
    Calls Try.prog 31 #[.pointer (some ⟨lb, 0, none⟩)] w fun e w' => (∃ er D', e = .returned (.int .i64 er) ∧ WS F D (from_ + (((run + 1) % 2 : Nat) : Int)) (headB (run + 1) (run + 1)) er D' ∧
      ((er = 0 ∧ LgSome w w' T lb d D' F from_ n (run + 1) (run + 1) 0 false []) ∨ (er ≠ 0 ∧ LgSome w w' T lb d D' F from_ n run base used true bs))) ∧ KeepA T w w' := by
  have HN := Lib.hid (wnone_any w lb d from_ n run base _ used false h.row)
  have HL := Lib.hid h
  have HP := Lib.hid (put_any w.drew S d D F from_ (run + 1) (run + 1) (h.dk.later (drewN_below (Below.refl _ w) 1)) (fun x hx => h.lt x (h.sub x hx)) hf0 hf1 (by omega) (by omega) hp)
  obtain ⟨c0, c1, -, c3, -, -, -, c7⟩ := h.row.cells
  obtain ⟨r1, hr1⟩ : ∃ r, run + 1 = r := ⟨_, rfl⟩
  have hrw : IntKind.u64.wrap ((run : Int) + 1) = (r1 : Int) := by rw [IntWalk.u64_in _ ⟨by omega, by omega⟩]; omega
  rw [hr1] at HP ⊢
  have hk0 : w.drew.cell? ⟨lb, 0, none⟩ = some (.pointer (some ⟨d, 0, none⟩)) ∧ w.drew.cell? ⟨lb, 1, none⟩ = some (.int .i64 from_) ∧ w.drew.cell? ⟨lb, 3, none⟩ = some (.int .u64 (run : Int)) := ⟨c0, c1, c3⟩
  clear h hp hr1
  go_enter Try.func31, Try.ntmps31
  go_wp2_with fail
  refine HN.out.mono ?_
  rintro _ w1 ⟨rfl, rfl⟩
  go_wp2
  go_region_held (fun w' => w'.cell? ⟨lb, 0, none⟩ = some (.pointer (some ⟨d, 0, none⟩)) ∧ w'.cell? ⟨lb, 1, none⟩ = some (.int .i64 from_) ∧ w'.cell? ⟨lb, 3, none⟩ = some (.int .u64 (run : Int))) (first | assumption) (first
    | (go_simp; go_at_call 60; refine (dies_any w2 lb d from_ n run base allv used false er HLW.out.row).mono ?_; rintro e w3 ⟨rfl, hr3, hk3⟩; have HL3 := Lib.hid (HLW.out.setRow hr3 hk3); have HK3 := Lib.hid hk3; have hk3c : w3.cell? ⟨lb, 0, none⟩ = some (.pointer (some ⟨d, 0, none⟩)) ∧ w3.cell? ⟨lb, 1, none⟩ = some (.int .i64 from_) ∧ w3.cell? ⟨lb, 3, none⟩ = some (.int .u64 (run : Int)) := ⟨RowAt.cell hr3 0, RowAt.cell hr3 1, RowAt.cell hr3 3⟩; clear hr3 hk3)
    | (go_simp; go_at_call 55; refine HP.out.mono ?_; rintro e w2 ⟨⟨er, D', rfl, hws, hdk⟩, hk2⟩; have HWS := Lib.hid hws; have HLW := Lib.hid ((HL.out.later (drewN_below (Below.refl _ _) 1)).step hdk hk2); have HK2 := Lib.hid hk2; have hk2c : w2.cell? ⟨lb, 0, none⟩ = some (.pointer (some ⟨d, 0, none⟩)) ∧ w2.cell? ⟨lb, 1, none⟩ = some (.int .i64 from_) ∧ w2.cell? ⟨lb, 3, none⟩ = some (.int .u64 (run : Int)) := ⟨RowAt.cell HLW.out.row 0, RowAt.cell HLW.out.row 1, RowAt.cell HLW.out.row 3⟩; clear hws hdk hk2))
  have HKT : Hid (KeepA T w1 w3) := by
    have k2 : KeepA T w1 w2 := (KeepA.of_below (drewN_below (Below.refl _ w1) 1)).trans (HK2.out.mono HL.out.sub)
    exact k2.trans (HK3.out.mono fun x e => by rw [e]; exact HL.out.lbT)
  have HTS : Hid (∀ x, Plus T (Span w1.drew w2) x → T x ∨ w1.heap.size ≤ x) := fun x hx => hx.imp id fun h => h.1
  have hr3 := HL3.out.row
  by_cases her : er = 0
  · subst her
    have q3 := RowAt.cell hr3 3
    have z3 := RowAt.frozen hr3 3
    obtain ⟨wa, hwa⟩ : ∃ y, w3.setCell ⟨lb, 3, none⟩ (.int .u64 (r1 : Int)) = y := ⟨_, rfl⟩
    have hra : LgRow wa lb d from_ n r1 base allv used (false || (0 : Int) != 0) := by rw [← hwa]; exact RowAt.set hr3 3 (.int .u64 (r1 : Int))
    have qa3 := RowAt.cell hra 3
    have qa4 := RowAt.cell hra 4
    have za4 := RowAt.frozen hra 4
    obtain ⟨wb, hwb⟩ : ∃ y, wa.setCell ⟨lb, 4, none⟩ (.int .u64 (r1 : Int)) = y := ⟨_, rfl⟩
    have hrb : LgRow wb lb d from_ n r1 r1 allv used (false || (0 : Int) != 0) := by rw [← hwb]; exact RowAt.set hra 4 (.int .u64 (r1 : Int))
    have qb5 := RowAt.cell hrb 5
    have zb5 := RowAt.frozen hrb 5
    obtain ⟨wc, hwc⟩ : ∃ y, wb.setCell ⟨lb, 5, none⟩ (.slice none 0 0) = y := ⟨_, rfl⟩
    have hrc : LgRow wc lb d from_ n r1 r1 (.slice none 0 0) used (false || (0 : Int) != 0) := by rw [← hwc]; exact RowAt.set hrb 5 (.slice none 0 0)
    have qc6 := RowAt.cell hrc 6
    have zc6 := RowAt.frozen hrc 6
    obtain ⟨wd, hwd⟩ : ∃ y, wc.setCell ⟨lb, 6, none⟩ (.int .i64 0) = y := ⟨_, rfl⟩
    have hrd : LgRow wd lb d from_ n r1 r1 (.slice none 0 0) 0 (false || (0 : Int) != 0) := by rw [← hwd]; exact RowAt.set hrc 6 (.int .i64 0)
    have hkd : KeepA (fun x => x = lb) w3 wd := by
      rw [← hwd, ← hwc, ← hwb, ← hwa]
      exact ((((KeepA.refl (fun x => x = lb) w3).setCell (a := ⟨lb, 3, none⟩) rfl).setCell (a := ⟨lb, 4, none⟩) rfl).setCell (a := ⟨lb, 5, none⟩) rfl).setCell (a := ⟨lb, 6, none⟩) rfl
    have HLD : Hid (LgAt wd (Plus T (Span w1.drew w2)) (Plus S (Span w1.drew w2)) lb d D' F from_ n r1 r1 (.slice none 0 0) 0 false []) := HL3.out.setNil hrd hkd
    have HKD := Lib.hid hkd
    simp only [List.getElem?_toArray, List.getElem?_cons_zero, List.getElem?_cons_succ, List.setIfInBounds_toArray, List.set_cons_succ, List.set_cons_zero] at q3 qa3 qa4 qb5 qc6
    clear hrd hkd hrc hrb hra hr3
    go_wp2
    go_ret
    exact ⟨⟨0, D', rfl, HWS.out, .inl ⟨rfl, _, _, _, HLD.out, HTS.out⟩⟩, HKT.out.trans (HKD.out.mono fun x e => by rw [e]; exact HL.out.lbT)⟩
  · have hb : (er != 0) = true := by simpa using her
    have hd2 : (false || er != 0) = true := by rw [hb]; rfl
    rw [hd2] at HL3
    clear hr3
    go_wp2
    go_ret
    exact ⟨⟨er, D', rfl, HWS.out, .inr ⟨her, _, _, _, HL3.out, HTS.out⟩⟩, HKT.out⟩
end Go.Proofs.Ytagipfkgnobjlaa
namespace Go.Proofs.Ytagipfkgnobjlaa
open Go.RowKit

def OpenPost (w : World) (S : Nat → Prop) (b : Nat) (D : DK) (F : Nat) (from_ : Int) (n : Nat) (o : Option (Nat × Nat × Nat × List (List UInt8))) (e : Ending) (w' : World) : Prop :=
  match o with
  | none => Below w.heap.size w w' ∧ e = .returned (.tuple #[.pointer none, .int .i64 9])
  | some (run, base, used, bs) =>
    (4611686018427387904 ≤ run + 1 ∧ Below w.heap.size w w' ∧ e = .returned (.tuple #[.pointer none, .int .i64 9])) ∨
    (run + 1 < 4611686018427387904 ∧ KeepA S w w' ∧ ∃ er D', WS F D (from_ + (((run + 1) % 2 : Nat) : Int)) (headB (run + 1) base) er D' ∧
      ((er = 0 ∧ ∃ lb, e = .returned (.tuple #[.pointer (some ⟨lb, 0, none⟩), .int .i64 0]) ∧ w.heap.size ≤ lb ∧ LgSome w w' S lb b D' F from_ n (run + 1) base used false bs) ∨
       (er ≠ 0 ∧ e = .returned (.tuple #[.pointer none, .int .i64 er]) ∧ ∃ S', DkS w' S' b D' F ∧ ∀ x, S' x → (S x ∨ w.heap.size ≤ x) ∧ x < w'.heap.size)))
set_option maxRecDepth 100000 in
set_option maxHeartbeats 2000000 in
theorem open_any (w : World) (S : Nat → Prop) (b : Nat) (D : DK) (F : Nat) (from_ : Int) (n : Nat) (h : DkS w S b D F) (hs : ∀ x, S x → x < w.heap.size) (hok : askW D.size from_ (n : Int) = 0) (hp : D.pcs.length ≤ 900000) :
    Calls Try.prog 26 #[.pointer (some ⟨b, 0, none⟩), .int .i64 from_, .int .i64 (n : Int)] w (OpenPost w S b D F from_ n (lookP (laid D.last D.pcs) from_ n)) := by
  have HA := Lib.hid (look_any w S b D F from_ n h hok hp)
  obtain ⟨hn4, hf0, hfs, hn⟩ : 4 ≤ n ∧ 0 ≤ from_ ∧ from_ + (n : Int) ≤ D.size ∧ n ≤ 65536 := by
    have hz := h.sizes
    unfold askW at hok
    split at hok
    · cases hok
    · split at hok
      · cases hok
      · omega
  obtain ⟨o, ho⟩ : ∃ o, lookP (laid D.last D.pcs) from_ n = o := ⟨_, rfl⟩
  rw [ho] at HA ⊢
  have HO := Lib.hid ho
  have HD := Lib.hid h
  have HS := Lib.hid hs
  clear hok ho h hs
  cases o with
  | none =>
    go_enter Try.func26, Try.ntmps26
    go_wp2_with fail
    refine HA.out.mono ?_
    rintro _ w1 ⟨hb1, rfl⟩
    have HB := Lib.hid hb1
    clear hb1
    go_wp2
    go_ret2
    exact ⟨HB.out, rfl⟩
  | some q =>
    obtain ⟨run, base, used, bs⟩ := q
    obtain ⟨-, -, hrun, hbase⟩ := lookP_small HO.out hn
    obtain ⟨r1, hr1⟩ : ∃ r, run + 1 = r := ⟨_, rfl⟩
    have hrw : IntKind.u64.wrap ((run : Int) + 1) = (r1 : Int) := by rw [IntWalk.u64_in _ ⟨by omega, by omega⟩]; omega
    have HR1 := Lib.hid hr1
    have HRUN := Lib.hid hrun
    clear hr1 hrun
    go_enter Try.func26, Try.ntmps26
    go_wp2_with fail
    refine HA.out.mono ?_
    rintro _ w1 ⟨hb1, lb, allv, rfl, hlb, hrow, hbats⟩
    have HB := Lib.hid hb1
    have HBT := Lib.hid hbats
    have HROW := Lib.hid hrow
    have q3 := RowAt.cell hrow 3
    have z3 := RowAt.frozen hrow 3
    obtain ⟨w2, hw2⟩ : ∃ y, w1.setCell ⟨lb, 3, none⟩ (.int .u64 (r1 : Int)) = y := ⟨_, rfl⟩
    have hr2 : LgRow w2 lb b from_ n r1 base allv used false := by rw [← hw2]; exact RowAt.set hrow 3 (.int .u64 (r1 : Int))
    have hk2 : KeepA (fun x => x = lb) w1 w2 := by rw [← hw2]; exact keep_grown (grown_setCell _ _ _)
    have HR2 := Lib.hid hr2
    have HK2 := Lib.hid hk2
    have HLB := Lib.hid hlb
    have HBW2 : Hid (Below w.heap.size w w2) := by rw [← hw2]; exact hb1.trans (below_of_grown (grown_setCell w1 ⟨lb, 3, none⟩ _) hb1.size (fun g hg => by cases hg; exact hlb))
    have c3 := RowAt.cell hr2 3
    have c4 := RowAt.cell hr2 4
    simp only [List.getElem?_toArray, List.getElem?_cons_zero, List.getElem?_cons_succ] at q3 c3 c4
    clear hb1 hrow hbats hlb hr2 hk2
    by_cases hm : r1 < 4611686018427387904
    rotate_left
    · have hmI : (4611686018427387904 : Int) ≤ (r1 : Int) := by omega
      have HM : Hid (4611686018427387904 ≤ run + 1) := by have := HR1.out; exact (by omega : 4611686018427387904 ≤ run + 1)
      have hmD : decide ((4611686018427387904 : Int) ≤ (r1 : Int)) = true := decide_eq_true hmI
      clear hmI hm
      go_wp2
      go_ret2
      exact .inl ⟨HM.out, HBW2.out, rfl⟩
    · have hmD : decide ((4611686018427387904 : Int) ≤ (r1 : Int)) = false := decide_eq_false (by omega)
      have HM : Hid (run + 1 < 4611686018427387904) := by have := HR1.out; exact (by omega : run + 1 < 4611686018427387904)
      have HL2 : Hid (LgAt w2 (fun x => S x ∨ (w.heap.size ≤ x ∧ x < w2.heap.size)) S lb b D F from_ n r1 base allv used false bs) := by
        refine ⟨HD.out.keep (KeepA.of_below (X := fun _ => False) HBW2.out) (fun _ _ h => h), HR2.out, ?_, fun x hx => .inl hx, .inr ⟨HLB.out, RowAt.lt HR2.out⟩, fun hx => ?_, fun x hx => ?_⟩
        · have h1 := HBT.out.toT.keep HK2.out (fun g hg e => by omega)
          refine h1.mono fun x hx hx2 => ⟨.inr ⟨?_, hx⟩, fun hx3 => ?_, ?_⟩
          · have := HLB.out; omega
          · have := HS.out x hx3; have := HLB.out; omega
          · omega
        · have := HS.out lb hx; have := HLB.out; omega
        · rcases hx with hx | hx
          · exact Nat.lt_of_lt_of_le (HS.out x hx) HBW2.out.size
          · exact hx.2
      have HP := Lib.hid (put_any w2.drew S b D F from_ r1 base (HL2.out.dk.later (drewN_below (Below.refl _ w2) 1)) (fun x hx => HL2.out.lt x (.inl hx)) hf0 (by omega) (by omega) (by have := HRUN.out; omega) hp)
      have hk0 : w2.drew.cell? ⟨lb, 3, none⟩ = some (.int .u64 (r1 : Int)) ∧ w2.drew.cell? ⟨lb, 4, none⟩ = some (.int .u64 (base : Int)) := ⟨c3, c4⟩
      clear hm
      go_wp2
      go_region_held (fun w' => w'.cell? ⟨lb, 3, none⟩ = some (.int .u64 (r1 : Int)) ∧ w'.cell? ⟨lb, 4, none⟩ = some (.int .u64 (base : Int))) (first | assumption) (first
        | (go_simp; go_at_call 55; refine HP.out.mono ?_; rintro e w3 ⟨⟨er, D', rfl, hws, hdk⟩, hk3⟩; have HWS := Lib.hid hws; have HDK := Lib.hid hdk; have HL3 := Lib.hid ((HL2.out.later (drewN_below (Below.refl _ _) 1)).step hdk hk3); have HK3 := Lib.hid hk3; have hk3c : w3.cell? ⟨lb, 3, none⟩ = some (.int .u64 (r1 : Int)) ∧ w3.cell? ⟨lb, 4, none⟩ = some (.int .u64 (base : Int)) := ⟨RowAt.cell HL3.out.row 3, RowAt.cell HL3.out.row 4⟩; clear hws hdk hk3))
      have HKT : Hid (KeepA S w w3) := (KeepA.of_below (below_trans HBW2.out (drewN_below (Below.refl _ w2) 1))).trans HK3.out
      by_cases her : er = 0
      · subst her
        go_wp2
        go_ret2
        refine .inr ⟨HM.out, HKT.out, 0, D', by rw [HR1.out]; exact HWS.out, .inl ⟨rfl, lb, rfl, HLB.out, _, _, _, by rw [HR1.out]; exact HL3.out, fun x hx => ?_⟩⟩
        rcases hx with (hx | hx) | hx
        · exact .inl hx
        · exact .inr hx.1
        · exact .inr (Nat.le_trans HBW2.out.size hx.1)
      · have hb : (er != 0) = true := by simpa using her
        go_wp2
        go_ret2
        refine .inr ⟨HM.out, HKT.out, er, D', by rw [HR1.out]; exact HWS.out, .inr ⟨her, rfl, _, HDK.out, fun x hx => ⟨?_, HL3.out.lt x ?_⟩⟩⟩
        · rcases hx with hx | hx
          · exact .inl hx
          · exact .inr (Nat.le_trans HBW2.out.size hx.1)
        · exact hx.imp (fun h => .inl h) id
end Go.Proofs.Ytagipfkgnobjlaa
namespace Go.Proofs.Ytagipfkgnobjlaa
open Go.RowKit

def markB (run i : Nat) : List UInt8 := lowB run 8 ++ lowB i 4
def padB (p : List UInt8) : List UInt8 := p ++ List.replicate (488 - p.length) 0
def secB (run i : Nat) (p : List UInt8) : List UInt8 := markB run i ++ padB p ++ markB run i
/-- The sectors of a batch. -/
def appB (run i0 : Nat) (all : List UInt8) (k : Nat) : List UInt8 := (List.range k).flatMap fun j => secB run (i0 + j) ((all.drop (j * 488)).take 488)
theorem appB_succ (run i0 : Nat) (all : List UInt8) (k : Nat) : appB run i0 all (k + 1) = appB run i0 all k ++ secB run (i0 + k) ((all.drop (k * 488)).take 488) := by
  unfold appB
  rw [List.range_succ, List.flatMap_append, List.flatMap_singleton]
theorem markB_len (run i : Nat) : (markB run i).length = 12 := by unfold markB; rw [List.length_append, lowB_length, lowB_length]
theorem padB_len {p : List UInt8} (h : p.length ≤ 488) : (padB p).length = 488 := by unfold padB; rw [List.length_append, List.length_replicate]; omega
theorem secB_len (run i : Nat) {p : List UInt8} (h : p.length ≤ 488) : (secB run i p).length = 512 := by unfold secB; rw [List.length_append, List.length_append, markB_len, padB_len h]
theorem appB_len (run i0 : Nat) (all : List UInt8) : ∀ k, (appB run i0 all k).length = k * 512
  | 0 => by simp [appB]
  | k + 1 => by rw [appB_succ, List.length_append, appB_len run i0 all k, secB_len _ _ (by rw [List.length_take]; omega), Nat.succ_mul]
theorem pad_splice {p : List UInt8} {k : Nat} (hk : p.length = k) (h : k ≤ 488) : splice (List.replicate 488 (0 : UInt8)) 0 p = padB p := by
  unfold padB
  have e : List.replicate 488 (0 : UInt8) = List.replicate k 0 ++ List.replicate (488 - k) 0 := by rw [List.replicate_append_replicate]; congr 1; omega
  rw [e, hk]
  exact splice_mid [] (List.replicate k 0) _ p 0 rfl (by rw [hk, List.length_replicate])
theorem rdB_row {w : World} {g : Nat} {t : TypeId} {l : List UInt8} (h : RowAt w g t (l.map bv).toArray) : RdB w (some ⟨g, 0, none⟩) l := .inr ⟨g, 0, rfl, h.lt, fun k hk => by
  rw [Nat.zero_add, h.cell k, List.getElem?_toArray]
  exact List.getElem?_eq_getElem hk⟩
theorem rdB_drop {w : World} {b off : Nat} {l : List UInt8} (h : RdB w (some ⟨b, off, none⟩) l) (k : Nat) : RdB w (some ⟨b, off + k, none⟩) (l.drop k) := by
  have h2 := h.sub k (l.drop k).length
  rwa [List.take_of_length_le (Nat.le_refl _)] at h2
/-- A batch is added to the log in memory. -/
theorem LgAt.push {w w11 w12 : World} {T S : Nat → Prop} {lb d : Nat} {D : DK} {F : Nat} {from_ : Int} {n run base : Nat} {allv v : Value} {used : Nat} {dead : Bool} {bs bs2 : List (List UInt8)} (h : LgAt w T S lb d D F from_ n run base allv used dead bs)
    (hb : Below w.heap.size w w11) (hgr : w11.grownBy w12 allv.ownBlock) (hB : BatsT w12 (fun x => (T x ∨ w.heap.size ≤ x) ∧ ¬ S x ∧ x ≠ lb) v bs2) (u2 : Nat) :
    LgRow w12 lb d from_ n run base allv used dead ∧ LgAt ((w12.setCell ⟨lb, 5, none⟩ v).setCell ⟨lb, 6, none⟩ (.int .i64 (u2 : Int))) (fun x => (T x ∨ w.heap.size ≤ x) ∧ x < w12.heap.size) S lb d D F from_ n run base v u2 dead bs2 ∧
      KeepA T w ((w12.setCell ⟨lb, 5, none⟩ v).setCell ⟨lb, 6, none⟩ (.int .i64 (u2 : Int))) := by
  have hown : ∀ g, allv.ownBlock = some g → T g ∧ ¬ S g ∧ g ≠ lb := by
    obtain ⟨xs, -, -, h0, -⟩ := h.bats
    exact h0
  have hr12 : LgRow w12 lb d from_ n run base allv used dead := RowAt.grown (RowAt.below h.row hb) hgr (fun g hg e => (hown g hg).2.2 e.symm)
  have hk12 : KeepA (fun x => allv.ownBlock = some x) w w12 := (KeepA.of_below hb).trans (keep_grownO hgr)
  have hset : KeepA (fun x => x = lb) w12 ((w12.setCell ⟨lb, 5, none⟩ v).setCell ⟨lb, 6, none⟩ (.int .i64 (u2 : Int))) := ((KeepA.refl (fun x => x = lb) w12).setCell (a := ⟨lb, 5, none⟩) rfl).setCell (a := ⟨lb, 6, none⟩) rfl
  have hsz : ((w12.setCell ⟨lb, 5, none⟩ v).setCell ⟨lb, 6, none⟩ (.int .i64 (u2 : Int))).heap.size = w12.heap.size := by simp [World.setCell]
  refine ⟨hr12, ⟨?_, ?_, ?_, fun x hx => ⟨.inl (h.sub x hx), ?_⟩, ⟨.inl h.lbT, RowAt.lt hr12⟩, h.lbS, fun x hx => by rw [hsz]; exact hx.2⟩, ?_⟩
  · exact (h.dk.keep hk12 (fun x hs e => (hown x e).2.1 hs)).keep hset (fun x hs e => h.lbS (by rw [← e]; exact hs))
  · exact (RowAt.set hr12 5 v).set 6 (.int .i64 (u2 : Int))
  · exact (hB.keep hset (fun g hg => hg.2.2)).mono fun x hx hu => ⟨⟨hu.1, by rw [hsz] at hx; exact hx⟩, hu.2⟩
  · exact Nat.lt_of_lt_of_le (h.lt x (h.sub x hx)) hk12.size
  · exact (hk12.mono fun x e => (hown x e).1).trans (hset.mono fun x e => by rw [e]; exact h.lbT)
/-- How many sectors a batch fills. -/
def secsOf (n : Nat) : Nat := (n + 4 + 487) / 488
set_option maxRecDepth 100000 in
theorem append_nil (w : World) (a : Option Addr) (n c : Nat) : Calls Try.prog 45 #[.pointer none, .slice a n c] w fun e w' => e = .returned (.int .i64 1) ∧ w' = w := by
  have HN := Lib.hid (wnone_nil w)
  go_enter Try.func45, Try.ntmps45
  go_wp2_with fail
  refine HN.out.mono ?_
  rintro _ w1 ⟨rfl, rfl⟩
  go_wp2
  go_ret
  exact ⟨rfl, rfl⟩
set_option maxRecDepth 100000 in
theorem append_full (w : World) (lb d : Nat) (from_ : Int) (n run base : Nat) (allv : Value) (used : Nat) (h : LgRow w lb d from_ n run base allv used false) (hn : n ≤ 65536) (hu : used ≤ 65536) (a : Option Addr) (m c : Nat) (hm : roomOf n used < (m : Int)) : Calls Try.prog 45 #[.pointer (some ⟨lb, 0, none⟩), .slice a m c] w fun e w' => e = .returned (.int .i64 6) ∧ Below w.heap.size w w' := by
  have HN := Lib.hid (wnone_any w lb d from_ n run base _ used false h)
  have HR := Lib.hid (room_any w lb d from_ n run base _ used false h hn hu)
  have h7 := h.cells.2.2.2.2.2.2.2
  obtain ⟨rm, hrm⟩ : ∃ x, roomOf n used = x := ⟨_, rfl⟩
  rw [hrm] at HR hm
  clear h hrm
  go_enter Try.func45, Try.ntmps45
  go_wp2_with fail
  refine HN.out.mono ?_
  rintro _ w1 ⟨rfl, rfl⟩
  go_wp2_with fail
  refine HR.out.mono ?_
  rintro _ w2 ⟨rfl, hb2⟩
  have HB2 := Lib.hid hb2
  clear hb2
  go_wp2
  go_ret
  exact ⟨rfl, HB2.out⟩
set_option maxRecDepth 100000 in
set_option maxHeartbeats 4000000 in
theorem append_anyE (w : World) (T S : Nat → Prop) (lb d : Nat) (D : DK) (F : Nat) (from_ : Int) (n run base : Nat) (allv : Value) (used : Nat) (bs : List (List UInt8)) (h : LgAt w T S lb d D F from_ n run base allv used false bs)
    (hf0 : 0 ≤ from_) (hf1 : from_ + (n : Int) ≤ D.size) (hn4 : 4 ≤ n) (hn : n ≤ 65536) (hu : used ≤ n - 2) (hrun : run < 9223372036854775808) (hp : D.pcs.length ≤ 800000) (hbs : bs.length ≤ 900000)
    (a : Option Addr) (B : List UInt8) (m c : Nat) (hm : m = B.length) (hr : RdB w a B) (hsep : B ≠ [] → ∀ ad, a = some ad → ¬ T ad.block) (hfit : (m : Int) ≤ roomOf n used) :
    Calls Try.prog 45 #[.pointer (some ⟨lb, 0, none⟩), .slice a m c] w fun e w' => (∃ er D', e = .returned (.int .i64 er) ∧ WS F D (from_ + 2 + (used : Int)) (appB run used (lowB m 4 ++ B) (secsOf m)) er D' ∧
      ((er = 0 ∧ LgSome w w' T lb d D' F from_ n run base (used + secsOf m) false (bs ++ [B])) ∨ (er ≠ 0 ∧ LgSome w w' T lb d D' F from_ n run base used true bs))) ∧ KeepA T w w' := by
  have HN := Lib.hid (wnone_any w lb d from_ n run base _ used false h.row)
  have HR := Lib.hid (room_any w lb d from_ n run base _ used false h.row hn (by omega))
  have HL := Lib.hid h
  have h7 := h.row.cells.2.2.2.2.2.2.2
  have hm32 : m ≤ 40000000 := by unfold roomOf at hfit; omega
  obtain ⟨rm, hrm⟩ : ∃ x, roomOf n used = x := ⟨_, rfl⟩
  rw [hrm] at HR
  have hmI : ¬ rm < (m : Int) := by omega
  have HROOM := Lib.hid hfit
  have HLOW := Lib.hid (low_any m 4 (by omega) (by omega))
  have hmw : IntKind.u64.wrap (m : Int) = (m : Int) := IntWalk.u64_in _ ⟨by omega, by omega⟩
  have HRB := Lib.hid hr
  have HM := Lib.hid hm
  obtain ⟨A, hA⟩ : ∃ x, lowB m 4 ++ B = x := ⟨_, rfl⟩
  have hAl : A.length = m + 4 := by rw [← hA, List.length_append, lowB_length, ← hm]; omega
  rw [hA]
  have HA := Lib.hid hA
  have HAL := Lib.hid hAl
  obtain ⟨K, hK⟩ : ∃ x, secsOf m = x := ⟨_, rfl⟩
  rw [hK]
  have hK1 : K * 488 < m + 4 + 488 := by rw [← hK]; unfold secsOf; omega
  have hK2 : m + 4 ≤ K * 488 := by rw [← hK]; unfold secsOf; omega
  have HK1 := Lib.hid hK1
  have HK2 := Lib.hid hK2
  clear h hrm hfit hr hm hA hAl hK hK1 hK2
  go_enter Try.func45, Try.ntmps45
  go_wp2_with fail
  refine HN.out.mono ?_
  rintro _ w1 ⟨rfl, rfl⟩
  go_wp2_with fail
  refine HR.out.mono ?_
  rintro _ w2 ⟨rfl, hb2⟩
  have HB2 := Lib.hid hb2
  clear hb2
  go_wp2_with fail
  refine (HLOW.out w2).mono ?_
  rintro _ w3 ⟨v3, rfl, ho3, hb3⟩
  obtain ⟨a3, c3, rfl, hc3, hr3⟩ := ho3.rd
  have HO3 := Lib.hid ho3
  have HB3 := Lib.hid hb3
  have hl4 : (lowB m 4).length = 4 := lowB_length 4 m
  rw [hl4] at hc3 HO3 ⊢
  have HRB3 := Lib.hid (HRB.out.mono (below_trans HB2.out hb3))
  clear ho3 hr3 hb3 hl4
  go_wp2_with (at_builtin; refine step_appendB rfl (.tmp 29) (.tmp 30) rfl eltB w2.heap.size _ (lowB m 4) rfl _ _ _ B rfl HO3.out HM.out HRB3.out (by rw [lowB_length, ← HM.out]; omega) HB3.out.size ?_; intro v4 W4 h1 h2; rw [HA.out] at h1; have HO4 := Lib.hid h1; have HB4 := Lib.hid (below_trans HB2.out (HB3.out.trans h2)); have HL4 := Lib.hid (HL.out.later HB4.out); have c6 := HL4.out.row.cells.2.2.2.2.2.2.1; clear h1 h2)
  obtain ⟨a4, cp4, rfl, hcp4, hr4⟩ := HO4.out.rd
  have HR4 := Lib.hid hr4
  rw [HAL.out] at hcp4 HO4 ⊢
  clear hr4
  go_wp2
  go_loopw [5, 6, 7] (fun v o i wr => ∃ j : Nat, j ≤ K ∧ i = .int .i64 ((used + j : Nat) : Int) ∧ (∃ av rl cv, v = .slice av rl cv ∧ rl = m + 4 - j * 488 ∧ rl ≤ cv ∧ RdB W4 av (A.drop (j * 488))) ∧ OwnB wr W4.heap.size 5 o (appB run used A j) ∧ Below W4.heap.size W4 wr) (fun _ _ i _ => used + K - (intOf i).toNat)
  case atStart => exact ⟨0, by omega, rfl, ⟨_, _, _, rfl, by omega, hcp4, by simpa using HR4.out⟩, OwnB.nil _ _ _, Below.refl _ _⟩
  case round =>
    obtain ⟨j, hj, rfl, ⟨av, rl, cv, rfl, hrl, hrc, hrv⟩, hown, hbr⟩ := hrel
    have HOWN := Lib.hid hown
    have HBR := Lib.hid hbr
    have HRL := Lib.hid hrl
    have HK1' := HK1.out
    have HK2' := HK2.out
    have hKb : K ≤ 100000 := by omega
    by_cases hjk : j < K
    · have hrlp : 0 < rl := by omega
      have hrlI : (0 : Int) < (rl : Int) := by omega
      have hrvl : (A.drop (j * 488)).length = rl := by rw [List.length_drop, HAL.out, hrl]
      obtain ⟨ab, ao, rfl, -, -⟩ := hrv.at (by omega)
      obtain ⟨mn, hmn⟩ : ∃ x, min rl 488 = x := ⟨_, rfl⟩
      have hmn1 : mn ≤ rl := by omega
      have hmn2 : mn ≤ 488 := by omega
      have hmn0 : 0 < mn := by omega
      have HMN := Lib.hid hmn
      obtain ⟨SV, hSV⟩ : ∃ x, ((A.drop (j * 488)).take 488).map bv = x := ⟨_, rfl⟩
      have hSVl : SV.length = mn := by rw [← hSV, List.length_map, List.length_take, hrvl]; omega
      have HSV1 : Hid (∀ v ∈ SV, v.oneCell' = true) := by rw [← hSV]; exact bv_one _
      have HSV := Lib.hid hSV
      have HRV4 := Lib.hid hrv
      have HRV := Lib.hid (hrv.mono hbr)
      have HRVL := Lib.hid hrvl
      have hcvI : (mn : Int) ≤ (cv : Int) := by omega
      have hrlI2 : (mn : Int) ≤ (rl : Int) := by omega
      obtain ⟨g, hg⟩ : ∃ x, wr.heap.size = x := ⟨_, rfl⟩
      have HLW8 := Lib.hid (low_any run 8 (by omega) (by omega))
      have HLW4 := Lib.hid (low_any (used + j) 4 (by omega) (by omega))
      have hiw : IntKind.u64.wrap ((used : Int) + (j : Int)) = ((used + j : Nat) : Int) := by rw [IntWalk.u64_in _ ⟨by omega, by omega⟩]; omega
      have hcj : ((used + j : Nat) : Int) = (used : Int) + (j : Int) := by omega
      obtain ⟨Z, hZ⟩ : ∃ x, (List.replicate 488 (0 : UInt8)).map bv = x := ⟨_, rfl⟩
      have hZl : Z.length = 488 := by rw [← hZ]; simp
      have HZ := Lib.hid hZ
      clear hown hbr hrl hrv hrvl hSV hZ hmn HK1' HK2'
      have HSRC : Hid (∀ w5, Below g wr w5 → 0 < SV.length → ∃ ad, (some (⟨ab, ao, none⟩ : Addr)) = some ad ∧ ∀ j v, SV[j]? = some v → w5.cell? (ad.add j) = some v) := fun w5 hb => rd_src (l := (A.drop (j * 488)).take 488) (by have := (HRV.out.mono (hg ▸ hb)).sub 0 488; simpa using this) HSV.out
      go_wp2_with (first
        | (refine wpList_copy_splice rfl (.tmp 43) (.tmp 44) 22 22 rfl 5 Try.underlying22 (by kernel_rfl) _ _ _ _ _ _ rfl rfl g 0 Z 5 HR5.out SV (by rw [hSVl, ← HMN.out]) (fun h => ⟨rfl, HSRC.out _ HB5.out h⟩) (by omega) HSV1.out g wr HB5.out (Nat.le_refl _) ?_; rw [hSVl]; intro w6 q1 q2; have HR6 := Lib.hid q1.out; have HB6 := Lib.hid q2; have hb46 : Below W4.heap.size W4 w6 := HBR.out.trans (q2.mono (hg ▸ HBR.out.size)); have HB46 := Lib.hid hb46; have c3 := (HL4.out.later hb46).row.cells.2.2.2.1; clear q1 q2 hb46)
        | (refine step_makeB rfl (.const (.int .i64 488)) (.const (.int .i64 488)) rfl 488 rfl rfl (by omega) ?_; rw [hg]; intro w5 q1 q2; rw [HZ.out] at q1; have HB5 := Lib.hid q2; have HR5 : Hid (w5.heap[g]? = some (.cells Z.toArray 5 (0, 0))) := q1; clear q1 q2))
      all_goals
        refine (HLW8.out w6).mono ?_
        rintro _ w7 ⟨v7, rfl, ho7, hb7⟩
        obtain ⟨a7, c7, rfl, hc7, hr7⟩ := ho7.rd
        have HO7 := Lib.hid ho7
        have HB7 := Lib.hid hb7
        rw [lowB_length] at hc7 HO7 ⊢
        clear ho7 hr7 hb7
        go_wp2_with fail
        refine (HLW4.out w7).mono ?_
        rintro _ w8 ⟨v8, rfl, ho8, hb8⟩
        obtain ⟨a8, c8, rfl, hc8, hr8⟩ := ho8.rd
        have HO8 := Lib.hid ho8
        have HB8 := Lib.hid hb8
        have HR8 := Lib.hid hr8
        rw [lowB_length] at hc8 HO8 ⊢
        clear ho8 hr8 hb8
        have hgw6 : g < w6.heap.size := (Array.getElem?_eq_some_iff.1 HR6.out).1
        have hu6 : ∀ k v, OwnB wr W4.heap.size 5 v (appB run used A j) → v.ownBlock = some k → k < g := fun k v hv hk => by rw [← hg]; exact (World.ownsRow.lt hv k hk).2
        have HU6 := Lib.hid hu6
        clear hu6
        have HPAD : Hid (splice Z 0 SV = (padB ((A.drop (j * 488)).take 488)).map bv) := by
          show _ = _
          rw [← HZ.out, ← HSV.out, splice_map, pad_splice (k := mn) (by rw [List.length_take, HRVL.out, ← HMN.out]; omega) hmn2]
        go_wp2_with (first
          | (at_builtin; refine step_appendB rfl (.tmp 51) (.tmp 54) rfl eltB w6.heap.size _ (lowB run 8) rfl _ _ _ (lowB (used + j) 4) rfl (HO7.out.kept HB8.out (Nat.le_refl _)) (by rw [lowB_length]) HR8.out (by rw [lowB_length, lowB_length]; omega) (Nat.le_trans HB7.out.size HB8.out.size) ?_; intro v9 w9 h1 h2; obtain ⟨a9, c9, rfl, hc9, hr9⟩ := h1.rd; have hl9 : (lowB run 8 ++ lowB (used + j) 4).length = 12 := markB_len run (used + j); obtain ⟨mb, mo, rfl, hmb1, -⟩ := hr9.at (by rw [hl9]; omega); have hmb := World.ownsRow.lt h1 mb rfl; have HO9 := Lib.hid h1; have HR9 : Hid (RdB w9 (some ⟨mb, mo, none⟩) (markB run (used + j))) := hr9; rw [hl9] at hc9 HO9 ⊢; have HBM : Hid (Below w6.heap.size w6 w9) := (HB7.out.trans (HB8.out.mono HB7.out.size)).trans h2; have HBG : Hid (Below g wr w9) := HB6.out.trans (HBM.out.mono (Nat.le_of_lt hgw6)); have HOUT9 : Hid (∀ v, OwnB wr W4.heap.size 5 v (appB run used A j) → OwnB w9 W4.heap.size 5 v (appB run used A j)) := fun v hv => hv.kept HBG.out (Nat.le_of_eq hg); have HRG9 : Hid (RowAt w9 g 5 (splice Z 0 SV).toArray) := (HBM.out.block g hgw6).trans HR6.out; have HB49 : Hid (Below W4.heap.size W4 w9) := HB46.out.trans (HBM.out.mono HB46.out.size); clear h1 h2 hr9 hmb1)
          | (at_builtin; have h00 := HOUT9.out _ HOWN.out; refine step_appendO rfl (.tmp 56) (.tmp 57) rfl eltB W4.heap.size _ (appB run used A j) rfl _ _ _ (markB run (used + j)) rfl h00 (by rw [markB_len]) HR9.out (by rw [markB_len, appB_len]; omega) HB49.out.size ?_; clear h00; intro v10 w10 h1 h2; have hs0 := HU6.out; have HO10 := Lib.hid h1; have HRG10 : Hid (RowAt w10 g 5 (splice Z 0 SV).toArray) := HRG9.out.onto h2 (fun e => Nat.lt_irrefl _ (hs0 g _ HOWN.out e)); have HS10 : Hid (v10.ownBlock ≠ some mb) := h2.sep hmb.2 (fun e => by have := hs0 mb _ HOWN.out e; omega); have HM10 : Hid (RdB w10 (some ⟨mb, mo, none⟩) (markB run (used + j))) := Rd.keepA HR9.out (keep_grownO h2.grown) (fun bb off he _ e => by cases he; have := hs0 mb _ HOWN.out e; omega); have HB10 : Hid (Below W4.heap.size W4 w10) := HB49.out.trans (h2.down (HOUT9.out _ HOWN.out) HB49.out.size); have HGS10 : Hid (mb < w10.heap.size) := Nat.lt_of_lt_of_le hmb.2 h2.grown.size; clear h1 h2 hs0)
          | (at_builtin; refine step_appendO rfl (.tmp 58) (.tmp 59) rfl eltB W4.heap.size _ (appB run used A j ++ markB run (used + j)) rfl _ _ _ (padB ((A.drop (j * 488)).take 488)) rfl HO10.out (by rw [padB_len (by rw [List.length_take]; omega)]) (rdB_row (by rw [← HPAD.out]; exact HRG10.out)) (by rw [List.length_append, markB_len, appB_len, padB_len (by rw [List.length_take]; omega)]; omega) HB10.out.size ?_; intro v11 w11 h1 h2; have HO11 := Lib.hid h1; have HM11 : Hid (RdB w11 (some ⟨mb, mo, none⟩) (markB run (used + j))) := Rd.keepA HM10.out (keep_grownO h2.grown) (fun bb off he _ e => by cases he; exact HS10.out e); have HB11 : Hid (Below W4.heap.size W4 w11) := HB10.out.trans (h2.down HO10.out HB10.out.size); clear h1 h2)
          | (at_builtin; refine step_appendO rfl (.tmp 60) (.tmp 61) rfl eltB W4.heap.size _ (appB run used A j ++ markB run (used + j) ++ padB ((A.drop (j * 488)).take 488)) rfl _ _ _ (markB run (used + j)) rfl HO11.out (by rw [markB_len]) HM11.out (by rw [List.length_append, List.length_append, markB_len, appB_len, padB_len (by rw [List.length_take]; omega)]; omega) HB11.out.size ?_; intro v12 w12 h1 h2; have HO12 := Lib.hid h1; have HB12 : Hid (Below W4.heap.size W4 w12) := HB11.out.trans (h2.down HO11.out HB11.out.size); clear h1 h2))
        refine ⟨⟨j + 1, by omega, by congr 1, ⟨_, _, _, rfl, by have := HRL.out; have := HMN.out; omega, by omega, ?_⟩, ?_, HB12.out⟩, by simp [intOf]; omega⟩
        · by_cases hz : rl - mn = 0
          · refine .inl ?_
            rw [List.drop_of_length_le (by have := HRL.out; have := HMN.out; rw [HAL.out]; omega)]
            rfl
          · have h488 : mn = 488 := by have := HMN.out; omega
            first
              | (have h := rdB_drop HRV4.out 488
                 rw [List.drop_drop, show j * 488 + 488 = (j + 1) * 488 from by omega] at h
                 rw [h488]
                 exact h)
              | omega
        · have h := HO12.out
          rw [appB_succ]
          unfold secB
          simpa only [List.append_assoc] using h
    · have hjk2 : j = K := by omega
      subst hjk2
      have hrl0 : rl = 0 := by omega
      subst hrl0
      obtain ⟨oa, oc, ho2, hoc, hro⟩ := hown.rd
      rw [appB_len] at ho2 hoc
      subst ho2
      have hfit := HROOM.out
      unfold roomOf at hfit
      have hjn : j ≤ n - 2 - used := by omega
      have hsepO : ∀ ad, oa = some ad → ¬ S ad.block := fun ad he hs => by
        subst he
        have h1 := (World.ownsRow.lt hown ad.block rfl).1
        have h2 := HL4.out.lt _ (HL4.out.sub _ hs)
        omega
      have HL5 := Lib.hid (HL4.out.later hbr)
      have HB5 := Lib.hid (below_trans HB4.out hbr)
      have HB5d : Hid (Below wr.heap.size wr wr.drew) := drewN_below (Below.refl _ wr) 1
      have e1 : IntKind.i64.wrap (from_ + 2) = from_ + 2 := IntWalk.i64_in _ (by have := (HL4.out.dk.sizes).2; omega)
      have e2 : IntKind.i64.wrap (from_ + 2 + (used : Int)) = from_ + 2 + (used : Int) := IntWalk.i64_in _ (by have := (HL4.out.dk.sizes).2; omega)
      obtain ⟨O, hO⟩ : ∃ x, appB run used A j = x := ⟨_, rfl⟩
      have hOl : O.length = j * 512 := by rw [← hO]; exact appB_len _ _ _ _
      have hO5 : O.length / 512 = j := by rw [hOl]; omega
      rw [hO] at hro
      have HOE := Lib.hid hO
      have HRO := Lib.hid hro
      have HOL := Lib.hid hOl
      have HO5 := Lib.hid hO5
      have HWR := Lib.hid (write_s wr.drew S d D F (from_ + 2 + (used : Int)) oa O (j * 512) oc (HL5.out.dk.later HB5d.out) hOl.symm hoc (hro.mono HB5d.out) (fun _ => hsepO) (by rw [hO5]; omega) (by rw [hOl]; omega))
      have hk0 : wr.drew.cell? ⟨lb, 0, none⟩ = some (.pointer (some ⟨d, 0, none⟩)) ∧ wr.drew.cell? ⟨lb, 1, none⟩ = some (.int .i64 from_) ∧ wr.drew.cell? ⟨lb, 6, none⟩ = some (.int .i64 (used : Int)) := ⟨HL5.out.row.cells.1, HL5.out.row.cells.2.1, HL5.out.row.cells.2.2.2.2.2.2.1⟩
      obtain ⟨nb, hnb⟩ : ∃ x, j * 512 = x := ⟨_, rfl⟩
      rw [hnb] at HWR hoc ⊢
      clear hown hbr hrv HK1' HK2' hfit hsepO hO hOl hO5 hro hnb hrl
      go_wp2
      go_region_held (fun w' => w'.cell? ⟨lb, 0, none⟩ = some (.pointer (some ⟨d, 0, none⟩)) ∧ w'.cell? ⟨lb, 1, none⟩ = some (.int .i64 from_) ∧ w'.cell? ⟨lb, 6, none⟩ = some (.int .i64 (used : Int))) (first | assumption) (first
        | (go_simp; go_at_call 60; refine (dies_any w6 lb d from_ n run base allv used false er HL6.out.row).mono ?_; rintro e w7 ⟨rfl, hr7, hk7⟩; have HL7 := Lib.hid (HL6.out.setRow hr7 hk7); have HK7 := Lib.hid hk7; have hk7c : w7.cell? ⟨lb, 0, none⟩ = some (.pointer (some ⟨d, 0, none⟩)) ∧ w7.cell? ⟨lb, 1, none⟩ = some (.int .i64 from_) ∧ w7.cell? ⟨lb, 6, none⟩ = some (.int .i64 (used : Int)) := ⟨RowAt.cell hr7 0, RowAt.cell hr7 1, RowAt.cell hr7 6⟩; clear hr7 hk7)
        | (go_simp; go_at_call 6; refine HWR.out.mono ?_; rintro e w6 ⟨⟨kk, er, r1, r2, r3, r4, rfl, hdk⟩, hk6⟩; have HW1 := Lib.hid r1; have HW3 := Lib.hid r3; have HW4 := Lib.hid r4; have HL6 := Lib.hid ((HL5.out.later HB5d.out).step hdk hk6); have HK6 := Lib.hid hk6; have hk6c : w6.cell? ⟨lb, 0, none⟩ = some (.pointer (some ⟨d, 0, none⟩)) ∧ w6.cell? ⟨lb, 1, none⟩ = some (.int .i64 from_) ∧ w6.cell? ⟨lb, 6, none⟩ = some (.int .i64 (used : Int)) := ⟨RowAt.cell HL6.out.row 0, RowAt.cell HL6.out.row 1, RowAt.cell HL6.out.row 6⟩; clear r1 r2 r3 r4 hdk hk6))
      have HKT7 : Hid (KeepA T w1 w7) := ((KeepA.of_below (below_trans HB5.out HB5d.out)).trans (HK6.out.mono HL.out.sub)).trans (HK7.out.mono fun x e => by rw [e]; exact HL.out.lbT)
      have HTS7 : Hid (∀ x, Plus T (Span wr.drew w6) x → T x ∨ w1.heap.size ≤ x) := fun x hx => hx.imp id fun h => Nat.le_trans (below_trans HB5.out HB5d.out).size h.1
      have HRNG : Hid (O.length % 512 = 0 ∧ 0 ≤ from_ + 2 + (used : Int) ∧ from_ + 2 + (used : Int) + ((O.length / 512 : Nat) : Int) ≤ D.size) := ⟨by rw [HOL.out]; omega, by omega, by rw [HO5.out]; omega⟩
      have hfine := HW4.out HRNG.out.1 HRNG.out.2.1 HRNG.out.2.2
      by_cases her : er = 0
      rotate_left
      · have her5 : er = 5 := hfine.elim (fun h => absurd h.1 her) id
        subst her5
        have HWS : Hid (WS F D (from_ + 2 + (used : Int)) O 5 ⟨D.size, D.last, D.pcs ++ wps (from_ + 2 + (used : Int)) O kk⟩) := ws_write HW1.out (fun hF => her (HW3.out hF HRNG.out.1 HRNG.out.2.1 HRNG.out.2.2).2)
        clear her hfine
        go_wp2
        go_ret
        exact ⟨⟨5, _, rfl, by rw [HOE.out]; exact HWS.out, .inr ⟨by decide, _, _, _, HL7.out, HTS7.out⟩⟩, HKT7.out⟩
      subst her
      have hkk : kk = O.length / 512 := hfine.elim (fun h => h.2) (fun h => by cases h)
      subst hkk
      have c0 := HL7.out.row.cells.1
      have HSY := Lib.hid (sync_s w7 (Plus S (Span wr.drew w6)) d ⟨D.size, D.last, D.pcs ++ wps (from_ + 2 + (used : Int)) O (O.length / 512)⟩ F HL7.out.dk (by show (D.pcs ++ wps _ _ _).length ≤ _; rw [List.length_append, wps_len, HO5.out]; omega))
      clear hfine hk7c
      go_wp2_with fail
      refine HSY.out.mono ?_
      rintro _ w8 ⟨⟨k2, s1, er2, s2, s3, rfl, hdk8⟩, hk8⟩
      have HL8 := Lib.hid (HL7.out.step hdk8 hk8)
      have HK8 := Lib.hid hk8
      have HS1 := Lib.hid s1
      have HS2 := Lib.hid s2
      have HS3 := Lib.hid s3
      clear s1 s2 s3 hdk8 hk8
      go_wp2_with fail
      refine (dies_any w8 lb d from_ n run base allv used _ er2 HL8.out.row).mono ?_
      rintro _ w9 ⟨rfl, hr9, hk9⟩
      have HL9 := Lib.hid (HL8.out.setRow hr9 hk9)
      have HK9 := Lib.hid hk9
      clear hr9 hk9
      have HKT9 : Hid (KeepA T w1 w9) := (HKT7.out.trans2 HK8.out (fun x hx e => e.elim (HL.out.sub x) (fun e => by have := e.1; have h2 := (below_trans HB5.out HB5d.out).size; omega))).trans (HK9.out.mono fun x e => by rw [e]; exact HL.out.lbT)
      have HTS9 : Hid (∀ x, Plus (Plus T (Span wr.drew w6)) (Span w7 w8) x → T x ∨ w1.heap.size ≤ x) := fun x hx => hx.elim (HTS7.out x) fun h => .inr (Nat.le_trans HKT7.out.size h.1)
      have HWS : Hid (WS F D (from_ + 2 + (used : Int)) O er2 ⟨D.size, laid D.last ((D.pcs ++ wps (from_ + 2 + (used : Int)) O (O.length / 512)).take k2), (D.pcs ++ wps (from_ + 2 + (used : Int)) O (O.length / 512)).drop k2⟩) :=
        ws_sync (by have h := HS1.out; rw [List.length_append, wps_len] at h; exact h) (fun hF => (HS2.out hF).2) (by have h := HS3.out; rw [List.length_append, wps_len] at h; exact h)
      by_cases her2 : er2 = 0
      rotate_left
      · have hb : (er2 != 0) = true := by simpa using her2
        have hd2 : ((false || (0 : Int) != 0) || er2 != 0) = true := by rw [hb, Bool.or_true]
        rw [hd2] at HL9
        clear hd2
        go_wp2
        go_ret
        exact ⟨⟨er2, _, rfl, by rw [HOE.out]; exact HWS.out, .inr ⟨her2, _, _, _, HL9.out, HTS9.out⟩⟩, HKT9.out⟩
      subst her2
      have HL9' : Hid (LgAt w9 (Plus (Plus T (Span wr.drew w6)) (Span w7 w8)) (Plus (Plus S (Span wr.drew w6)) (Span w7 w8)) lb d ⟨D.size, laid D.last ((D.pcs ++ wps (from_ + 2 + (used : Int)) O (O.length / 512)).take k2), (D.pcs ++ wps (from_ + 2 + (used : Int)) O (O.length / 512)).drop k2⟩ F from_ n run base allv used false bs) := HL9.out
      have HBd : Hid (Below w9.heap.size w9 w9.drew) := drewN_below (Below.refl _ w9) 1
      have hrb9 : RdB w9.drew a B := by
        by_cases hB0 : B = []
        · exact .inl (by rw [hB0]; rfl)
        · exact (Rd.keepA HRB.out HKT9.out (fun b off he _ => hsep hB0 _ he)).mono HBd.out
      have HRB9 := Lib.hid hrb9
      clear hrb9
      have HCL := Lib.hid (clone_any a B m c w9.drew HM.out (by omega) HRB9.out)
      have hq5 := HL9'.out.row.cells.2.2.2.2.2.1
      have q5 : w9.drew.cell? ⟨lb, 5, none⟩ = some allv := hq5
      clear hq5 hsep
      go_wp2
      refine wp_region_held_drew (S := fun _ => True) (by kernel_rfl) trivial (fun hHeld => ?_)
      refine wpAnyH_take (i := 0) (v := ?_) rfl (by kernel_rfl) (by kernel_rfl) (by kernel_rfl) (fun _ _ _ h => h) (Or.inl ⟨by rfl, ?_⟩) hHeld ?_
      rotate_left
      · intro w' hS'
        (try dsimp only at hS')
        go_simp
        try with_reducible rfl
      try simp only [List.getElem_toArray, List.getElem_cons_succ, List.getElem_cons_zero, Act.put, List.setIfInBounds_toArray, List.set_cons_zero, List.set_cons_succ]
      refine wpAnyH_take (i := 1) (v := ?_) rfl (by kernel_rfl) (by kernel_rfl) (by kernel_rfl) (fun _ _ _ h => h) (Or.inl ⟨by rfl, ?_⟩) hHeld ?_
      rotate_left
      · intro w' hS'
        (try dsimp only at hS')
        go_simp
        try with_reducible rfl
      try simp only [List.getElem_toArray, List.getElem_cons_succ, List.getElem_cons_zero, Act.put, List.setIfInBounds_toArray, List.set_cons_zero, List.set_cons_succ]
      refine wpAnyH_take (i := 2) (v := ?_) rfl (by kernel_rfl) (by kernel_rfl) (by kernel_rfl) (fun _ _ _ h => h) (Or.inl ⟨by rfl, ?_⟩) hHeld ?_
      rotate_left
      · intro w' hS'
        (try dsimp only at hS')
        go_simp
        try with_reducible rfl
      try simp only [List.getElem_toArray, List.getElem_cons_succ, List.getElem_cons_zero, Act.put, List.setIfInBounds_toArray, List.set_cons_zero, List.set_cons_succ]
      refine wpAnyH_take (i := 3) (v := ?_) rfl (by kernel_rfl) (by kernel_rfl) (by kernel_rfl) (fun _ _ _ h => h) (Or.inl ⟨by rfl, ?_⟩) hHeld ?_
      rotate_left
      · intro w' hS'
        (try dsimp only at hS')
        go_simp
        try with_reducible rfl
      try simp only [List.getElem_toArray, List.getElem_cons_succ, List.getElem_cons_zero, Act.put, List.setIfInBounds_toArray, List.set_cons_zero, List.set_cons_succ]
      refine wpAnyH_take (i := 5) (v := ?_) rfl (by kernel_rfl) (by kernel_rfl) (by kernel_rfl) (fun _ _ _ h => h) (Or.inl ⟨by rfl, ?_⟩) hHeld ?_
      rotate_left
      · intro w' hS'
        (try dsimp only at hS')
        go_simp
        try with_reducible rfl
      try simp only [List.getElem_toArray, List.getElem_cons_succ, List.getElem_cons_zero, Act.put, List.setIfInBounds_toArray, List.set_cons_zero, List.set_cons_succ]
      refine wpAnyH_ready (rs := [4, 6]) (by kernel_rfl) (by simp) (AllReadyH.cons rfl (fun K hK => ?_) (AllReadyH.cons rfl (fun K hK => ?_) AllReadyH.nil))
      · go_simp
        refine hK.out _ _ trivial (fun hHeld => ?_)
        try simp only [List.getElem_toArray, List.getElem_cons_succ, List.getElem_cons_zero, Act.put, List.setIfInBounds_toArray, List.set_cons_zero, List.set_cons_succ]
        clear hK K
        refine wpAnyH_ready (rs := [6]) (by kernel_rfl) (by simp) (AllReadyH.cons rfl (fun K hK => ?_) AllReadyH.nil)
        go_simp
        go_wp2_with (go_at_call 40; refine HCL.out.mono ?_; rintro e w10 ⟨v10, rfl, ho10, hb10⟩; obtain ⟨ca, cc, rfl, hcc, hr10⟩ := ho10.rd; have HO10 := Lib.hid ho10; have HB10 := Lib.hid (below_trans HBd.out hb10); have HR10 := Lib.hid hr10; have HCS : Hid (∀ ad, ca = some ad → w9.heap.size ≤ ad.block ∧ ad.block < w10.heap.size) := (fun ad he => by subst he; exact World.ownsRow.lt ho10 ad.block rfl); have hq5b := (HL9'.out.later (below_trans HBd.out hb10)).row.cells.2.2.2.2.2.1; rw [← HM.out] at HO10 ⊢; clear ho10 hb10 hr10 hcc)
        refine hK.out _ _ trivial (fun hHeld => ?_)
        try simp only [List.getElem_toArray, List.getElem_cons_succ, List.getElem_cons_zero, Act.put, List.setIfInBounds_toArray, List.set_cons_zero, List.set_cons_succ]
        clear hK K
        refine wpAnyH_ready (rs := [7]) (by kernel_rfl) (by simp) (AllReadyH.cons rfl (fun K hK => ?_) AllReadyH.nil)
        go_simp
        obtain ⟨w11, hw11⟩ : ∃ y, w10.alloc (.cells #[.slice ca m cc] 22) = y := ⟨_, rfl⟩
        have hb11 : Below w10.heap.size w10 w11 := by rw [← hw11]; exact below_alloc _
        have HB11 : Hid (Below w9.heap.size w9 w11) := below_trans HB10.out hb11
        have HR11 : Hid (RowAt w11 w10.heap.size 22 #[.slice ca B.length cc]) := by rw [← hw11, ← HM.out]; exact RowAt.new _ _ _
        have HRD11 := Lib.hid (HR10.out.mono hb11)
        have HS11 : Hid (w10.heap.size ≤ w11.heap.size) := hb11.size
        try rw [hw11]
        clear hb11 hw11
        refine hK.out _ _ trivial (fun hHeld => ?_)
        try simp only [List.getElem_toArray, List.getElem_cons_succ, List.getElem_cons_zero, Act.put, List.setIfInBounds_toArray, List.set_cons_zero, List.set_cons_succ]
        clear hK K
        refine wpAnyH_ready (rs := [8]) (by kernel_rfl) (by simp) (AllReadyH.cons rfl (fun K hK => ?_) AllReadyH.nil)
        rw [if_pos (by rfl)]
        refine wp_pushT (.tmp 98) (.tmp 101) rfl _ (fun x => (Plus (Plus T (Span wr.drew w6)) (Span w7 w8) x ∨ w9.heap.size ≤ x) ∧ ¬ Plus (Plus S (Span wr.drew w6)) (Span w7 w8) x ∧ x ≠ lb) allv bs rfl w10.heap.size ca B cc rfl (HL9'.out.later HB11.out).bats HR11.out HRD11.out (fun ad he => ?_) (by omega) (fun x hx => ⟨.inl hx.1, hx.2⟩) (fun x hx => ?_) ?_
        · obtain ⟨h1, h2⟩ := HCS.out ad he
          refine ⟨⟨.inr h1, fun e => ?_, fun e => ?_⟩, Nat.lt_of_lt_of_le h2 HS11.out, fun e => ?_⟩
          · exact absurd (HL9'.out.lt _ (HL9'.out.sub _ e)) (by omega)
          · exact absurd (HL9'.out.lt _ HL9'.out.lbT) (by omega)
          · exact absurd (HL9'.out.bats.toB.lt _ e).2 (by omega)
        · have h1 := HB11.out.size
          refine ⟨.inr (by omega), fun e => ?_, fun e => ?_⟩
          · exact absurd (HL9'.out.lt _ (HL9'.out.sub _ e)) (by omega)
          · exact absurd (HL9'.out.lt _ HL9'.out.lbT) (by omega)
        · intro v12 w12 k1 k2 k3
          obtain ⟨va, vn, vc, rfl⟩ := k1.toB.sl
          obtain ⟨hr12, hL14, hK14⟩ := HL9'.out.push HB11.out k2 k1 (used + j)
          have HL14 := Lib.hid hL14
          have HK14 := Lib.hid hK14
          have y5 := hr12.cells.2.2.2.2.2.1
          have z5 := RowAt.frozen hr12 5
          have hr13 := RowAt.set hr12 5 (.slice va vn vc)
          have y6 := RowAt.cell hr13 6
          have z6 := RowAt.frozen hr13 6
          have y6' : (w12.setCell ⟨lb, 5, none⟩ (.slice va vn vc)).cell? ⟨lb, 6, none⟩ = some (.int .i64 (used : Int)) := y6
          have hcj2 : ((used + j : Nat) : Int) = (used : Int) + (j : Int) := by omega
          rw [hcj2] at HL14 HK14
          clear hr12 hL14 hK14 k1 k2 k3 hr13 y6
          refine hK.out _ _ trivial (fun hHeld => ?_)
          try simp only [List.getElem_toArray, List.getElem_cons_succ, List.getElem_cons_zero, Act.put, List.setIfInBounds_toArray, List.set_cons_zero, List.set_cons_succ]
          clear hK K
          refine wpAnyH_take (i := 9) (v := ?_) rfl (by kernel_rfl) (by kernel_rfl) (by kernel_rfl) (fun _ _ _ h => h) (Or.inl ⟨by rfl, ?_⟩) hHeld ?_
          rotate_left
          · intro w' hS'
            (try dsimp only at hS')
            go_simp
            try with_reducible rfl
          try simp only [List.getElem_toArray, List.getElem_cons_succ, List.getElem_cons_zero, Act.put, List.setIfInBounds_toArray, List.set_cons_zero, List.set_cons_succ]
          refine wpAnyH_take (i := 10) (v := ?_) rfl (by kernel_rfl) (by kernel_rfl) (by kernel_rfl) (fun _ _ _ h => h) (Or.inl ⟨by rfl, ?_⟩) hHeld ?_
          rotate_left
          · intro w' hS'
            (try dsimp only at hS')
            go_simp
            try with_reducible rfl
          try simp only [List.getElem_toArray, List.getElem_cons_succ, List.getElem_cons_zero, Act.put, List.setIfInBounds_toArray, List.set_cons_zero, List.set_cons_succ]
          refine wpAnyH_ready (rs := [11]) (by kernel_rfl) (by simp) (AllReadyH.cons rfl (fun K hK => ?_) AllReadyH.nil)
          go_simp
          refine hK.out _ _ trivial (fun hHeld => ?_)
          try simp only [List.getElem_toArray, List.getElem_cons_succ, List.getElem_cons_zero, Act.put, List.setIfInBounds_toArray, List.set_cons_zero, List.set_cons_succ]
          clear hK K
          refine wpAnyH_done (by kernel_rfl) ?_ _
          go_wp2
          go_ret
          refine ⟨⟨0, _, rfl, by rw [HOE.out]; exact HWS.out, .inl ⟨rfl, _, _, _, HL14.out, fun x hx => ?_⟩⟩, ?_⟩
          · exact hx.1.elim (HTS9.out x) (fun h => .inr (Nat.le_trans HKT9.out.size h))
          · exact HKT9.out.trans2 HK14.out (fun x hx e => (HTS9.out x e).resolve_right (by omega))
      · go_simp
        go_wp2_with (go_at_call 40; refine HCL.out.mono ?_; rintro e w10 ⟨v10, rfl, ho10, hb10⟩; obtain ⟨ca, cc, rfl, hcc, hr10⟩ := ho10.rd; have HO10 := Lib.hid ho10; have HB10 := Lib.hid (below_trans HBd.out hb10); have HR10 := Lib.hid hr10; have HCS : Hid (∀ ad, ca = some ad → w9.heap.size ≤ ad.block ∧ ad.block < w10.heap.size) := (fun ad he => by subst he; exact World.ownsRow.lt ho10 ad.block rfl); have hq5b := (HL9'.out.later (below_trans HBd.out hb10)).row.cells.2.2.2.2.2.1; rw [← HM.out] at HO10 ⊢; clear ho10 hb10 hr10 hcc)
        refine hK.out _ _ trivial (fun hHeld => ?_)
        try simp only [List.getElem_toArray, List.getElem_cons_succ, List.getElem_cons_zero, Act.put, List.setIfInBounds_toArray, List.set_cons_zero, List.set_cons_succ]
        clear hK K
        refine wpAnyH_ready (rs := [4, 7]) (by kernel_rfl) (by simp) (AllReadyH.cons rfl (fun K hK => ?_) (AllReadyH.cons rfl (fun K hK => ?_) AllReadyH.nil))
        · go_simp
          refine hK.out _ _ trivial (fun hHeld => ?_)
          try simp only [List.getElem_toArray, List.getElem_cons_succ, List.getElem_cons_zero, Act.put, List.setIfInBounds_toArray, List.set_cons_zero, List.set_cons_succ]
          clear hK K
          refine wpAnyH_ready (rs := [7]) (by kernel_rfl) (by simp) (AllReadyH.cons rfl (fun K hK => ?_) AllReadyH.nil)
          go_simp
          obtain ⟨w11, hw11⟩ : ∃ y, w10.alloc (.cells #[.slice ca m cc] 22) = y := ⟨_, rfl⟩
          have hb11 : Below w10.heap.size w10 w11 := by rw [← hw11]; exact below_alloc _
          have HB11 : Hid (Below w9.heap.size w9 w11) := below_trans HB10.out hb11
          have HR11 : Hid (RowAt w11 w10.heap.size 22 #[.slice ca B.length cc]) := by rw [← hw11, ← HM.out]; exact RowAt.new _ _ _
          have HRD11 := Lib.hid (HR10.out.mono hb11)
          have HS11 : Hid (w10.heap.size ≤ w11.heap.size) := hb11.size
          try rw [hw11]
          clear hb11 hw11
          refine hK.out _ _ trivial (fun hHeld => ?_)
          try simp only [List.getElem_toArray, List.getElem_cons_succ, List.getElem_cons_zero, Act.put, List.setIfInBounds_toArray, List.set_cons_zero, List.set_cons_succ]
          clear hK K
          refine wpAnyH_ready (rs := [8]) (by kernel_rfl) (by simp) (AllReadyH.cons rfl (fun K hK => ?_) AllReadyH.nil)
          rw [if_pos (by rfl)]
          refine wp_pushT (.tmp 98) (.tmp 101) rfl _ (fun x => (Plus (Plus T (Span wr.drew w6)) (Span w7 w8) x ∨ w9.heap.size ≤ x) ∧ ¬ Plus (Plus S (Span wr.drew w6)) (Span w7 w8) x ∧ x ≠ lb) allv bs rfl w10.heap.size ca B cc rfl (HL9'.out.later HB11.out).bats HR11.out HRD11.out (fun ad he => ?_) (by omega) (fun x hx => ⟨.inl hx.1, hx.2⟩) (fun x hx => ?_) ?_
          · obtain ⟨h1, h2⟩ := HCS.out ad he
            refine ⟨⟨.inr h1, fun e => ?_, fun e => ?_⟩, Nat.lt_of_lt_of_le h2 HS11.out, fun e => ?_⟩
            · exact absurd (HL9'.out.lt _ (HL9'.out.sub _ e)) (by omega)
            · exact absurd (HL9'.out.lt _ HL9'.out.lbT) (by omega)
            · exact absurd (HL9'.out.bats.toB.lt _ e).2 (by omega)
          · have h1 := HB11.out.size
            refine ⟨.inr (by omega), fun e => ?_, fun e => ?_⟩
            · exact absurd (HL9'.out.lt _ (HL9'.out.sub _ e)) (by omega)
            · exact absurd (HL9'.out.lt _ HL9'.out.lbT) (by omega)
          · intro v12 w12 k1 k2 k3
            obtain ⟨va, vn, vc, rfl⟩ := k1.toB.sl
            obtain ⟨hr12, hL14, hK14⟩ := HL9'.out.push HB11.out k2 k1 (used + j)
            have HL14 := Lib.hid hL14
            have HK14 := Lib.hid hK14
            have y5 := hr12.cells.2.2.2.2.2.1
            have z5 := RowAt.frozen hr12 5
            have hr13 := RowAt.set hr12 5 (.slice va vn vc)
            have y6 := RowAt.cell hr13 6
            have z6 := RowAt.frozen hr13 6
            have y6' : (w12.setCell ⟨lb, 5, none⟩ (.slice va vn vc)).cell? ⟨lb, 6, none⟩ = some (.int .i64 (used : Int)) := y6
            have hcj2 : ((used + j : Nat) : Int) = (used : Int) + (j : Int) := by omega
            rw [hcj2] at HL14 HK14
            clear hr12 hL14 hK14 k1 k2 k3 hr13 y6
            refine hK.out _ _ trivial (fun hHeld => ?_)
            try simp only [List.getElem_toArray, List.getElem_cons_succ, List.getElem_cons_zero, Act.put, List.setIfInBounds_toArray, List.set_cons_zero, List.set_cons_succ]
            clear hK K
            refine wpAnyH_take (i := 9) (v := ?_) rfl (by kernel_rfl) (by kernel_rfl) (by kernel_rfl) (fun _ _ _ h => h) (Or.inl ⟨by rfl, ?_⟩) hHeld ?_
            rotate_left
            · intro w' hS'
              (try dsimp only at hS')
              go_simp
              try with_reducible rfl
            try simp only [List.getElem_toArray, List.getElem_cons_succ, List.getElem_cons_zero, Act.put, List.setIfInBounds_toArray, List.set_cons_zero, List.set_cons_succ]
            refine wpAnyH_take (i := 10) (v := ?_) rfl (by kernel_rfl) (by kernel_rfl) (by kernel_rfl) (fun _ _ _ h => h) (Or.inl ⟨by rfl, ?_⟩) hHeld ?_
            rotate_left
            · intro w' hS'
              (try dsimp only at hS')
              go_simp
              try with_reducible rfl
            try simp only [List.getElem_toArray, List.getElem_cons_succ, List.getElem_cons_zero, Act.put, List.setIfInBounds_toArray, List.set_cons_zero, List.set_cons_succ]
            refine wpAnyH_ready (rs := [11]) (by kernel_rfl) (by simp) (AllReadyH.cons rfl (fun K hK => ?_) AllReadyH.nil)
            go_simp
            refine hK.out _ _ trivial (fun hHeld => ?_)
            try simp only [List.getElem_toArray, List.getElem_cons_succ, List.getElem_cons_zero, Act.put, List.setIfInBounds_toArray, List.set_cons_zero, List.set_cons_succ]
            clear hK K
            refine wpAnyH_done (by kernel_rfl) ?_ _
            go_wp2
            go_ret
            refine ⟨⟨0, _, rfl, by rw [HOE.out]; exact HWS.out, .inl ⟨rfl, _, _, _, HL14.out, fun x hx => ?_⟩⟩, ?_⟩
            · exact hx.1.elim (HTS9.out x) (fun h => .inr (Nat.le_trans HKT9.out.size h))
            · exact HKT9.out.trans2 HK14.out (fun x hx e => (HTS9.out x e).resolve_right (by omega))
        · go_simp
          obtain ⟨w11, hw11⟩ : ∃ y, w10.alloc (.cells #[.slice ca m cc] 22) = y := ⟨_, rfl⟩
          have hb11 : Below w10.heap.size w10 w11 := by rw [← hw11]; exact below_alloc _
          have HB11 : Hid (Below w9.heap.size w9 w11) := below_trans HB10.out hb11
          have HR11 : Hid (RowAt w11 w10.heap.size 22 #[.slice ca B.length cc]) := by rw [← hw11, ← HM.out]; exact RowAt.new _ _ _
          have HRD11 := Lib.hid (HR10.out.mono hb11)
          have HS11 : Hid (w10.heap.size ≤ w11.heap.size) := hb11.size
          try rw [hw11]
          clear hb11 hw11
          refine hK.out _ _ trivial (fun hHeld => ?_)
          try simp only [List.getElem_toArray, List.getElem_cons_succ, List.getElem_cons_zero, Act.put, List.setIfInBounds_toArray, List.set_cons_zero, List.set_cons_succ]
          clear hK K
          have q5c : w11.cell? ⟨lb, 5, none⟩ = some allv := (HL9'.out.later HB11.out).row.cells.2.2.2.2.2.1
          refine wpAnyH_ready (rs := [4]) (by kernel_rfl) (by simp) (AllReadyH.cons rfl (fun K hK => ?_) AllReadyH.nil)
          go_simp
          refine hK.out _ _ trivial (fun hHeld => ?_)
          try simp only [List.getElem_toArray, List.getElem_cons_succ, List.getElem_cons_zero, Act.put, List.setIfInBounds_toArray, List.set_cons_zero, List.set_cons_succ]
          clear hK K
          refine wpAnyH_ready (rs := [8]) (by kernel_rfl) (by simp) (AllReadyH.cons rfl (fun K hK => ?_) AllReadyH.nil)
          rw [if_pos (by rfl)]
          refine wp_pushT (.tmp 98) (.tmp 101) rfl _ (fun x => (Plus (Plus T (Span wr.drew w6)) (Span w7 w8) x ∨ w9.heap.size ≤ x) ∧ ¬ Plus (Plus S (Span wr.drew w6)) (Span w7 w8) x ∧ x ≠ lb) allv bs rfl w10.heap.size ca B cc rfl (HL9'.out.later HB11.out).bats HR11.out HRD11.out (fun ad he => ?_) (by omega) (fun x hx => ⟨.inl hx.1, hx.2⟩) (fun x hx => ?_) ?_
          · obtain ⟨h1, h2⟩ := HCS.out ad he
            refine ⟨⟨.inr h1, fun e => ?_, fun e => ?_⟩, Nat.lt_of_lt_of_le h2 HS11.out, fun e => ?_⟩
            · exact absurd (HL9'.out.lt _ (HL9'.out.sub _ e)) (by omega)
            · exact absurd (HL9'.out.lt _ HL9'.out.lbT) (by omega)
            · exact absurd (HL9'.out.bats.toB.lt _ e).2 (by omega)
          · have h1 := HB11.out.size
            refine ⟨.inr (by omega), fun e => ?_, fun e => ?_⟩
            · exact absurd (HL9'.out.lt _ (HL9'.out.sub _ e)) (by omega)
            · exact absurd (HL9'.out.lt _ HL9'.out.lbT) (by omega)
          · intro v12 w12 k1 k2 k3
            obtain ⟨va, vn, vc, rfl⟩ := k1.toB.sl
            obtain ⟨hr12, hL14, hK14⟩ := HL9'.out.push HB11.out k2 k1 (used + j)
            have HL14 := Lib.hid hL14
            have HK14 := Lib.hid hK14
            have y5 := hr12.cells.2.2.2.2.2.1
            have z5 := RowAt.frozen hr12 5
            have hr13 := RowAt.set hr12 5 (.slice va vn vc)
            have y6 := RowAt.cell hr13 6
            have z6 := RowAt.frozen hr13 6
            have y6' : (w12.setCell ⟨lb, 5, none⟩ (.slice va vn vc)).cell? ⟨lb, 6, none⟩ = some (.int .i64 (used : Int)) := y6
            have hcj2 : ((used + j : Nat) : Int) = (used : Int) + (j : Int) := by omega
            rw [hcj2] at HL14 HK14
            clear hr12 hL14 hK14 k1 k2 k3 hr13 y6
            refine hK.out _ _ trivial (fun hHeld => ?_)
            try simp only [List.getElem_toArray, List.getElem_cons_succ, List.getElem_cons_zero, Act.put, List.setIfInBounds_toArray, List.set_cons_zero, List.set_cons_succ]
            clear hK K
            refine wpAnyH_take (i := 9) (v := ?_) rfl (by kernel_rfl) (by kernel_rfl) (by kernel_rfl) (fun _ _ _ h => h) (Or.inl ⟨by rfl, ?_⟩) hHeld ?_
            rotate_left
            · intro w' hS'
              (try dsimp only at hS')
              go_simp
              try with_reducible rfl
            try simp only [List.getElem_toArray, List.getElem_cons_succ, List.getElem_cons_zero, Act.put, List.setIfInBounds_toArray, List.set_cons_zero, List.set_cons_succ]
            refine wpAnyH_take (i := 10) (v := ?_) rfl (by kernel_rfl) (by kernel_rfl) (by kernel_rfl) (fun _ _ _ h => h) (Or.inl ⟨by rfl, ?_⟩) hHeld ?_
            rotate_left
            · intro w' hS'
              (try dsimp only at hS')
              go_simp
              try with_reducible rfl
            try simp only [List.getElem_toArray, List.getElem_cons_succ, List.getElem_cons_zero, Act.put, List.setIfInBounds_toArray, List.set_cons_zero, List.set_cons_succ]
            refine wpAnyH_ready (rs := [11]) (by kernel_rfl) (by simp) (AllReadyH.cons rfl (fun K hK => ?_) AllReadyH.nil)
            go_simp
            refine hK.out _ _ trivial (fun hHeld => ?_)
            try simp only [List.getElem_toArray, List.getElem_cons_succ, List.getElem_cons_zero, Act.put, List.setIfInBounds_toArray, List.set_cons_zero, List.set_cons_succ]
            clear hK K
            refine wpAnyH_done (by kernel_rfl) ?_ _
            go_wp2
            go_ret
            refine ⟨⟨0, _, rfl, by rw [HOE.out]; exact HWS.out, .inl ⟨rfl, _, _, _, HL14.out, fun x hx => ?_⟩⟩, ?_⟩
            · exact hx.1.elim (HTS9.out x) (fun h => .inr (Nat.le_trans HKT9.out.size h))
            · exact HKT9.out.trans2 HK14.out (fun x hx e => (HTS9.out x e).resolve_right (by omega))
theorem append_any (w : World) (T S : Nat → Prop) (lb d : Nat) (D : DK) (F : Nat) (from_ : Int) (n run base : Nat) (allv : Value) (used : Nat) (bs : List (List UInt8)) (h : LgAt w T S lb d D F from_ n run base allv used false bs)
    (hf0 : 0 ≤ from_) (hf1 : from_ + (n : Int) ≤ D.size) (hn4 : 4 ≤ n) (hn : n ≤ 65536) (hu : used ≤ n - 2) (hrun : run < 9223372036854775808) (hp : D.pcs.length ≤ 800000) (hbs : bs.length ≤ 900000)
    (a : Option Addr) (B : List UInt8) (m c : Nat) (hm : m = B.length) (hr : RdB w a B) (hsep : ∀ ad, a = some ad → ¬ T ad.block) (hfit : (m : Int) ≤ roomOf n used) :
    Calls Try.prog 45 #[.pointer (some ⟨lb, 0, none⟩), .slice a m c] w fun e w' => (∃ er D', e = .returned (.int .i64 er) ∧ WS F D (from_ + 2 + (used : Int)) (appB run used (lowB m 4 ++ B) (secsOf m)) er D' ∧
      ((er = 0 ∧ LgSome w w' T lb d D' F from_ n run base (used + secsOf m) false (bs ++ [B])) ∨ (er ≠ 0 ∧ LgSome w w' T lb d D' F from_ n run base used true bs))) ∧ KeepA T w w' :=
  append_anyE w T S lb d D F from_ n run base allv used bs h hf0 hf1 hn4 hn hu hrun hp hbs a B m c hm hr (fun _ => hsep) hfit
end Go.Proofs.Ytagipfkgnobjlaa
