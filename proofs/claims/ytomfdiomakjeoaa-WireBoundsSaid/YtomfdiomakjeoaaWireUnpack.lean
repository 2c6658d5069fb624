/- How packed words are read: wire.Unpack, and lexiconlaw17.same. -/
import Derived.Test.YtomfdiomakjeoaaWirePack
namespace Go.Proofs.Ytomfdiomakjeoaa
open Go.RowKit

/-- The word of a type at the beginning of some bytes, and how many bytes it has. -/
def rdWord (t : Int) (l : List UInt8) : Option (Nat × Nat) :=
  if t = 0 then vtake l else if l.length < (if t = 1 then 8 else 4) then none else some (leB (l.take (if t = 1 then 8 else 4)), if t = 1 then 8 else 4)
theorem rdWord_pos {t : Int} {l : List UInt8} {x k : Nat} (h : rdWord t l = some (x, k)) : 0 < k ∧ k ≤ l.length ∧ x < 18446744073709551616 := by
  unfold rdWord at h
  by_cases t0 : t = 0
  · rw [if_pos t0] at h
    have h1 := vlen_le l
    have h2 := vval_lt l
    have h3 := verr_cases l
    unfold vlen at h1 h3
    unfold vval at h2 h3
    unfold verr at h3
    rw [h] at h1 h2 h3
    dsimp only at h1 h2 h3
    exact ⟨by omega, h1, h2⟩
  · rw [if_neg t0] at h
    obtain ⟨z, hz⟩ : ∃ z, (if t = 1 then 8 else 4) = z := ⟨_, rfl⟩
    have hz8 : z = 8 ∨ z = 4 := by rw [← hz]; split <;> simp
    rw [hz] at h
    split at h
    · cases h
    · obtain ⟨rfl, rfl⟩ := Prod.mk.injEq _ _ _ _ ▸ Option.some.inj h
      have hlt := leB_lt (l.take z)
      have hlt2 : (256 : Nat) ^ (l.take z).length ≤ 256 ^ 8 := Nat.pow_le_pow_right (by decide) (by rw [List.length_take]; omega)
      exact ⟨by omega, by omega, Nat.lt_of_lt_of_le hlt hlt2⟩
def unAll (t : Int) : Nat → List UInt8 → Option (List Nat)
  | 0, _ => none
  | n + 1, l => if l = [] then some [] else match rdWord t l with
    | none => none
    | some (x, k) => (unAll t n (l.drop k)).map (x :: ·)
theorem unAll_nil (t : Int) (n : Nat) : unAll t (n + 1) [] = some [] := by unfold unAll; rw [if_pos rfl]
theorem unAll_cons {t : Int} {n : Nat} {l : List UInt8} (h : l ≠ []) : unAll t (n + 1) l = match rdWord t l with | none => none | some (x, k) => (unAll t n (l.drop k)).map (x :: ·) := by
  conv => lhs; unfold unAll
  rw [if_neg h]
theorem unAll_more (t : Int) (n : Nat) : ∀ (m : Nat) (l : List UInt8), l.length < n → l.length < m → unAll t n l = unAll t m l := by
  induction n with
  | zero => intro m l h; omega
  | succ n ih =>
    intro m l h1 h2
    obtain ⟨m, rfl⟩ : ∃ k, m = k + 1 := ⟨m - 1, by omega⟩
    by_cases hl : l = []
    · subst hl; rw [unAll_nil, unAll_nil]
    · rw [unAll_cons hl, unAll_cons hl]
      cases hr : rdWord t l with
      | none => rfl
      | some p =>
        obtain ⟨x, k⟩ := p
        have hp := rdWord_pos hr
        have := ih m (l.drop k) (by rw [List.length_drop]; omega) (by rw [List.length_drop]; omega)
        simp only [this]
/-- What Unpack answers. -/
def unpackOf (t : Int) (l : List UInt8) : List Nat × Nat :=
  if 1048576 < l.length then ([], 3) else if t = 0 ∨ t = 1 ∨ t = 5 then (match unAll t (l.length + 1) l with | none => ([], 270) | some ws => (ws, 0)) else ([], 2)
theorem OwnU.mono {w : World} {base base' : Nat} {v : Value} {l : List Nat} (h : OwnU w base v l) (hb : base' ≤ base) : OwnU w base' v l := by
  refine ⟨h.1, ?_⟩
  rcases h.2 with h | ⟨g, cap, cur, hv, hg, r⟩
  · exact .inl h
  · exact .inr ⟨g, cap, cur, hv, Nat.le_trans hb hg, r⟩
set_option maxRecDepth 100000 in
set_option maxHeartbeats 2000000 in
theorem unpack_any (t : Int) (a : Option Addr) (l : List UInt8) (n cap : Nat) (w : World) (hn : Hid (n = l.length)) (hc : n ≤ cap) (hc2 : cap ≤ 9223372036854775807) (hl : RdB w a l) :
    Calls Try.prog 33 #[.int .i64 t, .slice a n cap] w fun e w' =>
      ∃ v, e = .returned (.tuple #[v, .int .i64 ((unpackOf t l).2 : Int)]) ∧ OwnU w' w.heap.size v (unpackOf t l).1 ∧ Below w.heap.size w w' := by
  have HL := Lib.hid hl
  clear hl
  obtain ⟨uo, huo⟩ : ∃ uo, unpackOf t l = uo := ⟨_, rfl⟩
  rw [huo]
  have hup : uo = unpackOf t l := huo.symm
  clear huo
  go_enter Try.func33, Try.ntmps33
  go_wp2_with fail
  refine (wayof_any t _).mono ?_
  rintro e w2 ⟨hb2, hway⟩
  have hs2 := hb2.size
  have HB2 := Lib.hid hb2
  by_cases hbig : 1048576 < n
  · obtain ⟨_, ws, hws2, hwsall, rfl⟩ := WayRet.open ⟨hb2, hway⟩
    have HE : Hid (uo = ([], 3)) := by show _ = _; rw [hup]; unfold unpackOf; rw [if_pos (by rw [← hn.out]; exact hbig)]
    obtain ⟨ok, hok⟩ : ∃ ok, decide (t = 0 ∨ t = 1 ∨ t = 5) = ok := ⟨_, rfl⟩
    rw [hok]
    clear hway hb2 hup hok
    go_wp2_with (refine step_storeRow rfl 74 (.tmp 6) (.tmp 15) rfl rfl w2.heap.size ws rfl rfl 74 wayNil (by exact RowAt.new w2 _ _) (by rw [hws2]; exact aggWay.2) hws2.symm hwsall ?_; intro w6 h1 h2; have HB6 := Lib.hid ((HB2.out.alloc (by omega) _).grown h2 (by simp; omega) (fun g hg => by obtain rfl := Option.some.inj hg; omega)); clear h1 h2)
    go_ret2
    rw [HE.out]
    exact ⟨_, rfl, OwnU.nil _ _, HB6.out⟩
  · have hup : uo = if t = 0 ∨ t = 1 ∨ t = 5 then (match unAll t (l.length + 1) l with | none => ([], 270) | some ws => (ws, 0)) else ([], 2) := by rw [hup]; unfold unpackOf; rw [if_neg (by rw [← hn.out]; exact hbig)]
    by_cases ht : t = 0 ∨ t = 1 ∨ t = 5
    · rw [if_pos ht] at hup
      have HF := Lib.hid hup
      clear hup
      by_cases ht0 : t = 0
      · skip
        have hw0 : e = .returned (.tuple #[.agg wayVar, .bool true]) := by
          rcases hway with ⟨_, h⟩ | ⟨h, _⟩ | ⟨h, _⟩
          · exact h
          · omega
          · exact absurd ht0 h
        subst hw0
        clear hway hb2
        go_wp2_with (refine step_storeRow rfl 74 (.tmp 6) (.tmp 15) rfl rfl w2.heap.size wayVar rfl rfl 74 wayNil (by exact RowAt.new w2 _ _) aggWay.2 rfl (by simp [wayVar, Value.oneCell']) ?_; intro w6 h1 h2; have HW := Lib.hid h1; have HB6 := Lib.hid ((HB2.out.alloc (by omega) _).grown h2 (by simp; omega) (fun g hg => by obtain rfl := Option.some.inj hg; omega)); have HG := Lib.hid h2; clear h1 h2)
        have htake : ∀ (W : World) (ad : Option Addr) (m c : Nat) (lr : List UInt8), Below w6.heap.size w6 W → Hid (m = lr.length) → m ≤ c → c ≤ 9223372036854775807 → RdB W ad lr →
            ∃ x k er : Nat, x < 18446744073709551616 ∧ k ≤ m ∧ ((rdWord t lr = none ∧ er = 270) ∨ (rdWord t lr = some (x, k) ∧ er = 0)) ∧
            Calls Try.prog 13 #[.slice ad m c] W fun e w' => e = .returned (.tuple #[.int .u64 (x : Int), .int .i64 (k : Int), .int .i64 (er : Int)]) ∧ Below W.heap.size W w' := by
          intro W ad m c lr hW hm hmc hc3 hr
          refine ⟨vval lr, vlen lr, verr lr, vval_lt lr, by rw [hm.out]; exact vlen_le lr, ?_, (takevarint_any ad lr m c W hm hmc hc3 hr).mono fun e w' h => ⟨h.1, h.2 ▸ Below.refl _ _⟩⟩
          unfold rdWord vval vlen verr
          rw [if_pos ht0]
          cases vtake lr with
          | none => exact .inl ⟨rfl, rfl⟩
          | some p => exact .inr ⟨rfl, rfl⟩
        have HT := Lib.hid htake
        clear htake
        go_loopw [1, 8] (fun s v wr => Below w6.heap.size w6 wr ∧ ∃ (ar : Option Addr) (nr capr : Nat) (lr : List UInt8) (ws : List Nat), s = .slice ar nr capr ∧ nr = lr.length ∧ nr ≤ capr ∧ capr ≤ cap ∧ RdB w ar lr ∧ OwnU wr w6.heap.size v ws ∧ lr.length + ws.length ≤ l.length ∧
          (unAll t (l.length + 1) l = (unAll t (lr.length + 1) lr).map (ws ++ ·))) (fun s _ _ => match s with | .slice _ n _ => n | _ => 0)
        case atStart => exact ⟨Below.refl _ _, a, n, cap, l, [], rfl, hn.out, hc, Nat.le_refl _, HL.out, OwnU.nil _ _, by simp, by simp⟩
        case round =>
          obtain ⟨hb, ar, nr, capr, lr, ws, rfl, hnr, hcr, hcr2, hlr, ho, hlen, hrd⟩ := hrel
          have HB := Lib.hid hb
          have HO := Lib.hid ho
          have HR := Lib.hid hrd
          have HLR := Lib.hid hlr
          have HNR := Lib.hid hnr
          have HLEN := Lib.hid hlen
          have hd := (HB.out.cell (p := ⟨w2.heap.size, 1, none⟩) HW.out.lt).trans HW.out.cells2.2
          clear hb ho hrd hlr hnr hlen
          by_cases hpos : 0 < nr
          · obtain ⟨x, k, er, hx, hk, hword, hcall⟩ := HT.out wr ar nr capr lr HB.out HNR hcr (by omega) (HLR.out.mono (HB6.out.trans (HB.out.mono HB6.out.size)))
            have HC := Lib.hid hcall
            have hne : lr ≠ [] := by intro e; have := HNR.out; rw [e] at this; simp at this; omega
            clear hcall
            rcases hword with ⟨hnone, rfl⟩ | ⟨hsome, rfl⟩
            · have HE : Hid (uo = ([], 270)) := by
                show _ = _
                rw [HF.out, HR.out, unAll_cons hne, hnone]
                rfl
              clear HR hnone hne
              go_wp2_with (go_at_call 13; refine HC.out.mono ?_; rintro e w7 ⟨rfl, hb7⟩; have HB7 := Lib.hid (HB6.out.trans ((HB.out.trans (hb7.mono HB.out.size)).mono HB6.out.size)); clear hb7)
              go_ret2
              rw [HE.out]
              exact ⟨_, rfl, OwnU.nil _ _, HB7.out⟩
            · have hpk := rdWord_pos hsome
              have hk1 := hpk.1
              have HR2 : Hid (unAll t (l.length + 1) l = (unAll t ((lr.drop k).length + 1) (lr.drop k)).map ((ws ++ [x]) ++ ·)) := by
                show _ = _
                rw [HR.out, unAll_cons hne, hsome]
                dsimp only
                rw [unAll_more t lr.length ((lr.drop k).length + 1) (lr.drop k) (by rw [List.length_drop]; have := hpk.2.1; omega) (by omega), Option.map_map]
                congr 1
                funext x
                simp
              clear HR hsome hne hpk
              go_wp2_with (first | (go_at_call 13; refine HC.out.mono ?_; rintro e w7 ⟨rfl, hb7⟩; have HB7 := Lib.hid (HB.out.trans (hb7.mono HB.out.size)); have HO7 := Lib.hid (HO.out.kept hb7 (Nat.le_refl _)); clear hb7) | (at_builtin; refine step_append rfl (.tmp 38) (.tmp 40) rfl eltU w6.heap.size _ ws.length (ws.map uv) rfl _ 1 _ [uv x] rfl (HO7.out.kept (below_alloc _) (Nat.le_refl _)) rfl (rd_lit _ _ _ _ _ rfl) (by simp [uv, Value.oneCell']) (by have := HLEN.out; have := HNR.out; have := hn.out; omega) (by have := HLEN.out; have := HNR.out; have := hn.out; omega) (by have := HB7.out.size; simp; omega) ?_; intro v3 w3 h1 h2 h3; have HO3 := Lib.hid h1; have HB3 := Lib.hid ((HB7.out.alloc HB7.out.size _).grown h2 (by have := HB7.out.size; simp; omega) (fun g hg => (World.ownsRow.lt HO7.out g hg).1)); clear h1 h2 h3))
              refine ⟨⟨HB3.out, _, _, _, lr.drop k, ws ++ [x], rfl, by rw [List.length_drop, ← HNR.out], by omega, by omega, HLR.out.dropA k capr (by rw [← HNR.out]; exact hcr), ?_, ?_, HR2.out⟩, ?_⟩
              · have h := HO3.out
                unfold OwnU
                rw [List.map_append, List.length_append]
                exact h
              · have h := HLEN.out
                have h2 := HNR.out
                rw [List.length_drop, List.length_append]
                show lr.length - k + (ws.length + 1) ≤ _
                omega
              · show nr - k < nr
                omega
          · obtain rfl : nr = 0 := by omega
            have hlr0 : lr = [] := List.eq_nil_of_length_eq_zero HNR.out.symm
            have HE : Hid (uo = (ws, 0)) := by
              show _ = _
              rw [HF.out, HR.out, hlr0, unAll_nil]
              simp
            clear HR
            go_wp2
            go_ret2
            rw [HE.out]
            exact ⟨_, rfl, OwnU.mono HO.out HB6.out.size, HB6.out.trans (HB.out.mono HB6.out.size)⟩
      · skip
        obtain ⟨bn, hbn, hbox, rfl⟩ : ∃ b, w.heap.size ≤ b ∧ Box w2 b 3 (.int .i64 ((if t = 1 then 8 else 4 : Nat) : Int)) ∧ e = .returned (.tuple #[.agg (wayV b), .bool true]) := by
          rcases hway with ⟨h, _⟩ | ⟨_, b, h1, h2, h3⟩ | ⟨_, h1, h5, h⟩
          · omega
          · exact ⟨b, h1, h2, h3⟩
          · omega
        have hbn2 := hbox.lt
        have HBN := Lib.hid hbox
        clear hway hb2 hbox
        go_wp2_with (refine step_storeRow rfl 74 (.tmp 6) (.tmp 15) rfl rfl w2.heap.size (wayV bn) rfl rfl 74 wayNil (by exact RowAt.new w2 _ _) aggWay.2 rfl (by simp [wayV, Value.oneCell']) ?_; intro w6 h1 h2; have HW := Lib.hid h1; have HB6 := Lib.hid ((HB2.out.alloc (by omega) _).grown h2 (by simp; omega) (fun g hg => by obtain rfl := Option.some.inj hg; omega)); have HG := Lib.hid h2; clear h1 h2)
        have htake : ∀ (W : World) (ad : Option Addr) (m c : Nat) (lr : List UInt8), Below w6.heap.size w6 W → Hid (m = lr.length) → m ≤ c → c ≤ 9223372036854775807 → RdB W ad lr →
            ∃ x k er : Nat, x < 18446744073709551616 ∧ k ≤ m ∧ ((rdWord t lr = none ∧ er = 270) ∨ (rdWord t lr = some (x, k) ∧ er = 0)) ∧
            Calls Try.prog 58 #[.slice ad m c, .pointer (some ⟨bn, 0, none⟩)] W fun e w' => e = .returned (.tuple #[.int .u64 (x : Int), .int .i64 (k : Int), .int .i64 (er : Int)]) ∧ Below W.heap.size W w' := by
          intro W ad m c lr hW hm hmc hc3 hr
          obtain ⟨z, hz⟩ : ∃ z, (if t = 1 then 8 else 4) = z := ⟨_, rfl⟩
          have hz8 : z = 8 ∨ z = 4 := by rw [← hz]; split <;> simp
          have hrw : rdWord t lr = if lr.length < z then none else some (leB (lr.take z), z) := by unfold rdWord; rw [if_neg ht0, hz]
          have hbx6 : Box w6 bn 3 (.int .i64 (z : Int)) := by
            rw [← hz]
            exact (HG.out.block bn (by simp; omega) (fun e => by have := Option.some.inj e; omega)).trans ((Below.heap_alloc w2 _ bn hbn2).trans HBN.out)
          have hcall := take_any z (by omega) ad lr m c bn W hm hmc hr (hbx6.below hW)
          by_cases hsh : m < z
          · rw [if_pos hsh] at hcall
            exact ⟨0, 0, 270, by decide, Nat.zero_le _, .inl ⟨by rw [hrw, ← hm.out, if_pos hsh], rfl⟩, hcall⟩
          · rw [if_neg hsh] at hcall
            have hlt := leB_lt (lr.take z)
            have hlt2 : (256 : Nat) ^ (lr.take z).length ≤ 256 ^ 8 := Nat.pow_le_pow_right (by decide) (by rw [List.length_take]; omega)
            exact ⟨leB (lr.take z), z, 0, Nat.lt_of_lt_of_le hlt hlt2, by omega, .inr ⟨by rw [hrw, ← hm.out, if_neg hsh], rfl⟩, hcall⟩
        have HT := Lib.hid htake
        clear htake
        go_loopw [1, 8] (fun s v wr => Below w6.heap.size w6 wr ∧ ∃ (ar : Option Addr) (nr capr : Nat) (lr : List UInt8) (ws : List Nat), s = .slice ar nr capr ∧ nr = lr.length ∧ nr ≤ capr ∧ capr ≤ cap ∧ RdB w ar lr ∧ OwnU wr w6.heap.size v ws ∧ lr.length + ws.length ≤ l.length ∧
          (unAll t (l.length + 1) l = (unAll t (lr.length + 1) lr).map (ws ++ ·))) (fun s _ _ => match s with | .slice _ n _ => n | _ => 0)
        case atStart => exact ⟨Below.refl _ _, a, n, cap, l, [], rfl, hn.out, hc, Nat.le_refl _, HL.out, OwnU.nil _ _, by simp, by simp⟩
        case round =>
          obtain ⟨hb, ar, nr, capr, lr, ws, rfl, hnr, hcr, hcr2, hlr, ho, hlen, hrd⟩ := hrel
          have HB := Lib.hid hb
          have HO := Lib.hid ho
          have HR := Lib.hid hrd
          have HLR := Lib.hid hlr
          have HNR := Lib.hid hnr
          have HLEN := Lib.hid hlen
          have hd := (HB.out.cell (p := ⟨w2.heap.size, 1, none⟩) HW.out.lt).trans HW.out.cells2.2
          clear hb ho hrd hlr hnr hlen
          by_cases hpos : 0 < nr
          · obtain ⟨x, k, er, hx, hk, hword, hcall⟩ := HT.out wr ar nr capr lr HB.out HNR hcr (by omega) (HLR.out.mono (HB6.out.trans (HB.out.mono HB6.out.size)))
            have HC := Lib.hid hcall
            have hne : lr ≠ [] := by intro e; have := HNR.out; rw [e] at this; simp at this; omega
            clear hcall
            rcases hword with ⟨hnone, rfl⟩ | ⟨hsome, rfl⟩
            · have HE : Hid (uo = ([], 270)) := by
                show _ = _
                rw [HF.out, HR.out, unAll_cons hne, hnone]
                rfl
              clear HR hnone hne
              go_wp2_with (go_at_call 58; refine HC.out.mono ?_; rintro e w7 ⟨rfl, hb7⟩; have HB7 := Lib.hid (HB6.out.trans ((HB.out.trans (hb7.mono HB.out.size)).mono HB6.out.size)); clear hb7)
              go_ret2
              rw [HE.out]
              exact ⟨_, rfl, OwnU.nil _ _, HB7.out⟩
            · have hpk := rdWord_pos hsome
              have hk1 := hpk.1
              have HR2 : Hid (unAll t (l.length + 1) l = (unAll t ((lr.drop k).length + 1) (lr.drop k)).map ((ws ++ [x]) ++ ·)) := by
                show _ = _
                rw [HR.out, unAll_cons hne, hsome]
                dsimp only
                rw [unAll_more t lr.length ((lr.drop k).length + 1) (lr.drop k) (by rw [List.length_drop]; have := hpk.2.1; omega) (by omega), Option.map_map]
                congr 1
                funext x
                simp
              clear HR hsome hne hpk
              go_wp2_with (first | (go_at_call 58; refine HC.out.mono ?_; rintro e w7 ⟨rfl, hb7⟩; have HB7 := Lib.hid (HB.out.trans (hb7.mono HB.out.size)); have HO7 := Lib.hid (HO.out.kept hb7 (Nat.le_refl _)); clear hb7) | (at_builtin; refine step_append rfl (.tmp 38) (.tmp 40) rfl eltU w6.heap.size _ ws.length (ws.map uv) rfl _ 1 _ [uv x] rfl (HO7.out.kept (below_alloc _) (Nat.le_refl _)) rfl (rd_lit _ _ _ _ _ rfl) (by simp [uv, Value.oneCell']) (by have := HLEN.out; have := HNR.out; have := hn.out; omega) (by have := HLEN.out; have := HNR.out; have := hn.out; omega) (by have := HB7.out.size; simp; omega) ?_; intro v3 w3 h1 h2 h3; have HO3 := Lib.hid h1; have HB3 := Lib.hid ((HB7.out.alloc HB7.out.size _).grown h2 (by have := HB7.out.size; simp; omega) (fun g hg => (World.ownsRow.lt HO7.out g hg).1)); clear h1 h2 h3))
              refine ⟨⟨HB3.out, _, _, _, lr.drop k, ws ++ [x], rfl, by rw [List.length_drop, ← HNR.out], by omega, by omega, HLR.out.dropA k capr (by rw [← HNR.out]; exact hcr), ?_, ?_, HR2.out⟩, ?_⟩
              · have h := HO3.out
                unfold OwnU
                rw [List.map_append, List.length_append]
                exact h
              · have h := HLEN.out
                have h2 := HNR.out
                rw [List.length_drop, List.length_append]
                show lr.length - k + (ws.length + 1) ≤ _
                omega
              · show nr - k < nr
                omega
          · obtain rfl : nr = 0 := by omega
            have hlr0 : lr = [] := List.eq_nil_of_length_eq_zero HNR.out.symm
            have HE : Hid (uo = (ws, 0)) := by
              show _ = _
              rw [HF.out, HR.out, hlr0, unAll_nil]
              simp
            clear HR
            go_wp2
            go_ret2
            rw [HE.out]
            exact ⟨_, rfl, OwnU.mono HO.out HB6.out.size, HB6.out.trans (HB.out.mono HB6.out.size)⟩
    · rw [if_neg ht] at hup
      obtain ⟨_, ws, hws2, hwsall, rfl⟩ := WayRet.open ⟨hb2, hway⟩
      rw [decide_eq_false ht]
      have HE := Lib.hid hup
      clear hway hb2 hup
      go_wp2_with (refine step_storeRow rfl 74 (.tmp 6) (.tmp 15) rfl rfl w2.heap.size ws rfl rfl 74 wayNil (by exact RowAt.new w2 _ _) (by rw [hws2]; exact aggWay.2) hws2.symm hwsall ?_; intro w6 h1 h2; have HB6 := Lib.hid ((HB2.out.alloc (by omega) _).grown h2 (by simp; omega) (fun g hg => by obtain rfl := Option.some.inj hg; omega)); clear h1 h2)
      go_ret2
      rw [HE.out]
      exact ⟨_, rfl, OwnU.nil _ _, HB6.out⟩
end Go.Proofs.Ytomfdiomakjeoaa
