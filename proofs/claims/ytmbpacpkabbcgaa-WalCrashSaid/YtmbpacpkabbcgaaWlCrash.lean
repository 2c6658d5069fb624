/- A log through a life: what each call does to it, and what a crash leaves of its disk. -/
import Derived.Test.YtmbpacpkabbcgaaWlPlay
import Derived.Test.YtmbpacpkabbcgaaWlLaw
namespace Go.Proofs.Ytmbpacpkabbcgaa
open Go.RowKit

theorem cut_mix {old new : List UInt8} (h1 : old.length = 512) (h2 : new.length = 512) (p : Int) : ∃ t, Mix t old new (cut old new p) := by
  have key : ∀ t, t ≤ 512 → Mix t old new (new.take t ++ old.drop t) := fun t ht => by
    refine ⟨by omega, by rw [List.length_append, List.length_take, List.length_drop]; omega, fun i => ?_⟩
    by_cases hi : i < t
    · rw [if_pos hi, List.getElem?_append_left (by rw [List.length_take]; omega), List.getElem?_take, if_pos hi]
    · rw [if_neg hi, List.getElem?_append_right (by rw [List.length_take]; omega), List.length_take, h2, Nat.min_eq_left ht, List.getElem?_drop]
      congr 1
      omega
  unfold cut
  split
  · exact ⟨0, by have h := key 0 (by omega); simpa using h⟩
  · split
    · exact ⟨512, by have h := key 512 (by omega); rw [List.take_of_length_le (by omega), List.drop_of_length_le (by omega), List.append_nil] at h; exact h⟩
    · exact ⟨keepN p, key _ (by unfold keepN; omega)⟩
/-- Pieces of a run of sectors. -/
def pcsOf (a : Int) (f : Nat → List UInt8) (s m : Nat) : List (Int × List UInt8) := (List.range m).map fun i => (a + ((s + i : Nat) : Int), f (s + i))
theorem pcsOf_succ (a : Int) (f : Nat → List UInt8) (s m : Nat) : pcsOf a f s (m + 1) = pcsOf a f s m ++ [(a + ((s + m : Nat) : Int), f (s + m))] := by
  unfold pcsOf
  rw [List.range_succ, List.map_append]
  rfl
theorem pcsOf_len (a : Int) (f : Nat → List UInt8) (s m : Nat) : (pcsOf a f s m).length = m := by simp [pcsOf]
theorem wps_split (at_ : Int) (B : List UInt8) (k m : Nat) : wps at_ B (k + m) = wps at_ B k ++ pcsOf at_ (sec B) k m := by
  induction m with
  | zero => simp [pcsOf]
  | succ m ih => rw [← Nat.add_assoc, wps_succ, ih, pcsOf_succ, List.append_assoc]
theorem crs_snoc (L : Int → List UInt8) (l : List Int) (pcs : List (Int × List UInt8)) (p : Int × List UInt8) : crs L l (pcs ++ [p]) = crsStep (crs L l pcs) p := by
  unfold crs
  rw [List.foldl_append]
  rfl
theorem crs_run (a : Int) (f : Nat → List UInt8) (s : Nat) (L : Int → List UInt8) (l : List Int) (hL : ∀ k, (L k).length = 512) : ∀ m, (∀ i, i < m → (f (s + i)).length = 512) →
    (∀ k, ¬ (a + (s : Int) ≤ k ∧ k < a + (s : Int) + (m : Int)) → (crs L l (pcsOf a f s m)).1 k = L k) ∧ ∀ i, i < m → ∃ t, Mix t (L (a + ((s + i : Nat) : Int))) (f (s + i)) ((crs L l (pcsOf a f s m)).1 (a + ((s + i : Nat) : Int)))
  | 0, _ => ⟨fun _ _ => rfl, fun i hi => by omega⟩
  | m + 1, hf => by
    obtain ⟨q1, q2⟩ := crs_run a f s L l hL m fun i hi => hf i (by omega)
    rw [pcsOf_succ, crs_snoc]
    unfold crsStep updS
    dsimp only
    refine ⟨fun k hk => ?_, fun i hi => ?_⟩
    · rw [if_neg (by omega)]
      exact q1 k (by omega)
    · by_cases him : i = m
      · subst him
        rw [if_pos rfl, q1 _ (by omega)]
        exact cut_mix (hL _) (hf i (by omega)) _
      · rw [if_neg (by omega)]
        exact q2 i (by omega)
/-- What a crash leaves where a write did not end well. -/
theorem dead_mix {F size : Nat} {L : Int → List UInt8} {at_ : Int} {B : List UInt8} {c : Nat} {D' : DK} (h : WS F ⟨size, L, []⟩ at_ B 5 D') (hL : ∀ k, (L k).length = 512) (hB : B.length = c * 512) (ps : List Int) :
    D'.size = size ∧ D'.pcs.length ≤ c ∧ (∀ k, ¬ (at_ ≤ k ∧ k < at_ + (c : Int)) → (crs D'.last ps D'.pcs).1 k = L k) ∧ ∀ i, i < c → ∃ t, Mix t (L (at_ + (i : Int))) (sec B i) ((crs D'.last ps D'.pcs).1 (at_ + (i : Int))) := by
  have hc : B.length / 512 = c := by rw [hB, Nat.mul_div_cancel _ (by omega : 0 < 512)]
  have hsl : ∀ i, i < c → (sec B i).length = 512 := fun i hi => sec_len (by omega)
  obtain ⟨k1, m, hk, rfl⟩ : ∃ k1 m, k1 + m ≤ c ∧ D' = ⟨size, laid L (wps at_ B k1), pcsOf at_ (sec B) k1 m⟩ := by
    rcases h.2 with ⟨_, k, hk, rfl⟩ | ⟨k, hk, _, rfl⟩
    · refine ⟨0, k, by omega, ?_⟩
      have := wps_split at_ B 0 k
      rw [Nat.zero_add] at this
      rw [List.nil_append, this]
      rfl
    · rw [hc] at hk ⊢
      dsimp only [List.length_nil] at hk
      obtain ⟨m, rfl⟩ : ∃ m, c = k + m := ⟨c - k, by omega⟩
      refine ⟨k, m, Nat.le_refl _, ?_⟩
      rw [List.nil_append, wps_split, List.take_append_of_le_length (by rw [wps_len]; exact Nat.le_refl _), List.take_of_length_le (by rw [wps_len]; exact Nat.le_refl _), List.drop_append_of_le_length (by rw [wps_len]; exact Nat.le_refl _), List.drop_of_length_le (by rw [wps_len]; exact Nat.le_refl _), List.nil_append]
  have hl2 : ∀ k, (laid L (wps at_ B k1) k).length = 512 := fun k => by
    rw [laid_wps_at]
    split
    · exact hsl _ (by omega)
    · exact hL k
  obtain ⟨q1, q2⟩ := crs_run at_ (sec B) k1 (laid L (wps at_ B k1)) ps hl2 m fun i hi => hsl _ (by omega)
  refine ⟨rfl, by rw [pcsOf_len]; omega, fun k hk2 => ?_, fun i hi => ?_⟩
  · rw [q1 k (by omega), laid_wps_at, if_neg (by omega)]
  · by_cases h1 : i < k1
    · refine ⟨512, ?_⟩
      rw [q1 _ (by omega), laid_wps_at, if_pos (by omega), show (at_ + (i : Int) - at_).toNat = i by omega]
      exact ⟨by rw [hsl i hi, hL], by rw [hsl i hi, hL], fun j => by
        by_cases hj : j < 512
        · rw [if_pos hj]
        · rw [if_neg hj, List.getElem?_eq_none (by rw [hsl i hi]; omega), List.getElem?_eq_none (by rw [hL]; omega)]⟩
    · by_cases h2 : i < k1 + m
      · obtain ⟨t, ht⟩ := q2 (i - k1) (by omega)
        rw [show k1 + (i - k1) = i by omega, laid_wps_at, if_neg (by omega)] at ht
        exact ⟨t, ht⟩
      · refine ⟨0, ?_⟩
        rw [q1 _ (by omega), laid_wps_at, if_neg (by omega)]
        exact ⟨by rw [hsl i hi, hL], rfl, fun j => by rw [if_neg (by omega)]⟩
/-- What a disk holds, once it is read: a log of these batches. -/
def Holds (M : Int → List UInt8) (fr : Int) (n r q : Nat) (bs : List (List UInt8)) : Prop := ∃ run base used, LgI M fr n run base used bs ∧ run ≤ r ∧ run ≤ base + q
def CDisk (b0 : Nat) (W : World) (S : Nat → Prop) (d size : Nat) (fr : Int) (n r q : Nat) (bs : List (List UInt8)) : Prop :=
  ∃ L, DkS W S d ⟨size, L, []⟩ 0 ∧ Holds L fr n r q bs ∧ ∀ x, S x → b0 ≤ x ∧ x < W.heap.size
def CLog (b0 : Nat) (W : World) (T : Nat → Prop) (lb d size : Nat) (fr : Int) (n F r q : Nat) (bs : List (List UInt8)) : Prop :=
  ∃ S allv run base used L, LgAt W T S lb d ⟨size, L, []⟩ F fr n run base allv used false bs ∧ LgI L fr n run base used bs ∧ LgFree L fr n run used ∧ LgPrev L fr run ∧ run ≤ r ∧ run ≤ base + q ∧ ∀ x, T x → b0 ≤ x
/-- A log that died: a crash leaves its batches, or the others. -/
def CDead (b0 : Nat) (W : World) (T : Nat → Prop) (lb d size : Nat) (fr : Int) (n F r q : Nat) (bs alt : List (List UInt8)) : Prop :=
  ∃ S allv run base used D, LgAt W T S lb d D F fr n run base allv used true bs ∧ used ≤ n - 2 ∧ D.size = size ∧ D.pcs.length ≤ 1000000 ∧ (∀ ps, Holds (crs D.last ps D.pcs).1 fr n r q bs ∨ Holds (crs D.last ps D.pcs).1 fr n r q alt) ∧ ∀ x, T x → b0 ≤ x
section
variable {b0 : Nat} {W W' : World} {T S : Nat → Prop} {lb d size : Nat} {fr : Int} {n F r q : Nat} {bs alt : List (List UInt8)}
theorem CLog.lt (h : CLog b0 W T lb d size fr n F r q bs) : ∀ x, T x → b0 ≤ x ∧ x < W.heap.size := by
  obtain ⟨S, allv, run, base, used, L, h1, -, -, -, -, -, h2⟩ := h
  exact fun x hx => ⟨h2 x hx, h1.lt x hx⟩
theorem CDead.lt (h : CDead b0 W T lb d size fr n F r q bs alt) : ∀ x, T x → b0 ≤ x ∧ x < W.heap.size := by
  obtain ⟨S, allv, run, base, used, D, h1, -, -, -, -, h2⟩ := h
  exact fun x hx => ⟨h2 x hx, h1.lt x hx⟩
theorem CLog.later (h : CLog b0 W T lb d size fr n F r q bs) (hb : Below W.heap.size W W') : CLog b0 W' T lb d size fr n F r q bs := by
  obtain ⟨S, allv, run, base, used, L, h1, h2⟩ := h
  exact ⟨S, allv, run, base, used, L, h1.later hb, h2⟩
theorem CDead.later (h : CDead b0 W T lb d size fr n F r q bs alt) (hb : Below W.heap.size W W') : CDead b0 W' T lb d size fr n F r q bs alt := by
  obtain ⟨S, allv, run, base, used, D, h1, h2⟩ := h
  exact ⟨S, allv, run, base, used, D, h1.later hb, h2⟩
theorem CDisk.later (h : CDisk b0 W S d size fr n r q bs) (hb : Below W.heap.size W W') : CDisk b0 W' S d size fr n r q bs := by
  obtain ⟨L, h1, h2, h3⟩ := h
  exact ⟨L, h1.later hb, h2, fun x hx => ⟨(h3 x hx).1, Nat.lt_of_lt_of_le (h3 x hx).2 hb.size⟩⟩
theorem CDisk.lt (h : CDisk b0 W S d size fr n r q bs) : ∀ x, S x → b0 ≤ x ∧ x < W.heap.size := by
  obtain ⟨L, h1, h2, h3⟩ := h
  exact h3
theorem CLog.more {r2 : Nat} (h : CLog b0 W T lb d size fr n F r q bs) (hr : r ≤ r2) : CLog b0 W T lb d size fr n F r2 q bs := by
  obtain ⟨S, allv, run, base, used, L, h1, h2, h3, h4, h5, h6⟩ := h
  exact ⟨S, allv, run, base, used, L, h1, h2, h3, h4, Nat.le_trans h5 hr, h6⟩
end
theorem c_format (b0 : Nat) (W : World) (S : Nat → Prop) (d size : Nat) (L : Int → List UInt8) (fr : Int) (n : Nat) (h : DkS W S d ⟨size, L, []⟩ 0) (hS : ∀ x, S x → b0 ≤ x ∧ x < W.heap.size) (hb0 : b0 ≤ W.heap.size) (hok : askW size fr (n : Int) = 0) :
    Calls Try.prog 9 #[.pointer (some ⟨d, 0, none⟩), .int .i64 fr, .int .i64 (n : Int)] W fun e w' => e = .returned (.int .i64 0) ∧ (∃ S', CDisk b0 w' S' d size fr n 1 0 [] ∧ ∀ x, S' x → S x ∨ W.heap.size ≤ x) ∧ KeepA S W w' := by
  refine (format_any W S d ⟨size, L, []⟩ 0 fr n h (fun x hx => (hS x hx).2) hok (Nat.zero_le _)).mono ?_
  rintro e w' ⟨⟨er, D', rfl, hws, hdk⟩, hk⟩
  have h0 := hws.1 rfl
  subst h0
  have hD := hws.ok rfl
  subst hD
  rw [List.nil_append] at hdk
  refine ⟨rfl, ⟨_, ⟨_, hdk, ⟨1, 1, 0, (LgI.format h.sec (ask_ok hok).1 rfl).1, Nat.le_refl _, Nat.le_refl _⟩, fun x hx => ?_⟩, fun x hx => hx.imp id And.left⟩, hk⟩
  rcases hx with hx | hx
  · exact ⟨(hS x hx).1, Nat.lt_of_lt_of_le (hS x hx).2 hk.size⟩
  · exact ⟨Nat.le_trans hb0 hx.1, hx.2⟩
theorem c_open (b0 : Nat) (W : World) (S : Nat → Prop) (d size : Nat) (fr : Int) (n r q : Nat) (bs : List (List UInt8)) (h : CDisk b0 W S d size fr n r q bs) (hb0 : b0 ≤ W.heap.size) (hok : askW size fr (n : Int) = 0) (hr : r + 1 < 4611686018427387904) :
    Calls Try.prog 10 #[.pointer (some ⟨d, 0, none⟩), .int .i64 fr, .int .i64 (n : Int)] W fun e w' => (∃ lb, e = .returned (.tuple #[.pointer (some ⟨lb, 0, none⟩), .int .i64 0]) ∧ ∃ T', CLog b0 w' T' lb d size fr n 0 (r + 1) (q + 1) bs ∧ ∀ x, T' x → S x ∨ W.heap.size ≤ x) ∧ KeepA S W w' := by
  obtain ⟨L, h1, ⟨run, base, used, h2, hr1, hq1⟩, h3⟩ := h
  have ho := open_any W S d ⟨size, L, []⟩ 0 fr n h1 (fun x hx => (h3 x hx).2) hok (Nat.zero_le _)
  rw [show laid (DK.last ⟨size, L, []⟩) (DK.pcs ⟨size, L, []⟩) = L from rfl, h2.look] at ho
  refine ho.mono ?_
  rintro e w' (⟨hbad, _⟩ | ⟨_, hk, er, D', hws, hcase⟩)
  · omega
  · have h0 := hws.1 rfl
    subst h0
    rcases hcase with ⟨_, lb, rfl, hlb, T', S', allv, hlg, hT'⟩ | ⟨hne, _⟩
    · have hD := hws.ok rfl
      subst hD
      obtain ⟨q1, q2⟩ := h2.open (by omega) rfl
      exact ⟨⟨lb, rfl, T', ⟨S', allv, run + 1, base, used, _, hlg, q1, q2, h2.prev rfl, by omega, by omega, fun x hx => (hT' x hx).elim (fun h => (h3 x h).1) (fun h => Nat.le_trans hb0 h)⟩, hT'⟩, hk⟩
    · exact absurd rfl hne
theorem c_look (b0 : Nat) (W : World) (S : Nat → Prop) (d size : Nat) (fr : Int) (n r q : Nat) (bs : List (List UInt8)) (h : CDisk b0 W S d size fr n r q bs) (hok : askW size fr (n : Int) = 0) :
    Calls Try.prog 11 #[.pointer (some ⟨d, 0, none⟩), .int .i64 fr, .int .i64 (n : Int)] W fun e w' => (∃ v, e = .returned (.tuple #[v, .int .i64 0]) ∧ Bats w' W.heap.size v bs) ∧ Below W.heap.size W w' := by
  obtain ⟨L, h1, ⟨run, base, used, h2, hr1, hq1⟩, h3⟩ := h
  have ho := wlook_any W S d ⟨size, L, []⟩ 0 fr n h1 hok (Nat.zero_le _)
  rw [show laid (DK.last ⟨size, L, []⟩) (DK.pcs ⟨size, L, []⟩) = L from rfl, h2.look] at ho
  refine ho.mono ?_
  rintro e w' ⟨hb, v, rfl, hv⟩
  exact ⟨⟨v, rfl, hv⟩, hb⟩
theorem c_feed (b0 : Nat) (W : World) (T : Nat → Prop) (lb d size : Nat) (fr : Int) (n r q : Nat) (bs : List (List UInt8)) (h : CLog b0 W T lb d size fr n 0 r q bs) (hb0 : b0 ≤ W.heap.size) (a : Option Addr) (l : List Ft) (nf cap : Nat) (hn : nf = l.length) (hl : RdFt W a l) (hsz : nf ≤ 1000000) :
    Calls Try.prog 21 #[.pointer (some ⟨d, 0, none⟩), .slice a nf cap] W fun e w' => (∃ er : Int, e = .returned (.int .i64 er)) ∧ (∃ T', CLog b0 w' T' lb d size fr n nf r q bs ∧ ∀ x, T' x → T x ∨ W.heap.size ≤ x) ∧ KeepA T W w' := by
  obtain ⟨S, allv, run, base, used, L, h1, h2, h3, h4, h5, h6, h7⟩ := h
  refine (feed_s W S d ⟨size, L, []⟩ 0 h1.dk a l nf cap hn hl (by omega)).mono ?_
  rintro e w' ⟨he, hd, hk⟩
  rw [Nat.zero_add] at hd
  have hk2 := hk.mono h1.sub
  refine ⟨he, ⟨Plus T (Span W w'), ⟨Plus S (Span W w'), allv, run, base, used, L, ?_, h2, h3, h4, h5, h6, fun x hx => hx.elim (h7 x) (fun e => Nat.le_trans hb0 e.1)⟩, fun x hx => hx.imp id And.left⟩, hk2⟩
  have hlb := h1.lt lb h1.lbT
  refine ⟨hd, row_keep hk h1.row h1.lbS, (h1.bats.keep hk (fun g hg => hg.2.1)).mono' ?_, fun x hx => hx.imp (h1.sub x) id, .inl h1.lbT, fun hx => hx.elim h1.lbS (fun e => by have := e.1; omega), fun x hx => ?_⟩
  · exact fun x hx => ⟨.inl hx.1, fun e => e.elim hx.2.1 (fun e => by have := h1.lt x hx.1; have := e.1; omega), hx.2.2⟩
  · rcases hx with hx | hx
    · exact Nat.lt_of_lt_of_le (h1.lt x hx) hk.size
    · exact hx.2
theorem c_append (b0 : Nat) (W : World) (T : Nat → Prop) (lb d size : Nat) (fr : Int) (n F r q : Nat) (bs : List (List UInt8)) (h : CLog b0 W T lb d size fr n F r q bs) (hb0 : b0 ≤ W.heap.size) (hok : askW size fr (n : Int) = 0) (hn : n ≤ 65536) (hbs : bs.length ≤ 900000) (hq : q ≤ 200)
    (a : Option Addr) (B : List UInt8) (m c : Nat) (hm : m = B.length) (hr : RdB W a B) (hsep : B ≠ [] → ∀ ad, a = some ad → ¬ T ad.block) :
    Calls Try.prog 12 #[.pointer (some ⟨lb, 0, none⟩), .slice a m c] W fun e w' => ((e = .returned (.int .i64 0) ∧ ∃ T', CLog b0 w' T' lb d size fr n F r q (bs ++ [B]) ∧ ∀ x, T' x → T x ∨ W.heap.size ≤ x) ∨ (e = .returned (.int .i64 6) ∧ CLog b0 w' T lb d size fr n F r q bs) ∨
      (e = .returned (.int .i64 5) ∧ ∃ T', CDead b0 w' T' lb d size fr n F r q bs (bs ++ [B]) ∧ ∀ x, T' x → T x ∨ W.heap.size ≤ x)) ∧ KeepA T W w' := by
  obtain ⟨S, allv, run, base, used, L, h1, h2, h3, h4, h5, h6, h7⟩ := h
  obtain ⟨k1, k2, k3⟩ := ask_ok hok
  have hus := h2.us
  subst hm
  by_cases hfit : used + secsOf B.length ≤ n - 2
  · have hroom : ((B.length : Nat) : Int) ≤ roomOf n used := by unfold roomOf; unfold secsOf at hfit; omega
    have hbl : B.length < 4294967296 := by unfold roomOf at hroom; omega
    refine (append_anyE W T S lb d ⟨size, L, []⟩ F fr n run base allv used bs h1 k2 k3 k1 hn hus (Nat.lt_trans h2.r62 (by decide)) (Nat.zero_le _) hbs a B B.length c rfl hr hsep hroom).mono ?_
    rintro e w' ⟨⟨er, D', rfl, hws, hcase⟩, hk⟩
    refine ⟨?_, hk⟩
    rcases hcase with ⟨rfl, T', S', allv', hlg, hT'⟩ | ⟨hne, T', S', allv', hlg, hT'⟩
    · left
      have hD := hws.ok rfl
      subst hD
      obtain ⟨q1, q2⟩ := h2.append h3 B hbl (by omega) hfit rfl
      refine ⟨rfl, T', ⟨S', allv', run, base, used + secsOf B.length, _, hlg, q1, q2, ?_, h5, h6, fun x hx => (hT' x hx).elim (h7 x) (fun h => Nat.le_trans hb0 h)⟩, hT'⟩
      unfold LgPrev Oth at h4 ⊢
      rw [List.nil_append, appB_len, Nat.mul_div_cancel _ (by omega : 0 < 512)]
      by_cases h2' : run % 2 = 0
      · rw [if_pos h2'] at h4 ⊢
        rw [laid_wps_at, if_neg (by omega)]
        exact h4
      · rw [if_neg h2'] at h4 ⊢
        rw [laid_wps_at, if_neg (by omega)]
        exact h4
    · right; right
      have h5' : er = 5 := (ws_er hws).resolve_left hne
      subst h5'
      have hdm := fun ps => dead_mix hws h2.len (appB_len run used (lowB B.length 4 ++ B) (secsOf B.length)) ps
      obtain ⟨d1, d2, -, -⟩ := hdm []
      refine ⟨rfl, T', ⟨S', allv', run, base, used, D', hlg, hus, d1, by omega, fun ps => ?_, fun x hx => (hT' x hx).elim (h7 x) (fun h => Nat.le_trans hb0 h)⟩, hT'⟩
      obtain ⟨-, -, d3, d4⟩ := hdm ps
      rcases h2.torn_append (M := (crs D'.last ps D'.pcs).1) h3 (by omega) B hbl (by omega) hfit d3 (fun j hj => by
        obtain ⟨t, ht⟩ := d4 j hj
        rw [sec_app _ _ _ _ _ hj] at ht
        exact ⟨t, ht⟩) with e | e
      · exact .inl ⟨run, base, used, e, h5, h6⟩
      · exact .inr ⟨run, base, _, e, h5, h6⟩
  · refine (append_full W lb d fr n run base allv used h1.row hn (by omega) a B.length c (by unfold roomOf; unfold secsOf at hfit; omega)).mono ?_
    rintro e w' ⟨rfl, hb⟩
    exact ⟨.inr (.inl ⟨rfl, S, allv, run, base, used, L, h1.later hb, h2, h3, h4, h5, h6, h7⟩), KeepA.of_below hb⟩
theorem c_reset (b0 : Nat) (W : World) (T : Nat → Prop) (lb d size : Nat) (fr : Int) (n F r q : Nat) (bs : List (List UInt8)) (h : CLog b0 W T lb d size fr n F r q bs) (hb0 : b0 ≤ W.heap.size) (hok : askW size fr (n : Int) = 0) (hr : r + 1 < 4611686018427387904) :
    Calls Try.prog 14 #[.pointer (some ⟨lb, 0, none⟩)] W fun e w' => ((e = .returned (.int .i64 0) ∧ ∃ T', CLog b0 w' T' lb d size fr n F (r + 1) q [] ∧ ∀ x, T' x → T x ∨ W.heap.size ≤ x) ∨
      (e = .returned (.int .i64 5) ∧ ∃ T', CDead b0 w' T' lb d size fr n F (r + 1) q bs [] ∧ ∀ x, T' x → T x ∨ W.heap.size ≤ x)) ∧ KeepA T W w' := by
  obtain ⟨S, allv, run, base, used, L, h1, h2, h3, h4, h5, h6, h7⟩ := h
  obtain ⟨k1, k2, k3⟩ := ask_ok hok
  refine (reset_any W T S lb d ⟨size, L, []⟩ F fr n run base allv used bs h1 k2 (by show fr + 2 ≤ (size : Int); omega) (Nat.lt_trans h2.r62 (by decide)) (Nat.zero_le _)).mono ?_
  rintro e w' ⟨⟨er, D', rfl, hws, hcase⟩, hk⟩
  refine ⟨?_, hk⟩
  rcases hcase with ⟨rfl, T', S', allv', hlg, hT'⟩ | ⟨hne, T', S', allv', hlg, hT'⟩
  · left
    have hD := hws.ok rfl
    subst hD
    obtain ⟨q1, q2⟩ := h2.reset (by omega) rfl
    exact ⟨rfl, T', ⟨S', allv', run + 1, run + 1, 0, _, hlg, q1, q2, h2.prev rfl, by omega, by omega, fun x hx => (hT' x hx).elim (h7 x) (fun h => Nat.le_trans hb0 h)⟩, hT'⟩
  · right
    have h5' : er = 5 := (ws_er hws).resolve_left hne
    subst h5'
    have hdm := fun ps => dead_mix (c := 1) hws h2.len (by rw [headB_len]) ps
    obtain ⟨d1, d2, -, -⟩ := hdm []
    refine ⟨rfl, T', ⟨S', allv', run, base, used, D', hlg, h2.us, d1, by omega, fun ps => ?_, fun x hx => (hT' x hx).elim (h7 x) (fun h => Nat.le_trans hb0 h)⟩, hT'⟩
    obtain ⟨-, -, d3, d4⟩ := hdm ps
    obtain ⟨t, ht⟩ := d4 0 (by omega)
    rw [sec_whole (headB_len _ _), show ((0 : Nat) : Int) = 0 from rfl, Int.add_zero] at ht
    rcases h2.torn_reset (M := (crs D'.last ps D'.pcs).1) h4 (by omega) (fun k hk2 => d3 k (by omega)) ht with e | e
    · exact .inl ⟨run, base, used, e, by omega, h6⟩
    · exact .inr ⟨run + 1, run + 1, 0, e, by omega, by omega⟩
theorem c_state (b0 : Nat) (W : World) (T : Nat → Prop) (lb d size : Nat) (fr : Int) (n F r q : Nat) (bs : List (List UInt8)) (h : CLog b0 W T lb d size fr n F r q bs) (hn : n ≤ 65536) :
    Calls Try.prog 18 #[.pointer (some ⟨lb, 0, none⟩)] W fun e w' => (∃ x y z : Value, e = .returned (.tuple #[x, y, z, .bool false])) ∧ Below W.heap.size W w' := by
  obtain ⟨S, allv, run, base, used, L, h1, h2, h3, h4, h5, h6, h7⟩ := h
  obtain ⟨av, cv, rfl, -⟩ := h1.bats.toB.at2
  have := h2.us
  refine (state_any W lb d fr n run base av bs.length cv used false h1.row hn (by omega)).mono ?_
  rintro e w' ⟨rfl, hb⟩
  exact ⟨⟨_, _, _, rfl⟩, hb⟩
theorem c_state_dead (b0 : Nat) (W : World) (T : Nat → Prop) (lb d size : Nat) (fr : Int) (n F r q : Nat) (bs alt : List (List UInt8)) (h : CDead b0 W T lb d size fr n F r q bs alt) (hn : n ≤ 65536) :
    Calls Try.prog 18 #[.pointer (some ⟨lb, 0, none⟩)] W fun e w' => (∃ x y z : Value, e = .returned (.tuple #[x, y, z, .bool true])) ∧ Below W.heap.size W w' := by
  obtain ⟨S, allv, run, base, used, D, h1, h2, h3, h4, h5, h6⟩ := h
  obtain ⟨av, cv, rfl, -⟩ := h1.bats.toB.at2
  refine (state_any W lb d fr n run base av bs.length cv used true h1.row hn (by omega)).mono ?_
  rintro e w' ⟨rfl, hb⟩
  exact ⟨⟨_, _, _, rfl⟩, hb⟩
theorem c_append_dead (b0 : Nat) (W : World) (T : Nat → Prop) (lb d size : Nat) (fr : Int) (n F r q : Nat) (bs alt : List (List UInt8)) (h : CDead b0 W T lb d size fr n F r q bs alt) (a : Option Addr) (m c : Nat) :
    Calls Try.prog 12 #[.pointer (some ⟨lb, 0, none⟩), .slice a m c] W fun e w' => e = .returned (.int .i64 10) ∧ w' = W := by
  obtain ⟨S, allv, run, base, used, D, h1, h2, h3, h4, h5, h6⟩ := h
  exact append_dead W lb d fr n run base allv used h1.row a m c
theorem c_reset_dead (b0 : Nat) (W : World) (T : Nat → Prop) (lb d size : Nat) (fr : Int) (n F r q : Nat) (bs alt : List (List UInt8)) (h : CDead b0 W T lb d size fr n F r q bs alt) :
    Calls Try.prog 14 #[.pointer (some ⟨lb, 0, none⟩)] W fun e w' => e = .returned (.int .i64 10) ∧ w' = W := by
  obtain ⟨S, allv, run, base, used, D, h1, h2, h3, h4, h5, h6⟩ := h
  exact reset_dead W lb d fr n run base allv used h1.row
theorem c_tells (b0 : Nat) (W : World) (T : Nat → Prop) (lb d size : Nat) (fr : Int) (n F r q : Nat) (bs : List (List UInt8)) (h : CLog b0 W T lb d size fr n F r q bs) (hn : n ≤ 65536) (hbn : bs.length ≤ 1000000) (hs : ∀ b ∈ bs, b.length ≤ 100000000)
    (a : Option Addr) (m cap : Nat) (hm : m = bs.length) (hw : Rd W a (bs.map strV)) :
    Calls Try.prog 19 #[.pointer (some ⟨lb, 0, none⟩), .slice a m cap] W fun e w' => e = .returned (.bool true) ∧ Below W.heap.size W w' := by
  obtain ⟨S, allv, run, base, used, L, h1, h2, h3, h4, h5, h6, h7⟩ := h
  have := h2.us
  exact tells_any W lb d fr n run base allv used false bs h1.row h1.bats.toB hn (by omega) hbn hs a m cap hm hw
theorem c_tells_dead (b0 : Nat) (W : World) (T : Nat → Prop) (lb d size : Nat) (fr : Int) (n F r q : Nat) (bs alt : List (List UInt8)) (h : CDead b0 W T lb d size fr n F r q bs alt) (hn : n ≤ 65536) (hbn : bs.length ≤ 1000000) (hs : ∀ b ∈ bs, b.length ≤ 100000000)
    (a : Option Addr) (m cap : Nat) (hm : m = bs.length) (hw : Rd W a (bs.map strV)) :
    Calls Try.prog 19 #[.pointer (some ⟨lb, 0, none⟩), .slice a m cap] W fun e w' => e = .returned (.bool true) ∧ Below W.heap.size W w' := by
  obtain ⟨S, allv, run, base, used, D, h1, h2, h3, h4, h5, h6⟩ := h
  exact tells_any W lb d fr n run base allv used true bs h1.row h1.bats.toB hn (by omega) hbn hs a m cap hm hw
/-- The end of a life: what a crash can leave. -/
def CEnd (W : World) (d size : Nat) (fr : Int) (n r q : Nat) (P : List (List UInt8) → Prop) : Prop :=
  ∃ S D F, DkS W S d D F ∧ D.size = size ∧ D.pcs.length ≤ 1000000 ∧ ∀ ps, ∃ bs', P bs' ∧ Holds (crs D.last ps D.pcs).1 fr n r q bs'
theorem CLog.end_ {b0 : Nat} {W : World} {T : Nat → Prop} {lb d size : Nat} {fr : Int} {n F r q : Nat} {bs : List (List UInt8)} (h : CLog b0 W T lb d size fr n F r q bs) {P : List (List UInt8) → Prop} (hP : P bs) : CEnd W d size fr n r q P := by
  obtain ⟨S, allv, run, base, used, L, h1, h2, h3, h4, h5, h6, h7⟩ := h
  exact ⟨S, _, F, h1.dk, rfl, Nat.zero_le _, fun ps => ⟨bs, hP, run, base, used, h2, h5, h6⟩⟩
theorem CDead.end_ {b0 : Nat} {W : World} {T : Nat → Prop} {lb d size : Nat} {fr : Int} {n F r q : Nat} {bs alt : List (List UInt8)} (h : CDead b0 W T lb d size fr n F r q bs alt) {P : List (List UInt8) → Prop} (hP : P bs) (hA : P alt) : CEnd W d size fr n r q P := by
  obtain ⟨S, allv, run, base, used, D, h1, h2, h3, h4, h5, h6⟩ := h
  exact ⟨S, D, F, h1.dk, h3, h4, fun ps => (h5 ps).elim (fun e => ⟨bs, hP, e⟩) (fun e => ⟨alt, hA, e⟩)⟩
theorem CEnd.later {W W' : World} {d size : Nat} {fr : Int} {n r q : Nat} {P : List (List UInt8) → Prop} (h : CEnd W d size fr n r q P) (hb : Below W.heap.size W W') : CEnd W' d size fr n r q P := by
  obtain ⟨S, D, F, h1, h2⟩ := h
  exact ⟨S, D, F, h1.later hb, h2⟩
theorem c_crash (W : World) (d size : Nat) (fr : Int) (n r q : Nat) (P : List (List UInt8) → Prop) (h : CEnd W d size fr n r q P) (a : Option Addr) (l : List Int) (np cap : Nat) (hn : np = l.length) (hnc : np ≤ cap) (hl : RdI W a l) (hn2 : np ≤ 1000000) (hrg : ∀ x ∈ l, x < 9223372036854775808) :
    Calls Try.prog 22 #[.pointer (some ⟨d, 0, none⟩), .slice a np cap] W fun e w' => ((e = .returned (.tuple #[.pointer none, .int .i64 2])) ∨
      ∃ d' S' bs', e = .returned (.tuple #[.pointer (some ⟨d', 0, none⟩), .int .i64 0]) ∧ P bs' ∧ CDisk W.heap.size w' S' d' size fr n r q bs') ∧ Below W.heap.size W w' := by
  obtain ⟨S, D, F, h1, rfl, h3, h4⟩ := h
  cases hall : l.all (fun x => decide (0 ≤ x)) with
  | false =>
    refine (crash_bad W 0 d D F h1.isDk a l np cap hn hnc hl hn2 hall).mono ?_
    rintro e w' ⟨rfl, hb⟩
    exact ⟨.inl rfl, hb⟩
  | true =>
    refine (crash_ok W 0 d D F h1.isDk a l np cap hn hnc hl h3 hn2 hrg hall).mono ?_
    rintro e w' ⟨⟨d', rfl, hd⟩, hb⟩
    obtain ⟨bs', hP, hH⟩ := h4 l
    exact ⟨.inr ⟨d', _, bs', rfl, hP, _, hd.toS, hH, fun x hx => hx⟩, hb⟩
end Go.Proofs.Ytmbpacpkabbcgaa
