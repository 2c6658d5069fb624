/- A log that lies on a disk, as the laws of lexiconlaw03 meet it: what each call does. -/
import Derived.Test.YtmbpacpkabbcgaaWlLaw
import Derived.Test.YtmbpacpkabbcgaaWlMid
import Derived.Test.YtmbpacpkabbcgaaWlTells
namespace Go.Proofs.Ytmbpacpkabbcgaa
open Go.RowKit

theorem LgAt.disk {w : World} {T S : Nat → Prop} {lb d : Nat} {D : DK} {F : Nat} {from_ : Int} {n run base : Nat} {allv : Value} {used : Nat} {dead : Bool} {bs : List (List UInt8)} (h : LgAt w T S lb d D F from_ n run base allv used dead bs) : DkS w S d D F ∧ ∀ x, S x → x < w.heap.size :=
  ⟨h.dk, fun x hx => h.lt x (h.sub x hx)⟩
/-- A disk that holds a log. -/
def PDisk (b0 : Nat) (W : World) (S : Nat → Prop) (d size : Nat) (fr : Int) (n F run used : Nat) (bs : List (List UInt8)) : Prop :=
  ∃ base L, DkS W S d ⟨size, L, []⟩ F ∧ LgI L fr n run base used bs ∧ ∀ x, S x → b0 ≤ x ∧ x < W.heap.size
/-- A log that is open. -/
def PLog (b0 : Nat) (W : World) (T : Nat → Prop) (lb d size : Nat) (fr : Int) (n F run used : Nat) (bs : List (List UInt8)) : Prop :=
  ∃ S allv base L, LgAt W T S lb d ⟨size, L, []⟩ F fr n run base allv used false bs ∧ LgI L fr n run base used bs ∧ LgFree L fr n run used ∧ ∀ x, T x → b0 ≤ x
/-- A log that died while some bytes were written. -/
def PDead (b0 : Nat) (W : World) (T : Nat → Prop) (lb d size : Nat) (fr : Int) (n F run used : Nat) (bs : List (List UInt8)) (B : Nat → Int × List UInt8) : Prop :=
  ∃ S allv base L D', LgAt W T S lb d D' F fr n run base allv used true bs ∧ LgI L fr n run base used bs ∧ LgFree L fr n run used ∧ (∀ x, T x → b0 ≤ x) ∧ WS F ⟨size, L, []⟩ (B base).1 (B base).2 5 D'
theorem PDisk.keep {b0 : Nat} {W W' : World} {S X : Nat → Prop} {d size : Nat} {fr : Int} {n F run used : Nat} {bs : List (List UInt8)} (h : PDisk b0 W S d size fr n F run used bs) (hk : KeepA X W W') (hx : ∀ x, S x → ¬ X x) : PDisk b0 W' S d size fr n F run used bs := by
  obtain ⟨base, L, h1, h2, h3⟩ := h
  exact ⟨base, L, h1.keep hk hx, h2, fun x hx => ⟨(h3 x hx).1, Nat.lt_of_lt_of_le (h3 x hx).2 hk.size⟩⟩
theorem PDisk.later {b0 : Nat} {W W' : World} {S : Nat → Prop} {d size : Nat} {fr : Int} {n F run used : Nat} {bs : List (List UInt8)} (h : PDisk b0 W S d size fr n F run used bs) (hb : Below W.heap.size W W') : PDisk b0 W' S d size fr n F run used bs :=
  h.keep (KeepA.of_below (X := fun _ => False) hb) fun _ _ h => h
theorem PLog.keep {b0 : Nat} {W W' : World} {T X : Nat → Prop} {lb d size : Nat} {fr : Int} {n F run used : Nat} {bs : List (List UInt8)} (h : PLog b0 W T lb d size fr n F run used bs) (hk : KeepA X W W') (hx : ∀ x, T x → ¬ X x) : PLog b0 W' T lb d size fr n F run used bs := by
  obtain ⟨S, allv, base, L, h1, h2⟩ := h
  exact ⟨S, allv, base, L, h1.keep hk hx, h2⟩
theorem PLog.later {b0 : Nat} {W W' : World} {T : Nat → Prop} {lb d size : Nat} {fr : Int} {n F run used : Nat} {bs : List (List UInt8)} (h : PLog b0 W T lb d size fr n F run used bs) (hb : Below W.heap.size W W') : PLog b0 W' T lb d size fr n F run used bs :=
  h.keep (KeepA.of_below (X := fun _ => False) hb) fun _ _ h => h
theorem PLog.lt {b0 : Nat} {W : World} {T : Nat → Prop} {lb d size : Nat} {fr : Int} {n F run used : Nat} {bs : List (List UInt8)} (h : PLog b0 W T lb d size fr n F run used bs) : ∀ x, T x → b0 ≤ x ∧ x < W.heap.size := by
  obtain ⟨S, allv, base, L, h1, _, _, h2⟩ := h
  exact fun x hx => ⟨h2 x hx, h1.lt x hx⟩
theorem PLog.disk {b0 : Nat} {W : World} {T : Nat → Prop} {lb d size : Nat} {fr : Int} {n F run used : Nat} {bs : List (List UInt8)} (h : PLog b0 W T lb d size fr n F run used bs) : ∃ S, PDisk b0 W S d size fr n F run used bs ∧ ∀ x, S x → T x := by
  obtain ⟨S, allv, base, L, h1, h2, _, h3⟩ := h
  exact ⟨S, ⟨base, L, h1.dk, h2, fun x hx => ⟨h3 x (h1.sub x hx), h1.lt x (h1.sub x hx)⟩⟩, h1.sub⟩
theorem PLog.used_le {b0 : Nat} {W : World} {T : Nat → Prop} {lb d size : Nat} {fr : Int} {n F run used : Nat} {bs : List (List UInt8)} (h : PLog b0 W T lb d size fr n F run used bs) : used ≤ n - 2 := by
  obtain ⟨S, allv, base, L, _, h2, _, _⟩ := h
  exact h2.us
theorem ask_ok {size : Nat} {fr : Int} {n : Nat} (h : askW size fr (n : Int) = 0) : 4 ≤ n ∧ 0 ≤ fr ∧ fr + (n : Int) ≤ (size : Int) := by
  unfold askW at h
  split at h
  · cases h
  · split at h
    · cases h
    · omega
theorem laid_nil (L : Int → List UInt8) : laid L [] = L := rfl
theorem pl_format (b0 : Nat) (W : World) (S : Nat → Prop) (d size : Nat) (L : Int → List UInt8) (fr : Int) (n : Nat) (h : DkS W S d ⟨size, L, []⟩ 0) (hS : ∀ x, S x → b0 ≤ x ∧ x < W.heap.size) (hb0 : b0 ≤ W.heap.size) (hok : askW size fr (n : Int) = 0) :
    Calls Try.prog 9 #[.pointer (some ⟨d, 0, none⟩), .int .i64 fr, .int .i64 (n : Int)] W fun e w' => e = .returned (.int .i64 0) ∧ (∃ S', PDisk b0 w' S' d size fr n 0 1 0 [] ∧ ∀ x, S' x → S x ∨ W.heap.size ≤ x) ∧ KeepA S W w' := by
  refine (format_any W S d ⟨size, L, []⟩ 0 fr n h (fun x hx => (hS x hx).2) hok (Nat.zero_le _)).mono ?_
  rintro e w' ⟨⟨er, D', rfl, hws, hdk⟩, hk⟩
  have h0 := hws.1 rfl
  subst h0
  have hD := hws.ok rfl
  subst hD
  rw [List.nil_append] at hdk
  refine ⟨rfl, ⟨_, ⟨1, _, hdk, (LgI.format h.sec (ask_ok hok).1 rfl).1, fun x hx => ?_⟩, fun x hx => hx.imp id And.left⟩, hk⟩
  rcases hx with hx | hx
  · exact ⟨(hS x hx).1, Nat.lt_of_lt_of_le (hS x hx).2 hk.size⟩
  · exact ⟨Nat.le_trans hb0 hx.1, hx.2⟩
theorem pl_open (b0 : Nat) (W : World) (S : Nat → Prop) (d size : Nat) (fr : Int) (n run used : Nat) (bs : List (List UInt8)) (h : PDisk b0 W S d size fr n 0 run used bs) (hb0 : b0 ≤ W.heap.size) (hok : askW size fr (n : Int) = 0) (hr : run + 1 < 4611686018427387904) :
    Calls Try.prog 10 #[.pointer (some ⟨d, 0, none⟩), .int .i64 fr, .int .i64 (n : Int)] W fun e w' => (∃ lb, e = .returned (.tuple #[.pointer (some ⟨lb, 0, none⟩), .int .i64 0]) ∧ ∃ T', PLog b0 w' T' lb d size fr n 0 (run + 1) used bs ∧ ∀ x, T' x → S x ∨ W.heap.size ≤ x) ∧ KeepA S W w' := by
  obtain ⟨base, L, h1, h2, h3⟩ := h
  have ho := open_any W S d ⟨size, L, []⟩ 0 fr n h1 (fun x hx => (h3 x hx).2) hok (Nat.zero_le _)
  rw [show laid (DK.last ⟨size, L, []⟩) (DK.pcs ⟨size, L, []⟩) = L from rfl, h2.look] at ho
  refine ho.mono ?_
  rintro e w' (⟨hbad, _⟩ | ⟨_, hk, er, D', hws, hcase⟩)
  · omega
  · have h0 := hws.1 rfl
    subst h0
    rcases hcase with ⟨_, lb, rfl, hlb, T', S', allv, hlg, hT'⟩ | ⟨hne, _⟩
    · have hD := hws.ok rfl
      subst hD
      obtain ⟨q1, q2⟩ := h2.open hr rfl
      exact ⟨⟨lb, rfl, T', ⟨S', allv, base, _, hlg, q1, q2, fun x hx => (hT' x hx).elim (fun h => (h3 x h).1) (fun h => Nat.le_trans hb0 h)⟩, hT'⟩, hk⟩
    · exact absurd rfl hne
theorem pl_look (b0 : Nat) (W : World) (S : Nat → Prop) (d size : Nat) (fr : Int) (n F run used : Nat) (bs : List (List UInt8)) (h : PDisk b0 W S d size fr n F run used bs) (hok : askW size fr (n : Int) = 0) :
    Calls Try.prog 11 #[.pointer (some ⟨d, 0, none⟩), .int .i64 fr, .int .i64 (n : Int)] W fun e w' => (∃ v, e = .returned (.tuple #[v, .int .i64 0]) ∧ Bats w' W.heap.size v bs) ∧ Below W.heap.size W w' := by
  obtain ⟨base, L, h1, h2, h3⟩ := h
  have ho := wlook_any W S d ⟨size, L, []⟩ F fr n h1 hok (Nat.zero_le _)
  rw [show laid (DK.last ⟨size, L, []⟩) (DK.pcs ⟨size, L, []⟩) = L from rfl, h2.look] at ho
  refine ho.mono ?_
  rintro e w' ⟨hb, v, rfl, hv⟩
  exact ⟨⟨v, rfl, hv⟩, hb⟩
theorem ws_er {F : Nat} {D : DK} {at_ : Int} {B : List UInt8} {er : Int} {D' : DK} (h : WS F D at_ B er D') : er = 0 ∨ er = 5 := by
  rcases h.2 with ⟨h, _⟩ | ⟨k, _, hf, _⟩
  · exact .inr h
  · rcases hf with ⟨h, _⟩ | h
    · exact .inl h
    · exact .inr h
theorem pl_append (b0 : Nat) (W : World) (T : Nat → Prop) (lb d size : Nat) (fr : Int) (n F run used : Nat) (bs : List (List UInt8)) (h : PLog b0 W T lb d size fr n F run used bs) (hb0 : b0 ≤ W.heap.size) (hok : askW size fr (n : Int) = 0) (hn : n ≤ 65536) (hbs : bs.length ≤ 900000)
    (a : Option Addr) (B : List UInt8) (m c : Nat) (hm : m = B.length) (hr : RdB W a B) (hsep : ∀ ad, a = some ad → ¬ T ad.block) (hfit : used + secsOf m ≤ n - 2) :
    Calls Try.prog 12 #[.pointer (some ⟨lb, 0, none⟩), .slice a m c] W fun e w' => ((e = .returned (.int .i64 0) ∧ ∃ T', PLog b0 w' T' lb d size fr n F run (used + secsOf m) (bs ++ [B]) ∧ ∀ x, T' x → T x ∨ W.heap.size ≤ x) ∨
      (F ≠ 0 ∧ e = .returned (.int .i64 5) ∧ ∃ T', PDead b0 w' T' lb d size fr n F run used bs (fun _ => (fr + 2 + (used : Int), appB run used (lowB B.length 4 ++ B) (secsOf B.length))) ∧ ∀ x, T' x → T x ∨ W.heap.size ≤ x)) ∧ KeepA T W w' := by
  obtain ⟨S, allv, base, L, h1, h2, h3, h4⟩ := h
  obtain ⟨k1, k2, k3⟩ := ask_ok hok
  subst hm
  have hroom : ((B.length : Nat) : Int) ≤ roomOf n used := by unfold roomOf; unfold secsOf at hfit; omega
  have hbl : B.length < 4294967296 := by unfold roomOf at hroom; omega
  refine (append_any W T S lb d ⟨size, L, []⟩ F fr n run base allv used bs h1 k2 k3 k1 hn h2.us (Nat.lt_trans h2.r62 (by decide)) (Nat.zero_le _) hbs a B B.length c rfl hr hsep hroom).mono ?_
  rintro e w' ⟨⟨er, D', rfl, hws, hcase⟩, hk⟩
  refine ⟨?_, hk⟩
  rcases hcase with ⟨rfl, T', S', allv', hlg, hT'⟩ | ⟨hne, T', S', allv', hlg, hT'⟩
  · left
    have hD := hws.ok rfl
    subst hD
    obtain ⟨q1, q2⟩ := h2.append h3 B hbl (by omega) hfit rfl
    exact ⟨rfl, T', ⟨S', allv', base, _, hlg, q1, q2, fun x hx => (hT' x hx).elim (h4 x) (fun h => Nat.le_trans hb0 h)⟩, hT'⟩
  · right
    have h5 : er = 5 := (ws_er hws).resolve_left hne
    subst h5
    exact ⟨fun hF => hne (hws.1 hF), rfl, T', ⟨S', allv', base, L, D', hlg, h2, h3, fun x hx => (hT' x hx).elim (h4 x) (fun h => Nat.le_trans hb0 h), hws⟩, hT'⟩
theorem pl_full (b0 : Nat) (W : World) (T : Nat → Prop) (lb d size : Nat) (fr : Int) (n F run used : Nat) (bs : List (List UInt8)) (h : PLog b0 W T lb d size fr n F run used bs) (hok : askW size fr (n : Int) = 0) (hn : n ≤ 65536)
    (a : Option Addr) (m c : Nat) (hfit : ¬ used + secsOf m ≤ n - 2) :
    Calls Try.prog 12 #[.pointer (some ⟨lb, 0, none⟩), .slice a m c] W fun e w' => e = .returned (.int .i64 6) ∧ Below W.heap.size W w' := by
  obtain ⟨S, allv, base, L, h1, h2, h3, h4⟩ := h
  obtain ⟨k1, k2, k3⟩ := ask_ok hok
  have := h2.us
  exact append_full W lb d fr n run base allv used h1.row hn (by omega) a m c (by unfold roomOf; unfold secsOf at hfit; omega)
theorem pl_reset (b0 : Nat) (W : World) (T : Nat → Prop) (lb d size : Nat) (fr : Int) (n F run used : Nat) (bs : List (List UInt8)) (h : PLog b0 W T lb d size fr n F run used bs) (hb0 : b0 ≤ W.heap.size) (hok : askW size fr (n : Int) = 0) (hr : run + 1 < 4611686018427387904) :
    Calls Try.prog 14 #[.pointer (some ⟨lb, 0, none⟩)] W fun e w' => ((e = .returned (.int .i64 0) ∧ ∃ T', PLog b0 w' T' lb d size fr n F (run + 1) 0 [] ∧ ∀ x, T' x → T x ∨ W.heap.size ≤ x) ∨
      (F ≠ 0 ∧ e = .returned (.int .i64 5) ∧ ∃ T', PDead b0 w' T' lb d size fr n F run used bs (fun _ => (fr + (((run + 1) % 2 : Nat) : Int), headB (run + 1) (run + 1))) ∧ ∀ x, T' x → T x ∨ W.heap.size ≤ x)) ∧ KeepA T W w' := by
  obtain ⟨S, allv, base, L, h1, h2, h3, h4⟩ := h
  obtain ⟨k1, k2, k3⟩ := ask_ok hok
  refine (reset_any W T S lb d ⟨size, L, []⟩ F fr n run base allv used bs h1 k2 (by show fr + 2 ≤ (size : Int); omega) (Nat.lt_trans h2.r62 (by decide)) (Nat.zero_le _)).mono ?_
  rintro e w' ⟨⟨er, D', rfl, hws, hcase⟩, hk⟩
  refine ⟨?_, hk⟩
  rcases hcase with ⟨rfl, T', S', allv', hlg, hT'⟩ | ⟨hne, T', S', allv', hlg, hT'⟩
  · left
    have hD := hws.ok rfl
    subst hD
    obtain ⟨q1, q2⟩ := h2.reset hr rfl
    exact ⟨rfl, T', ⟨S', allv', run + 1, _, hlg, q1, q2, fun x hx => (hT' x hx).elim (h4 x) (fun h => Nat.le_trans hb0 h)⟩, hT'⟩
  · right
    have h5 : er = 5 := (ws_er hws).resolve_left hne
    subst h5
    exact ⟨fun hF => hne (hws.1 hF), rfl, T', ⟨S', allv', base, L, D', hlg, h2, h3, fun x hx => (hT' x hx).elim (h4 x) (fun h => Nat.le_trans hb0 h), hws⟩, hT'⟩
theorem pl_state (b0 : Nat) (W : World) (T : Nat → Prop) (lb d size : Nat) (fr : Int) (n F run used : Nat) (bs : List (List UInt8)) (h : PLog b0 W T lb d size fr n F run used bs) (hn : n ≤ 65536) :
    Calls Try.prog 18 #[.pointer (some ⟨lb, 0, none⟩)] W fun e w' => e = .returned (.tuple #[.int .i64 (bs.length : Int), .int .i64 (max 0 (roomOf n used)), .int .u64 (run : Int), .bool false]) ∧ Below W.heap.size W w' := by
  obtain ⟨S, allv, base, L, h1, h2, h3, h4⟩ := h
  obtain ⟨av, cv, rfl, -⟩ := h1.bats.toB.at2
  have := h2.us
  exact state_any W lb d fr n run base av bs.length cv used false h1.row hn (by omega)
theorem pl_tells (b0 : Nat) (W : World) (T : Nat → Prop) (lb d size : Nat) (fr : Int) (n F run used : Nat) (bs : List (List UInt8)) (h : PLog b0 W T lb d size fr n F run used bs) (hn : n ≤ 65536) (hbn : bs.length ≤ 1000000) (hs : ∀ b ∈ bs, b.length ≤ 100000000)
    (a : Option Addr) (m cap : Nat) (hm : m = bs.length) (hw : Rd W a (bs.map strV)) :
    Calls Try.prog 19 #[.pointer (some ⟨lb, 0, none⟩), .slice a m cap] W fun e w' => e = .returned (.bool true) ∧ Below W.heap.size W w' := by
  obtain ⟨S, allv, base, L, h1, h2, h3, h4⟩ := h
  have := h2.us
  exact tells_any W lb d fr n run base allv used false bs h1.row h1.bats.toB hn (by omega) hbn hs a m cap hm hw
end Go.Proofs.Ytmbpacpkabbcgaa
