/- The state of refs.Order's later loops, plainly. -/
import Derived.Test.YtcakdjnnfonijaaRoOrd2
namespace Go.Proofs.Ytcakdjnnfonijaa
open Go.RowKit

def phi0 (x : Rf × List Rf) : Int := (x.2.length : Int)
section
variable {w1 w w' : World} {g gh q : Nat} {L : List (Rf × List Rf)} {v v' : Value} {H H' : List Rf} {ov ov' : Value} {o o' : List Rf} {φ φ' : Rf × List Rf → Int}
theorem OrdSt.congr (h : OrdSt w1 w g gh q L v H ov o φ) (e : ∀ x ∈ L, φ x = φ' x) : OrdSt w1 w g gh q L v H ov o φ' :=
  ⟨h.hp, h.is, h.low, h.ghl, h.out, h.olow, h.box, h.sq, h.ql, h.keep, h.lf.eqf fun u => keyF_congr e u, h.gl⟩
theorem OrdSt.start (hm : MapR w1 g rfV (keyF L φ)) {W : World} (hW : (((w1.alloc (.cells #[] 25)).alloc (.cells #[.slice (some ⟨w1.heap.size, 0, none⟩) 0 0] 59)).alloc (.cells #[.pointer (some ⟨w1.heap.size + 1, 0, none⟩)] 58)) = W) :
    OrdSt w1 W g (w1.heap.size + 1) (w1.heap.size + 2) L (.slice (some ⟨w1.heap.size, 0, none⟩) 0 0) [] (.slice none 0 0) [] φ ∧ Below w1.heap.size w1 W ∧ W.heap.size = w1.heap.size + 3 := by
  obtain ⟨wa, ha⟩ : ∃ y, w1.alloc (.cells #[] 25) = y := ⟨_, rfl⟩
  obtain ⟨wb, hb⟩ : ∃ y, wa.alloc (.cells #[.slice (some ⟨w1.heap.size, 0, none⟩) 0 0] 59) = y := ⟨_, rfl⟩
  rw [ha, hb] at hW
  have sa : wa.heap.size = w1.heap.size + 1 := by rw [← ha]; simp
  have sb : wb.heap.size = w1.heap.size + 2 := by rw [← hb]; simp [sa]
  have sW : W.heap.size = w1.heap.size + 3 := by rw [← hW]; simp [sb]
  have ba : Below w1.heap.size w1 wa := by rw [← ha]; exact below_alloc _
  have bb : Below wa.heap.size wa wb := by rw [← hb]; exact below_alloc _
  have bW : Below wb.heap.size wb W := by rw [← hW]; exact below_alloc _
  have bbW := below_trans bb bW
  have all := below_trans ba bbW
  have h0 : W.heap[w1.heap.size]? = some (.cells #[] 25 (0, 0)) := by
    rw [bbW.block _ (by omega), ← ha]
    exact heap_alloc_new w1 _
  have h1 : RowAt W (w1.heap.size + 1) 59 #[.slice (some ⟨w1.heap.size, 0, none⟩) 0 0] := by
    refine RowAt.below (w := wb) ?_ bW
    have := RowAt.new wa 59 #[.slice (some ⟨w1.heap.size, 0, none⟩) 0 0]
    rw [hb, sa] at this
    exact this
  have h2 : RowAt W (w1.heap.size + 2) 58 #[.pointer (some ⟨w1.heap.size + 1, 0, none⟩)] := by
    have := RowAt.new wb 58 #[.pointer (some ⟨w1.heap.size + 1, 0, none⟩)]
    rw [hW, sb] at this
    exact this
  have hown : OwnRf W (.slice (some ⟨w1.heap.size, 0, none⟩) 0 0) [] := ⟨rfl, .inr ⟨w1.heap.size, 0, #[], rfl, Nat.zero_le _, h0, Nat.le_refl _, Nat.zero_le _, rfl, rfl⟩⟩
  have hob : ∀ p, (Value.slice (some ⟨w1.heap.size, 0, none⟩) 0 0).ownBlock = some p → p = w1.heap.size := fun p hp => (Option.some.inj hp).symm
  refine ⟨⟨⟨h1, hown, fun e => by have := hob _ e; omega⟩, fun k _ hk => absurd hk (Nat.not_lt_zero _), fun p hp => by rw [hob p hp]; exact Nat.le_refl _, by omega, OwnRf.nil W, fun p hp => by simp [Value.ownBlock] at hp, h2, ⟨by omega, by omega, fun e => by have := hob _ e; omega⟩, by omega, KeepA.of_below all, hm.same (all.block g hm.lt), hm.lt⟩, all, sW⟩
/-- Another block changes. -/
theorem OrdSt.other (h : OrdSt w1 w g gh q L v H ov o φ) {p : Nat} (hp : Safe w gh v p) (hq : p ≠ q) (ho : ov.ownBlock ≠ some p) (hl : w1.heap.size ≤ p) (hk : KeepA (fun k => k = p) w w') : OrdSt w1 w' g gh q L v H ov o φ := by
  have hs := h.size
  refine ⟨h.hp.keep hk (fun e => hp.2.1 e.symm) (fun b hb e => hp.2.2 (by rw [hb, e])), h.is, h.low, h.ghl, h.out.keep hk (fun b hb e => ho (by rw [hb, e])), fun b hb => ⟨(h.olow b hb).1, (h.olow b hb).2.1, (h.olow b hb).2.2.later hk.size⟩, (hk.same q h.sq.1 (fun e => hq e.symm)).trans h.box, h.sq.later hk.size, h.ql, ?_, h.lf.same (hk.same g h.lf.lt (fun e => by have := h.gl; omega)), h.gl⟩
  exact ⟨hk.os.trans h.keep.os, hk.tape.trans h.keep.tape, hk.output.trans h.keep.output, Nat.le_trans h.keep.size hk.size, fun k hk' hx => (hk.same k (Nat.lt_of_lt_of_le hk' hs) (fun e => by omega)).trans (h.keep.same k hk' hx)⟩
/-- The loop that pushes those without targets. -/
structure PushSt (w1 w : World) (g gh q r : Nat) (L : List (Rf × List Rf)) (v : Value) (H S : List Rf) : Prop where
  st : OrdSt w1 w g gh q L v H (.slice none 0 0) [] phi0
  it : ItF w r g rfV (keyF L phi0) S
  rs : Safe w gh v r
  rl : w1.heap.size ≤ r
  rq : r ≠ q
  nd : H.Nodup
  me : ∀ u, u ∈ H ↔ u ∈ S ∧ ∃ x ∈ L, x.1 = u ∧ x.2.length = 0
theorem PushSt.start (h : OrdSt w1 w g gh q L v [] (.slice none 0 0) [] phi0) {r : Nat} (hr : w.heap.size = r) (hb : Below w.heap.size w w') (it : ItF w' r g rfV (keyF L phi0) []) : PushSt w1 w' g gh q r L v [] [] := by
  have hl := h.later hb
  refine ⟨hl, it, ⟨it.lt.1, ?_, ?_⟩, by rw [← hr]; exact h.size, fun e => ?_, List.nodup_nil, fun u => by simp⟩
  · intro e
    have := h.hp.lt; omega
  · intro e
    have := h.hp.own.lt e; omega
  · have := h.sq.1; omega
variable {r : Nat} {S : List Rf}
theorem PushSt.at (h : PushSt w1 w g gh q r L v H S) {wk : World} (hk : KeepA (fun x => x = r) w wk) {W : World} (hb : Below wk.heap.size wk W) : OrdSt w1 W g gh q L v H (.slice none 0 0) [] phi0 := (h.st.other h.rs h.rq (by simp [Value.ownBlock]) h.rl hk).later hb
/-- One more was handed out. -/
theorem PushSt.skip (h : PushSt w1 w g gh q r L v H S) {k : Rf} {wk : World} (hk : KeepA (fun x => x = r) w wk) (hit : ItF wk r g rfV (keyF L phi0) (S ++ [k])) (hn : ∀ x ∈ L, x.1 = k → x.2.length ≠ 0) {W : World} (hb : Below wk.heap.size wk W) : PushSt w1 W g gh q r L v H (S ++ [k]) ∧ itLeft W r = itLeft wk r := by
  obtain ⟨q1, q2⟩ := hit.later hb
  refine ⟨⟨(h.st.other h.rs h.rq (by simp [Value.ownBlock]) h.rl hk).later hb, q1, h.rs.later (Nat.le_trans hk.size hb.size), h.rl, h.rq, h.nd, fun u => ?_⟩, q2⟩
  rw [h.me u, List.mem_append, List.mem_singleton]
  constructor
  · rintro ⟨a, b⟩
    exact ⟨.inl a, b⟩
  · rintro ⟨a | a, x, hx, e, hz⟩
    · exact ⟨a, x, hx, e, hz⟩
    · exact absurd hz (hn x hx (e.trans a))
theorem PushSt.push (h : PushSt w1 w g gh q r L v H S) {k : Rf} {wk : World} (hkS : k ∉ S) (hk : KeepA (fun x => x = r) w wk) (hit : ItF wk r g rfV (keyF L phi0) (S ++ [k])) (hz : ∃ x ∈ L, x.1 = k ∧ x.2.length = 0) {W : World} (hb : Below wk.heap.size wk W) {W' : World} {v' : Value} {H' : List Rf}
    (h1 : HpAt W' gh v' H') (h2 : H'.Perm (k :: H)) (h3 : IsHp ltR H' H'.length) (h4 : HUp W gh v W' v') : PushSt w1 W' g gh q r L v' H' (S ++ [k]) ∧ itLeft W' r = itLeft wk r := by
  obtain ⟨q1, q2⟩ := hit.later hb
  have hst := (h.st.other h.rs h.rq (by simp [Value.ownBlock]) h.rl hk).later hb
  have hrs := h.rs.later (Nat.le_trans hk.size hb.size)
  have hst' := hst.heap h1 h3 h4
  have hlow := (h4.low hst.ghl hst.low hst.size).2
  obtain ⟨r1, r2⟩ := h4.safe hrs
  obtain ⟨q3, q4⟩ := q1.same r2 (hlow g hst.gl)
  refine ⟨⟨hst', q3, r1, h.rl, h.rq, (h2.nodup_iff).2 (List.nodup_cons.2 ⟨fun hm => hkS ((h.me k).1 hm).1, h.nd⟩), fun u => ?_⟩, q4.trans q2⟩
  rw [h2.mem_iff, List.mem_cons, h.me u, List.mem_append, List.mem_singleton]
  constructor
  · rintro (a | ⟨a, b⟩)
    · subst a
      exact ⟨.inr rfl, hz⟩
    · exact ⟨.inl a, b⟩
  · rintro ⟨a | a, b⟩
    · exact .inr ⟨a, b⟩
    · exact .inl a
theorem PushSt.len (h : PushSt w1 w g gh q r L v H S) : H.length ≤ L.length := wait_len h.nd fun u hu => by
  obtain ⟨-, x, hx, e, -⟩ := (h.me u).1 hu
  exact ⟨x, hx, e⟩
/-- The main loop's state. -/
structure MainSt (w1 w : World) (g gh q : Nat) (L : List (Rf × List Rf)) (v : Value) (H : List Rf) (ov : Value) (o : List Rf) : Prop where
  st : OrdSt w1 w g gh q L v H ov o (fun x => (cnt o x : Int))
  ih : InH L o H
  re : Reach ltR L o
theorem PushSt.main (h : PushSt w1 w g gh q r L v H S) (hall : ∀ k z, keyF L phi0 k = some z → k ∈ S) (hL : (L.map (·.1)).Nodup) {W : World} (hb : Below w.heap.size w W) : MainSt w1 W g gh q L v H (.slice none 0 0) [] := by
  refine ⟨(h.st.congr fun x _ => by unfold phi0; rw [cnt_nil]).later hb, InH.first h.nd fun u => ?_, .nil⟩
  rw [h.me u]
  constructor
  · exact fun a => a.2
  · rintro ⟨x, hx, e, hz⟩
    exact ⟨by rw [← e]; exact hall x.1 _ (keyF_mem hL hx), x, hx, e, hz⟩
theorem MainSt.len (h : MainSt w1 w g gh q L v H ov o) : H.length ≤ L.length := wait_len h.ih.1 fun u hu => by
  obtain ⟨x, hx, e, -⟩ := (h.ih.2 u).1 hu
  exact ⟨x, hx, e⟩
theorem MainSt.pick (h : MainSt w1 w g gh q L v H ov o) (hlen : 0 < H.length) : Go.Proofs.Ytcakdjnnfonijaa.pick ltR L o = some (hp H 0) := by
  refine InH.pick totR h.ih (by rw [show hp H 0 = H[0] from hp_get hlen]; exact List.getElem_mem _) fun u hu => ?_
  obtain ⟨k, hk, e⟩ := List.mem_iff_getElem.1 hu
  have := IsHp.least totR h.st.is k hk
  rw [hp_get hk, e] at this
  exact this
theorem MainSt.fin (h : MainSt w1 w g gh q L v [] ov o) (hg : goodL L L.length) (h3 : ¬ ∃ x ∈ L, tgt x.2 = 3) (h7 : ¬ ∃ x ∈ L, ∃ t ∈ x.2, t ∉ L.map (·.1)) : ordR ltR L = if o.length < L.length then ([], 331) else (o, 0) := by
  rw [ordR_topo hg h3 h7, h.re.end_ totR (InH.none totR h.ih)]
  by_cases hl : o.length < L.length
  · rw [if_pos hl, if_pos hl]
  · rw [if_neg hl, if_neg hl]
/-- One is told; j of those behind it are done. -/
structure TellSt (w1 w : World) (g gh q : Nat) (L : List (Rf × List Rf)) (v : Value) (H : List Rf) (ov : Value) (o : List Rf) (u : Rf) (j : Nat) : Prop where
  st : OrdSt w1 w g gh q L v H ov (o ++ [u]) (fun x => (leftJ L o u j x : Int))
  ij : InJ L o u j H
  pk : Go.Proofs.Ytcakdjnnfonijaa.pick ltR L o = some u
  re : Reach ltR L o
theorem MainSt.tell (h : MainSt w1 w g gh q L v H ov o) (hlen : 0 < H.length) {u : Rf} (hu : hp H 0 = u) {w2 w4 w5 : World} {v2 : Value} {H2 : List Rf} (h1 : HpAt w2 gh v2 H2) (h2 : H.Perm (u :: H2)) (h3 : IsHp ltR H2 H2.length) (h4 : HUp w gh v w2 v2) (hb : Below w2.heap.size w2 w4)
    (ho : OwnRf w5 ov' (o ++ [u])) (hg : w4.grownBy w5 ov.ownBlock) (hn : NewRow w4 ov ov') : TellSt w1 w5 g gh q L v2 H2 ov' o u 0 :=
  ⟨((((h.st.heap h1 h3 h4).later hb).told ho hg hn).congr fun x _ => by rw [leftJ_zero]), h.ih.start h2, by rw [h.pick hlen, hu], h.re⟩
variable {u : Rf} {j : Nat}
theorem TellSt.not (h : TellSt w1 w g gh q L v H ov o u j) : u ∉ o := by
  obtain ⟨⟨x, -, rfl, hr⟩, -⟩ := pick_some totR h.pk
  exact (rdyB_iff.1 hr).1
theorem TellSt.mid (h : TellSt w1 w g gh q L v H ov o u j) (hL : Lks L) (hj : j < (behd L u).length) {x : Rf × List Rf} (hx : x ∈ L) (he : x.1 = (behd L u)[j]) {wa wb : World} (kb : Below w.heap.size w wa) (hk : KeepA (fun k => k = g) wa wb) {c : Int} (hc : c = (leftJ L o u (j + 1) x : Int))
    (hm : MapR wb g rfV (fun y => if y = x.1 then some (.int .i64 c) else keyF L (fun x => (leftJ L o u j x : Int)) y)) : OrdSt w1 wb g gh q L v H ov (o ++ [u]) (fun x => (leftJ L o u (j + 1) x : Int)) := by
  refine (h.st.later kb).left hk (hm.eqf fun y => ?_)
  refine keyF_upd (φ := fun x => (leftJ L o u j x : Int)) (φ' := fun x => (leftJ L o u (j + 1) x : Int)) hL.one hx hc.symm (fun z hz hne => ?_) y
  rw [(leftJ_step hL h.not hj hz).2 (by rw [← he]; exact hne)]
theorem TellSt.val (h : TellSt w1 w g gh q L v H ov o u j) (hL : Lks L) (hj : j < (behd L u).length) {x : Rf × List Rf} (hx : x ∈ L) (he : x.1 = (behd L u)[j]) :
    (keyF L (fun x => (leftJ L o u j x : Int)) x.1).getD (.int .i64 0) = .int .i64 (leftJ L o u j x : Int) ∧ leftJ L o u j x = leftJ L o u (j + 1) x + 1 ∧ leftJ L o u j x ≤ x.2.length := by
  rw [keyF_mem hL.one hx]
  obtain ⟨s1, s2, s3⟩ := (leftJ_step hL h.not hj hx).1 he
  refine ⟨rfl, by omega, ?_⟩
  rw [s1]
  unfold cnt
  exact List.length_filter_le _ _
theorem TellSt.next (h : TellSt w1 w g gh q L v H ov o u j) (hL : Lks L) (hj : j < (behd L u).length) {x : Rf × List Rf} (hx : x ∈ L) (he : x.1 = (behd L u)[j]) {wb W : World} (hs : OrdSt w1 wb g gh q L v H ov (o ++ [u]) (fun x => (leftJ L o u (j + 1) x : Int))) (hn : leftJ L o u (j + 1) x ≠ 0) (hb : Below wb.heap.size wb W) : TellSt w1 W g gh q L v H ov o u (j + 1) :=
  ⟨hs.later hb, h.ij.step hL h.not (pick_some totR h.pk).1 (h.re.told totR hL) hj hx he (fun _ => rfl) (fun e => absurd e hn), h.pk, h.re⟩
theorem TellSt.push (h : TellSt w1 w g gh q L v H ov o u j) (hL : Lks L) (hj : j < (behd L u).length) {x : Rf × List Rf} (hx : x ∈ L) (he : x.1 = (behd L u)[j]) {wb W W' : World} (hs : OrdSt w1 wb g gh q L v H ov (o ++ [u]) (fun x => (leftJ L o u (j + 1) x : Int))) (hn : leftJ L o u (j + 1) x = 0) (hb : Below wb.heap.size wb W)
    (h1 : HpAt W' gh v' H') (h2 : H'.Perm (x.1 :: H)) (h3 : IsHp ltR H' H'.length) (h4 : HUp W gh v W' v') : TellSt w1 W' g gh q L v' H' ov o u (j + 1) :=
  ⟨(hs.later hb).heap h1 h3 h4, h.ij.step hL h.not (pick_some totR h.pk).1 (h.re.told totR hL) hj hx he (fun e => absurd hn e) (fun _ => h2), h.pk, h.re⟩
theorem TellSt.len (h : TellSt w1 w g gh q L v H ov o u j) : H.length ≤ L.length := wait_len h.ij.1 fun u hu => by
  obtain ⟨x, hx, e, -⟩ := (h.ij.2 u).1 hu
  exact ⟨x, hx, e⟩
theorem TellSt.end_ (h : TellSt w1 w g gh q L v H ov o u j) (hL : Lks L) (hj : j = (behd L u).length) : MainSt w1 w g gh q L v H ov (o ++ [u]) := by
  subst hj
  exact ⟨h.st.congr fun x hx => by rw [leftJ_end hL h.not hx], h.ij.end_ hL h.not, .snoc h.re h.pk⟩
end
end Go.Proofs.Ytcakdjnnfonijaa
