/- Commit and Open, plainly. -/
import Derived.Test.YtagipfkgnobjlaaPgPlD
namespace Go.Proofs.Ytagipfkgnobjlaa
open Go.RowKit

/-- A pager at rest, or in an open turn: its disk holds what was committed. -/
structure PlS (n room r : Nat) (s : PS) (l lc : List Nat) : Prop where
  st : PSt n room s l lc
  di : DI n room s.x (pgV n s.x.V)
  p0 : pgV n s.x.V 0 = pageB s.cn
  pl : s.x.D.pcs.length ≤ 2 * room
  rb : s.x.run ≤ r
theorem bytesP_pg (n : Nat) (s : PS) (k : Nat) : bytesP n s k = (s.tn (k : Int)).getD (pgV n s.x.V k) := rfl
theorem DI.congrP {n room : Nat} {x : LX} {P Q : Nat → List UInt8} (h : DI n room x P) (hq : ∀ k, k < room → Q k = P k) : DI n room x Q :=
  ⟨h.lg, h.fr, h.pv, h.bz, fun k hk => (h.put k hk).trans (hq k hk).symm, h.pcs⟩
theorem DI.bsl {n room : Nat} {x : LX} {P : Nat → List UInt8} (h : DI n room x P) : x.bs.length ≤ n + 1 := (lookP_fine h.lg.look).2
section
variable {n room : Nat} {s : PS} {l lc : List Nat}
theorem PSt.tn0_len (h : PSt n room s l lc) (z : Int) (B : List UInt8) (e : s.tn0 z = some B) : B.length = 1024 ∧ ∃ j : Nat, z = (j : Int) ∧ j < room := by
  have hcr := h.cr
  have hc1 := h.c1
  unfold PS.tn0 at e
  by_cases hz : z = 0
  · rw [if_pos hz] at e
    cases e
    exact ⟨pageB_len h.ok.eight, 0, hz, by omega⟩
  · rw [if_neg hz] at e
    obtain ⟨j, q1, q2, q3, q4⟩ := h.tn z B e
    exact ⟨q4, j, q1, by omega⟩
/-- The pages of the batch. -/
theorem PSt.entsB (h : PSt n room s l lc) (hr : room ≤ 100000) : ents (s.batch room) = (dirtyL room s.tn0).map fun k : Nat => (k, (s.tn0 (k : Int)).getD []) := by
  unfold PS.batch
  refine ents_batch fun k hk => ?_
  obtain ⟨h1, h2⟩ := mem_dirtyL.1 hk
  obtain ⟨B, hB⟩ := Option.isSome_iff_exists.1 h2
  rw [hB]
  exact ⟨by omega, (h.tn0_len _ _ hB).1⟩
theorem PSt.pgEB (h : PSt n room s l lc) (hr : room ≤ 100000) {k : Nat} (hk : k < room) (D : List UInt8) : (pgE (ents (s.batch room)) k).getD D = (s.tn0 (k : Int)).getD D := by
  rw [h.entsB hr, pgE_map (f := fun k : Nat => (s.tn0 (k : Int)).getD [])]
  by_cases hd : k ∈ dirtyL room s.tn0
  · obtain ⟨-, h2⟩ := mem_dirtyL.1 hd
    obtain ⟨B, hB⟩ := Option.isSome_iff_exists.1 h2
    rw [if_pos hd, hB]
    rfl
  · rw [if_neg hd]
    cases hB : s.tn0 (k : Int) with
    | none => rfl
    | some B => exact absurd (mem_dirtyL.2 ⟨hk, by rw [hB]; rfl⟩) hd
theorem PSt.batch_len (h : PSt n room s l lc) (hr : room ≤ 100000) : (s.batch room).length ≤ 1028 * room := by
  have key : ∀ L : List Nat, (∀ k ∈ L, ((s.tn0 (k : Int)).getD []).length ≤ 1024) → (batchB L s.tn0).length ≤ 1028 * L.length := fun L => by
    induction L with
    | nil => intro _; exact Nat.zero_le _
    | cons k L ih =>
      intro h
      have h1 := h k List.mem_cons_self
      have h2 := ih fun x hx => h x (List.mem_cons_of_mem _ hx)
      unfold batchB at h2 ⊢
      rw [List.flatMap_cons, List.length_append, List.length_append, lowB_length, List.length_cons]
      omega
  have h1 := key (dirtyL room s.tn0) fun k hk => by
    obtain ⟨-, h2⟩ := mem_dirtyL.1 hk
    obtain ⟨B, hB⟩ := Option.isSome_iff_exists.1 h2
    rw [hB]
    exact Nat.le_of_eq (h.tn0_len _ _ hB).1
  have h2 := dirtyL_len room s.tn0
  unfold PS.batch
  have : 1028 * (dirtyL room s.tn0).length ≤ 1028 * room := Nat.mul_le_mul_left _ h2
  omega
end
theorem PSt.batch_cnt {n room : Nat} {s : PS} {l lc : List Nat} (h : PSt n room s l lc) (hr : room ≤ 100000) : (s.batch room).length ≤ 1028 * s.now.count := by
  have key : ∀ L : List Nat, (∀ k ∈ L, ((s.tn0 (k : Int)).getD []).length ≤ 1024) → (batchB L s.tn0).length ≤ 1028 * L.length := fun L => by
    induction L with
    | nil => intro _; exact Nat.zero_le _
    | cons k L ih =>
      intro h
      have h1 := h k List.mem_cons_self
      have h2 := ih fun x hx => h x (List.mem_cons_of_mem _ hx)
      unfold batchB at h2 ⊢
      rw [List.flatMap_cons, List.length_append, List.length_append, lowB_length, List.length_cons]
      omega
  have hin : ∀ k ∈ dirtyL room s.tn0, k < s.now.count := fun k hk => by
    obtain ⟨-, h2⟩ := mem_dirtyL.1 hk
    obtain ⟨B, hB⟩ := Option.isSome_iff_exists.1 h2
    have hc1 := h.c1
    unfold PS.tn0 at hB
    by_cases hz : (k : Int) = 0
    · omega
    · rw [if_neg hz] at hB
      obtain ⟨j, q1, q2, q3, q4⟩ := h.tn _ B hB
      omega
  have h1 := key (dirtyL room s.tn0) fun k hk => by
    obtain ⟨-, h2⟩ := mem_dirtyL.1 hk
    obtain ⟨B, hB⟩ := Option.isSome_iff_exists.1 h2
    rw [hB]
    exact Nat.le_of_eq (h.tn0_len _ _ hB).1
  have h2 := nodup_range ((dirtyL_asc room s.tn0).imp fun h => Nat.ne_of_lt h) hin
  unfold PS.batch
  have : 1028 * (dirtyL room s.tn0).length ≤ 1028 * s.now.count := Nat.mul_le_mul_left _ h2
  omega
theorem LogR.full {n : Nat} {x x' : LX} {B : List UInt8} (h : LogR n B 6 x x') : ¬ secsOf B.length ≤ n - 2 := by
  obtain ⟨e0, x0, hA, hc⟩ := h
  rcases hc with ⟨hne, e, -⟩ | ⟨-, e1, xa, hs, hc⟩
  · exact absurd e.symm hne
  · have hsm := hs.more
    rcases hc with ⟨-, e, -⟩ | ⟨-, e2, xb, hR, hc⟩
    · omega
    · rcases hc with ⟨-, e, -⟩ | ⟨e0, hA2⟩
      · have := hR.more.1
        omega
      · subst e0
        have hu := hR.view.2.2.2.2.1
        rcases hA2 with ⟨-, D', hw, -⟩ | ⟨hf, -⟩
        · have := ws_er hw
          omega
        · rw [hu, Nat.zero_add] at hf
          exact hf
theorem ComR.full {n room : Nat} {s s' : PS} (h : ComR n room 6 s s') : ¬ secsOf (s.batch room).length ≤ n - 2 := by
  obtain ⟨e1, x1, hL, hc⟩ := h
  rcases hc with ⟨rfl, -, -⟩ | ⟨rfl, x2, hP, hc⟩ | ⟨-, h6, e, -⟩
  · exact hL.full
  · have := (hP.more fun e he => entsN_len _ _ e he).1
    omega
  · exact absurd e.symm h6
/-- A batch went into the log: what is there then. -/
theorem LogR.di {n room : Nat} {x x' : LX} {B : List UInt8} {er : Int} (h : LogR n B er x x') (hd : DI n room x (pgV n x.V)) (hn : n ≤ 65536) (hB : B.length < 4294967296) (hn4 : 4 ≤ n) (hr : x.run + 1 < 4611686018427387904) (hld : x.ld = false) :
    (er = 0 → DI n room x' (fun k => (pgE (ents B) k).getD (pgV n x.V k)) ∧ x'.D.pcs = [] ∧ (∀ k, pgV n x'.V k = pgV n x.V k) ∧ (∀ e ∈ ents B, e ∈ logE x') ∧ x'.ld = false ∧ x'.run ≤ x.run + 1 ∧ x'.fz = x.fz) ∧
    (er = 6 → DI n room x' (pgV n x'.V) ∧ x'.D.pcs = [] ∧ (∀ k, pgV n x'.V k = pgV n x.V k) ∧ x'.ld = false ∧ x'.run ≤ x.run + 1 ∧ x'.fz = x.fz) := by
  have hsub : ∀ {x x' : LX}, AppR B 0 x x' → ∀ e ∈ ents B, e ∈ logE x' := fun hA e he => by
    obtain ⟨-, -, -, -, -, -, v7, -⟩ := hA.view
    unfold logE
    rw [v7, List.flatMap_append]
    exact List.mem_append_right _ (by simpa using he)
  obtain ⟨e0, x0, hA, hc⟩ := h
  rcases hc with ⟨hne, rfl, rfl⟩ | ⟨rfl, hre⟩
  · refine ⟨fun e => ?_, fun e => absurd e hne⟩
    subst e
    rcases hA with ⟨hf, hA⟩ | ⟨-, e, -⟩
    · obtain ⟨q1, q2, q3⟩ := hd.app hA (by omega) hB hf hn4
      obtain ⟨-, v2, v3, -, -, v6, -⟩ := hA.view
      exact ⟨q1, q2, q3, hsub hA, by rw [v6]; exact hld, by omega, v2⟩
    · cases e
  · have hx : x0 = x := hA.more.2.2.2.2.2.2 rfl
    subst hx
    obtain ⟨e1, xa, hs, hc⟩ := hre
    obtain ⟨d1, d2, d3⟩ := hd.sync hs
    have hsm := hs.more
    have hsv := hs.view.2.1
    rcases hc with ⟨hne, rfl, rfl⟩ | ⟨rfl, e2, xb, hR, hc⟩
    · exact ⟨fun e => absurd e hne, fun e => by have := hsm.1; omega⟩
    · rcases hc with ⟨hne, rfl, rfl⟩ | ⟨rfl, hA2⟩
      · exact ⟨fun e => absurd e hne, fun e => by have := hR.more.1; omega⟩
      · obtain ⟨r1, r2, r3, r4⟩ := d1.reset (fun k hk => by rw [d3]) hR (by rw [hsm.2.2.2.2.1]; exact hr) hn4
        obtain ⟨w1, w2, w3, w4, w5, w6, -⟩ := hR.view
        have hpb : ∀ k, pgV n xb.V k = pgV n x0.V k := fun k => by rw [r3, d3]
        have hldb : xb.ld = false := by rw [w6, hsm.2.2.2.2.2.1]; exact hld
        have hrb : xb.run = x0.run + 1 := by rw [w3, hsm.2.2.2.2.1]
        have hfzb : xb.fz = x0.fz := by rw [w2, hsv]
        have r1' : DI n room xb (pgV n x0.V) := r1
        refine ⟨fun e => ?_, fun e => ?_⟩
        · subst e
          rcases hA2 with ⟨hf, hA2⟩ | ⟨-, e, -⟩
          · obtain ⟨q1, q2, q3⟩ := r1'.app hA2 (by omega) hB hf hn4
            obtain ⟨-, v2, v3, -, -, v6, -⟩ := hA2.view
            exact ⟨q1, q2, fun k => (q3 k).trans (hpb k), hsub hA2, by rw [v6]; exact hldb, by omega, by rw [v2, hfzb]⟩
          · cases e
        · subst e
          have hx : x' = xb := hA2.more.2.2.2.2.2.2 rfl
          subst hx
          exact ⟨r1'.congrP fun k _ => hpb k, r2, hpb, hldb, by omega, hfzb⟩
/-- What a Commit that went well leaves. -/
structure Cmt (n room : Nat) (s s' : PS) : Prop where
  now : s'.now = s.now
  op : s'.op = false
  by_ : ∀ k, 0 < k → k < room → bytesP n s' k = bytesP n s k
  fz : s'.x.fz = s.x.fz
  run : s'.x.run ≤ s.x.run + 1
structure Ret (n room : Nat) (s s' : PS) : Prop where
  now : s'.now = s.cn
  op : s'.op = false
  by_ : ∀ k, bytesP n s' k = bytesP n s.cm k
  fz : s'.x.fz = s.x.fz
  run : s'.x.run ≤ s.x.run + 1
section
variable {n room r : Nat} {s s' : PS} {l lc : List Nat}
theorem PlS.com (h : PlS n room r s l lc) {er : Int} (hC : ComR n room er s s') (hop : s.op = true) (hr : room ≤ 4000) (hn4 : 4 ≤ n) (hn : n ≤ 65536) (hrun : r + 1 < 4611686018427387904) (hV : ∀ k, (s'.x.V k).length = 512) :
    (er = 0 → PlS n room (r + 1) s' l l ∧ Cmt n room s s') ∧ (er = 6 → PlS n room (r + 1) s' lc lc ∧ Ret n room s s') := by
  have hst := h.st
  have hcn : s.cn = s.was := by unfold PS.cn; rw [if_pos hop]
  have hrb := h.rb
  have hbl := hst.batch_len (by omega)
  obtain ⟨e1, x1, hL, hc⟩ := hC
  obtain ⟨p0, p6⟩ := hL.di h.di hn (by omega) hn4 (by omega) hst.ld
  rcases hc with ⟨rfl, rfl, rfl⟩ | ⟨rfl, x2, hP, hc⟩ | ⟨hne0, hne6, rfl, rfl⟩
  · refine ⟨(fun e => by cases e), fun _ => ?_⟩
    obtain ⟨q1, q2, q3, q4, q5, q6⟩ := p6 rfl
    have hby : ∀ k, bytesP n { s with now := s.was, tn := fun _ => none, op := false, x := x1 } k = bytesP n s.cm k := fun k => q3 k
    have hcn2 : ({ s with now := s.was, tn := fun _ => none, op := false, x := x1 } : PS).cn = s.cn := hcn.symm
    have hf : FreeIs n { s with now := s.was, tn := fun _ => none, op := false, x := x1 } lc := hst.frc.congr hcn.symm fun k _ => hby k
    refine ⟨⟨⟨hst.dd, q4, ?_, ?_, ?_, hf, (fun k B e => by cases e), fun _ => rfl, by rw [hcn2]; exact hst.ok2, by rw [hcn2]; exact hst.c12, by rw [hcn2]; exact hst.cr2, hf.congr rfl fun k _ => rfl⟩, q1, ?_, ?_, ?_⟩, hcn.symm, rfl, hby, q6, q5⟩
    · show s.was.Ok; rw [← hcn]; exact hst.ok2
    · show 1 ≤ s.was.count; rw [← hcn]; exact hst.c12
    · show s.was.count ≤ room; rw [← hcn]; exact hst.cr2
    · rw [hcn2]
      exact (q3 0).trans h.p0
    · show x1.D.pcs.length ≤ _
      rw [q2]
      exact Nat.zero_le _
    · show x1.run ≤ _
      omega
  · obtain ⟨q1, q2, q3, q4, q5, q6, q7⟩ := p0 rfl
    rcases hc with ⟨rfl, rfl⟩ | ⟨hne, rfl⟩
    · refine ⟨fun _ => ?_, (fun e => by cases e)⟩
      obtain ⟨d1, d2⟩ := q1.puts q4 hP hV hn4
      have hlen : ∀ e ∈ ents (s.batch room), e.2.length = 1024 := fun e he => entsN_len _ _ e he
      obtain ⟨-, -, m3, m4⟩ := hP.more hlen
      have hpg : ∀ k, k < room → pgV n x2.V k = (s.tn0 (k : Int)).getD (pgV n s.x.V k) := fun k hk => by
        rw [d2 rfl k hk, hst.pgEB (by omega) hk, q3]
      have hcr := hst.cr
      have hc1 := hst.c1
      have hby : ∀ k, 0 < k → k < room → bytesP n { s with tn := fun _ => none, op := false, dd := false, x := x2 } k = bytesP n s k := fun k h0 hk => by
        show pgV n x2.V k = (s.tn (k : Int)).getD _
        rw [hpg k hk]
        unfold PS.tn0
        rw [if_neg (by omega)]
        rfl
      have hf : FreeIs n { s with tn := fun _ => none, op := false, dd := false, x := x2 } l := hst.fre.congr rfl fun k hk => by
        have := hst.fre.rg k hk
        exact hby k this.1 (by omega)
      have hx2 : x2.run = x1.run ∧ x2.ld = x1.ld ∧ x2.fz = x1.fz := by rw [m4]; exact ⟨rfl, rfl, rfl⟩
      refine ⟨⟨⟨rfl, by show x2.ld = _; rw [hx2.2.1]; exact q5, hst.ok, hc1, hcr, hf, (fun k B e => by cases e), fun _ => rfl, hst.ok, hc1, hcr, hf.congr rfl fun k _ => rfl⟩, ?_, ?_, ?_, ?_⟩, rfl, rfl, hby, ?_, ?_⟩
      · refine d1.congrP fun k hk => ?_
        show pgV n x2.V k = _
        rw [hpg k hk, hst.pgEB (by omega) hk]
      · show pgV n x2.V 0 = pageB s.now
        rw [hpg 0 (by omega)]
        rfl
      · show x2.D.pcs.length ≤ _
        rw [q2, hst.entsB (by omega), List.length_map] at m3
        have := dirtyL_len room s.tn0
        simp only [List.length_nil] at m3
        omega
      · show x2.run ≤ _
        omega
      · show x2.fz = _
        rw [hx2.2.2, q7]
      · show x2.run ≤ _
        omega
    · refine ⟨fun e => absurd e hne, fun e => ?_⟩
      have := (hP.more fun e he => entsN_len _ _ e he).1
      omega
  · exact ⟨fun e => absurd e hne0, fun e => absurd e hne6⟩
end
/-- Without faults a Commit answers OK or ErrFull. -/
theorem AppR.zero {B : List UInt8} {er : Int} {x x' : LX} (h : AppR B er x x') (h0 : x.fz = 0) : er = 0 := by
  obtain ⟨D', hw, -⟩ := h
  rw [h0] at hw
  exact hw.1 rfl
theorem AppF.zero {n : Nat} {B : List UInt8} {er : Int} {x x' : LX} (h : AppF n B er x x') (h0 : x.fz = 0) : er = 0 ∨ er = 6 := by
  rcases h with ⟨-, h⟩ | ⟨-, h, -⟩
  · exact .inl (h.zero h0)
  · exact .inr h
theorem LogR.zero {n : Nat} {B : List UInt8} {er : Int} {x x' : LX} (h : LogR n B er x x') (h0 : x.fz = 0) : (er = 0 ∨ er = 6) ∧ (er = 0 → x'.fz = 0) := by
  obtain ⟨e0, x0, hA, hc⟩ := h
  rcases hc with ⟨hne, rfl, rfl⟩ | ⟨rfl, e1, xa, hs, hc⟩
  · refine ⟨hA.zero h0, fun e => ?_⟩
    rcases hA with ⟨-, D', -, hc⟩ | ⟨-, e2, -⟩
    · rcases hc with ⟨-, rfl⟩ | ⟨-, rfl⟩ <;> exact h0
    · omega
  · have hx : x0 = x := hA.more.2.2.2.2.2.2 rfl
    subst hx
    obtain ⟨rfl, hz⟩ := hs.zero h0
    rcases hc with ⟨hne, -⟩ | ⟨-, e2, xb, hR, hc⟩
    · exact absurd rfl hne
    · obtain rfl := hR.zero hz
      have hzb : xb.fz = 0 := by rw [hR.view.2.1]; exact hz
      rcases hc with ⟨hne, -⟩ | ⟨-, hA2⟩
      · exact absurd rfl hne
      · refine ⟨hA2.zero hzb, fun e => ?_⟩
        rcases hA2 with ⟨-, D', -, hc⟩ | ⟨-, e2, -⟩
        · rcases hc with ⟨-, rfl⟩ | ⟨-, rfl⟩ <;> exact hzb
        · omega
theorem ComR.zero {n room : Nat} {er : Int} {s s' : PS} (h : ComR n room er s s') (h0 : s.x.fz = 0) : er = 0 ∨ er = 6 := by
  obtain ⟨e1, x1, hL, hc⟩ := h
  obtain ⟨h1, h2⟩ := hL.zero h0
  rcases hc with ⟨-, rfl, -⟩ | ⟨rfl, x2, hP, hc⟩ | ⟨q0, q6, -, -⟩
  · exact .inr rfl
  · exact .inl (hP.zero (h2 rfl))
  · omega
/-- Page 0 is read as it was put. -/
theorem nth4_zero {v : Nat} (h : v < 4294967296) (R : List UInt8) : nth4 (lowB v 4 ++ R) 0 = v := by
  unfold nth4
  rw [Nat.mul_zero, List.drop_zero, List.take_append_of_le_length (by rw [lowB_length]; omega), List.take_of_length_le (by rw [lowB_length]; omega), leB_lowB 4 v (by simpa using h)]
theorem nth4_succ (v : Nat) (R : List UInt8) (i : Nat) : nth4 (lowB v 4 ++ R) (i + 1) = nth4 R i := by
  unfold nth4
  rw [show 4 * (i + 1) = 4 + 4 * i by omega, drop_app _ _ 4 _ (lowB_length 4 v)]
theorem nth4_page {m : Mt} (h : m.Ok) : nth4 (pageB m) 0 = 1279613008 ∧ rdM (pageB m) = m := by
  obtain ⟨cnt, fr, mn, r0, r1, r2, r3, r4, r5, r6, r7, rfl⟩ := mt_open m h.eight
  have l0 : cnt < 4294967296 := h.count
  have l1 : fr < 4294967296 := h.free
  have l2 : mn < 4294967296 := h.many
  have hr := h.root
  simp only [List.mem_cons, List.not_mem_nil, or_false, forall_eq_or_imp, forall_eq] at hr
  obtain ⟨a0, a1, a2, a3, a4, a5, a6, a7⟩ := hr
  have hp : pageB ⟨cnt, fr, mn, [r0, r1, r2, r3, r4, r5, r6, r7]⟩ = lowB 1279613008 4 ++ (lowB cnt 4 ++ (lowB fr 4 ++ (lowB mn 4 ++ (lowB r0 4 ++ (lowB r1 4 ++ (lowB r2 4 ++ (lowB r3 4 ++ (lowB r4 4 ++ (lowB r5 4 ++ (lowB r6 4 ++ (lowB r7 4 ++ List.replicate 976 0))))))))))) := by
    unfold pageB headP rootsB
    simp only [List.flatMap_cons, List.flatMap_nil, List.append_assoc, List.append_nil]
  rw [hp]
  refine ⟨nth4_zero (by decide) _, ?_⟩
  have e : ∀ B, rdM B = ⟨nth4 B 1, nth4 B 2, nth4 B 3, [nth4 B 4, nth4 B 5, nth4 B 6, nth4 B 7, nth4 B 8, nth4 B 9, nth4 B 10, nth4 B 11]⟩ := fun B => rfl
  rw [e]
  simp only [nth4_succ, nth4_zero l0, nth4_zero l1, nth4_zero l2, nth4_zero a0, nth4_zero a1, nth4_zero a2, nth4_zero a3, nth4_zero a4, nth4_zero a5, nth4_zero a6, nth4_zero a7]
/-- What an Open finds. -/
def Rec (n room r : Nat) (V : Int → List UInt8) (P : Nat → List UInt8) : Prop :=
  ∃ run base used bs, LgI V 0 n run base used bs ∧ run ≤ r ∧ ∀ k, k < room → (pgE (bs.flatMap ents) k).getD (pgV n V k) = P k
theorem PutsR.view {n room : Nat} : ∀ {bs : List (List UInt8)} {x x' : LX}, PutsR n room bs x x' → x'.V = putV n room x.V (bs.flatMap ents) ∧ x' = { x with D := x'.D } ∧ x'.D.size = x.D.size
  | [], x, x', h => by
    rw [show x' = x from h]
    exact ⟨rfl, rfl, rfl⟩
  | b :: bs, x, x', ⟨x1, h1, h2⟩ => by
    have hlen : ∀ e ∈ ents b, e.2.length = 1024 := fun e he => entsN_len _ _ e he
    obtain ⟨v1, -, -⟩ := h1.view hlen
    obtain ⟨-, m2, -, m4⟩ := h1.more hlen
    obtain ⟨w1, w2, w3⟩ := h2.view
    refine ⟨?_, ?_, w3.trans m2⟩
    · rw [w1, v1 rfl, List.flatMap_cons, putV_app]
    · rw [w2, m4]
theorem open_rec {n room r size : Nat} {V : Int → List UInt8} {P : Nat → List UInt8} {x3 : LX} (h : Rec n room r V P) (hX : OpX n room size V x3) (hn4 : 4 ≤ n) (hr : r + 2 < 4611686018427387904) :
    DI n room x3 (pgV n x3.V) ∧ (∀ k, k < room → pgV n x3.V k = P k) ∧ x3.run ≤ r + 2 ∧ x3.D.pcs = [] ∧ x3.bs = [] ∧ x3.ld = false ∧ x3.fz = 0 ∧ x3.D.size = size := by
  obtain ⟨run, base, used, bs, h1, h2, h3⟩ := h
  obtain ⟨run', base', used', bs', x1, q1, q2, q3, q4⟩ := hX
  rw [h1.look] at q1
  cases q1
  obtain ⟨w1, w2, w3⟩ := q3.view
  have hall : ∀ e ∈ bs.flatMap ents, e.2.length = 1024 := fun e he => by
    obtain ⟨b, -, h⟩ := List.mem_flatMap.1 he
    exact entsN_len _ _ e h
  obtain ⟨V0, hV0⟩ : ∃ y, laid V (wps (0 + (((run + 1) % 2 : Nat) : Int)) (headB (run + 1) base) ((headB (run + 1) base).length / 512)) = y := ⟨_, rfl⟩
  rw [hV0] at w1
  have hv0 : (⟨⟨size, V0, []⟩, 0, run + 1, base, used, false, bs⟩ : LX).V = V0 := rfl
  rw [hV0] at w2 w3
  obtain ⟨o1, o2⟩ := h1.open q2 hV0.symm
  have hp0 : ∀ k, pgV n V0 k = pgV n V k := fun k => pgV_congr (by rw [← hV0, laid_head, if_neg (by omega)]) (by rw [← hV0, laid_head, if_neg (by omega)])
  have w1 : x1.V = putV n room V0 (bs.flatMap ents) := w1
  have hl1 : LgI x1.V 0 n (run + 1) base used bs := o1.congr hn4 (by rw [w1]; exact len_putV o1.len hall) fun q _ hq => by rw [w1, low_putV hq]
  have hp1 : ∀ k, k < room → pgV n x1.V k = P k := fun k hk => by
    rw [w1, pgV_putV hall hk, hp0]
    exact h3 k hk
  have hx1 : x1.run = run + 1 ∧ x1.base = base ∧ x1.used = used ∧ x1.bs = bs ∧ x1.ld = false ∧ x1.fz = 0 := by rw [w2]; exact ⟨rfl, rfl, rfl, rfl, rfl, rfl⟩
  obtain ⟨e0, xa, s1, hc⟩ := q4
  obtain ⟨v1, v2, -, -, v5⟩ := s1.view
  rcases hc with ⟨hne, e, -⟩ | ⟨-, hR⟩
  · exact absurd e.symm hne
  · obtain ⟨u1, u2, u3, u4, u5, u6, u7, u8, u9⟩ := hR.view
    have hxa : xa.run = run + 1 ∧ xa.base = base ∧ xa.ld = false ∧ xa.fz = 0 := by rw [v2]; exact ⟨hx1.1, hx1.2.1, hx1.2.2.2.2.1, hx1.2.2.2.2.2⟩
    rw [v1, hxa.1] at u1
    rw [hxa.1] at u3 u4
    obtain ⟨g1, g2⟩ := hl1.reset (by omega) u1
    have hp3 : ∀ k, pgV n x3.V k = pgV n x1.V k := fun k => pgV_congr (by rw [u1, laid_head, if_neg (by omega)]) (by rw [u1, laid_head, if_neg (by omega)])
    refine ⟨⟨?_, ?_, ?_, by rw [u4, u3], fun k _ => ?_, fun p hp => by rw [u8] at hp; cases hp⟩, fun k hk => by rw [hp3, hp1 k hk], by omega, u8, u7, by rw [u6, hxa.2.2.1], by rw [u2, hxa.2.2.2], by rw [u9, v5, w3]⟩
    · rw [u3, u4, u5, u7]; exact g1
    · rw [u3, u5]; exact g2
    · rw [u3]; exact hl1.prev u1
    · unfold logE
      rw [u7]
      rfl
theorem readOk_page {m : Mt} (h : m.Ok) {room : Nat} (c1 : 1 ≤ m.count) (cr : m.count ≤ room) (hf : m.free < m.count) (hm : m.many < m.count) : readOk (pageB m) (room : Int) = true := by
  obtain ⟨e0, e⟩ := nth4_page h
  have e1 : nth4 (pageB m) 1 = m.count := congrArg Mt.count e
  have e2 : nth4 (pageB m) 2 = m.free := congrArg Mt.free e
  have e3 : nth4 (pageB m) 3 = m.many := congrArg Mt.many e
  unfold readOk
  rw [e0, e1, e2, e3]
  simp only [Bool.and_eq_true, decide_eq_true_eq]
  exact ⟨trivial, c1, by omega, hf, hm⟩
/-- A pager is opened as it was committed. -/
theorem open_pls {n room r size : Nat} {V : Int → List UInt8} {P : Nat → List UInt8} {x3 : LX} {m : Mt} {s0 : PS} {lc : List Nat} (h : Rec n room r V P) (hX : OpX n room size V x3) (hn4 : 4 ≤ n) (hr : r + 2 < 4611686018427387904)
    (hm : m.Ok) (c1 : 1 ≤ m.count) (cr : m.count ≤ room) (h0 : P 0 = pageB m) (hf : FreeIs n s0 lc) (hs0 : s0.now = m) (hP : ∀ k, 0 < k → k < m.count → P k = bytesP n s0 k) :
    opM n x3 = m ∧ opOk n room x3 = true ∧ PlS n room (r + 2) (PS.fresh m x3) lc lc ∧ x3.fz = 0 ∧ ∀ k, k < room → bytesP n (PS.fresh m x3) k = P k := by
  obtain ⟨d1, d2, d3, d4, d5, d6, d7, d8⟩ := open_rec h hX hn4 hr
  have hp0 : pgV n x3.V 0 = pageB m := (d2 0 (by omega)).trans h0
  have hM : opM n x3 = m := by
    show rdM (pgV n x3.V 0) = m
    rw [hp0]
    exact (nth4_page hm).2
  have hby : ∀ k, k < room → bytesP n (PS.fresh m x3) k = P k := fun k hk => d2 k hk
  have hfr : FreeIs n (PS.fresh m x3) lc := hf.congr hs0.symm fun k hk => by
    have := hf.rg k hk
    rw [hs0] at this
    rw [hby k (by omega), hP k this.1 this.2]
  have hfl := hfr.free_lt c1
  have hml := hfr.many_lt c1
  refine ⟨hM, ?_, ⟨fresh_St d6 hm c1 cr hfr, d1, hp0, ?_, d3⟩, d7, hby⟩
  · unfold opOk
    rw [hM, hfr.sound, show flatS x3.V (n : Int) 2 = pageB m by rw [← hp0]; rfl, readOk_page hm c1 cr hfl hml]
    rfl
  · show x3.D.pcs.length ≤ _
    rw [d4]
    exact Nat.zero_le _
end Go.Proofs.Ytagipfkgnobjlaa
