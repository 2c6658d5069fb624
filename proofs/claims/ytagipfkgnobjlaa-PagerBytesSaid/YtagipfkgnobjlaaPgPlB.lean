/- The pager, plainly: its state through Alloc, Put, Free, SetRoot, Rollback; the calls so. -/
import Derived.Test.YtagipfkgnobjlaaPgPlA
namespace Go.Proofs.Ytagipfkgnobjlaa
open Go.RowKit

/-- The last committed page 0. -/
def PS.cn (s : PS) : Mt := if s.op = true then s.was else s.now
/-- The pager as it was committed. -/
def PS.cm (s : PS) : PS := PS.fresh s.cn s.x
structure PSt (n room : Nat) (s : PS) (l lc : List Nat) : Prop where
  dd : s.dd = false
  ld : s.x.ld = false
  ok : s.now.Ok
  c1 : 1 ≤ s.now.count
  cr : s.now.count ≤ room
  fre : FreeIs n s l
  tn : ∀ k B, s.tn k = some B → ∃ j : Nat, k = (j : Int) ∧ 0 < j ∧ j < s.now.count ∧ B.length = 1024
  nt : s.op = false → s.tn = fun _ => none
  ok2 : s.cn.Ok
  c12 : 1 ≤ s.cn.count
  cr2 : s.cn.count ≤ room
  frc : FreeIs n s.cm lc
theorem begun_cn (s : PS) : s.begun.cn = s.cn := by
  unfold PS.begun PS.cn
  by_cases h : s.op = true
  · rw [if_pos h, if_pos h]
  · rw [if_neg h, if_neg h]
    rfl
theorem begun_x (s : PS) : s.begun.x = s.x := by unfold PS.begun; split <;> rfl
theorem begun_cm (s : PS) : s.begun.cm = s.cm := by unfold PS.cm; rw [begun_cn, begun_x]
section
variable {n room : Nat} {s : PS} {l lc : List Nat}
theorem PSt.begun (h : PSt n room s l lc) : PSt n room s.begun l lc :=
  ⟨by rw [begun_dd]; exact h.dd, by rw [begun_x]; exact h.ld, by rw [begun_now]; exact h.ok, by rw [begun_now]; exact h.c1, by rw [begun_now]; exact h.cr, h.fre.begun, by rw [begun_now, begun_tn]; exact h.tn, (fun e => by rw [begun_op] at e; cases e), by rw [begun_cn]; exact h.ok2, by rw [begun_cn]; exact h.c12, by rw [begun_cn]; exact h.cr2, by rw [begun_cm]; exact h.frc⟩
/-- The state of an open turn with another page 0 and other pages. -/
theorem PSt.turn {now' : Mt} {tn' : Int → Option (List UInt8)} {l' : List Nat} (h : PSt n room s l lc) (hop : s.op = true) (ok : now'.Ok) (c1 : 1 ≤ now'.count) (cr : now'.count ≤ room) (fre : FreeIs n { s with now := now', tn := tn' } l') (tn : ∀ k B, tn' k = some B → ∃ j : Nat, k = (j : Int) ∧ 0 < j ∧ j < now'.count ∧ B.length = 1024) :
    PSt n room { s with now := now', tn := tn' } l' lc ∧ ({ s with now := now', tn := tn' } : PS).cm = s.cm := by
  have hc : ({ s with now := now', tn := tn' } : PS).cn = s.cn := by
    unfold PS.cn
    rw [if_pos hop, if_pos hop]
  have hm : ({ s with now := now', tn := tn' } : PS).cm = s.cm := by
    unfold PS.cm
    rw [hc]
  exact ⟨⟨h.dd, h.ld, ok, c1, cr, fre, tn, (fun e => by rw [hop] at e; cases e), by rw [hc]; exact h.ok2, by rw [hc]; exact h.c12, by rw [hc]; exact h.cr2, by rw [hm]; exact h.frc⟩, hm⟩
theorem tn_laid {cnt : Nat} {tn : Int → Option (List UInt8)} (h : ∀ k B, tn k = some B → ∃ j : Nat, k = (j : Int) ∧ 0 < j ∧ j < cnt ∧ B.length = 1024) {k : Nat} {P : List UInt8} {cnt' : Nat} (hc : cnt ≤ cnt') (h0 : 0 < k) (hk : k < cnt') (hP : P.length = 1024) :
    ∀ z B, (if z = (k : Int) then some P else tn z) = some B → ∃ j : Nat, z = (j : Int) ∧ 0 < j ∧ j < cnt' ∧ B.length = 1024 := fun z B e => by
  by_cases hz : z = (k : Int)
  · rw [if_pos hz] at e
    cases e
    exact ⟨k, hz, h0, hk, hP⟩
  · rw [if_neg hz] at e
    obtain ⟨j, q1, q2, q3, q4⟩ := h z B e
    exact ⟨j, q1, q2, by omega, q4⟩
/-- What an Alloc of page k does. -/
structure Alc (n : Nat) (s s' : PS) (l l' : List Nat) (k : Nat) : Prop where
  op : s'.op = true
  cm : s'.cm = s.cm
  x : s'.x = s.x
  k0 : 0 < k
  kl : ¬ (k < s.now.count ∧ k ∉ l)
  set : ∀ j, 0 < j → ((j < s'.now.count ∧ j ∉ l') ↔ (j = k ∨ (j < s.now.count ∧ j ∉ l)))
  by0 : bytesP n s' k = zerosP
  byo : ∀ j, j ≠ k → bytesP n s' j = bytesP n s j
  rt : s'.now.roots = s.now.roots
  cl : s'.now.count + l.length = s.now.count + l'.length + 1
  ln : l = [] → l' = []
theorem PSt.pop (h : PSt n room s l lc) {k : Nat} {l' : List Nat} (hl : l = k :: l') (hr : room ≤ 100000) : PSt n room ((s.begun.popped (nxP n s k)).laid (k : Int) zerosP) l' lc ∧ Alc n s ((s.begun.popped (nxP n s k)).laid (k : Int) zerosP) l l' k := by
  subst hl
  have hb := h.begun
  have hk := h.fre.rg k List.mem_cons_self
  have hnd := List.nodup_cons.1 h.fre.nd
  have hnx : nxP n s.begun k = nxP n s k := by unfold nxP; rw [bytesP_begun]
  have hp : FreeIs n (s.begun.popped (nxP n s k)) l' := by rw [← hnx]; exact hb.fre.popped
  have hl := hp.laid hnd.1 zerosP
  have hcnt : ((s.begun.popped (nxP n s k)).laid (k : Int) zerosP).now.count = s.now.count := by
    show s.begun.now.count = _
    rw [begun_now]
  have hok : ((s.begun.popped (nxP n s k)).laid (k : Int) zerosP).now.Ok := by
    have ho := h.ok
    have hf := hl.free_lt (by rw [hcnt]; exact h.c1)
    have hcr := h.cr
    refine ⟨by rw [hcnt]; exact ho.count, by omega, ?_, ?_, ?_⟩
    · show s.begun.now.many - 1 < _
      rw [begun_now]
      have := ho.many
      omega
    · show s.begun.now.roots.length = 8
      rw [begun_now]; exact ho.eight
    · show ∀ r ∈ s.begun.now.roots, _
      rw [begun_now]; exact ho.root
  obtain ⟨q1, q2⟩ := hb.turn (begun_op s) hok (by rw [hcnt]; exact h.c1) (by rw [hcnt]; exact h.cr) hl (by
    rw [hcnt]
    show ∀ z B, (if z = (k : Int) then some zerosP else s.begun.tn z) = some B → _
    rw [begun_tn]
    exact tn_laid h.tn (Nat.le_refl _) hk.1 hk.2 zerosP_len)
  refine ⟨q1, ⟨begun_op s, q2.trans (begun_cm s), begun_x s, hk.1, fun e => e.2 List.mem_cons_self, fun j hj => ?_, bytesP_laid_eq _ k _, fun j hj => ?_, ?_, ?_, ?_⟩⟩
  · rw [hcnt, List.mem_cons]
    constructor
    · rintro ⟨a, b⟩
      by_cases e : j = k
      · exact .inl e
      · exact .inr ⟨a, fun q => q.elim e b⟩
    · rintro (rfl | ⟨a, b⟩)
      · exact ⟨hk.2, hnd.1⟩
      · exact ⟨a, fun q => b (.inr q)⟩
  · rw [bytesP_laid_ne _ j (by omega)]
    exact bytesP_begun n s j
  · show s.begun.now.roots = _
    rw [begun_now]
  · rw [hcnt, List.length_cons]
    omega
  · intro e
    cases e
theorem PSt.new (h : PSt n room s l lc) (hl : l = []) (hc : s.now.count < room) (hr : room ≤ 100000) : PSt n room ((s.begun.grown).laid (s.now.count : Int) zerosP) l lc ∧ Alc n s ((s.begun.grown).laid (s.now.count : Int) zerosP) l l s.now.count := by
  subst hl
  have hb := h.begun
  have hc1 := h.c1
  have hp := hb.fre.grown
  have hl := hp.laid (k := s.now.count) (by simp) zerosP
  have hcnt : ((s.begun.grown).laid (s.now.count : Int) zerosP).now.count = s.now.count + 1 := by
    show s.begun.now.count + 1 = _
    rw [begun_now]
  have hok : ((s.begun.grown).laid (s.now.count : Int) zerosP).now.Ok := by
    have ho := h.ok
    refine ⟨by rw [hcnt]; omega, ?_, ?_, ?_, ?_⟩
    · show s.begun.now.free < _
      rw [begun_now]; exact ho.free
    · show s.begun.now.many < _
      rw [begun_now]; exact ho.many
    · show s.begun.now.roots.length = 8
      rw [begun_now]; exact ho.eight
    · show ∀ r ∈ s.begun.now.roots, _
      rw [begun_now]; exact ho.root
  obtain ⟨q1, q2⟩ := hb.turn (begun_op s) hok (by rw [hcnt]; omega) (by rw [hcnt]; omega) hl (by
    rw [hcnt]
    show ∀ z B, (if z = (s.now.count : Int) then some zerosP else s.begun.tn z) = some B → _
    rw [begun_tn]
    exact tn_laid h.tn (Nat.le_succ _) (by omega) (by omega) zerosP_len)
  refine ⟨q1, ⟨begun_op s, q2.trans (begun_cm s), begun_x s, by omega, fun e => by omega, fun j hj => ?_, bytesP_laid_eq _ _ _, fun j hj => ?_, ?_, ?_, ?_⟩⟩
  · rw [hcnt]
    simp only [List.not_mem_nil, not_false_eq_true, and_true]
    omega
  · rw [bytesP_laid_ne _ j (by omega)]
    exact bytesP_begun n s j
  · show s.begun.now.roots = _
    rw [begun_now]
  · rw [hcnt]
    simp
  · exact fun e => e
/-- What another call of a turn does, that leaves the taken pages as they are. -/
theorem PSt.put (h : PSt n room s l lc) {k : Nat} (hk : k ∉ l) (h0 : 0 < k) (hc : k < s.now.count) {B : List UInt8} (hB : B.length = 1024) : PSt n room (s.begun.laid (k : Int) B) l lc ∧ (s.begun.laid (k : Int) B).cm = s.cm ∧ (s.begun.laid (k : Int) B).now = s.now ∧ (s.begun.laid (k : Int) B).x = s.x ∧ bytesP n (s.begun.laid (k : Int) B) k = B ∧ ∀ j, j ≠ k → bytesP n (s.begun.laid (k : Int) B) j = bytesP n s j := by
  have hb := h.begun
  have hn : (s.begun.laid (k : Int) B).now = s.now := begun_now s
  have hl := hb.fre.laid hk B
  obtain ⟨q1, q2⟩ := hb.turn (tn' := (s.begun.laid (k : Int) B).tn) (now' := s.begun.now) (begun_op s) (by rw [begun_now]; exact h.ok) (by rw [begun_now]; exact h.c1) (by rw [begun_now]; exact h.cr) hl (by
    rw [begun_now]
    show ∀ z B', (if z = (k : Int) then some B else s.begun.tn z) = some B' → _
    rw [begun_tn]
    exact tn_laid h.tn (Nat.le_refl _) h0 hc hB)
  refine ⟨q1, q2.trans (begun_cm s), hn, begun_x s, bytesP_laid_eq _ k _, fun j hj => ?_⟩
  rw [bytesP_laid_ne _ j (by omega)]
  exact bytesP_begun n s j
theorem PSt.free (h : PSt n room s l lc) {k : Nat} (hk : k ∉ l) (h0 : 0 < k) (hc : k < s.now.count) (hr : room ≤ 100000) : PSt n room ((s.begun.laid (k : Int) (linkP s.now.free)).pushed k) (k :: l) lc ∧ ((s.begun.laid (k : Int) (linkP s.now.free)).pushed k).cm = s.cm ∧ ((s.begun.laid (k : Int) (linkP s.now.free)).pushed k).now.count = s.now.count ∧ ((s.begun.laid (k : Int) (linkP s.now.free)).pushed k).now.roots = s.now.roots ∧ ((s.begun.laid (k : Int) (linkP s.now.free)).pushed k).x = s.x ∧ ∀ j, j ≠ k → bytesP n ((s.begun.laid (k : Int) (linkP s.now.free)).pushed k) j = bytesP n s j := by
  have hb := h.begun
  have ho := h.ok
  have hcr := h.cr
  have hf : FreeIs n ((s.begun.laid (k : Int) (linkP s.now.free)).pushed k) (k :: l) := by
    have := hb.fre.pushed hk h0 (by rw [begun_now]; exact hc) (by rw [begun_now]; exact ho.free)
    rw [begun_now] at this
    exact this
  have hcnt : ((s.begun.laid (k : Int) (linkP s.now.free)).pushed k).now.count = s.now.count := by
    show s.begun.now.count = _
    rw [begun_now]
  have hrt : ((s.begun.laid (k : Int) (linkP s.now.free)).pushed k).now.roots = s.now.roots := by
    show s.begun.now.roots = _
    rw [begun_now]
  have hml := hf.many_lt (by rw [hcnt]; exact h.c1)
  rw [hcnt] at hml
  have hok : ((s.begun.laid (k : Int) (linkP s.now.free)).pushed k).now.Ok := ⟨by rw [hcnt]; exact ho.count, by show k < _; omega, by omega, by rw [hrt]; exact ho.eight, by rw [hrt]; exact ho.root⟩
  obtain ⟨q1, q2⟩ := hb.turn (tn' := (s.begun.laid (k : Int) (linkP s.now.free)).tn) (begun_op s) hok (by rw [hcnt]; exact h.c1) (by rw [hcnt]; exact h.cr) hf (by
    rw [hcnt]
    show ∀ z B', (if z = (k : Int) then some (linkP s.now.free) else s.begun.tn z) = some B' → _
    rw [begun_tn]
    exact tn_laid h.tn (Nat.le_refl _) h0 hc (linkP_len _))
  refine ⟨q1, q2.trans (begun_cm s), hcnt, hrt, begun_x s, fun j hj => ?_⟩
  show bytesP n (s.begun.laid (k : Int) (linkP s.now.free)) j = _
  rw [bytesP_laid_ne _ j (by omega)]
  exact bytesP_begun n s j
theorem PSt.root (h : PSt n room s l lc) {i v : Nat} (hv : v < 4294967296) : PSt n room (s.begun.rooted i v) l lc ∧ (s.begun.rooted i v).cm = s.cm ∧ (s.begun.rooted i v).now.count = s.now.count ∧ (s.begun.rooted i v).now.roots = s.now.roots.set i v ∧ (s.begun.rooted i v).x = s.x ∧ ∀ j, bytesP n (s.begun.rooted i v) j = bytesP n s j := by
  have hb := h.begun
  have ho := h.ok
  have hcnt : (s.begun.rooted i v).now.count = s.now.count := by
    show s.begun.now.count = _
    rw [begun_now]
  have hrt : (s.begun.rooted i v).now.roots = s.now.roots.set i v := by
    show s.begun.now.roots.set i v = _
    rw [begun_now]
  have hok : (s.begun.rooted i v).now.Ok := by
    refine ⟨by rw [hcnt]; exact ho.count, ?_, ?_, by rw [hrt, List.length_set]; exact ho.eight, fun r hr => ?_⟩
    · show s.begun.now.free < _
      rw [begun_now]; exact ho.free
    · show s.begun.now.many < _
      rw [begun_now]; exact ho.many
    · rw [hrt] at hr
      rcases List.mem_or_eq_of_mem_set hr with e | e
      · exact ho.root r e
      · omega
  obtain ⟨q1, q2⟩ := hb.turn (now' := (s.begun.rooted i v).now) (tn' := s.begun.tn) (begun_op s) hok (by rw [hcnt]; exact h.c1) (by rw [hcnt]; exact h.cr) (hb.fre.rooted i v) (by
    rw [hcnt, begun_tn]
    exact h.tn)
  exact ⟨q1, q2.trans (begun_cm s), hcnt, hrt, begun_x s, fun j => bytesP_begun n s j⟩
/-- Back to what was committed. -/
theorem PSt.back (h : PSt n room s l lc) : PSt n room { s with now := s.cn, tn := fun _ => none, op := false } lc lc ∧ ({ s with now := s.cn, tn := fun _ => none, op := false } : PS).cn = s.cn := by
  have hc : ({ s with now := s.cn, tn := fun _ => none, op := false } : PS).cn = s.cn := rfl
  have hf : FreeIs n { s with now := s.cn, tn := fun _ => none, op := false } lc := h.frc.congr rfl fun _ _ => rfl
  exact ⟨⟨h.dd, h.ld, h.ok2, h.c12, h.cr2, hf, (fun k B e => by cases e), fun _ => rfl, h.ok2, h.c12, h.cr2, h.frc⟩, hc⟩
end
theorem fresh_St {n room : Nat} {m : Mt} {x : LX} (hl : x.ld = false) (ok : m.Ok) (c1 : 1 ≤ m.count) (cr : m.count ≤ room) {l : List Nat} (f : FreeIs n (PS.fresh m x) l) : PSt n room (PS.fresh m x) l l :=
  ⟨rfl, hl, ok, c1, cr, f, (fun k B e => by cases e), fun _ => rfl, ok, c1, cr, f⟩
/-- Alloc. -/
theorem alloc_St (b0 : Nat) (w : World) (F : Nat → Prop) (pb d size n room : Nat) (s : PS) (l lc : List Nat) (h : PgA b0 w F pb d size n room s) (hS : PSt n room s l lc) (hr : room ≤ 100000) :
    Calls Try.prog 10 #[.pointer (some ⟨pb, 0, none⟩)] w fun e w' =>
      (e = .returned (.tuple #[.int .i64 0, .int .i64 6]) ∧ Below w.heap.size w w' ∧ l = [] ∧ s.now.count = room) ∨
      (∃ k s' l', e = .returned (.tuple #[.int .i64 ((k : Nat) : Int), .int .i64 0]) ∧ PgR b0 w w' F pb d size n room s' ∧ PSt n room s' l' lc ∧ Alc n s s' l l' k ∧ ¬ (l = [] ∧ s.now.count = room)) := by
  rcases hS.fre.head with h0 | ⟨r, hl⟩
  · have hln : l = [] := by
      cases hll : l with
      | nil => rfl
      | cons b r =>
        have h1 := hS.fre.pt
        rw [hll] at h1
        have h2 := hS.fre.rg b (by rw [hll]; exact List.mem_cons_self)
        have h3 : s.now.free = b := h1.1
        omega
    by_cases hc : room ≤ s.now.count
    · obtain ⟨T, U, lb, m, f, hm⟩ := h
      have hrow := hm.row
      rw [hS.dd] at hrow
      refine (pgalloc_full w pb d lb n room s.now s.was m s.op hrow h0 hc).mono ?_
      rintro e w' ⟨rfl, hb⟩
      have := hS.cr
      exact .inl ⟨rfl, hb, hln, by omega⟩
    · refine (pgalloc_new b0 w F pb d size n room s h hS.dd h0 (by omega) hr).mono ?_
      rintro e w' ⟨rfl, hR⟩
      obtain ⟨q1, q2⟩ := hS.new hln (by omega) hr
      exact .inr ⟨_, _, l, rfl, hR, q1, q2, fun q => by omega⟩
  · have hk := hS.fre.rg s.now.free (by rw [hl]; exact List.mem_cons_self)
    have hmn := hS.fre.mn
    have hml := hS.fre.many_lt hS.c1
    have hcr := hS.cr
    rw [hl, List.length_cons] at hmn
    refine (pgalloc_pop b0 w F pb d size n room s h hS.dd hk.1 hk.2 hcr (by omega) (by omega)).mono ?_
    rintro e w' ⟨rfl, hR⟩
    obtain ⟨q1, q2⟩ := hS.pop hl hr
    refine .inr ⟨_, _, r, rfl, hR, q1, q2, fun q => ?_⟩
    rw [hl] at q
    cases q.1
end Go.Proofs.Ytagipfkgnobjlaa
