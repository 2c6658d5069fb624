/- The pager's calls at a state of which the plain law speaks. -/
import Derived.Test.YtagipfkgnobjlaaPgFull
namespace Go.Proofs.Ytagipfkgnobjlaa
open Go.RowKit

attribute [local go_sem] Oper.semAt_some
theorem commit_St (b0 : Nat) (w : World) (F : Nat → Prop) (pb d size n room : Nat) (s : PS) (l lc : List Nat) (h : PgA b0 w F pb d size n room s) (hS : PSt n room s l lc) (hrm : room ≤ 580) (hq : s.x.D.pcs.length ≤ 300000) (hbs : s.x.bs.length ≤ 800000) (hrun : s.x.run < 9223372036854775000) :
    Calls Try.prog 14 #[.pointer (some ⟨pb, 0, none⟩)] w fun e w' => (∃ er : Int, e = .returned (.int .i64 er)) ∧ KeepA F w w' := by
  have hc1 := hS.c1
  have hcr := hS.cr
  cases hop : s.op with
  | true =>
    refine (pgCommit_open b0 w F pb d size n room s h hop hS.dd hS.ld hS.ok (by omega) hrm (fun k v e => ?_) hq hbs hrun).mono ?_
    · obtain ⟨j, q1, q2, q3, -⟩ := hS.tn k v e
      exact ⟨j, q1, by omega⟩
    · rintro e w' ⟨er, s', rfl, -, -, -, -, hk⟩
      exact ⟨⟨er, rfl⟩, hk⟩
  | false =>
    obtain ⟨T, U, lb, m, f, h⟩ := h
    have hrow := h.row
    rw [hop, hS.dd] at hrow
    refine (pgCommit_idle w pb d lb n room s.now s.was m hrow).mono ?_
    rintro e w' ⟨rfl, hb⟩
    exact ⟨⟨0, rfl⟩, KeepA.of_below hb⟩
theorem get_St (b0 : Nat) (w : World) (F : Nat → Prop) (pb d size n room : Nat) (s : PS) (h : PgA b0 w F pb d size n room s) (hc : s.now.count ≤ room) (x : Int) :
    Calls Try.prog 9 #[.pointer (some ⟨pb, 0, none⟩), .int .i64 x] w fun e w' => (∃ v, e = .returned v) ∧ Below w.heap.size w w' := by
  cases ht : takenB n s x with
  | true =>
    obtain ⟨k, rfl⟩ := taken_nat ht
    refine (pgget_yes b0 w F pb d size n room s h hc k ht).mono ?_
    rintro e w' ⟨vb, rfl, -, hb⟩
    exact ⟨⟨_, rfl⟩, hb⟩
  | false =>
    refine (pgget_no b0 w F pb d size n room s h hc x ht).mono ?_
    rintro e w' ⟨rfl, hb⟩
    exact ⟨⟨_, rfl⟩, hb⟩
theorem put_St (b0 : Nat) (w : World) (F : Nat → Prop) (pb d size n room : Nat) (s : PS) (l lc : List Nat) (h : PgA b0 w F pb d size n room s) (hS : PSt n room s l lc) {k : Nat} (hk : k ∉ l) (h0 : 0 < k) (hc : k < s.now.count) (a : Option Addr) (B : List UInt8) (cap : Nat) (hB : B.length = 1024) (hcap : 1024 ≤ cap) (hr : RdB w a B) (hsep : ∀ b off, a = some ⟨b, off, none⟩ → ¬ F b) :
    Calls Try.prog 11 #[.pointer (some ⟨pb, 0, none⟩), .int .i64 (k : Int), .slice a 1024 cap] w fun e w' => e = .returned (.int .i64 0) ∧ PgR b0 w w' F pb d size n room (s.begun.laid (k : Int) B) :=
  pgPut_yes b0 w F pb d size n room s h hS.cr hS.dd (k : Int) ((hS.fre.taken k).2 ⟨h0, hc, hk⟩) a B cap hB hcap hr hsep
theorem free_St (b0 : Nat) (w : World) (F : Nat → Prop) (pb d size n room : Nat) (s : PS) (l lc : List Nat) (h : PgA b0 w F pb d size n room s) (hS : PSt n room s l lc) (hr : room ≤ 100000) (x : Int) :
    Calls Try.prog 13 #[.pointer (some ⟨pb, 0, none⟩), .int .i64 x] w fun e w' => (e = .returned (.int .i64 4) ∧ Below w.heap.size w w' ∧ takenB n s x = false) ∨
      (∃ k : Nat, x = (k : Int) ∧ k ∉ l ∧ 0 < k ∧ k < s.now.count ∧ e = .returned (.int .i64 0) ∧ PgR b0 w w' F pb d size n room ((s.begun.laid (k : Int) (linkP s.now.free)).pushed k)) := by
  have hml := hS.fre.many_lt hS.c1
  have hcr := hS.cr
  cases ht : takenB n s x with
  | true =>
    obtain ⟨k, rfl⟩ := taken_nat ht
    obtain ⟨q1, q2, q3⟩ := (hS.fre.taken k).1 ht
    refine (pgfree_yes b0 w F pb d size n room s h hcr hS.dd k ht hS.ok.free (by omega)).mono ?_
    rintro e w' ⟨rfl, hR⟩
    exact .inr ⟨k, rfl, q3, q1, q2, rfl, hR⟩
  | false =>
    refine (pgfree_no b0 w F pb d size n room s h hcr hS.dd x ht).mono ?_
    rintro e w' ⟨rfl, hb⟩
    exact .inl ⟨rfl, hb, rfl⟩
theorem run_eqPgN (w : World) : (binOp .eql 30 (.pointer none) (.pointer none)).run Try.prog w = .ok (.bool true) w := by
  simp only [binOp]
  have h : (Op.equalIn 10000 30 (.pointer none) (.pointer none)).run Try.prog w = .ok true w := by
    show (Op.equalIn (9999 + 1) _ _ _).run Try.prog w = _
    unfold Op.equalIn
    rw [Sem.run_bind, run_underlying Try.underlying30]
    rfl
  simp [Op.equal, Op.maxDepth, h]
theorem readOk_facts {B : List UInt8} {room : Nat} (h : readOk B (room : Int) = true) : 1 ≤ (rdM B).count ∧ (rdM B).count ≤ room ∧ (rdM B).free < (rdM B).count ∧ (rdM B).many < (rdM B).count := by
  unfold readOk at h
  simp only [Bool.and_eq_true, decide_eq_true_eq] at h
  show 1 ≤ nth4 B 1 ∧ nth4 B 1 ≤ room ∧ nth4 B 2 < nth4 B 1 ∧ nth4 B 3 < nth4 B 1
  omega
theorem leB_lt4 (l : List UInt8) (h : l.length ≤ 4) : leB l < 4294967296 := by
  have := leB_lt l
  exact Nat.lt_of_lt_of_le this (by
    have : 256 ^ l.length ≤ 256 ^ 4 := Nat.pow_le_pow_right (by decide) h
    simpa using this)
theorem nth4_lt (B : List UInt8) (i : Nat) : nth4 B i < 4294967296 := leB_lt4 _ (by rw [List.length_take]; omega)
theorem rdM_ok (B : List UInt8) : (rdM B).Ok := ⟨nth4_lt B 1, nth4_lt B 2, nth4_lt B 3, by simp [rdM], fun r hr => by
  simp only [rdM, List.mem_map] at hr
  obtain ⟨i, -, rfl⟩ := hr
  exact nth4_lt B _⟩
/-- A pager that was opened. -/
theorem open_St {n room size : Nat} {V : Int → List UInt8} {x : LX} (h : OpX n room size V x) (h2 : opOk n room x = true) : ∃ l, PSt n room (PS.fresh (opM n x) x) l l ∧ x.D.pcs = [] ∧ x.bs = [] ∧ x.run ≤ 4611686018427387905 := by
  unfold opOk at h2
  simp only [Bool.and_eq_true] at h2
  obtain ⟨run, base, used, bs, x1, q1, q2, q3, q4⟩ := h
  have hf := readOk_facts h2.1
  have hd := q3.det q3 rfl
  have hm := q4.more
  have hx1 : ∀ {l : List (List UInt8)} {x x' : LX}, PutsR n room l x x' → x'.ld = x.ld ∧ x'.run = x.run := fun {l} => by
    induction l with
    | nil => intro x x' h; rw [show x' = x from h]; exact ⟨rfl, rfl⟩
    | cons b l ih =>
      rintro x x' ⟨x2, a1, a2⟩
      obtain ⟨-, -, -, a3⟩ := a1.more fun e he => entsN_len _ _ e he
      obtain ⟨b1, b2⟩ := ih a2
      rw [b1, b2, a3]
      exact ⟨rfl, rfl⟩
  obtain ⟨hl, hr⟩ := hx1 q3
  obtain ⟨e0, xa, s1, hc⟩ := q4
  have hs1 := s1.more
  rcases hc with ⟨hne, e, -⟩ | ⟨-, D', hw, hc⟩
  · exact absurd e.symm hne
  · rcases hc with ⟨-, e⟩ | ⟨hne, -⟩
    · refine ⟨_, fresh_St ?_ (rdM_ok _) hf.1 hf.2.1 (FreeIs.of_sound h2.2), hm.1, by rw [e], ?_⟩
      · rw [hm.2.1, hl]
      · rw [e]
        show xa.run + 1 ≤ _
        rw [hs1.2.2.2.2.1, hr]
        show run + 1 + 1 ≤ _
        omega
    · exact absurd rfl hne
end Go.Proofs.Ytagipfkgnobjlaa
