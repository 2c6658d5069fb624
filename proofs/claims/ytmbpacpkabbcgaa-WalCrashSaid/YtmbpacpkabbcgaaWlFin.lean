/- WalCrash: the walk. -/
import Derived.Test.YtmbpacpkabbcgaaWlCrash
import Derived.Test.YtmbpacpkabbcgaaWlSteps
import Derived.Test.YtmbpacpkabbcgaaWlKnown
import Derived.Deep.DeepCutAuto
import Derived.Deep.CutBlock
import Derived.Great.BuildSlice
namespace Go.Proofs.Ytmbpacpkabbcgaa
open Go.RowKit

theorem eltStr : Elt Try.prog 39 9 1 16 (.string ⟨#[]⟩) := ⟨Try.underlying39, by kernel_rfl, by kernel_rfl, by decide⟩
def OwnS (w : World) (base : Nat) (v : Value) (l : List (List UInt8)) : Prop := w.ownsRow base 9 1 v l.length (l.map strV)
theorem OwnS.nil (w : World) (base : Nat) : OwnS w base (.slice none 0 0) [] := World.ownsRow_nil _ _ _ _
theorem OwnS.keep {w w' : World} {X : Nat → Prop} (hk : KeepA X w w') {base : Nat} {v : Value} {l : List (List UInt8)} (h : OwnS w base v l) (hx : ∀ g, v.ownBlock = some g → ¬ X g) : OwnS w' base v l := own_keep hk h hx
theorem OwnS.later {w w' : World} (hb : Below w.heap.size w w') {base : Nat} {v : Value} {l : List (List UInt8)} (h : OwnS w base v l) : OwnS w' base v l := h.keep (KeepA.of_below (X := fun _ => False) hb) fun _ _ h => h
theorem OwnS.rd {w : World} {base : Nat} {v : Value} {l : List (List UInt8)} (h : OwnS w base v l) : ∃ a cap, v = .slice a l.length cap ∧ l.length ≤ cap ∧ Rd w a (l.map strV) := by
  have h2 := Rd.of_own h
  simpa using h2
theorem OwnS.lt {w : World} {base : Nat} {v : Value} {l : List (List UInt8)} (h : OwnS w base v l) {g : Nat} (hg : v.ownBlock = some g) : base ≤ g ∧ g < w.heap.size := World.ownsRow.lt h g hg
theorem strV_one (k : List (List UInt8)) : ∀ u ∈ k.map strV, u.oneCell' = true := fun u hu => by obtain ⟨b, -, rfl⟩ := List.mem_map.1 hu; rfl
theorem rd_one {w : World} {g : Nat} {t : TypeId} {v : Value} (h : RowAt w g t #[v]) : Rd w (some ⟨g, 0, none⟩) [v] := .inr ⟨g, 0, rfl, h.lt, fun k hk => by
  have : k = 0 := by simpa using hk
  subst this
  exact h.cell 0⟩
/-- Strings are added to a row of the call's own. -/
theorem wp_pushS {o : Oper} {act : Act} {K : Act → World → Prop} {Q : Exit → Act → World → Prop} {w : World} (s x : Operand) (ho : o.op = .call { callee := .builtin .append, args := #[s, x], argTypes := #[39, 39] })
    (base : Nat) (v : Value) (l : List (List UInt8)) (hv : act.eval s = v) (a : Option Addr) (m c : Nat) (k : List (List UInt8)) (hm : m = k.length) (hx : act.eval x = .slice a m c) (hown : OwnS w base v l) (hr : Rd w a (k.map strV)) (hsz : l.length + k.length ≤ 1000000) (hbase : base ≤ w.heap.size)
    (h : ∀ v' w', OwnS w' base v' (l ++ k) → w.grownBy w' v.ownBlock → NewRow w v v' → K (act.put o.dst v') w') : o.wp Try.prog act w K Q := by
  obtain ⟨v', w', hrun, q2, q3, q4⟩ := run_append_any eltStr w base o.type v l.length (l.map strV) hown a m c (k.map strV) (by simp [hm]) hr (strV_one k) (by omega) (by omega) hbase
  unfold Oper.wp execOp
  simp only [ho, resolve, invoke, builtin, Sem.run_bind, Sem.run_pure, Result.andThen_ok, List.map_toArray, List.map_cons, List.map_nil, hv, hx, hrun]
  refine h v' w' ?_ q3 q4
  unfold OwnS
  rw [List.length_append, List.map_append, ← hm]
  exact q2
theorem step_pushS {ops : Array Oper} {rest : List Oper} {o : Oper} {act : Act} {Q : Exit → Act → World → Prop} {w : World} (hgd : o.guard = none) (s x : Operand) (ho : o.op = .call { callee := .builtin .append, args := #[s, x], argTypes := #[39, 39] })
    (base : Nat) (v : Value) (l : List (List UInt8)) (hv : act.eval s = v) (g : Nat) (b : List UInt8) (hx : act.eval x = .slice (some ⟨g, 0, none⟩) 1 1) (hown : OwnS w base v l) (hg : RowAt w g 9 #[strV b]) (hsz : l.length + 1 ≤ 1000000) (hbase : base ≤ w.heap.size)
    (h : ∀ v' w', OwnS w' base v' (l ++ [b]) → w.grownBy w' v.ownBlock → NewRow w v v' → wpList Try.prog ops Q rest (act.put o.dst v') w') : wpList Try.prog ops Q (o :: rest) act w :=
  wpList_plain hgd fun _ hK => wp_pushS s x ho base v l hv _ 1 1 [b] rfl hx hown (.inr ⟨g, 0, rfl, hg.lt, fun k hk => by
    have : k = 0 := by simpa using hk
    subst this
    exact hg.cell 0⟩) (by simpa using hsz) hbase fun v' w' q1 q2 q3 => hK _ _ (h v' w' q1 q2 q3)
theorem step_loadCellsG {P : Program} {ops : Array Oper} {rest : List Oper} {o : Oper} {a : Act} {w : World} {Q : Exit → Act → World → Prop} (hw : Region.wanted o (yielded ops a.tmps) = true) (ty : TypeId) (x : Operand) (ho : o.op = .load ty x)
    (p : Addr) (hx : a.eval x = .pointer (some p)) (cs : List Value) (hA : Agg P ty cs.length) (hc : ∀ j v, cs[j]? = some v → w.cell? (p.add j) = some v)
    (h : wpList P ops Q rest (a.put o.dst (.agg cs.toArray)) w) : wpList P ops Q (o :: rest) a w :=
  wpList_step fun K hK => by
    rw [if_pos hw]
    unfold Oper.wp execOp
    simp only [ho, hx, Instr.loadAt, Instr.sureAddr, Sem.run_bind, Sem.run_pure, Result.andThen_ok, run_loadVar_cells w p ty cs hA hc]
    exact hK _ _ h
theorem aggWs {kd : Int} {ba fa : Option Addr} {nb bc nf fc : Nat} : Agg Try.prog 44 [Value.int .i64 kd, .slice ba nb bc, .slice fa nf fc].length := ⟨⟨_, Try.underlying44⟩, by kernel_rfl⟩
theorem aggLf {fa sa pa : Option Addr} {nf fc ns sc np pc : Nat} : Agg Try.prog 59 [Value.slice fa nf fc, .slice sa ns sc, .slice pa np pc].length := ⟨⟨_, Try.underlying59⟩, by kernel_rfl⟩
theorem aggLg {x y z : Int} : Agg Try.prog 23 [Value.int .i64 x, .int .i64 y, .int .i64 z].length := ⟨⟨_, Try.underlying23⟩, by kernel_rfl⟩
theorem below_keepT {W0 W W' : World} {T : Nat → Prop} (hb : Below W0.heap.size W0 W) (hk : KeepA T W W') (hT : ∀ x, T x → W0.heap.size ≤ x) : Below W0.heap.size W0 W' := hb.trans (hk.below hb.size hT)
/-- Strings that can be read, apart from some blocks. -/
def WantIs (W : World) (X : Nat → Prop) (v : Value) (bs : List (List UInt8)) : Prop := ∃ a c, v = .slice a bs.length c ∧ Rd W a (bs.map strV) ∧ (bs ≠ [] → ∀ b off, a = some ⟨b, off, none⟩ → b < W.heap.size ∧ ¬ X b)
theorem WantIs.nil (W : World) (X : Nat → Prop) : WantIs W X (.slice none 0 0) [] := ⟨none, 0, rfl, .inl rfl, fun h => absurd rfl h⟩
theorem WantIs.keep {W W' : World} {X Y : Nat → Prop} {v : Value} {bs : List (List UInt8)} (h : WantIs W X v bs) (hk : KeepA Y W W') (hy : ∀ x, x < W.heap.size → Y x → X x) : WantIs W' X v bs := by
  obtain ⟨a, c, h1, h2, h3⟩ := h
  refine ⟨a, c, h1, ?_, fun hne b off ha => ⟨Nat.lt_of_lt_of_le (h3 hne b off ha).1 hk.size, (h3 hne b off ha).2⟩⟩
  by_cases hne : bs = []
  · exact .inl (by rw [hne]; rfl)
  · exact Rd.keepA h2 hk fun b off ha hlt hyb => (h3 hne b off ha).2 (hy b hlt hyb)
theorem WantIs.later {W W' : World} {X : Nat → Prop} {v : Value} {bs : List (List UInt8)} (h : WantIs W X v bs) (hb : Below W.heap.size W W') : WantIs W' X v bs := h.keep (KeepA.of_below (X := fun _ => False) hb) fun _ _ h => h.elim
theorem WantIs.to {W : World} {X Y : Nat → Prop} {v : Value} {bs : List (List UInt8)} (h : WantIs W X v bs) (hy : ∀ x, x < W.heap.size → Y x → X x) : WantIs W Y v bs := by
  obtain ⟨a, c, h1, h2, h3⟩ := h
  exact ⟨a, c, h1, h2, fun hne b off ha => ⟨(h3 hne b off ha).1, fun hyb => (h3 hne b off ha).2 (hy b (h3 hne b off ha).1 hyb)⟩⟩
theorem WantIs.move {W W' : World} {X Y : Nat → Prop} {v : Value} {bs : List (List UInt8)} (h : WantIs W X v bs) (hk : KeepA X W W') (hy : ∀ x, Y x → X x ∨ W.heap.size ≤ x) : WantIs W' Y v bs := by
  obtain ⟨a, c, h1, h2, h3⟩ := h
  refine ⟨a, c, h1, ?_, fun hne b off ha => ⟨Nat.lt_of_lt_of_le (h3 hne b off ha).1 hk.size, fun hyb => (hy b hyb).elim (h3 hne b off ha).2 fun e => by have := (h3 hne b off ha).1; omega⟩⟩
  by_cases hne : bs = []
  · exact .inl (by rw [hne]; rfl)
  · exact Rd.keepA h2 hk fun b off ha hlt hxb => (h3 hne b off ha).2 hxb
theorem OwnS.wantIs {W : World} {X : Nat → Prop} {base : Nat} {v : Value} {bs : List (List UInt8)} (h : OwnS W base v bs) (hx : ∀ x, base ≤ x → x < W.heap.size → ¬ X x) : WantIs W X v bs := by
  have hlt := fun g (hg : v.ownBlock = some g) => h.lt hg
  obtain ⟨a, c, hv, -, hr⟩ := h.rd
  refine ⟨a, c, hv, hr, fun hne b off ha => ?_⟩
  have := hlt b (by rw [hv, ha]; rfl)
  exact ⟨this.2, hx b this.1 this.2⟩
theorem WantIs.rd {W : World} {X : Nat → Prop} {a : Option Addr} {m c : Nat} {bs : List (List UInt8)} (h : WantIs W X (.slice a m c) bs) : m = bs.length ∧ Rd W a (bs.map strV) := by
  obtain ⟨a', c', h1, h2, h3⟩ := h
  simp only [Value.slice.injEq] at h1
  obtain ⟨rfl, rfl, rfl⟩ := h1
  exact ⟨rfl, h2⟩
/-- A life that goes on. -/
structure CrR (W0 W : World) (d size : Nat) (fr : Int) (n lb F r q : Nat) (T : Nat → Prop) (wv : Value) (bs : List (List UInt8)) (m : Nat) : Prop where
  log : CLog W0.heap.size W T lb d size fr n F r q bs
  want : WantIs W T wv bs
  bel : Below W0.heap.size W0 W
  hlen : bs.length ≤ m
  hsm : ∀ b ∈ bs, b.length ≤ 20000
/-- A life that ended. -/
structure CrE (W0 W : World) (d size : Nat) (fr : Int) (n r q : Nat) (wv nv : Value) (bsW bsN : List (List UInt8)) (nn : Bool) (m : Nat) : Prop where
  disk : CEnd W d size fr n r q (fun b => b = bsW ∨ b = bsN ∨ (nn = true ∧ b = []))
  want : WantIs W (fun _ => False) wv bsW
  next : WantIs W (fun _ => False) nv bsN
  bel : Below W0.heap.size W0 W
  hlen : bsW.length ≤ m ∧ bsN.length ≤ m
  hsm : (∀ b ∈ bsW, b.length ≤ 20000) ∧ ∀ b ∈ bsN, b.length ≤ 20000
/-- A disk between two lives. -/
structure CrD (W0 W : World) (S : Nat → Prop) (d size : Nat) (fr : Int) (n i : Nat) (wv : Value) (bs : List (List UInt8)) : Prop where
  disk : CDisk W0.heap.size W S d size fr n (1 + 60 * i) i bs
  want : WantIs W S wv bs
  bel : Below W0.heap.size W0 W
  hlen : bs.length ≤ 60 * i
  hsm : ∀ b ∈ bs, b.length ≤ 20000
theorem CrD.later {W0 W W' : World} {S : Nat → Prop} {d size : Nat} {fr : Int} {n i : Nat} {wv : Value} {bs : List (List UInt8)} (h : CrD W0 W S d size fr n i wv bs) (hb : Below W.heap.size W W') : CrD W0 W' S d size fr n i wv bs :=
  ⟨h.disk.later hb, h.want.later hb, h.bel.trans (hb.mono h.bel.size), h.hlen, h.hsm⟩
theorem CEnd.more {W : World} {d size : Nat} {fr : Int} {n r r2 q : Nat} {P : List (List UInt8) → Prop} (h : CEnd W d size fr n r q P) (hr : r ≤ r2) : CEnd W d size fr n r2 q P := by
  obtain ⟨S, D, F, h1, h2, h3, h4⟩ := h
  refine ⟨S, D, F, h1, h2, h3, fun ps => ?_⟩
  obtain ⟨b, hb, run, base, used, k1, k2, k3⟩ := h4 ps
  exact ⟨b, hb, run, base, used, k1, Nat.le_trans k2 hr, k3⟩
theorem CDisk.lower {b0 b1 : Nat} {W : World} {S : Nat → Prop} {d size : Nat} {fr : Int} {n r r2 q : Nat} {bs : List (List UInt8)} (h : CDisk b1 W S d size fr n r q bs) (hb : b0 ≤ b1) (hr : r ≤ r2) : CDisk b0 W S d size fr n r2 q bs := by
  obtain ⟨L, h1, ⟨run, base, used, k1, k2, k3⟩, h3⟩ := h
  exact ⟨L, h1, ⟨run, base, used, k1, Nat.le_trans k2 hr, k3⟩, fun x hx => ⟨Nat.le_trans hb (h3 x hx).1, (h3 x hx).2⟩⟩
theorem CrR.later {W0 W W' : World} {d size : Nat} {fr : Int} {n lb F r q : Nat} {T : Nat → Prop} {wv : Value} {bs : List (List UInt8)} {m : Nat} (h : CrR W0 W d size fr n lb F r q T wv bs m) (hb : Below W.heap.size W W') : CrR W0 W' d size fr n lb F r q T wv bs m :=
  ⟨h.log.later hb, h.want.later hb, h.bel.trans (hb.mono h.bel.size), h.hlen, h.hsm⟩
theorem CrE.later {W0 W W' : World} {d size : Nat} {fr : Int} {n r q : Nat} {wv nv : Value} {bsW bsN : List (List UInt8)} {nn : Bool} {m : Nat} (h : CrE W0 W d size fr n r q wv nv bsW bsN nn m) (hb : Below W.heap.size W W') : CrE W0 W' d size fr n r q wv nv bsW bsN nn m :=
  ⟨h.disk.later hb, h.want.later hb, h.next.later hb, h.bel.trans (hb.mono h.bel.size), h.hlen, h.hsm⟩
set_option maxRecDepth 100000 in
set_option maxHeartbeats 8000000 in
theorem walcrash_any (w : World) (sz fr ln : Int) (la : Option Addr) (l : List Lf) (nl lc : Nat) (hl1 : nl = l.length) (hl2 : nl ≤ 9223372036854775807) (hl : RdLf w la l) :
    Calls Try.prog 4 #[.agg #[.int .i64 sz, .int .i64 fr, .int .i64 ln, .slice la nl lc]] w fun e w' => e = .returned (.bool true) ∧ Below w.heap.size w w' := by
  obtain ⟨g, hg⟩ : ∃ x, w.heap.size = x := ⟨_, rfl⟩
  have HL1 := Lib.hid hl1
  have HL := Lib.hid hl
  have HVA := Lib.hid (fun (w : World) => vast_any w sz fr ln none [] 0 0 rfl (by omega) (fun s hs => by cases hs) (.inl rfl))
  clear hl1 hl
  rw [hg]
  obtain ⟨K, hK⟩ : ∃ K : Ending → World → Prop, (fun (e : Ending) (w' : World) => e = .returned (.bool true) ∧ Below g w w') = K := ⟨_, rfl⟩
  have HKT : Hid (∀ w', Below g w w' → K (.returned (.bool true)) w') := fun w' h => by rw [← hK]; exact ⟨rfl, h⟩
  rw [hK]
  clear hK
  go_enter Try.func4, Try.ntmps4
  go_upto_region 1 with fail
  obtain ⟨W0, hW0⟩ : ∃ x, w.alloc (.cells #[.int .i64 sz, .int .i64 fr, .int .i64 ln, .slice la nl lc] 56) = x := ⟨_, rfl⟩
  have HA0 : Hid (RowAt W0 g 56 #[.int .i64 sz, .int .i64 fr, .int .i64 ln, .slice la nl lc]) := by rw [← hW0, ← hg]; exact RowAt.new _ _ _
  have HBX : Hid (Below g w W0) := by rw [← hW0, ← hg]; exact below_alloc _
  have hWs : W0.heap.size = g + 1 := by rw [← hW0, ← hg]; simp
  have HGX : Hid (g ≤ W0.heap.size) := by show _ ≤ _; omega
  have HL0 : Hid (RdLf W0 la l) := HL.out.later (by rw [hg]; exact HBX.out)
  have HKB : Hid (∀ w', Below W0.heap.size W0 w' → K (.returned (.bool true)) w') := fun w' h => HKT.out w' (HBX.out.trans (h.mono HGX.out))
  have HLG : Hid (∀ W, Below W0.heap.size W0 W → ∀ (j : Nat) (v : Value), [Value.int .i64 sz, .int .i64 fr, .int .i64 ln][j]? = some v → W.cell? ((⟨g, 0, none⟩ : Addr).add j) = some v) := fun W hb j v hv => by
    have hj : j < 3 := (List.getElem?_eq_some_iff.1 hv).1
    rw [Addr.add_mid, Nat.zero_add, (RowAt.below HA0.out hb).cell j, List.getElem?_toArray, ← hv]
    rcases j with _ | _ | _ | j
    · rfl
    · rfl
    · rfl
    · omega
  have HCL : Hid (∀ W, Below W0.heap.size W0 W → W.cell? ⟨g, 0, none⟩ = some (.int .i64 sz) ∧ W.cell? ⟨g, 1, none⟩ = some (.int .i64 fr) ∧ W.cell? ⟨g, 2, none⟩ = some (.int .i64 ln) ∧ W.cell? ⟨g, 3, none⟩ = some (.slice la nl lc)) := fun W hb =>
    ⟨(RowAt.below HA0.out hb).cell 0, (RowAt.below HA0.out hb).cell 1, (RowAt.below HA0.out hb).cell 2, (RowAt.below HA0.out hb).cell 3⟩
  rw [hW0]
  clear hW0 HKT HL
  obtain ⟨i0, i1, i2, i3⟩ := HCL.out W0 (Below.refl _ _)
  by_cases hsz : sz < 1 ∨ 65536 < sz
  · go_wp2_with fail
    refine (new_bad W0 sz hsz).mono ?_
    rintro _ w1 ⟨rfl, rfl⟩
    clear hsz
    go_wp2_with (refine step_loadCells rfl 23 (.tmp 32) rfl ⟨g, 0, none⟩ rfl _ aggLg (HLG.out w1 (Below.refl _ _)) ?_)
    refine (HVA.out w1).mono ?_
    rintro _ w2 ⟨⟨r, rfl, hr⟩, hb2⟩
    have HB2 := Lib.hid hb2
    clear hr hb2
    cases r with
    | true =>
      go_wp2_with fail
      refine (known_any _).mono ?_
      rintro _ w3 ⟨rfl, hb3⟩
      have HB3 := Lib.hid (HB2.out.trans (hb3.mono HB2.out.size))
      clear hb3
      go_wp2
      exact HKB.out _ HB3.out
    | false =>
      go_wp2_with fail
      refine (known_any _).mono ?_
      rintro _ w3 ⟨rfl, hb3⟩
      have HB3 := Lib.hid (HB2.out.trans (hb3.mono HB2.out.size))
      clear hb3
      go_wp2
      exact HKB.out _ HB3.out
  obtain ⟨size, rfl⟩ : ∃ n : Nat, sz = (n : Int) := ⟨sz.toNat, by omega⟩
  have hsz1 : 0 < size := by omega
  have hsz2 : size ≤ 65536 := by omega
  clear hsz
  go_wp2_with fail
  refine (new_any none [] 0 0 size W0 rfl (by omega) (.inl rfl) hsz1 hsz2 rfl).mono ?_
  rintro _ w1 ⟨⟨d, rfl, hd⟩, hb1⟩
  have HD1 := Lib.hid hd.toS
  have HB1 := Lib.hid hb1
  clear hd hb1 i0 i1 i2 i3
  go_wp2_with (refine step_loadCells rfl 23 (.tmp 32) rfl ⟨g, 0, none⟩ rfl _ aggLg (HLG.out w1 HB1.out) ?_)
  refine (HVA.out w1).mono ?_
  rintro _ w2 ⟨⟨r, rfl, hr⟩, hb2⟩
  have HB2 := Lib.hid (HB1.out.trans (hb2.mono HB1.out.size))
  have HD2 := Lib.hid (HD1.out.later hb2)
  have HSP2 : Hid (∀ x, W0.heap.size ≤ x ∧ x < w1.heap.size → W0.heap.size ≤ x ∧ x < w2.heap.size) := fun x hx => ⟨hx.1, Nat.lt_of_lt_of_le hx.2 hb2.size⟩
  clear HD1 hb2
  cases r with
  | true =>
    clear hr
    go_wp2_with fail
    refine (known_any _).mono ?_
    rintro _ w3 ⟨rfl, hb3⟩
    have HB3 := Lib.hid (HB2.out.trans (hb3.mono HB2.out.size))
    clear hb3
    go_wp2
    exact HKB.out _ HB3.out
  | false =>
  obtain ⟨hz60, -, -⟩ := hr rfl
  clear hr
  obtain ⟨i0, i1, i2, i3⟩ := HCL.out w2 HB2.out
  go_wp2_with (refine step_loadCellsG (by rfl) 23 (.tmp 40) rfl ⟨g, 0, none⟩ rfl _ aggLg (HLG.out w2 HB2.out) ?_)
  refine (lright_any w2 size fr ln hsz2).mono ?_
  rintro _ w3 ⟨rfl, hb3⟩
  have HB3 := Lib.hid (HB2.out.trans (hb3.mono HB2.out.size))
  have HD3 := Lib.hid (HD2.out.later hb3)
  have HSP3 : Hid (∀ x, W0.heap.size ≤ x ∧ x < w1.heap.size → W0.heap.size ≤ x ∧ x < w3.heap.size) := fun x hx => ⟨hx.1, Nat.lt_of_lt_of_le (HSP2.out x hx).2 hb3.size⟩
  clear i0 i1 i2 i3 HD2 HSP2 hb3
  obtain ⟨i0, i1, i2, i3⟩ := HCL.out w3 HB3.out
  by_cases hask : ¬ askW size fr ln = 0
  · obtain ⟨no, hno⟩ : ∃ r, askW size fr ln = r := ⟨_, rfl⟩
    rw [hno] at hask
    try rw [hno]
    have hno1 : (no != 0) = true := by simpa using hask
    clear hno hask HD3
    go_wp2_with fail
    refine (known_any _).mono ?_
    rintro _ wk ⟨rfl, hbk⟩
    have HBK := Lib.hid (HB3.out.trans (hbk.mono HB3.out.size))
    clear hbk
    go_wp2
    exact HKB.out _ HBK.out
  have hask := Decidable.of_not_not hask
  rw [hask]
  obtain ⟨n, rfl⟩ : ∃ n : Nat, ln = (n : Int) := ⟨ln.toNat, by unfold askW at hask; split at hask <;> omega⟩
  obtain ⟨k1, k2, k3⟩ := ask_ok hask
  have HASK := Lib.hid hask
  have hn60 : n ≤ 60 := by omega
  clear hask
  by_cases h6 : 6 < (nl : Int)
  ·
    go_wp2_with fail
    refine (known_any _).mono ?_
    rintro _ wk ⟨rfl, hbk⟩
    have HBK := Lib.hid (HB3.out.trans (hbk.mono HB3.out.size))
    clear hbk
    go_wp2
    exact HKB.out _ HBK.out
  go_wp2_with fail
  refine (c_format W0.heap.size w3 _ d size _ fr n HD3.out HSP3.out HB3.out.size HASK.out).mono ?_
  rintro _ w4 ⟨rfl, ⟨S4, hd4, hS4⟩, hk4⟩
  have HB4 : Hid (Below W0.heap.size W0 w4) := below_keepT HB3.out hk4 fun x hx => hx.1
  have HD4 : Hid (CrD W0 w4 S4 d size fr n 0 (.slice none 0 0) []) := ⟨hd4, WantIs.nil _ _, HB4.out, Nat.le_refl _, fun b hb => by cases hb⟩
  clear hd4 hS4 hk4 i0 i1 i2 i3 HD3 HSP3 HB3 HB2 HB1 HVA
  obtain ⟨i0, i1, i2, i3⟩ := HCL.out w4 HB4.out
  go_wp2_with fail
  go_loopw [3, 5, 6] (fun dv wv iv wr => ∃ (i d : Nat) (S : Nat → Prop) (bs : List (List UInt8)), i ≤ nl ∧ iv = .int .i64 (i : Int) ∧ dv = .pointer (some ⟨d, 0, none⟩) ∧ CrD W0 wr S d size fr n i wv bs) (fun _ _ iv _ => nl - (intOf iv).toNat)
  case atStart => exact ⟨0, d, S4, [], Nat.zero_le _, rfl, rfl, HD4.out⟩
  case round =>
    clear i0 i1 i2 i3 HD4 HB4
    obtain ⟨i, d, S, bs, hi, rfl, rfl, hR⟩ := hrel
    have HR := Lib.hid hR
    clear hR
    obtain ⟨i0, i1, i2, i3⟩ := HCL.out wr HR.out.bel
    by_cases hin : i < nl
    · have hil : i < l.length := by rw [← HL1.out]; exact hin
      obtain ⟨b2, off, rfl, hlt, hrow⟩ := HL0.out.resolve_left (by intro e; rw [e] at hil; simp at hil)
      have hst := hrow i hil
      obtain ⟨s, hs'⟩ : ∃ s, l[i] = s := ⟨_, rfl⟩
      rw [hs'] at hst
      have HC : Hid (∀ j v, (lfC s)[j]? = some v → wr.cell? ((⟨b2, off + i * 3, none⟩ : Addr).add j) = some v) := fun j v hv => by
        rw [Addr.add_mid]
        exact CellsAt.later HR.out.bel hlt hst.cells j v hv
      have HOK := Lib.hid hst.ok
      obtain ⟨fa, fs, fc, sa, ss, sc, pa, ps, pc⟩ := s
      dsimp only [lfC] at HC
      obtain ⟨nf, hnf⟩ : ∃ x, fs.length = x := ⟨_, rfl⟩
      obtain ⟨ns, hns⟩ : ∃ x, ss.length = x := ⟨_, rfl⟩
      obtain ⟨np, hnp⟩ : ∃ x, ps.length = x := ⟨_, rfl⟩
      rw [hnf, hns, hnp] at HC
      have HNF := Lib.hid hnf
      have HNS := Lib.hid hns
      have HNP := Lib.hid hnp
      have hf63 : nf ≤ 9223372036854775807 := by have := HOK.out.flen; dsimp only at this; omega
      have hs63 : ns ≤ 9223372036854775807 := by have := HOK.out.slen; dsimp only at this; omega
      have hp63 : np ≤ 9223372036854775807 := by have := HOK.out.plen; dsimp only at this; omega
      have hpc : np ≤ pc := by have := HOK.out.pcap; dsimp only at this; omega
      clear hrow hst hs' hnf hns hnp
      have hb1 : (i : Int) < (nl : Int) := by omega
      obtain ⟨tb, htb⟩ : ∃ x, wr.heap.size = x := ⟨_, rfl⟩
      go_upto_region 9 with (refine step_loadCells rfl 59 (.tmp 73) rfl ⟨b2, off + i * 3, none⟩ rfl _ aggLf HC.out ?_)
      obtain ⟨w3, hw3⟩ : ∃ x, wr.alloc (.cells #[.slice fa nf fc, .slice sa ns sc, .slice pa np pc] 59) = x := ⟨_, rfl⟩
      have HT3 : Hid (RowAt w3 tb 59 #[.slice fa nf fc, .slice sa ns sc, .slice pa np pc]) := by rw [← hw3, ← htb]; exact RowAt.new _ _ _
      have hb3 : Below wr.heap.size wr w3 := by rw [← hw3]; exact below_alloc _
      have HR3 := Lib.hid (HR.out.later hb3)
      have HTS : Hid (∀ x, S x → x < tb) := fun x hx => by rw [← htb]; exact (HR.out.disk.lt x hx).2
      have HTW : Hid (W0.heap.size ≤ tb) := by show _ ≤ _; rw [← htb]; exact HR.out.bel.size
      have HTE : Hid (w3.heap.size = tb + 1) := by show _ = _; rw [← hw3, ← htb]; simp
      rw [hw3]
      clear hb3 hw3 htb HR HC i0 i1 i2 i3
      obtain ⟨i0, i1, i2, i3⟩ := HCL.out w3 HR3.out.bel
      have e0 := HT3.out.cell 0
      have e1 := HT3.out.cell 1
      have e2 := HT3.out.cell 2
      simp only [List.getElem?_toArray, List.getElem?_cons_zero, List.getElem?_cons_succ] at e0 e1 e2
      have HVS := Lib.hid (vast_any w3 (size : Int) fr (n : Int) sa ss ns sc HNS.out.symm hs63 HOK.out.sok (HOK.out.steps.later HR3.out.bel))
      go_wp2_with (refine step_loadCells rfl 23 (.tmp 75) rfl ⟨g, 0, none⟩ rfl _ aggLg (HLG.out w3 HR3.out.bel) ?_)
      refine HVS.out.mono ?_
      rintro _ w4 ⟨⟨r, rfl, hr⟩, hb4⟩
      have HR4 := Lib.hid (HR3.out.later hb4)
      have HT4 := Lib.hid (RowAt.below HT3.out hb4)
      have HS4 : Hid (w3.heap.size ≤ w4.heap.size) := hb4.size
      have HB4 := Lib.hid HR4.out.bel
      clear hb4 HVS e0 e1 e2 i0 i1 i2 i3
      obtain ⟨i0, i1, i2, i3⟩ := HCL.out w4 HR4.out.bel
      have e0 := HT4.out.cell 0
      have e1 := HT4.out.cell 1
      have e2 := HT4.out.cell 2
      simp only [List.getElem?_toArray, List.getElem?_cons_zero, List.getElem?_cons_succ] at e0 e1 e2
      cases r with
      | true =>
        clear hr
        as_aux_lemma =>
        go_wp2_with fail
        refine (known_any _).mono ?_
        rintro _ wk ⟨rfl, hbk⟩
        have HBK := Lib.hid (HB4.out.trans (hbk.mono HB4.out.size))
        clear hbk
        go_wp2
        exact HKB.out _ HBK.out
      | false =>
      obtain ⟨-, hns50, hsm⟩ := hr rfl
      have HSM := Lib.hid hsm
      clear hr hsm
      by_cases hf60 : 60 < (nf : Int)
      · as_aux_lemma =>
        go_wp2_with fail
        refine (known_any _).mono ?_
        rintro _ wk ⟨rfl, hbk⟩
        have HBK := Lib.hid (HB4.out.trans (hbk.mono HB4.out.size))
        clear hbk
        go_wp2
        exact HKB.out _ HBK.out
      by_cases hp200 : 200 < (np : Int)
      · as_aux_lemma =>
        go_wp2_with fail
        refine (known_any _).mono ?_
        rintro _ wk ⟨rfl, hbk⟩
        have HBK := Lib.hid (HB4.out.trans (hbk.mono HB4.out.size))
        clear hbk
        go_wp2
        exact HKB.out _ HBK.out
      have HRI := Lib.hid (rright_any fa fs nf fc w4 HNF.out.symm hf63 (HOK.out.fates.later HR4.out.bel))
      go_wp2_with fail
      refine HRI.out.mono ?_
      rintro _ w5 ⟨rfl, rfl⟩
      clear HRI
      cases hall : fs.all Ft.ok with
      | false =>
        clear hall
        as_aux_lemma =>
        go_wp2_with fail
        refine (known_any _).mono ?_
        rintro _ wk ⟨rfl, hbk⟩
        have HBK := Lib.hid (HB4.out.trans (hbk.mono HB4.out.size))
        clear hbk
        go_wp2
        exact HKB.out _ HBK.out
      | true =>
      clear hall
      have HOP := Lib.hid (c_open W0.heap.size w5 S d size fr n (1 + 60 * i) i bs HR4.out.disk HR4.out.bel.size HASK.out (by omega))
      go_wp2_with fail
      refine HOP.out.mono ?_
      rintro _ w6 ⟨⟨lb, rfl, T6, hl6, hT6⟩, hk6⟩
      have HR6 : Hid (CrR W0 w6 d size fr n lb 0 (1 + 60 * i + 1) (i + 1) T6 u5 bs (60 * i)) := ⟨hl6, HR4.out.want.move hk6 hT6, below_keepT HR4.out.bel hk6 (fun x hx => (HR4.out.disk.lt x hx).1), HR4.out.hlen, HR4.out.hsm⟩
      have HT6 := Lib.hid (row_keep hk6 HT4.out (fun hs => by have := HTS.out _ hs; omega))
      have HTT6 : Hid (∀ x, T6 x → x ≠ tb) := fun x hx e => (hT6 x hx).elim (fun h => by have := HTS.out _ h; omega) (fun h => by have := HS4.out; have := HTE.out; omega)
      obtain ⟨wa, wc2, rfl, -⟩ := HR4.out.want
      obtain ⟨m0, hm0⟩ : ∃ x, bs.length = x := ⟨_, rfl⟩
      rw [hm0] at HR6
      try rw [hm0]
      have HM0 := Lib.hid hm0
      have hm60 : m0 ≤ 60 * i := by have := HR4.out.hlen; omega
      have HTL := Lib.hid (c_tells W0.heap.size w6 T6 lb d size fr n 0 (1 + 60 * i + 1) (i + 1) bs HR6.out.log (by omega) (by rw [HM0.out]; omega) (fun b hb => Nat.le_trans (HR6.out.hsm b hb) (by omega)) wa m0 wc2 HM0.out.symm HR6.out.want.rd.2)
      clear hl6 hT6 hk6 hm0 HOP HR3 HT3 HR4 HT4 e0 e1 e2 i0 i1 i2 i3 HTS
      go_wp2_with fail
      refine HTL.out.mono ?_
      rintro _ w7 ⟨rfl, hb7⟩
      have HR7 := Lib.hid (HR6.out.later hb7)
      have HT7 := Lib.hid (RowAt.below HT6.out hb7)
      have e0 := HT7.out.cell 0
      simp only [List.getElem?_toArray, List.getElem?_cons_zero] at e0
      have HFD := Lib.hid (c_feed W0.heap.size w7 T6 lb d size fr n (1 + 60 * i + 1) (i + 1) bs HR7.out.log HR7.out.bel.size fa fs nf fc HNF.out.symm (HOK.out.fates.later HR7.out.bel) (by omega))
      have HS7 : Hid (tb < w7.heap.size) := HT7.out.lt
      clear hb7 HTL HR6 HT6
      go_wp2_with fail
      refine HFD.out.mono ?_
      rintro _ w8 ⟨⟨er, rfl⟩, ⟨T8, hl8, hT8⟩, hk8⟩
      have HR8 : Hid (CrR W0 w8 d size fr n lb nf (1 + 60 * i + 1) (i + 1) T8 (.slice wa m0 wc2) bs (60 * i)) := ⟨hl8, HR7.out.want.move hk8 hT8, below_keepT HR7.out.bel hk8 (fun x hx => (HR7.out.log.lt x hx).1), HR7.out.hlen, HR7.out.hsm⟩
      have HT8 := Lib.hid (row_keep hk8 HT7.out (fun hs => HTT6.out _ hs rfl))
      have HTT8 : Hid (∀ x, T8 x → x ≠ tb) := fun x hx e => (hT8 x hx).elim (fun h => HTT6.out x h e) (fun h => by have := HS7.out; omega)
      clear hl8 hT8 hk8 HFD HR7 HT7 HTT6 e0
      go_upto_block 2 with fail
      go_cut [5, 10, 11] (fun wv nv xv wx => ∃ (bsW bsN : List (List UInt8)) (nn : Bool), xv = .bool nn ∧ CrE W0 wx d size fr n (1 + 60 * i + 55) (i + 1) wv nv bsW bsN nn (60 * i + 55) ∧ RowAt wx tb 59 #[.slice fa nf fc, .slice sa ns sc, .slice pa np pc])
      case first =>
        as_aux_lemma =>
        go_wp2_with fail
        go_loopw [5, 10, 11, 12] (fun wv nv xv kv wr => ∃ (k : Nat) (T : Nat → Prop) (bs : List (List UInt8)), k ≤ ns ∧ kv = .int .i64 (k : Int) ∧ nv = wv ∧ xv = .bool false ∧ CrR W0 wr d size fr n lb nf (1 + 60 * i + 1 + k) (i + 1) T wv bs (60 * i + k) ∧ RowAt wr tb 59 #[.slice fa nf fc, .slice sa ns sc, .slice pa np pc] ∧ ∀ x, T x → x ≠ tb) (fun _ _ _ kv _ => ns - (intOf kv).toNat)
        case atStart => exact ⟨0, T8, bs, Nat.zero_le _, rfl, rfl, rfl, HR8.out, HT8.out, HTT8.out⟩
        case round =>
          obtain ⟨k, T, bs, hk, rfl, hnv, rfl, hR, hT, hTT⟩ := hrel
          subst hnv
          have HR := Lib.hid hR
          have HT := Lib.hid hT
          have HTT := Lib.hid hTT
          obtain ⟨wa, wc3, rfl, -⟩ := hR.want
          obtain ⟨m0, hm0⟩ : ∃ x, bs.length = x := ⟨_, rfl⟩
          rw [hm0] at HR
          try rw [hm0]
          have HM := Lib.hid hm0.symm
          have hml := hR.hlen
          rw [hm0] at hml
          have e1 := hT.cell 1
          simp only [List.getElem?_toArray, List.getElem?_cons_zero, List.getElem?_cons_succ] at e1
          clear hR hT hTT HR8 HT8 HTT8 hm0
          by_cases hkn : k < ns
          · have hkl : k < ss.length := by rw [HNS.out]; exact hkn
            have hsteps : RdWs W0 sa ss := HOK.out.steps
            obtain ⟨b3, off3, hsa, hlt3, hrow3⟩ := hsteps.resolve_left (by intro e; rw [e] at hkl; simp at hkl)
            have hst := hrow3 k hkl
            have hss := HSM.out ss[k] (List.getElem_mem hkl)
            obtain ⟨s, hs'⟩ : ∃ s, ss[k] = s := ⟨_, rfl⟩
            rw [hs'] at hst hss
            have HC : Hid (∀ j v, (wsC s)[j]? = some v → wr.cell? ((⟨b3, off3 + k * 3, none⟩ : Addr).add j) = some v) := fun j v hv => by
              rw [Addr.add_mid]
              exact CellsAt.later HR.out.bel hlt3 hst.cells j v hv
            have HBYW := Lib.hid hst.bytes
            have HSEP : Hid (s.bs ≠ [] → ∀ ad, s.ba = some ad → ad.block < W0.heap.size) := fun hne ad ha => by
              rcases hst.bytes with h | ⟨b4, o4, h4, hlt4, _⟩
              · exact absurd (List.map_eq_nil_iff.1 h) hne
              · rw [ha] at h4; cases h4; exact hlt4
            subst hsa
            obtain ⟨kd, ba, by_, bc, fa2, fs2, fc2⟩ := s
            dsimp only [wsC, Ws.small] at HC HBYW HSEP hss
            obtain ⟨nb, hnb⟩ : ∃ x, by_.length = x := ⟨_, rfl⟩
            obtain ⟨nf2, hnf2⟩ : ∃ x, fs2.length = x := ⟨_, rfl⟩
            rw [hnb] at HC hss
            rw [hnf2] at HC hss
            obtain ⟨hn20, hnf50⟩ := hss
            have HNB := Lib.hid hnb
            clear hrow3 hst hs' hnb hnf2 hsteps
            have hkI : (k : Int) < (ns : Int) := by omega
            obtain ⟨tc, htc⟩ : ∃ x, wr.heap.size = x := ⟨_, rfl⟩
            go_upto_region 21 with (refine step_loadCells rfl 44 (.tmp 137) rfl ⟨b3, off3 + k * 3, none⟩ rfl _ aggWs HC.out ?_)
            obtain ⟨w4, hw4⟩ : ∃ x, wr.alloc (.cells #[.int .i64 kd, .slice ba nb bc, .slice fa2 nf2 fc2] 44) = x := ⟨_, rfl⟩
            have HTC4 : Hid (RowAt w4 tc 44 #[.int .i64 kd, .slice ba nb bc, .slice fa2 nf2 fc2]) := by rw [← hw4, ← htc]; exact RowAt.new _ _ _
            have hb4 : Below wr.heap.size wr w4 := by rw [← hw4]; exact below_alloc _
            have HR4 := Lib.hid (HR.out.later hb4)
            have HT4 := Lib.hid (RowAt.below HT.out hb4)
            have HTTC : Hid (∀ x, T x → x ≠ tb ∧ x ≠ tc) := fun x hx => ⟨HTT.out x hx, fun e => by have := (HR.out.log.lt x hx).2; omega⟩
            have HW4 : Hid (tb < w4.heap.size ∧ tc < w4.heap.size) := ⟨HT4.out.lt, HTC4.out.lt⟩
            rw [hw4]
            clear hb4 hw4 htc HR HT HTT HC e1
            have f0 := HTC4.out.cell 0
            have f1 := HTC4.out.cell 1
            simp only [List.getElem?_toArray, List.getElem?_cons_zero, List.getElem?_cons_succ] at f0 f1
            obtain ⟨SB, hSB⟩ : ∃ S, str by_ = S := ⟨_, rfl⟩
            have HSB := Lib.hid hSB
            have HSM8 : Hid (∀ b ∈ bs ++ [by_], b.length ≤ 20000) := fun b hb => by
              rcases List.mem_append.1 hb with hb | hb
              · exact HR4.out.hsm b hb
              · rw [List.mem_singleton.1 hb, HNB.out]; exact hn20
            clear hSB
            by_cases hk1 : kd = 1
            · as_aux_lemma =>
              subst hk1
              have HAP := Lib.hid (c_append W0.heap.size w4 T lb d size fr n nf (1 + 60 * i + 1 + k) (i + 1) bs HR4.out.log HR4.out.bel.size HASK.out (by omega) (by rw [← HM.out]; omega) (by omega) ba by_ nb bc HNB.out.symm (HBYW.out.mono HR4.out.bel) (fun hne ad ha ht => by have h1 := HSEP.out hne ad ha; have h2 := (HR4.out.log.lt _ ht).1; omega))
              go_wp2_with fail
              refine HAP.out.mono ?_
              rintro _ w5 ⟨hcase, hk5⟩
              have hbel5 : Below W0.heap.size W0 w5 := below_keepT HR4.out.bel hk5 (fun x hx => (HR4.out.log.lt x hx).1)
              have HBEL5 := Lib.hid hbel5
              have HTL5 := Lib.hid (row_keep hk5 HT4.out (fun ht => (HTTC.out tb ht).1 rfl))
              have HTC5 := Lib.hid (row_keep hk5 HTC4.out (fun ht => (HTTC.out tc ht).2 rfl))
              have e1 := HTC5.out.cell 1
              simp only [List.getElem?_toArray, List.getElem?_cons_zero, List.getElem?_cons_succ] at e1
              have HBY5 := Lib.hid (HBYW.out.mono hbel5)
              have HTT : Hid (tc < w5.heap.size) := HTC5.out.lt
              clear HAP f0 f1 hbel5
              rcases hcase with ⟨rfl, T5, hl5, hT5⟩ | ⟨rfl, hl5⟩ | ⟨rfl, T5, hl5, hT5⟩
              · as_aux_lemma =>
                have HL5 := Lib.hid hl5
                have HWI := Lib.hid (HR4.out.want.move hk5 hT5)
                have HWR := Lib.hid HWI.out.rd.2
                have HT5T : Hid (∀ x, T5 x → x ≠ tb) := fun x hx => (hT5 x hx).elim (fun h => (HTTC.out x h).1) (fun h => by have := HW4.out.1; omega)
                clear hl5 hT5 hk5
                go_upto_region 24 with fail
                go_cut [5] (fun wv wx => OwnS wx w5.heap.size wv (bs ++ [by_]) ∧ Below w5.heap.size w5 wx)
                case first =>
                  as_aux_lemma =>
                  refine wp_region_held_drew (S := fun w' => Below w5.heap.size w5 w') (by kernel_rfl) (drewN_below (Below.refl _ _) 1) (fun hHeld => ?_)
                  refine wpAnyH_take (i := 0) (v := ?_) rfl (by kernel_rfl) (by kernel_rfl) (by kernel_rfl) (fun _ _ _ h => h) (Or.inl ⟨by rfl, ?_⟩) hHeld ?_
                  rotate_left
                  · intro w' hS'
                    (try dsimp only at hS')
                    go_simp
                    try with_reducible rfl
                  try simp only [List.getElem_toArray, List.getElem_cons_zero, Act.put, List.setIfInBounds_toArray, List.set_cons_zero, List.set_cons_succ]
                  refine wpAnyH_take (i := 2) (v := ?_) rfl (by kernel_rfl) (by kernel_rfl) (by kernel_rfl) (fun _ _ _ h => h) (Or.inl ⟨by rfl, ?_⟩) hHeld ?_
                  rotate_left
                  · intro w' hS'
                    (try dsimp only at hS')
                    go_simp
                    try with_reducible rfl
                  try simp only [List.getElem_toArray, List.getElem_cons_succ, List.getElem_cons_zero, Act.put, List.setIfInBounds_toArray, List.set_cons_zero, List.set_cons_succ]
                  refine wpAnyH_take (i := 3) (v := ?_) rfl (by kernel_rfl) (by kernel_rfl) (by kernel_rfl) (fun _ _ _ h => h) (Or.inl ⟨by rfl, ?_⟩) hHeld ?_
                  rotate_left
                  · intro w' hS'
                    have e1' := cell_later hS' HTT.out e1
                    go_simp
                    try with_reducible rfl
                  try simp only [List.getElem_toArray, List.getElem_cons_succ, List.getElem_cons_zero, Act.put, List.setIfInBounds_toArray, List.set_cons_zero, List.set_cons_succ]
                  refine wpAnyH_take (i := 4) (v := ?_) rfl (by kernel_rfl) (by kernel_rfl) (by kernel_rfl) (fun _ _ _ h => h) (Or.inl ⟨by rfl, ?_⟩) hHeld ?_
                  rotate_left
                  · intro w' hS'
                    have hcv' := convS ba by_ nb bc SB HNB.out.symm HSB.out w' (HBY5.out.mono hS')
                    go_simp
                    try with_reducible rfl
                  try simp only [List.getElem_toArray, List.getElem_cons_succ, List.getElem_cons_zero, Act.put, List.setIfInBounds_toArray, List.set_cons_zero, List.set_cons_succ]
                  refine wpAnyH_ready (rs := [1, 5]) (by kernel_rfl) (by simp) (AllReadyH.cons rfl (fun K hK => ?_) (AllReadyH.cons rfl (fun K hK => ?_) AllReadyH.nil))
                  · try rw [if_pos (by rfl)]
                    refine wp_pushS (.const (.slice none 0 0)) (.tmp 148) rfl w5.heap.size (.slice none 0 0) [] rfl wa m0 wc3 bs HM.out rfl (OwnS.nil _ _) (Rd.keepA HWR.out (KeepA.of_below (X := fun _ => False) (drewN_below (Below.refl _ w5) 1)) (fun _ _ _ _ h => h)) (by simp; have := HM.out; omega) (Nat.le_refl _) ?_
                    intro v6 w6 q1 q2 q3
                    have HO6 : Hid (OwnS w6 w5.heap.size v6 bs) := q1
                    have HB6 : Hid (Below w5.heap.size w5 w6) := (drewN_below (Below.refl _ _) 1).trans (below_of_grown q2 (Nat.le_refl _) fun g hg => by simp [Value.ownBlock] at hg)
                    clear q1 q2 q3
                    refine hK.out _ _ HB6.out (fun hHeld => ?_)
                    try simp only [List.getElem_toArray, List.getElem_cons_succ, List.getElem_cons_zero, Act.put, List.setIfInBounds_toArray, List.set_cons_zero, List.set_cons_succ]
                    clear hK K
                    refine wpAnyH_ready (rs := [5]) (by kernel_rfl) (by simp) (AllReadyH.cons rfl (fun K hK => ?_) AllReadyH.nil)
                    go_simp
                    obtain ⟨w7, hw7⟩ : ∃ y, w6.alloc (.cells #[.string SB] 9) = y := ⟨_, rfl⟩
                    have hb7 : Below w6.heap.size w6 w7 := by rw [← hw7]; exact below_alloc _
                    have HC7 : Hid (Rd w7 (some ⟨w6.heap.size, 0, none⟩) ([by_].map strV)) := by
                      have hr : RowAt w7 w6.heap.size 9 #[strV by_] := by rw [← hw7]; unfold strV; rw [HSB.out]; exact RowAt.new _ _ _
                      exact rd_one hr
                    have HB7 : Hid (Below w5.heap.size w5 w7) := HB6.out.trans (hb7.mono HB6.out.size)
                    have HO7 := Lib.hid (HO6.out.later hb7)
                    try rw [hw7]
                    clear hb7 hw7
                    refine hK.out _ _ HB7.out (fun hHeld => ?_)
                    try simp only [List.getElem_toArray, List.getElem_cons_succ, List.getElem_cons_zero, Act.put, List.setIfInBounds_toArray, List.set_cons_zero, List.set_cons_succ]
                    clear hK K
                    refine wpAnyH_ready (rs := [6]) (by kernel_rfl) (by simp) (AllReadyH.cons rfl (fun K hK => ?_) AllReadyH.nil)
                    try rw [if_pos (by rfl)]
                    refine wp_pushS (.tmp 149) (.tmp 153) rfl w5.heap.size v6 bs rfl (some ⟨w6.heap.size, 0, none⟩) 1 1 [by_] rfl rfl HO7.out HC7.out (by simp; have := HM.out; omega) HB7.out.size ?_
                    intro v8 w8 q1 q2 q3
                    have HO8 := Lib.hid q1
                    have HB8 : Hid (Below w5.heap.size w5 w8) := HB7.out.trans (below_of_grown q2 HB7.out.size fun g hg => (OwnS.lt HO7.out hg).1)
                    clear q1 q2 q3
                    refine hK.out _ _ HB8.out (fun hHeld => ?_)
                    try simp only [List.getElem_toArray, List.getElem_cons_succ, List.getElem_cons_zero, Act.put, List.setIfInBounds_toArray, List.set_cons_zero, List.set_cons_succ]
                    clear hK K
                    refine wpAnyH_take (i := 7) (v := ?_) rfl (by kernel_rfl) (by kernel_rfl) (by kernel_rfl) (fun _ _ _ h => h) (Or.inl ⟨by rfl, ?_⟩) hHeld ?_
                    rotate_left
                    · intro w' hS'
                      (try dsimp only at hS')
                      go_simp
                      try with_reducible rfl
                    try simp only [List.getElem_toArray, List.getElem_cons_succ, List.getElem_cons_zero, Act.put, List.setIfInBounds_toArray, List.set_cons_zero, List.set_cons_succ]
                    refine wpAnyH_done (by kernel_rfl) ?_ _
                    go_wp2
                    go_meet
                    exact ⟨HO8.out, HB8.out⟩
                  · go_simp
                    obtain ⟨w7, hw7⟩ : ∃ y, (w5.alloc (.cells #[.string SB] 9)).drew = y := ⟨_, rfl⟩
                    have hb7 : Below w5.heap.size w5 w7 := by rw [← hw7]; exact drewN_below (below_alloc _) 1
                    have HC7 : Hid (RowAt w7 w5.heap.size 9 #[strV by_]) := by show RowAt _ _ _ _; rw [← hw7]; unfold strV; rw [HSB.out]; exact RowAt.new _ _ _
                    have HB7 := Lib.hid hb7
                    try rw [hw7]
                    clear hb7 hw7
                    refine hK.out _ _ HB7.out (fun hHeld => ?_)
                    try simp only [List.getElem_toArray, List.getElem_cons_succ, List.getElem_cons_zero, Act.put, List.setIfInBounds_toArray, List.set_cons_zero, List.set_cons_succ]
                    clear hK K
                    refine wpAnyH_ready (rs := [1]) (by kernel_rfl) (by simp) (AllReadyH.cons rfl (fun K hK => ?_) AllReadyH.nil)
                    try rw [if_pos (by rfl)]
                    refine wp_pushS (.const (.slice none 0 0)) (.tmp 148) rfl w5.heap.size (.slice none 0 0) [] rfl wa m0 wc3 bs HM.out rfl (OwnS.nil _ _) (Rd.keepA HWR.out (KeepA.of_below (X := fun _ => False) HB7.out) (fun _ _ _ _ h => h)) (by simp; have := HM.out; omega) HB7.out.size ?_
                    intro v6 w6 q1 q2 q3
                    have HO6 : Hid (OwnS w6 w5.heap.size v6 bs) := q1
                    have HB6 : Hid (Below w5.heap.size w5 w6) := HB7.out.trans (below_of_grown q2 HB7.out.size fun g hg => by simp [Value.ownBlock] at hg)
                    have HC6 : Hid (Rd w6 (some ⟨w5.heap.size, 0, none⟩) ([by_].map strV)) := by
                      have hr : RowAt w6 w5.heap.size 9 #[strV by_] := row_keep (keep_grownO q2) HC7.out (by simp [Value.ownBlock])
                      exact rd_one hr
                    clear q1 q2 q3
                    refine hK.out _ _ HB6.out (fun hHeld => ?_)
                    try simp only [List.getElem_toArray, List.getElem_cons_succ, List.getElem_cons_zero, Act.put, List.setIfInBounds_toArray, List.set_cons_zero, List.set_cons_succ]
                    clear hK K
                    refine wpAnyH_ready (rs := [6]) (by kernel_rfl) (by simp) (AllReadyH.cons rfl (fun K hK => ?_) AllReadyH.nil)
                    try rw [if_pos (by rfl)]
                    refine wp_pushS (.tmp 149) (.tmp 153) rfl w5.heap.size v6 bs rfl (some ⟨w5.heap.size, 0, none⟩) 1 1 [by_] rfl rfl HO6.out HC6.out (by simp; have := HM.out; omega) HB6.out.size ?_
                    intro v8 w8 q1 q2 q3
                    have HO8 := Lib.hid q1
                    have HB8 : Hid (Below w5.heap.size w5 w8) := HB6.out.trans (below_of_grown q2 HB6.out.size fun g hg => (OwnS.lt HO6.out hg).1)
                    clear q1 q2 q3
                    refine hK.out _ _ HB8.out (fun hHeld => ?_)
                    try simp only [List.getElem_toArray, List.getElem_cons_succ, List.getElem_cons_zero, Act.put, List.setIfInBounds_toArray, List.set_cons_zero, List.set_cons_succ]
                    clear hK K
                    refine wpAnyH_take (i := 7) (v := ?_) rfl (by kernel_rfl) (by kernel_rfl) (by kernel_rfl) (fun _ _ _ h => h) (Or.inl ⟨by rfl, ?_⟩) hHeld ?_
                    rotate_left
                    · intro w' hS'
                      (try dsimp only at hS')
                      go_simp
                      try with_reducible rfl
                    try simp only [List.getElem_toArray, List.getElem_cons_succ, List.getElem_cons_zero, Act.put, List.setIfInBounds_toArray, List.set_cons_zero, List.set_cons_succ]
                    refine wpAnyH_done (by kernel_rfl) ?_ _
                    go_wp2
                    go_meet
                    exact ⟨HO8.out, HB8.out⟩
                case rest =>
                  obtain ⟨ho, hb6⟩ := hcut
                  have HR6 : Hid (CrR W0 wc d size fr n lb nf (1 + 60 * i + 1 + (k + 1)) (i + 1) T5 u5 (bs ++ [by_]) (60 * i + (k + 1))) := ⟨(HL5.out.later hb6).more (by omega), ho.wantIs (fun x h1 h2 ht => by have := (HL5.out.lt x ht).2; omega), HBEL5.out.trans (hb6.mono HBEL5.out.size), by rw [List.length_append, ← HM.out]; simp; omega, HSM8.out⟩
                  have HT6 := Lib.hid (RowAt.below HTL5.out hb6)
                  have HST := Lib.hid (c_state W0.heap.size wc T5 lb d size fr n nf (1 + 60 * i + 1 + (k + 1)) (i + 1) (bs ++ [by_]) HR6.out.log (by omega))
                  clear ho hb6 e1
                  go_wp2_with fail
                  refine HST.out.mono ?_
                  rintro _ w7 ⟨⟨x1, x2, x3, rfl⟩, hb7⟩
                  have HR7 := Lib.hid (HR6.out.later hb7)
                  have HT7 := Lib.hid (RowAt.below HT6.out hb7)
                  clear hb7
                  go_wp2_with fail
                  exact ⟨⟨k + 1, T5, bs ++ [by_], by omega, by go_num, rfl, rfl, HR7.out, HT7.out, HT5T.out⟩, by simp [intOf]; omega⟩
              · as_aux_lemma =>
                have HR6 : Hid (CrR W0 w5 d size fr n lb nf (1 + 60 * i + 1 + (k + 1)) (i + 1) T (.slice wa m0 wc3) bs (60 * i + (k + 1))) := ⟨hl5.more (by omega), HR4.out.want.move hk5 (fun x h => .inl h), HBEL5.out, by rw [← HM.out]; omega, HR4.out.hsm⟩
                have HST := Lib.hid (c_state W0.heap.size w5 T lb d size fr n nf (1 + 60 * i + 1 + (k + 1)) (i + 1) bs HR6.out.log (by omega))
                clear hl5 hk5 e1
                go_wp2_with fail
                refine HST.out.mono ?_
                rintro _ w7 ⟨⟨x1, x2, x3, rfl⟩, hb7⟩
                have HR7 := Lib.hid (HR6.out.later hb7)
                have HT7 := Lib.hid (RowAt.below HTL5.out hb7)
                clear hb7
                go_wp2_with fail
                exact ⟨⟨k + 1, T, bs, by omega, by go_num, rfl, rfl, HR7.out, HT7.out, fun x hx => (HTTC.out x hx).1⟩, by simp [intOf]; omega⟩
              · as_aux_lemma =>
                have HL5 := Lib.hid hl5
                have HWI := Lib.hid (HR4.out.want.move hk5 hT5)
                have HWR := Lib.hid HWI.out.rd.2
                clear hl5 hT5 hk5
                go_upto_region 27 with fail
                go_cut [10] (fun wv wx => OwnS wx w5.heap.size wv (bs ++ [by_]) ∧ Below w5.heap.size w5 wx)
                case first =>
                  as_aux_lemma =>
                  refine wp_region_held_drew (S := fun w' => Below w5.heap.size w5 w') (by kernel_rfl) (drewN_below (Below.refl _ _) 1) (fun hHeld => ?_)
                  refine wpAnyH_take (i := 0) (v := ?_) rfl (by kernel_rfl) (by kernel_rfl) (by kernel_rfl) (fun _ _ _ h => h) (Or.inl ⟨by rfl, ?_⟩) hHeld ?_
                  rotate_left
                  · intro w' hS'
                    (try dsimp only at hS')
                    go_simp
                    try with_reducible rfl
                  try simp only [List.getElem_toArray, List.getElem_cons_zero, Act.put, List.setIfInBounds_toArray, List.set_cons_zero, List.set_cons_succ]
                  refine wpAnyH_take (i := 2) (v := ?_) rfl (by kernel_rfl) (by kernel_rfl) (by kernel_rfl) (fun _ _ _ h => h) (Or.inl ⟨by rfl, ?_⟩) hHeld ?_
                  rotate_left
                  · intro w' hS'
                    (try dsimp only at hS')
                    go_simp
                    try with_reducible rfl
                  try simp only [List.getElem_toArray, List.getElem_cons_succ, List.getElem_cons_zero, Act.put, List.setIfInBounds_toArray, List.set_cons_zero, List.set_cons_succ]
                  refine wpAnyH_take (i := 3) (v := ?_) rfl (by kernel_rfl) (by kernel_rfl) (by kernel_rfl) (fun _ _ _ h => h) (Or.inl ⟨by rfl, ?_⟩) hHeld ?_
                  rotate_left
                  · intro w' hS'
                    have e1' := cell_later hS' HTT.out e1
                    go_simp
                    try with_reducible rfl
                  try simp only [List.getElem_toArray, List.getElem_cons_succ, List.getElem_cons_zero, Act.put, List.setIfInBounds_toArray, List.set_cons_zero, List.set_cons_succ]
                  refine wpAnyH_take (i := 4) (v := ?_) rfl (by kernel_rfl) (by kernel_rfl) (by kernel_rfl) (fun _ _ _ h => h) (Or.inl ⟨by rfl, ?_⟩) hHeld ?_
                  rotate_left
                  · intro w' hS'
                    have hcv' := convS ba by_ nb bc SB HNB.out.symm HSB.out w' (HBY5.out.mono hS')
                    go_simp
                    try with_reducible rfl
                  try simp only [List.getElem_toArray, List.getElem_cons_succ, List.getElem_cons_zero, Act.put, List.setIfInBounds_toArray, List.set_cons_zero, List.set_cons_succ]
                  refine wpAnyH_ready (rs := [1, 5]) (by kernel_rfl) (by simp) (AllReadyH.cons rfl (fun K hK => ?_) (AllReadyH.cons rfl (fun K hK => ?_) AllReadyH.nil))
                  · try rw [if_pos (by rfl)]
                    refine wp_pushS (.const (.slice none 0 0)) (.tmp 158) rfl w5.heap.size (.slice none 0 0) [] rfl wa m0 wc3 bs HM.out rfl (OwnS.nil _ _) (Rd.keepA HWR.out (KeepA.of_below (X := fun _ => False) (drewN_below (Below.refl _ w5) 1)) (fun _ _ _ _ h => h)) (by simp; have := HM.out; omega) (Nat.le_refl _) ?_
                    intro v6 w6 q1 q2 q3
                    have HO6 : Hid (OwnS w6 w5.heap.size v6 bs) := q1
                    have HB6 : Hid (Below w5.heap.size w5 w6) := (drewN_below (Below.refl _ _) 1).trans (below_of_grown q2 (Nat.le_refl _) fun g hg => by simp [Value.ownBlock] at hg)
                    clear q1 q2 q3
                    refine hK.out _ _ HB6.out (fun hHeld => ?_)
                    try simp only [List.getElem_toArray, List.getElem_cons_succ, List.getElem_cons_zero, Act.put, List.setIfInBounds_toArray, List.set_cons_zero, List.set_cons_succ]
                    clear hK K
                    refine wpAnyH_ready (rs := [5]) (by kernel_rfl) (by simp) (AllReadyH.cons rfl (fun K hK => ?_) AllReadyH.nil)
                    go_simp
                    obtain ⟨w7, hw7⟩ : ∃ y, w6.alloc (.cells #[.string SB] 9) = y := ⟨_, rfl⟩
                    have hb7 : Below w6.heap.size w6 w7 := by rw [← hw7]; exact below_alloc _
                    have HC7 : Hid (Rd w7 (some ⟨w6.heap.size, 0, none⟩) ([by_].map strV)) := by
                      have hr : RowAt w7 w6.heap.size 9 #[strV by_] := by rw [← hw7]; unfold strV; rw [HSB.out]; exact RowAt.new _ _ _
                      exact rd_one hr
                    have HB7 : Hid (Below w5.heap.size w5 w7) := HB6.out.trans (hb7.mono HB6.out.size)
                    have HO7 := Lib.hid (HO6.out.later hb7)
                    try rw [hw7]
                    clear hb7 hw7
                    refine hK.out _ _ HB7.out (fun hHeld => ?_)
                    try simp only [List.getElem_toArray, List.getElem_cons_succ, List.getElem_cons_zero, Act.put, List.setIfInBounds_toArray, List.set_cons_zero, List.set_cons_succ]
                    clear hK K
                    refine wpAnyH_ready (rs := [6]) (by kernel_rfl) (by simp) (AllReadyH.cons rfl (fun K hK => ?_) AllReadyH.nil)
                    try rw [if_pos (by rfl)]
                    refine wp_pushS (.tmp 159) (.tmp 163) rfl w5.heap.size v6 bs rfl (some ⟨w6.heap.size, 0, none⟩) 1 1 [by_] rfl rfl HO7.out HC7.out (by simp; have := HM.out; omega) HB7.out.size ?_
                    intro v8 w8 q1 q2 q3
                    have HO8 := Lib.hid q1
                    have HB8 : Hid (Below w5.heap.size w5 w8) := HB7.out.trans (below_of_grown q2 HB7.out.size fun g hg => (OwnS.lt HO7.out hg).1)
                    clear q1 q2 q3
                    refine hK.out _ _ HB8.out (fun hHeld => ?_)
                    try simp only [List.getElem_toArray, List.getElem_cons_succ, List.getElem_cons_zero, Act.put, List.setIfInBounds_toArray, List.set_cons_zero, List.set_cons_succ]
                    clear hK K
                    refine wpAnyH_take (i := 7) (v := ?_) rfl (by kernel_rfl) (by kernel_rfl) (by kernel_rfl) (fun _ _ _ h => h) (Or.inl ⟨by rfl, ?_⟩) hHeld ?_
                    rotate_left
                    · intro w' hS'
                      (try dsimp only at hS')
                      go_simp
                      try with_reducible rfl
                    try simp only [List.getElem_toArray, List.getElem_cons_succ, List.getElem_cons_zero, Act.put, List.setIfInBounds_toArray, List.set_cons_zero, List.set_cons_succ]
                    refine wpAnyH_done (by kernel_rfl) ?_ _
                    go_wp2
                    go_meet
                    exact ⟨HO8.out, HB8.out⟩
                  · go_simp
                    obtain ⟨w7, hw7⟩ : ∃ y, (w5.alloc (.cells #[.string SB] 9)).drew = y := ⟨_, rfl⟩
                    have hb7 : Below w5.heap.size w5 w7 := by rw [← hw7]; exact drewN_below (below_alloc _) 1
                    have HC7 : Hid (RowAt w7 w5.heap.size 9 #[strV by_]) := by show RowAt _ _ _ _; rw [← hw7]; unfold strV; rw [HSB.out]; exact RowAt.new _ _ _
                    have HB7 := Lib.hid hb7
                    try rw [hw7]
                    clear hb7 hw7
                    refine hK.out _ _ HB7.out (fun hHeld => ?_)
                    try simp only [List.getElem_toArray, List.getElem_cons_succ, List.getElem_cons_zero, Act.put, List.setIfInBounds_toArray, List.set_cons_zero, List.set_cons_succ]
                    clear hK K
                    refine wpAnyH_ready (rs := [1]) (by kernel_rfl) (by simp) (AllReadyH.cons rfl (fun K hK => ?_) AllReadyH.nil)
                    try rw [if_pos (by rfl)]
                    refine wp_pushS (.const (.slice none 0 0)) (.tmp 158) rfl w5.heap.size (.slice none 0 0) [] rfl wa m0 wc3 bs HM.out rfl (OwnS.nil _ _) (Rd.keepA HWR.out (KeepA.of_below (X := fun _ => False) HB7.out) (fun _ _ _ _ h => h)) (by simp; have := HM.out; omega) HB7.out.size ?_
                    intro v6 w6 q1 q2 q3
                    have HO6 : Hid (OwnS w6 w5.heap.size v6 bs) := q1
                    have HB6 : Hid (Below w5.heap.size w5 w6) := HB7.out.trans (below_of_grown q2 HB7.out.size fun g hg => by simp [Value.ownBlock] at hg)
                    have HC6 : Hid (Rd w6 (some ⟨w5.heap.size, 0, none⟩) ([by_].map strV)) := by
                      have hr : RowAt w6 w5.heap.size 9 #[strV by_] := row_keep (keep_grownO q2) HC7.out (by simp [Value.ownBlock])
                      exact rd_one hr
                    clear q1 q2 q3
                    refine hK.out _ _ HB6.out (fun hHeld => ?_)
                    try simp only [List.getElem_toArray, List.getElem_cons_succ, List.getElem_cons_zero, Act.put, List.setIfInBounds_toArray, List.set_cons_zero, List.set_cons_succ]
                    clear hK K
                    refine wpAnyH_ready (rs := [6]) (by kernel_rfl) (by simp) (AllReadyH.cons rfl (fun K hK => ?_) AllReadyH.nil)
                    try rw [if_pos (by rfl)]
                    refine wp_pushS (.tmp 159) (.tmp 163) rfl w5.heap.size v6 bs rfl (some ⟨w5.heap.size, 0, none⟩) 1 1 [by_] rfl rfl HO6.out HC6.out (by simp; have := HM.out; omega) HB6.out.size ?_
                    intro v8 w8 q1 q2 q3
                    have HO8 := Lib.hid q1
                    have HB8 : Hid (Below w5.heap.size w5 w8) := HB6.out.trans (below_of_grown q2 HB6.out.size fun g hg => (OwnS.lt HO6.out hg).1)
                    clear q1 q2 q3
                    refine hK.out _ _ HB8.out (fun hHeld => ?_)
                    try simp only [List.getElem_toArray, List.getElem_cons_succ, List.getElem_cons_zero, Act.put, List.setIfInBounds_toArray, List.set_cons_zero, List.set_cons_succ]
                    clear hK K
                    refine wpAnyH_take (i := 7) (v := ?_) rfl (by kernel_rfl) (by kernel_rfl) (by kernel_rfl) (fun _ _ _ h => h) (Or.inl ⟨by rfl, ?_⟩) hHeld ?_
                    rotate_left
                    · intro w' hS'
                      (try dsimp only at hS')
                      go_simp
                      try with_reducible rfl
                    try simp only [List.getElem_toArray, List.getElem_cons_succ, List.getElem_cons_zero, Act.put, List.setIfInBounds_toArray, List.set_cons_zero, List.set_cons_succ]
                    refine wpAnyH_done (by kernel_rfl) ?_ _
                    go_wp2
                    go_meet
                    exact ⟨HO8.out, HB8.out⟩
                case rest =>
                  obtain ⟨ho, hb6⟩ := hcut
                  have HL6 := Lib.hid (HL5.out.later hb6)
                  have HW6 := Lib.hid (HWI.out.later hb6)
                  have HN6 := Lib.hid ho
                  have HB6 := Lib.hid (HBEL5.out.trans (hb6.mono HBEL5.out.size))
                  have HT6 := Lib.hid (RowAt.below HTL5.out hb6)
                  clear ho hb6 e1
                  have HST := Lib.hid (c_state_dead W0.heap.size wc T5 lb d size fr n nf (1 + 60 * i + 1 + k) (i + 1) bs (bs ++ [by_]) HL6.out (by omega))
                  go_wp2_with fail
                  refine HST.out.mono ?_
                  rintro _ w7 ⟨⟨x1, x2, x3, rfl⟩, hb7⟩
                  have HL7 := Lib.hid (HL6.out.later hb7)
                  have HW7 := Lib.hid (HW6.out.later hb7)
                  have HB7 := Lib.hid hb7
                  have HDA := Lib.hid (c_append_dead W0.heap.size w7 T5 lb d size fr n nf (1 + 60 * i + 1 + k) (i + 1) bs (bs ++ [by_]) HL7.out none 0 0)
                  have HDR := Lib.hid (c_reset_dead W0.heap.size w7 T5 lb d size fr n nf (1 + 60 * i + 1 + k) (i + 1) bs (bs ++ [by_]) HL7.out)
                  have HDT := Lib.hid (c_tells_dead W0.heap.size w7 T5 lb d size fr n nf (1 + 60 * i + 1 + k) (i + 1) bs (bs ++ [by_]) HL7.out (by omega) (by rw [← HM.out]; omega) (fun b hb => Nat.le_trans (HR4.out.hsm b hb) (by omega)) wa m0 wc3 HM.out HW7.out.rd.2)
                  clear hb7 HST
                  go_wp2_with fail
                  refine HDA.out.mono ?_
                  rintro _ w8 ⟨rfl, rfl⟩
                  go_wp2_with fail
                  refine HDR.out.mono ?_
                  rintro _ w8 ⟨rfl, rfl⟩
                  go_wp2_with fail
                  refine HDT.out.mono ?_
                  rintro _ w8 ⟨rfl, hb8⟩
                  have hb9 := HB7.out.trans (hb8.mono HB7.out.size)
                  have HE8 : Hid (CrE W0 w8 d size fr n (1 + 60 * i + 55) (i + 1) (.slice wa m0 wc3) u10 bs (bs ++ [by_]) false (60 * i + 55)) := ⟨((HL7.out.later hb8).end_ (.inl rfl) (.inr (.inl rfl))).more (by omega), (HW7.out.later hb8).to (fun _ _ h => h.elim), (HN6.out.wantIs (X := fun _ => False) (fun _ _ _ h => h)).later hb9, HB6.out.trans (hb9.mono HB6.out.size), ⟨by rw [← HM.out]; omega, by rw [List.length_append, ← HM.out]; simp; omega⟩, HR4.out.hsm, HSM8.out⟩
                  have HT8 := Lib.hid (RowAt.below HT6.out hb9)
                  clear hb8 hb9
                  go_wp2_with fail
                  go_meet
                  exact ⟨bs, (bs ++ [by_]), false, rfl, HE8.out, HT8.out⟩
            · as_aux_lemma =>
              have HRS := Lib.hid (c_reset W0.heap.size w4 T lb d size fr n nf (1 + 60 * i + 1 + k) (i + 1) bs HR4.out.log HR4.out.bel.size HASK.out (by omega))
              go_wp2_with fail
              refine HRS.out.mono ?_
              rintro _ w5 ⟨hcase, hk5⟩
              have HBEL5 : Hid (Below W0.heap.size W0 w5) := below_keepT HR4.out.bel hk5 (fun x hx => (HR4.out.log.lt x hx).1)
              have HTL5 := Lib.hid (row_keep hk5 HT4.out (fun ht => (HTTC.out tb ht).1 rfl))
              clear HRS f0 f1
              rcases hcase with ⟨rfl, T5, hl5, hT5⟩ | ⟨rfl, T5, hl5, hT5⟩
              · as_aux_lemma =>
                have HT5T : Hid (∀ x, T5 x → x ≠ tb) := fun x hx => (hT5 x hx).elim (fun h => (HTTC.out x h).1) (fun h => by have := HW4.out.1; omega)
                have HR6 : Hid (CrR W0 w5 d size fr n lb nf (1 + 60 * i + 1 + (k + 1)) (i + 1) T5 (.slice none 0 0) [] (60 * i + (k + 1))) := ⟨hl5, WantIs.nil _ _, HBEL5.out, Nat.zero_le _, fun b hb => by cases hb⟩
                have HST := Lib.hid (c_state W0.heap.size w5 T5 lb d size fr n nf (1 + 60 * i + 1 + (k + 1)) (i + 1) [] HR6.out.log (by omega))
                clear hl5 hT5 hk5
                go_wp2_with fail
                refine HST.out.mono ?_
                rintro _ w7 ⟨⟨x1, x2, x3, rfl⟩, hb7⟩
                have HR7 := Lib.hid (HR6.out.later hb7)
                have HT7 := Lib.hid (RowAt.below HTL5.out hb7)
                clear hb7
                go_wp2_with fail
                exact ⟨⟨k + 1, T5, [], by omega, by go_num, rfl, rfl, HR7.out, HT7.out, HT5T.out⟩, by simp [intOf]; omega⟩
              · as_aux_lemma =>
                have HL6 := Lib.hid hl5
                have HW6 := Lib.hid (HR4.out.want.move hk5 hT5)
                have HB6 := Lib.hid HBEL5.out
                have HT6 := Lib.hid HTL5.out
                clear hl5 hT5 hk5
                have HST := Lib.hid (c_state_dead W0.heap.size w5 T5 lb d size fr n nf (1 + 60 * i + 1 + k + 1) (i + 1) bs [] HL6.out (by omega))
                go_wp2_with fail
                refine HST.out.mono ?_
                rintro _ w7 ⟨⟨x1, x2, x3, rfl⟩, hb7⟩
                have HL7 := Lib.hid (HL6.out.later hb7)
                have HW7 := Lib.hid (HW6.out.later hb7)
                have HB7 := Lib.hid hb7
                have HDA := Lib.hid (c_append_dead W0.heap.size w7 T5 lb d size fr n nf (1 + 60 * i + 1 + k + 1) (i + 1) bs [] HL7.out none 0 0)
                have HDR := Lib.hid (c_reset_dead W0.heap.size w7 T5 lb d size fr n nf (1 + 60 * i + 1 + k + 1) (i + 1) bs [] HL7.out)
                have HDT := Lib.hid (c_tells_dead W0.heap.size w7 T5 lb d size fr n nf (1 + 60 * i + 1 + k + 1) (i + 1) bs [] HL7.out (by omega) (by rw [← HM.out]; omega) (fun b hb => Nat.le_trans (HR4.out.hsm b hb) (by omega)) wa m0 wc3 HM.out HW7.out.rd.2)
                clear hb7 HST
                go_wp2_with fail
                refine HDA.out.mono ?_
                rintro _ w8 ⟨rfl, rfl⟩
                go_wp2_with fail
                refine HDR.out.mono ?_
                rintro _ w8 ⟨rfl, rfl⟩
                go_wp2_with fail
                refine HDT.out.mono ?_
                rintro _ w8 ⟨rfl, hb8⟩
                have hb9 := HB7.out.trans (hb8.mono HB7.out.size)
                have HE8 : Hid (CrE W0 w8 d size fr n (1 + 60 * i + 55) (i + 1) (.slice wa m0 wc3) (.slice wa m0 wc3) bs bs true (60 * i + 55)) := ⟨((HL7.out.later hb8).end_ (.inl rfl) (.inr (.inr ⟨rfl, rfl⟩))).more (by omega), (HW7.out.later hb8).to (fun _ _ h => h.elim), (HW7.out.later hb8).to (fun _ _ h => h.elim), HB6.out.trans (hb9.mono HB6.out.size), ⟨by rw [← HM.out]; omega, by rw [← HM.out]; omega⟩, HR4.out.hsm, HR4.out.hsm⟩
                have HT8 := Lib.hid (RowAt.below HT6.out hb9)
                clear hb8 hb9
                go_wp2_with fail
                go_meet
                exact ⟨bs, bs, true, rfl, HE8.out, HT8.out⟩
          · as_aux_lemma =>
            obtain rfl : k = ns := by omega
            go_wp2_with fail
            go_meet
            exact ⟨bs, bs, false, rfl, ⟨(HR.out.log.end_ (.inl rfl)).more (by omega), HR.out.want.to (fun _ _ h => h.elim), HR.out.want.to (fun _ _ h => h.elim), HR.out.bel, by rw [← HM.out]; omega, HR.out.hsm, HR.out.hsm⟩, HT.out⟩
      case rest =>
        as_aux_lemma =>
        obtain ⟨bsW, bsN, nn, rfl, hE, hT⟩ := hcut
        have HE := Lib.hid hE
        obtain ⟨wa2, wc4, rfl, -⟩ := hE.want
        obtain ⟨na, nc, rfl, -⟩ := hE.next
        have hlW := hE.hlen.1
        have hlN := hE.hlen.2
        have e2 := hT.cell 2
        simp only [List.getElem?_toArray, List.getElem?_cons_zero, List.getElem?_cons_succ] at e2
        have HCR := Lib.hid (c_crash wc d size fr n _ (i + 1) _ hE.disk pa ps np pc HNP.out.symm hpc (HOK.out.picks.later hE.bel) (by omega) HOK.out.prg)
        obtain ⟨mW, hmW⟩ : ∃ x, bsW.length = x := ⟨_, rfl⟩
        obtain ⟨mN, hmN⟩ : ∃ x, bsN.length = x := ⟨_, rfl⟩
        rw [hmW, hmN] at HE
        rw [hmW] at hlW
        rw [hmN] at hlN
        try rw [hmW]
        try rw [hmN]
        have HMW := Lib.hid hmW
        have HMN := Lib.hid hmN
        clear hE hT hmW hmN HR8 HT8 HTT8
        go_wp2_with fail
        refine HCR.out.mono ?_
        rintro _ w9 ⟨hcase, hb9⟩
        have HE9 := Lib.hid (HE.out.later hb9)
        have HB9 := Lib.hid HE9.out.bel
        have HWS : Hid (W0.heap.size ≤ wc.heap.size) := HE.out.bel.size
        clear HCR HE hb9 e2
        rcases hcase with rfl | ⟨d2, S2, bs2, rfl, hP, hd2⟩
        · as_aux_lemma =>
          go_wp2_with fail
          refine (known_any _).mono ?_
          rintro _ wk ⟨rfl, hbk⟩
          have HBK := Lib.hid (HB9.out.trans (hbk.mono HB9.out.size))
          clear hbk
          go_wp2
          exact HKB.out _ HBK.out
        · have hP' : bs2 = bsW ∨ bs2 = bsN ∨ (nn = true ∧ bs2 = []) := hP
          have HP := Lib.hid hP'
          have HD9 := Lib.hid hd2
          have HLK := Lib.hid (c_look wc.heap.size w9 S2 d2 size fr n _ (i + 1) bs2 hd2 HASK.out)
          have hl2 : bs2.length ≤ 60 * i + 55 := by
            rcases hP' with rfl | rfl | ⟨-, rfl⟩
            · rw [HMW.out]; exact hlW
            · rw [HMN.out]; exact hlN
            · exact Nat.zero_le _
          have HSM2 : Hid (∀ b ∈ bs2, b.length ≤ 20000) := by
            show ∀ b ∈ bs2, _
            rcases hP' with rfl | rfl | ⟨-, rfl⟩
            · exact HE9.out.hsm.1
            · exact HE9.out.hsm.2
            · exact fun b hb => by cases hb
          obtain ⟨i0, i1, i2, i3⟩ := HCL.out w9 HB9.out
          clear hP hP' hd2 i0 i3
          go_wp2_with fail
          refine HLK.out.mono ?_
          rintro _ w10 ⟨⟨v, rfl, hv⟩, hb10⟩
          obtain ⟨va, vc, rfl, -⟩ := hv.at2
          obtain ⟨m2, hm2⟩ : ∃ x, bs2.length = x := ⟨_, rfl⟩
          have hv' := hv
          rw [hm2] at hv' hl2
          try rw [hm2]
          have HM2 := Lib.hid hm2
          have HV10 := Lib.hid hv'
          have HE10 := Lib.hid (HE9.out.later hb10)
          have HD10 := Lib.hid (HD9.out.later hb10)
          have HB10 := Lib.hid HE10.out.bel
          have HS9 : Hid (w9.heap.size ≤ w10.heap.size) := hb10.size
          have HSA := Lib.hid (wsame_any w10 _ _ bs2 hv' (by rw [HM2.out]; omega) wa2 bsW mW wc4 HMW.out.symm (by omega) HE10.out.want.rd.2)
          have HSB : Hid (∀ w, Below w10.heap.size w10 w → Calls Try.prog 16 #[.slice va m2 vc, .slice na mN nc] w fun e w' => e = .returned (.bool (decide (bs2 = bsN))) ∧ Below w.heap.size w w') := fun w hb => wsame_any w _ _ bs2 (HV10.out.later hb) (by rw [HM2.out]; omega) na bsN mN nc HMN.out.symm (by omega) (HE10.out.later hb).next.rd.2
          clear hv hv' hm2 hb10 HLK i1 i2 HE9 HD9
          go_upto_region 42 with fail
          go_cut [236] (fun fv wx => fv = .bool false ∧ Below w10.heap.size w10 wx)
          case first =>
            as_aux_lemma =>
            go_wp2_with fail
            refine HSA.out.mono ?_
            rintro _ w11 ⟨rfl, hb11⟩
            have HB11 := Lib.hid hb11
            have HSB11 := Lib.hid (HSB.out w11 hb11)
            clear hb11
            obtain ⟨A, hA⟩ : ∃ A, decide (bs2 = bsW) = A := ⟨_, rfl⟩
            have HAA := Lib.hid hA
            try rw [hA]
            clear hA
            cases A with
            | true =>
              go_wp2_with fail
              go_meet
              exact ⟨rfl, HB11.out⟩
            | false =>
              go_wp2_with fail
              refine HSB11.out.mono ?_
              rintro _ w12 ⟨rfl, hb12⟩
              have HB12 := Lib.hid (HB11.out.trans (hb12.mono HB11.out.size))
              clear hb12
              obtain ⟨B, hB⟩ : ∃ B, decide (bs2 = bsN) = B := ⟨_, rfl⟩
              have HBB := Lib.hid hB
              try rw [hB]
              clear hB
              cases B with
              | true =>
                go_wp2_with fail
                go_meet
                exact ⟨rfl, HB12.out⟩
              | false =>
                have hnn : nn = true ∧ bs2 = [] := by
                  rcases HP.out with e | e | e
                  · have := HAA.out; rw [decide_eq_true e] at this; cases this
                  · have := HBB.out; rw [decide_eq_true e] at this; cases this
                  · exact e
                obtain ⟨rfl, hbs⟩ := hnn
                have hm20 : m2 = 0 := by rw [← HM2.out, hbs]; rfl
                subst hm20
                clear hbs
                go_wp2_with fail
                go_meet
                exact ⟨rfl, HB12.out⟩
          case rest =>
            as_aux_lemma =>
            obtain ⟨rfl, hb11⟩ := hcut
            have HD11 := Lib.hid (HD10.out.later hb11)
            have HV11 := Lib.hid (HV10.out.later hb11)
            have HB11 := Lib.hid (HB10.out.trans (hb11.mono HB10.out.size))
            clear hb11 HSA HSB HE10 HD10 HV10 HB10
            rename World => Wx
            obtain ⟨w11, hw11⟩ : ∃ x, Wx = x := ⟨_, rfl⟩
            subst hw11
            obtain ⟨av, cv, hvv, hat⟩ := HV11.out.at2
            have hav : va = av := by simp only [Value.slice.injEq] at hvv; exact hvv.1
            subst hav
            have HAT := Lib.hid hat
            clear hvv hat
            go_wp2_with fail
            go_loopw [5, 24] (fun wv kv wr => ∃ k : Nat, k ≤ m2 ∧ kv = .int .i64 (k : Int) ∧ OwnS wr Wx.heap.size wv (bs2.take k) ∧ Below Wx.heap.size Wx wr) (fun _ kv _ => m2 - (intOf kv).toNat)
            case atStart => exact ⟨0, Nat.zero_le _, rfl, OwnS.nil _ _, Below.refl _ _⟩
            case round =>
              obtain ⟨k, hk, rfl, ho, hb⟩ := hrel
              have HO := Lib.hid ho
              have HB := Lib.hid hb
              clear ho hb
              by_cases hkm : k < m2
              · have hkl : k < bs2.length := by rw [HM2.out]; exact hkm
                obtain ⟨hbk, hok2, xa, xc, rfl, -, hlt2, hc2, hr2, -⟩ := HAT.out k hkl
                have htk : bs2.take (k + 1) = bs2.take k ++ [bs2[k]] := (List.take_append_getElem hkl).symm
                obtain ⟨x, hx⟩ : ∃ x, bs2[k] = x := ⟨_, rfl⟩
                rw [hx] at hc2 hr2 htk
                have HTK := Lib.hid htk
                have c1 := cell_later HB.out hlt2 hc2
                obtain ⟨lx, hlx⟩ : ∃ z, x.length = z := ⟨_, rfl⟩
                rw [hlx] at c1
                obtain ⟨SX, hSX⟩ : ∃ S, str x = S := ⟨_, rfl⟩
                have hcv := convS xa x lx xc SX hlx.symm hSX wr (hr2.mono HB.out)
                obtain ⟨w12, hw12⟩ : ∃ y, wr.alloc (.cells #[.string SX] 9) = y := ⟨_, rfl⟩
                have hb12 : Below wr.heap.size wr w12 := by rw [← hw12]; exact below_alloc _
                have HRW : Hid (RowAt w12 wr.heap.size 9 #[strV x]) := by show RowAt _ _ _ _; rw [← hw12]; unfold strV; rw [hSX]; exact RowAt.new _ _ _
                have HO12 := Lib.hid (HO.out.later hb12)
                have HB12 := Lib.hid (HB.out.trans (hb12.mono HB.out.size))
                have htl : (bs2.take k).length + 1 ≤ 1000000 := by rw [List.length_take, HM2.out]; omega
                have hkI : (k : Int) < (m2 : Int) := by omega
                clear hc2 hr2 htk hx hlx hSX hb12
                go_wp2_with (at_builtin; refine step_pushS rfl (.tmp 243) (.tmp 249) rfl Wx.heap.size _ (bs2.take k) rfl wr.heap.size x rfl HO12.out HRW.out htl HB12.out.size ?_; intro v13 w13 q1 q2 q3; have HO13 := Lib.hid q1; have HB13 := Lib.hid (HB12.out.trans (below_of_grown q2 HB12.out.size (fun g hg => (HO12.out.lt hg).1))); clear q1 q2 q3)
                refine ⟨⟨k + 1, by omega, by go_num, by rw [HTK.out]; exact HO13.out, HB13.out⟩, by simp [intOf]; omega⟩
              · obtain rfl : k = m2 := by omega
                have ho2 := HO.out
                rw [List.take_of_length_le (by rw [HM2.out]; exact Nat.le_refl _)] at ho2
                have HDF : Hid (CrD W0 wr S2 d2 size fr n (i + 1) u5 bs2) := ⟨(HD11.out.later HB.out).lower HWS.out (by omega), ho2.wantIs (fun x h1 h2 hs => by have := (HD11.out.lt x hs).2; omega), HB11.out.trans (HB.out.mono HB11.out.size), by rw [HM2.out]; omega, HSM2.out⟩
                clear ho2
                go_wp2_with fail
                exact ⟨⟨i + 1, d2, S2, bs2, by omega, by go_num, rfl, HDF.out⟩, by simp [intOf]; omega⟩
    · obtain rfl : i = nl := by omega
      have HB4 := Lib.hid HR.out.bel
      go_wp2_with fail
      refine (known_any _).mono ?_
      rintro _ wk ⟨rfl, hbk⟩
      have HBK := Lib.hid (HB4.out.trans (hbk.mono HB4.out.size))
      clear hbk
      go_wp2
      exact HKB.out _ HBK.out
end Go.Proofs.Ytmbpacpkabbcgaa
