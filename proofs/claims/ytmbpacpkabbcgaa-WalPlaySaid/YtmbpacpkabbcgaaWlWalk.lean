/- WalPlay: the walk. -/
import Derived.Test.YtmbpacpkabbcgaaWlPlay
import Derived.Test.YtmbpacpkabbcgaaWlStep
import Derived.Test.YtmbpacpkabbcgaaWlKnown
import Derived.Deep.DeepCutAuto
import Derived.Deep.CutBlock
import Derived.Great.BuildSlice
namespace Go.Proofs.Ytmbpacpkabbcgaa
open Go.RowKit

theorem eltStr : Elt Try.prog 39 9 1 16 (.string ⟨#[]⟩) := ⟨Try.underlying39, by kernel_rfl, by kernel_rfl, by decide⟩
def OwnS (w : World) (base : Nat) (v : Value) (l : List (List UInt8)) : Prop := w.ownsRow base 9 1 v l.length (l.map strV)
theorem OwnS.nil (w : World) (base : Nat) : OwnS w base (.slice none 0 0) [] := World.ownsRow_nil _ _ _ _
theorem OwnS.keep {w w' : World} {X : Nat → Prop} (hk : KeepA X w w') {base : Nat} {v : Value} {l : List (List UInt8)} (h : OwnS w base v l) (hx : ∀ g, v.ownBlock = some g → ¬ X g) : OwnS w' base v l := own_keep hk h hx
theorem OwnS.later {w w' : World} (hb : Below w.heap.size w w') {base : Nat} {v : Value} {l : List (List UInt8)} (h : OwnS w base v l) : OwnS w' base v l := h.keep (KeepA.of_below (X := fun _ => False) hb) fun _ _ h => h
theorem OwnS.rd {w : World} {base : Nat} {v : Value} {l : List (List UInt8)} (h : OwnS w base v l) : ∃ a cap, v = .slice a l.length cap ∧ l.length ≤ cap ∧ Rd w a (l.map strV) := by
  have h2 := Rd.of_own h
  simpa using h2
theorem OwnS.lt {w : World} {base : Nat} {v : Value} {l : List (List UInt8)} (h : OwnS w base v l) {g : Nat} (hg : v.ownBlock = some g) : base ≤ g ∧ g < w.heap.size := World.ownsRow.lt h g hg
theorem step_pushS {ops : Array Oper} {rest : List Oper} {o : Oper} {act : Act} {Q : Exit → Act → World → Prop} {w : World} (hgd : o.guard = none) (s x : Operand) (ho : o.op = .call { callee := .builtin .append, args := #[s, x], argTypes := #[39, 39] })
    (base : Nat) (v : Value) (l : List (List UInt8)) (hv : act.eval s = v) (g : Nat) (b : List UInt8) (hx : act.eval x = .slice (some ⟨g, 0, none⟩) 1 1) (hown : OwnS w base v l) (hg : RowAt w g 9 #[strV b]) (hsz : l.length ≤ 1000000) (hbase : base ≤ w.heap.size)
    (h : ∀ v' w', OwnS w' base v' (l ++ [b]) → w.grownBy w' v.ownBlock → NewRow w v v' → wpList Try.prog ops Q rest (act.put o.dst v') w') : wpList Try.prog ops Q (o :: rest) act w := by
  refine step_append hgd s x ho eltStr base v l.length (l.map strV) hv _ 1 1 [strV b] hx hown rfl (.inr ⟨g, 0, rfl, hg.lt, fun k hk => ?_⟩) (fun u hu => by rw [List.mem_singleton.1 hu]; rfl) (by omega) (by omega) hbase fun v' w' h1 h2 h3 => h v' w' ?_ h2 h3
  · have : k = 0 := by simpa using hk
    subst this
    exact hg.cell 0
  · unfold OwnS
    rw [List.length_append, List.map_append]
    exact h1
theorem wp_appendB {P : Program} {o : Oper} {act : Act} {K : Act → World → Prop} {Q : Exit → Act → World → Prop} {w : World} (s x : Operand) {t : TypeId}
    (ho : o.op = .call { callee := .builtin .append, args := #[s, x], argTypes := #[t, t] }) {e : TypeId} {z : Value} (E : Elt P t e 1 1 z) (base : Nat)
    (v : Value) (l : List UInt8) (hv : act.eval s = v) (a : Option Addr) (m c : Nat) (k : List UInt8) (hx : act.eval x = .slice a m c)
    (hown : OwnB w base e v l) (hm : m = k.length) (hk : RdB w a k) (hsz : l.length + k.length ≤ 140737488355328) (hbase : base ≤ w.heap.size)
    (h : ∀ v' w', OwnB w' base e v' (l ++ k) → Onto w v w' v' → K (act.put o.dst v') w') : o.wp P act w K Q := by
  obtain ⟨v', w', hr, h2, h3, h4⟩ := run_append_any E w base o.type v l.length (l.map bv) hown a m c (k.map bv) (by simp [hm]) hk (bv_one k) (by omega) (by omega) hbase
  unfold Oper.wp execOp
  simp only [ho, resolve, invoke, builtin, Sem.run_bind, Sem.run_pure, Result.andThen_ok, List.map_toArray, List.map_cons, List.map_nil, hv, hx, hr]
  refine h v' w' ?_ ⟨h3, h4⟩
  unfold OwnB
  rw [List.map_append, List.length_append, ← hm]
  exact h2
theorem aggWs {kd : Int} {ba fa : Option Addr} {nb bc nf fc : Nat} : Agg Try.prog 44 [Value.int .i64 kd, .slice ba nb bc, .slice fa nf fc].length := ⟨⟨_, Try.underlying44⟩, by kernel_rfl⟩
theorem aggLg {x y z : Int} : Agg Try.prog 23 #[Value.int .i64 x, .int .i64 y, .int .i64 z].size := ⟨⟨_, Try.underlying23⟩, by kernel_rfl⟩
/-- What stands behind k calls. -/
structure PlR (W0 W : World) (d size : Nat) (fr : Int) (n lb used run k : Nat) (T : Nat → Prop) (wv : Value) (bs : List (List UInt8)) : Prop where
  log : PLog W0.heap.size W T lb d size fr n 0 run used bs
  want : OwnS W W0.heap.size wv bs
  sep : ∀ x, wv.ownBlock = some x → ¬ T x
  bel : Below W0.heap.size W0 W
  hrun : run ≤ k + 2
  hlen : bs.length ≤ k
  hsm : ∀ b ∈ bs, b.length ≤ 20000
theorem PlR.later {W0 W W' : World} {d size : Nat} {fr : Int} {n lb used run k : Nat} {T : Nat → Prop} {wv : Value} {bs : List (List UInt8)} (h : PlR W0 W d size fr n lb used run k T wv bs) (hb : Below W.heap.size W W') : PlR W0 W' d size fr n lb used run k T wv bs :=
  ⟨h.log.later hb, h.want.later hb, h.sep, h.bel.trans (hb.mono h.bel.size), h.hrun, h.hlen, h.hsm⟩
theorem PlR.next {W0 W : World} {d size : Nat} {fr : Int} {n lb used run k : Nat} {T : Nat → Prop} {wv : Value} {bs : List (List UInt8)} (h : PlR W0 W d size fr n lb used run k T wv bs) : PlR W0 W d size fr n lb used run (k + 1) T wv bs :=
  ⟨h.log, h.want, h.sep, h.bel, Nat.le_trans h.hrun (by omega), Nat.le_trans h.hlen (by omega), h.hsm⟩
/-- The log is a batch ahead of what is wanted. -/
structure PlM (W0 W : World) (d size : Nat) (fr : Int) (n lb used run : Nat) (T : Nat → Prop) (bsL : List (List UInt8)) (wv : Value) (bs : List (List UInt8)) : Prop where
  log : PLog W0.heap.size W T lb d size fr n 0 run used bsL
  want : OwnS W W0.heap.size wv bs
  sep : ∀ x, wv.ownBlock = some x → ¬ T x
  bel : Below W0.heap.size W0 W
theorem PlM.keep {W0 W W' : World} {d size : Nat} {fr : Int} {n lb used run : Nat} {T : Nat → Prop} {bsL : List (List UInt8)} {wv : Value} {bs : List (List UInt8)} {ga : Nat} (h : PlM W0 W d size fr n lb used run T bsL wv bs)
    (hk : KeepA (fun x => x = ga) W W') (h1 : ∀ x, T x → x ≠ ga) (h2 : ∀ x, wv.ownBlock = some x → x ≠ ga) (h3 : W0.heap.size ≤ ga) : PlM W0 W' d size fr n lb used run T bsL wv bs :=
  ⟨h.log.keep hk h1, h.want.keep hk h2, h.sep, h.bel.trans (hk.below h.bel.size fun x e => by rw [e]; exact h3)⟩
theorem PlM.later {W0 W W' : World} {d size : Nat} {fr : Int} {n lb used run : Nat} {T : Nat → Prop} {bsL : List (List UInt8)} {wv : Value} {bs : List (List UInt8)} (h : PlM W0 W d size fr n lb used run T bsL wv bs)
    (hb : Below W.heap.size W W') : PlM W0 W' d size fr n lb used run T bsL wv bs := ⟨h.log.later hb, h.want.later hb, h.sep, h.bel.trans (hb.mono h.bel.size)⟩
theorem PlM.push {W0 W W' : World} {d size : Nat} {fr : Int} {n lb used run k : Nat} {T : Nat → Prop} {b : List UInt8} {wv v' : Value} {bs : List (List UInt8)} (h : PlM W0 W d size fr n lb used run T (bs ++ [b]) wv bs)
    (q1 : OwnS W' W0.heap.size v' (bs ++ [b])) (q2 : W.grownBy W' wv.ownBlock) (q3 : NewRow W wv v') (hr : run ≤ k + 2) (hl : (bs ++ [b]).length ≤ k) (hs : ∀ x ∈ bs ++ [b], x.length ≤ 20000) : PlR W0 W' d size fr n lb used run k T v' (bs ++ [b]) :=
  ⟨h.log.keep (keep_grownO q2) (fun x hx e => h.sep x e hx), q1, fun x hx ht => by
    rcases q3 x hx with e | e
    · exact h.sep x e ht
    · have := (h.log.lt x ht).2; omega, h.bel.trans (below_of_grown q2 h.bel.size fun g hg => (h.want.lt hg).1), hr, hl, hs⟩
theorem below_keepT {W0 W W' : World} {T : Nat → Prop} (hb : Below W0.heap.size W0 W) (hk : KeepA T W W') (hT : ∀ x, T x → W0.heap.size ≤ x) : Below W0.heap.size W0 W' := hb.trans (hk.below hb.size hT)
theorem pl_app {W0 W : World} {d size : Nat} {fr : Int} {n lb used run k : Nat} {T : Nat → Prop} {wv : Value} {bs : List (List UInt8)} {tb ga oa nb cm b1 : Nat} {by_ : List UInt8} {cells : Array Value} (h : PlR W0 W d size fr n lb used run k T wv bs)
    (hok : askW size fr (n : Int) = 0) (hn : n ≤ 65536) (hbs : bs.length ≤ 900000) (hnb : nb = by_.length) (hom : OwnB W b1 5 (.slice (some ⟨ga, oa, none⟩) (nb + 1) cm) (by_ ++ [77])) (hrt : RowAt W tb 44 cells)
    (hT : ∀ x, T x → x < b1 ∧ x ≠ tb) (hga : b1 ≤ ga) (hgl : ga < W.heap.size) (htl : tb < W.heap.size) :
    Calls Try.prog 12 #[.pointer (some ⟨lb, 0, none⟩), .slice (some ⟨ga, oa, none⟩) nb cm] W fun e w' => ∃ T', e = .returned (.int .i64 (if used + secsOf nb ≤ n - 2 then 0 else 6)) ∧
      PlM W0 w' d size fr n lb (if used + secsOf nb ≤ n - 2 then used + secsOf nb else used) run T' (if used + secsOf nb ≤ n - 2 then bs ++ [by_] else bs) wv bs ∧ OwnB w' b1 5 (.slice (some ⟨ga, oa, none⟩) (nb + 1) cm) (by_ ++ [77]) ∧ RowAt w' tb 44 cells ∧ ∀ x, T' x → x ≠ ga ∧ x ≠ tb := by
  have hrm : RdB W (some ⟨ga, oa, none⟩) (by_ ++ [77]) := by obtain ⟨a9, c9, e9, -, r9⟩ := hom.rd; simp only [Value.slice.injEq] at e9; rw [e9.1]; exact r9
  have hrm0 : RdB W (some ⟨ga, oa, none⟩) by_ := by have h := hrm.take nb; rwa [take_app _ _ _ hnb.symm] at h
  by_cases hfit : used + secsOf nb ≤ n - 2
  · simp only [if_pos hfit]
    refine (pl_append W0.heap.size W T lb d size fr n 0 run used bs h.log h.bel.size hok hn hbs (some ⟨ga, oa, none⟩) by_ nb cm hnb hrm0 (fun ad he ht => by cases he; have := (hT _ ht).1; dsimp only at this; omega) hfit).mono ?_
    rintro e w' ⟨hcase, hk⟩
    obtain ⟨rfl, T', hl, hT'⟩ := hcase.resolve_right (fun h => h.1 rfl)
    refine ⟨T', rfl, ⟨hl, h.want.keep hk h.sep, fun x hx ht => (hT' x ht).elim (h.sep x hx) (fun e => by have := (h.want.lt hx).2; omega), below_keepT h.bel hk (fun x hx => (h.log.lt x hx).1)⟩, own_keep hk hom (fun x hx ht => by have h1 := (World.ownsRow.lt hom x hx).1; have := (hT x ht).1; omega), row_keep hk hrt (fun ht => (hT _ ht).2 rfl), fun x hx => ?_⟩
    rcases hT' x hx with ht | ht
    · exact ⟨fun e => by have := (hT x ht).1; omega, (hT x ht).2⟩
    · exact ⟨by omega, by omega⟩
  · simp only [if_neg hfit]
    refine (pl_full W0.heap.size W T lb d size fr n 0 run used bs h.log hok hn (some ⟨ga, oa, none⟩) nb cm hfit).mono ?_
    rintro e w' ⟨rfl, hb⟩
    exact ⟨T, rfl, ⟨h.log.later hb, h.want.later hb, h.sep, h.bel.trans (hb.mono h.bel.size)⟩, hom.kept hb (Nat.le_refl _), RowAt.below hrt hb, fun x hx => ⟨fun e => by have := (hT x hx).1; omega, (hT x hx).2⟩⟩
set_option maxRecDepth 100000 in
set_option maxHeartbeats 8000000 in
theorem walplay_any (w : World) (sz fr ln : Int) (sa : Option Addr) (l : List Ws) (ns cs : Nat) (hs1 : ns = l.length) (hs2 : ns ≤ 9223372036854775807) (hsl : ∀ s ∈ l, s.bs.length ≤ 9223372036854775807 ∧ s.fs.length ≤ 9223372036854775807) (hs : RdWs w sa l) :
    Calls Try.prog 3 #[.agg #[.int .i64 sz, .int .i64 fr, .int .i64 ln], .slice sa ns cs] w fun e w' => e = .returned (.bool true) ∧ Below w.heap.size w w' := by
  obtain ⟨g, hg⟩ : ∃ x, w.heap.size = x := ⟨_, rfl⟩
  have HS1 := Lib.hid hs1
  have HS := Lib.hid hs
  have HVA := Lib.hid (fun (w : World) (h : RdWs w sa l) => vast_any w sz fr ln sa l ns cs hs1 hs2 hsl h)
  clear hs1 hsl hs
  rw [hg]
  obtain ⟨K, hK⟩ : ∃ K : Ending → World → Prop, (fun (e : Ending) (w' : World) => e = .returned (.bool true) ∧ Below g w w') = K := ⟨_, rfl⟩
  have HKT : Hid (∀ w', Below g w w' → K (.returned (.bool true)) w') := fun w' h => by rw [← hK]; exact ⟨rfl, h⟩
  rw [hK]
  clear hK
  go_enter Try.func3, Try.ntmps3
  go_upto_region 1 with fail
  obtain ⟨W0, hW0⟩ : ∃ x, w.alloc (.cells #[.int .i64 sz, .int .i64 fr, .int .i64 ln] 23) = x := ⟨_, rfl⟩
  have HA0 : Hid (RowAt W0 g 23 #[.int .i64 sz, .int .i64 fr, .int .i64 ln]) := by rw [← hW0, ← hg]; exact RowAt.new _ _ _
  have HBX : Hid (Below g w W0) := by rw [← hW0, ← hg]; exact below_alloc _
  have hWs : W0.heap.size = g + 1 := by rw [← hW0, ← hg]; simp
  have HGX : Hid (g ≤ W0.heap.size) := by show _ ≤ _; omega
  have HS0 : Hid (RdWs W0 sa l) := HS.out.later (by rw [hg]; exact HBX.out)
  have HKB : Hid (∀ w', Below W0.heap.size W0 w' → K (.returned (.bool true)) w') := fun w' h => HKT.out w' (HBX.out.trans (h.mono HGX.out))
  rw [hW0]
  clear hW0
  have i0 := HA0.out.cell 0
  have i1 := HA0.out.cell 1
  have i2 := HA0.out.cell 2
  simp only [List.getElem?_toArray, List.getElem?_cons_zero, List.getElem?_cons_succ] at i0 i1 i2
  by_cases hsz : sz < 1 ∨ 65536 < sz
  · go_wp2_with fail
    refine (new_bad W0 sz hsz).mono ?_
    rintro _ w1 ⟨rfl, rfl⟩
    clear hsz
    go_wp2_with (refine step_loadRow rfl 23 (.tmp 2) rfl g rfl HA0.out aggLg ?_)
    refine (HVA.out w1 HS0.out).mono ?_
    rintro _ w2 ⟨⟨r, rfl, hr⟩, hb2⟩
    have HB2 := Lib.hid hb2
    clear hr hb2
    cases r with
    | true =>
      go_wp2_with fail
      refine (known_any _).mono ?_
      rintro _ w3 ⟨rfl, hb3⟩
      have HB3 := Lib.hid (HB2.out.trans (hb3.mono HB2.out.size))
      clear hb3
      go_wp2
      exact HKB.out _ HB3.out
    | false =>
      go_wp2_with fail
      refine (known_any _).mono ?_
      rintro _ w3 ⟨rfl, hb3⟩
      have HB3 := Lib.hid (HB2.out.trans (hb3.mono HB2.out.size))
      clear hb3
      go_wp2
      exact HKB.out _ HB3.out
  obtain ⟨size, rfl⟩ : ∃ n : Nat, sz = (n : Int) := ⟨sz.toNat, by omega⟩
  have hsz1 : 0 < size := by omega
  have hsz2 : size ≤ 65536 := by omega
  clear hsz
  go_wp2_with fail
  refine (new_any none [] 0 0 size W0 rfl (by omega) (.inl rfl) hsz1 hsz2 rfl).mono ?_
  rintro _ w1 ⟨⟨d, rfl, hd⟩, hb1⟩
  have HD1 := Lib.hid hd.toS
  have HB1 := Lib.hid hb1
  have HA1 := Lib.hid (RowAt.below HA0.out hb1)
  have HS1' := Lib.hid (HS0.out.later hb1)
  clear hd hb1 i0 i1 i2
  go_wp2_with (refine step_loadRow rfl 23 (.tmp 2) rfl g rfl HA1.out aggLg ?_)
  refine (HVA.out w1 HS1'.out).mono ?_
  rintro _ w2 ⟨⟨r, rfl, hr⟩, hb2⟩
  have HB2 := Lib.hid (HB1.out.trans (hb2.mono HB1.out.size))
  have HD2 := Lib.hid (HD1.out.later hb2)
  clear HD1 HA1 HS1'
  have HA2 := Lib.hid (RowAt.below HA0.out HB2.out)
  cases r with
  | true =>
    clear hr hb2
    go_wp2_with fail
    refine (known_any _).mono ?_
    rintro _ w3 ⟨rfl, hb3⟩
    have HB3 := Lib.hid (HB2.out.trans (hb3.mono HB2.out.size))
    clear hb3
    go_wp2
    exact HKB.out _ HB3.out
  | false =>
  obtain ⟨hz60, hn50, hsm⟩ := hr rfl
  have HSM := Lib.hid hsm
  have HSP2 : Hid (∀ x, W0.heap.size ≤ x ∧ x < w1.heap.size → W0.heap.size ≤ x ∧ x < w2.heap.size) := fun x hx => ⟨hx.1, Nat.lt_of_lt_of_le hx.2 hb2.size⟩
  clear hr hsm hb2
  go_wp2_with (refine step_loadRow rfl 23 (.tmp 2) rfl g rfl HA2.out aggLg ?_)
  refine (lright_any w2 size fr ln hsz2).mono ?_
  rintro _ w3 ⟨rfl, hb3⟩
  have HB3 := Lib.hid (HB2.out.trans (hb3.mono HB2.out.size))
  have HD3 := Lib.hid (HD2.out.later hb3)
  have HSP3 : Hid (∀ x, W0.heap.size ≤ x ∧ x < w1.heap.size → W0.heap.size ≤ x ∧ x < w3.heap.size) := fun x hx => ⟨hx.1, Nat.lt_of_lt_of_le (HSP2.out x hx).2 hb3.size⟩
  have HA3 := Lib.hid (RowAt.below HA0.out HB3.out)
  have i0 := HA3.out.cell 0
  have i1 := HA3.out.cell 1
  have i2 := HA3.out.cell 2
  simp only [List.getElem?_toArray, List.getElem?_cons_zero, List.getElem?_cons_succ] at i0 i1 i2
  clear HD2 HA2 HSP2 hb3
  by_cases hask : ¬ askW size fr ln = 0
  · have HF := Lib.hid (format_no w3 _ d _ 0 fr ln HD3.out hask)
    have HO := Lib.hid (fun w h => open_no w _ d _ 0 fr ln (HD3.out.later h) hask)
    have HL := Lib.hid (fun w h => wlook_no w _ d _ 0 fr ln (HD3.out.later h) hask)
    dsimp only at HF HO HL
    obtain ⟨no, hno⟩ : ∃ r, askW size fr ln = r := ⟨_, rfl⟩
    rw [hno] at hask HF HO HL
    try rw [hno]
    have hno1 : (no != 0) = true := by simpa using hask
    clear hno hask HD3
    go_wp2_with fail
    refine HF.out.mono ?_
    rintro _ w4 ⟨rfl, rfl⟩
    go_wp2_with fail
    refine (HO.out w4 (Below.refl _ _)).mono ?_
    rintro _ w5 ⟨rfl, hb5⟩
    have HB5 := Lib.hid (HB3.out.trans (hb5.mono HB3.out.size))
    have HL5 := Lib.hid (HL.out w5 hb5)
    have HA5 := Lib.hid (RowAt.below HA0.out HB5.out)
    have i1 := HA5.out.cell 1
    have i2 := HA5.out.cell 2
    simp only [List.getElem?_toArray, List.getElem?_cons_zero, List.getElem?_cons_succ] at i1 i2
    clear hb5
    go_wp2_with fail
    refine HL5.out.mono ?_
    rintro _ w6 ⟨rfl, hb6⟩
    have HB6 := Lib.hid (HB5.out.trans (hb6.mono HB5.out.size))
    clear hb6
    go_wp2_with fail
    refine (known_any _).mono ?_
    rintro _ w7 ⟨rfl, hb7⟩
    have HB7 := Lib.hid (HB6.out.trans (hb7.mono HB6.out.size))
    clear hb7
    go_wp2
    exact HKB.out _ HB7.out
  have hask := Decidable.of_not_not hask
  rw [hask]
  obtain ⟨n, rfl⟩ : ∃ n : Nat, ln = (n : Int) := ⟨ln.toNat, by unfold askW at hask; split at hask <;> omega⟩
  obtain ⟨k1, k2, k3⟩ := ask_ok hask
  have HASK := Lib.hid hask
  have hn60 : n ≤ 60 := by omega
  clear hask
  go_wp2_with fail
  refine (pl_format W0.heap.size w3 _ d size _ fr n HD3.out HSP3.out HB3.out.size HASK.out).mono ?_
  rintro _ w4 ⟨rfl, ⟨S4, hd4, hS4⟩, hk4⟩
  have HB4 : Hid (Below W0.heap.size W0 w4) := below_keepT HB3.out hk4 fun x hx => hx.1
  have HD4 := Lib.hid hd4
  have HA4 := Lib.hid (RowAt.below HA0.out HB4.out)
  clear hd4 hS4 hk4 i0 i1 i2
  have i1 := HA4.out.cell 1
  have i2 := HA4.out.cell 2
  simp only [List.getElem?_toArray, List.getElem?_cons_zero, List.getElem?_cons_succ] at i1 i2
  go_wp2_with fail
  refine (pl_open W0.heap.size w4 S4 d size fr n 1 0 [] HD4.out HB4.out.size HASK.out (by decide)).mono ?_
  rintro _ w5 ⟨⟨lb0, rfl, T5, hl5, hT5⟩, hk5⟩
  have HB5 : Hid (Below W0.heap.size W0 w5) := below_keepT HB4.out hk5 (by obtain ⟨_, _, _, _, h⟩ := HD4.out; exact fun x hx => (h x hx).1)
  have HR5 : Hid (PlR W0 w5 d size fr n lb0 0 2 0 T5 (.slice none 0 0) []) := ⟨hl5, OwnS.nil _ _, fun x hx => by simp [Value.ownBlock] at hx, HB5.out, Nat.le_refl _, Nat.le_refl _, fun b hb => by cases hb⟩
  clear hl5 hT5 hk5 i1 i2
  have HKN := Lib.hid HKB.out
  clear HS HVA HD3 HSP3 HA3 HB3 HD4 HA4 HB4 HB2 HB1 HKB HB5 HKT
  go_wp2_with fail
  go_loopw [12, 14, 15, 16, 17] (fun lv wv uv rv iv wr => ∃ (k lb used run : Nat) (T : Nat → Prop) (bs : List (List UInt8)), k ≤ ns ∧ lv = .pointer (some ⟨lb, 0, none⟩) ∧ uv = .int .i64 (used : Int) ∧ rv = .int .u64 (run : Int) ∧ iv = .int .i64 (k : Int) ∧ PlR W0 wr d size fr n lb used run k T wv bs) (fun _ _ _ _ iv _ => ns - (intOf iv).toNat)
  case atStart => exact ⟨0, lb0, 0, 2, T5, [], Nat.zero_le _, rfl, rfl, rfl, rfl, HR5.out⟩
  case round =>
    obtain ⟨k, lb, used, run, T, bs, hk, rfl, rfl, rfl, rfl, hR⟩ := hrel
    have HR := Lib.hid hR
    clear hR HR5
    by_cases hkn : k < ns
    · have hkl : k < l.length := by rw [← HS1.out]; exact hkn
      obtain ⟨b2, off, rfl, hlt, hrow⟩ := HS0.out.resolve_left (by intro e; rw [e] at hkl; simp at hkl)
      have hst := hrow k hkl
      have hss := HSM.out l[k] (List.getElem_mem hkl)
      obtain ⟨s, hs'⟩ : ∃ s, l[k] = s := ⟨_, rfl⟩
      rw [hs'] at hst hss
      have HC : Hid (∀ i v, (wsC s)[i]? = some v → wr.cell? ((⟨b2, off + k * 3, none⟩ : Addr).add i) = some v) := fun i v hv => by
        rw [Addr.add_mid]
        exact CellsAt.later HR.out.bel hlt hst.cells i v hv
      have HBY := Lib.hid (hst.bytes.mono HR.out.bel)
      have HBC := Lib.hid hst.bcap
      have HBYW := Lib.hid hst.bytes
      have hb1 : (k : Int) < (ns : Int) := by omega
      obtain ⟨kd, ba, by_, bc, fa2, fs2, fc2⟩ := s
      dsimp only [wsC, Ws.small] at HC HBY HBC HBYW hss
      obtain ⟨nb, hnb⟩ : ∃ x, by_.length = x := ⟨_, rfl⟩
      obtain ⟨nf2, hnf2⟩ : ∃ x, fs2.length = x := ⟨_, rfl⟩
      rw [hnb] at HC HBC hss
      rw [hnf2] at HC hss
      obtain ⟨hn20, hnf50⟩ := hss
      have HNB := Lib.hid hnb
      clear hrow hst hs' hnb hnf2
      obtain ⟨tb, htb⟩ : ∃ x, wr.heap.size = x := ⟨_, rfl⟩
      go_upto_region 20 with (refine step_loadCells rfl 44 (.tmp 108) rfl ⟨b2, off + k * 3, none⟩ rfl _ aggWs HC.out ?_)
      obtain ⟨w3, hw3⟩ : ∃ x, wr.alloc (.cells #[.int .i64 kd, .slice ba nb bc, .slice fa2 nf2 fc2] 44) = x := ⟨_, rfl⟩
      have HT3 : Hid (RowAt w3 tb 44 #[.int .i64 kd, .slice ba nb bc, .slice fa2 nf2 fc2]) := by rw [← hw3, ← htb]; exact RowAt.new _ _ _
      have hb3 : Below wr.heap.size wr w3 := by rw [← hw3]; exact below_alloc _
      have e0 := HT3.out.cell 0
      have e1 := HT3.out.cell 1
      simp only [List.getElem?_toArray, List.getElem?_cons_zero, List.getElem?_cons_succ] at e0 e1
      have HR3 := Lib.hid (HR.out.later hb3)
      have HBY3 := Lib.hid (HBY.out.mono hb3)
      have HTB : Hid (∀ x, T x → x ≠ tb) := fun x hx e => by have := (HR.out.log.lt x hx).2; omega
      have HTW : Hid (W0.heap.size ≤ tb) := by show _ ≤ _; rw [← htb]; exact HR.out.bel.size
      rw [hw3]
      clear hb3 hw3 htb HR HBY HC
      go_upto_block 2 with fail
      go_cut [12, 14, 15, 16] (fun lv wv uv rv wx => ∃ (lb used run : Nat) (T : Nat → Prop) (bs : List (List UInt8)), lv = .pointer (some ⟨lb, 0, none⟩) ∧ uv = .int .i64 (used : Int) ∧ rv = .int .u64 (run : Int) ∧ PlR W0 wx d size fr n lb used run (k + 1) T wv bs)
      case first =>
        have HTT : Hid (tb < w3.heap.size) := HT3.out.lt
        by_cases hk1 : kd = 1
        · subst hk1
          go_upto_region 22 with fail
          go_cut [19] (fun mv wx => ∃ (am : Option Addr) (cm : Nat), mv = .slice am nb cm ∧ OwnB wx w3.heap.size 5 (.slice am (nb + 1) cm) (by_ ++ [77]) ∧ Below w3.heap.size w3 wx)
          case first =>
            as_aux_lemma =>
            refine wp_region_held_drew (S := fun w' => w'.cell? ⟨tb, 1, none⟩ = some (.slice ba nb bc)) (by kernel_rfl) (show w3.drew.cell? ⟨tb, 1, none⟩ = some (.slice ba nb bc) from e1) (fun hHeld => ?_)
            refine wpAnyH_take (i := 0) (v := ?_) rfl (by kernel_rfl) (by kernel_rfl) (by kernel_rfl) (fun _ _ _ h => h) (Or.inl ⟨by rfl, ?_⟩) hHeld ?_
            rotate_left
            · intro w' hS'
              (try dsimp only at hS')
              go_simp
              try with_reducible rfl
            try simp only [List.getElem_toArray, List.getElem_cons_succ, List.getElem_cons_zero, Act.put, List.setIfInBounds_toArray, List.set_cons_zero, List.set_cons_succ]
            refine wpAnyH_take (i := 1) (v := ?_) rfl (by kernel_rfl) (by kernel_rfl) (by kernel_rfl) (fun _ _ _ h => h) (Or.inl ⟨by rfl, ?_⟩) hHeld ?_
            rotate_left
            · intro w' hS'
              (try dsimp only at hS')
              go_simp
              try with_reducible rfl
            try simp only [List.getElem_toArray, List.getElem_cons_succ, List.getElem_cons_zero, Act.put, List.setIfInBounds_toArray, List.set_cons_zero, List.set_cons_succ]
            refine wpAnyH_take (i := 5) (v := ?_) rfl (by kernel_rfl) (by kernel_rfl) (by kernel_rfl) (fun _ _ _ h => h) (Or.inl ⟨by rfl, ?_⟩) hHeld ?_
            rotate_left
            · intro w' hS'
              (try dsimp only at hS')
              go_simp
              try with_reducible rfl
            try simp only [List.getElem_toArray, List.getElem_cons_succ, List.getElem_cons_zero, Act.put, List.setIfInBounds_toArray, List.set_cons_zero, List.set_cons_succ]
            refine wpAnyH_take (i := 6) (v := ?_) rfl (by kernel_rfl) (by kernel_rfl) (by kernel_rfl) (fun _ _ _ h => h) (Or.inl ⟨by rfl, ?_⟩) hHeld ?_
            rotate_left
            · intro w' hS'
              (try dsimp only at hS')
              go_simp
              try with_reducible rfl
            try simp only [List.getElem_toArray, List.getElem_cons_succ, List.getElem_cons_zero, Act.put, List.setIfInBounds_toArray, List.set_cons_zero, List.set_cons_succ]
            refine wpAnyH_take (i := 7) (v := ?_) rfl (by kernel_rfl) (by kernel_rfl) (by kernel_rfl) (fun _ _ _ h => h) (Or.inl ⟨by rfl, ?_⟩) hHeld ?_
            rotate_left
            · intro w' hS'
              (try dsimp only at hS')
              go_simp
              try with_reducible rfl
            try simp only [List.getElem_toArray, List.getElem_cons_succ, List.getElem_cons_zero, Act.put, List.setIfInBounds_toArray, List.set_cons_zero, List.set_cons_succ]
            refine wpAnyH_ready (rs := [2, 3]) (by kernel_rfl) (by simp) (AllReadyH.cons rfl (fun K hK => ?_) (AllReadyH.cons rfl (fun K hK => ?_) AllReadyH.nil))
            · try rw [if_pos (by rfl)]
              refine wp_appendB (.const (.slice none 0 0)) (.tmp 115) rfl eltB w3.heap.size (.slice none 0 0) [] rfl ba nb bc by_ rfl (OwnB.nil _ _ _) HNB.out.symm (HBY3.out.mono (drewN_below (Below.refl _ _) 1)) (by simp; have := HNB.out; omega) (Nat.le_refl _) ?_
              intro v4 w4 h1 h2
              have HO4 : Hid (OwnB w4 w3.heap.size 5 v4 by_) := h1
              have hb4 : Below w3.heap.size w3 w4 := (drewN_below (Below.refl _ _) 1).trans (h2.down (OwnB.nil w3.drew w3.heap.size 5) (Nat.le_refl _))
              have HB4 := Lib.hid hb4
              clear h1 h2 hb4
              refine hK.out _ _ (cell_later HB4.out HTT.out e1) (fun hHeld => ?_)
              try simp only [List.getElem_toArray, List.getElem_cons_succ, List.getElem_cons_zero, Act.put, List.setIfInBounds_toArray, List.set_cons_zero, List.set_cons_succ]
              clear hK K
              refine wpAnyH_ready (rs := [3]) (by kernel_rfl) (by simp) (AllReadyH.cons rfl (fun K hK => ?_) AllReadyH.nil)
              go_simp
              obtain ⟨w5, hw5⟩ : ∃ y, w4.alloc (.cells #[.int .u8 77] 5) = y := ⟨_, rfl⟩
              have hb5 : Below w4.heap.size w4 w5 := by rw [← hw5]; exact below_alloc _
              have HC5 : Hid (RdB w5 (some ⟨w4.heap.size, 0, none⟩) [77]) := by show RdB _ _ _; rw [← hw5]; exact rdB_lit _ _ _ _ _ rfl
              have HBY5 : Hid (Below w3.heap.size w3 w5) := HB4.out.trans (hb5.mono HB4.out.size)
              have HO5 : Hid (OwnB w5 w3.heap.size 5 v4 by_) := HO4.out.kept hb5 (Nat.le_refl _)
              try rw [hw5]
              clear hb5 hw5
              refine hK.out _ _ (cell_later HBY5.out HTT.out e1) (fun hHeld => ?_)
              try simp only [List.getElem_toArray, List.getElem_cons_succ, List.getElem_cons_zero, Act.put, List.setIfInBounds_toArray, List.set_cons_zero, List.set_cons_succ]
              clear hK K
              refine wpAnyH_ready (rs := [4]) (by kernel_rfl) (by simp) (AllReadyH.cons rfl (fun K hK => ?_) AllReadyH.nil)
              try rw [if_pos (by rfl)]
              refine wp_appendB (.tmp 116) (.tmp 117) rfl eltB w3.heap.size v4 by_ rfl (some ⟨w4.heap.size, 0, none⟩) 1 1 [77] rfl HO5.out rfl HC5.out (by simp; have := HNB.out; omega) HBY5.out.size ?_
              intro v6 w6 h1 h2
              have HO6 := Lib.hid h1
              have HB6 : Hid (Below w3.heap.size w3 w6) := HBY5.out.trans (h2.down HO5.out HBY5.out.size)
              obtain ⟨a6, c6, hv6, hc6, -⟩ := h1.rd
              have hl6 : (by_ ++ [77]).length = nb + 1 := by rw [List.length_append, HNB.out]; rfl
              rw [hl6] at hv6 hc6
              subst hv6
              have hnb0 : (0 : Int) ≤ (nb : Int) := by omega
              have hnb1 : (nb : Int) ≤ (c6 : Int) := by omega
              have hnb2 : nb ≤ c6 := by omega
              clear h1 h2 hl6
              refine hK.out _ _ (cell_later HB6.out HTT.out e1) (fun hHeld => ?_)
              try simp only [List.getElem_toArray, List.getElem_cons_succ, List.getElem_cons_zero, Act.put, List.setIfInBounds_toArray, List.set_cons_zero, List.set_cons_succ]
              clear hK K
              refine wpAnyH_take (i := 8) (v := ?_) rfl (by kernel_rfl) (by kernel_rfl) (by kernel_rfl) (fun _ _ _ h => h) (Or.inl ⟨by rfl, ?_⟩) hHeld ?_
              rotate_left
              · intro w' hS'
                (try dsimp only at hS')
                go_simp
                try with_reducible rfl
              try simp only [List.getElem_toArray, List.getElem_cons_succ, List.getElem_cons_zero, Act.put, List.setIfInBounds_toArray, List.set_cons_zero, List.set_cons_succ]
              refine wpAnyH_take (i := 9) (v := ?_) rfl (by kernel_rfl) (by kernel_rfl) (by kernel_rfl) (fun _ _ _ h => h) (Or.inl ⟨by rfl, ?_⟩) hHeld ?_
              rotate_left
              · intro w' hS'
                (try dsimp only at hS')
                go_simp
                try with_reducible rfl
              try simp only [List.getElem_toArray, List.getElem_cons_succ, List.getElem_cons_zero, Act.put, List.setIfInBounds_toArray, List.set_cons_zero, List.set_cons_succ]
              refine wpAnyH_done (by kernel_rfl) ?_ _
              go_wp2
              go_meet
              exact ⟨a6, c6, rfl, HO6.out, HB6.out⟩
            · go_simp
              obtain ⟨w5, hw5⟩ : ∃ y, (w3.alloc (.cells #[.int .u8 77] 5)).drew = y := ⟨_, rfl⟩
              have hb5 : Below w3.heap.size w3 w5 := by rw [← hw5]; exact drewN_below (below_alloc _) 1
              have HC5 : Hid (RowAt w5 w3.heap.size 5 #[.int .u8 77]) := by show RowAt _ _ _ _; rw [← hw5]; exact RowAt.new _ _ _
              have HB5 := Lib.hid hb5
              try rw [hw5]
              clear hb5 hw5
              refine hK.out _ _ (cell_later HB5.out HTT.out e1) (fun hHeld => ?_)
              try simp only [List.getElem_toArray, List.getElem_cons_succ, List.getElem_cons_zero, Act.put, List.setIfInBounds_toArray, List.set_cons_zero, List.set_cons_succ]
              clear hK K
              refine wpAnyH_ready (rs := [2]) (by kernel_rfl) (by simp) (AllReadyH.cons rfl (fun K hK => ?_) AllReadyH.nil)
              try rw [if_pos (by rfl)]
              refine wp_appendB (.const (.slice none 0 0)) (.tmp 115) rfl eltB w3.heap.size (.slice none 0 0) [] rfl ba nb bc by_ rfl (OwnB.nil _ _ _) HNB.out.symm (HBY3.out.mono HB5.out) (by simp; have := HNB.out; omega) HB5.out.size ?_
              intro v4 w4 h1 h2
              have HO4 : Hid (OwnB w4 w3.heap.size 5 v4 by_) := h1
              have HBY5 : Hid (Below w3.heap.size w3 w4) := HB5.out.trans (h2.down (OwnB.nil w5 w3.heap.size 5) HB5.out.size)
              have HC4 : Hid (RdB w4 (some ⟨w3.heap.size, 0, none⟩) [77]) := rdB_row (l := [77]) (HC5.out.onto h2 (by simp [Value.ownBlock]))
              clear h1 h2
              refine hK.out _ _ (cell_later HBY5.out HTT.out e1) (fun hHeld => ?_)
              try simp only [List.getElem_toArray, List.getElem_cons_succ, List.getElem_cons_zero, Act.put, List.setIfInBounds_toArray, List.set_cons_zero, List.set_cons_succ]
              clear hK K
              refine wpAnyH_ready (rs := [4]) (by kernel_rfl) (by simp) (AllReadyH.cons rfl (fun K hK => ?_) AllReadyH.nil)
              try rw [if_pos (by rfl)]
              refine wp_appendB (.tmp 116) (.tmp 117) rfl eltB w3.heap.size v4 by_ rfl (some ⟨w3.heap.size, 0, none⟩) 1 1 [77] rfl HO4.out rfl HC4.out (by simp; have := HNB.out; omega) HBY5.out.size ?_
              intro v6 w6 h1 h2
              have HO6 := Lib.hid h1
              have HB6 : Hid (Below w3.heap.size w3 w6) := HBY5.out.trans (h2.down HO4.out HBY5.out.size)
              obtain ⟨a6, c6, hv6, hc6, -⟩ := h1.rd
              have hl6 : (by_ ++ [77]).length = nb + 1 := by rw [List.length_append, HNB.out]; rfl
              rw [hl6] at hv6 hc6
              subst hv6
              have hnb0 : (0 : Int) ≤ (nb : Int) := by omega
              have hnb1 : (nb : Int) ≤ (c6 : Int) := by omega
              have hnb2 : nb ≤ c6 := by omega
              clear h1 h2 hl6
              refine hK.out _ _ (cell_later HB6.out HTT.out e1) (fun hHeld => ?_)
              try simp only [List.getElem_toArray, List.getElem_cons_succ, List.getElem_cons_zero, Act.put, List.setIfInBounds_toArray, List.set_cons_zero, List.set_cons_succ]
              clear hK K
              refine wpAnyH_take (i := 8) (v := ?_) rfl (by kernel_rfl) (by kernel_rfl) (by kernel_rfl) (fun _ _ _ h => h) (Or.inl ⟨by rfl, ?_⟩) hHeld ?_
              rotate_left
              · intro w' hS'
                (try dsimp only at hS')
                go_simp
                try with_reducible rfl
              try simp only [List.getElem_toArray, List.getElem_cons_succ, List.getElem_cons_zero, Act.put, List.setIfInBounds_toArray, List.set_cons_zero, List.set_cons_succ]
              refine wpAnyH_take (i := 9) (v := ?_) rfl (by kernel_rfl) (by kernel_rfl) (by kernel_rfl) (fun _ _ _ h => h) (Or.inl ⟨by rfl, ?_⟩) hHeld ?_
              rotate_left
              · intro w' hS'
                (try dsimp only at hS')
                go_simp
                try with_reducible rfl
              try simp only [List.getElem_toArray, List.getElem_cons_succ, List.getElem_cons_zero, Act.put, List.setIfInBounds_toArray, List.set_cons_zero, List.set_cons_succ]
              refine wpAnyH_done (by kernel_rfl) ?_ _
              go_wp2
              go_meet
              exact ⟨a6, c6, rfl, HO6.out, HB6.out⟩
          case rest =>
            obtain ⟨am, cm, rfl, hom, hbm⟩ := hcut
            obtain ⟨ga, oa, cap9, he9, hga, hgl9, -, -, -⟩ := (OwnW.of_own hom).open 0 (by simp)
            have hca : am = some ⟨ga, oa, none⟩ := by simp only [Value.slice.injEq] at he9; exact he9.1
            subst hca
            have hcm : nb + 1 ≤ cm := by obtain ⟨a9, c9, e9, h9, -⟩ := hom.rd; simp only [Value.slice.injEq] at e9; rw [List.length_append, HNB.out] at h9; rw [e9.2.2]; exact h9
            have HRc := Lib.hid (HR3.out.later hbm)
            have HWL : Hid (∀ x, u14.ownBlock = some x → x < w3.heap.size) := fun x hx => (HR3.out.want.lt hx).2
            obtain ⟨c, hc⟩ : ∃ c, secsOf nb = c := ⟨_, rfl⟩
            have hc100 : c ≤ 100 := by rw [← hc]; unfold secsOf; omega
            have HCO : Hid (∀ w, Calls Try.prog 13 #[.int .i64 (nb : Int)] w fun e w' => e = .returned (.int .i64 (c : Int)) ∧ w' = w) := fun w => by
              have h := cost_any w nb (by omega)
              rw [show (nb + 491) / 488 = c by rw [← hc]; unfold secsOf; omega] at h
              exact h
            have hul := HR3.out.log.used_le
            obtain ⟨SB, hSB⟩ : ∃ S, str by_ = S := ⟨_, rfl⟩
            have HSB := Lib.hid hSB
            have HSM8 : Hid (∀ b ∈ bs ++ [by_], b.length ≤ 20000) := fun b hb => by
              rcases List.mem_append.1 hb with hb | hb
              · exact HR3.out.hsm b hb
              · rw [List.mem_singleton.1 hb, HNB.out]; exact hn20
            have HAP := Lib.hid (pl_app HRc.out HASK.out (by omega) (by have := HR3.out.hlen; omega) HNB.out.symm hom (RowAt.below HT3.out hbm) (fun x hx => ⟨(HR3.out.log.lt x hx).2, HTB.out x hx⟩) hga hgl9 (Nat.lt_of_lt_of_le HTT.out hbm.size))
            rw [hc] at HAP
            clear hom hbm he9 hSB HRc hc
            by_cases hfit : used + c ≤ n - 2
            ·
              as_aux_lemma =>
              simp only [if_pos hfit] at HAP
              go_wp2_with fail
              refine HAP.out.mono ?_
              rintro _ w4 ⟨T4, rfl, hM4, ho4, ht4, hts4⟩
              have HM4 := Lib.hid hM4
              have HO4 := Lib.hid ho4
              have HT4 := Lib.hid ht4
              have HTS := Lib.hid hts4
              have i2 := (RowAt.below HA0.out HM4.out.bel).cell 2
              simp only [List.getElem?_toArray, List.getElem?_cons_zero, List.getElem?_cons_succ] at i2
              clear hM4 ho4 ht4 hts4 HAP
              go_upto_region 24 with fail
              go_cut [21] (fun fv wx => fv = .bool true ∧ Below w4.heap.size w4 wx)
              case first =>
                have hfI : (used : Int) + (c : Int) ≤ (n : Int) - 2 := by omega
                have y1 : IntKind.i64.wrap ((used : Int) + (c : Int)) = (used : Int) + (c : Int) := IntWalk.i64_in _ (by omega)
                have y2 : IntKind.i64.wrap ((n : Int) - 2) = (n : Int) - 2 := IntWalk.i64_in _ (by omega)
                have hS0 : w4.cell? ⟨g, 2, none⟩ = some (.int .i64 (n : Int)) ∧ Below w4.heap.size w4 w4.drew := ⟨i2, drewN_below (Below.refl _ _) 1⟩
                go_region_held (fun w' => w'.cell? ⟨g, 2, none⟩ = some (.int .i64 (n : Int)) ∧ Below w4.heap.size w4 w') (first | exact hS0 | assumption) (first
                  | (go_at_call 13; refine (HCO.out _).mono ?_; rintro e w5 ⟨rfl, rfl⟩))
                go_wp2
                go_meet
                refine ⟨?_, by first | assumption | exact hS0.2⟩
                first | rfl | rw [decide_eq_true hfI] | (refine congrArg Value.bool ?_; simp only [decide_eq_true_eq, decide_eq_false_iff_not]; omega) | (refine congrArg Value.bool ?_; rw [y1, y2]; simp only [decide_eq_true_eq, decide_eq_false_iff_not]; omega)
              case rest =>
                obtain ⟨rfl, hb5⟩ := hcut
                have HM5 := Lib.hid (HM4.out.later hb5)
                have HO5 := Lib.hid (HO4.out.kept hb5 (Nat.le_refl _))
                have HT5 := Lib.hid (RowAt.below HT4.out hb5)
                clear hb5 i2
                have hrm : RdB wc (some ⟨ga, oa, none⟩) (by_ ++ [77]) := by obtain ⟨a9, c9, e9, -, r9⟩ := HO5.out.rd; simp only [Value.slice.injEq] at e9; rw [e9.1]; exact r9
                have hrm0 : RdB wc (some ⟨ga, oa, none⟩) by_ := by have h := hrm.take nb; rwa [take_app _ _ _ HNB.out] at h
                have c77 : wc.cell? ⟨ga, oa + nb, none⟩ = some (.int .u8 77) := by
                  obtain ⟨b9, o9, e9, -, hc9⟩ := RdB.at hrm (by simp)
                  simp only [Option.some.injEq, Addr.mk.injEq, and_true] at e9
                  have h := hc9 nb (by rw [List.length_append, HNB.out]; simp)
                  rw [← e9.1, ← e9.2] at h
                  rw [h, List.getElem_append_right (by rw [HNB.out]; exact Nat.le_refl _)]
                  simp
                have e1 := HT5.out.cell 1
                simp only [List.getElem?_toArray, List.getElem?_cons_zero, List.getElem?_cons_succ] at e1
                have hcv1 := convS (some ⟨ga, oa, none⟩) by_ nb cm SB HNB.out.symm HSB.out wc hrm0
                have hcv2 := convS ba by_ nb bc SB HNB.out.symm HSB.out wc (HBYW.out.mono HM5.out.bel)
                have he : (SB.toList == SB.toList) = true := by simp
                have hn0 : (0 : Int) ≤ (nb : Int) + 1 := by omega
                have hn1 : (nb : Int) + 1 ≤ (cm : Int) := by omega
                have hn2 : (nb : Int) < (nb : Int) + 1 := by omega
                have HX5 : Hid (OwnW wc w3.heap.size (.slice (some ⟨ga, oa, none⟩) nb cm) (by_.map bv)) := by
                  have h := (OwnW.of_own HO5.out).take nb cm (by omega) (by omega)
                  rw [List.map_append, take_app _ _ _ (by rw [List.length_map]; exact HNB.out)] at h
                  exact h
                clear hrm hrm0
                go_wp2_with fail
                go_loopw [22] (fun i wr => ∃ j : Nat, ∃ lx : List UInt8, j ≤ nb ∧ i = .int .i64 j ∧ lx.length = nb ∧ OwnW wr w3.heap.size (.slice (some ⟨ga, oa, none⟩) nb cm) (lx.map bv) ∧ KeepA (fun x => x = ga) wc wr) (fun i _ => nb - (intOf i).toNat)
                case atStart => exact ⟨0, by_, by omega, rfl, HNB.out, HX5.out, KeepA.refl _ _⟩
                case round =>
                  obtain ⟨j, lx, hj, rfl, hlx, hxo, hkk⟩ := hrel
                  have HLX := Lib.hid hlx
                  have HXO := Lib.hid hxo
                  have HKK := Lib.hid hkk
                  clear hlx hxo hkk e1 c77 hcv1 hcv2 he
                  by_cases hlt2 : j < nb
                  · obtain ⟨g9, off9, cap', he, hbg, hgl, hcell, hfro, hset⟩ := HXO.out.open j (by rw [List.length_map, HLX.out]; exact hlt2)
                    have hg9 : ga = g9 ∧ oa = off9 := by
                      simp only [Value.slice.injEq, Option.some.injEq, Addr.mk.injEq, and_true] at he
                      exact he.1
                    obtain ⟨rfl, rfl⟩ := hg9
                    have hkx : j < lx.length := by rw [HLX.out]; exact hlt2
                    obtain ⟨hs1, hs2⟩ := hset (bv (UInt8.ofNat (lx[j].toNat + 1)))
                    rw [← List.map_set] at hs1
                    have HS1' := Lib.hid hs1
                    have HK1 := Lib.hid (HKK.out.trans ((keep_grown hs2).mono (Y := fun x => x = ga) fun x e => e))
                    have HLS : Hid ((lx.set j (UInt8.ofNat (lx[j].toNat + 1))).length = nb) := by show _ = _; rw [List.length_set]; exact HLX.out
                    have hcell' : wr.cell? ⟨ga, oa + j, none⟩ = some (.int .u8 (lx[j].toNat : Int)) := by rw [hcell]; simp [bv]
                    have hcap : cm = cap' := by simp only [Value.slice.injEq] at he; exact he.2.2
                    subst hcap
                    clear hcell hs1 hs2 hset he hgl
                    rw [bv_mod] at HS1' HK1
                    have e1' : ((lx[j].toNat + 1 : Nat) : Int) % 256 = ((lx[j].toNat : Int) + 1) % 256 := by omega
                    rw [e1'] at HS1' HK1
                    clear e1'
                    have hby := byte_lt lx[j]
                    generalize lx.set j (UInt8.ofNat (lx[j].toNat + 1)) = lx' at *
                    generalize lx[j].toNat = z at *
                    have hjI : (j : Int) < (nb : Int) := by omega
                    go_wp2
                    go_roundw
                    case rel => exact ⟨j + 1, lx', by omega, by go_num, HLS.out, HS1'.out, HK1.out⟩
                    case measure => simp [intOf]; omega
                  · obtain rfl : j = nb := by omega
                    have HM6 := Lib.hid (HM5.out.keep HKK.out (fun x hx => (HTS.out x hx).1) (fun x hx e => by have := HWL.out x hx; omega) (by have := HR3.out.bel.size; omega))
                    have HT6 := Lib.hid (row_keep HKK.out HT5.out (by show ¬ tb = ga; have := HTT.out; omega))
                    have e1 := HT6.out.cell 1
                    simp only [List.getElem?_toArray, List.getElem?_cons_zero, List.getElem?_cons_succ] at e1
                    have hcv := convS ba by_ j bc SB HNB.out.symm HSB.out wr (HBYW.out.mono HM6.out.bel)
                    obtain ⟨w7, hw7⟩ : ∃ y, wr.alloc (.cells #[.string SB] 9) = y := ⟨_, rfl⟩
                    have hb7 : Below wr.heap.size wr w7 := by rw [← hw7]; exact below_alloc _
                    have HRW7 : Hid (RowAt w7 wr.heap.size 9 #[strV by_]) := by show RowAt _ _ _ _; rw [← hw7]; unfold strV; rw [HSB.out]; exact RowAt.new _ _ _
                    have HM7 := Lib.hid (HM6.out.later hb7)
                    have hbsl : bs.length ≤ 1000000 := by have := HR3.out.hlen; omega
                    have hco := HCO.out
                    clear hb7
                    go_wp2_with (first
                      | (at_builtin; refine step_pushS rfl (.tmp 180) (.tmp 184) rfl W0.heap.size u14 bs rfl wr.heap.size by_ rfl HM7.out.want HRW7.out hbsl HM7.out.bel.size ?_; intro v8 w8 q1 q2 q3; have HR8 := Lib.hid (HM7.out.push q1 q2 q3 (k := k + 1) (by have := HR3.out.hrun; omega) (by rw [List.length_append]; have := HR3.out.hlen; simp; omega) HSM8.out); clear q1 q2 q3)
                      | (go_at_call 13; refine (hco _).mono ?_; rintro e w9 ⟨rfl, rfl⟩))
                    go_meet
                    exact ⟨lb, used + c, run, T4, bs ++ [by_], rfl, by go_num, rfl, HR8.out⟩
            ·
              as_aux_lemma =>
              simp only [if_neg hfit] at HAP
              go_wp2_with fail
              refine HAP.out.mono ?_
              rintro _ w4 ⟨T4, rfl, hM4, ho4, ht4, hts4⟩
              have HM4 := Lib.hid hM4
              have HO4 := Lib.hid ho4
              have HT4 := Lib.hid ht4
              have HTS := Lib.hid hts4
              have i2 := (RowAt.below HA0.out HM4.out.bel).cell 2
              simp only [List.getElem?_toArray, List.getElem?_cons_zero, List.getElem?_cons_succ] at i2
              clear hM4 ho4 ht4 hts4 HAP
              go_upto_region 24 with fail
              go_cut [21] (fun fv wx => fv = .bool false ∧ Below w4.heap.size w4 wx)
              case first =>
                have hfI : ¬ (used : Int) + (c : Int) ≤ (n : Int) - 2 := by omega
                have y1 : IntKind.i64.wrap ((used : Int) + (c : Int)) = (used : Int) + (c : Int) := IntWalk.i64_in _ (by omega)
                have y2 : IntKind.i64.wrap ((n : Int) - 2) = (n : Int) - 2 := IntWalk.i64_in _ (by omega)
                have hS0 : w4.cell? ⟨g, 2, none⟩ = some (.int .i64 (n : Int)) ∧ Below w4.heap.size w4 w4.drew := ⟨i2, drewN_below (Below.refl _ _) 1⟩
                go_region_held (fun w' => w'.cell? ⟨g, 2, none⟩ = some (.int .i64 (n : Int)) ∧ Below w4.heap.size w4 w') (first | exact hS0 | assumption) (first
                  | (go_at_call 13; refine (HCO.out _).mono ?_; rintro e w5 ⟨rfl, rfl⟩))
                go_wp2
                go_meet
                refine ⟨?_, by first | assumption | exact hS0.2⟩
                first | rfl | rw [decide_eq_false hfI] | (refine congrArg Value.bool ?_; simp only [decide_eq_true_eq, decide_eq_false_iff_not]; omega) | (refine congrArg Value.bool ?_; rw [y1, y2]; simp only [decide_eq_true_eq, decide_eq_false_iff_not]; omega)
              case rest =>
                obtain ⟨rfl, hb5⟩ := hcut
                have HM5 := Lib.hid (HM4.out.later hb5)
                have HO5 := Lib.hid (HO4.out.kept hb5 (Nat.le_refl _))
                have HT5 := Lib.hid (RowAt.below HT4.out hb5)
                clear hb5 i2
                have hrm : RdB wc (some ⟨ga, oa, none⟩) (by_ ++ [77]) := by obtain ⟨a9, c9, e9, -, r9⟩ := HO5.out.rd; simp only [Value.slice.injEq] at e9; rw [e9.1]; exact r9
                have hrm0 : RdB wc (some ⟨ga, oa, none⟩) by_ := by have h := hrm.take nb; rwa [take_app _ _ _ HNB.out] at h
                have c77 : wc.cell? ⟨ga, oa + nb, none⟩ = some (.int .u8 77) := by
                  obtain ⟨b9, o9, e9, -, hc9⟩ := RdB.at hrm (by simp)
                  simp only [Option.some.injEq, Addr.mk.injEq, and_true] at e9
                  have h := hc9 nb (by rw [List.length_append, HNB.out]; simp)
                  rw [← e9.1, ← e9.2] at h
                  rw [h, List.getElem_append_right (by rw [HNB.out]; exact Nat.le_refl _)]
                  simp
                have e1 := HT5.out.cell 1
                simp only [List.getElem?_toArray, List.getElem?_cons_zero, List.getElem?_cons_succ] at e1
                have hcv1 := convS (some ⟨ga, oa, none⟩) by_ nb cm SB HNB.out.symm HSB.out wc hrm0
                have hcv2 := convS ba by_ nb bc SB HNB.out.symm HSB.out wc (HBYW.out.mono HM5.out.bel)
                have he : (SB.toList == SB.toList) = true := by simp
                have hn0 : (0 : Int) ≤ (nb : Int) + 1 := by omega
                have hn1 : (nb : Int) + 1 ≤ (cm : Int) := by omega
                have hn2 : (nb : Int) < (nb : Int) + 1 := by omega
                have HX5 : Hid (OwnW wc w3.heap.size (.slice (some ⟨ga, oa, none⟩) nb cm) (by_.map bv)) := by
                  have h := (OwnW.of_own HO5.out).take nb cm (by omega) (by omega)
                  rw [List.map_append, take_app _ _ _ (by rw [List.length_map]; exact HNB.out)] at h
                  exact h
                clear hrm hrm0
                go_wp2_with fail
                go_loopw [22] (fun i wr => ∃ j : Nat, ∃ lx : List UInt8, j ≤ nb ∧ i = .int .i64 j ∧ lx.length = nb ∧ OwnW wr w3.heap.size (.slice (some ⟨ga, oa, none⟩) nb cm) (lx.map bv) ∧ KeepA (fun x => x = ga) wc wr) (fun i _ => nb - (intOf i).toNat)
                case atStart => exact ⟨0, by_, by omega, rfl, HNB.out, HX5.out, KeepA.refl _ _⟩
                case round =>
                  obtain ⟨j, lx, hj, rfl, hlx, hxo, hkk⟩ := hrel
                  have HLX := Lib.hid hlx
                  have HXO := Lib.hid hxo
                  have HKK := Lib.hid hkk
                  clear hlx hxo hkk e1 c77 hcv1 hcv2 he
                  by_cases hlt2 : j < nb
                  · obtain ⟨g9, off9, cap', he, hbg, hgl, hcell, hfro, hset⟩ := HXO.out.open j (by rw [List.length_map, HLX.out]; exact hlt2)
                    have hg9 : ga = g9 ∧ oa = off9 := by
                      simp only [Value.slice.injEq, Option.some.injEq, Addr.mk.injEq, and_true] at he
                      exact he.1
                    obtain ⟨rfl, rfl⟩ := hg9
                    have hkx : j < lx.length := by rw [HLX.out]; exact hlt2
                    obtain ⟨hs1, hs2⟩ := hset (bv (UInt8.ofNat (lx[j].toNat + 1)))
                    rw [← List.map_set] at hs1
                    have HS1' := Lib.hid hs1
                    have HK1 := Lib.hid (HKK.out.trans ((keep_grown hs2).mono (Y := fun x => x = ga) fun x e => e))
                    have HLS : Hid ((lx.set j (UInt8.ofNat (lx[j].toNat + 1))).length = nb) := by show _ = _; rw [List.length_set]; exact HLX.out
                    have hcell' : wr.cell? ⟨ga, oa + j, none⟩ = some (.int .u8 (lx[j].toNat : Int)) := by rw [hcell]; simp [bv]
                    have hcap : cm = cap' := by simp only [Value.slice.injEq] at he; exact he.2.2
                    subst hcap
                    clear hcell hs1 hs2 hset he hgl
                    rw [bv_mod] at HS1' HK1
                    have e1' : ((lx[j].toNat + 1 : Nat) : Int) % 256 = ((lx[j].toNat : Int) + 1) % 256 := by omega
                    rw [e1'] at HS1' HK1
                    clear e1'
                    have hby := byte_lt lx[j]
                    generalize lx.set j (UInt8.ofNat (lx[j].toNat + 1)) = lx' at *
                    generalize lx[j].toNat = z at *
                    have hjI : (j : Int) < (nb : Int) := by omega
                    go_wp2
                    go_roundw
                    case rel => exact ⟨j + 1, lx', by omega, by go_num, HLS.out, HS1'.out, HK1.out⟩
                    case measure => simp [intOf]; omega
                  · obtain rfl : j = nb := by omega
                    have HM6 := Lib.hid (HM5.out.keep HKK.out (fun x hx => (HTS.out x hx).1) (fun x hx e => by have := HWL.out x hx; omega) (by have := HR3.out.bel.size; omega))
                    have HT6 := Lib.hid (row_keep HKK.out HT5.out (by show ¬ tb = ga; have := HTT.out; omega))
                    have e1 := HT6.out.cell 1
                    simp only [List.getElem?_toArray, List.getElem?_cons_zero, List.getElem?_cons_succ] at e1
                    go_wp2_with fail
                    go_meet
                    exact ⟨lb, used, run, T4, bs, rfl, rfl, rfl, ⟨HM6.out.log, HM6.out.want, HM6.out.sep, HM6.out.bel, by have := HR3.out.hrun; omega, by have := HR3.out.hlen; omega, HR3.out.hsm⟩⟩
        have hrun3 := HR3.out.hrun
        obtain ⟨S3, hd3, hS3⟩ := HR3.out.log.disk
        have HD3 := Lib.hid hd3
        have HS3 := Lib.hid hS3
        have HSL3 : Hid (∀ x, S3 x → W0.heap.size ≤ x ∧ x < w3.heap.size) := fun x hx => HR3.out.log.lt x (hS3 x hx)
        have HWS3 : Hid (∀ x, u14.ownBlock = some x → ¬ S3 x) := fun x hx hs => HR3.out.sep x hx (hS3 x hs)
        clear hd3 hS3
        have i1 := (RowAt.below HA0.out HR3.out.bel).cell 1
        have i2 := (RowAt.below HA0.out HR3.out.bel).cell 2
        simp only [List.getElem?_toArray, List.getElem?_cons_zero, List.getElem?_cons_succ] at i1 i2
        by_cases hk2 : kd = 2
        · as_aux_lemma =>
          subst hk2
          have HRS := Lib.hid (pl_reset W0.heap.size w3 T lb d size fr n 0 run used bs HR3.out.log HR3.out.bel.size HASK.out (by omega))
          go_wp2_with fail
          refine HRS.out.mono ?_
          rintro _ w4 ⟨hcase, hk4⟩
          obtain ⟨rfl, T4, hl4, hT4⟩ := hcase.resolve_right (fun h => h.1 rfl)
          have HR4 : Hid (PlR W0 w4 d size fr n lb 0 (run + 1) (k + 1) T4 (.slice none 0 0) []) := ⟨hl4, OwnS.nil _ _, fun x hx => by simp [Value.ownBlock] at hx, below_keepT HR3.out.bel hk4 (fun x hx => (HR3.out.log.lt x hx).1), by omega, Nat.zero_le _, fun b hb => by cases hb⟩
          clear hcase hl4 hT4 hk4 HRS
          go_wp2_with fail
          go_meet
          exact ⟨lb, 0, run + 1, T4, [], rfl, rfl, by go_num, HR4.out⟩
        by_cases hk3 : kd = 3
        · as_aux_lemma =>
          subst hk3
          have HOP := Lib.hid (pl_open W0.heap.size w3 S3 d size fr n run used bs HD3.out HR3.out.bel.size HASK.out (by omega))
          go_wp2_with fail
          refine HOP.out.mono ?_
          rintro _ w4 ⟨⟨lb4, rfl, T4, hl4, hT4⟩, hk4⟩
          have HR4 : Hid (PlR W0 w4 d size fr n lb4 used (run + 1) (k + 1) T4 u14 bs) := ⟨hl4, HR3.out.want.keep hk4 HWS3.out, fun x hx ht => (hT4 x ht).elim (HWS3.out x hx) (fun e => by have := (HR3.out.want.lt hx).2; omega), below_keepT HR3.out.bel hk4 (fun x hx => (HSL3.out x hx).1), by omega, by have := HR3.out.hlen; omega, HR3.out.hsm⟩
          clear hl4 hT4 hk4 HOP
          go_wp2_with fail
          go_meet
          exact ⟨lb4, used, run + 1, T4, bs, rfl, rfl, by go_num, HR4.out⟩
        by_cases hk6 : kd = 6
        · as_aux_lemma =>
          subst hk6
          have HFM : Hid (Calls Try.prog 9 #[.pointer (some ⟨d, 0, none⟩), .int .i64 fr, .int .i64 (n : Int)] w3 fun e w' => e = .returned (.int .i64 0) ∧ (∃ S', PDisk W0.heap.size w' S' d size fr n 0 1 0 [] ∧ ∀ x, S' x → S3 x ∨ w3.heap.size ≤ x) ∧ KeepA S3 w3 w') := by
            obtain ⟨base, L, h1, h2, h3⟩ := HD3.out
            exact pl_format W0.heap.size w3 S3 d size L fr n h1 HSL3.out HR3.out.bel.size HASK.out
          go_wp2_with fail
          refine HFM.out.mono ?_
          rintro _ w4 ⟨rfl, ⟨S4, hd4, hS4⟩, hk4⟩
          have hb4 : Below W0.heap.size W0 w4 := below_keepT HR3.out.bel hk4 (fun x hx => (HSL3.out x hx).1)
          have HB4 := Lib.hid hb4
          have HOP := Lib.hid (pl_open W0.heap.size w4 S4 d size fr n 1 0 [] hd4 hb4.size HASK.out (by decide))
          have HS4 : Hid (∀ x, S4 x → W0.heap.size ≤ x) := by obtain ⟨_, _, _, _, h⟩ := hd4; exact fun x hx => (h x hx).1
          have j1 := (RowAt.below HA0.out hb4).cell 1
          have j2 := (RowAt.below HA0.out hb4).cell 2
          simp only [List.getElem?_toArray, List.getElem?_cons_zero, List.getElem?_cons_succ] at j1 j2
          clear hd4 hS4 hk4 hb4 HFM
          go_wp2_with fail
          refine HOP.out.mono ?_
          rintro _ w5 ⟨⟨lb4, rfl, T4, hl4, hT4⟩, hk5⟩
          have HR4 : Hid (PlR W0 w5 d size fr n lb4 0 2 (k + 1) T4 (.slice none 0 0) []) := ⟨hl4, OwnS.nil _ _, fun x hx => by simp [Value.ownBlock] at hx, below_keepT HB4.out hk5 HS4.out, by omega, Nat.zero_le _, fun b hb => by cases hb⟩
          clear hl4 hT4 hk5 HOP
          go_wp2_with fail
          go_meet
          exact ⟨lb4, 0, 2, T4, [], rfl, rfl, rfl, HR4.out⟩
        by_cases hk4 : kd = 4
        · as_aux_lemma =>
          subst hk4
          obtain ⟨base3, L3, hdk, hli, hbd⟩ := HD3.out
          have HDK := Lib.hid hdk
          have HCP := Lib.hid (copy_any w3 0 d ⟨size, L3, []⟩ 0 hdk.isDk (Nat.zero_le _) (Nat.zero_le _))
          obtain ⟨wa, wcap, rfl, hwc, hwr⟩ := HR3.out.want.rd
          obtain ⟨m2, hm2⟩ : ∃ x, bs.length = x := ⟨_, rfl⟩
          rw [hm2] at HR3 HWS3
          try rw [hm2]
          have HM2 := Lib.hid hm2
          have hlen3 := HR3.out.hlen
          rw [hm2] at hlen3
          clear hdk hli hbd hm2 hwr hwc
          go_wp2_with fail
          refine HCP.out.mono ?_
          rintro _ w4 ⟨⟨d2, rfl, hd2⟩, hb4⟩
          have HR4 := Lib.hid (HR3.out.later hb4)
          have HD4 := Lib.hid hd2
          have HDK4 := Lib.hid (HDK.out.later hb4)
          have HLK := Lib.hid (pl_look W0.heap.size w4 S3 d size fr n 0 run used bs (HD3.out.later hb4) HASK.out)
          have j1 := (RowAt.below HA0.out HR4.out.bel).cell 1
          have j2 := (RowAt.below HA0.out HR4.out.bel).cell 2
          simp only [List.getElem?_toArray, List.getElem?_cons_zero, List.getElem?_cons_succ] at j1 j2
          clear hd2 hb4 HCP
          go_wp2_with fail
          refine HLK.out.mono ?_
          rintro _ w5 ⟨⟨v, rfl, hv⟩, hb5⟩
          have HR5 := Lib.hid (HR4.out.later hb5)
          have HD5 := Lib.hid (HD4.out.later hb5)
          have HDK5 := Lib.hid (HDK4.out.later hb5)
          have HSM5 := Lib.hid (wsame_any w5 _ v bs hv (by rw [HM2.out]; omega) wa bs m2 wcap HM2.out.symm (by omega) (by obtain ⟨wa2, wc2, e2, _, r2⟩ := HR5.out.want.rd; simp only [Value.slice.injEq] at e2; rw [e2.1]; exact r2))
          have hdt : decide (bs = bs) = true := decide_eq_true rfl
          rw [hdt] at HSM5
          clear hv hb5 HLK hdt
          go_wp2_with fail
          refine HSM5.out.mono ?_
          rintro _ w6 ⟨rfl, hb6⟩
          have HR6 := Lib.hid (HR5.out.later hb6)
          have HSA := Lib.hid (same_any w6 0 _ d d2 0 0 size L3 (HDK5.out.later hb6).isDk (HD5.out.later hb6))
          clear hb6 HSM5
          go_wp2_with fail
          refine HSA.out.mono ?_
          rintro _ w7 ⟨rfl, hb7⟩
          have HR7 := Lib.hid (HR6.out.later hb7)
          clear hb7 HSA
          go_wp2_with fail
          go_meet
          exact ⟨lb, used, run, T, bs, rfl, rfl, rfl, HR7.out.next⟩
        as_aux_lemma =>
        go_wp2_with fail
        go_meet
        exact ⟨lb, used, run, T, bs, rfl, rfl, rfl, HR3.out.next⟩
      case rest =>
        as_aux_lemma =>
        obtain ⟨lb2, used2, run2, T2, bs2, rfl, rfl, rfl, hR⟩ := hcut
        have HRC := Lib.hid hR
        obtain ⟨wa, wcap, rfl, hwc, hwr⟩ := hR.want.rd
        have hul := hR.log.used_le
        have hrun2 := hR.hrun
        have hlen2 := hR.hlen
        have HST := Lib.hid (pl_state W0.heap.size wc T2 lb2 d size fr n 0 run2 used2 bs2 hR.log (by omega))
        obtain ⟨m2, hm2⟩ : ∃ x, bs2.length = x := ⟨_, rfl⟩
        rw [hm2] at HRC HST hlen2
        try rw [hm2]
        have HM2 := Lib.hid hm2
        unfold roomOf at HST
        clear hR hwr hwc hm2 e0 e1
        go_wp2_with fail
        refine HST.out.mono ?_
        rintro _ w6 ⟨rfl, hb6⟩
        have HR6 := Lib.hid (HRC.out.later hb6)
        have i2 := (RowAt.below HA0.out HR6.out.bel).cell 2
        simp only [List.getElem?_toArray, List.getElem?_cons_zero, List.getElem?_cons_succ] at i2
        have HTL := Lib.hid (pl_tells W0.heap.size w6 T2 lb2 d size fr n 0 run2 used2 bs2 HR6.out.log (by omega) (by rw [HM2.out]; omega) (fun b hb => Nat.le_trans (HR6.out.hsm b hb) (by omega)) wa m2 wcap HM2.out.symm (by obtain ⟨wa2, wc2, e2, _, r2⟩ := HR6.out.want.rd; simp only [Value.slice.injEq] at e2; rw [e2.1]; exact r2))
        clear hb6 HRC HST
        go_wp2_with fail
        all_goals
          refine HTL.out.mono ?_
          rintro _ w7 ⟨rfl, hb7⟩
          have HR7 := Lib.hid (HR6.out.later hb7)
          clear hb7 i2
          go_wp2_with fail
          exact ⟨⟨k + 1, lb2, used2, run2, T2, bs2, by omega, rfl, rfl, rfl, by go_num, HR7.out⟩, by simp [intOf]; omega⟩
    · obtain rfl : k = ns := by omega
      go_wp2_with fail
      refine (known_any _).mono ?_
      rintro _ w3 ⟨rfl, hb3⟩
      have HB3 := Lib.hid (HR.out.bel.trans (hb3.mono HR.out.bel.size))
      clear hb3
      go_wp2
      exact HKN.out _ HB3.out
end Go.Proofs.Ytmbpacpkabbcgaa
