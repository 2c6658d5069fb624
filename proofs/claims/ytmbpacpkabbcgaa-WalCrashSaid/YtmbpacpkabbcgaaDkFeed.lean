/- Fates behind fates, wherever their row begins; (*disk.Disk).Feed. -/
import Derived.Test.YtmbpacpkabbcgaaDkLo
import Derived.Laws.AppendOwn
namespace Go.Proofs.Ytmbpacpkabbcgaa
open Go.RowKit

set_option maxRecDepth 100000 in
theorem run_append_roomO {P : Program} (w : World) (t ty e : TypeId) (i : TypeInfo) (ht : P.underlying t = some (.slice e)) (hi : P.info? e = some i)
    (g off sLen sCap : Nat) (cur : Array Value) (hg : w.heap[g]? = some (.cells cur e (0, 0)))
    (a : Addr) (m c : Nat) (news : List Value) (hl : news.length = m * i.size) (hnews : ∀ j u, news[j]? = some u → w.cell? (a.add j) = some u) (h1 : ∀ u ∈ news, u.oneCell' = true)
    (hroom : sLen + m ≤ sCap) (hfit : off + sLen * i.size + news.length ≤ cur.size) :
    (Builtin.append_ #[t, t] ty #[.slice (some ⟨g, off, none⟩) sLen sCap, .slice (some a) m c]).run P w =
      .ok (.slice (some ⟨g, off, none⟩) (sLen + m) sCap) (w.setRow g (cur.toList.take (off + sLen * i.size) ++ news ++ cur.toList.drop (off + sLen * i.size + news.length)).toArray) := by
  have hf := run_firstCells_some (P := P) w i.size m a m c news hl hnews
  have hst := run_storeCells_at P g (off + sLen * i.size) e news 0 cur w hg (by simpa using hfit) h1
  simp only [Nat.add_zero] at hst
  simp [Builtin.append_, run_underlying ht, sizeOf, typeInfo, hi, Builtin.lenOf, hroom, hf, Addr.add_lit, hst]
theorem row_keepS {w w' : World} {X : Nat → Prop} (hk : KeepA X w w') {b : Nat} {t : TypeId} {cells : Array Value} (h : RowAt w b t cells) (hx : ¬ X b) : RowAt w' b t cells := (hk.same b h.lt hx).trans h
theorem ftC_one (l : List Ft) : ∀ u ∈ l.flatMap ftC, u.oneCell' = true := fun u hu => by
  obtain ⟨f, _, hf⟩ := List.mem_flatMap.1 hu
  simp only [ftC, List.mem_cons, List.not_mem_nil, or_false] at hf
  rcases hf with rfl | rfl <;> rfl
set_option maxRecDepth 100000 in
theorem run_ftappend (w : World) (base : Nat) (ty : TypeId) (v : Value) (fl xs : List Ft) (xa : Option Addr) (m c : Nat) (h : FtSl w base v fl) (hm : m = xs.length) (hx : RdFt w xa xs) (hsz : fl.length + m ≤ 1000000) (hbase : base ≤ w.heap.size) :
    ∃ v' w', (Builtin.append_ #[42, 42] ty #[v, .slice xa m c]).run Try.prog w = .ok v' w' ∧ FtSl w' base v' (fl ++ xs) ∧ w.grownBy w' (slB v) ∧ ∀ g, slB v' = some g → slB v = some g ∨ w.heap.size ≤ g := by
  obtain ⟨a, n, cap, rfl, hn, ⟨hnc, ha0⟩, hr, hown⟩ := h
  obtain ⟨i, hi, hz, hs, hb⟩ := info_parts eltFt.info
  have hxl : (xs.flatMap ftC).length = m * 2 := by rw [flat_len ftC_len, hm]
  have hfl : (fl.flatMap ftC).length = n * 2 := by rw [flat_len ftC_len, hn]
  have happ : (fl ++ xs).flatMap ftC = fl.flatMap ftC ++ xs.flatMap ftC := List.flatMap_append
  cases a with
  | none =>
    have hcap := ha0 rfl
    subst hcap
    obtain rfl : n = 0 := by omega
    obtain rfl : fl = [] := List.eq_nil_of_length_eq_zero hn.symm
    obtain ⟨v', w', q1, q2, q3, q4⟩ := run_append_any eltFt w w.heap.size ty (.slice none 0 0) 0 [] (World.ownsRow_nil _ _ _ _) xa m c (xs.flatMap ftC) hxl (ft_rd hx) (ftC_one xs) (by omega) (by omega) (Nat.le_refl _)
    rw [List.nil_append] at q2
    have h5 := ft_of_own q2 (by rw [Nat.zero_add, hm])
    exact ⟨v', w', q1, by rw [List.nil_append]; exact h5.low hbase, q3, fun g hg => .inr (h5.blk hg).1⟩
  | some ad =>
    obtain ⟨g, off, sp⟩ := ad
    obtain ⟨hbg, hsp, cur, hg, hcs⟩ := hown _ rfl
    dsimp only at hbg hsp hg hcs
    subst hsp
    have hrd := ft_rd hr
    cases xa with
    | none =>
      have hx0 : xs = [] := by
        rcases hx with h | ⟨_, _, h, _⟩
        · exact h
        · cases h
      subst hx0
      obtain rfl : m = 0 := by simpa using hm
      refine ⟨_, w, ?_, by rw [List.append_nil]; exact ⟨_, n, cap, rfl, hn, ⟨hnc, ha0⟩, hr, fun ad had => by cases had; exact ⟨hbg, rfl, cur, hg, hcs⟩⟩, World.grownBy.refl _ _, fun g hg => .inl hg⟩
      simp [Builtin.append_, run_underlying eltFt.und, sizeOf, typeInfo, hi, Builtin.lenOf, Builtin.firstCells, hnc, storeCells]
    | some xad =>
      have hadd := rd_add (ft_rd hx)
      by_cases hroom : n + m ≤ cap
      · have hfit : off + n * i.size + (xs.flatMap ftC).length ≤ cur.size := by rw [hs, hxl]; omega
        have hrun := run_append_roomO (P := Try.prog) w 42 ty 68 i eltFt.und hi g off n cap cur hg xad m c (xs.flatMap ftC) (by rw [hs]; exact hxl) hadd (ftC_one xs) hroom hfit
        rw [hs] at hrun hfit
        have hrow : RowAt (w.setRow g (cur.toList.take (off + n * 2) ++ xs.flatMap ftC ++ cur.toList.drop (off + n * 2 + (xs.flatMap ftC).length)).toArray) g 68 _ := setRow_heap w g cur _ _ _ hg
        refine ⟨_, _, hrun, ⟨_, n + m, cap, rfl, by rw [List.length_append, hn, hm], ⟨hroom, fun h => by cases h⟩, rd_ft (.inr ⟨g, off, rfl, hrow.lt, fun k hk => ?_⟩), fun ad had => ?_⟩, grown_setRow w g _, fun g hg => .inl hg⟩
        · rw [hrow.cell]
          rw [List.getElem?_toArray]
          have hcl : off + n * 2 ≤ cur.toList.length := by rw [Array.length_toList]; omega
          have hk' : k < n * 2 + m * 2 := by have := hk; rw [happ, List.length_append, hfl, hxl] at this; exact this
          rw [← List.getElem?_eq_getElem hk, happ]
          by_cases hkn : k < n * 2
          · rw [List.append_assoc, List.getElem?_append_left (by rw [List.length_take]; omega), List.getElem?_take_of_lt (by omega), List.getElem?_append_left (by omega)]
            have hc := (hrd.resolve_left (by intro e; rw [e] at hfl; simp at hfl; omega))
            obtain ⟨b2, o2, he, _, hc⟩ := hc
            cases he
            have h7 := hc k (by omega)
            rw [cell_of_row w g _ cur _ (0, 0) hg] at h7
            rw [← List.getElem?_eq_getElem (by omega)] at h7
            simpa using h7
          · rw [List.append_assoc, List.getElem?_append_right (by rw [List.length_take]; omega), List.length_take, Nat.min_eq_left hcl, List.getElem?_append_left (by omega), List.getElem?_append_right (by omega), hfl]
            congr 1
            omega
        · cases had
          refine ⟨hbg, rfl, _, hrow, ?_⟩
          simp only [List.size_toArray, List.length_append, List.length_take, List.length_drop, Array.length_toList]
          omega
      · have holds : ∀ j u, (fl.flatMap ftC)[j]? = some u → w.cell? ((⟨g, off, none⟩ : Addr).add j) = some u := rd_add hrd
        have hrun := run_append_grow (P := Try.prog) w 42 ty 68 i _ eltFt.und hi hz ⟨g, off, none⟩ n cap (fl.flatMap ftC) (by rw [hs]; exact hfl) holds xad m c (xs.flatMap ftC) (by rw [hs]; exact hxl) hadd (by omega) (by omega) (growslice_fits (by omega) (by rw [hb]; omega))
        have hge := grownCap_ge w (n + m) cap 68
        have hcm := grownCap_le_maxLen w (n + m) cap 68 (by unfold maxLen; omega)
        have made : (w.drew.alloc (.cells ((fl.flatMap ftC).toArray ++ (xs.flatMap ftC).toArray ++ Builtin.zeroCells (Value.agg #[.int .i64 0, .int .i64 0]).cells (grownCap w (n + m) cap 68 - (n + m))) 68)).ownsRow w.heap.size 68 2
            (.slice (some ⟨w.heap.size, 0, none⟩) (n + m) (grownCap w (n + m) cap 68)) (n + m) ((fl ++ xs).flatMap ftC) := by
          refine ⟨by rw [happ, List.length_append, hfl, hxl, Nat.add_mul], .inr ⟨w.heap.size, _, _, rfl, Nat.le_refl _, heap_alloc_new w.drew _, hge, hcm, ?_, ?_⟩⟩
          · simp only [Array.size_append, List.size_toArray, size_zeroCells, eltFt.cells, hfl, hxl, ← Nat.add_mul]
            congr 1
            omega
          · simp only [Array.toList_append, List.append_assoc, happ]
            rw [← List.append_assoc, show (n + m) * 2 = (fl.flatMap ftC ++ xs.flatMap ftC).length by rw [List.length_append, hfl, hxl, Nat.add_mul]]
            exact List.take_left
        have h5 := ft_of_own made (by rw [List.length_append, hn, hm])
        exact ⟨_, _, hrun, h5.low hbase, ⟨rfl, rfl, rfl, by simp, fun k hk _ => Below.heap_alloc w.drew _ k hk⟩, fun g hg => .inr (h5.blk hg).1⟩
theorem step_ftappend {ops : Array Oper} {rest : List Oper} {o : Oper} {act : Act} {Q : Exit → Act → World → Prop} {w : World} (hgd : o.guard = none) (s x : Operand) (ho : o.op = .call { callee := .builtin .append, args := #[s, x], argTypes := #[42, 42] })
    (base : Nat) (v : Value) (fl xs : List Ft) (xa : Option Addr) (m c : Nat) (hv : act.eval s = v) (hx : act.eval x = .slice xa m c) (h : FtSl w base v fl) (hm : m = xs.length) (hxs : RdFt w xa xs) (hsz : fl.length + m ≤ 1000000) (hbase : base ≤ w.heap.size)
    (hK : ∀ v' w', FtSl w' base v' (fl ++ xs) → w.grownBy w' (slB v) → (∀ g, slB v' = some g → slB v = some g ∨ w.heap.size ≤ g) → wpList Try.prog ops Q rest (act.put o.dst v') w') : wpList Try.prog ops Q (o :: rest) act w :=
  wpList_plain hgd fun K hK' => by
    obtain ⟨v', w', hr, q1, q2, q3⟩ := run_ftappend w base o.type v fl xs xa m c h hm hxs hsz hbase
    unfold Oper.wp execOp
    simp only [ho, resolve, invoke, builtin, Sem.run_bind, Sem.run_pure, Result.andThen_ok, List.map_toArray, List.map_cons, List.map_nil, hv, hx, hr]
    exact hK' _ _ (hK _ _ q1 q2 q3)
theorem DkAt.later {w w' : World} (hb : Below w.heap.size w w') {base b : Nat} {D : DK} {m : Nat} {pv fv : Value} {fl : List Ft} {st : Int} (h : DkAt w base b D m pv fv fl st) : DkAt w' base b D m pv fv fl st := by
  obtain ⟨es, cl, hm, hmi⟩ := h.map
  exact ⟨RowAt.below h.hd hb, h.hb, h.hm, h.mb, ⟨es, cl, (hb.block m (Array.getElem?_eq_some_iff.1 hm).1).trans hm, hmi⟩, own_keep (KeepA.of_below (X := fun _ => False) hb) h.pcs fun _ _ h => h, h.pb, h.fts.later hb, h.fb, h.size, h.sec, h.psec⟩
theorem IsDk.later {w w' : World} (hb : Below w.heap.size w w') {base b : Nat} {D : DK} {F : Nat} (h : IsDk w base b D F) : IsDk w' base b D F := by
  obtain ⟨m, pv, fv, fl, st, h, hF⟩ := h
  exact ⟨m, pv, fv, fl, st, h.later hb, hF⟩
theorem DkAt.fed {w w1 : World} {base b : Nat} {D : DK} {m : Nat} {pv fv v' : Value} {fl fl' : List Ft} {st : Int} (h : DkAt w base b D m pv fv fl st) (hbase : base ≤ w.heap.size) (q1 : FtSl w1 base v' fl') (q2 : w.grownBy w1 (slB fv)) (q3 : ∀ g, slB v' = some g → slB fv = some g ∨ w.heap.size ≤ g) :
    w1.frozen? ⟨b, 3, none⟩ = false ∧ w1.cell? ⟨b, 3, none⟩ = some fv ∧ DkAt (w1.setCell ⟨b, 3, none⟩ v') base b D m pv v' fl' st ∧ KeepA (fun x => slB fv = some x ∨ x = b) w (w1.setCell ⟨b, 3, none⟩ v') := by
  have hk1 := keep_grownO q2
  have hd1 : DkHd w1 b D.size (.map (some m)) pv fv st := row_keepS hk1 h.hd fun e => (h.fb b e).1 rfl
  have hset : KeepA (fun x => x = b) w1 (w1.setCell ⟨b, 3, none⟩ v') := keep_grown (grown_setCell _ _ _)
  have hall : KeepA (fun x => slB fv = some x ∨ x = b) w (w1.setCell ⟨b, 3, none⟩ v') := (hk1.mono fun _ e => .inl e).trans (hset.mono fun _ e => .inr e)
  obtain ⟨es, cl, hm, hmi⟩ := h.map
  have hms : m < w.heap.size := (Array.getElem?_eq_some_iff.1 hm).1
  have hbs : b < w.heap.size := h.hd.lt
  have hb2 : ∀ g, slB v' = some g → slB fv = some g ∨ w.heap.size ≤ g := q3
  refine ⟨hd1.frozen 3, (DkHd.cells hd1).2.2.2.1, ⟨hd1.set 3 v', h.hb, h.hm, h.mb, ⟨es, cl, (hall.same m hms ?_).trans hm, hmi⟩, own_keep hall h.pcs ?_, h.pb, q1.keep hset ?_, fun g hg => ?_, h.size, h.sec, h.psec⟩, hall⟩
  · rintro (e | e)
    · exact (h.fb m e).2.1 rfl
    · exact h.mb e
  · rintro g hg (e | e)
    · exact (h.fb g e).2.2 hg
    · exact h.pb.1 (by rw [hg, e])
  · rintro g hg rfl
    rcases hb2 _ hg with e | e
    · exact (h.fb _ e).1 rfl
    · omega
  · rcases hb2 _ hg with e | e
    · exact h.fb g e
    · refine ⟨by omega, by omega, fun e2 => ?_⟩
      have := (h.pcs.lt _ e2).2
      omega
set_option maxRecDepth 100000 in
theorem feed_at (w : World) (base b : Nat) (D : DK) (F m : Nat) (pv fv : Value) (fl : List Ft) (st : Int) (h : DkAt w base b D m pv fv fl st) (hF : fl.length ≤ F) (hbase : base ≤ w.heap.size) (a : Option Addr) (l : List Ft) (n cap : Nat) (hn : n = l.length) (hl : RdFt w a l) (hsz : F + n ≤ 1000000) :
    Calls Try.prog 21 #[.pointer (some ⟨b, 0, none⟩), .slice a n cap] w fun e w' => (∃ er : Int, e = .returned (.int .i64 er)) ∧ (∃ fv' fl' st', DkAt w' base b D m pv fv' fl' st' ∧ fl'.length ≤ F + n ∧ ∀ g, slB fv' = some g → slB fv = some g ∨ w.heap.size ≤ g) ∧ KeepA (fun x => slB fv = some x ∨ x = b) w w' := by
  have HNO := Lib.hid (fun w hh => none_any w b D.size (.map (some m)) pv fv st hh h.size.1)
  have HR := Lib.hid (fun w hw => right_any a l n cap w (Lib.hid hn) (by omega) hw)
  have HD := Lib.hid h
  have HL := Lib.hid hl
  have HN := Lib.hid hn
  obtain ⟨r, hr⟩ : ∃ r, l.all Ft.ok = r := ⟨_, rfl⟩
  rw [hr] at HR
  clear h hl hn hr
  go_enter Try.func21, Try.ntmps21
  go_wp2_with fail
  refine (HNO.out _ HD.out.hd).mono ?_
  rintro _ w0 ⟨rfl, rfl⟩
  go_wp2_with fail
  refine (HR.out _ HL.out).mono ?_
  rintro _ w1 ⟨rfl, hb⟩
  have HB := Lib.hid hb
  have HD1 := Lib.hid (HD.out.later hb)
  have HL1 := Lib.hid (HL.out.later hb)
  have hs1 := hb.size
  clear hb
  cases r with
  | false =>
    go_wp2_with fail
    go_ret
    exact ⟨⟨_, rfl⟩, ⟨fv, fl, st, HD1.out, by omega, fun g hg => .inl hg⟩, KeepA.of_below HB.out⟩
  | true =>
    obtain ⟨_, _, _, c3, _⟩ := DkHd.cells HD1.out.hd
    go_wp2_with (at_builtin; refine step_ftappend rfl (.tmp 16) (.tmp 17) rfl base fv fl l a n cap rfl rfl HD1.out.fts HN.out HL1.out (by omega) (by omega) ?_; intro v' w2 q1 q2 q3; obtain ⟨f1, f2, f3, f4⟩ := HD1.out.fed (by omega) q1 q2 q3; have q9 := Lib.hid q1; clear q1; obtain ⟨a9, n9, c9, rfl, q8⟩ := q9.out; clear q8)
    go_ret
    exact ⟨⟨_, rfl⟩, ⟨_, fl ++ l, st, f3, by rw [List.length_append]; have := HN.out; omega, fun g hg => (q3 g hg).imp id fun h => Nat.le_trans hs1 h⟩, (KeepA.of_below HB.out).trans f4⟩
end Go.Proofs.Ytmbpacpkabbcgaa

