/- The document's Some and Fields (lexiconref17): which fields some bytes are, and where. -/
import Derived.Test.YtomfdiomakjeoaaWireSome
import Derived.Test.YtomfdiomakjeoaaWireIter
namespace Go.Proofs.Ytomfdiomakjeoaa
open Go.RowKit

/-- A number as a value. -/
def iv (x : Nat) : Value := .int .i64 (x : Int)
/-- A row of numbers of the call's own. -/
def OwnI (w : World) (base : Nat) (v : Value) (l : List Nat) : Prop := w.ownsRow base 3 1 v l.length (l.map iv)
theorem OwnI.nil (w : World) (base : Nat) : OwnI w base (.slice none 0 0) [] := World.ownsRow_nil w base 3 1
def RdI (w : World) (a : Option Addr) (l : List Nat) : Prop := Rd w a (l.map iv)
theorem OwnI.rd {w : World} {base : Nat} {v : Value} {l : List Nat} (h : OwnI w base v l) : ∃ a cap, v = .slice a l.length cap ∧ l.length ≤ cap ∧ RdI w a l := Rd.of_own h
theorem own_kept {w w' : World} {B base : Nat} {e : TypeId} {size : Nat} {v : Value} {n : Nat} {xs : List Value} (h : w.ownsRow base e size v n xs) (hb : Below B w w') (hB : w.heap.size ≤ B) : w'.ownsRow base e size v n xs := by
  refine ⟨h.1, ?_⟩
  rcases h.2 with h | ⟨g, cap, cur, hv, hg, hh, r⟩
  · exact .inl h
  · exact .inr ⟨g, cap, cur, hv, hg, by rw [hb.block g (Nat.lt_of_lt_of_le (Array.getElem?_eq_some_iff.1 hh).1 hB)]; exact hh, r⟩
theorem own_grown {w w' : World} {base : Nat} {e : TypeId} {size : Nat} {v : Value} {n : Nat} {xs : List Value} {row : Option Nat} (h : w.ownsRow base e size v n xs) (hg : w.grownBy w' row) (hr : ∀ g, row = some g → v.ownBlock ≠ some g) : w'.ownsRow base e size v n xs := by
  refine ⟨h.1, ?_⟩
  rcases h.2 with h | ⟨g, cap, cur, rfl, hbg, hh, r⟩
  · exact .inl h
  · exact .inr ⟨g, cap, cur, rfl, hbg, (hg.block g (Array.getElem?_eq_some_iff.1 hh).1 (fun e => hr g e.symm rfl)).trans hh, r⟩
theorem own_sep {w : World} {base : Nat} {e : TypeId} {size : Nat} {v : Value} {n : Nat} {xs : List Value} (h : w.ownsRow base e size v n xs) {b : Nat} (hb : w.heap.size ≤ b) : v.ownBlock ≠ some b := by
  intro e
  have := (World.ownsRow.lt h b e).2
  omega
/-- Two rows lie apart. -/
def Apart (v v2 : Value) : Prop := ∀ g, v.ownBlock = some g → v2.ownBlock ≠ some g
theorem Apart.symm {v v2 : Value} (h : Apart v v2) : Apart v2 v := fun g h2 h1 => h g h1 h2
/-- What grew out of one lies apart from the other. -/
theorem Apart.grow {w : World} {v v' v2 : Value} {base : Nat} {e : TypeId} {size n : Nat} {xs : List Value} (h : Apart v v2) (hn : NewRow w v v') (h2 : w.ownsRow base e size v2 n xs) : Apart v' v2 := by
  intro g hg
  rcases hn g hg with h1 | h1
  · exact h g h1
  · exact own_sep h2 h1
theorem eltI : Elt Try.prog 54 3 1 8 (.int .i64 0) := ⟨Try.underlying54, by kernel_rfl, rfl, by decide⟩
theorem somes_take {l : List UInt8} {k p : Nat} {f : Fd} (h : (somes l)[k]? = some (p, f)) : (somes l).take (k + 1) = (somes l).take k ++ [(p, f)] := by
  obtain ⟨hk, he⟩ := List.getElem?_eq_some_iff.1 h
  rw [List.take_succ_eq_append_getElem hk, he]
set_option maxRecDepth 100000 in
set_option maxHeartbeats 4000000 in
theorem refsome_any (a : Option Addr) (l : List UInt8) (n cap : Nat) (w : World) (hn : Hid (n = l.length)) (hc : n ≤ cap) (hb : n ≤ 1000000000) (hl : RdB w a l) :
    Calls Try.prog 29 #[.slice a n cap] w fun e w' => ∃ v v2, e = .returned (.tuple #[v, v2, .bool (someOk (l.length + 1) l)]) ∧
      OwnF w' w.heap.size v ((somes l).map (·.2)) ∧ OwnI w' w.heap.size v2 ((somes l).map (·.1)) ∧ Below w.heap.size w w' := by
  have HL := Lib.hid hl
  clear hl
  obtain ⟨ok, hok⟩ : ∃ ok, someOk (l.length + 1) l = ok := ⟨_, rfl⟩
  rw [hok]
  have HOK := Lib.hid hok
  clear hok
  go_enter Try.func29, Try.ntmps29
  go_wp2
  go_loopw [5, 6, 7] (fun v v2 p wr => Below w.heap.size w wr ∧ ∃ k q : Nat, At l k q ∧ p = .int .i64 q ∧ q ≤ n ∧ OwnF wr w.heap.size v (((somes l).take k).map (·.2)) ∧ OwnI wr w.heap.size v2 (((somes l).take k).map (·.1)) ∧ Apart v v2) (fun _ _ p _ => n - (intOf p).toNat)
  case atStart => exact ⟨Below.refl _ _, 0, 0, At.zero l, rfl, Nat.zero_le _, OwnF.nil _ _, OwnI.nil _ _, fun g h => by simp [Value.ownBlock] at h⟩
  case round =>
    obtain ⟨hbw, k, q, hat, rfl, hq, ho, ho2, hap⟩ := hrel
    have HB := Lib.hid hbw
    have HAT := Lib.hid hat
    have HO := Lib.hid ho
    have HO2 := Lib.hid ho2
    have HAP := Lib.hid hap
    have hkl : k ≤ n := by have := hat.2.1; have := rdSome_len (l.length + 1) 0 l; unfold somes at *; rw [hn.out]; omega
    clear hbw hat ho ho2 hap
    by_cases hlt : q < n
    · go_wp2_with fail
      refine (refone_any a l n cap q _ hn (by omega) hc hq (HL.out.mono HB.out)).mono ?_
      rintro e w1 ⟨⟨cs, nx, r, rfl, hcs, hall, hres⟩, hb1⟩
      have HB1 := Lib.hid (HB.out.trans (hb1.mono HB.out.size))
      have HO1 := Lib.hid (HO.out.kept hb1 (Nat.le_refl _))
      have HO21 : Hid (OwnI w1 w.heap.size u6 (((somes l).take k).map (·.1))) := own_kept HO2.out hb1 (Nat.le_refl _)
      have HRES := Lib.hid hres
      clear hb1 HB HO HO2 hres
      have HSZ := HB1.out.size
      rcases HRES.out with ⟨hnone, rfl⟩ | ⟨f, j, hsome, hcf, rfl, rfl⟩
      · obtain ⟨he, hno⟩ : k = (somes l).length ∧ ok = false := by
          rcases HAT.out.step (by rw [← hn.out]; exact hlt) with ⟨_, h, h2⟩ | ⟨f, j, h, _⟩
          · exact ⟨h, by rw [← HOK.out, h2]⟩
          · rw [hnone] at h; cases h
        have HE := Lib.hid he
        have HNO := Lib.hid hno
        clear he hno hnone HRES HAT
        go_wp2_with (refine step_storeRow rfl 40 (.tmp 8) (.tmp 19) rfl rfl w1.heap.size cs rfl rfl 40 zeroFd (by exact RowAt.new w1 _ _) (by rw [hcs]; exact aggFd.2) hcs.symm hall ?_; intro w2 h1 h2; have HB2 := Lib.hid ((below_alloc _).grown h2 (by simp) (fun g hg => by obtain rfl := Option.some.inj hg; exact Nat.le_refl _)); clear h1 h2)
        go_ret3
        rw [HNO.out]
        have ht : (somes l).take k = somes l := by rw [HE.out, List.take_length]
        rw [ht] at HO1 HO21
        exact ⟨_, _, rfl, HO1.out.kept HB2.out (Nat.le_refl _), own_kept HO21.out HB2.out (Nat.le_refl _), HB1.out.trans (HB2.out.mono HSZ)⟩
      · obtain ⟨hj0, hqj, hks, hget, hat2⟩ : 0 < j ∧ q + j ≤ n ∧ k < (somes l).length ∧ (somes l)[k]? = some (q, f) ∧ At l (k + 1) (q + j) := by
          rcases HAT.out.step (by rw [← hn.out]; exact hlt) with ⟨h, _, _⟩ | ⟨f', j', h, h1, h2, h3, h4, h5⟩
          · rw [hsome] at h; cases h
          · rw [hsome] at h
            obtain ⟨rfl, rfl⟩ := Prod.mk.injEq _ _ _ _ ▸ Option.some.inj h
            exact ⟨h1, by rw [hn.out]; exact h2, h3, h4, h5⟩
        have HAT2 := Lib.hid hat2
        have htk := somes_take hget
        have hlk : ((somes l).take k).length = k := by rw [List.length_take]; omega
        obtain ⟨fs, hfs⟩ : ∃ fs : List Fd, ((somes l).take k).map (·.2) = fs := ⟨_, rfl⟩
        obtain ⟨ps, hps⟩ : ∃ ps : List Nat, ((somes l).take k).map (·.1) = ps := ⟨_, rfl⟩
        have hlf : fs.length = k := by rw [← hfs, List.length_map, hlk]
        have hlp : ps.length = k := by rw [← hps, List.length_map, hlk]
        rw [hfs] at HO1
        rw [hps] at HO21
        have HFS := Lib.hid hfs
        have HPS := Lib.hid hps
        have HLF := Lib.hid hlf
        have HLP := Lib.hid hlp
        obtain ⟨s, hs⟩ : ∃ s, str f.bytes = s := ⟨_, rfl⟩
        have hcs2 : cs = #[.int .i64 f.num, .int .i64 f.typ, .int .u64 (f.word : Int), .string s] := by rw [hcf, ← hs]; rfl
        have HS := Lib.hid hs
        have HTK := Lib.hid htk
        have HLK := Lib.hid hlk
        subst hcs2
        clear hfs hps hlf hlp hat2 hsome hget HRES HAT hcf hs htk hlk hks
        go_wp2_with (first
          | (refine step_storeRow rfl 40 (.tmp 8) (.tmp 19) rfl rfl w1.heap.size _ rfl rfl 40 zeroFd (by exact RowAt.new w1 _ _) aggFd.2 rfl hall ?_; intro w2 h1 h2; have H2 := h1; have HB2 := Lib.hid ((below_alloc _).grown h2 (by simp) (fun g hg => by obtain rfl := Option.some.inj hg; exact Nat.le_refl _)); have HO22 := Lib.hid (HO1.out.kept HB2.out (Nat.le_refl _)); have HO23 : Hid (OwnI w2 w.heap.size u6 ps) := own_kept HO21.out HB2.out (Nat.le_refl _); have HB3 := Lib.hid (HB1.out.trans (HB2.out.mono HSZ)); clear h1 h2)
          | (refine step_loadRow rfl 40 (.tmp 8) rfl w1.heap.size rfl H2 aggFd ?_)
          | (at_builtin; refine step_append rfl (.tmp 26) (.tmp 28) rfl eltF w.heap.size u5 fs.length (fdsC fs) rfl _ 1 _ [.int .i64 f.num, .int .i64 f.typ, .int .u64 (f.word : Int), .string s] rfl (HO22.out.kept (below_alloc _) (Nat.le_refl _)) rfl (rd_lit _ _ _ _ _ rfl) (by simp [Value.oneCell']) (by have := HLF.out; have := HLP.out; omega) (by have := HLF.out; have := HLP.out; omega) (by have := HB3.out.size; simp; omega) ?_; intro v3 w3 h1 h2 h3; have HAP3 := Lib.hid (HAP.out.grow h3 (own_kept HO23.out (below_alloc _) (Nat.le_refl _))); have HO32 : Hid (OwnI w3 w.heap.size u6 ps) := own_grown (own_kept HO23.out (below_alloc _) (Nat.le_refl _)) h2 (fun g hg => HAP.out g hg); have HB4 := Lib.hid ((HB3.out.alloc HB3.out.size _).grown h2 (by have := HB3.out.size; simp; omega) (fun g hg => (World.ownsRow.lt HO22.out g hg).1)); have HO3 := Lib.hid h1; clear h1 h2 h3)
          | (at_builtin; refine step_append rfl (.tmp 30) (.tmp 32) rfl eltI w.heap.size u6 ps.length (ps.map iv) rfl _ 1 _ [iv q] rfl (own_kept HO32.out (below_alloc _) (Nat.le_refl _)) rfl (rd_lit _ _ _ _ _ rfl) (by simp [iv, Value.oneCell']) (by have := HLF.out; have := HLP.out; omega) (by have := HLF.out; have := HLP.out; omega) (by have := HB4.out.size; simp; omega) ?_; intro v4 w4 h1 h2 h3; have HAP4 := Lib.hid (HAP3.out.symm.grow h3 (own_kept HO3.out (below_alloc _) (Nat.le_refl _))).symm; have HO4 := Lib.hid (own_grown (own_kept HO3.out (below_alloc _) (Nat.le_refl _)) h2 (fun g hg => HAP3.out.symm g hg)); have HB5 := Lib.hid ((HB4.out.alloc HB4.out.size _).grown h2 (by have := HB4.out.size; simp; omega) (fun g hg => (World.ownsRow.lt HO32.out g hg).1)); have HO42 := Lib.hid h1; clear h1 h2 h3))
        refine ⟨⟨HB5.out, k + 1, q + j, HAT2.out, by go_num, hqj, ?_, ?_, HAP4.out⟩, by simp [intOf]; omega⟩
        · have h := HO4.out
          rw [← HS.out] at h
          rw [HTK.out, List.map_append, HFS.out]
          unfold OwnF fdsC
          rw [List.flatMap_append, List.length_append]
          exact h
        · have h := HO42.out
          rw [HTK.out, List.map_append, HPS.out]
          unfold OwnI
          rw [List.map_append, List.length_append]
          exact h
    · obtain rfl : q = n := by omega
      obtain ⟨he, hyes⟩ : k = (somes l).length ∧ ok = true := by
        have h := HAT.out
        rw [hn.out] at h
        exact ⟨h.end.1, by rw [← HOK.out, h.end.2]⟩
      have HE := Lib.hid he
      have HYES := Lib.hid hyes
      clear he hyes HAT
      go_wp2
      go_ret3
      rw [HYES.out]
      have ht : (somes l).take k = somes l := by rw [HE.out, List.take_length]
      rw [ht] at HO HO2
      exact ⟨_, _, rfl, HO.out, HO2.out, HB.out⟩
theorem fieldsOf_somes {l : List UInt8} (h : l.length ≤ 1048576) : fieldsOf l = if someOk (l.length + 1) l then ((somes l).map (·.2), 0) else ([], 270) := by
  unfold fieldsOf
  rw [if_neg (by omega), rdAll_some _ 0]
  unfold somes
  cases someOk (l.length + 1) l <;> rfl
set_option maxRecDepth 100000 in
set_option maxHeartbeats 1000000 in
theorem reffields_any (a : Option Addr) (l : List UInt8) (n cap : Nat) (w : World) (hn : Hid (n = l.length)) (hc : n ≤ cap) (hb : n ≤ 1048576) (hl : RdB w a l) :
    Calls Try.prog 28 #[.slice a n cap] w fun e w' =>
      ∃ v, e = .returned (.tuple #[v, .int .i64 ((fieldsOf l).2 : Int)]) ∧ OwnF w' w.heap.size v (fieldsOf l).1 ∧ Below w.heap.size w w' := by
  have hs := refsome_any a l n cap w hn hc (by omega) hl
  rw [fieldsOf_somes (by rw [← hn.out]; exact hb)]
  clear hl
  obtain ⟨ok, hok⟩ : ∃ ok, someOk (l.length + 1) l = ok := ⟨_, rfl⟩
  rw [hok] at hs ⊢
  clear hok
  have HS := Lib.hid hs
  clear hs
  cases ok with
  | true =>
    go_enter Try.func28, Try.ntmps28
    go_wp2_with fail
    refine HS.out.mono ?_
    rintro e w1 ⟨v, v2, rfl, ho, ho2, hb1⟩
    have HO := Lib.hid ho
    have HB := Lib.hid hb1
    clear ho ho2 hb1
    go_wp2
    go_ret2
    exact ⟨_, rfl, HO.out, HB.out⟩
  | false =>
    go_enter Try.func28, Try.ntmps28
    go_wp2_with fail
    refine HS.out.mono ?_
    rintro e w1 ⟨v, v2, rfl, ho, ho2, hb1⟩
    have HB := Lib.hid hb1
    clear ho ho2 hb1
    go_wp2
    go_ret2
    exact ⟨_, rfl, OwnF.nil _ _, HB.out⟩
end Go.Proofs.Ytomfdiomakjeoaa
