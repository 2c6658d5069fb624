/- How words are packed: slices.ContainsFunc over words, and wire.Pack. -/
import Derived.Test.YtomfdiomakjeoaaWireWorks
namespace Go.Proofs.Ytomfdiomakjeoaa
open Go.RowKit

def uv (x : Nat) : Value := .int .u64 (x : Int)
def RdU (w : World) (a : Option Addr) (l : List Nat) : Prop := Rd w a (l.map uv)
theorem RdU.mono {w w' : World} {a : Option Addr} {l : List Nat} (h : RdU w a l) (hb : Below w.heap.size w w') : RdU w' a l := Rd.mono h hb
theorem RdU.at {w : World} {a : Option Addr} {l : List Nat} (h : RdU w a l) (hl : 0 < l.length) :
    ∃ b off, a = some ⟨b, off, none⟩ ∧ b < w.heap.size ∧ ∀ k (h : k < l.length), w.cell? ⟨b, off + k, none⟩ = some (.int .u64 (l[k] : Int)) := by
  rcases h with h | ⟨b, off, ha, hlt, hc⟩
  · exact absurd (List.map_eq_nil_iff.1 h) (by intro e; simp [e] at hl)
  · exact ⟨b, off, ha, hlt, fun k hk => by have := hc k (by simpa using hk); simpa [uv] using this⟩
def OwnU (w : World) (base : Nat) (v : Value) (l : List Nat) : Prop := w.ownsRow base 22 1 v l.length (l.map uv)
theorem OwnU.nil (w : World) (base : Nat) : OwnU w base (.slice none 0 0) [] := World.ownsRow_nil w base 22 1
theorem OwnU.rd {w : World} {base : Nat} {v : Value} {l : List Nat} (h : OwnU w base v l) : ∃ a cap, v = .slice a l.length cap ∧ l.length ≤ cap ∧ RdU w a l := Rd.of_own h
theorem OwnU.kept {w w' : World} {B base : Nat} {v : Value} {l : List Nat} (h : OwnU w base v l) (hb : Below B w w') (hB : w.heap.size ≤ B) : OwnU w' base v l := by
  refine ⟨h.1, ?_⟩
  rcases h.2 with h | ⟨g, cap, cur, hv, hg, hh, r⟩
  · exact .inl h
  · exact .inr ⟨g, cap, cur, hv, hg, by rw [hb.block g (Nat.lt_of_lt_of_le (Array.getElem?_eq_some_iff.1 hh).1 hB)]; exact hh, r⟩
theorem eltU : Elt Try.prog 60 22 1 8 (.int .u64 0) := ⟨Try.underlying60, by kernel_rfl, rfl, by decide⟩

def fitB (t : Int) (x : Nat) : Bool := !(t == 5) || decide ((x : Int) < 4294967296)
set_option maxRecDepth 100000 in
theorem nofit_any (t : Int) (x b : Nat) (w : World) (hb : Box w b 38 (.int .i64 t)) :
    Calls Try.prog 48 #[.int .u64 (x : Int), .pointer (some ⟨b, 0, none⟩)] w fun e w' => e = .returned (.bool (!fitB t x)) ∧ w = w' := by
  have hc := hb.cell
  obtain ⟨r, hr⟩ : ∃ r, fitB t x = r := ⟨_, rfl⟩
  have hfit := fits_any t x w
  change Calls _ _ _ _ (fun e w' => e = .returned (.bool (fitB t x)) ∧ w = w') at hfit
  rw [hr] at hfit ⊢
  go_enter Try.func48, Try.ntmps48
  go_wp2_with (go_at_call 49; refine hfit.mono ?_; rintro e _ ⟨rfl, rfl⟩)
  go_ret
  exact ⟨rfl, rfl⟩
set_option maxRecDepth 100000 in
set_option maxHeartbeats 400000 in
theorem indexu_any (t : Int) (b : Nat) (a : Option Addr) (l : List Nat) (n cap : Nat) (w : World) (hb : Box w b 38 (.int .i64 t)) (hn : Hid (n = l.length)) (hc : n ≤ cap) (hn2 : n ≤ 140737488355328) (hl : RdU w a l) :
    Calls Try.prog 54 #[.slice a n cap, .func (.func 48) #[] #[.pointer (some ⟨b, 0, none⟩)]] w fun e w' =>
      (∃ i : Int, e = .returned (.int .i64 i) ∧ (0 ≤ i ↔ ¬ l.all (fitB t) = true)) ∧ w = w' := by
  have HL := Lib.hid hl
  have HX := Lib.hid hb
  clear hl hb
  go_enter Try.func54, Try.ntmps54
  go_wp2
  go_loopw [8] (fun i wr => w = wr ∧ ∃ k : Nat, k ≤ n ∧ i = .int .i64 k ∧ (l.take k).all (fitB t) = true) (fun i _ => n - (intOf i).toNat)
  case atStart => exact ⟨rfl, 0, Nat.zero_le _, rfl, rfl⟩
  case round =>
    obtain ⟨rfl, k, hk, rfl, hall⟩ := hrel
    have HA := Lib.hid hall
    clear hall
    by_cases hkn : k < n
    · have hkl : k < l.length := by rw [← hn.out]; omega
      obtain ⟨b2, off, rfl, hlt, hcell⟩ := HL.out.at (by omega)
      have h1 := hcell k hkl
      obtain ⟨x, hx⟩ : ∃ x, l[k] = x := ⟨_, rfl⟩
      rw [hx] at h1
      clear hcell
      obtain ⟨r, hr⟩ : ∃ r, fitB t x = r := ⟨_, rfl⟩
      have hcall := nofit_any t x b w HX.out
      rw [hr] at hcall
      cases r with
      | true =>
        go_wp2_with (go_at_call 48; refine hcall.mono ?_; rintro e _ ⟨rfl, rfl⟩)
        refine ⟨⟨trivial, k + 1, by omega, by go_num, ?_⟩, by simp [intOf]; omega⟩
        rw [List.take_succ_eq_append_getElem hkl, List.all_append, HA.out, hx]
        simpa using hr
      | false =>
        go_wp2_with (go_at_call 48; refine hcall.mono ?_; rintro e _ ⟨rfl, rfl⟩)
        go_ret
        refine ⟨⟨k, rfl, ⟨fun _ h => ?_, fun _ => by omega⟩⟩, rfl⟩
        have h2 := List.all_eq_true.1 h l[k] (List.getElem_mem hkl)
        rw [hx, hr] at h2; cases h2
    · obtain rfl : k = n := by omega
      have he : l.take k = l := by rw [hn.out, List.take_length]
      rw [he] at HA
      go_wp2
      go_ret
      exact ⟨⟨-1, rfl, ⟨fun h => by omega, fun h => absurd HA.out h⟩⟩, rfl⟩
set_option maxRecDepth 100000 in
theorem containsu_any (t : Int) (b : Nat) (a : Option Addr) (l : List Nat) (n cap : Nat) (w : World) (hb : Box w b 38 (.int .i64 t)) (hn : Hid (n = l.length)) (hc : n ≤ cap) (hn2 : n ≤ 140737488355328) (hl : RdU w a l) :
    Calls Try.prog 47 #[.slice a n cap, .func (.func 48) #[] #[.pointer (some ⟨b, 0, none⟩)]] w fun e w' =>
      e = .returned (.bool (!l.all (fitB t))) ∧ w = w' := by
  go_enter Try.func47, Try.ntmps47
  go_wp2_with fail
  refine (indexu_any t b a l n cap w hb hn hc hn2 hl).mono ?_
  rintro e _ ⟨⟨i, rfl, hi⟩, rfl⟩
  have HI := Lib.hid hi
  clear hi
  go_wp2
  go_ret
  refine ⟨congrArg (fun b => Ending.returned (Value.bool b)) ?_, rfl⟩
  cases hall : l.all (fitB t) with
  | true => exact decide_eq_false fun h => HI.out.1 h hall
  | false => exact decide_eq_true (HI.out.2 (by rw [hall]; decide))

/-- How a word of a type stands. -/
def wordB (t : Int) (x : Nat) : List UInt8 := if t = 0 then vput x else lowB x (if t = 1 then 8 else 4)
def wordsB (t : Int) (l : List Nat) : List UInt8 := l.flatMap (wordB t)
def packOf (t : Int) (l : List Nat) : List UInt8 × Nat :=
  if (t = 0 ∨ t = 1 ∨ t = 5) ∧ l.all (fitB t) = true then (if (wordsB t l).length ≤ 1048576 then (wordsB t l, 0) else ([], 3)) else ([], 2)
theorem wordB_len (t : Int) (x : Nat) (hx : x < 18446744073709551616) : (wordB t x).length ≤ 10 := by
  unfold wordB
  split
  · exact vput_len10 hx
  · rw [lowB_length]; split <;> omega
theorem wordsB_len (t : Int) (l : List Nat) (h : ∀ x ∈ l, x < 18446744073709551616) : (wordsB t l).length ≤ 10 * l.length := by
  induction l with
  | nil => simp [wordsB]
  | cons x r ih =>
    have h1 := wordB_len t x (h x (by simp))
    have h2 := ih fun y hy => h y (by simp [hy])
    show (wordB t x ++ wordsB t r).length ≤ _
    rw [List.length_append, List.length_cons]
    omega
set_option maxRecDepth 100000 in
set_option maxHeartbeats 2000000 in
theorem pack_any (t : Int) (a : Option Addr) (l : List Nat) (n cap : Nat) (w : World) (hn : Hid (n = l.length)) (hc : n ≤ cap) (hn2 : n ≤ 1000000000) (hwf : Hid (∀ x ∈ l, x < 18446744073709551616)) (hl : RdU w a l) :
    Calls Try.prog 31 #[.int .i64 t, .slice a n cap] w fun e w' =>
      ∃ v, e = .returned (.tuple #[v, .int .i64 ((packOf t l).2 : Int)]) ∧ OwnB w' w.heap.size 5 v (packOf t l).1 ∧ Below w.heap.size w w' := by
  have HL := Lib.hid hl
  have hmf : ∀ fn first cap w, (Instr.makeFunc fn first cap).run Try.prog w = .ok (.func fn first cap) w := fun _ _ _ _ => rfl
  clear hl
  obtain ⟨po, hpo⟩ : ∃ po, packOf t l = po := ⟨_, rfl⟩
  rw [hpo]
  have hpk : po = packOf t l := hpo.symm
  clear hpo
  go_enter Try.func31, Try.ntmps31
  go_wp2_with fail
  refine (wayof_any t _).mono ?_
  rintro e w2 ⟨hb2, hway⟩
  have hs2 := hb2.size
  rw [World.size_alloc] at hs2
  have HB2 := Lib.hid (below_trans (below_alloc _) hb2)
  have HX2 : Hid (Box w2 w.heap.size 38 (.int .i64 t)) := (Box.new w 38 (.int .i64 t)).below hb2
  by_cases ht : t = 0 ∨ t = 1 ∨ t = 5
  · cases hall : l.all (fitB t) with
    | false =>
      obtain ⟨_, ws, hws2, hwsall, rfl⟩ := WayRet.open ⟨hb2, hway⟩
      rw [decide_eq_true ht]
      have HPK : Hid (po = ([], 2)) := by show _ = _; rw [hpk]; unfold packOf; rw [if_neg (by rw [hall]; simp)]
      clear hway hb2 hpk
      go_wp2_with (first | (refine step_storeRow rfl 74 (.tmp 6) (.tmp 14) rfl rfl w2.heap.size ws rfl rfl 74 wayNil (by exact RowAt.new w2 _ _) (by rw [hws2]; exact aggWay.2) hws2.symm hwsall ?_; intro w6 h1 h2; have HB6 := Lib.hid ((HB2.out.alloc (by omega) _).grown h2 (by simp; omega) (fun g hg => by obtain rfl := Option.some.inj hg; omega)); have HX6 : Hid (Box w6 w.heap.size 38 (.int .i64 t)) := (h2.block w.heap.size (by simp; omega) (fun e => by have := Option.some.inj e; omega)).trans ((Below.heap_alloc w2 _ w.heap.size (by omega)).trans HX2.out); clear h1 h2) | (go_at_call 47; refine (containsu_any t w.heap.size a l n cap _ HX6.out hn hc (by omega) (HL.out.mono HB6.out)).mono ?_; rw [hall]; rintro e _ ⟨rfl, rfl⟩))
      go_ret2
      rw [HPK.out]
      exact ⟨_, rfl, OwnB.nil _ _ _, HB6.out⟩
    | true =>
     have hpk : po = if (wordsB t l).length ≤ 1048576 then (wordsB t l, 0) else ([], 3) := by rw [hpk]; unfold packOf; rw [if_pos ⟨ht, hall⟩]
     by_cases ht0 : t = 0
     · skip
       have hw0 : e = .returned (.tuple #[.agg wayVar, .bool true]) := by
         rcases hway with ⟨_, h⟩ | ⟨h, _⟩ | ⟨h, _⟩
         · exact h
         · omega
         · exact absurd ht0 h
       subst hw0
       clear hway hb2
       go_wp2_with (first | (refine step_storeRow rfl 74 (.tmp 6) (.tmp 14) rfl rfl w2.heap.size wayVar rfl rfl 74 wayNil (by exact RowAt.new w2 _ _) aggWay.2 rfl (by simp [wayVar, wayV, Value.oneCell']) ?_; intro w6 h1 h2; have HW := Lib.hid h1; have HB6 := Lib.hid ((HB2.out.alloc (by omega) _).grown h2 (by simp; omega) (fun g hg => by obtain rfl := Option.some.inj hg; omega)); have HX6 : Hid (Box w6 w.heap.size 38 (.int .i64 t)) := (h2.block w.heap.size (by simp; omega) (fun e => by have := Option.some.inj e; omega)).trans ((Below.heap_alloc w2 _ w.heap.size (by omega)).trans HX2.out); have HG := Lib.hid h2; clear h1 h2) | (go_at_call 47; refine (containsu_any t w.heap.size a l n cap _ HX6.out hn hc (by omega) (HL.out.mono HB6.out)).mono ?_; rw [hall]; rintro e _ ⟨rfl, rfl⟩))
       have hput : ∀ (W : World) (v : Value) (pre : List UInt8) (x : Nat), Below w6.heap.size w6 W → OwnB W w6.heap.size 5 v pre → pre.length + 10 ≤ 140737488355328 → x < 18446744073709551616 →
           Calls Try.prog 36 #[v, .int .u64 (x : Int)] W fun e w' => ∃ v', e = .returned v' ∧ OwnB w' w6.heap.size 5 v' (pre ++ wordB t x) ∧ Below w6.heap.size W w' := by
         intro W v pre x hW ho hl hx
         have hwb : wordB t x = vput x := by unfold wordB; rw [if_pos ht0]
         rw [hwb]
         exact varint_any x hx v pre _ W ho hW.size hl
       have HP := Lib.hid hput
       clear hput
       go_loopw [8, 25] (fun v i wr => Below w6.heap.size w6 wr ∧ ∃ k : Nat, k ≤ n ∧ i = .int .i64 k ∧ OwnB wr w6.heap.size 5 v (wordsB t (l.take k))) (fun _ i _ => n - (intOf i).toNat)
       case atStart => exact ⟨Below.refl _ _, 0, Nat.zero_le _, rfl, OwnB.nil _ _ _⟩
       case round =>
         obtain ⟨hb, k, hk, rfl, ho⟩ := hrel
         have HB := Lib.hid hb
         have HO := Lib.hid ho
         have hd := (HB.out.cell (p := ⟨w2.heap.size, 0, none⟩) HW.out.lt).trans HW.out.cells2.1
         clear hb ho
         by_cases hkn : k < n
         · have hkl : k < l.length := by rw [← hn.out]; omega
           obtain ⟨b2, off, rfl, hlt, hcell⟩ := HL.out.at (by omega)
           have h1 := (HB6.out.trans (HB.out.mono HB6.out.size)).cell (p := ⟨b2, off + k, none⟩) hlt |>.trans (hcell k hkl)
           have hxlt := hwf.out l[k] (List.getElem_mem hkl)
           have hlen : (wordsB t (l.take k)).length + 10 ≤ 140737488355328 := by
             have := wordsB_len t (l.take k) (fun y hy => hwf.out y (List.mem_of_mem_take hy))
             rw [List.length_take] at this
             omega
           have hsn : wordsB t (l.take (k + 1)) = wordsB t (l.take k) ++ wordB t l[k] := by rw [List.take_succ_eq_append_getElem hkl]; unfold wordsB; rw [List.flatMap_append]; simp
           obtain ⟨x, hx⟩ : ∃ x, l[k] = x := ⟨_, rfl⟩
           rw [hx] at h1 hxlt hsn
           have HSN := Lib.hid hsn
           have HLE := Lib.hid hlen
           clear hcell hsn hlen hx
           go_wp2_with (go_at_call 36; refine (HP.out wr _ _ x HB.out HO.out HLE.out hxlt).mono ?_; rintro e w7 ⟨v7, rfl, ho7, hb7⟩; rw [← HSN.out] at ho7; have HF := Lib.hid ho7; have HF2 := Lib.hid (HB.out.trans hb7); clear ho7 hb7)
           exact ⟨⟨HF2.out, k + 1, by omega, by go_num, HF.out⟩, by simp [intOf]; omega⟩
         · obtain rfl : k = n := by omega
           have he : l.take k = l := by rw [hn.out, List.take_length]
           rw [he] at HO
           obtain ⟨a4, c4, rfl, hc4, hr4⟩ := HO.out.rd
           obtain ⟨q, hq⟩ : ∃ q, (wordsB t l).length = q := ⟨_, rfl⟩
           have HH := Lib.hid (HO.out.mono HB6.out.size)
           have HBB := Lib.hid (HB6.out.trans (HB.out.mono HB6.out.size))
           rw [hq] at HH hc4 hpk ⊢
           by_cases hbig : q ≤ 1048576
           · rw [if_pos hbig] at hpk
             have HPK := Lib.hid hpk
             clear hr4 hpk hd
             go_wp2
             go_ret2
             rw [HPK.out]
             exact ⟨_, rfl, HH.out, HBB.out⟩
           · rw [if_neg hbig] at hpk
             have HPK := Lib.hid hpk
             clear hr4 hpk hd
             go_wp2
             go_ret2
             rw [HPK.out]
             exact ⟨_, rfl, OwnB.nil _ _ _, HBB.out⟩
     · skip
       obtain ⟨bn, hbn, hbox, rfl⟩ : ∃ b, w.heap.size + 1 ≤ b ∧ Box w2 b 3 (.int .i64 ((if t = 1 then 8 else 4 : Nat) : Int)) ∧ e = .returned (.tuple #[.agg (wayV b), .bool true]) := by
         rcases hway with ⟨h, _⟩ | ⟨_, b, h1, h2, h3⟩ | ⟨_, h1, h5, h⟩
         · omega
         · rw [World.size_alloc] at h1
           exact ⟨b, h1, h2, h3⟩
         · omega
       have hbn2 := hbox.lt
       have HBN := Lib.hid hbox
       clear hway hb2 hbox
       go_wp2_with (first | (refine step_storeRow rfl 74 (.tmp 6) (.tmp 14) rfl rfl w2.heap.size (wayV bn) rfl rfl 74 wayNil (by exact RowAt.new w2 _ _) aggWay.2 rfl (by simp [wayVar, wayV, Value.oneCell']) ?_; intro w6 h1 h2; have HW := Lib.hid h1; have HB6 := Lib.hid ((HB2.out.alloc (by omega) _).grown h2 (by simp; omega) (fun g hg => by obtain rfl := Option.some.inj hg; omega)); have HX6 : Hid (Box w6 w.heap.size 38 (.int .i64 t)) := (h2.block w.heap.size (by simp; omega) (fun e => by have := Option.some.inj e; omega)).trans ((Below.heap_alloc w2 _ w.heap.size (by omega)).trans HX2.out); have HG := Lib.hid h2; clear h1 h2) | (go_at_call 47; refine (containsu_any t w.heap.size a l n cap _ HX6.out hn hc (by omega) (HL.out.mono HB6.out)).mono ?_; rw [hall]; rintro e _ ⟨rfl, rfl⟩))
       have hput : ∀ (W : World) (v : Value) (pre : List UInt8) (x : Nat), Below w6.heap.size w6 W → OwnB W w6.heap.size 5 v pre → pre.length + 10 ≤ 140737488355328 → x < 18446744073709551616 →
           Calls Try.prog 57 #[v, .int .u64 (x : Int), .pointer (some ⟨bn, 0, none⟩)] W fun e w' => ∃ v', e = .returned v' ∧ OwnB w' w6.heap.size 5 v' (pre ++ wordB t x) ∧ Below w6.heap.size W w' := by
         intro W v pre x hW ho hl hx
         have hwb : wordB t x = lowB x (if t = 1 then 8 else 4) := by unfold wordB; rw [if_neg ht0]
         rw [hwb]
         have hbx6 : Box w6 bn 3 (.int .i64 ((if t = 1 then 8 else 4 : Nat) : Int)) := (HG.out.block bn (by simp; omega) (fun e => by have := Option.some.inj e; omega)).trans ((Below.heap_alloc w2 _ bn hbn2).trans HBN.out)
         refine (put_any (if t = 1 then 8 else 4) (by split <;> omega) x hx v pre _ bn W ho hW.size hl (hbx6.below hW)).mono ?_
         rintro e w' ⟨v', rfl, h1, h2⟩
         exact ⟨v', rfl, h1, h2.down ho hW.size⟩
       have HP := Lib.hid hput
       clear hput
       go_loopw [8, 25] (fun v i wr => Below w6.heap.size w6 wr ∧ ∃ k : Nat, k ≤ n ∧ i = .int .i64 k ∧ OwnB wr w6.heap.size 5 v (wordsB t (l.take k))) (fun _ i _ => n - (intOf i).toNat)
       case atStart => exact ⟨Below.refl _ _, 0, Nat.zero_le _, rfl, OwnB.nil _ _ _⟩
       case round =>
         obtain ⟨hb, k, hk, rfl, ho⟩ := hrel
         have HB := Lib.hid hb
         have HO := Lib.hid ho
         have hd := (HB.out.cell (p := ⟨w2.heap.size, 0, none⟩) HW.out.lt).trans HW.out.cells2.1
         clear hb ho
         by_cases hkn : k < n
         · have hkl : k < l.length := by rw [← hn.out]; omega
           obtain ⟨b2, off, rfl, hlt, hcell⟩ := HL.out.at (by omega)
           have h1 := (HB6.out.trans (HB.out.mono HB6.out.size)).cell (p := ⟨b2, off + k, none⟩) hlt |>.trans (hcell k hkl)
           have hxlt := hwf.out l[k] (List.getElem_mem hkl)
           have hlen : (wordsB t (l.take k)).length + 10 ≤ 140737488355328 := by
             have := wordsB_len t (l.take k) (fun y hy => hwf.out y (List.mem_of_mem_take hy))
             rw [List.length_take] at this
             omega
           have hsn : wordsB t (l.take (k + 1)) = wordsB t (l.take k) ++ wordB t l[k] := by rw [List.take_succ_eq_append_getElem hkl]; unfold wordsB; rw [List.flatMap_append]; simp
           obtain ⟨x, hx⟩ : ∃ x, l[k] = x := ⟨_, rfl⟩
           rw [hx] at h1 hxlt hsn
           have HSN := Lib.hid hsn
           have HLE := Lib.hid hlen
           clear hcell hsn hlen hx
           go_wp2_with (go_at_call 57; refine (HP.out wr _ _ x HB.out HO.out HLE.out hxlt).mono ?_; rintro e w7 ⟨v7, rfl, ho7, hb7⟩; rw [← HSN.out] at ho7; have HF := Lib.hid ho7; have HF2 := Lib.hid (HB.out.trans hb7); clear ho7 hb7)
           exact ⟨⟨HF2.out, k + 1, by omega, by go_num, HF.out⟩, by simp [intOf]; omega⟩
         · obtain rfl : k = n := by omega
           have he : l.take k = l := by rw [hn.out, List.take_length]
           rw [he] at HO
           obtain ⟨a4, c4, rfl, hc4, hr4⟩ := HO.out.rd
           obtain ⟨q, hq⟩ : ∃ q, (wordsB t l).length = q := ⟨_, rfl⟩
           have HH := Lib.hid (HO.out.mono HB6.out.size)
           have HBB := Lib.hid (HB6.out.trans (HB.out.mono HB6.out.size))
           rw [hq] at HH hc4 hpk ⊢
           by_cases hbig : q ≤ 1048576
           · rw [if_pos hbig] at hpk
             have HPK := Lib.hid hpk
             clear hr4 hpk hd
             go_wp2
             go_ret2
             rw [HPK.out]
             exact ⟨_, rfl, HH.out, HBB.out⟩
           · rw [if_neg hbig] at hpk
             have HPK := Lib.hid hpk
             clear hr4 hpk hd
             go_wp2
             go_ret2
             rw [HPK.out]
             exact ⟨_, rfl, OwnB.nil _ _ _, HBB.out⟩
  · obtain ⟨_, ws, hws2, hwsall, rfl⟩ := WayRet.open ⟨hb2, hway⟩
    rw [decide_eq_false ht]
    have HPK : Hid (po = ([], 2)) := by show _ = _; rw [hpk]; unfold packOf; rw [if_neg (by intro h; exact ht h.1)]
    clear hway hb2 hpk
    go_wp2_with (refine step_storeRow rfl 74 (.tmp 6) (.tmp 14) rfl rfl w2.heap.size ws rfl rfl 74 wayNil (by exact RowAt.new w2 _ _) (by rw [hws2]; exact aggWay.2) hws2.symm hwsall ?_; intro w6 h1 h2; have HB6 := Lib.hid ((HB2.out.alloc (by omega) _).grown h2 (by simp; omega) (fun g hg => by obtain rfl := Option.some.inj hg; omega)); clear h1 h2)
    go_ret2
    rw [HPK.out]
    exact ⟨_, rfl, OwnB.nil _ _ _, HB6.out⟩
end Go.Proofs.Ytomfdiomakjeoaa
