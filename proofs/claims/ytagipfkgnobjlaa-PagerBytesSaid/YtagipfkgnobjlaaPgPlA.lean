/- The pager, plainly: the chain of free pages through each call. -/
import Derived.Test.YtagipfkgnobjlaaPgOp
namespace Go.Proofs.Ytagipfkgnobjlaa
open Go.RowKit

/-- Pages one behind the other, from a on, to 0. -/
def Path (nx : Nat → Nat) : Nat → List Nat → Prop
  | a, [] => a = 0
  | a, b :: l => a = b ∧ Path nx (nx b) l
theorem Path.congr {nx nx' : Nat → Nat} : ∀ {l : List Nat} {a : Nat}, Path nx a l → (∀ x ∈ l, nx' x = nx x) → Path nx' a l
  | [], _, h, _ => h
  | b :: l, _, ⟨h1, h2⟩, h => ⟨h1, by rw [h b List.mem_cons_self]; exact h2.congr fun x hx => h x (List.mem_cons_of_mem _ hx)⟩
structure FreeIs (n : Nat) (s : PS) (l : List Nat) : Prop where
  nd : l.Nodup
  rg : ∀ x ∈ l, 0 < x ∧ x < s.now.count
  pt : Path (nxP n s) s.now.free l
  mn : s.now.many = l.length
theorem chainF_path {nx : Nat → Nat} {cnt : Nat} : ∀ (l : List Nat) (a f : Nat) (acc : List Nat), Path nx a l → (acc ++ l).Nodup → (∀ x ∈ l, 0 < x ∧ x < cnt) → l.length ≤ f → chainF nx cnt f a acc = acc ++ l
  | [], a, f, acc, h, _, _, _ => by
    have : a = 0 := h
    rw [chainF_stop (by omega), List.append_nil]
  | b :: l, a, 0, acc, _, _, _, hf => by simp at hf
  | b :: l, a, f + 1, acc, ⟨h1, h2⟩, hn, hr, hf => by
    subst h1
    have hb := hr a List.mem_cons_self
    have hna : a ∉ acc := fun e => (List.nodup_append.1 hn).2.2 a e a List.mem_cons_self rfl
    unfold chainF
    rw [if_pos ⟨hb.1, hb.2, hna⟩, chainF_path l (nx a) f (acc ++ [a]) h2 (by rw [List.append_assoc]; exact hn) (fun x hx => hr x (List.mem_cons_of_mem _ hx)) (by simpa using hf), List.append_assoc]
    rfl
theorem path_step {nx : Nat → Nat} : ∀ (l : List Nat) (a : Nat), Path nx a l → stepN nx l.length a = 0
  | [], a, h => h
  | b :: l, a, ⟨h1, h2⟩ => by subst h1; exact path_step l (nx a) h2
theorem path_of_steps {nx : Nat → Nat} : ∀ (l : List Nat) (a : Nat), (∀ (k x : Nat), l[k]? = some x → x = stepN nx k a) → stepN nx l.length a = 0 → Path nx a l
  | [], a, _, h => h
  | b :: l, a, h, h2 => by
    have hb : b = a := h 0 b rfl
    subst hb
    exact ⟨rfl, path_of_steps l (nx b) (fun k x hk => h (k + 1) x (by simpa using hk)) h2⟩
theorem nodup_range {l : List Nat} {c : Nat} (hn : l.Nodup) (h : ∀ x ∈ l, x < c) : l.length ≤ c := by
  have := sub_len l (List.range c) hn fun x hx => List.mem_range.2 (h x hx)
  simpa using this
section
variable {n : Nat} {s : PS} {l : List Nat}
theorem FreeIs.len (h : FreeIs n s l) : l.length ≤ s.now.count := nodup_range h.nd fun x hx => (h.rg x hx).2
theorem FreeIs.free (h : FreeIs n s l) : freeL n s = l := by
  have := chainF_path l s.now.free s.now.count [] h.pt (by simpa using h.nd) h.rg h.len
  rw [List.nil_append] at this
  exact this
theorem FreeIs.sound (h : FreeIs n s l) : soundB n s = true := by
  unfold soundB
  rw [h.free, path_step l _ h.pt, h.mn]
  simp
theorem FreeIs.of_sound (h : soundB n s = true) : FreeIs n s (freeL n s) := by
  unfold soundB at h
  simp only [Bool.and_eq_true, decide_eq_true_eq] at h
  obtain ⟨q1, q2, -⟩ := freeL_spec n s
  refine ⟨q1, fun x hx => ?_, path_of_steps _ _ (fun k x hk => (q2 k x hk).1) h.1, h.2.symm⟩
  obtain ⟨k, hk⟩ := List.getElem?_of_mem hx
  exact (q2 k x hk).2
theorem FreeIs.taken (h : FreeIs n s l) (k : Nat) : takenB n s (k : Int) = true ↔ 0 < k ∧ k < s.now.count ∧ k ∉ l := by
  unfold takenB
  rw [h.free]
  simp only [Bool.and_eq_true, decide_eq_true_eq, Option.isNone_iff_eq_none]
  constructor
  · rintro ⟨⟨h1, h2⟩, h3⟩
    refine ⟨by omega, by omega, fun e => ?_⟩
    rw [setF_yes e] at h3
    cases h3
  · rintro ⟨h1, h2, h3⟩
    exact ⟨⟨by omega, by omega⟩, setF_no h3⟩
theorem taken_nat {x : Int} (h : takenB n s x = true) : ∃ k : Nat, x = (k : Int) := by
  unfold takenB at h
  simp only [Bool.and_eq_true, decide_eq_true_eq] at h
  exact ⟨x.toNat, by omega⟩
theorem FreeIs.congr {s' : PS} (h : FreeIs n s l) (hn : s'.now = s.now) (hb : ∀ x ∈ l, bytesP n s' x = bytesP n s x) : FreeIs n s' l :=
  ⟨h.nd, by rw [hn]; exact h.rg, by rw [hn]; exact h.pt.congr fun x hx => by unfold nxP; rw [hb x hx], by rw [hn]; exact h.mn⟩
theorem FreeIs.begun (h : FreeIs n s l) : FreeIs n s.begun l := h.congr (begun_now s) fun x _ => bytesP_begun n s x
theorem bytesP_laid_ne (s : PS) (k : Nat) {x : Int} (hx : (k : Int) ≠ x) (B : List UInt8) : bytesP n (s.laid x B) k = bytesP n s k := by
  unfold bytesP PS.laid
  simp only
  rw [if_neg hx]
  rfl
theorem bytesP_laid_eq (s : PS) (k : Nat) (B : List UInt8) : bytesP n (s.laid (k : Int) B) k = B := by
  unfold bytesP PS.laid
  simp
theorem FreeIs.laid (h : FreeIs n s l) {k : Nat} (hk : k ∉ l) (B : List UInt8) : FreeIs n (s.laid (k : Int) B) l :=
  h.congr rfl fun x hx => bytesP_laid_ne s x (fun e => hk (by have : x = k := by omega
                                                              exact this ▸ hx)) B
theorem FreeIs.popped {a : Nat} (h : FreeIs n s (a :: l)) : FreeIs n (s.popped (nxP n s a)) l := by
  obtain ⟨h1, h2⟩ := h.pt
  have hn := List.nodup_cons.1 h.nd
  refine ⟨hn.2, fun x hx => h.rg x (List.mem_cons_of_mem _ hx), h2, ?_⟩
  show s.now.many - 1 = _
  rw [h.mn]
  rfl
theorem FreeIs.grown (h : FreeIs n s l) : FreeIs n s.grown l := ⟨h.nd, fun x hx => by
  have := h.rg x hx
  show 0 < x ∧ x < s.now.count + 1
  omega, h.pt, h.mn⟩
theorem leB_link {fr : Nat} (h : fr < 4294967296) : leB ((linkP fr).take 4) = fr := by
  have e : (linkP fr).take 4 = lowB fr 4 := by
    unfold linkP splice
    rw [List.take_zero, List.nil_append, List.take_append_of_le_length (by rw [lowB_length]; omega), List.take_of_length_le (by rw [lowB_length]; omega)]
  rw [e]
  exact leB_lowB 4 fr (by simpa using h)
theorem FreeIs.pushed (h : FreeIs n s l) {k : Nat} (hk : k ∉ l) (h0 : 0 < k) (hc : k < s.now.count) (hfr : s.now.free < 4294967296) : FreeIs n ((s.laid (k : Int) (linkP s.now.free)).pushed k) (k :: l) := by
  have h2 := h.laid hk (linkP s.now.free)
  refine ⟨List.nodup_cons.2 ⟨hk, h.nd⟩, fun x hx => ?_, ⟨rfl, ?_⟩, ?_⟩
  · rcases List.mem_cons.1 hx with rfl | hx
    · exact ⟨h0, hc⟩
    · exact h.rg x hx
  · have e : nxP n ((s.laid (k : Int) (linkP s.now.free)).pushed k) k = s.now.free := by
      show leB ((bytesP n (s.laid (k : Int) (linkP s.now.free)) k).take 4) = _
      rw [bytesP_laid_eq, leB_link hfr]
    rw [e]
    exact h2.pt
  · show s.now.many + 1 = _
    rw [h.mn, List.length_cons]
theorem FreeIs.rooted (h : FreeIs n s l) (i v : Nat) : FreeIs n (s.rooted i v) l := ⟨h.nd, h.rg, h.pt, h.mn⟩
theorem FreeIs.head (h : FreeIs n s l) : s.now.free = 0 ∨ ∃ r, l = s.now.free :: r := by
  cases l with
  | nil => exact .inl h.pt
  | cons b r => exact .inr ⟨r, by rw [h.pt.1]⟩
theorem FreeIs.free_lt (h : FreeIs n s l) (hc : 1 ≤ s.now.count) : s.now.free < s.now.count := by
  rcases h.head with e | ⟨r, e⟩
  · omega
  · have := h.rg s.now.free (by rw [e]; exact List.mem_cons_self)
    omega
theorem FreeIs.many_lt (h : FreeIs n s l) (hc : 1 ≤ s.now.count) : s.now.many < s.now.count := by
  have h0 : 0 ∉ l := fun e => by have := h.rg 0 e; omega
  have := nodup_range (l := 0 :: l) (c := s.now.count) (List.nodup_cons.2 ⟨h0, h.nd⟩) fun x hx => by
    rcases List.mem_cons.1 hx with rfl | hx
    · omega
    · exact (h.rg x hx).2
  rw [List.length_cons] at this
  rw [h.mn]
  omega
end
end Go.Proofs.Ytagipfkgnobjlaa
