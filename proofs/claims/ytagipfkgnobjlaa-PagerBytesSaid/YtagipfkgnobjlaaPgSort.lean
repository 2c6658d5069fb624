/- slices.Sorted(maps.Keys(m)) at ints: the kit's contracts laid at this program. (Layings printed by gen_pgsort.py out of what lay-plain.mjs wrote.) -/
import Derived.Shelf.SlIterI.Nil
import Derived.Shelf.SortM.Plain
import Derived.Shelf.SortM.SortNone
import Derived.Ground.GgzProg
import Derived.Ground.SlgmProg
import Derived.Test.YtagipfkgnobjlaaPgVals
import Derived.Test.YtagipfkgnobjlaaPgSound
namespace Go.Proofs.Ytagipfkgnobjlaa
open Go.Shelf Go.RowKit Go.Maps
open Go.WideElems (Fit rd rg)

def keysA_ren : Go.Shelf.Ren := ⟨fun | 7 => 44 | 10 => 66 | n => n, fun | 23 => 75 | 26 => 3 | 3 => 22 | 28 => 86 | 0 => 0 | 27 => 85 | 33 => 78 | 4 => 4 | n => n, fun | n => n⟩
theorem keysA : Go.Proofs.SlLaysZI.n7 Try.prog keysA_ren := {
  mixed := by kernel_rfl
  f7 := ⟨Try.f44.name, by decide, Try.func44.trans (congrArg some (by kernel_rfl))⟩
  f10 := ⟨Try.f66.name, by decide, Try.func66.trans (congrArg some (by kernel_rfl))⟩
  t0 := Try.underlying0
  a0 := Try.isAgg0
  z0 := Try.sizeOf0
  v0 := Try.zeroValue0
  t4 := Try.underlying4
  a4 := Try.isAgg4
  z4 := Try.sizeOf4
  v4 := Try.zeroValue4
  t23 := Try.underlying75
  a23 := Try.isAgg75
  z23 := Try.sizeOf75
  v23 := Try.zeroValue75
  t26 := Try.underlying3
  a26 := Try.isAgg3
  z26 := Try.sizeOf3
  v26 := Try.zeroValue3
  t27 := Try.underlying85
  a27 := Try.isAgg85
  z27 := Try.sizeOf85
  v27 := Try.zeroValue85
  t28 := Try.underlying86
  a28 := Try.isAgg86
  z28 := Try.sizeOf86
  v28 := Try.zeroValue86
  t33 := Try.underlying78
  a33 := Try.isAgg78
  z33 := Try.sizeOf78
  v33 := Try.zeroValue78 }
def sortedA_ren : Go.Shelf.Ren := ⟨fun | 6 => 43 | 8 => 64 | 9 => 65 | 11 => 75 | 13 => 77 | 12 => 76 | 23 => 88 | 24 => 89 | 14 => 79 | 15 => 80 | 16 => 81 | 17 => 82 | 18 => 83 | 19 => 84 | 20 => 85 | 21 => 86 | 22 => 87 | 25 => 91 | 26 => 92 | 27 => 93 | 28 => 94 | 29 => 95 | 30 => 96 | 31 => 97 | n => n, fun | 26 => 3 | 28 => 86 | 24 => 83 | 0 => 0 | 3 => 3 | 37 => 105 | 48 => 132 | 50 => 93 | 4 => 4 | 40 => 124 | 39 => 123 | 45 => 129 | 5 => 5 | 9 => 9 | 51 => 135 | 55 => 139 | 57 => 141 | 58 => 142 | 33 => 78 | n => n, fun | n => n⟩
theorem sortedA : Go.Proofs.SlLaysZI.n6 Try.prog sortedA_ren := {
  mixed := by kernel_rfl
  f6 := ⟨Try.f43.name, by decide, Try.func43.trans (congrArg some (by kernel_rfl))⟩
  f8 := ⟨Try.f64.name, by decide, Try.func64.trans (congrArg some (by kernel_rfl))⟩
  f11 := ⟨Try.f75.name, by decide, Try.func75.trans (congrArg some (by kernel_rfl))⟩
  t0 := Try.underlying0
  a0 := Try.isAgg0
  z0 := Try.sizeOf0
  v0 := Try.zeroValue0
  t24 := Try.underlying83
  a24 := Try.isAgg83
  z24 := Try.sizeOf83
  v24 := Try.zeroValue83
  t26 := Try.underlying3
  a26 := Try.isAgg3
  z26 := Try.sizeOf3
  v26 := Try.zeroValue3
  t28 := Try.underlying86
  a28 := Try.isAgg86
  z28 := Try.sizeOf86
  v28 := Try.zeroValue86
  i26 := by kernel_rfl }
def sortA_ren : Go.Shelf.Ren := ⟨fun | 5 => 65 | 8 => 77 | 7 => 76 | 19 => 88 | 20 => 89 | 10 => 79 | 11 => 80 | 12 => 81 | 13 => 82 | 14 => 83 | 15 => 84 | 16 => 85 | 17 => 86 | 18 => 87 | 30 => 91 | 31 => 92 | 32 => 93 | 33 => 94 | 34 => 95 | 35 => 96 | 40 => 97 | n => n, fun | 23 => 83 | 25 => 3 | 3 => 3 | 32 => 105 | 22 => 83 | 0 => 0 | 44 => 132 | 46 => 93 | 4 => 4 | 36 => 124 | 35 => 123 | 41 => 129 | 5 => 5 | 9 => 9 | 53 => 135 | 57 => 139 | 63 => 141 | 64 => 142 | n => n, fun | n => n⟩
theorem sortA : Go.Proofs.SlLaysM.n5 Try.prog sortA_ren := {
  mixed := by kernel_rfl
  f5 := ⟨Try.f65.name, by decide, Try.func65.trans (congrArg some (by kernel_rfl))⟩
  f7 := ⟨Try.f76.name, by decide, Try.func76.trans (congrArg some (by kernel_rfl))⟩
  f8 := Try.func77.trans (congrArg some (by kernel_rfl))
  f10 := ⟨Try.f79.name, by decide, Try.func79.trans (congrArg some (by kernel_rfl))⟩
  f11 := ⟨Try.f80.name, by decide, Try.func80.trans (congrArg some (by kernel_rfl))⟩
  f12 := ⟨Try.f81.name, by decide, Try.func81.trans (congrArg some (by kernel_rfl))⟩
  f13 := ⟨Try.f82.name, by decide, Try.func82.trans (congrArg some (by kernel_rfl))⟩
  f14 := ⟨Try.f83.name, by decide, Try.func83.trans (congrArg some (by kernel_rfl))⟩
  f15 := ⟨Try.f84.name, by decide, Try.func84.trans (congrArg some (by kernel_rfl))⟩
  f16 := ⟨Try.f85.name, by decide, Try.func85.trans (congrArg some (by kernel_rfl))⟩
  f17 := ⟨Try.f86.name, by decide, Try.func86.trans (congrArg some (by kernel_rfl))⟩
  f18 := ⟨Try.f87.name, by decide, Try.func87.trans (congrArg some (by kernel_rfl))⟩
  f19 := Try.func88.trans (congrArg some (by kernel_rfl))
  f20 := Try.func89.trans (congrArg some (by kernel_rfl))
  f30 := ⟨Try.f91.name, by decide, Try.func91.trans (congrArg some (by kernel_rfl))⟩
  f31 := Try.func92.trans (congrArg some (by kernel_rfl))
  f32 := Try.func93.trans (congrArg some (by kernel_rfl))
  f33 := ⟨Try.f94.name, by decide, Try.func94.trans (congrArg some (by kernel_rfl))⟩
  f34 := ⟨Try.f95.name, by decide, Try.func95.trans (congrArg some (by kernel_rfl))⟩
  f35 := ⟨Try.f96.name, by decide, Try.func96.trans (congrArg some (by kernel_rfl))⟩
  f40 := ⟨Try.f97.name, by decide, Try.func97.trans (congrArg some (by kernel_rfl))⟩
  t0 := Try.underlying0
  a0 := Try.isAgg0
  z0 := Try.sizeOf0
  v0 := Try.zeroValue0
  t3 := Try.underlying3
  a3 := Try.isAgg3
  z3 := Try.sizeOf3
  v3 := Try.zeroValue3
  t4 := Try.underlying4
  a4 := Try.isAgg4
  z4 := Try.sizeOf4
  v4 := Try.zeroValue4
  t5 := Try.underlying5
  a5 := Try.isAgg5
  z5 := Try.sizeOf5
  v5 := Try.zeroValue5
  t9 := Try.underlying9
  a9 := Try.isAgg9
  z9 := Try.sizeOf9
  v9 := Try.zeroValue9
  t22 := Try.underlying83
  a22 := Try.isAgg83
  z22 := Try.sizeOf83
  v22 := Try.zeroValue83
  t23 := Try.underlying83
  a23 := Try.isAgg83
  z23 := Try.sizeOf83
  v23 := Try.zeroValue83
  t25 := Try.underlying3
  a25 := Try.isAgg3
  z25 := Try.sizeOf3
  v25 := Try.zeroValue3
  t32 := Try.underlying105
  a32 := Try.isAgg105
  z32 := Try.sizeOf105
  v32 := Try.zeroValue105
  t35 := Try.underlying123
  a35 := Try.isAgg123
  z35 := Try.sizeOf123
  v35 := Try.zeroValue123
  t36 := Try.underlying124
  a36 := Try.isAgg124
  z36 := Try.sizeOf124
  v36 := Try.zeroValue124
  t41 := Try.underlying129
  a41 := Try.isAgg129
  z41 := Try.sizeOf129
  v41 := Try.zeroValue129
  t44 := Try.underlying132
  a44 := Try.isAgg132
  z44 := Try.sizeOf132
  v44 := Try.zeroValue132
  t46 := Try.underlying93
  a46 := Try.isAgg93
  z46 := Try.sizeOf93
  v46 := Try.zeroValue93
  t53 := Try.underlying135
  a53 := Try.isAgg135
  z53 := Try.sizeOf135
  v53 := Try.zeroValue135
  t57 := Try.underlying139
  a57 := Try.isAgg139
  z57 := Try.sizeOf139
  v57 := Try.zeroValue139
  t63 := Try.underlying141
  a63 := Try.isAgg141
  z63 := Try.sizeOf141
  v63 := Try.zeroValue141
  t64 := Try.underlying142
  a64 := Try.isAgg142
  z64 := Try.sizeOf142
  v64 := Try.zeroValue142 }
theorem sortsA (m : Nat) : AnyZI.SortsIn Try.prog sortedA_ren Fence.wide m :=
  ⟨fun blk off cap ss W hH hblk hsz => callsIn_wide.2 (AnyM.slices_Sort_int sortA blk off cap ss W hH hblk hsz),
   fun p cap W => callsIn_wide.2 (AnyM.slices_Sort_int_none sortA p cap W)⟩
theorem insert_perm {H : Type} (x : Lit × DataW H) : ∀ l, (DataW.insert x l).Perm (x :: l)
  | [] => List.Perm.refl _
  | y :: r => by
    unfold DataW.insert
    split
    · exact List.Perm.refl _
    · exact ((insert_perm x r).cons y).trans (List.Perm.swap x y r)
theorem foldins_perm {H : Type} : ∀ l : List (Lit × DataW H), (l.foldr DataW.insert []).Perm l
  | [] => List.Perm.refl _
  | x :: l => (insert_perm x _).trans ((foldins_perm l).cons x)
/-- Any element. -/
def anyR : Value → Option (DataW Unit × List MemPlace) := fun _ => some (.nil, [])
/-- The numbers below c at which there is something, in order. -/
def dirtyL {β : Type} (c : Nat) (f : Int → Option β) : List Nat := (List.range c).filter fun k => (f (k : Int)).isSome
theorem mem_dirtyL {β : Type} {c : Nat} {f : Int → Option β} {k : Nat} : k ∈ dirtyL c f ↔ k < c ∧ (f (k : Int)).isSome = true := by
  unfold dirtyL
  rw [List.mem_filter, List.mem_range]
theorem dirtyL_asc {β : Type} (c : Nat) (f : Int → Option β) : (dirtyL c f).Pairwise (· < ·) := List.Pairwise.filter _ List.pairwise_lt_range
theorem dirtyL_len {β : Type} (c : Nat) (f : Int → Option β) : (dirtyL c f).length ≤ c := Nat.le_trans (List.length_filter_le _ _) (by simp)
theorem keyOf_intV {k : Int} (h0 : 0 ≤ k) (h1 : k ≤ 100000) : Go.keyOf Try.prog 3 (intV k) = some (.int .i64 k) := by
  unfold Go.keyOf
  rw [Try.underlying3]
  have : (Lit.int .i64 k).wf = true := by
    have e1 : IntKind.i64.min = -9223372036854775808 := by decide
    have e2 : IntKind.i64.max = 9223372036854775807 := by decide
    simp only [Lit.wf, e1, e2, Bool.and_eq_true, decide_eq_true_eq]
    omega
  simp [intV, mapKey, this]
theorem ownsMap_of {w : World} {m : Nat} {f : Int → Option Value} (hm : MapR w m intV f) (c : Nat) (hc : c ≤ 100000) (hk : ∀ k v, f k = some v → ∃ j : Nat, k = (j : Int) ∧ j < c) :
    ∃ nn D0, w.ownsMap Try.prog 3 anyR m nn D0 ∧ Maps.size D0 ≤ c ∧ ((dirtyL c f).map fun k : Nat => (k : Int)).Perm (intKeys D0) := by
  obtain ⟨es, cl, hh, hF⟩ := hm
  have hkey : ∀ e ∈ es.toList, ∃ k : Nat, e.key = intV (k : Int) ∧ f (k : Int) = some e.val ∧ k < c := fun e he => by
    obtain ⟨k, h1, h2⟩ := hF.key e he
    obtain ⟨j, rfl, hj⟩ := hk k _ h2
    exact ⟨j, h1, h2, hj⟩
  have hrd : ∀ e ∈ es.toList, ∀ k : Nat, e.key = intV (k : Int) → k < c → rd Try.prog 3 anyR e = some (.int .i64 (k : Int), .nil) := fun e he k h1 h2 => by
    unfold rd
    rw [h1, keyOf_intV (by omega) (by omega)]
    rfl
  have hnd : (es.toList.map (·.key)).Nodup := by
    rw [List.Nodup, List.pairwise_map, List.pairwise_iff_getElem]
    intro i j hi hj hij e
    have := hF.dis i j _ _ (List.getElem?_eq_getElem hi) (List.getElem?_eq_getElem hj) e
    omega
  have hkz : ∀ e ∈ es.toList, (fun e : MapEntry => Go.intOf (rg Try.prog 3 anyR e).1) e = Go.intOf (rg Try.prog 3 anyR e).1 := fun _ _ => rfl
  have hio : ∀ e ∈ es.toList, ∃ k : Nat, k < c ∧ e.key = intV (k : Int) ∧ (f (k : Int)).isSome = true ∧ Go.intOf (rg Try.prog 3 anyR e).1 = (k : Int) := fun e he => by
    obtain ⟨k, h1, h2, h3⟩ := hkey e he
    refine ⟨k, h3, h1, by rw [h2]; rfl, ?_⟩
    unfold rg
    rw [hrd e he k h1 h3]
    rfl
  have hperm : ((dirtyL c f).map fun k : Nat => (k : Int)).Perm (es.toList.map fun e => Go.intOf (rg Try.prog 3 anyR e).1) := by
    refine (List.perm_ext_iff_of_nodup ?_ ?_).2 fun x => ?_
    · rw [List.Nodup, List.pairwise_map]
      exact (dirtyL_asc c f).imp fun h e => by omega
    · rw [List.Nodup, List.pairwise_map]
      refine (List.pairwise_map.1 hnd).imp_of_mem fun {a b} ha hb hne e => hne ?_
      obtain ⟨k, -, h1, -, h2⟩ := hio a ha
      obtain ⟨k', -, h1', -, h2'⟩ := hio b hb
      rw [h1, h1', ← h2, ← h2', e]
    · rw [List.mem_map, List.mem_map]
      constructor
      · rintro ⟨k, hkd, rfl⟩
        obtain ⟨h1, h2⟩ := mem_dirtyL.1 hkd
        obtain ⟨v, hv⟩ := Option.isSome_iff_exists.1 h2
        obtain ⟨e, he, hek⟩ := hF.all _ _ hv
        refine ⟨e, he, ?_⟩
        obtain ⟨k', -, h1', -, h2'⟩ := hio e he
        rw [h2', keyI.inj _ _ (h1'.symm.trans hek)]
      · rintro ⟨e, he, rfl⟩
        obtain ⟨k, h0, h1, h2, h3⟩ := hio e he
        exact ⟨k, mem_dirtyL.2 ⟨h0, h2⟩, h3.symm⟩
  have hsz : es.size ≤ c := by
    have h1 : (dirtyL c f).length = es.size := by simpa using hperm.length_eq
    exact h1 ▸ dirtyL_len c f
  refine ⟨es.size, _, ⟨es, cl, hh, ⟨Nat.le_trans hsz (Nat.le_trans hc (by decide)), ⟨hF.lt, ?_, hnd⟩, fun e he => ?_⟩, Nat.le_refl _, rfl⟩, ?_, ?_⟩
  · rw [List.Nodup, List.pairwise_map]
    exact born_pair hF
  · obtain ⟨k, h1, h2, h3⟩ := hkey e he
    exact ⟨_, hrd e he k h1 h3⟩
  · show (List.foldr DataW.insert [] _).length ≤ c
    rw [(foldins_perm _).length_eq, List.length_map, Array.length_toList]
    exact hsz
  · refine hperm.trans ?_
    show List.Perm _ ((List.foldr DataW.insert [] _).map fun p => Go.intOf p.1)
    refine List.Perm.trans ?_ ((foldins_perm _).symm.map _)
    rw [List.map_map]
    exact List.Perm.of_eq (List.map_congr_left fun e _ => by rw [Function.comp_apply])
theorem sort_asc (l : List Nat) (h : l.Pairwise (· < ·)) : (l.map fun k : Nat => (k : Int)).mergeSort leI = l.map fun k : Nat => (k : Int) := by
  refine List.mergeSort_of_pairwise ?_
  rw [List.pairwise_map]
  exact h.imp fun h => by simp only [leI, decide_eq_true_eq]; omega
/-- maps.Keys hands back a function over a new box of the map. -/
theorem keys_any (mb : Option Nat) (W : World) : Calls Try.prog 44 #[.map mb] W fun e w' => e = .returned (.func (.func 66) #[] #[.pointer (some ⟨W.heap.size, 0, none⟩)]) ∧ w' = W.alloc (.cells #[.map mb] 75) :=
  callsIn_wide.1 (AnyZI.keys_in keysA Fence.wide 5 trivial rfl mb W)
/-- The map's keys, sorted, in a new slice. -/
theorem sorted_any (w : World) (m : Nat) (f : Int → Option Value) (hm : MapR w m intV f) (c : Nat) (hc : c ≤ 100000) (hk : ∀ k v, f k = some v → ∃ j : Nat, k = (j : Int) ∧ j < c) :
    Calls Try.prog 43 #[.func (.func 66) #[] #[.pointer (some ⟨w.heap.size, 0, none⟩)]] (w.alloc (.cells #[.map (some m)] 75)) fun e w' => ∃ v, e = .returned v ∧ OwnI w' w.heap.size v ((dirtyL c f).map fun k : Nat => (k : Int)) ∧ Below w.heap.size w w' := by
  obtain ⟨nn, D0, hown, hsz, hperm⟩ := ownsMap_of hm c hc hk
  have hbl := hown.lt
  have hseq : SeqGives Fence.wide 2 Try.prog 66 #[.pointer (some ⟨w.heap.size, 0, none⟩)] encZ (fun ss => ss.Perm (intKeys D0)) (Maps.size D0) (w.alloc (.cells #[.map (some m)] 75)) :=
    AnyZI.keys_gives (ρ := keysA_ren) { keysA with } Fence.wide _ trivial rfl (by omega) w.heap.size m nn D0 _ (by simp) (by simp) (by
      obtain ⟨es, clock, hb, Ft, hs, hD⟩ := hown
      exact ⟨es, clock, (Below.heap_alloc _ _ m hbl).trans hb, Ft, hs, hD⟩)
  have cS := AnyZI.sorted_in sortedA Fence.wide 5 trivial trivial trivial trivial rfl (by omega) (sortsA _) (enters_of Try.func65 (by kernel_rfl) rfl) 66 #[.pointer (some ⟨w.heap.size, 0, none⟩)] trivial (enters_of Try.func66 (by kernel_rfl) rfl) _ _ (Nat.le_trans hsz (Nat.le_trans hc (by decide))) (by omega) _ hseq
  change CallsIn _ _ Try.prog 43 _ _ _ at cS
  refine (callsIn_wide.1 cS).mono ?_
  rintro e w' ⟨v, ss, rfl, hS, hrow, hnil, hb⟩
  refine ⟨v, rfl, ?_, ((Below.refl _ w).alloc (Nat.le_refl _) _).trans (hb.mono (by simp))⟩
  have hms : ss.mergeSort leI = (dirtyL c f).map fun k : Nat => (k : Int) := by
    rw [mergeSort_of_perm_i (hS.trans hperm.symm), sort_asc _ (dirtyL_asc c f)]
  have hrow2 := ownsRow_base_a hrow (show w.heap.size ≤ _ by simp)
  have hlen : ss.length = ((dirtyL c f).map fun k : Nat => (k : Int)).length := (hS.trans hperm.symm).length_eq
  unfold OwnI
  rw [← hms, List.length_mergeSort]
  exact hrow2
end Go.Proofs.Ytagipfkgnobjlaa
