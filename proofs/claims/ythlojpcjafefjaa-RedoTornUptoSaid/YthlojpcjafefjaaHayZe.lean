/- Contracts of functions of Go's library that are proved in the kit: the sorted keys of a map, a map's clone. Conditions: none. -/
import Derived.Test.YthlojpcjafefjaaHayZd
import Derived.Shelf.SlIter.Nil
import Derived.Shelf.SlIter.Sorted
import Derived.Shelf.SlMaps.Clone
set_option linter.unusedVariables false
set_option linter.unusedSimpArgs false
namespace Go.Hay
open Go.RowKit Go.Proofs Go.Shelf Go.Maps Go.Sort

/-- A contract that was proved in whatever way, in the small world of what is handed over. -/
theorem raw_ok [Sites] {P : Program} {F : Fs} {f : FuncId} (henter : ∀ args w, (callFunc f args).run P w = .ok (.enter f args) w) (hni : updIx F.ins = [])
    (hrun : ∀ x y, F.fn x = some y → ∀ (B : Bs) (c : Cf) (w : World) (vals : List Value), Rel B c (bld (fun k => k) F.ins x 0).2.1 w → VRs c w (bld (fun k => k) F.ins x 0).1 vals →
      Calls P f vals.toArray w fun e w' => ∃ c' us as1 s1 z1, e = .returned (tupV us) ∧ Rel B c' s1 w' ∧ Ext c w c' w' ∧ VRs c' w' as1 us ∧ xt F.outs as1 ⟨s1, [], []⟩ = some (y, [], z1)) : F.con.Ok P f where
  enters := henter
  runs := by
    intro args s nx (x : F.ins.den) (y : F.outs.den) v s1 n1 W hpre hfn hpost B c w vals hR hv
    simp only [Fs.con] at hpre hpost
    split at hpre
    · rename_i x' z hx
      cases hbk : backOk F.outs z nx with
      | false => simp [hbk] at hpre
      | true =>
        simp only [hbk, cond_true] at hpre
        obtain rfl : x' = x := Option.some.inj hpre
        rw [hx] at hpost
        simp only [Option.some.injEq, Prod.mk.injEq] at hpost
        obtain ⟨rfl, rfl, _⟩ := hpost
        simp only [backOk, Bool.and_eq_true] at hbk
        obtain ⟨⟨b1, b2⟩, b3, b4, b5⟩ := hbk
        obtain ⟨vs, I1, hH, hv0⟩ := handed hR hv hx hni
        refine (hrun x' y hfn (bs0 none w.heap.size w vs I1 _) (cf0 vs I1) w vals (hH.rel hR) hv0).mono ?_
        rintro e w' ⟨c1, us, as1, s1, z1, rfl, r1, hE, hvr, hx1⟩
        obtain ⟨c2, g1, g2, g3, _⟩ := hH.give hR r1 hE.lasts (fun i _ v hi => hE.nm i v hi) hvr hx1 b1 b2 rfl (Nat.le_of_ble_eq_true b5) b3 b4
        exact ⟨c2, _, rfl, g1, one_or_tuple g2, g3⟩
    · cases hpre
  wrote := by
    intro args s nx (x : F.ins.den) (y : F.outs.den) v s1 n1 W hpre hpost i hi
    simp only [Fs.con] at hpre hpost
    split at hpost
    · rename_i x' z hx
      simp only [Option.some.injEq, Prod.mk.injEq] at hpost
      obtain ⟨_, rfl, _, rfl⟩ := hpost
      rw [hx] at hpre
      simp only at hpre
      cases hbk : backOk F.outs z nx with
      | false => simp [hbk] at hpre
      | true =>
        simp only [backOk, Bool.and_eq_true] at hbk
        exact back_look hx hi (Nat.le_of_ble_eq_true hbk.2.2.2)
    · cases hpost

theorem xt_own {st : TypeId} {T : Ty} (s : Obs) (nx : Nat) (l : List T.den) {v : AV} (hv : rowName st v = some nx) (hnil : v ≠ .nils) : ∃ z1, xt (.cons (.own st T) .nil) [v] ⟨put s nx (.row st T l), [], []⟩ = some ((l, ()), [], z1) := by
  refine ⟨⟨put (put s nx (.row st T l)) nx .dead, [] ++ [(some nx, .row st T l)], []⟩, ?_⟩
  cases v <;> first | exact absurd rfl hnil | simp only [xt, hv, look_put, if_true, Nat.beq_refl, castL_refl]

/-- The keys of a map, sorted. -/
def sortKeys {β : Type} (l : List (List UInt8 × β)) : List (List UInt8) := (l.map (·.1)).mergeSort fun x y => decide (x ≤ y)

/-- slices.Sorted of the function that maps.Keys gives. kf: that function; mt: the map's type; st: the keys' type. -/
def sortedFs (kf : FuncId) (mt st e : TypeId) (E : Ty) : Fs :=
  ⟨.cons (.fn kf (.cons (.rbox mt (.cons (.rown e (.pair .str E)) .nil)) .nil)) .nil, .cons (.own st .str) .nil, fun x => bif room x.1.1.1.length 16 then some (sortKeys x.1.1.1, ()) else none⟩

theorem ents_keys {P : Program} {k : TypeId} (hk : P.underlying k = some .string) {I : Nat → Prop} {w : World} {agg : Bool} {E : Ty} : ∀ {l : List (List UInt8 × E.den)} {es : List MapEntry}, EntR I w agg E l es →
    (∀ x ∈ es, ∃ y, WideElems.rd (H := Unit) P k (fun _ => some (.nil, [])) x = some y) ∧ (es.map (WideElems.rg (H := Unit) P k fun _ => some (.nil, []))).map (fun p => strOf p.1) = l.map (·.1)
  | [], es, h => by simp only [EntR] at h; subst h; simp
  | p :: l, es, ⟨x, r, e, ⟨h1, h2, _⟩, h5⟩ => by
    subst e
    obtain ⟨g1, g2⟩ := ents_keys hk h5
    have hkey : keyOf P k x.key = some (.string p.1) := by
      rw [h1, WideMaps.keyOf_string_mk hk (by simpa [ByteArray.size] using h2)]
    have hrd : WideElems.rd (H := Unit) P k (fun _ => some (.nil, [])) x = some (.string p.1, .nil) := by simp [WideElems.rd, hkey]
    refine ⟨fun y hy => ?_, ?_⟩
    · rcases List.mem_cons.1 hy with rfl | hy
      · exact ⟨_, hrd⟩
      · exact g1 y hy
    · simp only [List.map_cons, g2]
      simp [WideElems.rg, hrd, strOf]

theorem ent_keys_le {I : Nat → Prop} {w : World} {agg : Bool} {E : Ty} : ∀ {l : List (List UInt8 × E.den)} {es : List MapEntry}, EntR I w agg E l es → ∀ k ∈ l.map (·.1), k.length ≤ maxLen
  | [], es, h, k, hk => by cases hk
  | p :: l, es, ⟨x, r, e, ⟨_, h2, _⟩, h5⟩, k, hk => by
    rcases List.mem_cons.1 hk with rfl | hk
    · exact h2
    · exact ent_keys_le h5 k hk

theorem cat_strs {I : Nat → Prop} {w : World} : ∀ {l : List (List UInt8)}, (∀ k ∈ l, k.length ≤ maxLen) → Cat (TR I w .str) l (l.map encStr)
  | [], _ => rfl
  | k :: l, h => ⟨[encStr k], l.map encStr, rfl, ⟨rfl, h k List.mem_cons_self⟩, cat_strs fun k hk => h k (List.mem_cons_of_mem _ hk)⟩

theorem sorted_ok [Sites] {P : Program} {ρ6 ρ10 : Ren} (L6 : SlLaysZ.n6 P ρ6) (L10 : SlLaysZ.n10 P ρ10) {mt st e : TypeId} {E : Ty} (hst : ρ6.t 26 = st) (hsm : isMapTy st = false) (hmt : isBig mt = false) (hem : isMapTy e = true) (hsort : ∀ m, AnyZ.SortsIn P ρ6 Fence.wide m)
    (e6 : ∀ args w, (callFunc (ρ6.f 6) args).run P w = .ok (.enter (ρ6.f 6) args) w) (e9 : ∀ args w, (callFunc (ρ6.f 9) args).run P w = .ok (.enter (ρ6.f 9) args) w) (e10 : ∀ args w, (callFunc (ρ10.f 10) args).run P w = .ok (.enter (ρ10.f 10) args) w)
    {f kf : FuncId} (hf : ρ6.f 6 = f) (hkf : ρ10.f 10 = kf) : (sortedFs kf mt st e E).con.Ok P f := by
  subst hf hkf
  refine raw_ok e6 rfl fun x y hfn B c w vals hR hv => ?_
  obtain ⟨⟨⟨l, _⟩, _⟩, u0⟩ := x
  simp only [sortedFs] at hfn hR hv
  cases hroom : room l.length 16 with
  | false => simp [hroom] at hfn
  | true =>
    simp only [hroom, cond_true] at hfn
    obtain rfl := Option.some.inj hfn
    obtain ⟨hb16, hbl⟩ := room_ok hroom
    -- the closure, its box, the map
    simp only [bld, List.append_nil, List.nil_append, List.cons_append, VRs, VR] at hv
    obtain ⟨u, us', rfl, ⟨us, vs, rfl, h1, h2⟩, h3⟩ := hv
    subst h1 h3
    obtain ⟨u1, us1, rfl, ⟨b0, hn0, rfl⟩, rfl⟩ := h2
    have hbox := hR.ob 0 _ (by simp only [bld, List.append_nil, List.nil_append, List.cons_append]; rfl)
    obtain ⟨b0', us0, hn0', hcell, hus0⟩ := hbox
    have hbb : b0' = b0 := by
      rw [hn0] at hn0'
      simp only [Option.some.injEq, Value.pointer.injEq, Addr.mk.injEq, and_true] at hn0'
      exact hn0'.symm
    subst hbb
    rw [boxObj_small hmt] at hcell
    have hrow := hR.ob 1 _ (by simp only [bld, List.append_nil, List.nil_append, List.cons_append]; rfl)
    have hrow' : ObR c w 1 (.row e (.pair .str E) l) := hrow
    obtain ⟨v1, usr, hn1, hra, hcat⟩ := hrow
    have hmp : ∃ bm, us0 = [.map (some bm)] ∧ c.nm 1 = some (.map (some bm)) := by
      simp only [mkRow, hem, cond_true, VRs, VR] at hus0
      obtain ⟨u, us', rfl, ⟨b, h4, rfl⟩, rfl⟩ := hus0
      exact ⟨b, rfl, h4⟩
    obtain ⟨bm, rfl, hnm⟩ := hmp
    obtain ⟨es, clock, hes, hstamp, hE, _⟩ := map_ents hrow' hnm
    have hkt : P.underlying (ρ10.t 26) = some .string := L10.t26
    obtain ⟨k1, k2⟩ := ents_keys hkt hE
    have hsz : es.size = l.length := by simpa using hE.cat.2.2.2
    have hown : w.ownsMap (H := Unit) P (ρ10.t 26) (fun _ => some (.nil, [])) bm es.size (.map ((es.toList.map (WideElems.rg P (ρ10.t 26) fun _ => some (.nil, []))).foldr DataW.insert [])) :=
      ⟨es, clock, hes, ⟨by rw [hsz]; unfold maxLen; omega, hstamp, k1⟩, Nat.le_refl _, rfl⟩
    have hlen : Maps.size (H := Unit) (.map ((es.toList.map (WideElems.rg P (ρ10.t 26) fun _ => some (.nil, []))).foldr DataW.insert [])) = l.length := by
      rw [Maps.size_eq, (WideShapes.sorted_perm _).length_eq]
      simp [hsz]
    have hlt : b0' < w.heap.size := (Array.getElem?_eq_some_iff.1 hcell).1
    have hseq := AnyZ.keys_gives (ρ := ρ10) L10 Fence.wide 2 trivial rfl (by omega) b0' bm es.size _ (R := fun _ => some (.nil, [])) w hlt (by rw [cell_of_row w b0' 0 _ _ _ hcell]; rfl) hown
    have hcall := AnyZ.sorted_in (ρ := ρ6) L6 Fence.wide 5 trivial trivial trivial trivial rfl (by omega) (hsort _) e9 (ρ10.f 10) #[.pointer (some ⟨b0', 0, none⟩)] trivial e10 _ _ (by rw [hlen]; unfold maxLen; omega) (by rw [hlen]; exact hb16) w hseq
    refine (callsIn_wide.1 hcall).mono ?_
    rintro e' w' ⟨v, ss, rfl, hperm, hrow2, hnil, hbelow⟩
    have hss : ss.mergeSort (fun x y => decide (x ≤ y)) = sortKeys l := by
      have h1 : ss.Perm (l.map (·.1)) := by
        refine hperm.trans ?_
        rw [← k2]
        exact (WideShapes.sorted_perm _).map _
      exact mergeSort_of_perm h1
    have hslen : ss.length = (sortKeys l).length := by rw [← hss]; exact (List.mergeSort_perm _ _).length_eq.symm
    rw [hss, hslen, hst] at hrow2
    have hkl : ∀ k ∈ sortKeys l, k.length ≤ maxLen := fun k hk => by
      have hk' : k ∈ l.map (·.1) := (List.mergeSort_perm _ _).mem_iff.1 hk
      exact ent_keys_le hE k hk'
    have hRow : RowAt w' st Ty.str.size v (sortKeys l).length ((sortKeys l).map encStr) := by
      refine ⟨by simp [Ty.size], ?_⟩
      rcases hrow2.2 with ⟨rfl, hz⟩ | ⟨g, cap, cur, rfl, hbase, hg, r1, r2, r3, r4⟩
      · exact .inl ⟨hz, none, rfl⟩
      · rcases Nat.eq_zero_or_pos cap with h0 | h0
        · left
          have : (sortKeys l).length = 0 := by omega
          exact ⟨this, _, by rw [this, h0]⟩
        · exact .inr (.inl ⟨g, cap, cur, rfl, h0, r1, r2, hg, r3, by simpa [Ty.size] using r4⟩)
    have hfresh : ∀ b, blockOf v = some b → w.heap.size ≤ b := fun b hb => by
      rcases hrow2.2 with ⟨rfl, hz⟩ | ⟨g, cap, cur, rfl, hbase, hg, r1, r2, r3, r4⟩
      · cases hb
      · simp only [blockOf] at hb
        split at hb
        · cases hb
        · simp only [Option.some.injEq] at hb; omega
    have hslice : isSlice v = true := by
      rcases hrow2.2 with ⟨rfl, hz⟩ | ⟨g, cap, cur, rfl, _⟩ <;> rfl
    obtain ⟨c', g1, g2, g3⟩ := newRow_does (nx := 2) (el := st) (t := .str) (l := sortKeys l) (v := v) (us := (sortKeys l).map encStr) (w' := w') hR (by simp only [bld, List.append_nil, List.nil_append, List.cons_append]; rfl)
      (fun b hb => hbelow.block b hb) hbelow.os hbelow.tape hbelow.output hbelow.size hRow hfresh (cat_strs hkl)
    obtain ⟨z1, hz1⟩ := xt_own (st := st) (T := .str) ((bld (fun k => k) (Sh.cons (.fn (ρ10.f 10) (.cons (.rbox mt (.cons (.rown e (.pair .str E)) .nil)) .nil)) .nil) (((l, ()), ()), ()) 0).2.1) 2 (sortKeys l) (v := .own 2) (by simp [rowName, hsm]) (fun h => by cases h)
    refine ⟨c', [v], [.own 2], _, z1, rfl, g1, g3, ?_, hz1⟩
    simp only [VRs, VR]
    exact ⟨v, [], rfl, ⟨g2, hslice⟩, rfl⟩

/-- maps.Clone. -/
def cloneFs (e : TypeId) (E : Ty) : Fs := ⟨.cons (.rown e (.pair .str E)) .nil, .cons (.own e (.pair .str E)) .nil, fun x => some (x.1, ())⟩

theorem clone_ok [Sites] {P : Program} {ρ : Ren} (L : SlLaysW.n5 P ρ) {e : TypeId} {E : Ty} (hem : isMapTy e = true) (e5 : ∀ args w, (callFunc (ρ.f 5) args).run P w = .ok (.enter (ρ.f 5) args) w) {f : FuncId} (hf : ρ.f 5 = f) : (cloneFs e E).con.Ok P f := by
  subst hf
  refine raw_ok e5 rfl fun x y hfn B c w vals hR hv => ?_
  obtain ⟨l, u0⟩ := x
  simp only [cloneFs] at hfn hR hv
  obtain rfl := Option.some.inj hfn
  simp only [bld, List.append_nil, List.nil_append, List.cons_append, mkRow, hem, cond_true, VRs, VR] at hv
  obtain ⟨u, us', rfl, ⟨b, hn, rfl⟩, rfl⟩ := hv
  have hrow : ObR c w 0 (.row e (.pair .str E) l) := (hR.ob 0 (.rrow e (.pair .str E) l) (by simp only [bld, List.append_nil, List.nil_append, List.cons_append]; rfl) :)
  obtain ⟨es, clock, hes, hst, hE, _⟩ := map_ents hrow hn
  refine (AnyW.maps_Clone (ρ := ρ) L b es clock w hes).mono ?_
  rintro e' w' ⟨rfl, rfl⟩
  obtain ⟨g1, g2, g3, g4⟩ := hE.cat
  obtain ⟨c', k1, k2, k3⟩ := newRow_does (nx := 1) (el := e) (t := .pair .str E) (l := l) (v := .map (some w.heap.size)) (us := es.toList.flatMap fun x => x.key :: x.val.cells.toList) (w' := w.alloc (.map es clock)) hR (by simp only [bld, List.append_nil, List.nil_append, List.cons_append]; rfl)
    (fun b hb => Below.heap_alloc w _ b hb) rfl rfl rfl (by simp)
    ⟨g1.length TR_len_fun, .inr (.inr ⟨w.heap.size, es, clock, rfl, heap_alloc_new w _, by simpa using g4, ⟨rfl, g2, g3, hst⟩, hem⟩)⟩
    (fun b hb => by simp only [blockOf, Option.some.injEq] at hb; omega) g1
  obtain ⟨z1, hz1⟩ := xt_own (st := e) (T := .pair .str E) ((bld (fun k => k) (Sh.cons (.rown e (.pair .str E)) .nil) (l, ()) 0).2.1) 1 l (v := .mp 1) (by simp [rowName, hem]) (fun h => by cases h)
  refine ⟨c', [.map (some w.heap.size)], [.mp 1], _, z1, rfl, k1, k3, ?_, hz1⟩
  simp only [VRs, VR]
  exact ⟨_, [], rfl, ⟨_, k2, rfl⟩, rfl⟩
end Go.Hay
