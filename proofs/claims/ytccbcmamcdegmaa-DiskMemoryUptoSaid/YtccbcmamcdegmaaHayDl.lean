/- Contracts of functions of Go's library that are proved in the kit: the sorted keys of a map, a map's clone. Conditions: none. -/
import Derived.Test.YtccbcmamcdegmaaHayZd
import Derived.Shelf.SlIter.Nil
import Derived.Shelf.SlIter.Sorted
import Derived.Shelf.SlMaps.Clone
import Derived.Sort.Walk0
set_option linter.unusedVariables false
set_option linter.unusedSimpArgs false
namespace Go.Hay
open Go.RowKit Go.Proofs Go.Shelf Go.Maps Go.Sort

/-- A contract that was proved in whatever way, in the small world of what is handed over. -/
theorem raw_ok [Sites] {P : Program} {F : Fs} {f : FuncId} (henter : ∀ args w, (callFunc f args).run P w = .ok (.enter f args) w) (hni : updIx F.ins = [])
    (hrun : ∀ x y, F.fn x = some y → ∀ (B : Bs) (c : Cf) (w : World) (vals : List Value), Rel B c (bld (fun k => k) F.ins x 0).2.1 w → VRs c w (bld (fun k => k) F.ins x 0).1 vals →
      Calls P f vals.toArray w fun e w' => ∃ c' us as1 s1 z1, e = .returned (tupV us) ∧ Rel B c' s1 w' ∧ Ext c w c' w' ∧ VRs c' w' as1 us ∧ xt F.outs as1 ⟨s1, [], []⟩ = some (y, [], z1)) : F.con.Ok P f where
  enters := henter
  runs := by
    intro args s nx (x : F.ins.den) (y : F.outs.den) v s1 n1 W hpre hfn hpost B c w vals hR hv
    simp only [Fs.con] at hpre hpost
    split at hpre
    · rename_i x' z hx
      cases hbk : backOk F.outs z nx with
      | false => simp [hbk] at hpre
      | true =>
        simp only [hbk, cond_true] at hpre
        obtain rfl : x' = x := Option.some.inj hpre
        rw [hx] at hpost
        simp only [Option.some.injEq, Prod.mk.injEq] at hpost
        obtain ⟨rfl, rfl, _⟩ := hpost
        simp only [backOk, Bool.and_eq_true] at hbk
        obtain ⟨⟨b1, b2⟩, b3, b4, b5⟩ := hbk
        obtain ⟨vs, I1, hH, hv0⟩ := handed hR hv hx hni
        refine (hrun x' y hfn (bs0 none w.heap.size w vs I1 _) (cf0 vs I1) w vals (hH.rel hR) hv0).mono ?_
        rintro e w' ⟨c1, us, as1, s1, z1, rfl, r1, hE, hvr, hx1⟩
        obtain ⟨c2, g1, g2, g3, _⟩ := hH.give hR r1 hE.lasts (fun i _ v hi => hE.nm i v hi) hvr hx1 b1 b2 rfl (Nat.le_of_ble_eq_true b5) b3 b4
        exact ⟨c2, _, rfl, g1, one_or_tuple g2, g3⟩
    · cases hpre
  wrote := by
    intro args s nx (x : F.ins.den) (y : F.outs.den) v s1 n1 W hpre hpost i hi
    simp only [Fs.con] at hpre hpost
    split at hpost
    · rename_i x' z hx
      simp only [Option.some.injEq, Prod.mk.injEq] at hpost
      obtain ⟨_, rfl, _, rfl⟩ := hpost
      rw [hx] at hpre
      simp only at hpre
      cases hbk : backOk F.outs z nx with
      | false => simp [hbk] at hpre
      | true =>
        simp only [backOk, Bool.and_eq_true] at hbk
        exact back_look hx hi (Nat.le_of_ble_eq_true hbk.2.2.2)
    · cases hpost

theorem xt_own {st : TypeId} {T : Ty} (s : Obs) (nx : Nat) (l : List T.den) {v : AV} (hv : rowName st v = some nx) (hnil : v ≠ .nils) : ∃ z1, xt (.cons (.own st T) .nil) [v] ⟨put s nx (.row st T l), [], []⟩ = some ((l, ()), [], z1) := by
  refine ⟨⟨put (put s nx (.row st T l)) nx .dead, [] ++ [(some nx, .row st T l)], []⟩, ?_⟩
  cases v <;> first | exact absurd rfl hnil | simp only [xt, hv, look_put, if_true, Nat.beq_refl, castL_refl]

/-- The keys of a map, sorted. -/
def sortKeys {β : Type} (l : List (List UInt8 × β)) : List (List UInt8) := (l.map (·.1)).mergeSort fun x y => decide (x ≤ y)

/-- slices.Sorted of the function that maps.Keys gives. kf: that function; mt: the map's type; st: the keys' type. -/
def sortedFs (kf : FuncId) (mt st e : TypeId) (E : Ty) : Fs :=
  ⟨.cons (.fn kf (.cons (.rbox mt (.cons (.rown e (.pair .str E)) .nil)) .nil)) .nil, .cons (.own st .str) .nil, fun x => bif room x.1.1.1.length 16 then some (sortKeys x.1.1.1, ()) else none⟩

theorem ents_keys {P : Program} {k : TypeId} (hk : P.underlying k = some .string) {I : Nat → Prop} {w : World} {agg : Bool} {E : Ty} : ∀ {l : List (List UInt8 × E.den)} {es : List MapEntry}, EntR I w agg E l es →
    (∀ x ∈ es, ∃ y, WideElems.rd (H := Unit) P k (fun _ => some (.nil, [])) x = some y) ∧ (es.map (WideElems.rg (H := Unit) P k fun _ => some (.nil, []))).map (fun p => strOf p.1) = l.map (·.1)
  | [], es, h => by simp only [EntR] at h; subst h; simp
  | p :: l, es, ⟨x, r, e, ⟨h1, h2, _⟩, h5⟩ => by
    subst e
    obtain ⟨g1, g2⟩ := ents_keys hk h5
    have hkey : keyOf P k x.key = some (.string p.1) := by
      rw [h1, WideMaps.keyOf_string_mk hk (by simpa [ByteArray.size] using h2)]
    have hrd : WideElems.rd (H := Unit) P k (fun _ => some (.nil, [])) x = some (.string p.1, .nil) := by simp [WideElems.rd, hkey]
    refine ⟨fun y hy => ?_, ?_⟩
    · rcases List.mem_cons.1 hy with rfl | hy
      · exact ⟨_, hrd⟩
      · exact g1 y hy
    · simp only [List.map_cons, g2]
      simp [WideElems.rg, hrd, strOf]

theorem ent_keys_le {I : Nat → Prop} {w : World} {agg : Bool} {E : Ty} : ∀ {l : List (List UInt8 × E.den)} {es : List MapEntry}, EntR I w agg E l es → ∀ k ∈ l.map (·.1), k.length ≤ maxLen
  | [], es, h, k, hk => by cases hk
  | p :: l, es, ⟨x, r, e, ⟨_, h2, _⟩, h5⟩, k, hk => by
    rcases List.mem_cons.1 hk with rfl | hk
    · exact h2
    · exact ent_keys_le h5 k hk

theorem cat_strs {I : Nat → Prop} {w : World} : ∀ {l : List (List UInt8)}, (∀ k ∈ l, k.length ≤ maxLen) → Cat (TR I w .str) l (l.map encStr)
  | [], _ => rfl
  | k :: l, h => ⟨[encStr k], l.map encStr, rfl, ⟨rfl, h k List.mem_cons_self⟩, cat_strs fun k hk => h k (List.mem_cons_of_mem _ hk)⟩

theorem sorted_ok [Sites] {P : Program} {ρ6 ρ10 : Ren} (L6 : SlLaysZ.n6 P ρ6) (L10 : SlLaysZ.n10 P ρ10) {mt st e : TypeId} {E : Ty} (hst : ρ6.t 26 = st) (hsm : isMapTy st = false) (hmt : isBig mt = false) (hem : isMapTy e = true) (hsort : ∀ m, AnyZ.SortsIn P ρ6 Fence.wide m)
    (e6 : ∀ args w, (callFunc (ρ6.f 6) args).run P w = .ok (.enter (ρ6.f 6) args) w) (e9 : ∀ args w, (callFunc (ρ6.f 9) args).run P w = .ok (.enter (ρ6.f 9) args) w) (e10 : ∀ args w, (callFunc (ρ10.f 10) args).run P w = .ok (.enter (ρ10.f 10) args) w)
    {f kf : FuncId} (hf : ρ6.f 6 = f) (hkf : ρ10.f 10 = kf) : (sortedFs kf mt st e E).con.Ok P f := by
  subst hf hkf
  refine raw_ok e6 rfl fun x y hfn B c w vals hR hv => ?_
  obtain ⟨⟨⟨l, _⟩, _⟩, u0⟩ := x
  simp only [sortedFs] at hfn hR hv
  cases hroom : room l.length 16 with
  | false => simp [hroom] at hfn
  | true =>
    simp only [hroom, cond_true] at hfn
    obtain rfl := Option.some.inj hfn
    obtain ⟨hb16, hbl⟩ := room_ok hroom
    -- the closure, its box, the map
    simp only [bld, List.append_nil, List.nil_append, List.cons_append, VRs, VR] at hv
    obtain ⟨u, us', rfl, ⟨us, vs, rfl, h1, h2⟩, h3⟩ := hv
    subst h1 h3
    obtain ⟨u1, us1, rfl, ⟨b0, hn0, rfl⟩, rfl⟩ := h2
    have hbox := hR.ob 0 _ (by simp only [bld, List.append_nil, List.nil_append, List.cons_append]; rfl)
    obtain ⟨b0', us0, hn0', hcell, hus0⟩ := hbox
    have hbb : b0' = b0 := by
      rw [hn0] at hn0'
      simp only [Option.some.injEq, Value.pointer.injEq, Addr.mk.injEq, and_true] at hn0'
      exact hn0'.symm
    subst hbb
    rw [boxObj_small hmt] at hcell
    have hrow := hR.ob 1 _ (by simp only [bld, List.append_nil, List.nil_append, List.cons_append]; rfl)
    have hrow' : ObR c w 1 (.row e (.pair .str E) l) := hrow
    obtain ⟨v1, usr, hn1, hra, hcat⟩ := hrow
    have hmp : ∃ bm, us0 = [.map (some bm)] ∧ c.nm 1 = some (.map (some bm)) := by
      simp only [mkRow, hem, cond_true, VRs, VR] at hus0
      obtain ⟨u, us', rfl, ⟨b, h4, rfl⟩, rfl⟩ := hus0
      exact ⟨b, rfl, h4⟩
    obtain ⟨bm, rfl, hnm⟩ := hmp
    obtain ⟨es, clock, hes, hstamp, hE, _⟩ := map_ents hrow' hnm
    have hkt : P.underlying (ρ10.t 26) = some .string := L10.t26
    obtain ⟨k1, k2⟩ := ents_keys hkt hE
    have hsz : es.size = l.length := by simpa using hE.cat.2.2.2
    have hown : w.ownsMap (H := Unit) P (ρ10.t 26) (fun _ => some (.nil, [])) bm es.size (.map ((es.toList.map (WideElems.rg P (ρ10.t 26) fun _ => some (.nil, []))).foldr DataW.insert [])) :=
      ⟨es, clock, hes, ⟨by rw [hsz]; unfold maxLen; omega, hstamp, k1⟩, Nat.le_refl _, rfl⟩
    have hlen : Maps.size (H := Unit) (.map ((es.toList.map (WideElems.rg P (ρ10.t 26) fun _ => some (.nil, []))).foldr DataW.insert [])) = l.length := by
      rw [Maps.size_eq, (WideShapes.sorted_perm _).length_eq]
      simp [hsz]
    have hlt : b0' < w.heap.size := (Array.getElem?_eq_some_iff.1 hcell).1
    have hseq := AnyZ.keys_gives (ρ := ρ10) L10 Fence.wide 2 trivial rfl (by omega) b0' bm es.size _ (R := fun _ => some (.nil, [])) w hlt (by rw [cell_of_row w b0' 0 _ _ _ hcell]; rfl) hown
    have hcall := AnyZ.sorted_in (ρ := ρ6) L6 Fence.wide 5 trivial trivial trivial trivial rfl (by omega) (hsort _) e9 (ρ10.f 10) #[.pointer (some ⟨b0', 0, none⟩)] trivial e10 _ _ (by rw [hlen]; unfold maxLen; omega) (by rw [hlen]; exact hb16) w hseq
    refine (callsIn_wide.1 hcall).mono ?_
    rintro e' w' ⟨v, ss, rfl, hperm, hrow2, hnil, hbelow⟩
    have hss : ss.mergeSort (fun x y => decide (x ≤ y)) = sortKeys l := by
      have h1 : ss.Perm (l.map (·.1)) := by
        refine hperm.trans ?_
        rw [← k2]
        exact (WideShapes.sorted_perm _).map _
      exact mergeSort_of_perm h1
    have hslen : ss.length = (sortKeys l).length := by rw [← hss]; exact (List.mergeSort_perm _ _).length_eq.symm
    rw [hss, hslen, hst] at hrow2
    have hkl : ∀ k ∈ sortKeys l, k.length ≤ maxLen := fun k hk => by
      have hk' : k ∈ l.map (·.1) := (List.mergeSort_perm _ _).mem_iff.1 hk
      exact ent_keys_le hE k hk'
    have hRow : RowAt w' st Ty.str.size v (sortKeys l).length ((sortKeys l).map encStr) := by
      refine ⟨by simp [Ty.size], ?_⟩
      rcases hrow2.2 with ⟨rfl, hz⟩ | ⟨g, cap, cur, rfl, hbase, hg, r1, r2, r3, r4⟩
      · exact .inl ⟨hz, none, rfl⟩
      · rcases Nat.eq_zero_or_pos cap with h0 | h0
        · left
          have : (sortKeys l).length = 0 := by omega
          exact ⟨this, _, by rw [this, h0]⟩
        · exact .inr (.inl ⟨g, cap, cur, rfl, h0, r1, r2, hg, r3, by simpa [Ty.size] using r4⟩)
    have hfresh : ∀ b, blockOf v = some b → w.heap.size ≤ b := fun b hb => by
      rcases hrow2.2 with ⟨rfl, hz⟩ | ⟨g, cap, cur, rfl, hbase, hg, r1, r2, r3, r4⟩
      · cases hb
      · simp only [blockOf] at hb
        split at hb
        · cases hb
        · simp only [Option.some.injEq] at hb; omega
    have hslice : isSlice v = true := by
      rcases hrow2.2 with ⟨rfl, hz⟩ | ⟨g, cap, cur, rfl, _⟩ <;> rfl
    obtain ⟨c', g1, g2, g3⟩ := newRow_does (nx := 2) (el := st) (t := .str) (l := sortKeys l) (v := v) (us := (sortKeys l).map encStr) (w' := w') hR (by simp only [bld, List.append_nil, List.nil_append, List.cons_append]; rfl)
      (fun b hb => hbelow.block b hb) hbelow.os hbelow.tape hbelow.output hbelow.size hRow hfresh (cat_strs hkl)
    obtain ⟨z1, hz1⟩ := xt_own (st := st) (T := .str) ((bld (fun k => k) (Sh.cons (.fn (ρ10.f 10) (.cons (.rbox mt (.cons (.rown e (.pair .str E)) .nil)) .nil)) .nil) (((l, ()), ()), ()) 0).2.1) 2 (sortKeys l) (v := .own 2) (by simp [rowName, hsm]) (fun h => by cases h)
    refine ⟨c', [v], [.own 2], _, z1, rfl, g1, g3, ?_, hz1⟩
    simp only [VRs, VR]
    exact ⟨v, [], rfl, ⟨g2, hslice⟩, rfl⟩

/-- maps.Clone. -/
def cloneFs (e : TypeId) (E : Ty) : Fs := ⟨.cons (.rown e (.pair .str E)) .nil, .cons (.own e (.pair .str E)) .nil, fun x => some (x.1, ())⟩

theorem clone_ok [Sites] {P : Program} {ρ : Ren} (L : SlLaysW.n5 P ρ) {e : TypeId} {E : Ty} (hem : isMapTy e = true) (e5 : ∀ args w, (callFunc (ρ.f 5) args).run P w = .ok (.enter (ρ.f 5) args) w) {f : FuncId} (hf : ρ.f 5 = f) : (cloneFs e E).con.Ok P f := by
  subst hf
  refine raw_ok e5 rfl fun x y hfn B c w vals hR hv => ?_
  obtain ⟨l, u0⟩ := x
  simp only [cloneFs] at hfn hR hv
  obtain rfl := Option.some.inj hfn
  simp only [bld, List.append_nil, List.nil_append, List.cons_append, mkRow, hem, cond_true, VRs, VR] at hv
  obtain ⟨u, us', rfl, ⟨b, hn, rfl⟩, rfl⟩ := hv
  have hrow : ObR c w 0 (.row e (.pair .str E) l) := (hR.ob 0 (.rrow e (.pair .str E) l) (by simp only [bld, List.append_nil, List.nil_append, List.cons_append]; rfl) :)
  obtain ⟨es, clock, hes, hst, hE, _⟩ := map_ents hrow hn
  refine (AnyW.maps_Clone (ρ := ρ) L b es clock w hes).mono ?_
  rintro e' w' ⟨rfl, rfl⟩
  obtain ⟨g1, g2, g3, g4⟩ := hE.cat
  obtain ⟨c', k1, k2, k3⟩ := newRow_does (nx := 1) (el := e) (t := .pair .str E) (l := l) (v := .map (some w.heap.size)) (us := es.toList.flatMap fun x => x.key :: x.val.cells.toList) (w' := w.alloc (.map es clock)) hR (by simp only [bld, List.append_nil, List.nil_append, List.cons_append]; rfl)
    (fun b hb => Below.heap_alloc w _ b hb) rfl rfl rfl (by simp)
    ⟨g1.length TR_len_fun, .inr (.inr ⟨w.heap.size, es, clock, rfl, heap_alloc_new w _, by simpa using g4, ⟨rfl, g2, g3, hst⟩, hem⟩)⟩
    (fun b hb => by simp only [blockOf, Option.some.injEq] at hb; omega) g1
  obtain ⟨z1, hz1⟩ := xt_own (st := e) (T := .pair .str E) ((bld (fun k => k) (Sh.cons (.rown e (.pair .str E)) .nil) (l, ()) 0).2.1) 1 l (v := .mp 1) (by simp [rowName, hem]) (fun h => by cases h)
  refine ⟨c', [.map (some w.heap.size)], [.mp 1], _, z1, rfl, k1, k3, ?_, hz1⟩
  simp only [VRs, VR]
  exact ⟨_, [], rfl, ⟨_, k2, rfl⟩, rfl⟩
end Go.Hay
/- Steps of plain laws: what the words of printed functions come to. Conditions: none. -/
set_option linter.unusedVariables false
set_option linter.unusedSimpArgs false
namespace Go.Hay
section
variable {α β : Type}

/-- Steps through a printed function. -/
theorem go_t {c : Bool} {a b y : Option α} (hc : c = true) (h : a = y) : (bif c then a else b) = y := by rw [hc]; exact h
theorem go_f {c : Bool} {a b y : Option α} (hc : c = false) (h : b = y) : (bif c then a else b) = y := by rw [hc]; exact h
theorem go_o {x : Option α} {v : α} {f : α → Option β} {y : Option β} (hx : x = some v) (h : f v = y) : obind x f = y := by rw [hx]; exact h
theorem go_d {p : Prop} [Decidable p] {a b y : Option α} (hc : p) (h : a = y) : (bif decide p then a else b) = y := by rw [decide_eq_true hc]; exact h
theorem go_n {p : Prop} [Decidable p] {a b y : Option α} (hc : ¬ p) (h : b = y) : (bif decide p then a else b) = y := by rw [decide_eq_false hc]; exact h
theorem go_nd {p : Prop} [Decidable p] {a b y : Option α} (hc : p) (h : b = y) : (bif !decide p then a else b) = y := by rw [decide_eq_true hc]; exact h
theorem go_nn {p : Prop} [Decidable p] {a b y : Option α} (hc : ¬ p) (h : a = y) : (bif !decide p then a else b) = y := by rw [decide_eq_false hc]; exact h
theorem pick2_same (b : Bool) (x : Option α) : pick2 b x x = x := by unfold pick2; cases b <;> simp
theorem go_p {b : Bool} {x y z : Option α} (h1 : y = z) (h2 : b = true → x = z) : pick2 b x y = z := by
  unfold pick2
  cases b with
  | false => exact h1
  | true => simp only [cond_true]; rw [h1, h2 rfl]; simp

theorem room_t {n b : Nat} (h : n * b ≤ 140737488355328) (h2 : n ≤ 140737488355328) : room n b = true := by simp [room, h, h2]
theorem inB_t {k : Int} {n : Nat} (h1 : 0 ≤ k) (h2 : k < n) : inB k n = true := by simp [inB, h1, h2]
theorem inB_nat {k n : Nat} (h2 : k < n) : inB (k : Int) n = true := inB_t (Int.natCast_nonneg k) (by omega)
theorem okB_t {a b : Int} {n : Nat} (h1 : 0 ≤ a) (h2 : a ≤ b) (h3 : b ≤ n) : okB a b n = true := by simp [okB, h1, h2, h3]

theorem wrap_i64 {x : Int} (h1 : -9223372036854775808 ≤ x) (h2 : x < 9223372036854775808) : IntKind.i64.wrap x = x := by rw [IntKind.wrap_i64]; omega
theorem w_u64 (n : Int) : IntKind.u64.wrap n = n % 18446744073709551616 := by simp [IntKind.wrap, IntKind.bits, IntKind.signed]
theorem w_u32 (n : Int) : IntKind.u32.wrap n = n % 4294967296 := by simp [IntKind.wrap, IntKind.bits, IntKind.signed]
theorem w_u16 (n : Int) : IntKind.u16.wrap n = n % 65536 := by simp [IntKind.wrap, IntKind.bits, IntKind.signed]
theorem w_u8 (n : Int) : IntKind.u8.wrap n = n % 256 := by simp [IntKind.wrap, IntKind.bits, IntKind.signed]
theorem w_i64 (n : Int) : IntKind.i64.wrap n = (n + 9223372036854775808) % 18446744073709551616 - 9223372036854775808 := by rw [IntKind.wrap_i64]
theorem wrap_nat (k : Nat) (h : k < 9223372036854775808) : IntKind.i64.wrap (k : Int) = k := wrap_i64 (by omega) (by omega)
theorem wrap_succ (k : Nat) (h : k < 9223372036854775807) : IntKind.i64.wrap ((k : Int) + 1) = ((k + 1 : Nat) : Int) := by rw [wrap_i64] <;> omega


/-- A loop over an index that looks for something. -/
theorem loop_find_from {β γ : Type} {go : Nat → Int → Option (β ⊕ γ)} {n : Nat} {p : Nat → Bool} {v : Nat → β} {e : γ} (hn : n ≤ 4611686018427387904) (hend : ∀ fuel, go (fuel + 1) (n : Int) = some (.inr e))
    (hstep : ∀ i < n, ∀ fuel, (∀ j < i, p j = false) → go (fuel + 1) (i : Int) = if p i = true then some (.inl (v i)) else go fuel (IntKind.i64.wrap ((i : Int) + 1))) :
    ∀ d i fuel, n = i + d → d < fuel → (∀ j < i, p j = false) → (∃ j < n, p j = true ∧ (∀ m < j, p m = false) ∧ go fuel (i : Int) = some (.inl (v j))) ∨ ((∀ j < n, p j = false) ∧ go fuel (i : Int) = some (.inr e))
  | _, _, 0, _, h, _ => absurd h (Nat.not_lt_zero _)
  | 0, i, fuel + 1, e1, hf, hp => by
    have : i = n := by omega
    subst this
    exact .inr ⟨hp, hend _⟩
  | d + 1, i, fuel + 1, e1, hf, hp => by
    rw [hstep i (by omega) fuel hp]
    cases h : p i with
    | true => exact .inl ⟨i, by omega, h, hp, rfl⟩
    | false =>
      rw [if_neg (by decide), wrap_succ i (by omega)]
      exact loop_find_from hn hend hstep d (i + 1) fuel (by omega) (by omega) fun j hj => by
        rcases Nat.lt_succ_iff_lt_or_eq.1 hj with h1 | rfl
        · exact hp j h1
        · exact h
theorem loop_find {β γ : Type} {go : Nat → Int → Option (β ⊕ γ)} {n : Nat} {p : Nat → Bool} {v : Nat → β} {e : γ} (hn : n ≤ 4611686018427387904) (hend : ∀ fuel, go (fuel + 1) (n : Int) = some (.inr e))
    (hstep : ∀ i < n, ∀ fuel, (∀ j < i, p j = false) → go (fuel + 1) (i : Int) = if p i = true then some (.inl (v i)) else go fuel (IntKind.i64.wrap ((i : Int) + 1))) {N : Nat} (hN : n < N) :
    (∃ j < n, p j = true ∧ (∀ m < j, p m = false) ∧ go N 0 = some (.inl (v j))) ∨ ((∀ j < n, p j = false) ∧ go N 0 = some (.inr e)) :=
  loop_find_from hn hend hstep n 0 N (by omega) hN fun j hj => absurd hj (Nat.not_lt_zero _)
/-- A loop over an index that turns something. -/
theorem loop_turn_from {β γ : Type} {go : Nat → β → Int → Option γ} {n : Nat} {fin : β → γ} (Q : Nat → β → Prop) (hn : n ≤ 4611686018427387904) (hend : ∀ fuel b, Q n b → go (fuel + 1) b (n : Int) = some (fin b))
    (hstep : ∀ i < n, ∀ b, Q i b → ∃ b', Q (i + 1) b' ∧ ∀ fuel, go (fuel + 1) b (i : Int) = go fuel b' (IntKind.i64.wrap ((i : Int) + 1))) :
    ∀ d i fuel b, n = i + d → d < fuel → Q i b → ∃ b', Q n b' ∧ go fuel b (i : Int) = some (fin b')
  | _, _, 0, _, _, h, _ => absurd h (Nat.not_lt_zero _)
  | 0, i, fuel + 1, b, e1, hf, hq => by
    have : i = n := by omega
    subst this
    exact ⟨b, hq, hend _ _ hq⟩
  | d + 1, i, fuel + 1, b, e1, hf, hq => by
    obtain ⟨b', h1, h2⟩ := hstep i (by omega) b hq
    rw [h2 fuel, wrap_succ i (by omega)]
    exact loop_turn_from Q hn hend hstep d (i + 1) fuel b' (by omega) (by omega) h1
theorem loop_turn {β γ : Type} {go : Nat → β → Int → Option γ} {n : Nat} {fin : β → γ} (Q : Nat → β → Prop) (hn : n ≤ 4611686018427387904) (hend : ∀ fuel b, Q n b → go (fuel + 1) b (n : Int) = some (fin b))
    (hstep : ∀ i < n, ∀ b, Q i b → ∃ b', Q (i + 1) b' ∧ ∀ fuel, go (fuel + 1) b (i : Int) = go fuel b' (IntKind.i64.wrap ((i : Int) + 1))) {N : Nat} (hN : n < N) {b : β} (h0 : Q 0 b) : ∃ b', Q n b' ∧ go N b 0 = some (fin b') :=
  loop_turn_from Q hn hend hstep n 0 N b (by omega) hN h0

theorem getD_get {α : Type} {l : List α} {i : Nat} (h : i < l.length) (d : α) : l.getD i d = l[i] := by rw [List.getD_eq_getElem?_getD, List.getElem?_eq_getElem h]; rfl
theorem take_succ' {α : Type} {l : List α} {i : Nat} (h : i < l.length) : l.take (i + 1) = l.take i ++ [l[i]] := by rw [List.take_succ_eq_append_getElem h]

theorem blk_pos_slice (T : Ty) (l : List T.den) : 1 ≤ blk (.slice T) l := by simp [blk]
theorem blk_mem {T : Ty} {l : List T.den} {x : T.den} (h : x ∈ l) : blk T x + 1 ≤ blk (.slice T) l := by
  have : ∀ {l : List T.den}, x ∈ l → blk T x ≤ (l.map (blk T)).sum := by
    intro l
    induction l with
    | nil => intro h; cases h
    | cons a l ih =>
      intro h
      simp only [List.map_cons, List.sum_cons]
      rcases List.mem_cons.1 h with rfl | h
      · omega
      · have := ih h; omega
  have := this h
  simp only [blk]; omega
theorem blk_len {T : Ty} (hT : ∀ x : T.den, 1 ≤ blk T x) (l : List T.den) : l.length + 1 ≤ blk (.slice T) l := by
  have : l.length ≤ (l.map (blk T)).sum := by
    induction l with
    | nil => simp
    | cons a l ih =>
      have := hT a
      simp only [List.map_cons, List.sum_cons, List.length_cons]; omega
  simp only [blk]; omega
theorem blk_bytes (l : List UInt8) : l.length + 1 ≤ blk (.slice .byte) l := blk_len (T := .byte) (fun _ => Nat.le_refl 1) l
end
end Go.Hay
/- A disk as a list of files, by rising names: what its calls come to, in plain Lean. Conditions: none. -/
set_option linter.unusedVariables false
set_option linter.unusedSimpArgs false
namespace Go.Hay

abbrev DNm := List UInt8
abbrev DFl := List UInt8 × Int
abbrev DFs := List (List UInt8 × List UInt8 × Int)
abbrev f0 : DFl := (([] : List UInt8), (0 : Int))

def rm (k : DNm) (l : DFs) : DFs := l.filter fun p => !decide (p.1 = k)
def sumL : DFs → Nat
  | [] => 0
  | p :: l => p.2.1.length + sumL l
def KeysN (l : DFs) : Prop := l.Pairwise fun a b => a.1 ≠ b.1
def SortedF (l : DFs) : Prop := l.Pairwise fun a b => a.1 < b.1

theorem lt_ne {a b : DNm} (h : a < b) : a ≠ b := fun e => by subst e; exact List.lt_irrefl a h
theorem SortedF.keys {l : DFs} (h : SortedF l) : KeysN l := h.imp fun h => lt_ne h
theorem KeysN.perm {l m : DFs} (h : KeysN l) (hp : l.Perm m) : KeysN m := (hp.pairwise_iff (R := fun a b : DNm × DFl => a.1 ≠ b.1) fun {a b} h => fun e => h e.symm).1 h

theorem has_iff {l : DFs} {k : DNm} : mapHas l k = true ↔ ∃ v, (k, v) ∈ l := by
  unfold mapHas
  rw [List.any_eq_true]
  constructor
  · rintro ⟨p, h1, h2⟩
    have := of_decide_eq_true h2
    subst this
    exact ⟨p.2, h1⟩
  · rintro ⟨v, h⟩
    exact ⟨_, h, decide_eq_true rfl⟩
theorem get_mem {l : DFs} (hn : KeysN l) {k : DNm} {v : DFl} (h : (k, v) ∈ l) (d : DFl) : mapGet l k d = v := by
  induction l with
  | nil => cases h
  | cons p l ih =>
    obtain ⟨h1, h2⟩ := List.pairwise_cons.1 hn
    rcases List.mem_cons.1 h with e | h
    · subst e
      simp [mapGet]
    · have hne : ¬ p.1 = k := h1 _ h
      have := ih h2 h
      simp only [mapGet, List.find?_cons, hne, decide_false] at *
      exact this
theorem get_no {l : DFs} {k : DNm} (h : mapHas l k = false) (d : DFl) : mapGet l k d = d := by
  induction l with
  | nil => rfl
  | cons p l ih =>
    simp only [mapHas, List.any_cons, Bool.or_eq_false_iff] at h
    have := ih h.2
    simp only [mapGet, List.find?_cons, h.1] at *
    exact this
theorem has_get {l : DFs} {k : DNm} (hn : KeysN l) (h : mapHas l k = true) (d : DFl) : (k, mapGet l k d) ∈ l := by
  obtain ⟨v, hv⟩ := has_iff.1 h
  rw [get_mem hn hv]
  exact hv
theorem perm_has {l m : DFs} (h : l.Perm m) (k : DNm) : mapHas l k = mapHas m k := by
  rw [Bool.eq_iff_iff, has_iff, has_iff]
  exact ⟨fun ⟨v, hv⟩ => ⟨v, h.mem_iff.1 hv⟩, fun ⟨v, hv⟩ => ⟨v, h.mem_iff.2 hv⟩⟩
theorem perm_get {l m : DFs} (h : l.Perm m) (hn : KeysN l) (k : DNm) (d : DFl) : mapGet l k d = mapGet m k d := by
  cases hh : mapHas l k with
  | true => exact get_mem hn (h.mem_iff.2 (has_get (hn.perm h) (by rw [← perm_has h]; exact hh) d)) d
  | false => rw [get_no hh, get_no (by rw [← perm_has h]; exact hh)]

theorem rm_cons_self {p : DNm × DFl} {l : DFs} : rm p.1 (p :: l) = rm p.1 l := by simp [rm]
theorem rm_cons_ne {p : DNm × DFl} {l : DFs} {k : DNm} (h : ¬ p.1 = k) : rm k (p :: l) = p :: rm k l := by simp [rm, h]
theorem rm_no {l : DFs} {k : DNm} (h : ∀ p ∈ l, p.1 ≠ k) : rm k l = l := by
  unfold rm
  exact List.filter_eq_self.2 fun p hp => by simp [h p hp]
theorem rm_mem {l : DFs} {k : DNm} {p : DNm × DFl} : p ∈ rm k l ↔ p ∈ l ∧ p.1 ≠ k := by simp [rm, List.mem_filter]
theorem rm_perm {l m : DFs} (h : l.Perm m) (k : DNm) : (rm k l).Perm (rm k m) := h.filter _
theorem rm_sorted {l : DFs} (h : SortedF l) (k : DNm) : SortedF (rm k l) := h.sublist List.filter_sublist
theorem rm_keys {l : DFs} (h : KeysN l) (k : DNm) : KeysN (rm k l) := List.Pairwise.sublist List.filter_sublist h
theorem rm_len (l : DFs) (k : DNm) : (rm k l).length ≤ l.length := List.length_filter_le _ _
theorem del_rm {l : DFs} (h : KeysN l) (k : DNm) : mapDel l k = rm k l := by
  induction l with
  | nil => rfl
  | cons p l ih =>
    obtain ⟨h1, h2⟩ := List.pairwise_cons.1 h
    by_cases e : p.1 = k
    · subst e
      rw [rm_cons_self, rm_no fun q hq => (h1 q hq).symm]
      simp [mapDel]
    · rw [rm_cons_ne e, ← ih h2]
      simp [mapDel, e]
theorem put_perm {l : DFs} (h : KeysN l) (k : DNm) (v : DFl) : (mapPut l k v).Perm ((k, v) :: rm k l) := by
  induction l with
  | nil => exact List.Perm.refl _
  | cons p l ih =>
    obtain ⟨h1, h2⟩ := List.pairwise_cons.1 h
    by_cases e : p.1 = k
    · subst e
      rw [rm_cons_self, rm_no fun q hq => (h1 q hq).symm]
      simp [mapPut]
    · rw [rm_cons_ne e]
      simp only [mapPut, e, decide_false, cond_false]
      exact ((ih h2).cons p).trans (.swap _ _ _)
theorem put_new {l : DFs} {k : DNm} (h : mapHas l k = false) (v : DFl) : mapPut l k v = l ++ [(k, v)] := by
  induction l with
  | nil => rfl
  | cons p l ih =>
    simp only [mapHas, List.any_cons, Bool.or_eq_false_iff] at h
    simp only [mapPut, h.1, cond_false, List.cons_append]
    rw [ih h.2]

/-- A file in its place among others, by rising names; of its name there was one, or none. -/
def insF (f : DNm × DFl) : DFs → DFs
  | [] => [f]
  | g :: r => if f.1 ≤ g.1 then f :: rm f.1 (g :: r) else g :: insF f r
theorem insF_perm (f : DNm × DFl) : ∀ l : DFs, (insF f l).Perm (f :: rm f.1 l)
  | [] => List.Perm.refl _
  | g :: r => by
    unfold insF
    split
    · exact List.Perm.refl _
    · rename_i h
      have hne : ¬ g.1 = f.1 := fun e => h (by rw [e]; exact List.le_refl _)
      rw [rm_cons_ne hne]
      exact ((insF_perm f r).cons g).trans (.swap _ _ _)
theorem insF_sorted {f : DNm × DFl} : ∀ {l : DFs}, SortedF l → SortedF (insF f l)
  | [], _ => List.pairwise_singleton _ _
  | g :: r, h => by
    obtain ⟨h1, h2⟩ := List.pairwise_cons.1 h
    unfold insF
    split
    · rename_i hle
      refine List.pairwise_cons.2 ⟨fun q hq => ?_, rm_sorted h _⟩
      obtain ⟨q1, q2⟩ := rm_mem.1 hq
      have hle2 : f.1 ≤ q.1 := by
        rcases List.mem_cons.1 q1 with rfl | q1
        · exact hle
        · exact List.le_trans hle (List.le_of_lt (h1 q q1))
      exact List.not_le.1 fun h => q2 (List.le_antisymm h hle2)
    · rename_i hnl
      have hlt : g.1 < f.1 := List.not_le.1 hnl
      refine List.pairwise_cons.2 ⟨fun q hq => ?_, insF_sorted h2⟩
      rcases List.mem_cons.1 ((insF_perm f r).mem_iff.1 hq) with rfl | hq
      · exact hlt
      · exact h1 q (rm_mem.1 hq).1

theorem insF_after {f : DNm × DFl} : ∀ {a b : DFs}, (∀ p ∈ a, p.1 < f.1) → insF f (a ++ b) = a ++ insF f b
  | [], _, _ => rfl
  | g :: a, b, h => by
    have h1 : ¬ f.1 ≤ g.1 := List.not_le.2 (h g List.mem_cons_self)
    rw [List.cons_append, insF, if_neg h1, insF_after fun p hp => h p (List.mem_cons_of_mem _ hp)]
    rfl

theorem sumL_perm {l m : DFs} (h : l.Perm m) : sumL l = sumL m := by
  induction h with
  | nil => rfl
  | cons p _ ih => simp only [sumL, ih]
  | swap p q l => simp only [sumL]; omega
  | trans _ _ h1 h2 => exact h1.trans h2
theorem sumL_rm {l : DFs} (h : KeysN l) (k : DNm) : sumL (rm k l) + (mapGet l k f0).1.length = sumL l := by
  induction l with
  | nil => rfl
  | cons p l ih =>
    obtain ⟨h1, h2⟩ := List.pairwise_cons.1 h
    by_cases e : p.1 = k
    · subst e
      rw [rm_cons_self, rm_no fun q hq => (h1 q hq).symm, get_mem h List.mem_cons_self]
      simp only [sumL]; omega
    · rw [rm_cons_ne e]
      have := ih h2
      have hg : mapGet (p :: l) k f0 = mapGet l k f0 := by simp only [mapGet, List.find?_cons, e, decide_false]
      rw [hg]
      simp only [sumL]; omega
theorem sumL_app (l m : DFs) : sumL (l ++ m) = sumL l + sumL m := by
  induction l with
  | nil => simp [sumL]
  | cons p l ih => simp only [List.cons_append, sumL, ih]; omega
theorem sumL_mem {l : DFs} {p : DNm × DFl} (h : p ∈ l) : p.2.1.length ≤ sumL l := by
  induction l with
  | nil => cases h
  | cons q l ih =>
    rcases List.mem_cons.1 h with rfl | h
    · simp only [sumL]; omega
    · have := ih h; simp only [sumL]; omega
theorem sumL_get {l : DFs} (k : DNm) : (mapGet l k f0).1.length ≤ sumL l := by
  unfold mapGet
  split
  · rename_i p h; exact sumL_mem (List.mem_of_find?_eq_some h)
  · exact Nat.zero_le _

/-- The keys, sorted: those of a list by rising names that has the same entries. -/
theorem sortKeys_perm {l m : DFs} (h : l.Perm m) (hs : SortedF m) : sortKeys l = m.map (·.1) := by
  unfold sortKeys
  have h1 : (l.map (·.1)).mergeSort (fun x y => decide (x ≤ y)) = (m.map (·.1)).mergeSort (fun x y => decide (x ≤ y)) := mergeSort_of_perm (h.map _)
  rw [h1]
  refine List.mergeSort_of_pairwise ?_
  rw [List.pairwise_map]
  exact hs.imp fun h => decide_eq_true (List.le_of_lt h)
end Go.Hay
/- A disk's calls as the program does them, and as the document says, in plain Lean: they answer alike. Conditions: none. -/
set_option linter.unusedVariables false
set_option linter.unusedSimpArgs false
namespace Go.Hay

/-- The program's disk. -/
structure DD where
  room : Int
  used : Int
  files : DFs
  steps : Int
  left : Int
  dead : Bool
/-- The document's. -/
structure RS where
  room : Int
  steps : Int
  files : DFs
  armed : Bool
  dead : Bool
  left : Int
@[reducible] def DD.t (d : DD) : Int × Int × DFs × Int × Int × Bool × Unit := (d.room, d.used, d.files, d.steps, d.left, d.dead, ())
@[reducible] def RS.t (r : RS) : Int × Int × DFs × Bool × Bool × Int := (r.room, r.steps, r.files, r.armed, r.dead, r.left)
abbrev wr (n : Int) : Int := IntKind.i64.wrap n

def nameOk (s : DNm) : Bool := s.all (fun c => decide (33 ≤ c.toNat) && decide (c.toNat ≤ 126)) && (decide (1 ≤ s.length) && decide (s.length ≤ 32))

def dNew (n : Int) : DD := ⟨max n 0, 0, [], 0, -1, false⟩
def rNew (n : Int) : RS := ⟨max n 0, 0, [], false, false, 0⟩
def dStep (d : DD) : DD × Bool :=
  bif decide (d.left = -1) then ({ d with steps := wr (d.steps + 1) }, false)
  else bif decide (d.left = 0) then ({ d with steps := wr (d.steps + 1), dead := true }, true)
  else ({ d with steps := wr (d.steps + 1), left := wr (d.left - 1) }, false)
def rStep (r : RS) : RS × Bool :=
  bif r.armed then
    bif decide (r.left = 0) then ({ r with steps := wr (r.steps + 1), dead := true }, true)
    else ({ r with steps := wr (r.steps + 1), left := wr (r.left - 1) }, false)
  else ({ r with steps := wr (r.steps + 1), left := wr (r.left - 1) }, false)
def dGet (d : DD) (k : DNm) : DFl := mapGet d.files k f0
def rGet (r : RS) (k : DNm) : DFl := mapGet r.files k f0
def dLay (d : DD) (name : DNm) (f : DFl) : DD := { d with used := wr (d.used + wr ((f.1.length : Int) - ((dGet d name).1.length : Int))), files := mapPut d.files name f }
def dTake (d : DD) (name : DNm) : DD := { d with used := wr (d.used - ((dGet d name).1.length : Int)), files := mapDel d.files name }
def rFree (r : RS) : Int := r.room - (sumL r.files : Int)

def dAppend (d : DD) (name : DNm) (b : List UInt8) : DD × Int :=
  bif d.dead then (d, 44) else bif !nameOk name then (d, 40) else bif decide ((b.length : Int) > wr (d.room - d.used)) then (d, 41)
  else ((dStep (dLay d name ((dGet d name).1 ++ b, (dGet d name).2))).1, bif (dStep (dLay d name ((dGet d name).1 ++ b, (dGet d name).2))).2 then 44 else 0)
def rWith (r : RS) (name : DNm) (f : DFl) : RS := { r with files := insF (name, f) r.files }
def rAppend (r : RS) (name : DNm) (b : List UInt8) : RS × Int :=
  bif r.dead then (r, 44) else bif !nameOk name then (r, 40) else bif decide ((b.length : Int) > rFree r) then (r, 41)
  else ((rStep (rWith r name ((rGet r name).1 ++ b, (rGet r name).2))).1, bif (rStep (rWith r name ((rGet r name).1 ++ b, (rGet r name).2))).2 then 44 else 0)

/-- A step at a file, if it is not refused. -/
def dDo (why : DFl → Int) (done : DFl → DD → DD) (d : DD) (name : DNm) : DD × Int :=
  bif d.dead then (d, 44) else bif !mapHas d.files name then (d, 42) else bif !decide (why (dGet d name) = 0) then (d, why (dGet d name))
  else bif (dStep d).2 then ((dStep d).1, 44) else (done (dGet d name) (dStep d).1, 0)
def rDo (why : DFl → Int) (done : DFl → DFs → DFs) (r : RS) (name : DNm) : RS × Int :=
  bif r.dead then (r, 44) else bif !mapHas r.files name then (r, 42) else bif !decide (why (rGet r name) = 0) then (r, why (rGet r name))
  else bif (rStep r).2 then ((rStep r).1, 44) else ({ (rStep r).1 with files := done (rGet r name) r.files }, 0)
def whyT (n : Int) (f : DFl) : Int := bif decide (n < 0) || decide (n > (f.1.length : Int)) then 43 else 0
def whyR (to : DNm) (f : DFl) : Int := bif nameOk to then 0 else 40
def dSync (d : DD) (name : DNm) : DD × Int := dDo (fun _ => 0) (fun f d => dLay d name (f.1, (f.1.length : Int))) d name
def rSync (r : RS) (name : DNm) : RS × Int := rDo (fun _ => 0) (fun f l => insF (name, f.1, (f.1.length : Int)) l) r name
def dTrunc (d : DD) (name : DNm) (n : Int) : DD × Int := dDo (whyT n) (fun f d => dLay d name (f.1.take n.toNat, min f.2 n)) d name
def rTrunc (r : RS) (name : DNm) (n : Int) : RS × Int := rDo (whyT n) (fun f l => insF (name, f.1.take n.toNat, min f.2 n) l) r name
def dRename (d : DD) (name to : DNm) : DD × Int := dDo (whyR to) (fun _ d => dLay (dTake (dTake d name) to) to (dGet d name)) d name
def rRename (r : RS) (name to : DNm) : RS × Int := rDo (whyR to) (fun f l => insF (to, f) (rm name l)) r name
def dRemove (d : DD) (name : DNm) : DD × Int := dDo (fun _ => 0) (fun _ d => dTake d name) d name
def rRemove (r : RS) (name : DNm) : RS × Int := rDo (fun _ => 0) (fun _ l => rm name l) r name
def dArm (d : DD) (n : Int) : DD := bif !d.dead then { d with left := max n (-1) } else d
def rArm (r : RS) (n : Int) : RS := bif !r.dead then { r with armed := decide (n ≥ 0), left := n } else r
def dWipe (d : DD) : DD := { d with used := 0, files := [] }
def rWipe (r : RS) : RS := { r with files := [] }
/-- A byte with one bit turned. -/
def turned (c : UInt8) (bit : Int) : UInt8 := u8 (IntKind.u8.wrap ((BitVec.ofInt 8 (c.toNat : Int) ^^^ BitVec.ofInt 8 (IntKind.u8.wrap ((1 : Int) * (2 ^ (min bit.toNat 8))))).toNat : Int))
def turnedAt (b : List UInt8) (at_ bit : Int) : List UInt8 := b.set at_.toNat (turned (b.getD at_.toNat (0 : UInt8)) bit)
def flips (has : Bool) (f : DFl) (at_ bit : Int) : Bool := has && (!decide (at_ < 0) && (!decide (at_ ≥ (f.1.length : Int)) && (!decide (bit < 0) && !decide (bit > 7))))
def dFlip (d : DD) (name : DNm) (at_ bit : Int) : DD × Bool :=
  bif flips (mapHas d.files name) (dGet d name) at_ bit then ({ d with files := mapPut d.files name (turnedAt (dGet d name).1 at_ bit, (dGet d name).2) }, true) else (d, false)
def rFlip (r : RS) (name : DNm) (at_ bit : Int) : RS × Bool :=
  bif flips (mapHas r.files name) (rGet r name) at_ bit then (rWith r name (turnedAt (rGet r name).1 at_ bit, (rGet r name).2), true) else (r, false)
/-- What of a file is found behind a crash. -/
def found (f : DFl) (keep : List Int) : Int := f.2 + min (max (keep.getD 0 0) 0) ((f.1.length : Int) - f.2)
def crashF : DFs → List Int → DFs
  | [], _ => []
  | p :: l, keep => (p.1, p.2.1.take (found p.2 keep).toNat, found p.2 keep) :: crashF l (keep.drop 1)
def rCrash (r : RS) (keep : List Int) : RS := ⟨r.room, 0, crashF r.files keep, false, false, 0⟩
def dCrash (d : DD) (l : DFs) (keep : List Int) : DD := ⟨d.room, (sumL (crashF l keep) : Int), crashF l keep, 0, -1, false⟩

/-- A map of files, and the list that stands for it. -/
structure FI (k : Nat) (room used : Int) (files l : DFs) : Prop where
  perm : files.Perm l
  sorted : SortedF l
  used : used = (sumL l : Int)
  last : ∀ p ∈ l, 0 ≤ p.2.2 ∧ p.2.2 ≤ (p.2.1.length : Int)
  fits : (sumL l : Int) ≤ room
  room : room < 9223372036854775808
  cnt : l.length ≤ k
  sum : sumL l ≤ k
  small : k ≤ 2199023255552

structure Inv (k : Nat) (d : DD) (r : RS) : Prop where
  room : d.room = r.room
  steps : d.steps = r.steps
  dead : d.dead = r.dead
  left : d.left = bif r.armed then r.left else -1
  pos : r.armed = true → 0 ≤ r.left ∧ r.left < 9223372036854775808
  fi : FI k d.room d.used d.files r.files
  st : 0 ≤ r.steps ∧ r.steps ≤ k

section
variable {k k' : Nat} {room used : Int} {files l : DFs}

theorem FI.keysL (h : FI k room used files l) : KeysN l := h.sorted.keys
theorem FI.keys (h : FI k room used files l) : KeysN files := h.keysL.perm h.perm.symm
theorem FI.get (h : FI k room used files l) (name : DNm) : mapGet files name f0 = mapGet l name f0 := perm_get h.perm h.keys name f0
theorem FI.has (h : FI k room used files l) (name : DNm) : mapHas files name = mapHas l name := perm_has h.perm name
theorem FI.names (h : FI k room used files l) : sortKeys files = l.map (·.1) := sortKeys_perm h.perm h.sorted
theorem FI.mono (h : FI k room used files l) (hk : k ≤ k') (hs : k' ≤ 2199023255552) : FI k' room used files l :=
  ⟨h.perm, h.sorted, h.used, h.last, h.fits, h.room, Nat.le_trans h.cnt hk, Nat.le_trans h.sum hk, hs⟩
theorem FI.lastG (h : FI k room used files l) (name : DNm) : 0 ≤ (mapGet l name f0).2 ∧ (mapGet l name f0).2 ≤ ((mapGet l name f0).1.length : Int) := by
  cases hh : mapHas l name with
  | true => exact h.last _ (has_get h.keysL hh f0)
  | false => rw [get_no hh]; exact ⟨Int.le_refl _, Int.le_refl _⟩
theorem FI.lenG (h : FI k room used files l) (name : DNm) : (mapGet l name f0).1.length ≤ k := Nat.le_trans (sumL_get name) h.sum

theorem FI.lay (h : FI k room used files l) {name : DNm} {f : DFl} (h1 : ((sumL (rm name l) + f.1.length : Nat) : Int) ≤ room) (h2 : sumL (rm name l) + f.1.length ≤ k') (h3 : l.length + 1 ≤ k') (h4 : k' ≤ 2199023255552) (hf : 0 ≤ f.2 ∧ f.2 ≤ (f.1.length : Int)) :
    FI k' room (wr (used + wr ((f.1.length : Int) - ((mapGet files name f0).1.length : Int)))) (mapPut files name f) (insF (name, f) l) := by
  have hp : (mapPut files name f).Perm ((name, f) :: rm name l) := (put_perm h.keys name f).trans ((rm_perm h.perm name).cons _)
  have hi := insF_perm (name, f) l
  have hsum : sumL (insF (name, f) l) = f.1.length + sumL (rm name l) := by rw [sumL_perm hi]; rfl
  have hrm := sumL_rm h.keysL name
  have hs := h.sum
  have hsm := h.small
  rw [h.get]
  refine ⟨hp.trans hi.symm, insF_sorted h.sorted, ?_, fun p hp => ?_, ?_, h.room, ?_, ?_, h4⟩
  · rw [hsum, h.used]
    unfold wr
    have e1 : IntKind.i64.wrap ((f.1.length : Int) - ((mapGet l name f0).1.length : Int)) = (f.1.length : Int) - ((mapGet l name f0).1.length : Int) := wrap_i64 (by omega) (by omega)
    rw [e1, wrap_i64 (by omega) (by omega)]
    omega
  · rcases List.mem_cons.1 (hi.mem_iff.1 hp) with rfl | hp
    · exact hf
    · exact h.last p (rm_mem.1 hp).1
  · rw [hsum]; omega
  · rw [hi.length_eq]
    have := rm_len l name
    simp only [List.length_cons]; omega
  · rw [hsum]; omega

theorem FI.take (h : FI k room used files l) (name : DNm) : FI k room (wr (used - ((mapGet files name f0).1.length : Int))) (mapDel files name) (rm name l) := by
  have hrm := sumL_rm h.keysL name
  have hs := h.sum
  have hsm := h.small
  have hfit := h.fits
  rw [h.get, del_rm h.keys]
  refine ⟨rm_perm h.perm name, rm_sorted h.sorted name, ?_, fun p hp => h.last p (rm_mem.1 hp).1, by omega, h.room, Nat.le_trans (rm_len _ _) h.cnt, by omega, h.small⟩
  rw [h.used]
  unfold wr
  rw [wrap_i64 (by omega) (by omega)]
  omega

theorem rm_rm (a b : DNm) (l : DFs) : rm b (rm a l) = rm a (rm b l) := by
  unfold rm
  rw [List.filter_filter, List.filter_filter]
  congr 1
  funext p
  exact Bool.and_comm _ _
theorem insF_rm {f : DNm × DFl} : ∀ {l : DFs}, SortedF l → insF f (rm f.1 l) = insF f l
  | [], _ => rfl
  | g :: r, h => by
    obtain ⟨h1, h2⟩ := List.pairwise_cons.1 h
    by_cases e : g.1 = f.1
    · have e2 : rm f.1 (g :: r) = rm f.1 r := by simp [rm, e]
      have hr : rm f.1 r = r := rm_no fun q hq e' => lt_ne (h1 q hq) (by rw [e, e'])
      rw [e2, hr]
      have h3 : insF f (g :: r) = f :: rm f.1 (g :: r) := by unfold insF; rw [if_pos (by rw [e]; exact List.le_refl _)]
      rw [h3, e2, hr]
      cases r with
      | nil => rfl
      | cons q r =>
        have : f.1 ≤ q.1 := by rw [← e]; exact List.le_of_lt (h1 q List.mem_cons_self)
        unfold insF
        rw [if_pos this, hr]
    · rw [rm_cons_ne e]
      unfold insF
      split
      · rename_i hle
        rw [rm_cons_ne e, rm_cons_ne e]
        congr 2
        unfold rm
        rw [List.filter_filter]
        congr 1
        funext p
        simp
      · rw [insF_rm h2]
end

section
variable {k k' : Nat} {d : DD} {r : RS}

theorem Inv.mono (h : Inv k d r) (hk : k ≤ k') (hs : k' ≤ 2199023255552) : Inv k' d r :=
  ⟨h.room, h.steps, h.dead, h.left, h.pos, h.fi.mono hk hs, h.st.1, by have := h.st.2; omega⟩
theorem Inv.has (h : Inv k d r) (name : DNm) : mapHas d.files name = mapHas r.files name := h.fi.has name
theorem Inv.get (h : Inv k d r) (name : DNm) : dGet d name = rGet r name := h.fi.get name

theorem inv_new (n : Int) (hn : n < 9223372036854775808) : Inv 0 (dNew n) (rNew n) :=
  ⟨rfl, rfl, rfl, rfl, fun h => (by cases h), ⟨List.Perm.refl _, .nil, rfl, fun p hp => (by cases hp), (show (0 : Int) ≤ max n 0 by omega), (show max n 0 < _ by omega), Nat.le_refl _, Nat.le_refl _, by omega⟩, Int.le_refl _, Int.le_refl _⟩

theorem Inv.step (h : Inv k d r) (hs : k + 1 ≤ 2199023255552) : (dStep d).2 = (rStep r).2 ∧ Inv (k + 1) (dStep d).1 (rStep r).1 := by
  have hst := h.st
  have e : wr (d.steps + 1) = wr (r.steps + 1) := by rw [h.steps]
  have e2 : wr (r.steps + 1) = r.steps + 1 := wrap_i64 (by omega) (by omega)
  have hf := h.fi.mono (Nat.le_succ k) hs
  have hl := h.left
  have hS : (0 : Int) ≤ wr (r.steps + 1) ∧ wr (r.steps + 1) ≤ ((k + 1 : Nat) : Int) := by rw [e2]; omega
  unfold dStep rStep
  cases ha : r.armed with
  | false =>
    rw [ha] at hl
    simp only [cond_false] at hl
    rw [decide_eq_true hl]
    simp only [cond_true, cond_false]
    exact ⟨trivial, h.room, e, h.dead, by simpa [ha] using hl, fun h' => (by cases h'), hf, hS⟩
  | true =>
    rw [ha] at hl
    simp only [cond_true] at hl
    obtain ⟨p1, p2⟩ := h.pos ha
    rw [decide_eq_false (show ¬ d.left = -1 by omega)]
    simp only [cond_true, cond_false, hl]
    by_cases h0 : r.left = 0
    · rw [decide_eq_true h0]
      simp only [cond_true]
      exact ⟨trivial, h.room, e, rfl, rfl, fun _ => ⟨p1, p2⟩, hf, hS⟩
    · rw [decide_eq_false h0]
      simp only [cond_false]
      have e3 : wr (r.left - 1) = r.left - 1 := wrap_i64 (by omega) (by omega)
      exact ⟨trivial, h.room, e, h.dead, rfl, fun _ => (show 0 ≤ wr (r.left - 1) ∧ wr (r.left - 1) < 9223372036854775808 by rw [e3]; exact ⟨by omega, by omega⟩), hf, hS⟩

theorem dStep_files (d : DD) : (dStep d).1.files = d.files ∧ (dStep d).1.used = d.used ∧ (dStep d).1.room = d.room := by
  unfold dStep
  cases decide (d.left = -1) <;> cases decide (d.left = 0) <;> exact ⟨rfl, rfl, rfl⟩
theorem rStep_files (r : RS) : (rStep r).1.files = r.files ∧ (rStep r).1.room = r.room := by
  unfold rStep
  cases r.armed <;> cases decide (r.left = 0) <;> exact ⟨rfl, rfl⟩

/-- Other files. -/
theorem Inv.files (h : Inv k d r) {u : Int} {fs l : DFs} (hf : FI k' d.room u fs l) (hk : k ≤ k') : Inv k' { d with used := u, files := fs } { r with files := l } :=
  ⟨h.room, h.steps, h.dead, h.left, h.pos, hf, h.st.1, by have := h.st.2; show r.steps ≤ _; omega⟩

theorem Inv.lay (h : Inv k d r) {name : DNm} {f : DFl} (h1 : ((sumL (rm name r.files) + f.1.length : Nat) : Int) ≤ d.room) (h2 : sumL (rm name r.files) + f.1.length ≤ k') (hk : k + 1 ≤ k') (h4 : k' ≤ 2199023255552) (hf : 0 ≤ f.2 ∧ f.2 ≤ (f.1.length : Int)) :
    Inv k' (dLay d name f) (rWith r name f) :=
  h.files (h.fi.lay h1 h2 (by have := h.fi.cnt; omega) h4 hf) (by omega)
theorem Inv.take (h : Inv k d r) (name : DNm) : Inv k (dTake d name) { r with files := rm name r.files } := h.files (h.fi.take name) (Nat.le_refl _)

theorem Inv.free (h : Inv k d r) : wr (d.room - d.used) = rFree r := by
  have h1 := h.fi.used
  have h2 := h.fi.fits
  have h3 := h.fi.room
  unfold wr rFree
  rw [h1, ← h.room, wrap_i64 (by omega) (by omega)]

theorem Inv.append (h : Inv k d r) {name : DNm} {b : List UInt8} (hs : k + 2 + b.length ≤ 2199023255552) : (dAppend d name b).2 = (rAppend r name b).2 ∧ Inv (k + 2 + b.length) (dAppend d name b).1 (rAppend r name b).1 := by
  have hm := h.mono (k' := k + 2 + b.length) (by omega) hs
  have hb : Inv (k + 1 + b.length) d r := h.mono (by omega) (by omega)
  unfold dAppend rAppend
  rw [h.dead]
  cases hd : r.dead with
  | true => exact ⟨rfl, hm⟩
  | false =>
    cases hn : nameOk name with
    | false => exact ⟨rfl, hm⟩
    | true =>
      simp only [Bool.not_true, cond_false]
      rw [h.free]
      by_cases hfull : (b.length : Int) > rFree r
      · rw [decide_eq_true hfull]; exact ⟨rfl, hm⟩
      · rw [decide_eq_false hfull]
        simp only [cond_false]
        rw [h.get]
        have hg := h.fi.lastG name
        have hrm := sumL_rm h.fi.keysL name
        have hsum := h.fi.sum
        have hroom := h.room
        have hget : rGet r name = mapGet r.files name f0 := rfl
        have hlay := h.lay (name := name) (f := ((rGet r name).1 ++ b, (rGet r name).2)) (k' := k + 1 + b.length)
          (by simp only [List.length_append]; rw [hget]; unfold rFree at hfull; omega) (by simp only [List.length_append]; rw [hget]; omega) (by omega) (by omega) (by simp only [List.length_append]; rw [hget]; omega)
        obtain ⟨s1, s2⟩ := hlay.step (by omega)
        rw [s1]
        exact ⟨rfl, s2.mono (by omega) hs⟩

theorem Inv.do_ (h : Inv k d r) (hs : k + 2 ≤ 2199023255552) {why : DFl → Int} {done : DFl → DD → DD} {done' : DFl → DFs → DFs} (name : DNm)
    (hd : ∀ (d1 : DD) (r1 : RS), Inv (k + 1) d1 r1 → r1.files = r.files → mapHas r.files name = true → why (rGet r name) = 0 → Inv (k + 2) (done (rGet r name) d1) { r1 with files := done' (rGet r name) r.files }) :
    (dDo why done d name).2 = (rDo why done' r name).2 ∧ Inv (k + 2) (dDo why done d name).1 (rDo why done' r name).1 := by
  have hm := h.mono (k' := k + 2) (by omega) hs
  unfold dDo rDo
  rw [h.dead, h.has, h.get]
  cases hdead : r.dead with
  | true => exact ⟨rfl, hm⟩
  | false =>
    cases hh : mapHas r.files name with
    | false => exact ⟨rfl, hm⟩
    | true =>
      simp only [Bool.not_true, cond_false]
      by_cases hw : why (rGet r name) = 0
      · rw [decide_eq_true hw]
        simp only [Bool.not_true, cond_false]
        obtain ⟨s1, s2⟩ := h.step (by omega)
        rw [s1]
        cases hst : (rStep r).2 with
        | true => exact ⟨rfl, s2.mono (by omega) hs⟩
        | false => exact ⟨rfl, hd _ _ s2 (rStep_files r).1 hh hw⟩
      · rw [decide_eq_false hw]
        exact ⟨rfl, hm⟩

theorem Inv.sync (h : Inv k d r) (hs : k + 2 ≤ 2199023255552) (name : DNm) : (dSync d name).2 = (rSync r name).2 ∧ Inv (k + 2) (dSync d name).1 (rSync r name).1 := by
  refine h.do_ hs name fun d1 r1 h1 hfl hh hw => ?_
  have hrm := sumL_rm h1.fi.keysL name
  have hsum := h1.fi.sum
  have hfit := h1.fi.fits
  have hget : rGet r name = mapGet r1.files name f0 := by rw [hfl]; rfl
  rw [← hfl]
  exact h1.lay (by rw [hget]; simp only; omega) (by rw [hget]; simp only; omega) (by omega) hs ⟨by simp only; omega, by simp only; omega⟩
theorem Inv.trunc (h : Inv k d r) (hs : k + 2 ≤ 2199023255552) (name : DNm) (n : Int) : (dTrunc d name n).2 = (rTrunc r name n).2 ∧ Inv (k + 2) (dTrunc d name n).1 (rTrunc r name n).1 := by
  refine h.do_ hs name fun d1 r1 h1 hfl hh hw => ?_
  have hrm := sumL_rm h1.fi.keysL name
  have hsum := h1.fi.sum
  have hfit := h1.fi.fits
  have hg := h1.fi.lastG name
  have hget : rGet r name = mapGet r1.files name f0 := by rw [hfl]; rfl
  rw [← hfl]
  rw [hget] at hw ⊢
  have hn : 0 ≤ n ∧ n ≤ ((mapGet r1.files name f0).1.length : Int) := by
    unfold whyT at hw
    cases hc : decide (n < 0) || decide (n > ((mapGet r1.files name f0).1.length : Int)) with
    | true => rw [hc] at hw; cases hw
    | false =>
      simp only [Bool.or_eq_false_iff, decide_eq_false_iff_not] at hc
      exact ⟨by omega, by omega⟩
  have hl : ((mapGet r1.files name f0).1.take n.toNat).length = n.toNat := by rw [List.length_take]; omega
  exact h1.lay (by simp only [hl]; omega) (by simp only [hl]; omega) (by omega) hs ⟨by simp only; omega, by simp only [hl]; omega⟩
theorem Inv.remove (h : Inv k d r) (hs : k + 2 ≤ 2199023255552) (name : DNm) : (dRemove d name).2 = (rRemove r name).2 ∧ Inv (k + 2) (dRemove d name).1 (rRemove r name).1 := by
  refine h.do_ hs name fun d1 r1 h1 hfl hh hw => ?_
  rw [← hfl]
  exact (h1.take name).mono (by omega) hs
theorem Inv.rename (h : Inv k d r) (hs : k + 2 ≤ 2199023255552) (name to : DNm) : (dRename d name to).2 = (rRename r name to).2 ∧ Inv (k + 2) (dRename d name to).1 (rRename r name to).1 := by
  refine h.do_ hs name fun d1 r1 h1 hfl hh hw => ?_
  have hget : rGet r name = rGet r1 name := by unfold rGet; rw [hfl]
  rw [← hfl, hget, h1.get]
  have h2 := (h1.take name).take to
  have hrm := sumL_rm h1.fi.keysL name
  have hrm2 := sumL_rm (rm_keys h1.fi.keysL name) to
  have hg := h1.fi.lastG name
  have hsum := h1.fi.sum
  have hfit := h1.fi.fits
  have e : rGet r1 name = mapGet r1.files name f0 := rfl
  have e2 : rm to (rm to (rm name r1.files)) = rm to (rm name r1.files) := rm_no fun p hp => (rm_mem.1 hp).2
  have h3 := h2.lay (name := to) (f := rGet r1 name) (k' := k + 2) (by simp only [e2]; rw [e]; show _ ≤ d1.room; omega) (by simp only [e2]; rw [e]; omega) (by omega) hs (by rw [e]; exact hg)
  have e3 : insF (to, rGet r1 name) (rm to (rm name r1.files)) = insF (to, rGet r1 name) (rm name r1.files) := insF_rm (f := (to, rGet r1 name)) (rm_sorted h1.fi.sorted name)
  unfold rWith at h3
  rw [e3] at h3
  exact h3

theorem Inv.arm (h : Inv k d r) (n : Int) (hn : n < 9223372036854775808) : Inv k (dArm d n) (rArm r n) := by
  unfold dArm rArm
  rw [h.dead]
  cases hd : r.dead with
  | true => exact h
  | false =>
    simp only [Bool.not_false, cond_true]
    refine ⟨h.room, h.steps, rfl, ?_, fun hp => ?_, h.fi, h.st⟩
    · show max n (-1) = bif decide (n ≥ 0) then n else -1
      by_cases h0 : n ≥ 0
      · rw [decide_eq_true h0]; simp only [cond_true]; omega
      · rw [decide_eq_false h0]; simp only [cond_false]; omega
    · exact ⟨of_decide_eq_true hp, hn⟩
theorem Inv.wipe (h : Inv k d r) : Inv k (dWipe d) (rWipe r) :=
  h.files ⟨List.Perm.refl _, .nil, rfl, fun p hp => (by cases hp), (show ((sumL [] : Nat) : Int) ≤ d.room by have := h.fi.fits; simp only [sumL]; omega), h.fi.room, Nat.zero_le _, Nat.zero_le _, h.fi.small⟩ (Nat.le_refl _)

theorem turned_len (b : List UInt8) (a c : Int) : (turnedAt b a c).length = b.length := by unfold turnedAt; rw [List.length_set]
theorem Inv.flip (h : Inv k d r) (hs : k + 2 ≤ 2199023255552) (name : DNm) (a c : Int) : (dFlip d name a c).2 = (rFlip r name a c).2 ∧ Inv (k + 2) (dFlip d name a c).1 (rFlip r name a c).1 := by
  have hm := h.mono (k' := k + 2) (by omega) hs
  unfold dFlip rFlip
  rw [h.has, h.get]
  cases hc : flips (mapHas r.files name) (rGet r name) a c with
  | false => exact ⟨rfl, hm⟩
  | true =>
    refine ⟨rfl, ?_⟩
    simp only [cond_true]
    have hrm := sumL_rm h.fi.keysL name
    have hsum := h.fi.sum
    have hfit := h.fi.fits
    have hg := h.fi.lastG name
    have hget : rGet r name = mapGet r.files name f0 := rfl
    have h1 := h.fi.lay (name := name) (f := (turnedAt (rGet r name).1 a c, (rGet r name).2)) (k' := k + 2) (by simp only [turned_len]; rw [hget]; omega) (by simp only [turned_len]; rw [hget]; omega) (by have := h.fi.cnt; omega) hs (by simp only [turned_len]; rw [hget]; exact hg)
    have e : wr (d.used + wr (((turnedAt (rGet r name).1 a c).length : Int) - ((mapGet d.files name f0).1.length : Int))) = d.used := by
      have h2 : mapGet d.files name f0 = rGet r name := h.get name
      have h3 := h.fi.used
      have h4 := h.fi.small
      rw [h2, turned_len]
      unfold wr
      rw [Int.sub_self, show IntKind.i64.wrap 0 = 0 from rfl, Int.add_zero, wrap_i64 (by omega) (by omega)]
    simp only at h1
    rw [e] at h1
    exact h.files h1 (by omega)

theorem found_ok {f : DFl} (h : 0 ≤ f.2 ∧ f.2 ≤ (f.1.length : Int)) (keep : List Int) : f.2 ≤ found f keep ∧ found f keep ≤ (f.1.length : Int) := by
  unfold found; omega
theorem crash_names : ∀ (l : DFs) (keep : List Int), (crashF l keep).map (·.1) = l.map (·.1)
  | [], _ => rfl
  | p :: l, keep => by simp only [crashF, List.map_cons, crash_names l]
theorem crash_len (l : DFs) (keep : List Int) : (crashF l keep).length = l.length := by
  have := congrArg List.length (crash_names l keep)
  simpa using this
theorem crash_sum : ∀ (l : DFs) (keep : List Int), sumL (crashF l keep) ≤ sumL l
  | [], _ => Nat.le_refl _
  | p :: l, keep => by
    have := crash_sum l (keep.drop 1)
    simp only [crashF, sumL, List.length_take]
    omega
theorem crash_sorted {l : DFs} (h : SortedF l) (keep : List Int) : SortedF (crashF l keep) := by
  have h1 : (l.map (·.1)).Pairwise (· < ·) := List.pairwise_map.2 h
  rw [← crash_names l keep] at h1
  exact List.pairwise_map.1 h1
theorem crash_last : ∀ {l : DFs} {keep : List Int}, (∀ p ∈ l, 0 ≤ p.2.2 ∧ p.2.2 ≤ (p.2.1.length : Int)) → ∀ p ∈ crashF l keep, 0 ≤ p.2.2 ∧ p.2.2 = (p.2.1.length : Int)
  | [], _, _, p, hp => by cases hp
  | q :: l, keep, h, p, hp => by
    rcases List.mem_cons.1 hp with rfl | hp
    · have h1 := h q List.mem_cons_self
      have := found_ok h1 keep
      simp only [List.length_take]
      omega
    · exact crash_last (fun p hp => h p (List.mem_cons_of_mem _ hp)) p hp
theorem Inv.crash (h : Inv k d r) (keep : List Int) : Inv k (dCrash d r.files keep) (rCrash r keep) := by
  have h1 := crash_sum r.files keep
  have h2 := h.fi.sum
  have h3 := h.fi.fits
  refine ⟨h.room, rfl, rfl, rfl, fun h => (by cases h), ⟨List.Perm.refl _, crash_sorted h.fi.sorted keep, rfl, fun p hp => ?_, (show (sumL (crashF r.files keep) : Int) ≤ d.room by omega), h.fi.room, (show (crashF r.files keep).length ≤ k by rw [crash_len]; exact h.fi.cnt), (show sumL (crashF r.files keep) ≤ k by omega), h.fi.small⟩, Int.le_refl _, (show (0 : Int) ≤ (k : Int) by omega)⟩
  have := crash_last h.fi.last p hp
  omega
end
end Go.Hay
