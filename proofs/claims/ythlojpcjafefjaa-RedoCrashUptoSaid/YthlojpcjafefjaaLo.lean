/- The law of crashes. Conditions: sizes below a bound. -/
import Derived.Test.YthlojpcjafefjaaLn
import Derived.Test.YthlojpcjafefjaaLmb
set_option linter.unusedVariables false
set_option linter.unusedSimpArgs false
namespace Go.Hay.Ythlojpcjafefjaa
open Go Go.Hay Go.Proofs

section
variable {N : Nat}
theorem same_b0_any (N : Nat) (a b : List (List UInt8)) (hab : a.length = b.length) (ha : a.length ≤ 1000000000000) : ∀ (d i fuel : Nat), a.length = i + d → d < fuel → ∃ z, ref_Same_b_0.go N fuel a b (i : Int) = some z ∧ (a = b → z = .inr ())
  | _, _, 0, _, h => absurd h (Nat.not_lt_zero _)
  | 0, i, fuel + 1, e, _ => ⟨_, go_n (by omega) rfl, fun _ => rfl⟩
  | d + 1, i, fuel + 1, e, h => by
    have hi : i < a.length := by omega
    by_cases hq : a.getD (i : Int).toNat ([] : List UInt8) = b.getD (i : Int).toNat ([] : List UInt8)
    · obtain ⟨z, z1, z2⟩ := same_b0_any N a b hab ha d (i + 1) fuel (by omega) (by omega)
      refine ⟨z, go_d (by omega) (go_t (inB_nat hi) (go_d hi (go_t (inB_nat (by omega)) (go_nd hq ?_)))), z2⟩
      rw [wrap_succ i (by omega)]
      exact z1
    · exact ⟨_, go_d (by omega) (go_t (inB_nat hi) (go_d hi (go_t (inB_nat (by omega)) (go_nn hq rfl)))), fun h => absurd (by rw [h]) hq⟩
theorem same_any (a b : List (List UInt8)) (ha : a.length ≤ 1000000000000) (hN : a.length < N) : ∃ y, ref_Same_b.run N a b = some (y, ()) ∧ (a = b → y = true) := by
  by_cases hl : (a.length : Int) = (b.length : Int)
  · obtain ⟨z, z1, z2⟩ := same_b0_any N a b (by omega) ha a.length 0 N (by omega) hN
    cases z with
    | inl t => exact ⟨t.1, go_nd hl (go_o z1 rfl), fun h => by cases z2 h⟩
    | inr u => exact ⟨true, go_nd hl (go_o z1 rfl), fun _ => rfl⟩
  · exact ⟨false, go_nn hl rfl, fun h => absurd (by rw [h]) hl⟩

theorem fi_crash (hN : 8796093022208 ≤ N) {d : DD} {b : List UInt8} {c : Nat} (h : Fi d b (c : Int)) (hc : c ≤ b.length) (hb : b.length ≤ 1000000000) (keep : List Int) :
    ∃ (d' : DD) (m : Nat), c ≤ m ∧ m ≤ b.length ∧ disk_Disk_Crash.run N d.room d.used d.files d.steps d.left d.dead keep = some (d.t, d'.t, ()) ∧ Al d' (b.take m) ∧ d'.left = -1 := by
  obtain ⟨h1, h2, h3⟩ := h
  have hroom : d.room = 1125899906842624 := h3
  have hf : FI 2199023255552 d.room d.used d.files [(nm, (b, (c : Int)))] :=
    { perm := by rw [h1]
      sorted := List.pairwise_singleton _ _
      used := by rw [h2]; simp [sumL]
      last := fun p hp => by
        rcases List.mem_singleton.1 hp with rfl
        exact ⟨by show (0 : Int) ≤ (c : Int); omega, by show (c : Int) ≤ (b.length : Int); omega⟩
      fits := by rw [hroom]; simp only [sumL]; omega
      room := by rw [hroom]; decide
      cnt := by simp
      sum := by simp only [sumL]; omega
      small := Nat.le_refl _ }
  have hfo := found_ok (f := (b, (c : Int))) ⟨by show (0 : Int) ≤ (c : Int); omega, by show (c : Int) ≤ (b.length : Int); omega⟩ keep
  have f1 : (c : Int) ≤ found (b, (c : Int)) keep := hfo.1
  have f2 : found (b, (c : Int)) keep ≤ (b.length : Int) := hfo.2
  have hlen : (b.take (found (b, (c : Int)) keep).toNat).length = (found (b, (c : Int)) keep).toNat := by rw [List.length_take]; omega
  refine ⟨dCrash d [(nm, (b, (c : Int)))] keep, (found (b, (c : Int)) keep).toNat, by omega, by omega, Dk.crash_ok hN hf (by rw [hroom]; decide) keep, ⟨⟨?_, ?_, h3⟩, rfl, by show (-1 : Int) ≤ -1; decide, by show (-1 : Int) < 9223372036854775808; decide⟩, rfl⟩
  · show [(nm, (b.take (found (b, (c : Int)) keep).toNat, found (b, (c : Int)) keep))] = _
    rw [hlen, Int.toNat_of_nonneg (by omega)]
  · show ((sumL [(nm, (b.take (found (b, (c : Int)) keep).toNat, found (b, (c : Int)) keep))] : Nat) : Int) = _
    simp [sumL]

theorem al_arm {d : DD} {b : List UInt8} (h : Al d b) {n : Int} (h0 : 0 ≤ n) (hn : n < 9223372036854775808) : Al (dArm d n) b := by
  obtain ⟨h1, h2, h3⟩ := h
  have e : dArm d n = { d with left := max n (-1) } := by unfold dArm; rw [h2]; rfl
  rw [e]
  exact ⟨h1, h2, by show -1 ≤ max n (-1); omega, by show max n (-1) < _; omega⟩

def Live (d : DD) (l have_ more : List (List UInt8)) (bs : List (List (List UInt8))) : Prop := Al d (F2 bs) ∧ (∀ x ∈ bs, Small x) ∧ have_ = bs.flatten ∧ more = bs.flatten ∧ l = bs.flatten
def Gone (d : DD) (have_ more : List (List UInt8)) (bs : List (List (List UInt8))) (x : List (List UInt8)) : Prop := d.dead = true ∧ Fi d (F2 bs ++ frame (recB x)) ((F2 bs).length : Int) ∧ (∀ y ∈ bs, Small y) ∧ Small x ∧ have_ = bs.flatten ∧ more = bs.flatten ++ x

theorem gone_stays {d : DD} (hd : d.dead = true) (l : List (List (List UInt8))) (lg have_ more : List (List UInt8)) (size : Int) (i fuel : Nat) (hi : i ≤ l.length) (hf : 0 < fuel) :
    law_RedoCrash_1.go N fuel d.room d.used d.files d.steps d.left d.dead nm lg size have_ more l (l.length : Int) (i : Int) = some (d.t, ((), nm, lg, size, ()), have_, more, ()) := by
  cases fuel with
  | zero => omega
  | succ fuel =>
    by_cases h : i < l.length
    · exact go_d (by omega) (go_t (inB_nat h) (go_o (Dk.dead_ok d) (go_t hd rfl)))
    · exact go_n (by omega) rfl

theorem crash_loop (hN : 8796093022208 ≤ N) (l : List (List (List UInt8))) (hll : l.length ≤ 1000000000) (hs : ∀ x ∈ l, Small x) : ∀ (suf pre : List (List (List UInt8))) (fuel : Nat) (d : DD) (lg have_ more : List (List UInt8)) (size : Int) (bs : List (List (List UInt8))), l = pre ++ suf → suf.length < fuel → Live d lg have_ more bs →
    (F2 bs).length + (ap suf).length ≤ 1000000000 → bs.flatten.length + suf.flatten.length ≤ 1000000000 →
    ∃ (d' : DD) (lg' have' more' : List (List UInt8)) (size' : Int), law_RedoCrash_1.go N fuel d.room d.used d.files d.steps d.left d.dead nm lg size have_ more l (l.length : Int) (pre.length : Int) = some (d'.t, ((), nm, lg', size', ()), have', more', ()) ∧
      ((∃ bs', Live d' lg' have' more' bs' ∧ (F2 bs').length ≤ 1000000000 ∧ bs'.flatten.length ≤ 1000000000) ∨ ∃ bs' x, Gone d' have' more' bs' x ∧ (F2 bs' ++ frame (recB x)).length ≤ 1000000000 ∧ (bs'.flatten ++ x).length ≤ 1000000000)
  | _, _, 0, _, _, _, _, _, _, _, h, _, _, _ => absurd h (Nat.not_lt_zero _)
  | [], pre, fuel + 1, d, lg, have_, more, size, bs, hp, hf, hL, h1, h2 => by
    refine ⟨d, lg, have_, more, size, go_n (by rw [hp]; simp) rfl, .inl ⟨bs, hL, by omega, by omega⟩⟩
  | x :: suf, pre, fuel + 1, d, lg, have_, more, size, bs, hp, hf, hL, h1, h2 => by
    have hlt : pre.length < l.length := by rw [hp]; simp
    have hgd : l.getD ((pre.length : Int)).toNat ([] : List (List UInt8)) = x := by rw [hp]; exact getD_mid _ _ _ _
    have hx := hs x (by rw [hp]; simp)
    obtain ⟨l1, l2, l3, l4, l5⟩ := hL
    have eap : ap (x :: suf) = apB x ++ ap suf := by simp [ap]
    rw [eap, List.length_append] at h1
    rw [List.flatten_cons, List.length_append] at h2
    simp only [List.length_cons] at hf
    have hwr : ((pre ++ [x]).length : Int) = ((pre.length + 1 : Nat) : Int) := by simp
    obtain ⟨d', lg', size', e, he, hcase⟩ := app_any (N := N) hN l1 (rs := x) (l := lg) hx (by omega) (by rw [l5]; omega) size
    have hhead : ∀ {z}, (bif decide (e = (0 : Int)) then law_RedoCrash_1.go N fuel d'.room d'.used d'.files d'.steps d'.left d'.dead nm lg' size' (have_ ++ x) (have_ ++ x) l (l.length : Int) (IntKind.i64.wrap ((pre.length : Int) + 1)) else
        obind (disk_Disk_Dead.run N d'.room d'.used d'.files d'.steps d'.left d'.dead) fun (v : Bool × Unit) => bif !v.1 then law_RedoCrash_1.go N fuel d'.room d'.used d'.files d'.steps d'.left d'.dead nm lg' size' have_ have_ l (l.length : Int) (IntKind.i64.wrap ((pre.length : Int) + 1))
          else law_RedoCrash_1.go N fuel d'.room d'.used d'.files d'.steps d'.left d'.dead nm lg' size' have_ (have_ ++ x) l (l.length : Int) (IntKind.i64.wrap ((pre.length : Int) + 1))) = z →
        law_RedoCrash_1.go N (fuel + 1) d.room d.used d.files d.steps d.left d.dead nm lg size have_ more l (l.length : Int) (pre.length : Int) = z := fun {z} hz => by
      refine go_d (by omega) (go_t (inB_nat hlt) (go_o (Dk.dead_ok d) (go_f l1.2.1 ?_)))
      rw [hgd]
      exact go_t (room_t (by rw [l3]; omega) (by rw [l3]; omega)) (go_t (room_t (by rw [l3]; omega) (by rw [l3]; omega)) (go_o he hz))
    rcases hcase with ⟨rfl, g1, g2⟩ | ⟨rfl, g1, g2, g3, g4⟩
    · have hbs : ∃ bs2, F2 bs ++ apB x = F2 bs2 ∧ (∀ y ∈ bs2, Small y) ∧ bs2.flatten = bs.flatten ++ x := by
        by_cases h0 : x = []
        · subst h0; exact ⟨bs, by simp [apB], l2, by simp⟩
        · refine ⟨bs ++ [x], by rw [F2_snoc]; unfold apB; rw [if_neg h0], fun y hy => ?_, by simp⟩
          rcases List.mem_append.1 hy with hy | hy
          · exact l2 y hy
          · rw [List.mem_singleton.1 hy]; exact hx
      obtain ⟨bs2, b1, b2, b3⟩ := hbs
      rw [b1] at g1
      have hlenF : (F2 bs2).length = (F2 bs).length + (apB x).length := by rw [← b1, List.length_append]
      obtain ⟨d2, lg2, hv2, mr2, sz2, e2, q⟩ := crash_loop hN l hll hs suf (pre ++ [x]) fuel d' lg' (have_ ++ x) (have_ ++ x) size' bs2 (by rw [hp]; simp) (by omega) ⟨g1, b2, by rw [l3, b3], by rw [l3, b3], by rw [g2, l5, b3]⟩ (by omega) (by rw [b3, List.length_append]; omega)
      rw [hwr] at e2
      refine ⟨d2, lg2, hv2, mr2, sz2, hhead (go_d rfl ?_), q⟩
      rw [wrap_succ pre.length (by omega)]
      exact e2
    · have e1 : apB x = frame (recB x) := by unfold apB; rw [if_neg g4]
      rw [e1] at g1 h1
      refine ⟨d', lg', have_, have_ ++ x, size', hhead (go_n (by decide) (go_o (Dk.dead_ok d') ?_)), .inr ⟨bs, x, ⟨g2, g1, l2, hx, l3, by rw [l3]⟩, by rw [List.length_append]; omega, by rw [List.length_append]; omega⟩⟩
      show (bif !d'.dead then _ else _) = _
      refine go_f (by rw [g2]; rfl) ?_
      rw [wrap_succ pre.length (by omega)]
      exact gone_stays g2 l lg' have_ (have_ ++ x) size' (pre.length + 1) fuel (by omega) (by omega)

/-- What is told at the end. -/
theorem tells (hN : 8796093022208 ≤ N) (d : DD) (bs : List (List (List UInt8))) (size : Int) (have_ more : List (List UInt8)) (h : bs.flatten = have_ ∨ bs.flatten = more) (hl : bs.flatten.length ≤ 1000000000) (ht : tl bs.flatten ≤ 1000000000000) :
    (obind (law_gone.run N d.room d.used d.files d.steps d.left d.dead nm bs.flatten size) fun (v : (Int × Int × DFs × Int × Int × Bool × Unit) × (Unit × List UInt8 × List (List UInt8) × Int × Unit) × List (List UInt8) × Unit) =>
      obind (ref_Same_b.run N v.2.2.1 have_) fun (b : Bool × Unit) => bif b.1 then some (true, ()) else obind (ref_Same_b.run N v.2.2.1 more) fun (b : Bool × Unit) => some (b.1, ())) = some (true, ()) := by
  refine go_o (gone_ok d nm bs.flatten size hl ht (by omega)) ?_
  obtain ⟨y, y1, y2⟩ := same_any (N := N) bs.flatten have_ (by omega) (by omega)
  refine go_o y1 ?_
  cases y with
  | true => rfl
  | false =>
    rcases h with h | h
    · exact absurd (y2 h) (by decide)
    · obtain ⟨z, z1, z2⟩ := same_any (N := N) bs.flatten more (by omega) (by omega)
      refine go_f rfl (go_o z1 ?_)
      rw [z2 h]

theorem tl_F2 (bs : List (List (List UInt8))) : tl bs.flatten ≤ (F2 bs).length := by
  induction bs with
  | nil => simp [tl]
  | cons x bs ih =>
    rw [List.flatten_cons, tl_append, F2_cons, List.length_append, frame_len]
    have h1 : tl x ≤ (recB x).length := by
      unfold recB
      rw [List.length_append]
      have : tl x ≤ (x.flatMap textB).length := by
        clear ih
        induction x with
        | nil => simp [tl]
        | cons t x ih2 =>
          rw [tl_cons, List.flatMap_cons, List.length_append]
          have : t.length ≤ (textB t).length := by unfold textB; rw [List.length_append]; omega
          omega
      omega
    omega

theorem create_al (hN : 8796093022208 ≤ N) :
    ∃ d : DD, redo_Create.run N (dNew big).room (dNew big).used (dNew big).files (dNew big).steps (dNew big).left (dNew big).dead nm = some (.inr (d.t, ((), nm, [], 0, ()), 0, ())) ∧ Al d [] := by
  obtain ⟨a1, a2⟩ := lg_new (room := big) (name := nm) nm_ok (by decide) (by decide)
  obtain ⟨g1, g2, ⟨k, g3⟩, g4, g5⟩ := id a2
  have hread := Dk.read_ok (N := N) (dNew big) nm (by show (0 : Nat) ≤ _; omega)
  have happ := Dk.append_ok (N := N) hN (dNew big) nm [] (by decide) (by show (0 : Nat) + 0 ≤ _; omega)
  have hsync := Dk.sync_ok (N := N) (dAppend (dNew big) nm []).1 nm
  rw [a1] at happ
  rcases al_sync (d := (dAppend (dNew big) nm []).1) (b := []) (c := k) ⟨g3, g4, g5⟩ g1 (by rw [g2]; decide) (by simp) with ⟨s1, s2⟩ | ⟨_, _, _, s4⟩
  · rw [s1] at hsync
    have f1 : redo_Create_f1.run N (dNew big).room (dNew big).used (dNew big).files (dNew big).steps (dNew big).left (dNew big).dead nm = some ((dNew big).t, 0, ()) := go_o hread rfl
    have hrow : redo_row.run N (dNew big).room (dNew big).used (dNew big).files (dNew big).steps (dNew big).left (dNew big).dead nm = some ((dSync (dAppend (dNew big) nm []).1 nm).1.t, 0, ()) :=
      go_o f1 (go_nd rfl (go_o (v := ((dAppend (dNew big) nm []).1.t, 0, ())) (go_o happ rfl) (go_nd rfl (go_o (v := ((dSync (dAppend (dNew big) nm []).1 nm).1.t, 0, ())) (go_o hsync rfl) (go_nd rfl rfl)))))
    exact ⟨_, go_o hrow (go_nd rfl rfl), s2⟩
  · exact absurd g2 s4

theorem redo_crash (hN : 8796093022208 ≤ N) (l : List (List (List UInt8))) (c again : Int × List Int) (hs : ∀ x ∈ l, Small x) (ha : (ap l).length ≤ 1000000000) (hfl : l.flatten.length ≤ 1000000000) (hll : l.length ≤ 1000000000) (hc : c.1 < 9223372036854775808) (hag : again.1 < 9223372036854775808) :
    law_RedoCrash.run N l c again = some (true, ()) := by
  obtain ⟨d1, e1, l1⟩ := create_al (N := N) hN
  refine go_o (Dk.new_ok big) (go_o (alive_ok hN) (go_f rfl ?_))
  by_cases c0 : c.1 < 0
  · exact go_d c0 (go_o (alive_ok hN) rfl)
  refine go_n c0 ?_
  by_cases a0 : again.1 < 0
  · exact go_d a0 (go_o (alive_ok hN) rfl)
  refine go_n a0 (go_o (v := .inr (d1.t, ((), nm, [], 0, ()), 0, ())) (go_o e1 rfl) ?_)
  obtain ⟨d2, lg, hv, mr, sz, e2, q⟩ := crash_loop (N := N) hN l hll hs l [] N (dArm d1 c.1) [] [] [] 0 [] rfl (by omega) ⟨al_arm l1 (by omega) hc, by simp, rfl, rfl, rfl⟩ (by show 0 + (ap l).length ≤ _; omega) (by show 0 + _ ≤ _; omega)
  refine go_nd rfl (go_o (Dk.arm_ok d1 c.1) (go_o e2 ?_))
  -- what the crash leaves
  have hleft : ∃ (d3 : DD) (bs : List (List (List UInt8))) (r : List UInt8), disk_Disk_Crash.run N d2.room d2.used d2.files d2.steps d2.left d2.dead c.2 = some (d2.t, d3.t, ()) ∧ Al d3 (F2 bs ++ r) ∧ (r = [] ∨ (unf r).2.2 = 10) ∧ (∀ x ∈ bs, Small x) ∧ (bs.flatten = hv ∨ bs.flatten = mr) ∧ (F2 bs ++ r).length ≤ 1000000000 ∧ bs.flatten.length ≤ 1000000000 := by
    rcases q with ⟨bs, ⟨q1, q2, q3, q4, q5⟩, q6, q7⟩ | ⟨bs, x, ⟨q0, q1, q2, q3, q4, q5⟩, q6, q7⟩
    · obtain ⟨d3, m, m1, m2, m3, m4, m5⟩ := fi_crash (N := N) hN q1.1 (Nat.le_refl _) q6 c.2
      have : m = (F2 bs).length := by omega
      rw [List.take_of_length_le (by omega)] at m4
      exact ⟨d3, bs, [], m3, by rw [List.append_nil]; exact m4, .inl rfl, q2, .inl q3.symm, by rw [List.append_nil]; exact q6, q7⟩
    · obtain ⟨d3, m, m1, m2, m3, m4, m5⟩ := fi_crash (N := N) hN q1 (by rw [List.length_append]; omega) q6 c.2
      have hx' : tot x + 9 ≤ 16777216 := q3
      have hrl := recB_len x
      rw [List.length_append] at m2 q6 q7
      by_cases hm : m = (F2 bs ++ frame (recB x)).length
      · rw [hm, List.take_of_length_le (Nat.le_refl _), ← F2_snoc] at m4
        exact ⟨d3, bs ++ [x], [], m3, by rw [List.append_nil]; exact m4, .inl rfl, fun y hy => by
          rcases List.mem_append.1 hy with hy | hy
          · exact q2 y hy
          · rw [List.mem_singleton.1 hy]; exact q3, .inr (by rw [q5]; simp), by rw [List.append_nil, F2_snoc, List.length_append]; omega, by simp only [List.flatten_append, List.flatten_cons, List.flatten_nil, List.append_nil, List.length_append]; omega⟩
      · rw [List.length_append] at hm
        have e : (F2 bs ++ frame (recB x)).take m = F2 bs ++ (frame (recB x)).take (m - (F2 bs).length) := by rw [List.take_append, List.take_of_length_le (by omega)]
        rw [e] at m4
        exact ⟨d3, bs, _, m3, m4, .inr (by rw [unf_cut (recB x) (by omega) _ (by omega)]), q2, .inl q4.symm, by rw [List.length_append, List.length_take]; omega, by omega⟩
  obtain ⟨d3, bs, r, m1, m2, m3, m4, m5, m6, m7⟩ := hleft
  have htl := tl_F2 bs
  have hFl : (F2 bs).length ≤ 1000000000 := by rw [List.length_append] at m6; omega
  refine go_o m1 (go_o (Dk.arm_ok d3 again.1) ?_)
  have hAl := al_arm m2 (show 0 ≤ again.1 by omega) hag
  rcases open_any (N := N) hN hAl m4 m3 m6 with ⟨d4, o1, o2⟩ | ⟨d4, r', o1, o2, o3, o4, o5, o6⟩
  · refine go_o (v := .inr (d4.t, 0, ((), nm, bs.flatten, ((F2 bs).length : Int), ()), ())) (go_o o1 rfl) ?_
    exact go_o (Dk.dead_ok d4) (go_f o2 (go_nd rfl (tells hN d4 bs _ hv mr m5 m7 (by omega))))
  · refine go_o (v := .inl (d4.t, 44, (), ())) (go_o o1 rfl) ?_
    refine go_o (Dk.dead_ok d4) (go_t o2 (go_nd rfl ?_))
    obtain ⟨d5, m, n1, n2, n3, n4, n5⟩ := fi_crash (N := N) hN o3 (Nat.le_refl _) o5 again.2
    rw [List.take_of_length_le (by omega)] at n4
    refine go_o n3 ?_
    rcases open_any (N := N) hN n4 m4 o4 o5 with ⟨d6, p1, p2⟩ | ⟨d6, r2, p1, p2, p3, p4, p5, p6⟩
    · refine go_o p1 ?_
      exact go_nd rfl (tells hN d6 bs _ hv mr m5 m7 (by omega))
    · exact absurd n5 p6
end
end Go.Hay.Ythlojpcjafefjaa
