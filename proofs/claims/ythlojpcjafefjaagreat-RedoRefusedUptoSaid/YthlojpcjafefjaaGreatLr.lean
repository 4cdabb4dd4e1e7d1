/- Worlds with a log or with none, and what a call makes of them. Conditions: sizes below a bound. -/
import Derived.Test.YthlojpcjafefjaaGreatLqa
set_option linter.unusedVariables false
set_option linter.unusedSimpArgs false
namespace Go.Hay.YthlojpcjafefjaaGreat
open Go Go.Hay Go.Proofs

section
variable {N : Nat}

/-- A world: both disks; a log, the same in both, or none. -/
inductive Wd where
  | jM (d : DD) (r : RS) (x : List UInt8) (y : List (List UInt8)) (z : Int)
  | log (d : DD) (r : RS) (l : List (List UInt8)) (s : Int)
def WQ (b : Bool) (k : Nat) : Wd → Prop
  | .jM d r x y z => Inv k d r ∧ (b = true → Live d)
  | .log d r l s => Inv k d r ∧ (b = true → Live d) ∧ l.length ≤ k ∧ Bd l
abbrev rz (r : RS) (x : List UInt8) (y : List (List UInt8)) (z : Int) (up : Bool) : Int × Int × DFs × Bool × Bool × Int × List UInt8 × List (List UInt8) × Int × Bool × Unit := (r.room, r.steps, r.files, r.armed, r.dead, r.left, x, y, z, up, ())
abbrev lt (l : List (List UInt8)) (s : Int) : Unit × List UInt8 × List (List UInt8) × Int × Unit := ((), nm, l, s, ())
def OutC : Wd → T73 → Prop
  | .jM d r x y z, o => o = .inl (d.t, ((), (), rz r x y z false), true, ()) ∨ ∃ t, o = .inr (.inr (.inl (t, (d.t, (), rz r x y z false), true, ())))
  | .log d r l s, o => o = .inr (.inl (d.t, ((), lt l s, rz r nm l s true), true, ())) ∨ ∃ t, o = .inr (.inr (.inr (t, (d.t, lt l s, rz r nm l s true), true, ())))
def OutE : Wd → T78 → Prop
  | .jM d r x y z, o => (∃ t, o = .inl (d.t, t, ((), (), rz r x y z false), true, ())) ∨ ∃ t u, o = .inr (.inr (.inr (.inl (t, u, (d.t, (), rz r x y z false), true, ()))))
  | .log d r l s, o => (∃ t, o = .inr (.inl (d.t, t, ((), lt l s, rz r nm l s true), true, ()))) ∨ o = .inr (.inr (.inl (d.t, lt l s, ((), (), rz r nm l s true), true, ()))) ∨ ∃ t u, o = .inr (.inr (.inr (.inr (t, u, (d.t, lt l s, rz r nm l s true), true, ()))))

abbrev Op := Int × Int × List (List UInt8) × List Int
structure OpQ (o : Op) : Prop where
  small : Small o.2.2.1
  arm : o.2.1 < 9223372036854775808
def cost (o : Op) : Nat := 40 + tot o.2.2.1

/-- What is opened. -/
def opened (d : DD) (r : RS) : Wd := bif decide ((rOpen r).2 = 0) then .log (dOpen d).1 (rOpen r).1 (readP (rGet r nm).1).1 (readP (rGet r nm).1).2.1 else .jM (dOpen d).1 (rOpen r).1 [] [] 0
def fD47 (d : DD) (r : RS) : Wd := bif decide ((fD34 r).2 = 0) then .log (fD37 d).1 (fD34 r).1 [] 0 else .jM (fD37 d).1 (fD34 r).1 [] [] 0
theorem fA56 {b : Bool} {k : Nat} {d : DD} {r : RS} (h : Inv k d r) (hv : b = true → Live d) (hk : k + 4 ≤ 900000000) : WQ b (k + 4) (opened d r) := by
  have hb := fD50 h (by omega)
  unfold opened
  cases decide ((rOpen r).2 = 0) with
  | false => exact ⟨hb.2, fun e => fB71 (hv e)⟩
  | true =>
    have hl : (rGet r nm).1.length ≤ k := h.fi.lenG nm
    have := fD90 (rGet r nm).1
    exact ⟨hb.2, fun e => fB71 (hv e), by omega, fA94 _⟩
theorem fC58 {b : Bool} {k : Nat} {d : DD} {r : RS} (h : Inv k d r) (hv : b = true → Live d) (hk : k + 6 ≤ 900000000) : WQ b (k + 6) (fD47 d r) := by
  have hb := fD49 h (by omega)
  unfold fD47
  cases decide ((fD34 r).2 = 0) with
  | false => exact ⟨hb.2, fun e => fC64 (hv e)⟩
  | true => exact ⟨hb.2, fun e => fC64 (hv e), Nat.zero_le _, Bd.nil⟩
theorem WQ.mono {b : Bool} {k k' : Nat} {w : Wd} (h : WQ b k w) (hk : k ≤ k') (hs : k' ≤ 2199023255552) : WQ b k' w := by
  cases w with
  | jM d r x y z => exact ⟨h.1.mono hk hs, h.2⟩
  | log d r l s => exact ⟨h.1.mono hk hs, h.2.1, Nat.le_trans h.2.2.1 hk, h.2.2.2⟩

/-- What the shorter call gives. -/
def OutD : Wd → T56 ⊕ T66 → Prop
  | .jM d r x y z, o => o = .inl (d.t, ((), (), rz r x y z false), true, ())
  | .log d r l s, o => o = .inr (d.t, ((), lt l s, rz r nm l s true), true, ())

theorem open_d (hN : 8796093022208 ≤ N) {k : Nat} {d : DD} {r : RS} (h : Inv k d r) (hk : k + 4 ≤ 900000000) (x : List UInt8) (y : List (List UInt8)) (z : Int) (up : Bool) :
    ∃ out, law_step_d.run N d.room d.used d.files d.steps d.left d.dead r.room r.steps r.files r.armed r.dead r.left x y z up = some out ∧ OutD (opened d r) out := by
  have hb := fD50 h (by omega)
  have hp := fA57 hN h (by omega)
  have hr := fB53 hN h hk
  unfold opened
  by_cases he : (rOpen r).2 = 0
  · rw [decide_eq_true he]
    rw [hb.1] at hp
    have hp := hp.1 he
    rw [h.get] at hp
    exact ⟨_, go_o (go_o hp rfl) (go_o (hr.1 he) (go_o (go_d rfl rfl) rfl)), rfl⟩
  · rw [decide_eq_false he]
    have hp := hp.2 (by rw [hb.1]; exact he)
    exact ⟨_, go_o (go_o hp rfl) (go_o (hr.2 he) (go_o (v := ((dOpen d).1.t, ((), (), rz (rOpen r).1 [] [] 0 false), true, ())) (go_d hb.1 (by rw [decide_eq_false he]; rfl)) rfl)), rfl⟩
theorem open_f (hN : 8796093022208 ≤ N) {k : Nat} {d : DD} {r : RS} (h : Inv k d r) (hk : k + 4 ≤ 900000000) (x : List UInt8) (y : List (List UInt8)) (z : Int) (up : Bool) (d' : DD) (n : List UInt8) (l : List (List UInt8)) (s : Int) :
    ∃ out, law_step_f.run N d.room d.used d.files d.steps d.left d.dead d'.room d'.used d'.files d'.steps d'.left d'.dead n l s r.room r.steps r.files r.armed r.dead r.left x y z up = some out ∧ OutD (opened d r) out := by
  have hb := fD50 h (by omega)
  have hp := fA57 hN h (by omega)
  have hr := fB53 hN h hk
  unfold opened
  by_cases he : (rOpen r).2 = 0
  · rw [decide_eq_true he]
    rw [hb.1] at hp
    have hp := hp.1 he
    rw [h.get] at hp
    exact ⟨_, go_o (go_o hp rfl) (go_o (hr.1 he) (go_o (go_d rfl rfl) rfl)), rfl⟩
  · rw [decide_eq_false he]
    have hp := hp.2 (by rw [hb.1]; exact he)
    exact ⟨_, go_o (go_o hp rfl) (go_o (hr.2 he) (go_o (v := ((dOpen d).1.t, ((), (), rz (rOpen r).1 [] [] 0 false), true, ())) (go_d hb.1 (by rw [decide_eq_false he]; rfl)) rfl)), rfl⟩

theorem fB61 {k : Nat} {d : DD} {r : RS} (hN : 8796093022208 ≤ N) (h : Inv k d r) (keep : List Int) :
    fA6.run N d.room d.used d.files d.steps d.left d.dead keep = some (d.t, (dCrash d r.files keep).t, ()) := by
  have h1 := h.fi.fits
  exact Dk.fC95 hN h.fi (by omega) keep

/-- A call on a world without a log. -/
theorem step_c {b : Bool} (hN : 8796093022208 ≤ N) {k : Nat} {d : DD} {r : RS} (h : Inv k d r) (hv : b = true → Live d) (x : List UInt8) (y : List (List UInt8)) (z : Int) {o : Op} (ho : OpQ o) (hf : b = true → ¬ o.1 = 4) (hk : k + cost o ≤ 900000000) :
    ∃ w out, WQ b (k + cost o) w ∧ law_step_c.run N d.room d.used d.files d.steps d.left d.dead r.room r.steps r.files r.armed r.dead r.left x y z false o = some out ∧ OutC w out := by
  have hc : 40 ≤ cost o := by unfold cost; omega
  by_cases h2 : o.1 = 2
  · have hb := fD50 h (by omega)
    have hp := fA57 hN h (by omega)
    have hr := fB53 hN h (by omega)
    refine ⟨opened d r, ?_⟩
    have hq := (fA56 (b := b) h hv (by omega)).mono (k' := k + cost o) (by omega) (by omega)
    revert hq
    unfold opened
    by_cases he : (rOpen r).2 = 0
    · rw [decide_eq_true he]
      rw [hb.1] at hp
      have hp := hp.1 he
      rw [h.get] at hp
      exact fun hq => ⟨_, hq, go_d h2 (go_o (go_o hp rfl) (go_o (hr.1 he) (go_o (go_d rfl rfl) rfl))), .inl rfl⟩
    · rw [decide_eq_false he]
      have hp := hp.2 (by rw [hb.1]; exact he)
      exact fun hq => ⟨_, hq, go_d h2 (go_o (go_o hp rfl) (go_o (hr.2 he) (go_o (v := ((dOpen d).1.t, ((), (), rz (rOpen r).1 [] [] 0 false), true, ())) (go_d hb.1 (by rw [decide_eq_false he]; rfl)) rfl))), .inl rfl⟩
  by_cases h3 : o.1 = 3
  · have hb := fD49 h (by omega)
    have hp := fB56 hN h (by omega)
    have hr := fD53 hN h (by omega)
    refine ⟨fD47 d r, ?_⟩
    have hq := (fC58 (b := b) h hv (by omega)).mono (k' := k + cost o) (by omega) (by omega)
    revert hq
    unfold fD47
    by_cases he : (fD34 r).2 = 0
    · rw [decide_eq_true he]
      rw [hb.1] at hp
      have hp := hp.1 he
      exact fun hq => ⟨_, hq, go_n h2 (go_d h3 (go_o (go_o hp rfl) (go_o (hr.1 he) (go_o (go_d rfl rfl) rfl)))), .inl rfl⟩
    · rw [decide_eq_false he]
      have hp := hp.2 (by rw [hb.1]; exact he)
      exact fun hq => ⟨_, hq, go_n h2 (go_d h3 (go_o (go_o hp rfl) (go_o (hr.2 he) (go_o (v := ((fD37 d).1.t, ((), (), rz (fD34 r).1 [] [] 0 false), true, ())) (go_d hb.1 (by rw [decide_eq_false he]; rfl)) rfl)))), .inl rfl⟩
  by_cases h4 : o.1 = 4
  · have hq := (h.arm o.2.1 ho.arm).mono (k' := k + cost o) (by omega) (by omega)
    exact ⟨.jM (dArm d o.2.1) (rArm r o.2.1) x y z, _, ⟨hq, fun e => absurd h4 (hf e)⟩, go_n h2 (go_n h3 (go_d h4 (go_o (Dk.arm_ok d o.2.1) (go_o (Dk.fD85 r o.2.1) rfl)))), .inl rfl⟩
  by_cases h5 : o.1 = 5
  · have hi := h.crash o.2.2.2
    obtain ⟨out, e, hout⟩ := open_d hN hi (by omega) x y z false
    have hq := (fA56 (b := b) hi (fun _ => ⟨rfl, rfl⟩) (by omega)).mono (k' := k + cost o) (by omega) (by omega)
    refine ⟨opened (dCrash d r.files o.2.2.2) (rCrash r o.2.2.2), ?_⟩
    revert hq hout
    cases opened (dCrash d r.files o.2.2.2) (rCrash r o.2.2.2) with
    | jM a b c e1 f =>
      intro hout hq
      change out = _ at hout
      subst hout
      exact ⟨_, hq, go_n h2 (go_n h3 (go_n h4 (go_d h5 (go_o (fB61 hN h o.2.2.2) (go_o (Dk.fB52 hN (Dk.Inv.rb h) o.2.2.2) (go_o e rfl)))))), .inr ⟨_, rfl⟩⟩
    | log a b c e1 =>
      intro hout hq
      change out = _ at hout
      subst hout
      exact ⟨_, hq, go_n h2 (go_n h3 (go_n h4 (go_d h5 (go_o (fB61 hN h o.2.2.2) (go_o (Dk.fB52 hN (Dk.Inv.rb h) o.2.2.2) (go_o e rfl)))))), .inr ⟨_, rfl⟩⟩
  exact ⟨.jM d r x y z, _, ⟨h.mono (by omega) (by omega), hv⟩, go_n h2 (go_n h3 (go_n h4 (go_n h5 (go_t rfl rfl)))), .inl rfl⟩

/-- A call on a world with a log. -/
theorem step_e {b : Bool} (hN : 8796093022208 ≤ N) {k : Nat} {d : DD} {r : RS} (h : Inv k d r) (hv : b = true → Live d) {l : List (List UInt8)} (hl : l.length ≤ k) (hbd : Bd l) (s : Int) {o : Op} (ho : OpQ o) (hf : b = true → ¬ o.1 = 4) (hk : k + cost o ≤ 900000000) :
    ∃ w out, WQ b (k + cost o) w ∧ law_step_e.run N d.room d.used d.files d.steps d.left d.dead nm l s r.room r.steps r.files r.armed r.dead r.left nm l s true o = some out ∧ OutE w out := by
  have hc : cost o = 40 + tot o.2.2.1 := rfl
  by_cases h2 : o.1 = 2
  · have hb := fD50 h (by omega)
    have hp := fA57 hN h (by omega)
    have hr := fB53 hN h (by omega)
    refine ⟨opened d r, ?_⟩
    have hq := (fA56 (b := b) h hv (by omega)).mono (k' := k + cost o) (by omega) (by omega)
    revert hq
    unfold opened
    by_cases he : (rOpen r).2 = 0
    · rw [decide_eq_true he]
      rw [hb.1] at hp
      have hp := hp.1 he
      rw [h.get] at hp
      exact fun hq => ⟨_, hq, go_d h2 (go_o (go_o hp rfl) (go_o (hr.1 he) (go_o (go_d rfl rfl) rfl))), .inl ⟨_, rfl⟩⟩
    · rw [decide_eq_false he]
      have hp := hp.2 (by rw [hb.1]; exact he)
      exact fun hq => ⟨_, hq, go_d h2 (go_o (go_o hp rfl) (go_o (hr.2 he) (go_o (v := ((dOpen d).1.t, ((), (), rz (rOpen r).1 [] [] 0 false), true, ())) (go_d hb.1 (by rw [decide_eq_false he]; rfl)) rfl))), .inl ⟨_, rfl⟩⟩
  by_cases h3 : o.1 = 3
  · have hb := fD49 h (by omega)
    have hp := fB56 hN h (by omega)
    have hr := fD53 hN h (by omega)
    refine ⟨fD47 d r, ?_⟩
    have hq := (fC58 (b := b) h hv (by omega)).mono (k' := k + cost o) (by omega) (by omega)
    revert hq
    unfold fD47
    by_cases he : (fD34 r).2 = 0
    · rw [decide_eq_true he]
      rw [hb.1] at hp
      have hp := hp.1 he
      exact fun hq => ⟨_, hq, go_n h2 (go_d h3 (go_o (go_o hp rfl) (go_o (hr.1 he) (go_o (go_d rfl rfl) rfl)))), .inl ⟨_, rfl⟩⟩
    · rw [decide_eq_false he]
      have hp := hp.2 (by rw [hb.1]; exact he)
      exact fun hq => ⟨_, hq, go_n h2 (go_d h3 (go_o (go_o hp rfl) (go_o (hr.2 he) (go_o (v := ((fD37 d).1.t, ((), (), rz (fD34 r).1 [] [] 0 false), true, ())) (go_d hb.1 (by rw [decide_eq_false he]; rfl)) rfl)))), .inl ⟨_, rfl⟩⟩
  by_cases h4 : o.1 = 4
  · have hq := (h.arm o.2.1 ho.arm).mono (k' := k + cost o) (by omega) (by omega)
    exact ⟨.log (dArm d o.2.1) (rArm r o.2.1) l s, _, ⟨hq, fun e => absurd h4 (hf e), by omega, hbd⟩, go_n h2 (go_n h3 (go_d h4 (go_o (Dk.arm_ok d o.2.1) (go_o (Dk.fD85 r o.2.1) rfl)))), .inr (.inl rfl)⟩
  by_cases h5 : o.1 = 5
  · have hi := h.crash o.2.2.2
    obtain ⟨out, e, hout⟩ := open_f hN hi (by omega) nm l s true d nm l s
    have hq := (fA56 (b := b) hi (fun _ => ⟨rfl, rfl⟩) (by omega)).mono (k' := k + cost o) (by omega) (by omega)
    refine ⟨opened (dCrash d r.files o.2.2.2) (rCrash r o.2.2.2), ?_⟩
    revert hq hout
    cases opened (dCrash d r.files o.2.2.2) (rCrash r o.2.2.2) with
    | jM a b c e1 f =>
      intro hout hq
      change out = _ at hout
      subst hout
      exact ⟨_, hq, go_n h2 (go_n h3 (go_n h4 (go_d h5 (go_o (fB61 hN h o.2.2.2) (go_o (Dk.fB52 hN (Dk.Inv.rb h) o.2.2.2) (go_o e rfl)))))), .inr ⟨_, _, rfl⟩⟩
    | log a b c e1 =>
      intro hout hq
      change out = _ at hout
      subst hout
      exact ⟨_, hq, go_n h2 (go_n h3 (go_n h4 (go_d h5 (go_o (fB61 hN h o.2.2.2) (go_o (Dk.fB52 hN (Dk.Inv.rb h) o.2.2.2) (go_o e rfl)))))), .inr (.inr ⟨_, _, rfl⟩)⟩
  by_cases h0 : o.1 = 0
  · have hfl := fA51 (recB o.2.2.1)
    have hrl := fB47 o.2.2.1
    have hb := fD95 h o.2.2.1 (by omega)
    have hp := fA83 hN h (rs := o.2.2.1) (l := l) (by omega) ho.small (by omega) s
    have hr := fB96 hN h (rs := o.2.2.1) (l := l) (by omega) ho.small (by omega) s
    have htt := tl_tot o.2.2.1
    refine ⟨.log (dApp d o.2.2.1).1 (rApp r o.2.2.1).1 (appL (rApp r o.2.2.1).2 l o.2.2.1) (appS (rApp r o.2.2.1).2 s o.2.2.1), _, ⟨hb.2.mono (by omega) (by omega), fun e => fD94 (hv e) _, ?_, ?_⟩, go_n h2 (go_n h3 (go_n h4 (go_n h5 (go_f rfl (go_d h0 (go_o hp (go_o hr rfl))))))), ?_⟩
    · unfold appL
      cases decide ((rApp r o.2.2.1).2 = 0) with
      | true =>
        show (l ++ o.2.2.1).length ≤ _
        rw [List.length_append]; omega
      | false => show l.length ≤ _; omega
    · unfold appL
      cases decide ((rApp r o.2.2.1).2 = 0) with
      | true => exact hbd.app (fB80 ho.small)
      | false => exact hbd
    · refine .inr (.inl ?_)
      rw [hb.1, decide_eq_true rfl]
  refine ⟨.log d r l s, _, ⟨h.mono (by omega) (by omega), hv, by omega, hbd⟩, go_n h2 (go_n h3 (go_n h4 (go_n h5 (go_f rfl (go_n h0 (go_o rfl (go_d rfl (go_o rfl (go_d rfl (go_o (gone1 d nm l s (by omega) hbd (by omega)) (go_o (fD91 l (by omega) (by omega)) rfl))))))))))), .inr (.inl rfl)⟩
end
end Go.Hay.YthlojpcjafefjaaGreat
