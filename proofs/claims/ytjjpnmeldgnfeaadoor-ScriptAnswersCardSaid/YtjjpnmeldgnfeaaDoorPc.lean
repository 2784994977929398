/-
  script.Parse: what is read is in bounds; the reader's calls at Parse's blocks.
-/
import Derived.Test.YtjjpnmeldgnfeaaDoorPa
namespace Go.Proofs.YtjjpnmeldgnfeaaDoor
open Go Go.RowKit Go.Proofs.YtjjpnmeldgnfeaaDoor.PScriptTexts Go.Proofs.YtjjpnmeldgnfeaaDoorW.PrintWords
set_option maxRecDepth 100000

theorem unbP_ok (s : List UInt8) : InB (unbP s).1 ∧ (unbP s).1.length ≤ 40 := by
  unfold unbP
  split
  · exact ⟨fun x hx => by have := List.eq_of_mem_replicate hx; omega, by simp⟩
  · split
    · exact ⟨fun x hx => (by cases hx), by simp⟩
    · rename_i h1 h2
      unfold unbV
      split
      · exact ⟨fun x hx => (by cases hx), by simp⟩
      · rename_i bs hbs
        obtain ⟨r1, r2⟩ := pairs_range s bs hbs
        split
        · exact ⟨pad40_range _ r1, by rw [pad40_len _ (by simp; omega)]; omega⟩
        · exact ⟨fun x hx => (by cases hx), by simp⟩
theorem readPuts_ok : ∀ (ws : List (List UInt8)) (l : List S42), readPuts ws = some l → PutsOk l ∧ 2 * l.length ≤ ws.length ∧ lenSum l ≤ 40 * l.length
  | [], l, h => by
    injection h with h; subst h
    exact ⟨fun p hp => (by cases hp), Nat.le_refl _, by simp [lenSum]⟩
  | [_], l, h => by cases h
  | a :: d :: r, l, h => by
    rw [readPuts] at h
    split at h
    · rename_i n l' h1 h2 h3
      injection h with h; subst h
      obtain ⟨i1, i2, i3⟩ := readPuts_ok r l' h3
      have hn := numP_range h1
      have hu := unbP_ok d
      refine ⟨fun p hp => ?_, by simp; omega, by simp only [lenSum, List.map_cons, List.sum_cons, List.length_cons] at *; omega⟩
      rcases List.mem_cons.1 hp with rfl | hp
      · exact ⟨⟨by dsimp only; omega, by dsimp only; omega⟩, hu.1⟩
      · exact i1 p hp
    · cases h
/-- What is read is in bounds. -/
theorem parseO_ok (ws : List (List UInt8)) (o : OpD) (h : parseO ws = some o) : I64 o.h ∧ I64 o.lba ∧ I64 o.len ∧ PutsOk o.l ∧ 2 * o.l.length ≤ ws.length ∧ lenSum o.l ≤ 40 * o.l.length := by
  have z : I64 0 := ⟨by decide, by decide⟩
  have rg : ∀ {x n}, numP x = some n → I64 n := fun h => by have := numP_range h; exact ⟨by omega, by omega⟩
  have nl : PutsOk [] := fun p hp => by cases hp
  match ws, h with
  | [], h => cases h
  | x :: r, h =>
    unfold parseO at h
    dsimp only at h
    split at h
    · injection h with h; subst h; exact ⟨z, z, z, nl, by simp, by simp [lenSum]⟩
    · split at h
      · split at h
        · rename_i h1 h2 h3
          injection h with h; subst h
          exact ⟨rg h1, rg h2, rg h3, nl, by simp, by simp [lenSum]⟩
        · cases h
      · cases h
    · split at h
      · cases h
      · split at h
        · rename_i h1 h2
          injection h with h; subst h
          obtain ⟨i1, i2, i3⟩ := readPuts_ok _ _ h2
          exact ⟨rg h1, z, z, i1, by simp; omega, i3⟩
        · cases h
    · split at h
      · cases h
      · rename_i a _
        cases hn : numP a with
        | none => rw [hn] at h; cases h
        | some n =>
          rw [hn] at h
          injection h with h; subst h
          exact ⟨rg hn, z, z, nl, by simp, by simp [lenSum]⟩
    · split at h
      · cases h
      · rename_i a _
        cases hn : numP a with
        | none => rw [hn] at h; cases h
        | some n =>
          rw [hn] at h
          injection h with h; subst h
          exact ⟨rg hn, z, z, nl, by simp, by simp [lenSum]⟩
    · cases h

/-! ### the reader's calls -/
theorem num_ps {w W : World} (E : Env w) {ws : List (List UInt8)} {bad : Bool} {k h lba len : Int} {v : Value} (p : PS w W ws bad k h lba len v) (hw : ∀ x ∈ ws, x.length ≤ 1000000) :
    Calls Tryd.prog 29 #[.pointer (some ⟨w.heap.size + 1 + 1, 0, none⟩)] W fun e w' => ∃ n b, e = .returned (.int .i64 n) ∧ numOf (nextS ws bad).1 n b ∧ PS w w' (nextS ws bad).2.1 ((nextS ws bad).2.2 || b) k h lba len v ∧ Keep W w' (w.heap.size + 1 + 1) := by
  obtain ⟨A, c, hr⟩ := p.rd
  refine (num_any w W E p.bel (w.heap.size + 1 + 1) (w.heap.size + 1) (by omega) A c ws bad hr hw).mono ?_
  rintro e w' ⟨n, b, h1, h2, h3⟩
  exact ⟨n, b, h1, h2, p.keep h3, h3.choose_spec.choose_spec.2⟩
theorem data_ps {w W : World} {ws : List (List UInt8)} {bad : Bool} {k h lba len : Int} {v : Value} (p : PS w W ws bad k h lba len v) :
    Calls Tryd.prog 30 #[.pointer (some ⟨w.heap.size + 1 + 1, 0, none⟩)] W fun e w' => ∃ v2, e = .returned v2 ∧ MadeB w' W.heap.size v2 (unbP (nextS ws bad).1).1 ∧ PS w w' (nextS ws bad).2.1 ((nextS ws bad).2.2 || !(unbP (nextS ws bad).1).2) k h lba len v ∧ Keep W w' (w.heap.size + 1 + 1) := by
  obtain ⟨A, c, hr⟩ := p.rd
  refine (data_any W (w.heap.size + 1 + 1) (w.heap.size + 1) A c ws bad hr).mono ?_
  rintro e w' ⟨v2, h1, h2, h3⟩
  exact ⟨v2, h1, h2, p.keep h3, h3.choose_spec.choose_spec.2⟩
/-- A field of the op is set. -/
theorem PS.setOp {w W : World} {ws : List (List UInt8)} {bad : Bool} {k h lba len : Int} {v : Value} (p : PS w W ws bad k h lba len v) (i : Nat) (u : Value) {k' h' lba' len' : Int} {v' : Value}
    (e : (#[Value.int .i64 k, .int .i64 h, .int .i64 lba, .int .i64 len, v] : Array Value).setIfInBounds i u = #[.int .i64 k', .int .i64 h', .int .i64 lba', .int .i64 len', v']) :
    PS w (W.setCell ⟨w.heap.size + 1 + 1 + 1, i, none⟩ u) ws bad k' h' lba' len' v' := by
  obtain ⟨A, c, r1⟩ := p.rd
  have hk : Keep W (W.setCell ⟨w.heap.size + 1 + 1 + 1, i, none⟩ u) (w.heap.size + 1 + 1 + 1) := Keep.set W _ i _
  have hl := p.lt
  refine ⟨(hk.block _ (by omega) (by omega)).trans p.res, ⟨A, c, ?_⟩, by rw [← e]; exact blk_set p.op i u, p.bel.setCell (by dsimp only; omega) _⟩
  exact ⟨(hk.block _ (by omega) (by omega)).trans r1.blk, r1.cap, r1.ne, fun h0 => by
    obtain ⟨o, e, hx⟩ := r1.at_ h0
    exact ⟨o, e, fun j y hj => by
      rw [← hx j y hj]
      exact World.cell?_of_block (hk.block (w.heap.size + 1) (by omega) (by omega))⟩⟩
/-- The reader is marked bad. -/
theorem PS.setBad {w W : World} {ws : List (List UInt8)} {bad : Bool} {k h lba len : Int} {v : Value} (p : PS w W ws bad k h lba len v) (b : Bool) : PS w (W.setCell ⟨w.heap.size + 1 + 1, 1, none⟩ (.bool b)) ws b k h lba len v := by
  obtain ⟨A, c, r1⟩ := p.rd
  have := p.lt
  have h1 : RdTo W W (w.heap.size + 1 + 1) (w.heap.size + 1) ws bad := ⟨A, c, r1, Keep.refl _ _⟩
  exact p.keep (h1.setBad b)
/-- The row of puts that Parse makes. -/
abbrev PutsR (w W : World) (v : Value) (l : List S42) : Prop := Kd.R k42 42 W (w.heap.size + 1 + 1 + 1 + 1) (fun k => w.heap.size + 1 + 1 + 1 < k) v l
theorem PutsR.keep {w W W' : World} {v : Value} {l : List S42} {g : Nat} (h : PutsR w W v l) (k : Keep W W' g) (hg : g ≤ w.heap.size + 1 + 1 + 1) : PutsR w W' v l := Kd.R_step h (fun j hj hlt => k.block j hlt (by omega))
theorem PutsR.below {w W W' : World} {v : Value} {l : List S42} (h : PutsR w W v l) (k : Below W.heap.size W W') : PutsR w W' v l := Kd.R_below h k
theorem PutsR.set {w W : World} {v : Value} {l : List S42} (h : PutsR w W v l) (p : Addr) (hg : p.block ≤ w.heap.size + 1 + 1 + 1) (u : Value) : PutsR w (W.setCell p u) v l := Kd.R_far h (fun k hk => by omega) u
theorem PutsR.reads {w W : World} {A : Option Addr} {n c : Nat} {l : List S42} (h : PutsR w W (.slice A n c) l) : n = l.length ∧ l.length ≤ c ∧ Kd.C k42 W A l.length l := by
  obtain ⟨A', c', e, h1, h2⟩ := Kd.R_reads h
  injection e with e1 e2 e3
  subst e1 e2 e3
  exact ⟨rfl, h1, h2⟩
theorem PutsR.slice {w W : World} {v : Value} {l : List S42} (h : PutsR w W v l) : ∃ A c, v = .slice A l.length c := Kd.R_slice h

/-! ### the calls, as the words go -/
def NumS (ws : List (List UInt8)) (bad : Bool) (n : Int) (ws' : List (List UInt8)) (bad' : Bool) : Prop :=
  (bad = true ∧ bad' = true) ∨ (bad = false ∧ ws = [] ∧ bad' = true) ∨ (bad = false ∧ ∃ a, ws = a :: ws' ∧ ((bad' = true ∧ numP a = none) ∨ (bad' = false ∧ numP a = some n)))
def DataS (ws : List (List UInt8)) (bad : Bool) (l : List Int) (ws' : List (List UInt8)) (bad' : Bool) : Prop :=
  (bad = true ∧ bad' = true) ∨ (bad = false ∧ ws = [] ∧ bad' = true) ∨ (bad = false ∧ ∃ a, ws = a :: ws' ∧ l = (unbP a).1 ∧ bad' = !(unbP a).2)
theorem nextS_sub (ws : List (List UInt8)) (bad : Bool) : (∀ y ∈ (nextS ws bad).2.1, y ∈ ws) ∧ (nextS ws bad).2.1.length ≤ ws.length := by
  match ws, bad with
  | [], _ => exact ⟨fun y h => h, Nat.le_refl _⟩
  | x :: r, true => exact ⟨fun y h => h, Nat.le_refl _⟩
  | x :: r, false => exact ⟨fun y h => List.mem_cons_of_mem _ h, by simp [nextS]⟩
theorem numS_of (ws : List (List UInt8)) (bad : Bool) (n : Int) (b : Bool) (h : numOf (nextS ws bad).1 n b) : NumS ws bad n (nextS ws bad).2.1 ((nextS ws bad).2.2 || b) := by
  match ws, bad, h with
  | [], true, _ => exact .inl ⟨rfl, rfl⟩
  | [], false, _ => exact .inr (.inl ⟨rfl, rfl, rfl⟩)
  | x :: r, true, _ => exact .inl ⟨rfl, rfl⟩
  | x :: r, false, h =>
    refine .inr (.inr ⟨rfl, x, rfl, ?_⟩)
    cases b
    · exact .inr ⟨rfl, numOf_false h⟩
    · exact .inl ⟨rfl, numOf_true h⟩
theorem dataS_of (ws : List (List UInt8)) (bad : Bool) : DataS ws bad (unbP (nextS ws bad).1).1 (nextS ws bad).2.1 ((nextS ws bad).2.2 || !(unbP (nextS ws bad).1).2) := by
  match ws, bad with
  | [], true => exact .inl ⟨rfl, rfl⟩
  | [], false => exact .inr (.inl ⟨rfl, rfl, rfl⟩)
  | x :: r, true => exact .inl ⟨rfl, rfl⟩
  | x :: r, false => exact .inr (.inr ⟨rfl, x, rfl, rfl, rfl⟩)
theorem num_at {w W : World} (E : Env w) {ws : List (List UInt8)} {bad : Bool} {k h lba len : Int} {v : Value} (p : PS w W ws bad k h lba len v) (hw : ∀ x ∈ ws, x.length ≤ 1000000) :
    Calls Tryd.prog 29 #[.pointer (some ⟨w.heap.size + 1 + 1, 0, none⟩)] W fun e w' => ∃ n ws' bad', e = .returned (.int .i64 n) ∧ NumS ws bad n ws' bad' ∧ ((∀ y ∈ ws', y ∈ ws) ∧ ws'.length ≤ ws.length) ∧ PS w w' ws' bad' k h lba len v ∧ Keep W w' (w.heap.size + 1 + 1) := by
  refine (num_ps E p hw).mono ?_
  rintro e w' ⟨n, b, h1, h2, h3, h4⟩
  exact ⟨n, _, _, h1, numS_of _ _ _ _ h2, nextS_sub _ _, h3, h4⟩
theorem data_at {w W : World} {ws : List (List UInt8)} {bad : Bool} {k h lba len : Int} {v : Value} (p : PS w W ws bad k h lba len v) :
    Calls Tryd.prog 30 #[.pointer (some ⟨w.heap.size + 1 + 1, 0, none⟩)] W fun e w' => ∃ v2 l ws' bad', e = .returned v2 ∧ DataS ws bad l ws' bad' ∧ ((∀ y ∈ ws', y ∈ ws) ∧ ws'.length ≤ ws.length) ∧ MadeB w' W.heap.size v2 l ∧ PS w w' ws' bad' k h lba len v ∧ Keep W w' (w.heap.size + 1 + 1) := by
  refine (data_ps p).mono ?_
  rintro e w' ⟨v2, h1, h2, h3, h4⟩
  exact ⟨v2, _, _, _, h1, dataS_of _ _, nextS_sub _ _, h2, h3, h4⟩
/-- What the switch leaves: the words' reading. -/
def Left_ (x : List UInt8) (r : List (List UInt8)) (bad : Bool) (o : OpD) : Prop := (bad = true ∧ parseO (x :: r) = none) ∨ (bad = false ∧ parseO (x :: r) = some o)
theorem parseO_k2 (x : List UInt8) (r : List (List UInt8)) (hk : kindOf x = 2) : parseO (x :: r) = (match r with | a :: b :: c :: _ => (match numP a, numP b, numP c with | some n, some m, some k => some ⟨2, n, m, k, []⟩ | _, _, _ => none) | _ => none) := by simp only [parseO, hk]; rfl
theorem parseO_k3 (x : List UInt8) (r : List (List UInt8)) (hk : kindOf x = 3) : parseO (x :: r) = (match r with | [] => none | a :: r' => (match numP a, readPuts r' with | some n, some l => some ⟨3, n, 0, 0, l⟩ | _, _ => none)) := by simp only [parseO, hk]; rfl
theorem parseO_k4 (x : List UInt8) (r : List (List UInt8)) (hk : kindOf x = 4) : parseO (x :: r) = (match r with | [] => none | a :: _ => (numP a).map fun n => ⟨4, n, 0, 0, []⟩) := by simp only [parseO, hk]; rfl
theorem parseO_k5 (x : List UInt8) (r : List (List UInt8)) (hk : kindOf x = 5) : parseO (x :: r) = (match r with | [] => none | a :: _ => (numP a).map fun n => ⟨5, n, 0, 0, []⟩) := by simp only [parseO, hk]; rfl
theorem left_0 (x : List UInt8) (r : List (List UInt8)) (hk : kindOf x = 0) (o : OpD) : Left_ x r true o := .inl ⟨rfl, by simp only [parseO, hk]⟩
theorem left_1 (x : List UInt8) (r : List (List UInt8)) (hk : kindOf x = 1) : Left_ x r false ⟨1, 0, 0, 0, []⟩ := .inr ⟨rfl, by simp only [parseO, hk]⟩
theorem left_2 (x : List UInt8) (r s1 s2 s3 : List (List UInt8)) (n1 n2 n3 : Int) (f1 f2 f3 : Bool) (hk : kindOf x = 2) (h1 : NumS r false n1 s1 f1) (h2 : NumS s1 f1 n2 s2 f2) (h3 : NumS s2 f2 n3 s3 f3) : Left_ x r f3 ⟨2, n1, n2, n3, []⟩ := by
  have e := parseO_k2 x r hk
  unfold Left_
  rw [e]
  rcases h1 with ⟨h, _⟩ | ⟨_, rfl, rfl⟩ | ⟨_, a, rfl, ⟨rfl, ha⟩ | ⟨rfl, ha⟩⟩
  · cases h
  · rcases h2 with ⟨_, rfl⟩ | ⟨h, _⟩ | ⟨h, _⟩
    · rcases h3 with ⟨_, rfl⟩ | ⟨h, _⟩ | ⟨h, _⟩
      · exact .inl ⟨rfl, rfl⟩
      · cases h
      · cases h
    · cases h
    · cases h
  · rcases h2 with ⟨_, rfl⟩ | ⟨h, _⟩ | ⟨h, _⟩
    · rcases h3 with ⟨_, rfl⟩ | ⟨h, _⟩ | ⟨h, _⟩
      · refine .inl ⟨rfl, ?_⟩
        split
        · rename_i heq
          injection heq with e1 e2
          subst e1
          rw [ha]
        · rfl
      · cases h
      · cases h
    · cases h
    · cases h
  · rcases h2 with ⟨h, _⟩ | ⟨_, rfl, rfl⟩ | ⟨_, b, rfl, ⟨rfl, hb⟩ | ⟨rfl, hb⟩⟩
    · cases h
    · rcases h3 with ⟨_, rfl⟩ | ⟨h, _⟩ | ⟨h, _⟩
      · exact .inl ⟨rfl, rfl⟩
      · cases h
      · cases h
    · rcases h3 with ⟨_, rfl⟩ | ⟨h, _⟩ | ⟨h, _⟩
      · refine .inl ⟨rfl, ?_⟩
        split
        · rename_i heq
          injection heq with e1 e2
          injection e2 with e2 e3
          subst e1 e2
          rw [ha, hb]
        · rfl
      · cases h
      · cases h
    · rcases h3 with ⟨h, _⟩ | ⟨_, rfl, rfl⟩ | ⟨_, c, rfl, ⟨rfl, hc⟩ | ⟨rfl, hc⟩⟩
      · cases h
      · exact .inl ⟨rfl, rfl⟩
      · exact .inl ⟨rfl, by dsimp only; rw [ha, hb, hc]⟩
      · exact .inr ⟨rfl, by dsimp only; rw [ha, hb, hc]⟩
theorem left_4 (x : List UInt8) (r s1 : List (List UInt8)) (n1 : Int) (f1 : Bool) (hk : kindOf x = 4) (h1 : NumS r false n1 s1 f1) : Left_ x r f1 ⟨4, n1, 0, 0, []⟩ := by
  have e := parseO_k4 x r hk
  unfold Left_
  rw [e]
  rcases h1 with ⟨h, _⟩ | ⟨_, rfl, rfl⟩ | ⟨_, a, rfl, ⟨rfl, ha⟩ | ⟨rfl, ha⟩⟩
  · cases h
  · exact .inl ⟨rfl, rfl⟩
  · exact .inl ⟨rfl, by dsimp only; rw [ha]; rfl⟩
  · exact .inr ⟨rfl, by dsimp only; rw [ha]; rfl⟩
theorem left_5 (x : List UInt8) (r s1 : List (List UInt8)) (n1 : Int) (f1 : Bool) (hk : kindOf x = 5) (h1 : NumS r false n1 s1 f1) : Left_ x r f1 ⟨5, n1, 0, 0, []⟩ := by
  have e := parseO_k5 x r hk
  unfold Left_
  rw [e]
  rcases h1 with ⟨h, _⟩ | ⟨_, rfl, rfl⟩ | ⟨_, a, rfl, ⟨rfl, ha⟩ | ⟨rfl, ha⟩⟩
  · cases h
  · exact .inl ⟨rfl, rfl⟩
  · exact .inl ⟨rfl, by dsimp only; rw [ha]; rfl⟩
  · exact .inr ⟨rfl, by dsimp only; rw [ha]; rfl⟩
/-- The write's loop. -/
def LI (x : List UInt8) (r : List (List UInt8)) (n : Int) (ws : List (List UInt8)) (bad : Bool) (l : List S42) : Prop :=
  (bad = true ∧ parseO (x :: r) = none) ∨ (bad = false ∧ parseO (x :: r) = (readPuts ws).map (fun q => ⟨3, n, 0, 0, l ++ q⟩))
theorem li_0 (x : List UInt8) (r s1 : List (List UInt8)) (n1 : Int) (f1 : Bool) (hk : kindOf x = 3) (h1 : NumS r false n1 s1 f1) : LI x r n1 s1 f1 [] := by
  have e := parseO_k3 x r hk
  unfold LI
  rw [e]
  rcases h1 with ⟨h, _⟩ | ⟨_, rfl, rfl⟩ | ⟨_, a, rfl, ⟨rfl, ha⟩ | ⟨rfl, ha⟩⟩
  · cases h
  · exact .inl ⟨rfl, rfl⟩
  · exact .inl ⟨rfl, by dsimp only; rw [ha]⟩
  · refine .inr ⟨rfl, ?_⟩
    dsimp only; rw [ha]
    cases readPuts s1 <;> rfl
theorem li_step (x : List UInt8) (r : List (List UInt8)) (n : Int) (a : List UInt8) (t s1 s2 : List (List UInt8)) (l : List S42) (m : Int) (f1 f2 : Bool) (d : List Int) (h : LI x r n (a :: t) false l) (h1 : NumS (a :: t) false m s1 f1) (h2 : DataS s1 f1 d s2 f2) : LI x r n s2 f2 (l ++ [⟨m, d⟩]) := by
  rcases h with ⟨h, _⟩ | ⟨_, h⟩
  · cases h
  unfold LI
  rw [h]
  rcases h1 with ⟨h, _⟩ | ⟨_, h, _⟩ | ⟨_, a', he, ha⟩
  · cases h
  · cases h
  injection he with e1 e2
  subst e1 e2
  rcases ha with ⟨rfl, ha⟩ | ⟨rfl, ha⟩
  · rcases h2 with ⟨_, rfl⟩ | ⟨h, _⟩ | ⟨h, _⟩
    · refine .inl ⟨rfl, ?_⟩
      match t with
      | [] => rfl
      | d :: r' => rw [readPuts, ha]; rfl
    · cases h
    · cases h
  · rcases h2 with ⟨h, _⟩ | ⟨_, rfl, rfl⟩ | ⟨_, d', rfl, rfl, rfl⟩
    · cases h
    · exact .inl ⟨rfl, rfl⟩
    · rw [readPuts, ha]
      cases hu : (unbP d').2
      · exact .inl ⟨rfl, rfl⟩
      · refine .inr ⟨rfl, ?_⟩
        cases readPuts s2 with
        | none => rfl
        | some q => simp
theorem li_done (x : List UInt8) (r : List (List UInt8)) (n : Int) (l : List S42) (ws : List (List UInt8)) (bad : Bool) (h : LI x r n ws bad l) (he : bad = true ∨ ws = []) : Left_ x r bad ⟨3, n, 0, 0, l⟩ := by
  rcases h with h | ⟨rfl, h⟩
  · exact .inl h
  · rcases he with he | rfl
    · cases he
    · refine .inr ⟨rfl, ?_⟩
      rw [h]; simp [readPuts]
/-- What the switch leaves. -/
def Sw (w wx : World) (x : List UInt8) (r : List (List UInt8)) : Prop := ∃ (ws : List (List UInt8)) (bad : Bool) (k h lba len : Int) (v : Value) (l : List S42), PS w wx ws bad k h lba len v ∧ PutsR w wx v l ∧ Left_ x r bad ⟨k, h, lba, len, l⟩
theorem PS.below4 {w W W' : World} {ws : List (List UInt8)} {bad : Bool} {k h lba len : Int} {v : Value} (p : PS w W ws bad k h lba len v) (b : Below (w.heap.size + 1 + 1 + 1 + 1) W W') : PS w W' ws bad k h lba len v := by
  obtain ⟨A, c, r1⟩ := p.rd
  have hl := p.lt
  refine ⟨(b.block _ (by omega)).trans p.res, ⟨A, c, (b.block _ (by omega)).trans r1.blk, r1.cap, r1.ne, fun h0 => ?_⟩, (b.block _ (by omega)).trans p.op, p.bel.trans (b.mono (by omega))⟩
  obtain ⟨o, e, hx⟩ := r1.at_ h0
  exact ⟨o, e, fun j y hj => by rw [← hx j y hj]; exact World.cell?_of_block (b.block _ (by dsimp only; omega))⟩
theorem PS.rfacts {w W : World} {ws : List (List UInt8)} {bad : Bool} {k h lba len : Int} {v : Value} (p : PS w W ws bad k h lba len v) :
    ∃ A c, W.cell? ⟨w.heap.size + 1 + 1, 0, none⟩ = some (.slice A ws.length c) ∧ W.cell? ⟨w.heap.size + 1 + 1, 1, none⟩ = some (.bool bad) := by
  obtain ⟨A, c, r1⟩ := p.rd
  exact ⟨A, c, by rw [blk_cell r1.blk]; rfl, by rw [blk_cell r1.blk]; rfl⟩
theorem putM {w' : World} {B b0 : Nat} {v2 : Value} {d : List Int} (m : Int) (h : MadeB w' B v2 d) (hb : b0 ≤ B) : k42.M w' b0 (fun k => B ≤ k) ⟨m, d⟩ [.int .i64 m, v2] := k42_mkM _ _ _ ⟨m, d⟩ (Kd.R_lower h hb)
theorem PutsR.own_lt {w W : World} {v : Value} {l : List S42} (h : PutsR w W v l) : ∀ k, v.ownBlock = some k → k < W.heap.size := fun k hk => ((Kd.R_bound h).1 k hk).2.2.1
end Go.Proofs.YtjjpnmeldgnfeaaDoor
