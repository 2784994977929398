/-
  From the row's condition 'laid' to what the walks ask of the world; arguments opened: bytes, an op, an answer.
-/
import Derived.Test.YtjjpnmeldgnfeaaDoorSo
import Derived.LaidSub
import Derived.Stop.LaidErr
import Derived.SevenTiedAt
import Derived.Lay
import Derived.Handy
import Derived.Deep.Slices
import Derived.Deep.Fields
import Derived.ChangeSame
import Derived.Lib.SmallJoins
import Derived.Shelf.Vars
import Derived.SizedLaws
namespace Go.Proofs.YtjjpnmeldgnfeaaDoor
open Go Go.RowKit Go.Proofs.YtjjpnmeldgnfeaaDoor.PScriptTexts Go.Proofs.YtjjpnmeldgnfeaaDoorW.PrintWords
set_option maxRecDepth 100000

theorem gTab : Tryd.prog.globalNamed "internal/strconv.uint64pow10" = some 3 := by kernel_rfl
theorem gSyn : Tryd.prog.globalNamed "strconv.ErrSyntax" = some 1 := by kernel_rfl
theorem gRng : Tryd.prog.globalNamed "strconv.ErrRange" = some 2 := by kernel_rfl
theorem star : "*" ++ "errors.errorString" = "*errors.errorString" := by decide
theorem rowErr (u : TypeId) (h : Tryd.prog.typeName? 3 u = some "*errors.errorString") : u = 122 :=
  typeName_ptr_named (nm := "errors.errorString") (by rw [star]; kernel_rfl) (by kernel_rfl) (by decide) u (by rw [star]; exact h)
/-- The list that each row of this seat bears. -/
def laidL : List (String × DataW Unit) := Rows.scriptTextsRow.laid
theorem env_of_laid {W : World} (h : laidMet Tryd.prog laidL W) (hS : W.ShapedOpen Tryd.prog) : Env W := by
  have h1 := h.filter fun x => x.1 == "internal/strconv.uint64pow10"
  have h3 := h.filter fun x => x.1 == "strconv.ErrSyntax"
  have h4 := h.filter fun x => x.1 == "strconv.ErrRange"
  rw [show (laidL.filter fun x => x.1 == "internal/strconv.uint64pow10") = [("internal/strconv.uint64pow10", Lib.tabData .u64 Lib.pow10Tab)] by kernel_rfl] at h1
  rw [show (laidL.filter fun x => x.1 == "strconv.ErrSyntax") = [("strconv.ErrSyntax", .iface "*errors.errorString" (.ptr (.agg [.lit (.string [105, 110, 118, 97, 108, 105, 100, 32, 115, 121, 110, 116, 97, 120])])))] by kernel_rfl] at h3
  rw [show (laidL.filter fun x => x.1 == "strconv.ErrRange") = [("strconv.ErrRange", .iface "*errors.errorString" (.ptr (.agg [.lit (.string [118, 97, 108, 117, 101, 32, 111, 117, 116, 32, 111, 102, 32, 114, 97, 110, 103, 101])])))] by kernel_rfl] at h4
  have t1 := Lib.tabIs_of_head gTab (by kernel_rfl) Tryd.underlying110 Tryd.underlying79 (by kernel_rfl) (by kernel_rfl) h1
  obtain ⟨a3, s3, v3, -, -, -⟩ := laid_sentinel h3 gSyn (by kernel_rfl) Tryd.underlying72 rowErr Tryd.underlying122 Tryd.underlying124 rfl rfl Tryd.underlying9 (by kernel_rfl) (by kernel_rfl)
  obtain ⟨a4, s4, v4, -, -, -⟩ := laid_sentinel h4 gRng (by kernel_rfl) Tryd.underlying72 rowErr Tryd.underlying122 Tryd.underlying124 rfl rfl Tryd.underlying9 (by kernel_rfl) (by kernel_rfl)
  exact ⟨t1, ⟨_, _, by have h0 := World.var?_cell gSyn v3 0; simpa using h0⟩, ⟨_, _, by have h0 := World.var?_cell gRng v4 0; simpa using h0⟩,
    cell_of_shapedOpen_int (t := 3) (zero := #[.int .i64 0]) hS (of_decide_eq_true (by kernel_rfl)) (by kernel_rfl) rfl (by kernel_rfl) (by kernel_rfl) Tryd.underlying3⟩

/-- The kit's wrap, that hands the contract the world's shape too. -/
theorem returnsInHanded_shaped {H : Type} {enc : TypeId × Value → H} {a : Assume} {C : Checked} {os : Os} {f : FuncId} {fn : Func} {s : ChangeSpec} {conds : List PathCond} {apart fresh handsOn again : Bool} {X : World → Array Value → Prop}
    (hX : ∀ (w w' : World) (args : Array Value), w.heap = w'.heap → X w args → X w' args)
    (own : ownKnob C.prog.godebug = none) (started : os.Started) (noInit : C.prog.inits.idxOf? f = none) (hfn : C.prog.funcs[f]? = some fn)
    (witness : ∃ (w : World) (tape : Tape) (i : Input), w.os = os ∧ (w.forCall tape i).Shaped C.prog ∧ i.vars = [] ∧ Input.okWide C.prog (w.forCall tape i) .any w.heap.size f i ∧
      ((s.pre enc C.prog fn conds apart (w.forCall tape i).memory i.args ∧ X (w.forCall tape i).memory i.args) ∧ sizedMet enc C.prog fn (OpenSpec.ofChange s) apart (w.forCall tape i).memory i.args) ∧ a.holds C.prog (lone (Frame.enter C.prog f i.args .normal) [] (w.forCall tape i)))
    (contract : ∀ (W : World) (base : Nat) (args : Array Value) (ds gs : List (DataW H)) (before : List MemPlace),
      (∀ (j : Nat) t v, fn.params[j]? = some t → args[j]? = some v → Value.okWide C.prog W .any base t v) →
      DataW.Whole enc C.prog fn.params.toList s.vars apart W args.toList ds gs before →
      (DataW.weightsEach C.prog (fn.params.toList ++ s.plain.varTypes C.prog) (ds ++ gs)).all (· ≤ reachBytes) = true → X W args → W.ShapedOpen C.prog →
      Calls C.prog f args W fun e W' => ∃ v, e = .returned v ∧ s.post enc C.prog fn apart fresh handsOn again W args v W') :
    ReturnsInHanded a C os f .any (fun w args => (s.pre enc C.prog fn conds apart w args ∧ X w args) ∧ sizedMet enc C.prog fn (OpenSpec.ofChange s) apart w args) (s.post enc C.prog fn apart fresh handsOn again) := by
  refine returnsInHanded_of_calls own started noInit witness ?_
  intro w tape i _ hsh _ hok hpre _
  obtain ⟨_, _, _, fn', hfn', _, _, _, _, hval⟩ := hok
  have e : fn' = fn := Option.some.inj (hfn'.symm.trans hfn)
  subst e
  obtain ⟨⟨⟨ds, gs, before, hw, _⟩, hx⟩, hz⟩ := hpre
  have hw' := DataW.Whole.of_heap (w' := w.forCall tape i) (by rfl) hw
  refine (contract (w.forCall tape i) w.heap.size i.args ds gs before hval hw' (hz.weights hw) (hX _ _ _ (by rfl) hx) hsh).mono fun e W' ⟨v, he, hp⟩ => ?_
  subst he
  exact ChangeSpec.post_blind hp

/-! ### arguments -/
section
open Go.ChangeShapes Go.WideShapes Go.Deep
section
variable {H : Type} {enc : TypeId × Value → H} {P : Program} {w : World} {base : Nat} {spare : Nat → Bool} {held : Bool}
theorem open_slice_fields {t e : TypeId} {fs : Array Field} {fuel : Nat} {cs : List Value} {x : DataW H × List MemPlace} (ht : P.underlying t = some (.slice e)) (he : P.underlying e = some (.struct fs))
    (hone : oneCellFields P fs = true) (hC : P.cellsOf e = fs.size) (h : DataW.trod enc P w base spare held fuel t cs = some x) :
    (cs = [.slice none 0 0] ∧ x = (.nil, [])) ∨
    ∃ (a : Addr) (len cap m : Nat) (D : Nat → DataW H) (Pl : Nat → List MemPlace), cs = [.slice (some a) len cap] ∧ base ≤ a.block ∧ len ≤ cap ∧ cap ≤ maxLen ∧ m = (if spare a.block then cap else len) ∧
      x = (.slice ((List.range len).map D) ((List.range (m - len)).map fun j => D (len + j)), MemPlace.row a (m * fs.size) ++ (List.range m).flatMap Pl) ∧
      ∀ i, i < m → ∃ (ys : List (DataW H × List MemPlace)) (n : Nat), D i = .agg (ys.map (·.1)) ∧ Pl i = ys.flatMap (·.2) ∧ ys.length = fs.size ∧
        ∀ (j : Nat) (f : Field), fs[j]? = some f → ∃ (v : Value) (y : DataW H × List MemPlace), w.cell? (a.add (i * fs.size + j)) = some v ∧ ys[j]? = some y ∧ DataW.trod enc P w base spare held n f.type [v] = some y := by
  rcases open_slice ht h with h0 | ⟨a, len, cap, m, n, D, Pl, hcs, hb, hl, hm, hmm, hx, hi⟩
  · exact .inl h0
  · refine .inr ⟨a, len, cap, m, D, Pl, hcs, hb, hl, hm, hmm, by rw [hC] at hx; exact hx, fun i him => ?_⟩
    obtain ⟨cs', hc, ht'⟩ := hi i him
    rw [hC] at hc
    obtain ⟨ys, n', hn', hy, hlen, hyl, hf⟩ := DataW.trod_struct he ht'
    obtain ⟨_, hcl, hat⟩ := World.cells?_some hc
    simp only [Prod.mk.injEq] at hy
    refine ⟨ys, n', hy.1, hy.2, hyl, fun j f hj => ?_⟩
    obtain ⟨ho, hk⟩ := hone_of hone j f hj
    have hjl : j < fs.size := (Array.getElem?_eq_some_iff.1 hj).1
    have hcell := hat j hjl
    have hv : cs'[j]? = some (cs'[j]'(by omega)) := List.getElem?_eq_getElem (by omega)
    have h1 := hf j f hj
    rw [ho, hk] at h1
    have hone' : (cs'.drop j).take 1 = [cs'[j]'(by omega)] := by
      rw [List.drop_eq_getElem_cons (by omega)]
      rfl
    rw [hone'] at h1
    have hys : ys[j]? = some (ys[j]'(by omega)) := List.getElem?_eq_getElem (by omega)
    refine ⟨_, _, ?_, hys, h1.trans hys⟩
    rw [← Go.Deep.add_add, hcell, hv]
end
end
section
open Go.Joins Go.ChangeShapes Go.WideShapes Go.Deep
section
variable {H : Type} {enc : TypeId × Value → H} {P : Program} {w : World} {base : Nat} {spare : Nat → Bool} {held : Bool}
theorem open_agg5 {r : Reach} {b0 : Nat} {t : TypeId} {f0 f1 f2 f3 f4 : Field} {v : Value} {d : DataW H} {p : List MemPlace} (hs : P.underlying t = some (.struct #[f0, f1, f2, f3, f4])) (hone : oneCellFields P #[f0, f1, f2, f3, f4] = true) (hC : P.cellsOf t = 5)
    (hv : Value.okWide P w r b0 t v) (h : DataW.Trod enc P w base spare held t v d p) :
    ∃ (v0 v1 v2 v3 v4 : Value) (y0 y1 y2 y3 y4 : DataW H × List MemPlace) (n : Nat), v = .agg #[v0, v1, v2, v3, v4] ∧ d = .agg [y0.1, y1.1, y2.1, y3.1, y4.1] ∧ p = y0.2 ++ (y1.2 ++ (y2.2 ++ (y3.2 ++ y4.2))) ∧
      DataW.trod enc P w base spare held n f0.type [v0] = some y0 ∧ DataW.trod enc P w base spare held n f1.type [v1] = some y1 ∧ DataW.trod enc P w base spare held n f2.type [v2] = some y2 ∧ DataW.trod enc P w base spare held n f3.type [v3] = some y3 ∧ DataW.trod enc P w base spare held n f4.type [v4] = some y4 := by
  obtain ⟨cs, rfl, hsz⟩ := okWide_struct hs hv
  obtain ⟨l⟩ := cs
  match l, hsz.trans hC with
  | [c0, c1, c2, c3, c4], _ =>
    obtain ⟨fuel, hf⟩ := h
    obtain ⟨xs, n, _, hx, _, hlen, hg⟩ := DataW.trod_struct hs hf
    obtain ⟨o0, k0⟩ := hone_of hone 0 f0 rfl
    obtain ⟨o1, k1⟩ := hone_of hone 1 f1 rfl
    obtain ⟨o2, k2⟩ := hone_of hone 2 f2 rfl
    obtain ⟨o3, k3⟩ := hone_of hone 3 f3 rfl
    obtain ⟨o4, k4⟩ := hone_of hone 4 f4 rfl
    match xs, hlen with
    | [y0, y1, y2, y3, y4], _ =>
      simp only [Prod.mk.injEq] at hx
      exact ⟨c0, c1, c2, c3, c4, y0, y1, y2, y3, y4, n, rfl, by simpa using hx.1, by simpa using hx.2, by simpa [Value.cells, o0, k0] using hg 0 f0 rfl, by simpa [Value.cells, o1, k1] using hg 1 f1 rfl, by simpa [Value.cells, o2, k2] using hg 2 f2 rfl, by simpa [Value.cells, o3, k3] using hg 3 f3 rfl, by simpa [Value.cells, o4, k4] using hg 4 f4 rfl⟩

end
end
theorem i64_wf {n : Int} (h : (Lit.int .i64 n).wf = true) : I64 n := by
  simp only [Lit.wf, Bool.and_eq_true, decide_eq_true_eq] at h
  exact ⟨h.1, h.2⟩
theorem u8_wf {n : Int} (h : (Lit.int .u8 n).wf = true) : 0 ≤ n ∧ n < 256 := by
  simp only [Lit.wf, Bool.and_eq_true, decide_eq_true_eq] at h
  have h1 : (0 : Int) ≤ n := h.1
  have h2 : n ≤ 255 := h.2
  omega
section
open Go.ChangeShapes Go.WideShapes
variable {H : Type} {enc : TypeId × Value → H} {w : World} {base : Nat} {spare : Nat → Bool} {held : Bool} {n : Nat}
/-- Bytes that came in. -/
theorem row_of_trod {cs : List Value} {y : DataW H × List MemPlace} (h : DataW.trod enc Tryd.prog w base spare held n 35 cs = some y) : ∃ A l c, cs = [.slice A l.length c] ∧ RowB w A l c ∧ InB l := by
  rcases open_ints Tryd.underlying35 Tryd.underlying5 (by kernel_rfl) h with ⟨rfl, _⟩ | ⟨a, len, cap, zs, rfl, _, hl, hm, hz, _, hcell, hwf⟩
  · exact ⟨none, [], 0, rfl, ⟨Kd.C_nil _ _, Nat.le_refl _⟩, fun x hx => by cases hx⟩
  · have hlz : len ≤ zs.length := by rw [hz]; split <;> omega
    have e : (zs.take len).length = len := by rw [List.length_take]; omega
    refine ⟨some a, zs.take len, cap, by rw [e], ⟨⟨rfl, by rw [e]; simp only [maxLen] at hm; omega, fun _ => ⟨a, rfl, fun j p hj => ?_⟩⟩, by rw [e]; exact hl⟩, fun x hx => u8_wf (hwf x (List.mem_of_mem_take hx))⟩
    have hjl : j < len := by have := (List.getElem?_eq_some_iff.1 hj).1; omega
    have hp : zs[j]? = some p := by rw [List.getElem?_take] at hj; rwa [if_pos hjl] at hj
    refine ⟨[.int .u8 p], rfl, rfl, fun i u hu => ?_⟩
    obtain rfl : i = 0 := by
      have := (List.getElem?_eq_some_iff.1 hu).1
      simp at this; omega
    injection hu with hu
    subst hu
    have := hcell j (by omega)
    rw [List.getD_eq_getElem?_getD, hp] at this
    rw [show j * (Kd.int .u8).sz + 0 = j by rw [show (Kd.int .u8).sz = 1 from rfl]; omega]
    exact this
/-- Puts that came in. -/
theorem puts_of_trod {cs : List Value} {y : DataW H × List MemPlace} (h : DataW.trod enc Tryd.prog w base spare held n 22 cs = some y) : ∃ A l c, cs = [.slice A l.length c] ∧ Kd.C k42 w A l.length l ∧ l.length ≤ c ∧ PutsOk l ∧
    ((y.1.weights Tryd.prog 22).all (· ≤ reachBytes) = true → l.length ≤ 140737488351232) := by
  rcases open_slice_fields Tryd.underlying22 Tryd.underlying42 (by kernel_rfl) (by kernel_rfl) h with ⟨rfl, _⟩ | ⟨a, len, cap, m, D, Pl, rfl, _, hl, hm, hmm, rfl, hf⟩
  · exact ⟨none, [], 0, rfl, Kd.C_nil _ _, Nat.le_refl _, (fun x hx => by cases hx), fun _ => Nat.zero_le _⟩
  · have hlm : len ≤ m := by rw [hmm]; split <;> omega
    have each : ∀ i, i < len → ∃ p : S42, I64 p.f0 ∧ InB p.f1 ∧ ∃ A1 c1, p.f1.length ≤ c1 ∧ (Kd.int .u8).C w A1 p.f1.length p.f1 ∧ w.cell? (a.add (i * 2 + 0)) = some (.int .i64 p.f0) ∧ w.cell? (a.add (i * 2 + 1)) = some (.slice A1 p.f1.length c1) := by
      intro i hi
      obtain ⟨ys, n', _, _, _, hj⟩ := hf i (by omega)
      obtain ⟨v0, y0, c0, _, t0⟩ := hj 0 _ rfl
      obtain ⟨v1, y1, c1, _, t1⟩ := hj 1 _ rfl
      obtain ⟨z, e0, _, wf⟩ := DataW.trod_int Tryd.underlying3 t0
      injection e0 with e0
      subst e0
      obtain ⟨A1, l1, cc, e1, r1, i1⟩ := row_of_trod t1
      injection e1 with e1
      subst e1
      exact ⟨⟨z, l1⟩, i64_wf wf, i1, A1, cc, r1.2, r1.1, c0, c1⟩
    have hall : ∃ l : List S42, l.length = len ∧ ∀ i (p : S42), l[i]? = some p → I64 p.f0 ∧ InB p.f1 ∧ ∃ A1 c1, p.f1.length ≤ c1 ∧ (Kd.int .u8).C w A1 p.f1.length p.f1 ∧ w.cell? (a.add (i * 2 + 0)) = some (.int .i64 p.f0) ∧ w.cell? (a.add (i * 2 + 1)) = some (.slice A1 p.f1.length c1) := by
      have go : ∀ k, k ≤ len → ∃ l : List S42, l.length = k ∧ ∀ i (p : S42), l[i]? = some p → I64 p.f0 ∧ InB p.f1 ∧ ∃ A1 c1, p.f1.length ≤ c1 ∧ (Kd.int .u8).C w A1 p.f1.length p.f1 ∧ w.cell? (a.add (i * 2 + 0)) = some (.int .i64 p.f0) ∧ w.cell? (a.add (i * 2 + 1)) = some (.slice A1 p.f1.length c1) := by
        intro k
        induction k with
        | zero => exact fun _ => ⟨[], rfl, fun i p h => by cases h⟩
        | succ k ih =>
          intro hk
          obtain ⟨l, h1, h2⟩ := ih (by omega)
          obtain ⟨p, hp⟩ := each k (by omega)
          refine ⟨l ++ [p], by rw [List.length_append, h1]; rfl, fun i q hq => ?_⟩
          rcases Nat.lt_or_ge i l.length with hi | hi
          · rw [List.getElem?_append_left hi] at hq; exact h2 i q hq
          · have hi2 := (List.getElem?_eq_some_iff.1 hq).1
            rw [List.length_append, List.length_singleton] at hi2
            obtain rfl : i = k := by omega
            rw [List.getElem?_append_right (by omega), h1, Nat.sub_self] at hq
            injection hq with hq
            subst hq; exact hp
      exact go len (Nat.le_refl _)
    obtain ⟨l, e, hp⟩ := hall
    refine ⟨some a, l, cap, by rw [e], ⟨rfl, by rw [e]; simp only [maxLen] at hm; omega, fun _ => ⟨a, rfl, fun j p hj => ?_⟩⟩, by rw [e]; exact hl, fun p hx => ?_, fun hw => ?_⟩
    · obtain ⟨_, _, A1, c1, q1, q2, q3, q4⟩ := hp j p hj
      refine ⟨_, rfl, k42_mk w p q1 q2, fun i u hu => ?_⟩
      match i, hu with
      | 0, hu => injection hu with hu; subst hu; exact q3
      | 1, hu => injection hu with hu; subst hu; exact q4
    · obtain ⟨i, hi⟩ := List.getElem?_of_mem hx
      exact ⟨(hp i p hi).1, (hp i p hi).2.1⟩
    · have hw2 := List.all_eq_true.1 hw ((((List.range len).map D).length + ((List.range (m - len)).map fun j => D (len + j)).length) * Tryd.prog.bytesOf 42) (by simp [DataW.weights, Tryd.underlying22])
      rw [List.length_map, List.length_map, List.length_range, List.length_range, show Tryd.prog.bytesOf 42 = 32 by kernel_rfl] at hw2
      have h3 : (len + (m - len)) * 32 ≤ reachBytes := by simpa using hw2
      unfold reachBytes at h3
      omega
end
section
open Go.Joins Go.ChangeShapes Go.WideShapes
variable {H : Type} {enc : TypeId × Value → H} {w : World} {base : Nat} {spare : Nat → Bool} {held : Bool}
/-- An op that came in. -/
theorem op_of_trod {r : Reach} {b0 : Nat} {v : Value} {d : DataW H} {p : List MemPlace} (hv : Value.okWide Tryd.prog w r b0 24 v) (h : DataW.Trod enc Tryd.prog w base spare held 24 v d p) :
    ∃ k hh lba len A l c, v = .agg #[.int .i64 k, .int .i64 hh, .int .i64 lba, .int .i64 len, .slice A l.length c] ∧ I64 k ∧ I64 hh ∧ I64 lba ∧ I64 len ∧ Kd.C k42 w A l.length l ∧ l.length ≤ c ∧ PutsOk l ∧
      ((d.weights Tryd.prog 24).all (· ≤ reachBytes) = true → l.length ≤ 140737488351232) := by
  obtain ⟨v0, v1, v2, v3, v4, y0, y1, y2, y3, y4, n, rfl, rfl, rfl, h0, h1, h2, h3, h4⟩ := open_agg5 Tryd.underlying24 (by kernel_rfl) (by kernel_rfl) hv h
  obtain ⟨k, e0, _, w0⟩ := DataW.trod_int Tryd.underlying3 h0
  obtain ⟨hh, e1, _, w1⟩ := DataW.trod_int Tryd.underlying3 h1
  obtain ⟨lba, e2, _, w2⟩ := DataW.trod_int Tryd.underlying3 h2
  obtain ⟨len, e3, _, w3⟩ := DataW.trod_int Tryd.underlying3 h3
  obtain ⟨A, l, c, e4, hC, hc, hok, hw⟩ := puts_of_trod h4
  injection e0 with e0
  injection e1 with e1
  injection e2 with e2
  injection e3 with e3
  injection e4 with e4
  subst e0 e1 e2 e3 e4
  refine ⟨k, hh, lba, len, A, l, c, rfl, i64_wf w0, i64_wf w1, i64_wf w2, i64_wf w3, hC, hc, hok, fun hz => hw ?_⟩
  rw [List.all_eq_true] at hz ⊢
  intro x hx
  exact hz x (by simp [DataW.weights, Tryd.underlying24, DataW.weightsEach, hx])
/-- An answer that came in. -/
theorem ans_of_trod {r : Reach} {b0 : Nat} {v : Value} {d : DataW H} {p : List MemPlace} (hv : Value.okWide Tryd.prog w r b0 47 v) (h : DataW.Trod enc Tryd.prog w base spare held 47 v d p) :
    ∃ k cd hh tm A l c, v = .agg #[.int .i64 k, .int .i64 cd, .int .i64 hh, .int .i64 tm, .slice A l.length c] ∧ I64 k ∧ I64 cd ∧ I64 hh ∧ I64 tm ∧ RowB w A l c ∧ InB l := by
  obtain ⟨v0, v1, v2, v3, v4, y0, y1, y2, y3, y4, n, rfl, rfl, rfl, h0, h1, h2, h3, h4⟩ := open_agg5 Tryd.underlying47 (by kernel_rfl) (by kernel_rfl) hv h
  obtain ⟨k, e0, _, w0⟩ := DataW.trod_int Tryd.underlying3 h0
  obtain ⟨cd, e1, _, w1⟩ := DataW.trod_int Tryd.underlying27 h1
  obtain ⟨hh, e2, _, w2⟩ := DataW.trod_int Tryd.underlying3 h2
  obtain ⟨tm, e3, _, w3⟩ := DataW.trod_int Tryd.underlying3 h3
  obtain ⟨A, l, c, e4, hR, hI⟩ := row_of_trod h4
  injection e0 with e0
  injection e1 with e1
  injection e2 with e2
  injection e3 with e3
  injection e4 with e4
  subst e0 e1 e2 e3 e4
  exact ⟨k, cd, hh, tm, A, l, c, rfl, i64_wf w0, i64_wf w1, i64_wf w2, i64_wf w3, hR, hI⟩
end
end Go.Proofs.YtjjpnmeldgnfeaaDoor
