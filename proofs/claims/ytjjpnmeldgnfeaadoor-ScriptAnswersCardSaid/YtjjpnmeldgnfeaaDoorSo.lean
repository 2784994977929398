/-
  Rows of words of the call's own: made, appended to, joined. What an op's text is.
-/
import Derived.Test.YtjjpnmeldgnfeaaDoorSb
namespace Go.Proofs.YtjjpnmeldgnfeaaDoor
open Go Go.RowKit Go.Proofs.YtjjpnmeldgnfeaaDoor.PScriptTexts Go.Proofs.YtjjpnmeldgnfeaaDoorW.PrintWords
set_option maxRecDepth 100000

def strsV (ws : List (List UInt8)) : List Value := ws.map fun l => .string (ba l)
/-- A row of words of the call's own. -/
def OwnS (w : World) (base : Nat) (v : Value) (ws : List (List UInt8)) : Prop := w.ownsRow base 9 1 v ws.length (strsV ws)
theorem strsV_one (ws : List (List UInt8)) : ∀ u ∈ strsV ws, u.oneCell' = true := by
  intro u hu
  simp only [strsV, List.mem_map] at hu
  obtain ⟨l, _, rfl⟩ := hu
  rfl
theorem OwnS.lit (W : World) (base : Nat) (ws : List (List UInt8)) (hb : base ≤ W.heap.size) (hm : ws.length ≤ 1000000) (cs : Array Value) (hcs : cs.toList = strsV ws) :
    OwnS (W.alloc (.cells cs 9)) base (.slice (some ⟨W.heap.size, 0, none⟩) ws.length ws.length) ws := by
  have h := World.ownsRow_lit (base := base) (e := 9) (size := 1) W cs ws.length hb (by unfold maxLen; omega) (by
    have e := congrArg List.length hcs
    rw [Array.length_toList] at e
    rw [e]; simp [strsV])
  rw [hcs] at h
  exact h
theorem OwnS.below {w w1 : World} {base : Nat} {v : Value} {ws : List (List UInt8)} (h : OwnS w base v ws) (hb : Below w.heap.size w w1) : OwnS w1 base v ws := pw_own_below h hb
theorem OwnS.alloc {w : World} {base : Nat} {v : Value} {ws : List (List UInt8)} (h : OwnS w base v ws) (o : Obj) : OwnS (w.alloc o) base v ws := h.below ((Below.refl _ _).alloc (Nat.le_refl _) _)
theorem OwnS.form {w : World} {base : Nat} {v : Value} {ws : List (List UInt8)} (h : OwnS w base v ws) (h0 : 0 < ws.length) :
    ∃ g cap, v = .slice (some ⟨g, 0, none⟩) ws.length cap ∧ base ≤ g ∧ g < w.heap.size ∧ ws.length ≤ cap ∧ ∀ (j : Nat) (x : ByteArray), (ws.map ba)[j]? = some x → w.cell? ⟨g, 0 + j, none⟩ = some (.string x) := by
  obtain ⟨g, cap, rfl, hb, hg⟩ := World.ownsRow.form h h0
  refine ⟨g, cap, rfl, hb, hg, own_le h, fun j x hj => ?_⟩
  have := World.ownsRow.cells h rfl j (.string x) (by
    rw [List.getElem?_map] at hj
    simp only [strsV, List.getElem?_map]
    cases hw : ws[j]? with
    | none => rw [hw] at hj; cases hj
    | some l => rw [hw] at hj; injection hj with hj; rw [← hj]; rfl)
  rw [Nat.zero_add]
  have ha : (⟨g, 0, none⟩ : Addr).add j = ⟨g, j, none⟩ := by unfold Addr.add; split <;> simp_all
  rw [ha] at this
  exact this
theorem info9' : (Tryd.prog.info? 9).map (fun i => (i.zero, i.size, i.bytes)) = some (some (.string ⟨#[]⟩), 1, 16) := by kernel_rfl

section
variable {ops : Array Oper} {rest : List Oper} {o : Oper} {a : Act} {Q : Exit → Act → World → Prop} {K : Act → World → Prop}
/-- append(l, words..), at the operation. -/
theorem wp_app {w0 W : World} (base : Nat) (s x : Operand) (ho : o.op = .call { callee := .builtin .append, args := #[s, x], argTypes := #[44, 44] })
    (v : Value) (ws news : List (List UInt8)) (cs : Array Value) (hcs : cs.toList = strsV news) (hs : a.eval s = v) (hx : a.eval x = .slice (some ⟨W.heap.size, 0, none⟩) news.length news.length)
    (HO : OwnS W base v ws) (HB : Below base w0 W) (hbase : base ≤ W.heap.size) (hl : ws.length + news.length ≤ 1000000)
    (h : ∀ v1 w1, OwnS w1 base v1 (ws ++ news) → Below base w0 w1 → W.grownBy w1 v.ownBlock → K (a.put o.dst v1) w1) :
    o.wp Tryd.prog a (W.alloc (.cells cs 9)) K Q := by
  obtain ⟨i0, hi, hz0, hz1, hz2⟩ := info_parts info9'
  obtain ⟨v', w', hr, h2, h3, _, _⟩ := run_append_own_at (P := Tryd.prog) (W.alloc (.cells cs 9)) base 44 o.type 9 i0 (.string ⟨#[]⟩) 1 16 Tryd.underlying44 hi hz0 hz1 hz2 rfl (by decide) v ws.length (strsV ws) (HO.alloc _)
    ⟨W.heap.size, 0, none⟩ news.length news.length (strsV news) (by simp [strsV]) (by
      have := World.news_of_block (cs := cs) (t := 9) (fr := (0, 0)) (heap_alloc_new W (.cells cs 9))
      rw [hcs] at this; exact this) (strsV_one news) (by simp only [maxLen]; omega) (by omega) (by simp; omega)
  unfold Oper.wp execOp
  simp only [ho, resolve, invoke, builtin, Sem.run_bind, Sem.run_pure, Result.andThen_ok, List.map_toArray, List.map_cons, List.map_nil, hs, hx, hr]
  refine h v' w' ?_ ((HB.alloc hbase _).grown h3 (by simp; omega) (own_base HO)) (World.grownBy.trans (World.grownBy_alloc W _ _) h3)
  unfold OwnS
  rw [List.length_append, show strsV (ws ++ news) = strsV ws ++ strsV news by simp [strsV]]
  exact h2
theorem list_app {w0 W : World} (base : Nat) (hgd : o.guard = none) (s x : Operand) (ho : o.op = .call { callee := .builtin .append, args := #[s, x], argTypes := #[44, 44] })
    (v : Value) (ws news : List (List UInt8)) (cs : Array Value) (hcs : cs.toList = strsV news) (hs : a.eval s = v) (hx : a.eval x = .slice (some ⟨W.heap.size, 0, none⟩) news.length news.length)
    (HO : OwnS W base v ws) (HB : Below base w0 W) (hbase : base ≤ W.heap.size) (hl : ws.length + news.length ≤ 1000000)
    (h : ∀ v1 w1, OwnS w1 base v1 (ws ++ news) → Below base w0 w1 → W.grownBy w1 v.ownBlock → wpList Tryd.prog ops Q rest (a.put o.dst v1) w1) :
    wpList Tryd.prog ops Q (o :: rest) a (W.alloc (.cells cs 9)) :=
  wpList_plain hgd fun _ hK => wp_app base s x ho v ws news cs hcs hs hx HO HB hbase hl fun v1 w1 h1 h2 h3 => hK _ _ (h v1 w1 h1 h2 h3)
theorem step_app {w0 W : World} {E : Prop} (base : Nat) (hgd : o.guard = none) (s x : Operand) (ho : o.op = .call { callee := .builtin .append, args := #[s, x], argTypes := #[44, 44] })
    (v : Value) (ws news : List (List UInt8)) (cs : Array Value) (hcs : cs.toList = strsV news) (hs : a.eval s = v) (hx : a.eval x = .slice (some ⟨W.heap.size, 0, none⟩) news.length news.length)
    (HO : OwnS W base v ws) (HB : Below base w0 W) (hbase : base ≤ W.heap.size) (hl : ws.length + news.length ≤ 1000000)
    (h : ∀ v1 w1, OwnS w1 base v1 (ws ++ news) → Below base w0 w1 → W.grownBy w1 v.ownBlock → K (a.put o.dst v1) w1) :
    if Region.wanted o (yielded ops a.tmps) = true then Oper.wp Tryd.prog o a (W.alloc (.cells cs 9)) K Q else E := by
  have hw : Region.wanted o (yielded ops a.tmps) = true := by simp [Region.wanted, hgd]
  rw [if_pos hw]
  exact wp_app base s x ho v ws news cs hcs hs hx HO HB hbase hl h
end

/-! ### joined -/
def joinW : List (List UInt8) → List UInt8
  | [] => []
  | [a] => a
  | a :: b :: r => a ++ 32 :: joinW (b :: r)
theorem join_eq : ∀ ws : List (List UInt8), Lib.join ws [32] = joinW ws
  | [] => rfl
  | [a] => by simp [Lib.join, joinW]
  | a :: b :: r => by
    have := join_eq (b :: r)
    unfold joinW
    rw [← this]
    simp [Lib.join]
theorem join_any (v : Value) (ws : List (List UInt8)) (base : Nat) (w : World) (h : OwnS w base v ws) (h0 : 0 < ws.length) (h1 : ws.length ≤ 1000000) (h2 : (joinW ws).length ≤ 100000000) :
    Calls Tryd.prog 35 #[v, .string ⟨#[32]⟩] w fun e w' => e = .returned (.string (ba (joinW ws))) ∧ Below w.heap.size w w' := by
  obtain ⟨g, cap, rfl, hb, hg, hc, hcell⟩ := h.form h0
  have e : (ws.map ba).map (fun x => x.data.toList) = ws := by rw [List.map_map]; exact (List.map_congr_left (fun x _ => rfl)).trans (List.map_id ws)
  have := Tryd.strings_Join g 0 cap (ws.map ba) ⟨#[32]⟩ w hcell hg (by rw [List.length_map]; omega) (by rw [List.length_map]; exact hc) (by
    rw [e]; show (Lib.join ws [32]).length ≤ _
    rw [join_eq]; omega)
  rw [List.length_map, e] at this
  show Calls _ _ _ _ _
  rw [← join_eq]
  exact this

/-! ### an op's text -/
def putsP (l : List S42) : List UInt8 := l.flatMap fun p => 32 :: Lib.itoa p.f0 ++ 32 :: bytesP p.f1
def okPuts (l : List S42) : Bool := l.all fun p => p.f1.length == 40
def textP (k h lba len : Int) (l : List S42) : List UInt8 :=
  if k = 1 then [98, 101, 103, 105, 110]
  else if k = 2 then [114, 101, 97, 100] ++ 32 :: Lib.itoa h ++ 32 :: Lib.itoa lba ++ 32 :: Lib.itoa len
  else if k = 3 then (if okPuts l = true then [119, 114, 105, 116, 101] ++ 32 :: Lib.itoa h ++ putsP l else [])
  else if k = 4 then [99, 111, 109, 109, 105, 116] ++ 32 :: Lib.itoa h
  else if k = 5 then [97, 98, 111, 114, 116] ++ 32 :: Lib.itoa h
  else []
def putsW (l : List S42) : List (List UInt8) := l.flatMap fun p => [Lib.itoa p.f0, bytesP p.f1]
theorem join_snoc : ∀ (ws : List (List UInt8)) (a : List UInt8), 0 < ws.length → joinW (ws ++ [a]) = joinW ws ++ 32 :: a
  | [], _, h => by simp at h
  | [b], a, _ => rfl
  | b :: c :: r, a, _ => by
    have := join_snoc (c :: r) a (by simp)
    show joinW (b :: c :: (r ++ [a])) = _
    rw [joinW, show c :: (r ++ [a]) = (c :: r) ++ [a] from rfl, this]
    simp [joinW]
theorem join_puts (ws : List (List UInt8)) (l : List S42) (h : 0 < ws.length) : joinW (ws ++ putsW l) = joinW ws ++ putsP l := by
  induction l generalizing ws with
  | nil => simp [putsW, putsP]
  | cons p r ih =>
    have e : ws ++ putsW (p :: r) = ((ws ++ [Lib.itoa p.f0]) ++ [bytesP p.f1]) ++ putsW r := by simp [putsW]
    rw [e, ih _ (by simp), join_snoc _ _ (by simp), join_snoc _ _ h]
    simp [putsP]
/-- An op's numbers are ints. -/
def I64 (n : Int) : Prop := -9223372036854775808 ≤ n ∧ n ≤ 9223372036854775807
/-- The puts: numbers that are ints, bytes that are bytes. -/
def PutsOk (l : List S42) : Prop := ∀ p ∈ l, I64 p.f0 ∧ InB p.f1
end Go.Proofs.YtjjpnmeldgnfeaaDoor
