import PyProof.Rows.All
import Wide.All
import OpenK.AllK
import Wide.FinOn
import PySem.Challenge.RW_no0001_01
open PySem PySem.W PyProof.Rows PySem.Calls
set_option Elab.async false

/-! The plain law: the row of restarts as a plain function, and what the law asks of it. No program in sight. -/
namespace Mine
/-- the number at place p (from 1 on) of the row of 2^m - 1 numbers -/
def desc : Nat → Int → Int
  | 0, _ => 0
  | m + 1, p => if p = 2 ^ (m + 1) - 1 then 2 ^ m else if 2 ^ m - 1 < p then desc m (p - (2 ^ m - 1)) else desc m p
def lub (k : Int) : Int := desc 60 (k + 1)

theorem two_pos (m : Nat) : (1 : Int) ≤ 2 ^ m := by
  have := Int.pow_pos (n := (2 : Int)) (m := m) (by decide); omega
theorem two_succ (m : Nat) : (2 : Int) ^ (m + 1) = 2 * 2 ^ m := by rw [Int.pow_succ]; omega
theorem two_le {m n : Nat} (h : m ≤ n) : (2 : Int) ^ m ≤ 2 ^ n := by
  induction h with
  | refl => exact Int.le_refl _
  | step _ ih => rw [Nat.succ_eq_add_one, two_succ]; have := two_pos m; omega
theorem two_lt {m n : Nat} (h : (2 : Int) ^ m < 2 ^ n) : m < n := by
  rcases Nat.lt_or_ge m n with h' | h'
  · exact h'
  · have := two_le h'; omega

theorem desc_up {m : Nat} {p : Int} (h2 : p ≤ 2 ^ m - 1) : ∀ d, desc (m + d) p = desc m p := by
  intro d
  induction d with
  | zero => rfl
  | succ d ih =>
    rw [← Nat.add_assoc, desc]
    have a := two_le (Nat.le_add_right m d)
    have b := two_succ (m + d)
    have c := two_pos m
    have e := two_pos (m + d)
    rw [if_neg (by omega), if_neg (by omega)]
    exact ih
theorem lub_desc {m : Nat} {k : Int} (hm : m ≤ 60) (h2 : k + 1 ≤ 2 ^ m - 1) : lub k = desc m (k + 1) := by
  have := desc_up h2 (60 - m)
  rw [show m + (60 - m) = 60 by omega] at this
  exact this
theorem desc_top (m : Nat) : desc (m + 1) (2 ^ (m + 1) - 1) = 2 ^ m := by rw [desc, if_pos rfl]
theorem desc_hi {m : Nat} {p : Int} (h : p ≠ 2 ^ (m + 1) - 1) (h1 : 2 ^ m - 1 < p) : desc (m + 1) p = desc m (p - (2 ^ m - 1)) := by
  rw [desc, if_neg h, if_pos h1]
theorem desc_lo {m : Nat} {p : Int} (h1 : ¬ 2 ^ m - 1 < p) : desc (m + 1) p = desc m p := by
  have a := two_succ m
  have b := two_pos m
  rw [desc, if_neg (by omega), if_neg h1]

/-- size is 2^m - 1 for a small m -/
def Sz (size : Int) : Prop := ∃ m : Nat, m ≤ 50 ∧ size = 2 ^ m - 1
/-- the second loop: place within size tells what k tells -/
def Dn (k place size : Int) : Prop := ∃ m : Nat, m ≤ 50 ∧ size = 2 ^ m - 1 ∧ desc m place = lub k

def Inv1 (size : Int) : Prop := 1 ≤ size ∧ size ≤ 2 ^ 44 ∧ Sz size
def Inv2 (k place size : Int) : Prop := 1 ≤ place ∧ place ≤ size ∧ size ≤ 2 ^ 44 ∧ Dn k place size

theorem inv1_start : Inv1 1 := ⟨by decide, by decide, 1, by decide, by decide⟩
theorem inv1_turn {place size : Int} (hp : place ≤ 2 ^ 42) (h : Inv1 size) (ht : size < place) : Inv1 (2 * size + 1) := by
  obtain ⟨h1, h2, m, hm, e⟩ := h
  have e1 := two_succ m
  have : m < 43 := two_lt (n := 43) (by rw [show (2 : Int) ^ 43 = 2 * 2 ^ 42 by decide]; omega)
  refine ⟨by omega, ?_, m + 1, by omega, by omega⟩
  rw [show (2 : Int) ^ 44 = 4 * 2 ^ 42 by decide]; omega
theorem inv1_fall {place size : Int} (h : Inv1 size) (ht : size < place) : (place - (2 * size + 1)).toNat < (place - size).toNat := by
  have := h.1; omega
theorem inv2_start {k size : Int} (hk : 0 ≤ k) (h : Inv1 size) (ht : ¬ size < k + 1) : Inv2 k (k + 1) size := by
  obtain ⟨h1, h2, m, hm, e⟩ := h
  exact ⟨by omega, by omega, h2, m, hm, e, (lub_desc (by omega) (by omega)).symm⟩
theorem half {m : Nat} {size : Int} (e : size = 2 ^ (m + 1) - 1) : Int.fdiv size 2 = 2 ^ m - 1 := by
  rw [Int.fdiv_eq_ediv_of_nonneg _ (by decide), e, two_succ]; omega
theorem inv2_hi {k place size : Int} (h : Inv2 k place size) (hn : place ≠ size) (hg : Int.fdiv size 2 < place) : Inv2 k (place - Int.fdiv size 2) (Int.fdiv size 2) := by
  obtain ⟨h1, h2, h3, m, hm, e, hd⟩ := h
  cases m with
  | zero => rw [Int.pow_zero] at e; omega
  | succ m =>
    have e2 := two_succ m
    have hh := half e
    rw [hh] at hg ⊢
    have hp := two_pos m
    refine ⟨by omega, by omega, by omega, m, by omega, rfl, ?_⟩
    rw [← hd, desc_hi (by omega) (by omega)]
theorem inv2_lo {k place size : Int} (h : Inv2 k place size) (hg : ¬ Int.fdiv size 2 < place) : Inv2 k place (Int.fdiv size 2) := by
  obtain ⟨h1, h2, h3, m, hm, e, hd⟩ := h
  cases m with
  | zero => rw [Int.pow_zero] at e; omega
  | succ m =>
    have e2 := two_succ m
    have hh := half e
    rw [hh] at hg ⊢
    have hp := two_pos m
    refine ⟨by omega, by omega, by omega, m, by omega, rfl, ?_⟩
    rw [← hd, desc_lo (by omega)]
theorem inv2_fall {k place size : Int} (h : Inv2 k place size) : (Int.fdiv size 2).toNat < size.toNat := by
  obtain ⟨h1, h2, h3, m, hm, e, hd⟩ := h
  rw [Int.fdiv_eq_ediv_of_nonneg _ (by decide)]; omega
theorem inv2_end {k place size : Int} (h : Inv2 k place size) (he : place = size) : Int.fdiv (size + 1) 2 = lub k := by
  obtain ⟨h1, h2, h3, m, hm, e, hd⟩ := h
  cases m with
  | zero => rw [Int.pow_zero] at e; omega
  | succ m =>
    rw [← hd, he, e, desc_top, Int.fdiv_eq_ediv_of_nonneg _ (by decide), two_succ]; omega

/-- a whole row of restarts, 127 long -/
def rowOf : Nat → List Int
  | 0 => [1]
  | n + 1 => rowOf n ++ rowOf n ++ [2 * (rowOf n).getLastD 0]
def rowL : List Int := rowOf 6

theorem desc7 : (List.range 127).map (fun i : Nat => desc 7 ((i : Int) + 1)) = rowL := by decide +kernel
theorem rowL_length : rowL.length = 127 := by decide +kernel
theorem rowL_at {n : Nat} (h : n < 127) : rowL[n]? = some (lub (n : Int)) := by
  rw [← desc7, List.getElem?_map, List.getElem?_range h, Option.map_some]
  rw [lub_desc (m := 7) (by decide) (by omega)]
theorem second {p : Nat} {place : Int} (hp1 : 1 ≤ p) (hp : p ≤ 40) (h0 : 0 ≤ place) (h1 : place < 2 ^ p - 1) : lub (2 ^ p - 1 + place) = lub place := by
  have e := two_succ p
  have c := two_pos p
  rw [lub_desc (m := p + 1) (by omega) (by omega), lub_desc (m := p) (k := place) (by omega) (by omega), desc_hi (by omega) (by omega)]
  congr 1
  omega
theorem first_end {p : Nat} (hp : p ≤ 40) : lub (2 ^ (p + 1) - 1 - 1) = 2 ^ p := by
  have e := two_succ p
  have c := two_pos p
  rw [lub_desc (m := p + 1) (by omega) (by omega), show (2 : Int) ^ (p + 1) - 1 - 1 + 1 = 2 ^ (p + 1) - 1 by omega, desc_top]
theorem last_end {p : Nat} (hp : p ≤ 40) : lub (2 * (2 ^ p - 1)) = 2 ^ p := by
  have e := two_succ p
  have c := two_pos p
  rw [lub_desc (m := p + 1) (by omega) (by omega), show 2 * ((2 : Int) ^ p - 1) + 1 = 2 ^ (p + 1) - 1 by omega, desc_top]

/-! The walk's parts: what a call of the two defs hands back, and the stores of the law's turn told by letters. -/
def RowRet (h₀ : Heap) (L : Addr) (m : Str → Option Value) (news : List (Addr × Obj)) (s : Shared) (Q : Value → Shared → Prop) (ns : List Int) : Prop :=
  ∀ (l : Addr) (vs : List Value) (n : Nat) (h' : Heap) (tk' : Nat), Fr h₀ L h' m → News h₀ L h' ((l, listOf vs.toArray n) :: news) → (∀ p ∈ news, p.1 < l) → IntsAre vs ns → Q (.ref l) { s with heap := h', toks := tk' }
def RowC (prog : Program) (w : World) (K : Frag) (p : Program) (loose : List Str) (mean : ExcName → Option Value) (mg mb : Str → Option Value) (f : Addr) (many : Int) (tk : Tok) : Prop :=
  ∀ (dp un : Nat) (gd : Option (List Code)) (cn : Str) (cs : Scope) (a : Addr) (ccd : Value) (cl : List (Str × Addr)) (outer : List Env) (A₀ : Around) (base h₀ : Heap) (L : Addr) (m : Str → Option Value) (news : List (Addr × Obj)) (s : Shared) (Q E : Value → Shared → Prop),
    Below A₀ base outer h₀ → Fr h₀ L s.heap m → K.In h₀ → News h₀ L s.heap news → Top p loose mean mg mb h₀ → cs.kind = .function → dp + 1 < recursionLimit → un + 8 < cLine →
    RowRet h₀ L m news s Q (rowL.take many.toNat) →
    wpAny (model prog w) (ktrTop dp un gd cn cs L a ccd cl outer) (call (.ref f) [.int many tk]) Q E s
theorem row_end {h₀ : Heap} {L : Addr} {m : Str → Option Value} {news rest : List (Addr × Obj)} {s : Shared} {Q : Value → Shared → Prop} {ns ns' : List Int} {D : Addr} {ws : List Value} {n : Nat} {h' : Heap} {tk' : Nat}
    (hret : RowRet h₀ L m news s Q ns) (F : Fr h₀ L h' m) (N : News h₀ L h' ((D, listOf ws.toArray n) :: rest)) (hs : ∀ p ∈ news, p ∈ rest) (lt : AllLt D rest) (hI : IntsAre ws ns') (e : ns' = ns) : Q (.ref D) { s with heap := h', toks := tk' } := by
  subst e
  exact hret D ws n h' tk' F (fun p hp => N p ((List.mem_cons.mp hp).elim (fun e => e ▸ .head _) fun h => .tail _ (hs p h))) (fun p hp => kst_ltOf lt p (hs p hp)) hI
/-- the row's numbers at the while's head: the first j doublings, as a list that is not written out -/
def Doub (j : Nat) (ns : List Int) : Prop := ns = rowOf j ∧ j ≤ 6 ∧ 0 < ns.length ∧ ns.length ≤ 127
theorem doub_all : ∀ j : Nat, j ≤ 6 → (0 < (rowOf j).length ∧ (rowOf j).length ≤ 127) ∧ rowL.take (rowOf j).length = rowOf j := by
  have : ∀ j : Fin 7, (0 < (rowOf j).length ∧ (rowOf j).length ≤ 127) ∧ rowL.take (rowOf j).length = rowOf j := by decide +kernel
  exact fun j h => this ⟨j, by omega⟩
theorem doub_six {j : Nat} {ns : List Int} (h : Doub j ns) (hl : ns.length < 127) : j < 6 := by
  obtain ⟨rfl, h6, _, _⟩ := h
  rcases Nat.lt_or_ge j 6 with h' | h'
  · exact h'
  · have e : j = 6 := by omega
    subst e
    have := rowL_length
    unfold rowL at this
    omega
theorem doub_next {j : Nat} {ns : List Int} {y : Int} (h : Doub j ns) (hl : ns.length < 127) (hy : y = ns.getD ((-1 : Int) + (ns.length : Nat)).toNat 0) : Doub (j + 1) (ns ++ ns ++ [2 * y]) := by
  have h6 := doub_six h hl
  obtain ⟨rfl, _, h0, _⟩ := h
  have e : rowOf j ++ rowOf j ++ [2 * y] = rowOf (j + 1) := by
    show _ = rowOf j ++ rowOf j ++ [2 * (rowOf j).getLastD 0]
    rw [hy, show ((-1 : Int) + ((rowOf j).length : Nat)).toNat = (rowOf j).length - 1 by omega]
    congr 3
    rw [List.getD_eq_getElem?_getD, ← List.getLast?_eq_getElem?, List.getLastD_eq_getLast?]
  rw [e]
  have := (doub_all (j + 1) (by omega)).1
  exact ⟨rfl, by omega, this.1, this.2⟩
theorem doub_take {j : Nat} {ns : List Int} {k : Int} (h : Doub j ns) (hn : ¬ (ns.length : Int) < k) : ns.take k.toNat = rowL.take k.toNat := by
  obtain ⟨rfl, h6, _, _⟩ := h
  have e : rowL.take k.toNat = (rowL.take (rowOf j).length).take k.toNat := by rw [List.take_take, Nat.min_eq_left (by omega)]
  rw [e, (doub_all j h6).2]
abbrev RowS : Type := Addr × List Value × Nat × Nat × List Int
theorem row_while {prog : Program} {w : World} {A : Around} {E : Value → Shared → Prop} {Q : Flow → Shared → Prop} {s : Shared} {env : Env} {h₀ : Heap} {L : Addr} {test : PySem.Expr} {body : List Stmt} {pos : Pos} {m₀ : Str → Option Value} {news : List (Addr × Obj)} {found : Str} {l₀ : Addr} {vs₀ : List Value} {n₀ : Nat}
    (F : Fr h₀ L s.heap m₀) (N : News h₀ L s.heap ((l₀, listOf vs₀.toArray n₀) :: news)) (hlt : AllLt l₀ news) (hI : IntsAre vs₀ [1]) (hf : m₀ found = some (.ref l₀))
    (turn : ∀ (l : Addr) (vs : List Value) (n j : Nat) (ns : List Int) h tk, Doub j ns → IntsAre vs ns → 0 < ns.length → ns.length ≤ 127 → AllLt l news → Fr h₀ L h (fun z => if z = found then some (.ref l) else m₀ z) → News h₀ L h ((l, listOf vs.toArray n) :: news) →
      wpAny (model prog w) A (isTrue test env (eval test env)) (fun b s₂ =>
        if b = true then wpAny (model prog w) A (execs body env) (KswPost h₀ L s (fun c : RowS => (c.1, listOf c.2.1.toArray c.2.2.1) :: news) (fun c => [(found, .ref c.1)]) (fun c => IntsAre c.2.1 c.2.2.2.2 ∧ AllLt c.1 news) [] m₀ (fun c => Doub c.2.2.2.1 c.2.2.2.2) (fun c => 6 - c.2.2.2.1) Q (l, vs, n, j, ns)) E s₂ else Q .next s₂) E { s with heap := h, toks := tk })
    (hE : PassesOwn (model prog w) A env E := by passes_own) :
    wpAny (model prog w) A (exec (.While test body [] pos) env) Q E s := by
  refine ksw_while (σ := RowS) (fun c => (c.1, listOf c.2.1.toArray c.2.2.1) :: news) (fun c => [(found, .ref c.1)]) (fun c => IntsAre c.2.1 c.2.2.2.2 ∧ AllLt c.1 news) [] (fun c => Doub c.2.2.2.1 c.2.2.2.2) (fun c => 6 - c.2.2.2.1) (l₀, vs₀, n₀, 0, [1]) F N ⟨hI, hlt⟩ ?_ ⟨rfl, Nat.zero_le 6, Nat.zero_lt_one, (by decide : 1 ≤ 127)⟩ ?_ hE
  · intro p hp
    rw [List.mem_singleton.mp hp]
    exact hf
  · rintro ⟨l, vs, n, j, ns⟩ u h tk ⟨hI', hlt'⟩ hd F' N'
    exact turn l vs n j ns h tk hd hI' hd.2.2.1 hd.2.2.2 hlt' F' N'
theorem row_turn {h₀ : Heap} {L : Addr} {s : Shared} {m₀ m' : Str → Option Value} {news rest : List (Addr × Obj)} {found : Str} {j n n' : Nat} {l D : Addr} {vs ws : List Value} {ns ns' : List Int} {y : Int} {h' : Heap} {tk : Nat}
    (F : Fr h₀ L h' m') (N : News h₀ L h' ((D, listOf ws.toArray n') :: rest)) (hs : ∀ p ∈ news, p ∈ rest) (lt : AllLt D rest) (hI : IntsAre ws ns') (hd : Doub j ns) (hl : ns.length < 127) (e : ns' = ns ++ ns ++ [2 * y]) (hy : y = ns.getD ((-1 : Int) + (ns.length : Nat)).toNat 0)
    (hf : m' found = some (.ref D)) (hr : ∀ z, z ≠ found → m' z = m₀ z) :
    KswEnd h₀ L s (fun c : RowS => (c.1, listOf c.2.1.toArray c.2.2.1) :: news) (fun c => [(found, .ref c.1)]) (fun c => IntsAre c.2.1 c.2.2.2.2 ∧ AllLt c.1 news) [] m₀ (fun c => Doub c.2.2.2.1 c.2.2.2.2) (fun c => 6 - c.2.2.2.1) (l, vs, n, j, ns) { s with heap := h', toks := tk } := by
  have h6 := doub_six hd hl
  refine ksw_end (D, ws, n', j + 1, ns') F N (fun p hp => (List.mem_cons.mp hp).elim (fun e => e ▸ .head _) fun h => .tail _ (hs p h)) ⟨hI, allLt_of fun p hp => kst_ltOf lt p (hs p hp)⟩ ?_ ?_ ?_ ?_
  · intro p hp
    rw [List.mem_singleton.mp hp]
    exact hf
  · intro z hz _
    exact hr z (hz _ (List.mem_singleton.mpr rfl))
  · subst e
    exact doub_next hd hl hy
  · show 6 - (j + 1) < 6 - j
    omega
/-- what a call of the program's luby hands back, wherever it is made -/
def LubyW (prog : Program) (w : World) (K : Frag) (p : Program) (loose : List Str) (mean : ExcName → Option Value) (mg mb : Str → Option Value) (f : Addr) : Prop :=
  ∀ (news : CbLed) (k : Int) (tk : Tok), CbClaim prog w K p loose mean mg mb f news [] (0 ≤ k ∧ k < 2 ^ 42) [.int k tk] (fun t => .int (lub k) t)
/-- what a call of the law's own row hands back -/
def RowW (prog : Program) (w : World) (K : Frag) (p : Program) (loose : List Str) (mean : ExcName → Option Value) (mg mb : Str → Option Value) (f : Addr) : Prop :=
  ∀ (k : Int) (tk : Tok), 1 ≤ k → k ≤ 127 → RowC prog w K p loose mean mg mb f k tk
theorem luby_of {prog : Program} {w : World} {K : Frag} {p : Program} {loose : List Str} {mean : ExcName → Option Value} {mg mb : Str → Option Value} (f : Addr) {h : Heap} (hX : K.In h) (hT : Top p loose mean mg mb h) (W : LubyW prog w K p loose mean mg mb f) : LubyW prog w K p loose mean mg mb f := W
theorem row_of {prog : Program} {w : World} {K : Frag} {p : Program} {loose : List Str} {mean : ExcName → Option Value} {mg mb : Str → Option Value} (f : Addr) {h : Heap} (hX : K.In h) (hT : Top p loose mean mg mb h) (W : RowW prog w K p loose mean mg mb f) : RowW prog w K p loose mean mg mb f := W
section
variable {prog : Program} {w : World} {K : Frag} {p : Program} {loose : List Str} {mean : ExcName → Option Value} {mg mb : Str → Option Value} {f : Addr}
  {dp un : Nat} {gd : Option (List Code)} {cn : Str} {cs : Scope} {a : Addr} {ccd : Value} {cl : List (Str × Addr)} {outer : List Env} {A₀ : Around} {base h₀ : Heap} {L : Addr} {m : Str → Option Value} {news : List (Addr × Obj)} {s : Shared} {Q E : Value → Shared → Prop} {k : Int} {tk : Tok}
theorem luby_use (B : Below A₀ base outer h₀) (F : Fr h₀ L s.heap m) (X : K.In h₀) (N : News h₀ L s.heap news) (T : Top p loose mean mg mb h₀) (hk : cs.kind = .function)
    (W : LubyW prog w K p loose mean mg mb f) (h0 : 0 ≤ k) (h1 : k < 2 ^ 42) (hd : dp + 1 < recursionLimit) (hu : un + 8 < cLine)
    (ret : ∀ (t : Tok) h' tk', Fr h₀ L h' m → News h₀ L h' news → Q (.int (lub k) t) { s with heap := h', toks := tk' }) :
    wpAny (model prog w) (ktrTop dp un gd cn cs L a ccd cl outer) (call (.ref f) [.int k tk]) Q E s := W news k tk _ _ _ _ _ _ _ _ _ _ _ _ _ _ _ _ _ B F X N T hk ⟨h0, h1⟩ hd hu ret
theorem row_use (B : Below A₀ base outer h₀) (F : Fr h₀ L s.heap m) (X : K.In h₀) (N : News h₀ L s.heap news) (T : Top p loose mean mg mb h₀) (hk : cs.kind = .function)
    (W : RowW prog w K p loose mean mg mb f) (h0 : 1 ≤ k) (h1 : k ≤ 127) (hd : dp + 1 < recursionLimit) (hu : un + 8 < cLine)
    (ret : RowRet h₀ L m news s Q (rowL.take k.toNat)) :
    wpAny (model prog w) (ktrTop dp un gd cn cs L a ccd cl outer) (call (.ref f) [.int k tk]) Q E s := W k tk h0 h1 _ _ _ _ _ _ _ _ _ _ _ _ _ _ _ _ _ _ B F X N T hk hd hu ret
section
variable {M : Model} {A : Around} {E : Value → Shared → Prop} {Q : Unit → Shared → Prop} {s : Shared} {env : Env} {x : Str} {t : Tok}
theorem fmod_two (a : Int) {n : Int} (h : 0 < n) : 0 ≤ Int.fmod a n ∧ Int.fmod a n < n := ⟨Int.fmod_nonneg_of_pos a h, Int.fmod_lt_of_pos a h⟩
theorem st_power {n : Int} (h : ∀ p : Nat, 1 ≤ p → p ≤ 40 → wpAny M A (storeName env x (.int (p : Int) t)) Q E s) : wpAny M A (storeName env x (.int (1 + Int.fmod n 40) t)) Q E s := by
  obtain ⟨h0, h1⟩ := fmod_two n (n := 40) (by decide)
  have e : 1 + Int.fmod n 40 = ((1 + Int.fmod n 40).toNat : Int) := by omega
  rw [e]
  exact h _ (by omega) (by omega)
theorem st_size {p : Nat} (h1 : 1 ≤ p) (h2 : p ≤ 40) (h : ∀ z : Int, 1 ≤ z → z < 2 ^ 41 → lub (z - 1) = 2 ^ ((p : Int) - 1).toNat → lub (2 * z) = 2 ^ (p : Int).toNat → (∀ q, 0 ≤ q → q < z → lub (z + q) = lub q) → wpAny M A (storeName env x (.int z t)) Q E s) :
    wpAny M A (storeName env x (.int (2 ^ (p : Int).toNat - 1) t)) Q E s := by
  obtain ⟨r, rfl⟩ : ∃ r, p = r + 1 := ⟨p - 1, by omega⟩
  have e : ((r + 1 : Nat) : Int).toNat = r + 1 := Int.toNat_natCast _
  have e' : (((r + 1 : Nat) : Int) - 1).toNat = r := by omega
  rw [e] at h ⊢
  rw [e'] at h
  have a := two_pos r
  have b := two_succ r
  have c := two_le h2
  refine h _ (by omega) (by rw [show (2 : Int) ^ 41 = 2 * 2 ^ 40 by decide]; omega) (first_end (by omega)) (last_end h2) fun q h0 h1 => second (by omega) h2 h0 h1
theorem st_place {a z : Int} (h1 : 1 ≤ z) (hl : ∀ q, 0 ≤ q → q < z → lub (z + q) = lub q) (h : ∀ q : Int, 0 ≤ q → q < z → lub (z + q) = lub q → wpAny M A (storeName env x (.int q t)) Q E s) :
    wpAny M A (storeName env x (.int (Int.fmod a z) t)) Q E s := by
  obtain ⟨h0, h1⟩ := fmod_two a (n := z) (by omega)
  exact h _ h0 h1 (hl _ h0 h1)
theorem st_near {a : Int} (h : ∀ r : Int, 0 ≤ r → r < 127 → rowL[r.toNat]? = some (lub r) → wpAny M A (storeName env x (.int r t)) Q E s) : wpAny M A (storeName env x (.int (Int.fmod a 127) t)) Q E s := by
  obtain ⟨h0, h1⟩ := fmod_two a (n := 127) (by decide)
  refine h _ h0 h1 ?_
  have := rowL_at (n := (Int.fmod a 127).toNat) (by omega)
  rw [Int.toNat_of_nonneg h0] at this
  exact this
theorem row_map {m : Int} (h1 : 1 ≤ m) (h2 : m ≤ 127) : (rangeKs 0 (m - 0).toNat).map (fun k => lub k) = rowL.take m.toNat := by
  apply List.ext_getElem?
  intro i
  rw [List.getElem?_map, List.getElem?_take]
  unfold rangeKs
  rw [List.getElem?_map]
  by_cases h : i < m.toNat
  · rw [List.getElem?_range (by omega), if_pos h, rowL_at (by omega)]
    simp
  · rw [if_neg h, List.getElem?_eq_none (by simp; omega)]
    rfl
theorem st_many {a : Int} (h : ∀ m : Int, 1 ≤ m → m ≤ 127 → (rangeKs 0 (m - 0).toNat).map (fun k => lub k) = rowL.take m.toNat → wpAny M A (storeName env x (.int m t)) Q E s) : wpAny M A (storeName env x (.int (1 + Int.fmod a 127) t)) Q E s := by
  obtain ⟨h0, h1⟩ := fmod_two a (n := 127) (by decide)
  exact h _ (by omega) (by omega) (row_map (by omega) (by omega))
theorem st_many31 (h : ∀ m : Int, 1 ≤ m → m ≤ 127 → (rangeKs 0 (m - 0).toNat).map (fun k => lub k) = rowL.take m.toNat → wpAny M A (storeName env x (.int m t)) Q E s) : wpAny M A (storeName env x (.int (1 + 30) t)) Q E s :=
  h _ (by omega) (by omega) (row_map (by omega) (by omega))
end
theorem row_at {r : Int} (h0 : 0 ≤ r) (h : rowL[r.toNat]? = some (lub r)) : (rowL.take (r + 1).toNat)[r.toNat]? = some (lub r) := by
  rw [List.getElem?_take, if_pos (by omega)]
  exact h
theorem row_item {prog : Program} {w : World} {A : Around} {E : Value → Shared → Prop} {s : Shared} {value slice : PySem.Expr} {l : Addr} {vs : List Value} {ns : List Int} {k y : Int} {u : Tok} {Q : Value → Shared → Prop}
    (hl : s.heap.IsList l vs.toArray) (hI : IntsAre vs ns) (h0 : 0 ≤ k) (hhi : k < 2 ^ 63) (hx : ns[k.toNat]? = some y) (h : ∀ t, Q (.int y t) s)
    (hs : subscripted slice false (.ref l) (.int k u) = operate [.ref l, .int k u] (getItem (.ref l) (.int k u)) := by with_unfolding_all rfl) :
    wpAny (model prog w) A (subscriptTail value slice (.ref l) (.int k u)) Q E s := by
  have hlt : k.toNat < vs.length := by
    rw [hI.length]
    exact (List.getElem?_eq_some_iff.mp hx).1
  obtain ⟨n, t, hv, hn⟩ := IntsAre.at hI k.toNat _ (List.getElem?_eq_getElem hlt)
  have e : n = y := Option.some.inj (hn.symm.trans hx)
  subst e
  exact tail_any hl.typeIs slot_list_getitem.lookup (wpAny_getItem_list hl h0 hhi (by simp [List.getElem?_eq_getElem hlt, hv]) (h t)) hs
end
end Mine
local macro_rules | `(tactic| walk_at "last subscriptTail") => `(tactic| (k_here; (with_reducible show wpAny _ _ (subscriptTail _ _ (Value.ref _) (Value.int _ _)) _ _ _); (with_unfolding_all refine' Mine.row_item ?k1 ?k2 ?k3 ?k4 ?k5 ?_ ?k6); (case k6 => with_unfolding_all rfl); (case k1 => is_list); (case k2 => assumption); (case k3 => assumption); (case k4 => omega); (case k5 => exact Mine.row_at (by assumption) (by assumption)); k_whole; intro t9; (try dsimp only)))
local macro_rules | `(tactic| walk_at "storeName") => `(tactic| (k_here; (with_reducible refine Mine.st_power ?_); intro p9 hp9 hp9'))
local macro_rules | `(tactic| walk_at "storeName") => `(tactic| (k_here; (with_reducible refine Mine.st_size (by assumption) (by assumption) ?_); intro z9 hz9 hz9' hza hzb hzc))
local macro_rules | `(tactic| walk_at "storeName") => `(tactic| (k_here; (with_reducible refine Mine.st_place (by assumption) (by assumption) ?_); intro q9 hq9 hq9' hqa))
local macro_rules | `(tactic| walk_at "storeName") => `(tactic| (k_here; (with_reducible refine Mine.st_near ?_); intro r9 hr9 hr9' hra))
local macro_rules | `(tactic| walk_at "storeName") => `(tactic| (k_here; (with_reducible first | refine Mine.st_many ?_ | refine Mine.st_many31 ?_); intro m9 hm9 hm9' hma))
local macro_rules | `(tactic| walk_at "call ref") => `(tactic| (k_here; k_dflt (refine' Mine.luby_use ?k1 ?k2 ?k3 ?k4 ?k5 ?kK ?kW ?p0 ?p1 ?kd ?ku ?_); (case kW => assumption); (case k1 => k_asm); (case k2 => k_asm); (case k3 => k_asm); (case k4 => k_asm); (case k5 => k_asm); (case kK => first | exact rfl | assumption); (case p0 => first | omega | l_fact); (case p1 => first | omega | l_fact); (case kd => ktr_room); (case ku => ktr_units); intro t9 h9 tk9 F9 N9; (try dsimp only); (try k_fold)))
local macro_rules | `(tactic| walk_at "call ref") => `(tactic| (k_here; k_dflt (refine' Mine.row_use ?k1 ?k2 ?k3 ?k4 ?k5 ?kK ?kW ?p0 ?p1 ?kd ?ku ?_); (case kW => assumption); (case k1 => k_asm); (case k2 => k_asm); (case k3 => k_asm); (case k4 => k_asm); (case k5 => k_asm); (case kK => first | exact rfl | assumption); (case p0 => first | omega | l_fact); (case p1 => first | omega | l_fact); (case kd => ktr_room); (case ku => ktr_units); unfold Mine.RowRet; intro l9 vs9 n9 h9 tk9 F9 N9 lt9 hI9; (try dsimp only); (try k_fold)))
local macro_rules | `(tactic| walk_at "exec While Compare cons nil") => `(tactic| (k_here; k_dflt (refine' Mine.row_while (found := PySem.Str.ofString "found") ?k1 ?k2 ?k3 ?k4 ?k5 ?_); (case k1 => k_asm); (case k2 => k_asm); (case k3 => first | assumption | exact allLt_of (by assumption)); (case k4 => exact .cons _ _ .nil); (case k5 => with_unfolding_all rfl); k_whole; intro l9 vs9 n9 j9 ns9 h9 tk9 hd9 hI9 hp9 hl9 hlt9 F9 N9; (try dsimp only); (try k_fold)))
local macro_rules | `(tactic| walk_at "KswEnd") => `(tactic| (k_here; (refine' Mine.row_turn ?k1 ?k2 ?k3 ?k4 ?k5 ?k6 ?k7 ?k8 ?k9 ?kA ?kB); (case k1 => k_asm); (case k2 => k_asm); (case k3 => kcj_all); (case k4 => assumption); (case k5 => assumption); (case k6 => assumption); (case k7 => omega); (case k8 => exact rfl); (case k9 => exact rfl); (case kA => with_unfolding_all rfl); (case kB => (intro z hz; simp [hz]))))

set_option maxRecDepth 100000 in
set_option maxHeartbeats 8000000 in
theorem PySem.Challenge.cw_no0001_01_holds : PySem.Challenge.rw_no0001_01.Holds := by
  w_on
  o_law
  k_head
  case hw => w_witness2
  k_go0
  rename World => w9
  rename Top _ _ _ _ _ _ => T9
  rename Frag.In _ _ => X9
  have Lu := Mine.luby_of (prog := PySem.Challenge.rw_no0001_01.row.prog) (w := w9) 21 X9 T9 (by
    repeat (rename_i h9; clear h9)
    clear X9 T9
    intro news k tk
    dsimp only [CbClaim, CbLists, CbRet]
    intros
    rename_i hret
    refine wpAny_call ?_
    k_dflt cell_enter
    (k_with "exec While Compare cons nil" => k_while_given ["k"] (fun k script place size => Mine.Inv2 k place size) (fun k script place size => size.toNat) "place" "size")
    (k_with "exec While Compare cons nil" => k_while_given ["place"] (fun place script size => Mine.Inv1 size) (fun place script size => (place - size).toNat) "size")
    (k_with "state" => exact Mine.inv1_start)
    (k_with "state" => exact Mine.inv1_turn (place := k + 1) (by omega) (by assumption) (by assumption))
    (k_with "state" => exact Mine.inv2_start (by omega) (by assumption) (by omega))
    (k_with "state" => exact Mine.inv2_lo (by assumption) (by omega))
    (k_with "state" => exact Mine.inv2_hi (by assumption) (by omega) (by omega))
    (k_with "measure" => exact Mine.inv2_fall (by assumption))
    (k_with "measure" => exact Mine.inv1_fall (by assumption) (by omega))
    (k_with "tree" => exact Mine.inv2_end (by assumption) (by omega))
    k_steps
    all_goals cb_end hret)
  k_with_none
  have Ro := Mine.row_of (prog := PySem.Challenge.rw_no0001_01.row.prog) (w := w9) 28 X9 T9 (by
    repeat (rename_i h9; clear h9)
    clear X9 T9 Lu
    intro k tk h1 h2
    unfold Mine.RowC
    intros
    rename_i hret
    refine wpAny_call ?_
    k_dflt cell_enter
    k_steps
    refine' Mine.row_end hret ?c1 ?c2 ?c3 ?c4 ?c5 ?c6
    case c1 => k_asm
    case c2 => k_asm
    case c3 => kcj_all
    case c4 => assumption
    case c5 => assumption
    case c6 => exact Mine.doub_take (by assumption) (by assumption))
  all_goals try k_fold
  k_with "pyIter ref" => k_search (fun _ => True)
  k_steps
