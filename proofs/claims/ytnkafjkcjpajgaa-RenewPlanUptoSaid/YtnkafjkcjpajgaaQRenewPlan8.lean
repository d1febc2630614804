/-
  Texts of this proof, part 8: Vpb.
-/
import Derived.Test.YtnkafjkcjpajgaaQRenewPlan7
import Derived.Lib.AppendStr
import Derived.Lib.AppendZerosOnto
import Derived.Lib.MinMax
namespace Go.Proofs.Ytnkafjkcjpajgaa
open Go.RowKit
theorem AF.re {P : Program} {f : FuncId} {l l' : List T} {R : T → Prop} (h : AF P f l R) (hr : ∀ M vs, RTs M l' vs → RTs M l vs) : AF P f l' R :=
  ⟨h.1, fun M w vs hg hm hv => h.2 M w vs hg hm (hr M vs hv)⟩
theorem rt_nilrow {M : Mm} {sz : Nat} (h0 : 0 < sz) {u : Value} (h : RT M (.lit (.slice none 0 0)) u) : RT M (.row 0 sz []) u := by
  simp only [RT] at h ⊢
  subst h
  exact ⟨none, 0, [], rfl, Nat.le_refl _, Nat.zero_le _, h0, by simp, fun h => absurd h (by omega), by simp only [RTs]⟩
/-- a tree that reads asq a row of texts -/
def StrT (t : T) (x : List ByteArray) : Prop := ∀ M v, RT M t v → RT M (strRow x) v
theorem strT_self (x : List ByteArray) : StrT (strRow x) x := fun _ _ h => h
theorem strT_nil : StrT (.lit (.slice none 0 0)) [] := fun _ _ h => rt_nilrow (by omega) h
theorem idxT_af {t : T} {x : List ByteArray} (h : StrT t x) (s : ByteArray) : AF Try.prog 101 [t, .lit (.string s)] (· = .lit (.int .i64 (posOf s x))) :=
  (idxStr_af x s).re fun M vs hv => by
    simp only [RTs] at hv ⊢
    obtain ⟨v, r, h1, h2, h3⟩ := hv
    exact ⟨v, r, h1, h M v h2, h3⟩
def RowTo {α : Type} (o w : Pr) (Q : (ByteArray → Prop) → α → α → Prop) (s s1 : List ByteArray) (l r : List α) (k : Nat) : Prop := Step o w s s1 ∧ ∀ (i : Nat) (u v : α), i < k → l[i]? = some u → r[i]? = some v → Q (InS s1) u v
theorem RowTo.zero {α : Type} (o w : Pr) (Q : (ByteArray → Prop) → α → α → Prop) (s : List ByteArray) (l r : List α) : RowTo o w Q s s l r 0 := ⟨.refl o w s, fun _ _ _ h => absurd h (Nat.not_lt_zero _)⟩
theorem RowTo.next {α : Type} {o w : Pr} {Q : (ByteArray → Prop) → α → α → Prop} (mono : ∀ (A B : ByteArray → Prop), (∀ n, A n → B n) → ∀ (a b : α), Q A a b → Q B a b) {s s1 s' : List ByteArray} {l r : List α} {k : Nat} {a b : α} (ha : l[k]? = some a) (hb : r[k]? = some b)
    (h : RowTo o w Q s s1 l r k) (g : Step o w s1 s' ∧ Q (InS s') a b) : RowTo o w Q s s' l r (k + 1) := by
  refine ⟨h.1.trans g.1, fun i u v hi hu hv => ?_⟩
  by_cases hik : i = k
  · subst hik
    rw [ha] at hu; rw [hb] at hv
    injection hu with hu; injection hv with hv
    subst hu hv
    exact g.2
  · exact mono _ _ g.1.1 u v (h.2 i u v (by omega) hu hv)
theorem RowTo.all {α : Type} {o w : Pr} {Q : (ByteArray → Prop) → α → α → Prop} {s s1 : List ByteArray} {l r : List α} (h : RowTo o w Q s s1 l r l.length) : Step o w s s1 ∧ ∀ (i : Nat) (u v : α), l[i]? = some u → r[i]? = some v → Q (InS s1) u v :=
  ⟨h.1, fun i u v hu hv => h.2 i u v (List.getElem?_eq_some_iff.1 hu).1 hu hv⟩
def SameR (o w : Pr) (bp c : Nat) (s : List ByteArray) (Q : (ByteArray → Prop) → Prop) (r : AV) (hs : List Blk) : Prop := ∃ (z : Bool) (m : List (ByteArray × T)) (s' : List ByteArray), r = .c (.lit (.bool z)) ∧ hs = [.mp c (mkeys Value.string m), .box bp 180 [.c (.lit (.string o.name)), .c (.lit (.int .i64 o.version)), .c (Us.row o.uses), .c (Da.row o.datas), .c (Tr.row o.traits), .c (Im.row o.impls), .c (Fu.row o.funcs), .c (Ac.row o.actors), .c (.lit (.string w.name)), .c (.lit (.int .i64 w.version)), .c (Us.row w.uses), .c (Da.row w.datas), .c (Tr.row w.traits), .c (Im.row w.impls), .c (Fu.row w.funcs), .c (Ac.row w.actors), .own 0 (.map (some c))]] ∧ SeenOk m s' ∧ Try o w Q s z s'
def LikeR (o w : Pr) (bp c b2 b5 b7 b9 : Nat) (d f : Da) (s : List ByteArray) (Q : (ByteArray → Prop) → Prop) (r : AV) (hs : List Blk) : Prop := ∃ (z : Bool) (m : List (ByteArray × T)) (s' : List ByteArray), r = .c (.lit (.bool z)) ∧ hs = [.mp c (mkeys Value.string m), .box bp 180 [.c (.lit (.string o.name)), .c (.lit (.int .i64 o.version)), .c (Us.row o.uses), .c (Da.row o.datas), .c (Tr.row o.traits), .c (Im.row o.impls), .c (Fu.row o.funcs), .c (Ac.row o.actors), .c (.lit (.string w.name)), .c (.lit (.int .i64 w.version)), .c (Us.row w.uses), .c (Da.row w.datas), .c (Tr.row w.traits), .c (Im.row w.impls), .c (Fu.row w.funcs), .c (Ac.row w.actors), .own 0 (.map (some c))], .box b2 177 [.ptr 1 bp 0], .box b5 135 [.c (.lit (.string d.name)), .c (strRow d.params), .c (Mk.row d.makes)], .box b7 135 [.c (.lit (.string f.name)), .c (strRow f.params), .c (Mk.row f.makes)], .box b9 242 [.fn (.func 154) [.ptr 2 b2 0, .ptr 3 b5 0, .ptr 4 b7 0]]] ∧ SeenOk m s' ∧ Try o w Q s z s'
def Sames (o w : Pr) (N : Nat) : Prop := ∀ (a b : Y) (x y : List ByteArray) (tx ty : T), StrT tx x → StrT ty y → ∀ (bp c : Nat) (m : List (ByteArray × T)) (s : List ByteArray), SeenOk m s → leftD o s ≤ N →
  AG Try.prog 103 [.ptr 1 bp 0, .c a.t, .c b.t, .c tx, .c ty] [.mp c (mkeys Value.string m), .box bp 180 [.c (.lit (.string o.name)), .c (.lit (.int .i64 o.version)), .c (Us.row o.uses), .c (Da.row o.datas), .c (Tr.row o.traits), .c (Im.row o.impls), .c (Fu.row o.funcs), .c (Ac.row o.actors), .c (.lit (.string w.name)), .c (.lit (.int .i64 w.version)), .c (Us.row w.uses), .c (Da.row w.datas), .c (Tr.row w.traits), .c (Im.row w.impls), .c (Fu.row w.funcs), .c (Ac.row w.actors), .own 0 (.map (some c))]] (SameR o w bp c s fun A => a.lk A x y b)
def Alikes (o w : Pr) (N : Nat) : Prop := ∀ (n : ByteArray) (bp c : Nat) (m : List (ByteArray × T)) (s : List ByteArray), SeenOk m s → leftD o s ≤ N →
  AG Try.prog 130 [.ptr 1 bp 0, .c (.lit (.string n))] [.mp c (mkeys Value.string m), .box bp 180 [.c (.lit (.string o.name)), .c (.lit (.int .i64 o.version)), .c (Us.row o.uses), .c (Da.row o.datas), .c (Tr.row o.traits), .c (Im.row o.impls), .c (Fu.row o.funcs), .c (Ac.row o.actors), .c (.lit (.string w.name)), .c (.lit (.int .i64 w.version)), .c (Us.row w.uses), .c (Da.row w.datas), .c (Tr.row w.traits), .c (Im.row w.impls), .c (Fu.row w.funcs), .c (Ac.row w.actors), .own 0 (.map (some c))]] (SameR o w bp c s fun A => A n)
section
variable (o w : Pr) (N : Nat) (d f : Da) (bp c b2 b5 b7 b9 : Nat)
set_option maxRecDepth 100000 in
set_option maxHeartbeats 1000000 in
theorem typ_ag (hS : Sames o w N) (a b : Y) (m : List (ByteArray × T)) (s : List ByteArray) (hs : SeenOk m s) (hN : leftD o s ≤ N) :
    AG Try.prog 154 [.c a.t, .c b.t, .ptr 2 b2 0, .ptr 3 b5 0, .ptr 4 b7 0] [.mp c (mkeys Value.string m), .box bp 180 [.c (.lit (.string o.name)), .c (.lit (.int .i64 o.version)), .c (Us.row o.uses), .c (Da.row o.datas), .c (Tr.row o.traits), .c (Im.row o.impls), .c (Fu.row o.funcs), .c (Ac.row o.actors), .c (.lit (.string w.name)), .c (.lit (.int .i64 w.version)), .c (Us.row w.uses), .c (Da.row w.datas), .c (Tr.row w.traits), .c (Im.row w.impls), .c (Fu.row w.funcs), .c (Ac.row w.actors), .own 0 (.map (some c))], .box b2 177 [.ptr 1 bp 0], .box b5 135 [.c (.lit (.string d.name)), .c (strRow d.params), .c (Mk.row d.makes)], .box b7 135 [.c (.lit (.string f.name)), .c (strRow f.params), .c (Mk.row f.makes)], .box b9 242 [.fn (.func 154) [.ptr 2 b2 0, .ptr 3 b5 0, .ptr 4 b7 0]]] (LikeR o w bp c b2 b5 b7 b9 d f s fun A => a.lk A d.params f.params b) := by
  have hc := hS a b d.params f.params _ _ (strT_self _) (strT_self _) bp c m s hs hN
  clear hS hN hs
  unfold SameR at hc
  unfold LikeR
  generalize hQ : (fun A => a.lk A d.params f.params b) = Q at *
  clear hQ
  obtain ⟨ka, ta, la⟩ := a
  obtain ⟨kb, tb, lb⟩ := b
  refine ag_enter 6 tok Try.func154 Try.ntmps154 Try.results154 rfl (by kernel_rfl) rfl fun F => ?_
  repeat (first | refine gG ?_ | refine zBf ?_)
  refine zCallG [0, 1] hc ?_
  rintro _ _ ⟨z, m', s', rfl, rfl, h1, h2⟩
  refine ⟨.c _, _, re_refl, rfl, rfl, ?_⟩
  repeat (first | refine gG ?_ | refine zBx (fun _ => ?_))
  refine zG ?_
  exact ⟨z, m', s', rfl, rfl, h1, h2⟩
set_option maxRecDepth 100000 in
set_option maxHeartbeats 1000000 in
theorem eqTys_ag (l r : List Y) (hf : ∀ (a b : Y) (m : List (ByteArray × T)) (s : List ByteArray), SeenOk m s → leftD o s ≤ N → AG Try.prog 154 [.c a.t, .c b.t, .ptr 2 b2 0, .ptr 3 b5 0, .ptr 4 b7 0] [.mp c (mkeys Value.string m), .box bp 180 [.c (.lit (.string o.name)), .c (.lit (.int .i64 o.version)), .c (Us.row o.uses), .c (Da.row o.datas), .c (Tr.row o.traits), .c (Im.row o.impls), .c (Fu.row o.funcs), .c (Ac.row o.actors), .c (.lit (.string w.name)), .c (.lit (.int .i64 w.version)), .c (Us.row w.uses), .c (Da.row w.datas), .c (Tr.row w.traits), .c (Im.row w.impls), .c (Fu.row w.funcs), .c (Ac.row w.actors), .own 0 (.map (some c))], .box b2 177 [.ptr 1 bp 0], .box b5 135 [.c (.lit (.string d.name)), .c (strRow d.params), .c (Mk.row d.makes)], .box b7 135 [.c (.lit (.string f.name)), .c (strRow f.params), .c (Mk.row f.makes)], .box b9 242 [.fn (.func 154) [.ptr 2 b2 0, .ptr 3 b5 0, .ptr 4 b7 0]]] (LikeR o w bp c b2 b5 b7 b9 d f s fun A => a.lk A d.params f.params b)) (m : List (ByteArray × T)) (s : List ByteArray) (hs : SeenOk m s) (hN : leftD o s ≤ N) :
    AG Try.prog 157 [.c (Y.row l), .c (Y.row r), .fn (.func 154) [.ptr 2 b2 0, .ptr 3 b5 0, .ptr 4 b7 0]] [.mp c (mkeys Value.string m), .box bp 180 [.c (.lit (.string o.name)), .c (.lit (.int .i64 o.version)), .c (Us.row o.uses), .c (Da.row o.datas), .c (Tr.row o.traits), .c (Im.row o.impls), .c (Fu.row o.funcs), .c (Ac.row o.actors), .c (.lit (.string w.name)), .c (.lit (.int .i64 w.version)), .c (Us.row w.uses), .c (Da.row w.datas), .c (Tr.row w.traits), .c (Im.row w.impls), .c (Fu.row w.funcs), .c (Ac.row w.actors), .own 0 (.map (some c))], .box b2 177 [.ptr 1 bp 0], .box b5 135 [.c (.lit (.string d.name)), .c (strRow d.params), .c (Mk.row d.makes)], .box b7 135 [.c (.lit (.string f.name)), .c (strRow f.params), .c (Mk.row f.makes)], .box b9 242 [.fn (.func 154) [.ptr 2 b2 0, .ptr 3 b5 0, .ptr 4 b7 0]]] (LikeR o w bp c b2 b5 b7 b9 d f s fun A => Y.lks A d.params f.params l r) := by
  by_cases hl : ((l.length : Nat) : Int) = ((r.length : Nat) : Int)
  rotate_left
  · have dl : decide (((l.length : Nat) : Int) = ((r.length : Nat) : Int)) = false := decide_eq_false hl
    have hno : Try o w (fun A => Y.lks A d.params f.params l r) s false s := .no fun A _ h => hl (by have := ((lks_iff _ _ _ _ _).1 h).1; omega)
    generalize hQ : (fun A => Y.lks A d.params f.params l r) = Q at *
    clear hQ hf
    unfold LikeR
    refine ag_enter 6 tok Try.func157 Try.ntmps157 Try.results157 rfl (by kernel_rfl) rfl fun F => ?_
    repeat (first | refine gG ?_ | refine zN1 (fun hlen => ?_) | refine zN2 (fun hlen => ?_) | refine zAl (fun _ => ?_))
    refine zG ?_
    exact ⟨false, m, s, rfl, rfl, hs, hno⟩
  have dl : decide (((l.length : Nat) : Int) = ((r.length : Nat) : Int)) = true := decide_eq_true hl
  unfold LikeR
  generalize hQ : (fun A => Y.lks A d.params f.params l r) = Q
  refine ag_enter 6 tok Try.func157 Try.ntmps157 Try.results157 rfl (by kernel_rfl) rfl fun F => ?_
  repeat (first | refine gG ?_ | refine zN1 (fun hlen => ?_) | refine zN2 (fun hlen => ?_) | refine zAl (fun _ => ?_))
  refine x_loop [6, 7, 8, 9, 17, 18, 19, 20, 21, 22, 23, 24, 25, 26, 27, 28, 29, 30, 31] (fun z : Nat × List (ByteArray × T) × List ByteArray => [(17, .c (.lit (.int .i64 (z.1 : Nat))))]) (fun z => [.mp c (mkeys Value.string z.2.1), .box bp 180 [.c (.lit (.string o.name)), .c (.lit (.int .i64 o.version)), .c (Us.row o.uses), .c (Da.row o.datas), .c (Tr.row o.traits), .c (Im.row o.impls), .c (Fu.row o.funcs), .c (Ac.row o.actors), .c (.lit (.string w.name)), .c (.lit (.int .i64 w.version)), .c (Us.row w.uses), .c (Da.row w.datas), .c (Tr.row w.traits), .c (Im.row w.impls), .c (Fu.row w.funcs), .c (Ac.row w.actors), .own 0 (.map (some c))], .box b2 177 [.ptr 1 bp 0], .box b5 135 [.c (.lit (.string d.name)), .c (strRow d.params), .c (Mk.row d.makes)], .box b7 135 [.c (.lit (.string f.name)), .c (strRow f.params), .c (Mk.row f.makes)], .box b9 242 [.fn (.func 154) [.ptr 2 b2 0, .ptr 3 b5 0, .ptr 4 b7 0]]]) (fun z => z.1 ≤ l.length ∧ SeenOk z.2.1 z.2.2 ∧ RowTo o w (fun A a b => a.lk A d.params f.params b) s z.2.2 l r z.1) (fun z => l.length - z.1) (0, m, s) ⟨Nat.zero_le _, hs, .zero _ _ _ _ _ _⟩ ⟨rfl, trivial⟩ rfl ?_
  clear hs
  rintro ⟨k, m1, s1⟩ ⟨hk, hs1, hto⟩
  dsimp only at hk hs1 hto ⊢
  repeat (first | refine gG ?_ | refine zN1 (fun hlen => ?_) | refine zN2 (fun hlen => ?_) | refine zAl (fun _ => ?_))
  refine x_cond rfl (fun h => ?_) (fun h => ?_)
  · have hk' : k < l.length := by simpa using h
    have hkr : k < r.length := by omega
    obtain ⟨a, ha⟩ := nth hk'
    obtain ⟨b, hb⟩ := nth hkr
    have hfa := hf a b m1 s1 hs1 (Nat.le_trans (leftD_le hto.1.1) hN)
    have hnx := fun s' g => hto.next (Q := fun A a b => a.lk A d.params f.params b) (s' := s') (fun _ _ h a b g => lk_mono h a g) ha hb g
    have hbad : ∀ s', Try o w (fun A => a.lk A d.params f.params b) s1 false s' → Try o w Q s false s' := fun s' g => g.of_no fun A hA => by
      rw [← hQ] at hA
      exact ((lks_iff _ _ _ _ _).1 hA).2 k a b ha hb
    have hat := Y.at ha
    have hbt := Y.at hb
    clear h ha hb hf hto hs1 hQ
    unfold LikeR at hfa
    obtain ⟨ka, ta, la⟩ := a
    obtain ⟨kb, tb, lb⟩ := b
    repeat (first | refine gG ?_ | refine zN1 (fun hlen => ?_) | refine zN2 (fun hlen => ?_) | refine zAl (fun _ => ?_))
    refine zIx (k) (hk') ?_
    repeat (first | refine gG ?_ | refine zN1 (fun hlen => ?_) | refine zN2 (fun hlen => ?_) | refine zAl (fun _ => ?_))
    refine zEl (hat) (Y.ts_len _) ?_
    repeat (first | refine gG ?_ | refine zN1 (fun hlen => ?_) | refine zN2 (fun hlen => ?_) | refine zAl (fun _ => ?_))
    refine zIx (k) (hkr) ?_
    repeat (first | refine gG ?_ | refine zN1 (fun hlen => ?_) | refine zN2 (fun hlen => ?_) | refine zAl (fun _ => ?_))
    refine zEl (hbt) (Y.ts_len _) ?_
    repeat (first | refine gG ?_ | refine zN1 (fun hlen => ?_) | refine zN2 (fun hlen => ?_) | refine zAl (fun _ => ?_))
    refine zCallG [0, 1, 2, 3, 4, 5] hfa ?_
    rintro _ _ ⟨z, m', s', rfl, rfl, h1, h2⟩
    refine ⟨.c _, _, re_refl, rfl, rfl, ?_⟩
    clear hfa
    cases z
    · repeat (first | refine gG ?_ | refine zN1 (fun hlen => ?_) | refine zN2 (fun hlen => ?_) | refine zAl (fun _ => ?_))
      refine zG ?_
      exact ⟨false, m', s', rfl, rfl, h1, hbad s' h2⟩
    · repeat (first | refine gG ?_ | refine zN1 (fun hlen => ?_) | refine zN2 (fun hlen => ?_) | refine zAl (fun _ => ?_))
      exact ⟨(k + 1, m', s'), ⟨hk', h1, hnx s' (h2.1 rfl)⟩, by simp only; omega, x_wkd 6 ⟨rfl, trivial⟩ rfl (by repeat (first | exact ag_refl | refine ag_upd rfl ?_ | refine ag_at rfl rfl ?_))⟩
  · have hk' : k = l.length := by
      have : ¬ k < l.length := by simpa using h
      omega
    subst hk'
    clear h hf
    have hend : Try o w Q s true s1 := by
      have h := hto.all
      rw [← hQ]
      exact .yes h.1 ((lks_iff _ _ _ _ _).2 ⟨by omega, h.2⟩)
    repeat (first | refine gG ?_ | refine zN1 (fun hlen => ?_) | refine zN2 (fun hlen => ?_) | refine zAl (fun _ => ?_))
    refine zG ?_
    exact ⟨true, m1, s1, rfl, rfl, hs1, hend⟩
set_option maxRecDepth 100000 in
set_option maxHeartbeats 1000000 in
theorem mks_ag (hS : Sames o w N) (a b : Mk) (m : List (ByteArray × T)) (s : List ByteArray) (hs : SeenOk m s) (hN : leftD o s ≤ N) :
    AG Try.prog 156 [.c a.t, .c b.t, .ptr 5 b9 0] [.mp c (mkeys Value.string m), .box bp 180 [.c (.lit (.string o.name)), .c (.lit (.int .i64 o.version)), .c (Us.row o.uses), .c (Da.row o.datas), .c (Tr.row o.traits), .c (Im.row o.impls), .c (Fu.row o.funcs), .c (Ac.row o.actors), .c (.lit (.string w.name)), .c (.lit (.int .i64 w.version)), .c (Us.row w.uses), .c (Da.row w.datas), .c (Tr.row w.traits), .c (Im.row w.impls), .c (Fu.row w.funcs), .c (Ac.row w.actors), .own 0 (.map (some c))], .box b2 177 [.ptr 1 bp 0], .box b5 135 [.c (.lit (.string d.name)), .c (strRow d.params), .c (Mk.row d.makes)], .box b7 135 [.c (.lit (.string f.name)), .c (strRow f.params), .c (Mk.row f.makes)], .box b9 242 [.fn (.func 154) [.ptr 2 b2 0, .ptr 3 b5 0, .ptr 4 b7 0]]] (LikeR o w bp c b2 b5 b7 b9 d f s fun A => mkOk A d.params f.params a b) := by
  have hc := eqTys_ag o w N d f bp c b2 b5 b7 b9 a.args b.args (fun a b m s => typ_ag o w N d f bp c b2 b5 b7 b9 hS a b m s) m s hs hN
  clear hS hN
  unfold LikeR at hc ⊢
  obtain ⟨an, al⟩ := a
  obtain ⟨bn, bl⟩ := b
  cases d1 : decide (an = bn)
  · have hno : Try o w (fun A => mkOk A d.params f.params ⟨an, al⟩ ⟨bn, bl⟩) s false s := .no fun A _ h => of_decide_eq_false d1 h.1
    generalize (fun A => mkOk A d.params f.params ⟨an, al⟩ ⟨bn, bl⟩) = Q at *
    clear hc
    refine ag_enter 6 tok Try.func156 Try.ntmps156 Try.results156 rfl (by kernel_rfl) rfl fun F => ?_
    repeat (first | refine gG ?_ | refine zBf ?_)
    refine zG ?_
    exact ⟨false, m, s, rfl, rfl, hs, hno⟩
  · have hq : ∀ z s', Try o w (fun A => Y.lks A d.params f.params al bl) s z s' → Try o w (fun A => mkOk A d.params f.params ⟨an, al⟩ ⟨bn, bl⟩) s z s' := fun z s' h => ⟨fun hz => ⟨(h.1 hz).1, of_decide_eq_true d1, (h.1 hz).2⟩, fun hz A hA hm => h.2 hz A hA hm.2⟩
    generalize (fun A => mkOk A d.params f.params ⟨an, al⟩ ⟨bn, bl⟩) = Q at *
    dsimp only at hc
    refine ag_enter 6 tok Try.func156 Try.ntmps156 Try.results156 rfl (by kernel_rfl) rfl fun F => ?_
    repeat (first | refine gG ?_ | refine zBf ?_)
    refine zCallG [0, 1, 2, 3, 4, 5] hc ?_
    rintro _ _ ⟨z, m', s', rfl, rfl, h1, h2⟩
    refine ⟨.c _, _, re_refl, rfl, rfl, ?_⟩
    repeat (first | refine gG ?_ | refine zBx (fun _ => ?_))
    refine zG ?_
    exact ⟨z, m', s', rfl, rfl, h1, hq z s' h2⟩
set_option maxRecDepth 100000 in
set_option maxHeartbeats 1000000 in
theorem eqMks_ag (l r : List Mk) (hf : ∀ (a b : Mk) (m : List (ByteArray × T)) (s : List ByteArray), SeenOk m s → leftD o s ≤ N → AG Try.prog 156 [.c a.t, .c b.t, .ptr 5 b9 0] [.mp c (mkeys Value.string m), .box bp 180 [.c (.lit (.string o.name)), .c (.lit (.int .i64 o.version)), .c (Us.row o.uses), .c (Da.row o.datas), .c (Tr.row o.traits), .c (Im.row o.impls), .c (Fu.row o.funcs), .c (Ac.row o.actors), .c (.lit (.string w.name)), .c (.lit (.int .i64 w.version)), .c (Us.row w.uses), .c (Da.row w.datas), .c (Tr.row w.traits), .c (Im.row w.impls), .c (Fu.row w.funcs), .c (Ac.row w.actors), .own 0 (.map (some c))], .box b2 177 [.ptr 1 bp 0], .box b5 135 [.c (.lit (.string d.name)), .c (strRow d.params), .c (Mk.row d.makes)], .box b7 135 [.c (.lit (.string f.name)), .c (strRow f.params), .c (Mk.row f.makes)], .box b9 242 [.fn (.func 154) [.ptr 2 b2 0, .ptr 3 b5 0, .ptr 4 b7 0]]] (LikeR o w bp c b2 b5 b7 b9 d f s fun A => mkOk A d.params f.params a b)) (m : List (ByteArray × T)) (s : List ByteArray) (hs : SeenOk m s) (hN : leftD o s ≤ N) :
    AG Try.prog 155 [.c (Mk.row l), .c (Mk.row r), .fn (.func 156) [.ptr 5 b9 0]] [.mp c (mkeys Value.string m), .box bp 180 [.c (.lit (.string o.name)), .c (.lit (.int .i64 o.version)), .c (Us.row o.uses), .c (Da.row o.datas), .c (Tr.row o.traits), .c (Im.row o.impls), .c (Fu.row o.funcs), .c (Ac.row o.actors), .c (.lit (.string w.name)), .c (.lit (.int .i64 w.version)), .c (Us.row w.uses), .c (Da.row w.datas), .c (Tr.row w.traits), .c (Im.row w.impls), .c (Fu.row w.funcs), .c (Ac.row w.actors), .own 0 (.map (some c))], .box b2 177 [.ptr 1 bp 0], .box b5 135 [.c (.lit (.string d.name)), .c (strRow d.params), .c (Mk.row d.makes)], .box b7 135 [.c (.lit (.string f.name)), .c (strRow f.params), .c (Mk.row f.makes)], .box b9 242 [.fn (.func 154) [.ptr 2 b2 0, .ptr 3 b5 0, .ptr 4 b7 0]]] (LikeR o w bp c b2 b5 b7 b9 d f s fun A => msOk A d.params f.params l r) := by
  by_cases hl : ((l.length : Nat) : Int) = ((r.length : Nat) : Int)
  rotate_left
  · have dl : decide (((l.length : Nat) : Int) = ((r.length : Nat) : Int)) = false := decide_eq_false hl
    have hno : Try o w (fun A => msOk A d.params f.params l r) s false s := .no fun A _ h => hl (by have := h.1; omega)
    generalize hQ : (fun A => msOk A d.params f.params l r) = Q at *
    clear hQ hf
    unfold LikeR
    refine ag_enter 6 tok Try.func155 Try.ntmps155 Try.results155 rfl (by kernel_rfl) rfl fun F => ?_
    repeat (first | refine gG ?_ | refine zN1 (fun hlen => ?_) | refine zN2 (fun hlen => ?_) | refine zAl (fun _ => ?_))
    refine zG ?_
    exact ⟨false, m, s, rfl, rfl, hs, hno⟩
  have dl : decide (((l.length : Nat) : Int) = ((r.length : Nat) : Int)) = true := decide_eq_true hl
  unfold LikeR
  generalize hQ : (fun A => msOk A d.params f.params l r) = Q
  refine ag_enter 6 tok Try.func155 Try.ntmps155 Try.results155 rfl (by kernel_rfl) rfl fun F => ?_
  repeat (first | refine gG ?_ | refine zN1 (fun hlen => ?_) | refine zN2 (fun hlen => ?_) | refine zAl (fun _ => ?_))
  refine x_loop [6, 7, 8, 9, 17, 18, 19, 20, 21, 22, 23, 24, 25, 26, 27, 28, 29, 30, 31] (fun z : Nat × List (ByteArray × T) × List ByteArray => [(17, .c (.lit (.int .i64 (z.1 : Nat))))]) (fun z => [.mp c (mkeys Value.string z.2.1), .box bp 180 [.c (.lit (.string o.name)), .c (.lit (.int .i64 o.version)), .c (Us.row o.uses), .c (Da.row o.datas), .c (Tr.row o.traits), .c (Im.row o.impls), .c (Fu.row o.funcs), .c (Ac.row o.actors), .c (.lit (.string w.name)), .c (.lit (.int .i64 w.version)), .c (Us.row w.uses), .c (Da.row w.datas), .c (Tr.row w.traits), .c (Im.row w.impls), .c (Fu.row w.funcs), .c (Ac.row w.actors), .own 0 (.map (some c))], .box b2 177 [.ptr 1 bp 0], .box b5 135 [.c (.lit (.string d.name)), .c (strRow d.params), .c (Mk.row d.makes)], .box b7 135 [.c (.lit (.string f.name)), .c (strRow f.params), .c (Mk.row f.makes)], .box b9 242 [.fn (.func 154) [.ptr 2 b2 0, .ptr 3 b5 0, .ptr 4 b7 0]]]) (fun z => z.1 ≤ l.length ∧ SeenOk z.2.1 z.2.2 ∧ RowTo o w (fun A a b => mkOk A d.params f.params a b) s z.2.2 l r z.1) (fun z => l.length - z.1) (0, m, s) ⟨Nat.zero_le _, hs, .zero _ _ _ _ _ _⟩ ⟨rfl, trivial⟩ rfl ?_
  clear hs
  rintro ⟨k, m1, s1⟩ ⟨hk, hs1, hto⟩
  dsimp only at hk hs1 hto ⊢
  repeat (first | refine gG ?_ | refine zN1 (fun hlen => ?_) | refine zN2 (fun hlen => ?_) | refine zAl (fun _ => ?_))
  refine x_cond rfl (fun h => ?_) (fun h => ?_)
  · have hk' : k < l.length := by simpa using h
    have hkr : k < r.length := by omega
    obtain ⟨a, ha⟩ := nth hk'
    obtain ⟨b, hb⟩ := nth hkr
    have hfa := hf a b m1 s1 hs1 (Nat.le_trans (leftD_le hto.1.1) hN)
    have hnx := fun s' g => hto.next (Q := fun A a b => mkOk A d.params f.params a b) (s' := s') (fun _ _ h a b g => mkOk_mono h g) ha hb g
    have hbad : ∀ s', Try o w (fun A => mkOk A d.params f.params a b) s1 false s' → Try o w Q s false s' := fun s' g => g.of_no fun A hA => by
      rw [← hQ] at hA
      exact hA.2 k a b ha hb
    have hat := Mk.at ha
    have hbt := Mk.at hb
    clear h ha hb hf hto hs1 hQ
    unfold LikeR at hfa
    obtain ⟨an, al⟩ := a
    obtain ⟨bn, bl⟩ := b
    repeat (first | refine gG ?_ | refine zN1 (fun hlen => ?_) | refine zN2 (fun hlen => ?_) | refine zAl (fun _ => ?_))
    refine zIx (k) (hk') ?_
    repeat (first | refine gG ?_ | refine zN1 (fun hlen => ?_) | refine zN2 (fun hlen => ?_) | refine zAl (fun _ => ?_))
    refine zEl (hat) (Mk.ts_len _) ?_
    repeat (first | refine gG ?_ | refine zN1 (fun hlen => ?_) | refine zN2 (fun hlen => ?_) | refine zAl (fun _ => ?_))
    refine zIx (k) (hkr) ?_
    repeat (first | refine gG ?_ | refine zN1 (fun hlen => ?_) | refine zN2 (fun hlen => ?_) | refine zAl (fun _ => ?_))
    refine zEl (hbt) (Mk.ts_len _) ?_
    repeat (first | refine gG ?_ | refine zN1 (fun hlen => ?_) | refine zN2 (fun hlen => ?_) | refine zAl (fun _ => ?_))
    refine zCallG [0, 1, 2, 3, 4, 5] hfa ?_
    rintro _ _ ⟨z, m', s', rfl, rfl, h1, h2⟩
    refine ⟨.c _, _, re_refl, rfl, rfl, ?_⟩
    clear hfa
    cases z
    · repeat (first | refine gG ?_ | refine zN1 (fun hlen => ?_) | refine zN2 (fun hlen => ?_) | refine zAl (fun _ => ?_))
      refine zG ?_
      exact ⟨false, m', s', rfl, rfl, h1, hbad s' h2⟩
    · repeat (first | refine gG ?_ | refine zN1 (fun hlen => ?_) | refine zN2 (fun hlen => ?_) | refine zAl (fun _ => ?_))
      exact ⟨(k + 1, m', s'), ⟨hk', h1, hnx s' (h2.1 rfl)⟩, by simp only; omega, x_wkd 6 ⟨rfl, trivial⟩ rfl (by repeat (first | exact ag_refl | refine ag_upd rfl ?_ | refine ag_at rfl rfl ?_))⟩
  · have hk' : k = l.length := by
      have : ¬ k < l.length := by simpa using h
      omega
    subst hk'
    clear h hf
    have hend : Try o w Q s true s1 := by
      have h := hto.all
      rw [← hQ]
      exact .yes h.1 ⟨by omega, h.2⟩
    repeat (first | refine gG ?_ | refine zN1 (fun hlen => ?_) | refine zN2 (fun hlen => ?_) | refine zAl (fun _ => ?_))
    refine zG ?_
    exact ⟨true, m1, s1, rfl, rfl, hs1, hend⟩
end
set_option maxRecDepth 100000 in
set_option maxHeartbeats 2000000 in
theorem alike_ag (o w : Pr) (N : Nat) (hS : ∀ M, M < N → Sames o w M) : Alikes o w N := by
  intro n bp c m s hs hN
  have hlk := hs n
  cases hin : hasS s n
  rotate_left
  · rw [hin] at hlk
    have hyes : Try o w (fun A => A n) s true s := .yes (.refl o w s) hin
    generalize hQ : (fun A : ByteArray → Prop => A n) = Q at *
    clear hQ hS hin
    unfold SameR
    refine ag_enter 2 tok Try.func130 Try.ntmps130 Try.results130 rfl (by kernel_rfl) rfl fun F => ?_
    repeat (first | refine gG ?_ | refine zN1 (fun hlen => ?_) | refine zN2 (fun hlen => ?_) | refine zAl (fun _ => ?_) | refine zBx (fun _ => ?_))
    refine zLks 9 4 hlk ?_
    repeat (first | refine gG ?_ | refine zN1 (fun hlen => ?_) | refine zN2 (fun hlen => ?_) | refine zAl (fun _ => ?_) | refine zBx (fun _ => ?_))
    refine zG ?_
    exact ⟨true, m, s, rfl, rfl, hs, hyes⟩
  rw [hin] at hlk
  have hput := hs.put n
  have g1 := data_af o n
  have g2 := data_af w n
  rcases hd : o.data n with _ | d
  · have hno : Try o w (fun A => A n) s false (s ++ [n]) := .no fun A hA h => by
      obtain ⟨d, f, e, _⟩ := hA n h
      rw [hd] at e; cases e
    rw [hd] at g1
    generalize hQ : (fun A : ByteArray → Prop => A n) = Q at *
    generalize codeOf (w.data n) = e2 at *
    generalize (w.data n).getD noDa = f at *
    obtain ⟨fn, fps, fms⟩ := f
    clear hQ hS hin hd
    unfold SameR
    refine ag_enter 2 tok Try.func130 Try.ntmps130 Try.results130 rfl (by kernel_rfl) rfl fun F => ?_
    repeat (first | refine gG ?_ | refine zN1 (fun hlen => ?_) | refine zN2 (fun hlen => ?_) | refine zAl (fun _ => ?_) | refine zBx (fun _ => ?_))
    refine zLks 9 4 hlk ?_
    repeat (first | refine gG ?_ | refine zN1 (fun hlen => ?_) | refine zN2 (fun hlen => ?_) | refine zAl (fun _ => ?_) | refine zBx (fun _ => ?_))
    refine zUps 9 4 ?_
    repeat (first | refine gG ?_ | refine zN1 (fun hlen => ?_) | refine zN2 (fun hlen => ?_) | refine zAl (fun _ => ?_) | refine zBx (fun _ => ?_))
    refine zCall (g1) ?_
    rintro _ rfl
    repeat (first | refine gG ?_ | refine zN1 (fun hlen => ?_) | refine zN2 (fun hlen => ?_) | refine zAl (fun _ => ?_) | refine zBx (fun _ => ?_))
    refine zCall (g2) ?_
    rintro _ rfl
    repeat (first | refine gG ?_ | refine zN1 (fun hlen => ?_) | refine zN2 (fun hlen => ?_) | refine zAl (fun _ => ?_) | refine zBx (fun _ => ?_))
    refine zG ?_
    exact ⟨false, _, _, rfl, rfl, hput, hno⟩
  rcases hf : w.data n with _ | f
  · have hno : Try o w (fun A => A n) s false (s ++ [n]) := .no fun A hA h => by
      obtain ⟨d, f, _, e, _⟩ := hA n h
      rw [hf] at e; cases e
    rw [hd] at g1
    rw [hf] at g2
    generalize hQ : (fun A : ByteArray → Prop => A n) = Q at *
    obtain ⟨dn, dps, dms⟩ := d
    clear hQ hS hin hd hf
    unfold SameR
    refine ag_enter 2 tok Try.func130 Try.ntmps130 Try.results130 rfl (by kernel_rfl) rfl fun F => ?_
    repeat (first | refine gG ?_ | refine zN1 (fun hlen => ?_) | refine zN2 (fun hlen => ?_) | refine zAl (fun _ => ?_) | refine zBx (fun _ => ?_))
    refine zLks 9 4 hlk ?_
    repeat (first | refine gG ?_ | refine zN1 (fun hlen => ?_) | refine zN2 (fun hlen => ?_) | refine zAl (fun _ => ?_) | refine zBx (fun _ => ?_))
    refine zUps 9 4 ?_
    repeat (first | refine gG ?_ | refine zN1 (fun hlen => ?_) | refine zN2 (fun hlen => ?_) | refine zAl (fun _ => ?_) | refine zBx (fun _ => ?_))
    refine zCall (g1) ?_
    rintro _ rfl
    repeat (first | refine gG ?_ | refine zN1 (fun hlen => ?_) | refine zN2 (fun hlen => ?_) | refine zAl (fun _ => ?_) | refine zBx (fun _ => ?_))
    refine zCall (g2) ?_
    rintro _ rfl
    repeat (first | refine gG ?_ | refine zN1 (fun hlen => ?_) | refine zN2 (fun hlen => ?_) | refine zAl (fun _ => ?_) | refine zBx (fun _ => ?_))
    refine zG ?_
    exact ⟨false, _, _, rfl, rfl, hput, hno⟩
  rw [hd] at g1
  rw [hf] at g2
  cases dl : decide (((d.params.length : Nat) : Int) = ((f.params.length : Nat) : Int))
  · have hno : Try o w (fun A => A n) s false (s ++ [n]) := .no fun A hA h => by
      obtain ⟨d', f', e1, e2, e3, _⟩ := hA n h
      rw [hd] at e1; rw [hf] at e2
      injection e1 with e1; injection e2 with e2
      subst e1 e2
      exact of_decide_eq_false dl (by rw [e3])
    generalize hQ : (fun A : ByteArray → Prop => A n) = Q at *
    obtain ⟨dn, dps, dms⟩ := d
    obtain ⟨fn, fps, fms⟩ := f
    dsimp only at dl
    clear hQ hS hin hd hf
    unfold SameR
    refine ag_enter 2 tok Try.func130 Try.ntmps130 Try.results130 rfl (by kernel_rfl) rfl fun F => ?_
    repeat (first | refine gG ?_ | refine zN1 (fun hlen => ?_) | refine zN2 (fun hlen => ?_) | refine zAl (fun _ => ?_) | refine zBx (fun _ => ?_))
    refine zLks 9 4 hlk ?_
    repeat (first | refine gG ?_ | refine zN1 (fun hlen => ?_) | refine zN2 (fun hlen => ?_) | refine zAl (fun _ => ?_) | refine zBx (fun _ => ?_))
    refine zUps 9 4 ?_
    repeat (first | refine gG ?_ | refine zN1 (fun hlen => ?_) | refine zN2 (fun hlen => ?_) | refine zAl (fun _ => ?_) | refine zBx (fun _ => ?_))
    refine zCall (g1) ?_
    rintro _ rfl
    repeat (first | refine gG ?_ | refine zN1 (fun hlen => ?_) | refine zN2 (fun hlen => ?_) | refine zAl (fun _ => ?_) | refine zBx (fun _ => ?_))
    refine zCall (g2) ?_
    rintro _ rfl
    repeat (first | refine gG ?_ | refine zN1 (fun hlen => ?_) | refine zN2 (fun hlen => ?_) | refine zAl (fun _ => ?_) | refine zBx (fun _ => ?_))
    refine zG ?_
    exact ⟨false, _, _, rfl, rfl, hput, hno⟩
  have hlt := leftD_lt hd hin
  have hS' := hS (leftD o (s ++ [n])) (by omega)
  have hc := fun b2 b5 b7 b9 => eqMks_ag o w _ d f bp c b2 b5 b7 b9 d.makes f.makes (fun a b m s => mks_ag o w _ d f bp c b2 b5 b7 b9 hS' a b m s) _ _ hput (Nat.le_refl _)
  have hq := fun (z : Bool) (s' : List ByteArray) (h : Try o w (fun A => msOk A d.params f.params d.makes f.makes) (s ++ [n]) z s') => try_name hd hf (by have := of_decide_eq_true dl; omega) h
  unfold SameR LikeR at *
  generalize hQ : (fun A : ByteArray → Prop => A n) = Q at *
  clear hQ hS hS' hin hlt hN
  obtain ⟨dn, dps, dms⟩ := d
  obtain ⟨fn, fps, fms⟩ := f
  dsimp only at dl hc hq
  clear hd hf
  refine ag_enter 2 tok Try.func130 Try.ntmps130 Try.results130 rfl (by kernel_rfl) rfl fun F => ?_
  repeat (first | refine gG ?_ | refine zN1 (fun hlen => ?_) | refine zN2 (fun hlen => ?_) | refine zAl (fun _ => ?_) | refine zBx (fun _ => ?_))
  refine zLks 9 4 hlk ?_
  repeat (first | refine gG ?_ | refine zN1 (fun hlen => ?_) | refine zN2 (fun hlen => ?_) | refine zAl (fun _ => ?_) | refine zBx (fun _ => ?_))
  refine zUps 9 4 ?_
  repeat (first | refine gG ?_ | refine zN1 (fun hlen => ?_) | refine zN2 (fun hlen => ?_) | refine zAl (fun _ => ?_) | refine zBx (fun _ => ?_))
  refine zCall (g1) ?_
  rintro _ rfl
  repeat (first | refine gG ?_ | refine zN1 (fun hlen => ?_) | refine zN2 (fun hlen => ?_) | refine zAl (fun _ => ?_) | refine zBx (fun _ => ?_))
  refine zCall (g2) ?_
  rintro _ rfl
  repeat (first | refine gG ?_ | refine zN1 (fun hlen => ?_) | refine zN2 (fun hlen => ?_) | refine zAl (fun _ => ?_) | refine zBx (fun _ => ?_))
  refine zCallG [0, 1, 2, 3, 4, 5] (hc _ _ _ _) ?_
  rintro _ _ ⟨z, m', s', rfl, rfl, h1, h2⟩
  refine ⟨.c _, _, re_refl, rfl, rfl, ?_⟩
  repeat (first | refine gG ?_ | refine zN1 (fun hlen => ?_) | refine zN2 (fun hlen => ?_) | refine zAl (fun _ => ?_) | refine zBx (fun _ => ?_))
  refine zG ?_
  exact ⟨z, m', s', rfl, rfl, h1, hq z s' h2⟩
set_option maxRecDepth 100000 in
set_option maxHeartbeats 8000000 in
theorem same_ag (o w : Pr) (N : Nat) (hA : Alikes o w N) : Sames o w N := by
  intro a
  induction a using Y.ind with
  | h k n l ih =>
    rintro ⟨k', n', l'⟩ x y tx ty hx hy bp c m s hs hN
    have hix := fun q => idxT_af hx q
    have hiy := fun q => idxT_af hy q
    have hQk : ∀ A, (Y.mk k n l).lk A x y (.mk k' n' l') → k = k' ∧ k ≠ 7 ∧ nmOk A x y k n n' := fun A h => by rw [Y.lk] at h; exact ⟨h.1, h.2.1, h.2.2.1⟩
    have hQl : ∀ A, (Y.mk k n l).lk A x y (.mk k' n' l') → l.length = l'.length ∧ ∀ (i : Nat) (a b : Y), l[i]? = some a → l'[i]? = some b → a.lk A x y b := fun A h => by rw [Y.lk] at h; exact (lks_iff _ _ _ _ _).1 h.2.2.2
    have hQy : k = k' → k ≠ 7 → l.length = l'.length → ∀ s2, nmOk (InS s2) x y k n n' → (∀ (i : Nat) (a b : Y), l[i]? = some a → l'[i]? = some b → a.lk (InS s2) x y b) → (Y.mk k n l).lk (InS s2) x y (.mk k' n' l') := fun h1 h2 h3 s2 h4 h5 => by rw [Y.lk]; exact ⟨h1, h2, h4, (lks_iff _ _ _ _ _).2 ⟨h3, h5⟩⟩
    have hyes : ∀ s2, Step o w s s2 ∧ (Y.mk k n l).lk (InS s2) x y (.mk k' n' l') → Try o w (fun A => (Y.mk k n l).lk A x y (.mk k' n' l')) s true s2 := fun s2 h => .yes h.1 h.2
    unfold SameR at *
    replace hQy : k = k' → k ≠ 7 → l.length = l'.length → ∀ s2, nmOk (InS s2) x y k n n' → (∀ (i : Nat) (a b : Y), l[i]? = some a → l'[i]? = some b → a.lk (InS s2) x y b) → (fun A => (Y.mk k n l).lk A x y (.mk k' n' l')) (InS s2) := hQy
    replace hQk : ∀ A, (fun A => (Y.mk k n l).lk A x y (.mk k' n' l')) A → k = k' ∧ k ≠ 7 ∧ nmOk A x y k n n' := hQk
    replace hQl : ∀ A, (fun A => (Y.mk k n l).lk A x y (.mk k' n' l')) A → l.length = l'.length ∧ ∀ (i : Nat) (a b : Y), l[i]? = some a → l'[i]? = some b → a.lk A x y b := hQl
    generalize (fun A => (Y.mk k n l).lk A x y (.mk k' n' l')) = Q at *
    clear hyes
    cases d1 : decide (k = k')
    · have hno : Try o w Q s false s := .no fun A _ h => of_decide_eq_false d1 (hQk A h).1
      clear hA hQk hQl hQy ih hix hiy
      refine ag_enter 2 tok Try.func103 Try.ntmps103 Try.results103 rfl (by kernel_rfl) rfl fun F => ?_
      repeat (first | refine gG ?_ | refine zN1 (fun hlen => ?_) | refine zN2 (fun hlen => ?_) | refine zBf ?_)
      refine zG ?_
      exact ⟨false, m, s, rfl, rfl, hs, hno⟩
    cases d2 : decide (k = 7)
    rotate_left
    · have hno : Try o w Q s false s := .no fun A _ h => (hQk A h).2.1 (of_decide_eq_true d2)
      clear hA hQk hQl hQy ih hix hiy
      refine ag_enter 2 tok Try.func103 Try.ntmps103 Try.results103 rfl (by kernel_rfl) rfl fun F => ?_
      repeat (first | refine gG ?_ | refine zN1 (fun hlen => ?_) | refine zN2 (fun hlen => ?_) | refine zBf ?_)
      refine zG ?_
      exact ⟨false, m, s, rfl, rfl, hs, hno⟩
    cases d3 : decide (((l.length : Nat) : Int) = ((l'.length : Nat) : Int))
    · have hno : Try o w Q s false s := .no fun A _ h => of_decide_eq_false d3 (by rw [(hQl A h).1])
      clear hA hQk hQl hQy ih hix hiy
      refine ag_enter 2 tok Try.func103 Try.ntmps103 Try.results103 rfl (by kernel_rfl) rfl fun F => ?_
      repeat (first | refine gG ?_ | refine zN1 (fun hlen => ?_) | refine zN2 (fun hlen => ?_) | refine zBf ?_)
      refine zG ?_
      exact ⟨false, m, s, rfl, rfl, hs, hno⟩
    have hll : l.length = l'.length := by have := of_decide_eq_true d3; omega
    replace hQy := hQy (of_decide_eq_true d1) (of_decide_eq_false d2) hll
    cases d6 : decide (k = 6)
    rotate_left
    · have h6 := of_decide_eq_true d6
      cases d7 : decide (n = n')
      · have hno : Try o w Q s false s := .no fun A _ h => by
          have := (hQk A h).2.2
          unfold nmOk at this
          rw [if_pos h6] at this
          exact of_decide_eq_false d7 this.1
        clear hA hQk hQl hQy ih hix hiy
        refine ag_enter 2 tok Try.func103 Try.ntmps103 Try.results103 rfl (by kernel_rfl) rfl fun F => ?_
        repeat (first | refine gG ?_ | refine zN1 (fun hlen => ?_) | refine zN2 (fun hlen => ?_) | refine zBf ?_)
        refine zG ?_
        exact ⟨false, m, s, rfl, rfl, hs, hno⟩
      have hc := hA n bp c m s hs hN
      unfold SameR at hc
      have hbad : ∀ s', Try o w (fun A => A n) s false s' → Try o w Q s false s' := fun s' g => g.of_no fun A h => by
        have := (hQk A h).2.2
        unfold nmOk at this
        rw [if_pos h6] at this
        exact this.2
      have hnm : ∀ s1, InS s1 n → nmOk (InS s1) x y k n n' := fun s1 h => by
        unfold nmOk
        rw [if_pos h6]
        exact ⟨of_decide_eq_true d7, h⟩
      clear hA hix hiy hs
      refine ag_enter 2 tok Try.func103 Try.ntmps103 Try.results103 rfl (by kernel_rfl) rfl fun F => ?_
      repeat (first | refine gG ?_ | refine zN1 (fun hlen => ?_) | refine zN2 (fun hlen => ?_) | refine zBf ?_)
      refine zCallG [0, 1] hc ?_
      rintro _ _ ⟨z, m1, s1, rfl, rfl, hs1, h2⟩
      refine ⟨.c _, _, re_refl, rfl, rfl, ?_⟩
      clear hc
      cases z
      · clear ih
        repeat (first | refine gG ?_ | refine zN1 (fun hlen => ?_) | refine zN2 (fun hlen => ?_) | refine zBx (fun _ => ?_))
        refine zG ?_
        exact ⟨false, m1, s1, rfl, rfl, hs1, hbad s1 h2⟩
      replace hnm := hnm s1 (h2.1 rfl).2
      have hst := (h2.1 rfl).1
      clear hbad h2
      repeat (first | refine gG ?_ | refine zN1 (fun hlen => ?_) | refine zN2 (fun hlen => ?_) | refine zBx (fun _ => ?_))
      refine x_loop [10, 12, 75, 76, 77, 78, 79, 80, 81, 82, 83, 84, 85, 86, 87, 88, 89, 90, 91, 92, 93] (fun z : Nat × List (ByteArray × T) × List ByteArray => [(75, .c (.lit (.int .i64 (z.1 : Nat))))]) (fun z => [.mp c (mkeys Value.string z.2.1), .box bp 180 [.c (.lit (.string o.name)), .c (.lit (.int .i64 o.version)), .c (Us.row o.uses), .c (Da.row o.datas), .c (Tr.row o.traits), .c (Im.row o.impls), .c (Fu.row o.funcs), .c (Ac.row o.actors), .c (.lit (.string w.name)), .c (.lit (.int .i64 w.version)), .c (Us.row w.uses), .c (Da.row w.datas), .c (Tr.row w.traits), .c (Im.row w.impls), .c (Fu.row w.funcs), .c (Ac.row w.actors), .own 0 (.map (some c))]]) (fun z => z.1 ≤ l.length ∧ SeenOk z.2.1 z.2.2 ∧ nmOk (InS z.2.2) x y k n n' ∧ RowTo o w (fun A a b => a.lk A x y b) s z.2.2 l l' z.1) (fun z => l.length - z.1) (0, m1, s1) ⟨Nat.zero_le _, hs1, hnm, hst, fun _ _ _ h => absurd h (Nat.not_lt_zero _)⟩ ⟨rfl, trivial⟩ rfl ?_
      clear hs1 hnm hst
      rintro ⟨j, m2, s2⟩ ⟨hj, hs2, hnm, hto⟩
      dsimp only at hj hs2 hnm hto ⊢
      repeat (first | refine gG ?_ | refine zN1 (fun hlen => ?_) | refine zN2 (fun hlen => ?_) | refine zBx (fun _ => ?_))
      refine x_cond rfl (fun h => ?_) (fun h => ?_)
      · have hj' : j < l.length := by simpa using h
        have hjr : j < l'.length := by omega
        obtain ⟨a, ha⟩ := nth hj'
        obtain ⟨b, hb⟩ := nth hjr
        have hca := ih a (List.mem_of_getElem? ha) b x y tx ty hx hy bp c m2 s2 hs2 (Nat.le_trans (leftD_le hto.1.1) hN)
        have hnx := fun s' g => hto.next (Q := fun A a b => a.lk A x y b) (s' := s') (fun _ _ h a b g => lk_mono h a g) ha hb g
        have hbad : ∀ s', Try o w (fun A => a.lk A x y b) s2 false s' → Try o w Q s false s' := fun s' g => g.of_no fun A hA => (hQl A hA).2 j a b ha hb
        have hat := Y.at ha
        have hbt := Y.at hb
        clear h ha hb hto hs2 ih
        obtain ⟨ka, ta, la⟩ := a
        obtain ⟨kb, tb, lb⟩ := b
        repeat (first | refine gG ?_ | refine zN1 (fun hlen => ?_) | refine zN2 (fun hlen => ?_) | refine zBx (fun _ => ?_))
        refine ac_draw [1, 1, 1, 1, 1, 1, 1, 1, 1, 1, 1, 1, 1, 2, 1] [0, 1, 2, 3, 4, 5, 6, 7, 8, 9, 10, 11, 12, 13, 14] (by kernel_rfl) (by kernel_rfl) ?_
        refine gW ?_
        apply w_q; (focus exact rfl); (focus exact rfl); focus (intro _; (refine zIx j hj' ?_); exact det_refl)
        apply w_q; (focus exact rfl); (focus exact rfl); focus (intro _; (refine zEl hat (Y.ts_len _) ?_); exact det_refl)
        refine gW ?_
        apply w_q; (focus exact rfl); (focus exact rfl); focus (intro _; (refine zIx j hjr ?_); exact det_refl)
        apply w_q; (focus exact rfl); (focus exact rfl); focus (intro _; (refine zEl hbt (Y.ts_len _) ?_); exact det_refl)
        refine gW ?_
        apply w_l; (focus exact rfl); (focus exact rfl); (refine zCallG [0, 1] hca ?_; rintro _ _ ⟨z, m', s', rfl, rfl, h1, h2⟩; refine ⟨.c _, _, re_refl, rfl, rfl, ?_⟩)
        refine gW ?_
        refine w_nil ?_
        clear hca
        cases z
        · repeat (first | refine gG ?_ | refine zN1 (fun hlen => ?_) | refine zN2 (fun hlen => ?_) | refine zBx (fun _ => ?_))
          refine zG ?_
          exact ⟨false, m', s', rfl, rfl, h1, hbad s' h2⟩
        · repeat (first | refine gG ?_ | refine zN1 (fun hlen => ?_) | refine zN2 (fun hlen => ?_) | refine zBx (fun _ => ?_))
          exact ⟨(j + 1, m', s'), ⟨hj', h1, nmOk_mono (h2.1 rfl).1.1 hnm, hnx s' (h2.1 rfl)⟩, by simp only; omega, x_wkd 2 ⟨rfl, trivial⟩ rfl (by repeat (first | exact ag_refl | refine ag_upd rfl ?_ | refine ag_at rfl rfl ?_))⟩
      · have hj' : j = l.length := by
          have : ¬ j < l.length := by simpa using h
          omega
        subst hj'
        clear h ih
        have h := hto.all
        have hend : Try o w Q s true s2 := .yes h.1 (hQy s2 hnm h.2)
        repeat (first | refine gG ?_ | refine zN1 (fun hlen => ?_) | refine zN2 (fun hlen => ?_) | refine zBx (fun _ => ?_))
        refine zG ?_
        exact ⟨true, m2, s2, rfl, rfl, hs2, hend⟩
    cases d5 : decide (k = 5)
    rotate_left
    · have h6 := of_decide_eq_false d6
      have h5 := of_decide_eq_true d5
      have hi := hix n
      have hi' := hiy n'
      have hnq : ∀ A, Q A → ¬ posOf n x < 0 ∧ posOf n x = posOf n' y := fun A h => by
        have := (hQk A h).2.2
        unfold nmOk at this
        rw [if_neg h6, if_pos h5] at this
        exact this
      have hnm : (¬ posOf n x < 0 ∧ posOf n x = posOf n' y) → nmOk (InS s) x y k n n' := fun h => by
        unfold nmOk
        rw [if_neg h6, if_pos h5]
        exact h
      have hst := Step.refl o w s
      clear hA hix hiy hQk
      generalize posOf n x = i at *
      generalize posOf n' y = i' at *
      cases d7 : decide (i < 0)
      rotate_left
      · have hno : Try o w Q s false s := .no fun A _ h => (hnq A h).1 (of_decide_eq_true d7)
        clear ih hQl hQy
        refine ag_enter 2 tok Try.func103 Try.ntmps103 Try.results103 rfl (by kernel_rfl) rfl fun F => ?_
        repeat (first | refine gG ?_ | refine zN1 (fun hlen => ?_) | refine zN2 (fun hlen => ?_) | refine zBf ?_)
        refine zCall (hi) ?_
        rintro _ rfl
        repeat (first | refine gG ?_ | refine zN1 (fun hlen => ?_) | refine zN2 (fun hlen => ?_) | refine zBx (fun _ => ?_))
        refine zG ?_
        exact ⟨false, m, s, rfl, rfl, hs, hno⟩
      cases d8 : decide (i = i')
      · have hno : Try o w Q s false s := .no fun A _ h => of_decide_eq_false d8 (hnq A h).2
        clear ih hQl hQy
        refine ag_enter 2 tok Try.func103 Try.ntmps103 Try.results103 rfl (by kernel_rfl) rfl fun F => ?_
        repeat (first | refine gG ?_ | refine zN1 (fun hlen => ?_) | refine zN2 (fun hlen => ?_) | refine zBf ?_)
        refine zCall (hi) ?_
        rintro _ rfl
        repeat (first | refine gG ?_ | refine zN1 (fun hlen => ?_) | refine zN2 (fun hlen => ?_) | refine zBx (fun _ => ?_))
        refine zCall (hi') ?_
        rintro _ rfl
        repeat (first | refine gG ?_ | refine zN1 (fun hlen => ?_) | refine zN2 (fun hlen => ?_) | refine zBx (fun _ => ?_))
        refine zG ?_
        exact ⟨false, m, s, rfl, rfl, hs, hno⟩
      replace hnm := hnm ⟨of_decide_eq_false d7, of_decide_eq_true d8⟩
      clear hnq
      obtain ⟨m1, hm1⟩ : ∃ m1, m1 = m := ⟨_, rfl⟩
      obtain ⟨s1, hs1'⟩ : ∃ s1, s1 = s := ⟨_, rfl⟩
      have hs1 := hs
      rw [← hm1, ← hs1'] at hs1
      rw [← hm1]
      have hst1 : Step o w s s1 := by rw [hs1']; exact hst
      have hnm1 : nmOk (InS s1) x y k n n' := by rw [hs1']; exact hnm
      clear hst hnm
      have hst := hst1
      have hnm := hnm1
      clear hst1 hnm1 hm1 hs1' hs
      refine ag_enter 2 tok Try.func103 Try.ntmps103 Try.results103 rfl (by kernel_rfl) rfl fun F => ?_
      repeat (first | refine gG ?_ | refine zN1 (fun hlen => ?_) | refine zN2 (fun hlen => ?_) | refine zBf ?_)
      refine zCall (hi) ?_
      rintro _ rfl
      repeat (first | refine gG ?_ | refine zN1 (fun hlen => ?_) | refine zN2 (fun hlen => ?_) | refine zBx (fun _ => ?_))
      refine zCall (hi') ?_
      rintro _ rfl
      clear hi hi'
      repeat (first | refine gG ?_ | refine zN1 (fun hlen => ?_) | refine zN2 (fun hlen => ?_) | refine zBx (fun _ => ?_))
      refine x_loop [10, 12, 75, 76, 77, 78, 79, 80, 81, 82, 83, 84, 85, 86, 87, 88, 89, 90, 91, 92, 93] (fun z : Nat × List (ByteArray × T) × List ByteArray => [(75, .c (.lit (.int .i64 (z.1 : Nat))))]) (fun z => [.mp c (mkeys Value.string z.2.1), .box bp 180 [.c (.lit (.string o.name)), .c (.lit (.int .i64 o.version)), .c (Us.row o.uses), .c (Da.row o.datas), .c (Tr.row o.traits), .c (Im.row o.impls), .c (Fu.row o.funcs), .c (Ac.row o.actors), .c (.lit (.string w.name)), .c (.lit (.int .i64 w.version)), .c (Us.row w.uses), .c (Da.row w.datas), .c (Tr.row w.traits), .c (Im.row w.impls), .c (Fu.row w.funcs), .c (Ac.row w.actors), .own 0 (.map (some c))]]) (fun z => z.1 ≤ l.length ∧ SeenOk z.2.1 z.2.2 ∧ nmOk (InS z.2.2) x y k n n' ∧ RowTo o w (fun A a b => a.lk A x y b) s z.2.2 l l' z.1) (fun z => l.length - z.1) (0, m1, s1) ⟨Nat.zero_le _, hs1, hnm, hst, fun _ _ _ h => absurd h (Nat.not_lt_zero _)⟩ ⟨rfl, trivial⟩ rfl ?_
      clear hs1 hnm hst
      rintro ⟨j, m2, s2⟩ ⟨hj, hs2, hnm, hto⟩
      dsimp only at hj hs2 hnm hto ⊢
      repeat (first | refine gG ?_ | refine zN1 (fun hlen => ?_) | refine zN2 (fun hlen => ?_) | refine zBx (fun _ => ?_))
      refine x_cond rfl (fun h => ?_) (fun h => ?_)
      · have hj' : j < l.length := by simpa using h
        have hjr : j < l'.length := by omega
        obtain ⟨a, ha⟩ := nth hj'
        obtain ⟨b, hb⟩ := nth hjr
        have hca := ih a (List.mem_of_getElem? ha) b x y tx ty hx hy bp c m2 s2 hs2 (Nat.le_trans (leftD_le hto.1.1) hN)
        have hnx := fun s' g => hto.next (Q := fun A a b => a.lk A x y b) (s' := s') (fun _ _ h a b g => lk_mono h a g) ha hb g
        have hbad : ∀ s', Try o w (fun A => a.lk A x y b) s2 false s' → Try o w Q s false s' := fun s' g => g.of_no fun A hA => (hQl A hA).2 j a b ha hb
        have hat := Y.at ha
        have hbt := Y.at hb
        clear h ha hb hto hs2 ih
        obtain ⟨ka, ta, la⟩ := a
        obtain ⟨kb, tb, lb⟩ := b
        repeat (first | refine gG ?_ | refine zN1 (fun hlen => ?_) | refine zN2 (fun hlen => ?_) | refine zBx (fun _ => ?_))
        refine ac_draw [1, 1, 1, 1, 1, 1, 1, 1, 1, 1, 1, 1, 1, 2, 1] [0, 1, 2, 3, 4, 5, 6, 7, 8, 9, 10, 11, 12, 13, 14] (by kernel_rfl) (by kernel_rfl) ?_
        refine gW ?_
        apply w_q; (focus exact rfl); (focus exact rfl); focus (intro _; (refine zIx j hj' ?_); exact det_refl)
        apply w_q; (focus exact rfl); (focus exact rfl); focus (intro _; (refine zEl hat (Y.ts_len _) ?_); exact det_refl)
        refine gW ?_
        apply w_q; (focus exact rfl); (focus exact rfl); focus (intro _; (refine zIx j hjr ?_); exact det_refl)
        apply w_q; (focus exact rfl); (focus exact rfl); focus (intro _; (refine zEl hbt (Y.ts_len _) ?_); exact det_refl)
        refine gW ?_
        apply w_l; (focus exact rfl); (focus exact rfl); (refine zCallG [0, 1] hca ?_; rintro _ _ ⟨z, m', s', rfl, rfl, h1, h2⟩; refine ⟨.c _, _, re_refl, rfl, rfl, ?_⟩)
        refine gW ?_
        refine w_nil ?_
        clear hca
        cases z
        · repeat (first | refine gG ?_ | refine zN1 (fun hlen => ?_) | refine zN2 (fun hlen => ?_) | refine zBx (fun _ => ?_))
          refine zG ?_
          exact ⟨false, m', s', rfl, rfl, h1, hbad s' h2⟩
        · repeat (first | refine gG ?_ | refine zN1 (fun hlen => ?_) | refine zN2 (fun hlen => ?_) | refine zBx (fun _ => ?_))
          exact ⟨(j + 1, m', s'), ⟨hj', h1, nmOk_mono (h2.1 rfl).1.1 hnm, hnx s' (h2.1 rfl)⟩, by simp only; omega, x_wkd 2 ⟨rfl, trivial⟩ rfl (by repeat (first | exact ag_refl | refine ag_upd rfl ?_ | refine ag_at rfl rfl ?_))⟩
      · have hj' : j = l.length := by
          have : ¬ j < l.length := by simpa using h
          omega
        subst hj'
        clear h ih
        have h := hto.all
        have hend : Try o w Q s true s2 := .yes h.1 (hQy s2 hnm h.2)
        repeat (first | refine gG ?_ | refine zN1 (fun hlen => ?_) | refine zN2 (fun hlen => ?_) | refine zBx (fun _ => ?_))
        refine zG ?_
        exact ⟨true, m2, s2, rfl, rfl, hs2, hend⟩
    have h6 := of_decide_eq_false d6
    have h5 := of_decide_eq_false d5
    have hnq : ∀ A, Q A → n = ⟨#[]⟩ ∧ n' = ⟨#[]⟩ := fun A h => by
      have := (hQk A h).2.2
      unfold nmOk at this
      rw [if_neg h6, if_neg h5] at this
      exact this
    have hnm : (n = ⟨#[]⟩ ∧ n' = ⟨#[]⟩) → nmOk (InS s) x y k n n' := fun h => by
      unfold nmOk
      rw [if_neg h6, if_neg h5]
      exact h
    have hst := Step.refl o w s
    clear hA hix hiy hQk
    cases d7 : decide (n = ⟨#[]⟩)
    · have hno : Try o w Q s false s := .no fun A _ h => of_decide_eq_false d7 (hnq A h).1
      clear ih hQl hQy
      refine ag_enter 2 tok Try.func103 Try.ntmps103 Try.results103 rfl (by kernel_rfl) rfl fun F => ?_
      repeat (first | refine gG ?_ | refine zN1 (fun hlen => ?_) | refine zN2 (fun hlen => ?_) | refine zBf ?_)
      refine zG ?_
      exact ⟨false, m, s, rfl, rfl, hs, hno⟩
    cases d8 : decide (n' = ⟨#[]⟩)
    · have hno : Try o w Q s false s := .no fun A _ h => of_decide_eq_false d8 (hnq A h).2
      clear ih hQl hQy
      refine ag_enter 2 tok Try.func103 Try.ntmps103 Try.results103 rfl (by kernel_rfl) rfl fun F => ?_
      repeat (first | refine gG ?_ | refine zN1 (fun hlen => ?_) | refine zN2 (fun hlen => ?_) | refine zBf ?_)
      refine zG ?_
      exact ⟨false, m, s, rfl, rfl, hs, hno⟩
    replace hnm := hnm ⟨of_decide_eq_true d7, of_decide_eq_true d8⟩
    clear hnq
    obtain ⟨m1, hm1⟩ : ∃ m1, m1 = m := ⟨_, rfl⟩
    obtain ⟨s1, hs1'⟩ : ∃ s1, s1 = s := ⟨_, rfl⟩
    have hs1 := hs
    rw [← hm1, ← hs1'] at hs1
    rw [← hm1]
    have hst1 : Step o w s s1 := by rw [hs1']; exact hst
    have hnm1 : nmOk (InS s1) x y k n n' := by rw [hs1']; exact hnm
    clear hst hnm
    have hst := hst1
    have hnm := hnm1
    clear hst1 hnm1 hm1 hs1' hs
    refine ag_enter 2 tok Try.func103 Try.ntmps103 Try.results103 rfl (by kernel_rfl) rfl fun F => ?_
    repeat (first | refine gG ?_ | refine zN1 (fun hlen => ?_) | refine zN2 (fun hlen => ?_) | refine zBf ?_)
    repeat (first | refine gG ?_ | refine zN1 (fun hlen => ?_) | refine zN2 (fun hlen => ?_) | refine zBx (fun _ => ?_))
    refine x_loop [10, 12, 75, 76, 77, 78, 79, 80, 81, 82, 83, 84, 85, 86, 87, 88, 89, 90, 91, 92, 93] (fun z : Nat × List (ByteArray × T) × List ByteArray => [(75, .c (.lit (.int .i64 (z.1 : Nat))))]) (fun z => [.mp c (mkeys Value.string z.2.1), .box bp 180 [.c (.lit (.string o.name)), .c (.lit (.int .i64 o.version)), .c (Us.row o.uses), .c (Da.row o.datas), .c (Tr.row o.traits), .c (Im.row o.impls), .c (Fu.row o.funcs), .c (Ac.row o.actors), .c (.lit (.string w.name)), .c (.lit (.int .i64 w.version)), .c (Us.row w.uses), .c (Da.row w.datas), .c (Tr.row w.traits), .c (Im.row w.impls), .c (Fu.row w.funcs), .c (Ac.row w.actors), .own 0 (.map (some c))]]) (fun z => z.1 ≤ l.length ∧ SeenOk z.2.1 z.2.2 ∧ nmOk (InS z.2.2) x y k n n' ∧ RowTo o w (fun A a b => a.lk A x y b) s z.2.2 l l' z.1) (fun z => l.length - z.1) (0, m1, s1) ⟨Nat.zero_le _, hs1, hnm, hst, fun _ _ _ h => absurd h (Nat.not_lt_zero _)⟩ ⟨rfl, trivial⟩ rfl ?_
    clear hs1 hnm hst
    rintro ⟨j, m2, s2⟩ ⟨hj, hs2, hnm, hto⟩
    dsimp only at hj hs2 hnm hto ⊢
    repeat (first | refine gG ?_ | refine zN1 (fun hlen => ?_) | refine zN2 (fun hlen => ?_) | refine zBx (fun _ => ?_))
    refine x_cond rfl (fun h => ?_) (fun h => ?_)
    · have hj' : j < l.length := by simpa using h
      have hjr : j < l'.length := by omega
      obtain ⟨a, ha⟩ := nth hj'
      obtain ⟨b, hb⟩ := nth hjr
      have hca := ih a (List.mem_of_getElem? ha) b x y tx ty hx hy bp c m2 s2 hs2 (Nat.le_trans (leftD_le hto.1.1) hN)
      have hnx := fun s' g => hto.next (Q := fun A a b => a.lk A x y b) (s' := s') (fun _ _ h a b g => lk_mono h a g) ha hb g
      have hbad : ∀ s', Try o w (fun A => a.lk A x y b) s2 false s' → Try o w Q s false s' := fun s' g => g.of_no fun A hA => (hQl A hA).2 j a b ha hb
      have hat := Y.at ha
      have hbt := Y.at hb
      clear h ha hb hto hs2 ih
      obtain ⟨ka, ta, la⟩ := a
      obtain ⟨kb, tb, lb⟩ := b
      repeat (first | refine gG ?_ | refine zN1 (fun hlen => ?_) | refine zN2 (fun hlen => ?_) | refine zBx (fun _ => ?_))
      refine ac_draw [1, 1, 1, 1, 1, 1, 1, 1, 1, 1, 1, 1, 1, 2, 1] [0, 1, 2, 3, 4, 5, 6, 7, 8, 9, 10, 11, 12, 13, 14] (by kernel_rfl) (by kernel_rfl) ?_
      refine gW ?_
      apply w_q; (focus exact rfl); (focus exact rfl); focus (intro _; (refine zIx j hj' ?_); exact det_refl)
      apply w_q; (focus exact rfl); (focus exact rfl); focus (intro _; (refine zEl hat (Y.ts_len _) ?_); exact det_refl)
      refine gW ?_
      apply w_q; (focus exact rfl); (focus exact rfl); focus (intro _; (refine zIx j hjr ?_); exact det_refl)
      apply w_q; (focus exact rfl); (focus exact rfl); focus (intro _; (refine zEl hbt (Y.ts_len _) ?_); exact det_refl)
      refine gW ?_
      apply w_l; (focus exact rfl); (focus exact rfl); (refine zCallG [0, 1] hca ?_; rintro _ _ ⟨z, m', s', rfl, rfl, h1, h2⟩; refine ⟨.c _, _, re_refl, rfl, rfl, ?_⟩)
      refine gW ?_
      refine w_nil ?_
      clear hca
      cases z
      · repeat (first | refine gG ?_ | refine zN1 (fun hlen => ?_) | refine zN2 (fun hlen => ?_) | refine zBx (fun _ => ?_))
        refine zG ?_
        exact ⟨false, m', s', rfl, rfl, h1, hbad s' h2⟩
      · repeat (first | refine gG ?_ | refine zN1 (fun hlen => ?_) | refine zN2 (fun hlen => ?_) | refine zBx (fun _ => ?_))
        exact ⟨(j + 1, m', s'), ⟨hj', h1, nmOk_mono (h2.1 rfl).1.1 hnm, hnx s' (h2.1 rfl)⟩, by simp only; omega, x_wkd 2 ⟨rfl, trivial⟩ rfl (by repeat (first | exact ag_refl | refine ag_upd rfl ?_ | refine ag_at rfl rfl ?_))⟩
    · have hj' : j = l.length := by
        have : ¬ j < l.length := by simpa using h
        omega
      subst hj'
      clear h ih
      have h := hto.all
      have hend : Try o w Q s true s2 := .yes h.1 (hQy s2 hnm h.2)
      repeat (first | refine gG ?_ | refine zN1 (fun hlen => ?_) | refine zN2 (fun hlen => ?_) | refine zBx (fun _ => ?_))
      refine zG ?_
      exact ⟨true, m2, s2, rfl, rfl, hs2, hend⟩
theorem same_all (o w : Pr) (N : Nat) : Sames o w N := by
  induction N using Nat.strongRecOn with
  | ind N ih => exact same_ag o w N (alike_ag o w N ih)
set_option maxRecDepth 100000 in
set_option maxHeartbeats 2000000 in
theorem shapeSame_af (o w : Pr) (a b : Y) : AF Try.prog 69 [o.t, w.t, a.t, b.t] (fun r => ∃ z : Bool, r = .lit (.bool z) ∧ (z = true ↔ ∃ A, PF o w A ∧ a.lk A [] [] b)) := by
  have hc := fun bp c => same_all o w (leftD o []) a b [] [] _ _ strT_nil strT_nil bp c [] [] seenOk_nil (Nat.le_refl _)
  unfold SameR at hc
  have hend : ∀ z s', Try o w (fun A => a.lk A [] [] b) [] z s' → (z = true ↔ ∃ A, PF o w A ∧ a.lk A [] [] b) := fun z s' h => by
    constructor
    · intro hz
      obtain ⟨h1, h2⟩ := h.1 hz
      exact ⟨InS s', fun n hn => h1.2 n hn rfl, h2⟩
    · rintro ⟨A, hA, hq⟩
      cases z
      · exact absurd hq (h.2 rfl A hA)
      · rfl
  generalize (∃ A, PF o w A ∧ a.lk A [] [] b) = G at *
  generalize (fun A => a.lk A [] [] b) = Q at *
  obtain ⟨ka, ta, la⟩ := a
  obtain ⟨kb, tb, lb⟩ := b
  refine af_enter tok Try.func69 Try.ntmps69 Try.results69 rfl (by kernel_rfl) rfl rfl fun F hX => ?_
  repeat (first | refine gG ?_ | refine zBf ?_)
  refine zMm (fun _ => ?_)
  repeat (first | refine gG ?_ | refine zBx (fun _ => ?_))
  refine zCallG [0, 1] (hc _ _) ?_
  rintro _ _ ⟨z, m', s', rfl, rfl, h1, h2⟩
  refine ⟨.c _, _, re_refl, rfl, rfl, ?_⟩
  repeat (first | refine gG ?_ | refine zBx (fun _ => ?_))
  first | refine zR ?_ | refine zQ ?_
  exact ⟨z, rfl, hend z s' h2⟩
end Go.Proofs.Ytnkafjkcjpajgaa
