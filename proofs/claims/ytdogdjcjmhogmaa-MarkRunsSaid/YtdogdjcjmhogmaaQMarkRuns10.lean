/-
  Texts of this proof, part 10: Kpd Kpe Kpf Kpg.
-/
import Derived.Test.YtdogdjcjmhogmaaQMarkRuns9
namespace Go.Proofs.Ytdogdjcjmhogmaa
open Go.RowKit
/-- a call that touches some of the blocks alone -/
theorem AG.frame {P : Program} {f : FuncId} {xs : List AV} {A hs : List Blk} {R : AV → List Blk → Prop} (B : List Blk) (hc : AG P f xs A R) (hq : hs.Perm (A ++ B))   : AG P f xs hs (fun r hs' => ∃ A', hs' = A' ++ B ∧ R r A') := by
  obtain ⟨hE, hcall⟩ := hc
  refine ⟨hE, fun F M w vs hh hargs => ?_⟩
  have hh := hh.perm hq
  refine (hcall (subF M A w hh.glob (sub_gx2 hh)) M w vs hh.part hargs).mono ?_
  rintro e' w' ⟨v, r, A', M', rfl, hR, hM, hh2, hr⟩
  exact ⟨v, r, A' ++ B, M', rfl, ⟨A', rfl, hR⟩, hM.to (part_may hh), hh.join hh2, hr⟩
theorem AG.out {P : Program} {f : FuncId} {xs : List AV} {hs : List Blk} {R R' : AV → List Blk → Prop} (hc : AG P f xs hs R) (h : ∀ r hs, R r hs → R' r hs) : AG P f xs hs R' := by
  obtain ⟨hE, hcall⟩ := hc
  refine ⟨hE, fun F M w vs hh hargs => (hcall F M w vs hh hargs).mono ?_⟩
  rintro e' w' ⟨v, r, A', M', rfl, hR, hM, hh2, hr⟩
  exact ⟨v, r, A', M', rfl, h _ _ hR, hM, hh2, hr⟩
section
variable (x : Mx) (bg : Bool) (st : Int) (m : Nat → Bool) (S : Nat → Value × List Int) (t a : Nat)
theorem m_at {j : Nat} (h : (oth x.n t)[j]? = some a) : ((oth x.n t).map m)[j]? = some (m a) := by rw [List.getElem?_map, h]; rfl
theorem S_at {j : Nat} (h : (oth x.n t)[j]? = some a) : ((oth x.n t).map S)[j]? = some (S a) := by rw [List.getElem?_map, h]; rfl
theorem updN_ne {α : Type} {f : Nat → α} {j : Nat} {v : α} (i : Nat) (h : i ≠ j) : updN f j v i = f i := if_neg h
theorem message_side (z : Int) (ha : a < x.n) (hat : a ≠ t) (h2 : (S a).2.length < 200) : AG Try.prog 12 [.ptr 0 (x.sb t) 0, .c (iL (a : Nat)), .c (iL z)] (sdL x bg st m S t) (fun _ hs => ∃ v', hs.Perm (sdL x bg st m (if (bg && !m a) = true then updN S a (v', (S a).2 ++ [z]) else S) t)) := by
  obtain ⟨j, hj, hoj⟩ := peer_at ha hat
  have hm := m_at x m t a hoj
  have hS := S_at x S t a hoj
  cases bg with
  | false =>
    have h := AG.frame (hs := sdL x false st m S t) (mkB (x.vm t) ((oth x.n t).map m) :: owB (x.vw t) ((oth x.n t).map S) :: ((oth x.n t).map S).map inB) (message_idle (x.sb t) (peersI x.n t) st (x.vm t) (x.vw t) (a : Nat) z j hj) (List.Perm.refl _)
    refine AG.out h fun r hs ⟨A', e, h⟩ => ?_
    obtain ⟨_, rfl⟩ := h
    exact ⟨.nilFunc, by rw [e]; exact List.Perm.refl _⟩
  | true =>
    cases hma : m a with
    | true =>
      rw [hma] at hm
      have h := AG.frame (hs := sdL x true st m S t) (owB (x.vw t) ((oth x.n t).map S) :: ((oth x.n t).map S).map inB) (message_shut (x.sb t) (peersI x.n t) st (x.vm t) (x.vw t) ((oth x.n t).map m) (a : Nat) z j hj hm) (List.Perm.refl _)
      refine AG.out h fun r hs ⟨A', e, h⟩ => ?_
      obtain ⟨_, rfl⟩ := h
      exact ⟨.nilFunc, by rw [e]; exact List.Perm.refl _⟩
    | false =>
      rw [hma] at hm
      have h := AG.frame (hs := sdL x true st m S t) ((((oth x.n t).map S).eraseIdx j).map inB) (message_put (x.sb t) (peersI x.n t) st (x.vm t) (x.vw t) ((oth x.n t).map m) ((oth x.n t).map S) (S a) (a : Nat) z j hj hm hS h2) (((fam_out (f := inB) hS).cons _).cons _ |>.cons _)
      refine AG.out h fun r hs ⟨A', e, v', _, h⟩ => ⟨v', ?_⟩
      rw [e, h]
      have hset : ((oth x.n t).map S).set j (v', (S a).2 ++ [z]) = (oth x.n t).map (updN S a (v', (S a).2 ++ [z])) := map_upd (oth_nodup _ _) hoj updN_at fun c hc => updN_ne c hc
      show List.Perm _ (sdL x true st m (updN S a (v', (S a).2 ++ [z])) t)
      unfold sdL
      rw [← hset]
      have hin := fam_in (f := inB) (l := (oth x.n t).map S) (i := j) (by rw [List.length_map]; exact (List.getElem?_eq_some_iff.1 hoj).1) (v', (S a).2 ++ [z])
      exact ((hin.cons _).cons _ |>.cons _)
theorem marker_side (k : Int) (ha : a < x.n) (hat : a ≠ t) (h2 : m a = false) : AG Try.prog 11 [.ptr 0 (x.sb t) 0, .c (iL (a : Nat)), .c (iL k)] (sdL x bg st m S t) (fun r hs => r = .tup [.c (.lit (.bool (!bg))), .c (iL 0)] ∧ hs = sdL x true (if bg = true then st else k) (updN m a true) S t) := by
  obtain ⟨j, hj, hoj⟩ := peer_at ha hat
  have hm := m_at x m t a hoj
  rw [h2] at hm
  have h := AG.frame (hs := sdL x bg st m S t) (owB (x.vw t) ((oth x.n t).map S) :: ((oth x.n t).map S).map inB) (marker_new (x.sb t) (peersI x.n t) bg st (x.vm t) (x.vw t) ((oth x.n t).map m) (a : Nat) k j hj hm) (List.Perm.refl _)
  refine AG.out h fun r hs ⟨A', e, hr, h⟩ => ⟨hr, ?_⟩
  have hset : ((oth x.n t).map m).set j true = (oth x.n t).map (updN m a true) := map_upd (oth_nodup _ _) hoj updN_at fun c hc => updN_ne c hc
  rw [e, h, hset]
  rfl
end
theorem sd_same {x : Mx} {rv rv' : Nat → Nat → Value} {Q Q' : Qs} {i : Nat} (h1 : Q'.bg i = Q.bg i) (h2 : Q'.st i = Q.st i) (h3 : ∀ a, a < x.n → a ≠ i → (Q'.ch a i).came = (Q.ch a i).came) (h4 : ∀ a, a < x.n → a ≠ i → recC (Q.bg i) (Q'.ch a i) = recC (Q.bg i) (Q.ch a i)) (h5 : ∀ a, rv' i a = rv i a) : sdF x rv' Q' i = sdF x rv Q i := by
  unfold sdF sdL
  have e1 : (oth x.n i).map (fun a => (Q'.ch a i).came) = (oth x.n i).map fun a => (Q.ch a i).came := List.map_congr_left fun a ha => h3 a (oth_mem.1 ha).1 (oth_mem.1 ha).2
  have e2 : (oth x.n i).map (fun a => (rv' i a, recC (Q.bg i) (Q'.ch a i))) = (oth x.n i).map fun a => (rv i a, recC (Q.bg i) (Q.ch a i)) := List.map_congr_left fun a ha => by
    rw [h4 a (oth_mem.1 ha).1 (oth_mem.1 ha).2, h5]
  rw [h1, h2, e1, e2]
theorem sdL_congr {x : Mx} {bg : Bool} {st : Int} {m m' : Nat → Bool} {S S' : Nat → Value × List Int} {t : Nat} (h1 : ∀ a, a < x.n → a ≠ t → m a = m' a) (h2 : ∀ a, a < x.n → a ≠ t → S a = S' a) : sdL x bg st m S t = sdL x bg st m' S' t := by
  unfold sdL
  rw [List.map_congr_left (f := m) (g := m') fun a ha => h1 a (oth_mem.1 ha).1 (oth_mem.1 ha).2, List.map_congr_left (f := S) (g := S') fun a ha => h2 a (oth_mem.1 ha).1 (oth_mem.1 ha).2]
/-- what one who gets a message has afterwards -/
theorem msg_side {x : Mx} {rv : Nat → Nat → Value} {Q : Qs} {k a t : Nat} (hQ : COk k (Q.bg a) (Q.bg t) (Q.ch a t)) (h2 : (Q.ch a t).got < (Q.ch a t).sent.length) (v' : Value) :
    sdL x (Q.bg t) (Q.st t) (fun c => (Q.ch c t).came) (if (Q.bg t && !(Q.ch a t).came) = true then updN (fun c => (rv t c, recC (Q.bg t) (Q.ch c t))) a (v', recC (Q.bg t) (Q.ch a t) ++ [(Q.ch a t).sent.getD (Q.ch a t).got 0]) else fun c => (rv t c, recC (Q.bg t) (Q.ch c t))) t =
    sdF x (updN rv t (if (Q.bg t && !(Q.ch a t).came) = true then updN (rv t) a v' else rv t)) (msgQ a t Q) t := by
  unfold sdF
  have hr := rec_msg hQ h2
  refine sdL_congr (fun c _ _ => ?_) fun c _ _ => ?_
  · unfold msgQ updC
    dsimp only
    split
    · rename_i e; rw [e.1]
    · rfl
  · rw [updN_at]
    have e1 : (msgQ a t Q).ch c t = if c = a then { Q.ch a t with got := (Q.ch a t).got + 1 } else Q.ch c t := by
      unfold msgQ updC
      dsimp only
      by_cases e : c = a
      · rw [if_pos ⟨e, rfl⟩, if_pos e]
      · rw [if_neg (fun h => e h.1), if_neg e]
    have e2 : (msgQ a t Q).bg t = Q.bg t := rfl
    rw [e1, e2]
    by_cases e : c = a
    · subst e
      rw [if_pos rfl, hr]
      cases (Q.bg t && !(Q.ch c t).came)
      · rfl
      · rw [if_pos rfl, if_pos rfl, if_pos rfl, updN_at, updN_at]
    · rw [if_neg e]
      cases (Q.bg t && !(Q.ch a t).came)
      · rfl
      · rw [if_pos rfl, if_pos rfl, updN_ne _ e, updN_ne _ e]
theorem msg_other {x : Mx} {rv : Nat → Nat → Value} {Q : Qs} {a t i : Nat} (f : Nat → Value) (hi : i ≠ t) : sdF x (updN rv t f) (msgQ a t Q) i = sdF x rv Q i := by
  refine sd_same rfl rfl (fun c _ _ => ?_) (fun c _ _ => ?_) fun c => by rw [updN_ne _ hi]
  · unfold msgQ updC
    dsimp only
    rw [if_neg (fun h => hi h.2)]
  · unfold msgQ updC
    dsimp only
    rw [if_neg (fun h => hi h.2)]
/-- what one who gets a marker has afterwards -/
theorem mrk_side {x : Mx} {rv : Nat → Nat → Value} {Q : Qs} {n k a t : Nat} (hQ : QOk n k Q) (hat : a ≠ t) (h1 : (Q.ch a t).mark = ((Q.ch a t).got : Nat)) (h2 : (Q.ch a t).came = false) :
    sdL x true (if Q.bg t = true then Q.st t else Q.now.getD t 0) (updN (fun c => (Q.ch c t).came) a true) (fun c => (rv t c, recC (Q.bg t) (Q.ch c t))) t = sdF x rv (mrkQ a t Q) t := by
  unfold sdF mrkQ begQ
  dsimp only
  cases hb : Q.bg t with
  | true =>
    rw [if_pos rfl, if_pos rfl]
    dsimp only
    rw [hb]
    refine sdL_congr (fun c _ _ => ?_) fun c _ _ => ?_
    · unfold updC updN
      by_cases e : c = a
      · rw [if_pos e, if_pos ⟨e, rfl⟩]
      · rw [if_neg e, if_neg (fun h => e h.1)]
    · unfold updC
      by_cases e : c = a
      · rw [if_pos ⟨e, rfl⟩, e, rec_mrk h1 h2]
      · rw [if_neg (fun h => e h.1)]
  | false =>
    rw [if_neg (by simp), if_neg (by simp)]
    dsimp only
    rw [updN_at, updN_at]
    refine sdL_congr (fun c _ _ => ?_) fun c _ _ => ?_
    · unfold updC updN begC
      by_cases e : c = a
      · rw [if_pos e, if_pos ⟨e, rfl⟩]
      · rw [if_neg e, if_neg (fun h => e h.1)]
    · have hc := hQ.ch c t
      rw [hb] at hc
      have e0 : recC false (Q.ch c t) = [] := rfl
      rw [e0]
      unfold updC
      by_cases e : c = a
      · subst e
        rw [if_pos ⟨rfl, rfl⟩, rec_begm hat h1]
      · rw [if_neg (fun h => e h.1), rec_beg hc]
theorem mrk_other {x : Mx} {rv : Nat → Nat → Value} {Q : Qs} {n k a t i : Nat} (hQ : QOk n k Q) (hi : i ≠ t) : sdF x rv (mrkQ a t Q) i = sdF x rv Q i := by
  unfold mrkQ begQ
  dsimp only
  split
  · refine sd_same rfl rfl (fun c _ _ => ?_) (fun c _ _ => ?_) fun c => rfl
    · unfold updC
      dsimp only
      rw [if_neg (fun h => hi h.2)]
    · unfold updC
      dsimp only
      rw [if_neg (fun h => hi h.2)]
  · rename_i hb
    have hb : Q.bg t = false := by cases hx : Q.bg t <;> simp_all
    refine sd_same (by dsimp only; rw [updN_ne _ hi]) (by dsimp only; rw [updN_ne _ hi]) (fun c _ _ => ?_) (fun c _ _ => ?_) fun c => rfl
    · unfold updC begC
      dsimp only
      rw [if_neg (fun h => hi h.2)]
    · unfold updC
      dsimp only
      rw [if_neg (fun h => hi h.2)]
      exact rec_beg2 (hQ.ch c i) hi (fun e => by rw [e]; exact hb)
theorem beg_other {x : Mx} {rv : Nat → Nat → Value} {Q : Qs} {n k t i : Nat} (hQ : QOk n k Q) (hi : i ≠ t) : sdF x rv (begQ t Q) i = sdF x rv Q i := by
  unfold begQ
  split
  · rfl
  · rename_i hb
    have hb : Q.bg t = false := by cases hx : Q.bg t <;> simp_all
    refine sd_same (by dsimp only; rw [updN_ne _ hi]) (by dsimp only; rw [updN_ne _ hi]) (fun c _ _ => rfl) (fun c _ _ => ?_) fun c => rfl
    exact rec_beg2 (hQ.ch c i) hi (fun e => by rw [e]; exact hb)
theorem beg_side {x : Mx} {rv : Nat → Nat → Value} {Q : Qs} {n k t : Nat} (hQ : QOk n k Q) (hb : Q.bg t = false) : sdL x true (Q.now.getD t 0) (fun c => (Q.ch c t).came) (fun c => (rv t c, recC (Q.bg t) (Q.ch c t))) t = sdF x rv (begQ t Q) t := by
  unfold sdF begQ
  rw [if_neg (by rw [hb]; simp)]
  dsimp only
  rw [updN_at, updN_at]
  refine sdL_congr (fun c _ _ => rfl) fun c _ _ => ?_
  have hc := hQ.ch c t
  rw [hb] at hc ⊢
  rw [rec_beg hc]
  rfl
theorem now_beg (t : Nat) (Q : Qs) : (begQ t Q).now = Q.now := by unfold begQ; split <;> rfl
theorem now_mrk (a t : Nat) (Q : Qs) : (mrkQ a t Q).now = Q.now := by unfold mrkQ; rw [now_beg]
end Go.Proofs.Ytdogdjcjmhogmaa
namespace Go.Proofs.Ytdogdjcjmhogmaa
open Go.RowKit
theorem pullS {H A C C' c : List Blk} (h : C.Perm (c ++ C')) : (H ++ (A ++ C)).Perm (c ++ (H ++ (A ++ C'))) := by
  refine (List.Perm.append_left H (List.Perm.append_left A h)).trans ?_
  simpa using perm_parts [H, A, c, C'] [2, 0, 1, 3] (show List.Perm _ (List.range 4) by decide)
theorem rec_le {k : Nat} {ba bb : Bool} {c : Ch} (h : COk k ba bb c) : (recC bb c).length ≤ c.got := by
  unfold recC
  split
  · split
    · rename_i hc
      have := (h.cm hc).2.2
      simp
      omega
    · simp
      omega
  · simp
theorem rec_200 {k : Nat} {ba bb : Bool} {c : Ch} (h : COk k ba bb c) (hk : k < 400) (h2 : c.got < c.sent.length) : (recC bb c).length < 200 := by
  have h1 := rec_le h
  cases bb with
  | false => simp [recC]
  | true =>
    rcases rec_len h rfl with h3 | h3
    · omega
    · rw [h3]; simp
theorem now_eq (x : Mx) (l : List Int) (W : WayV) (R : List Blk) (t : Nat) (z : Int) : (hdM x l W ++ R).set 1 (.row x.vc 3 1 l.length ((l.flatMap intTs).set (t * 1) (iL z))) = hdM x (l.set t z) W ++ R := by
  simp only [hdM, coB, ints_set, List.length_set]
  rfl
set_option maxRecDepth 100000 in
set_option maxHeartbeats 8000000 in
theorem come_msg (x : Mx) (W : WayV) (rv : Nat → Nat → Value) (Q : Qs) {k : Nat} (hQ : QOk x.n k Q) (hk : k < 400) (a t : Nat) (ha : a < x.n) (ht : t < x.n) (hat : a ≠ t) (h2 : (Q.ch a t).got < (Q.ch a t).sent.length) :
    AG Try.prog 80 [.ptr 0 x.b 0, .c (iL (a : Nat)), .c (iL (t : Nat)), .c (iL ((Q.ch a t).sent.getD (Q.ch a t).got 0))] (allM x W rv Q) (fun _ hs => GaveM x (bareI W) (msgQ a t Q) hs) := by
  have hc := hQ.ch a t
  have hz : (Q.ch a t).sent.getD (Q.ch a t).got 0 ≠ -1 := qu_pos hc _ (getD_mem h2)
  have h200 := rec_200 hc hk h2
  have hms := fun v' => msg_side (x := x) (rv := rv) hc h2 v'
  have htl : t < Q.now.length := by rw [hQ.nl]; exact ht
  obtain ⟨c, hct⟩ := nth htl
  have hat2 := ints_at hct
  have hcd : Q.now.getD t 0 = c := by rw [List.getD, hct]; rfl
  have hnow : (msgQ a t Q).now = Q.now.set t (w64 (c + (Q.ch a t).sent.getD (Q.ch a t).got 0)) := by unfold msgQ; dsimp only; rw [hcd]
  have hmo : ∀ (f : Nat → Value) i, i ≠ t → sdF x (updN rv t f) (msgQ a t Q) i = sdF x rv Q i := fun f i hi => msg_other f hi
  generalize (Q.ch a t).sent.getD (Q.ch a t).got 0 = z at *
  generalize msgQ a t Q = Q' at *
  have dz : (!decide (z = -1)) = true := by rw [decide_eq_false hz]; rfl
  have hcall := message_side x (Q.bg t) (Q.st t) (fun c => (Q.ch c t).came) (fun c => (rv t c, recC (Q.bg t) (Q.ch c t))) t a z ha hat h200
  refine ag_enter (0 + lenM x.n (bareI W)) tok Try.func80 Try.ntmps80 Try.results80 rfl (by kernel_rfl) rfl fun F => ?_
  repeat (first | refine gG ?_)
  refine zIxo t ht ?_
  repeat (first | refine gG ?_)
  refine lo_asp 0 (zElo1 (rng_at1 (fun i => T.lit (.pointer (some ⟨x.sb i, 0, none⟩))) ht) ⟨_, _, rfl, ?_⟩)
  repeat (first | refine gG ?_)
  refine lo_frame (sdF x rv Q t) _ (pullS (flat_out (f := sdF x rv Q) (g := sdF x rv Q) ht (fun _ _ => rfl))) (fun F' => ?_)
  refine zCallAll hcall (List.Perm.refl _) ?_
  rintro _ _ ⟨v', hv⟩
  refine ⟨_, re_refl, ?_⟩
  dsimp only at hv
  rw [hms v'] at hv
  have hmo2 := hmo (if (Q.bg t && !(Q.ch a t).came) = true then updN (rv t) a v' else rv t)
  generalize updN rv t (if (Q.bg t && !(Q.ch a t).came) = true then updN (rv t) a v' else rv t) = rv' at *
  refine al_wk (wk_perm (hp' := hdM x Q.now W ++ (W.map wyR ++ (List.range x.n).flatMap (sdF x rv' Q'))) ((hv.append_right _).trans (pullS (flat_out (f := sdF x rv Q) (g := sdF x rv' Q') ht hmo2)).symm)) ?_
  repeat (first | refine gG ?_)
  refine zIxo t htl ?_
  repeat (first | refine gG ?_)
  refine zElo1 hat2 ?_
  repeat (first | refine gG ?_)
  refine lo_add rfl rfl (r := w64 (c + z)) rfl ?_
  repeat (first | refine gG ?_)
  refine zIxo t htl ?_
  repeat (first | refine gO ?_)
  refine zSei (show t * 1 + 1 ≤ (Q.now.flatMap intTs).length by rw [ints_len]; omega) ?_
  repeat (first | refine gO ?_ | refine ac_seq ?_ | refine ac_block ?_)
  refine x_eq ((now_eq x Q.now W _ t (w64 (c + z))).trans (by rw [← hnow])) ?_
  repeat (first | refine gG ?_)
  exact zGS (take_M rfl (List.Perm.refl _)) ⟨W, rv', rfl, List.Perm.refl _⟩
set_option maxRecDepth 100000 in
set_option maxHeartbeats 8000000 in
theorem come_mrk (x : Mx) (W : WayV) (rv : Nat → Nat → Value) (Q : Qs) {k : Nat} (hQ : QOk x.n k Q) (h8 : x.n ≤ 8) (hb : ∀ k, (wayI k (bareI W)).length ≤ 100000) (a t : Nat) (ha : a < x.n) (ht : t < x.n) (hat : a ≠ t) (h1 : (Q.ch a t).mark = ((Q.ch a t).got : Nat)) (h2 : (Q.ch a t).came = false) :
    AG Try.prog 80 [.ptr 0 x.b 0, .c (iL (a : Nat)), .c (iL (t : Nat)), .c (iL (-1))] (allM x W rv Q) (fun _ hs => GaveM x (if Q.bg t = true then bareI W else sprI t x.n (bareI W)) (mrkQ a t Q) hs) := by
  have htl : t < Q.now.length := by rw [hQ.nl]; exact ht
  obtain ⟨c, hct⟩ := nth htl
  have hat2 := ints_at hct
  have hcd : Q.now.getD t 0 = c := by rw [List.getD, hct]; rfl
  have hms := mrk_side (x := x) (rv := rv) hQ hat h1 h2
  rw [hcd] at hms
  have hmo : ∀ i, i ≠ t → sdF x rv (mrkQ a t Q) i = sdF x rv Q i := fun i hi => mrk_other hQ hi
  have hnow := now_mrk a t Q
  generalize mrkQ a t Q = Q' at *
  have hnl := hQ.nl
  have hcall := marker_side x (Q.bg t) (Q.st t) (fun c => (Q.ch c t).came) (fun c => (rv t c, recC (Q.bg t) (Q.ch c t))) t a c ha hat h2
  rw [hms] at hcall
  cases hbg : Q.bg t
  all_goals rw [hbg] at hcall
  · rw [if_neg (by simp)]
    refine ag_enter (0 + lenM x.n (sprI t x.n (bareI W))) tok Try.func80 Try.ntmps80 Try.results80 rfl (by kernel_rfl) rfl fun F => ?_
    repeat (first | refine gG ?_)
    refine ac_drawB [0, 1, 3, 7, 0, 31, 63, 0, 0, 256, 768, 1792, 0, 7936, 16128, 32767, 65535, 131071, 131071, 262143, 1048575] [1, 1, 1, 1, 1, 1, 1, 1, 1, 1, 1, 1, 1, 1, 1, 2, 1, 1, 1, 1, 1] [0, 1, 2, 3, 4, 5, 6, 7, 8, 9, 10, 11, 12, 13, 14, 15, 16, 17, 18, 19, 20] (by kernel_rfl) (by kernel_rfl) ?_
    refine gW ?_
    apply w_q; (focus exact rfl); (focus exact rfl); focus (intro _; (refine zIxo t ht ?_); exact det_refl)
    apply w_q; (focus exact rfl); (focus exact rfl); focus (intro _; (refine lo_asp 0 (zElo1 (rng_at1 (fun i => T.lit (.pointer (some ⟨x.sb i, 0, none⟩))) ht) ⟨_, _, rfl, ?_⟩)); exact det_refl)
    refine gW ?_
    apply w_q; (focus exact rfl); (focus exact rfl); focus (intro _; (refine zIxo t htl ?_); exact det_refl)
    apply w_q; (focus exact rfl); (focus exact rfl); focus (intro _; (refine zElo1 hat2 ?_); exact det_refl)
    apply w_l; (focus exact rfl); (focus exact rfl); (refine lo_frame (sdF x rv Q t) _ (pullS (flat_out (f := sdF x rv Q) (g := sdF x rv Q) ht (fun _ _ => rfl))) (fun F' => ?_); refine zCallAll (by unfold sdF; rw [hbg]; exact hcall) (List.Perm.refl _) ?_; rintro _ _ ⟨rfl, rfl⟩; refine ⟨_, re_refl, ?_⟩)
    refine gW ?_
    refine w_nil ?_
    refine x_perm (hp' := hdM x Q.now W ++ (W.map wyR ++ (List.range x.n).flatMap (sdF x rv Q'))) (pullS (flat_out (f := sdF x rv Q) (g := sdF x rv Q') ht hmo)).symm ?_
    repeat (first | refine gG ?_)
    refine lo_frame (hdM x Q.now W ++ W.map wyR) ((List.range x.n).flatMap (sdF x rv Q')) (List.Perm.of_eq (List.append_assoc _ _ _).symm) (fun F' => ?_)
    refine zCallAll (spread_ag x Q.now W t (by omega) hb) (List.Perm.refl _) ?_
    rintro _ _ ⟨W', hW', rfl⟩
    refine ⟨_, re_refl, ?_⟩
    refine al_wk (wk_perm (hp' := allM x W' rv Q') (List.Perm.of_eq (by rw [List.append_assoc, allM, hnow]))) ?_
    rw [hnl] at hW'
    repeat (first | refine gG ?_)
    exact zGS (take_M hW' (List.Perm.refl _)) ⟨W', rv, hW', List.Perm.refl _⟩
  · rw [if_pos rfl]
    refine ag_enter (0 + lenM x.n (bareI W)) tok Try.func80 Try.ntmps80 Try.results80 rfl (by kernel_rfl) rfl fun F => ?_
    repeat (first | refine gG ?_)
    refine ac_drawB [0, 1, 3, 7, 0, 31, 63, 0, 0, 256, 768, 1792, 0, 7936, 16128, 32767, 65535, 131071, 131071, 262143, 1048575] [1, 1, 1, 1, 1, 1, 1, 1, 1, 1, 1, 1, 1, 1, 1, 2, 1, 1, 1, 1, 1] [0, 1, 2, 3, 4, 5, 6, 7, 8, 9, 10, 11, 12, 13, 14, 15, 16, 17, 18, 19, 20] (by kernel_rfl) (by kernel_rfl) ?_
    refine gW ?_
    apply w_q; (focus exact rfl); (focus exact rfl); focus (intro _; (refine zIxo t ht ?_); exact det_refl)
    apply w_q; (focus exact rfl); (focus exact rfl); focus (intro _; (refine lo_asp 0 (zElo1 (rng_at1 (fun i => T.lit (.pointer (some ⟨x.sb i, 0, none⟩))) ht) ⟨_, _, rfl, ?_⟩)); exact det_refl)
    refine gW ?_
    apply w_q; (focus exact rfl); (focus exact rfl); focus (intro _; (refine zIxo t htl ?_); exact det_refl)
    apply w_q; (focus exact rfl); (focus exact rfl); focus (intro _; (refine zElo1 hat2 ?_); exact det_refl)
    apply w_l; (focus exact rfl); (focus exact rfl); (refine lo_frame (sdF x rv Q t) _ (pullS (flat_out (f := sdF x rv Q) (g := sdF x rv Q) ht (fun _ _ => rfl))) (fun F' => ?_); refine zCallAll (by unfold sdF; rw [hbg]; exact hcall) (List.Perm.refl _) ?_; rintro _ _ ⟨rfl, rfl⟩; refine ⟨_, re_refl, ?_⟩)
    refine gW ?_
    refine w_nil ?_
    refine x_perm (hp' := allM x W rv Q') (by rw [allM, hnow]; exact (pullS (flat_out (f := sdF x rv Q) (g := sdF x rv Q') ht hmo)).symm) ?_
    repeat (first | refine gG ?_)
    exact zGS (take_M rfl (List.Perm.refl _)) ⟨W, rv, rfl, List.Perm.refl _⟩
end Go.Proofs.Ytdogdjcjmhogmaa
namespace Go.Proofs.Ytdogdjcjmhogmaa
open Go.RowKit
@[reducible] def mdTs (d : Md) : List T := [iL d.kind, iL d.src, iL d.dst, iL d.n]
theorem way_bd {n k : Nat} {Q : Qs} {W : WayL} (hQ : QOk n k Q) (hW : WOk n Q.ch W) (key : Int × Int) : (wayI key W).length ≤ k + 1 := by
  cases hg : gget key W with
  | none => unfold wayI; rw [hg]; simp
  | some l =>
    obtain ⟨a, b, ha, hb, hab, e⟩ := hW.ks _ (gget_in hg)
    dsimp only at e
    subst e
    rw [hW.qu a b ha hb hab]
    have h1 := qu_len (hQ.ch a b)
    have h2 := (hQ.ch a b).ct
    unfold thereC at h1
    split at h1 <;> omega
section
variable (x : Mx) (W : WayV) (rv : Nat → Nat → Value) (Q : Qs) (dk ds dd dn : Int) {k : Nat} (hQ : QOk x.n k Q)
include hQ
set_option maxRecDepth 100000 in
set_option maxHeartbeats 8000000 in
theorem dm_far (hs : ¬ isP x.n ds) : AG Try.prog 59 [.ptr 0 x.b 0, .c (.agg (mdTs ⟨dk, ds, dd, dn⟩))] (allM x W rv Q) (fun _ hs => GaveM x (bareI W) Q hs) := by
  have hN := there_ag x Q.now ds
  rw [hQ.nl, decide_eq_false hs] at hN
  refine ag_enter (0 + lenM x.n (bareI W)) tok Try.func59 Try.ntmps59 Try.results59 rfl (by kernel_rfl) rfl fun F => ?_
  repeat (first | refine gG ?_ | refine zN1 (fun hlen => ?_) | refine zN2 (fun hlen => ?_) | refine zSub ?_ | refine zAl (fun _ => ?_) | refine zBf ?_ | refine zAp (fun _ => ?_))
  refine zCallR [0, 1] hN (fun r hs h => h) ?_
  repeat (first | refine gG ?_ | refine zN1 (fun hlen => ?_) | refine zN2 (fun hlen => ?_) | refine zSub ?_ | refine zAl (fun _ => ?_) | refine zBx (fun _ => ?_) | refine zAp (fun _ => ?_))
  exact zGS (take_M rfl (List.Perm.refl _)) ⟨W, rv, rfl, List.Perm.refl _⟩
set_option maxRecDepth 100000 in
set_option maxHeartbeats 8000000 in
theorem dm_beg (h8 : x.n ≤ 8) (hb : ∀ k, (wayI k (bareI W)).length ≤ 100000) (hs : isP x.n ds) (hk : dk = 3) : AG Try.prog 59 [.ptr 0 x.b 0, .c (.agg (mdTs ⟨dk, ds, dd, dn⟩))] (allM x W rv Q) (fun _ hs => GaveM x (if Q.bg ds.toNat = true then bareI W else sprI ds.toNat x.n (bareI W)) (begQ ds.toNat Q) hs) := by
  subst hk
  have hN := there_ag x Q.now ds
  rw [hQ.nl, decide_eq_true hs] at hN
  obtain ⟨a, rfl⟩ : ∃ a : Nat, ds = (a : Int) := ⟨ds.toNat, by unfold isP at hs; omega⟩
  have ha : a < x.n := by unfold isP at hs; omega
  have hat : ((a : Int)).toNat = a := rfl
  rw [hat]
  have hal : a < Q.now.length := by rw [hQ.nl]; exact ha
  obtain ⟨c, hct⟩ := nth hal
  have hat2 := ints_at hct
  have hcd : Q.now.getD a 0 = c := by rw [List.getD, hct]; rfl
  cases hbg : Q.bg a
  · rw [if_neg (by simp)]
    have hms := beg_side (x := x) (rv := rv) hQ hbg
    rw [hcd] at hms
    have hmo : ∀ i, i ≠ a → sdF x rv (begQ a Q) i = sdF x rv Q i := fun i hi => beg_other hQ hi
    have hnow := now_beg a Q
    generalize begQ a Q = Q' at *
    have hnl := hQ.nl
    have hcall := AG.frame (hs := sdF x rv Q a) (mkB (x.vm a) ((oth x.n a).map fun c => (Q.ch c a).came) :: owB (x.vw a) ((oth x.n a).map fun c => (rv a c, recC (Q.bg a) (Q.ch c a))) :: ((oth x.n a).map fun c => (rv a c, recC (Q.bg a) (Q.ch c a))).map inB) (begin_no (x.sb a) (peersI x.n a) (Q.st a) (x.vm a) (x.vw a) c) (by unfold sdF; rw [hbg]; exact List.Perm.refl _)
    refine ag_enter (0 + lenM x.n (sprI a x.n (bareI W))) tok Try.func59 Try.ntmps59 Try.results59 rfl (by kernel_rfl) rfl fun F => ?_
    repeat (first | refine gG ?_ | refine zN1 (fun hlen => ?_) | refine zN2 (fun hlen => ?_) | refine zSub ?_ | refine zAl (fun _ => ?_) | refine zBf ?_ | refine zAp (fun _ => ?_))
    refine zCallR [0, 1] hN (fun r hs h => h) ?_
    repeat (first | refine gG ?_ | refine zN1 (fun hlen => ?_) | refine zN2 (fun hlen => ?_) | refine zSub ?_ | refine zAl (fun _ => ?_) | refine zBx (fun _ => ?_) | refine zAp (fun _ => ?_))
    refine ac_draw [1, 1, 1, 1, 1, 1, 1, 1, 1, 1, 1, 1, 1, 1, 1, 1, 2, 1] [0, 1, 2, 3, 4, 5, 6, 7, 8, 9, 10, 11, 12, 13, 14, 15, 16, 17] (by kernel_rfl) (by kernel_rfl) ?_
    refine gW ?_
    apply w_q; (focus exact rfl); (focus exact rfl); focus (intro _; (refine zIxo a ha ?_); exact det_refl)
    apply w_q; (focus exact rfl); (focus exact rfl); focus (intro _; (refine lo_asp 0 (zElo1 (rng_at1 (fun i => T.lit (.pointer (some ⟨x.sb i, 0, none⟩))) ha) ⟨_, _, rfl, ?_⟩)); exact det_refl)
    refine gW ?_
    apply w_q; (focus exact rfl); (focus exact rfl); focus (intro _; (refine zIxo a hal ?_); exact det_refl)
    apply w_q; (focus exact rfl); (focus exact rfl); focus (intro _; (refine zElo1 hat2 ?_); exact det_refl)
    apply w_l; (focus exact rfl); (focus exact rfl); (refine lo_frame (sdF x rv Q a) _ (pullS (flat_out (f := sdF x rv Q) (g := sdF x rv Q) ha (fun _ _ => rfl))) (fun F' => ?_); refine zCallAll hcall (List.Perm.refl _) ?_; rintro _ _ ⟨_, rfl, rfl, rfl⟩; refine ⟨_, re_refl, ?_⟩)
    refine gW ?_
    refine w_nil ?_
    refine x_perm (hp' := hdM x Q.now W ++ (W.map wyR ++ (List.range x.n).flatMap (sdF x rv Q'))) ((List.Perm.append_right _ (List.Perm.of_eq hms)).trans (pullS (flat_out (f := sdF x rv Q) (g := sdF x rv Q') ha hmo)).symm) ?_
    repeat (first | refine gG ?_ | refine zN1 (fun hlen => ?_) | refine zN2 (fun hlen => ?_) | refine zSub ?_ | refine zAl (fun _ => ?_) | refine zBx (fun _ => ?_) | refine zAp (fun _ => ?_))
    refine lo_frame (hdM x Q.now W ++ W.map wyR) ((List.range x.n).flatMap (sdF x rv Q')) (List.Perm.of_eq (List.append_assoc _ _ _).symm) (fun F' => ?_)
    refine zCallAll (spread_ag x Q.now W a (by omega) hb) (List.Perm.refl _) ?_
    rintro _ _ ⟨W', hW', rfl⟩
    refine ⟨_, re_refl, ?_⟩
    refine al_wk (wk_perm (hp' := allM x W' rv Q') (List.Perm.of_eq (by rw [List.append_assoc, allM, hnow]))) ?_
    rw [hnl] at hW'
    repeat (first | refine gG ?_ | refine zN1 (fun hlen => ?_) | refine zN2 (fun hlen => ?_) | refine zSub ?_ | refine zAl (fun _ => ?_) | refine zBx (fun _ => ?_) | refine zAp (fun _ => ?_))
    exact zGS (take_M hW' (List.Perm.refl _)) ⟨W', rv, hW', List.Perm.refl _⟩
  · rw [if_pos rfl]
    have hQe : begQ a Q = Q := by unfold begQ; rw [if_pos hbg]
    rw [hQe]
    have hcall := AG.frame (hs := sdF x rv Q a) (mkB (x.vm a) ((oth x.n a).map fun c => (Q.ch c a).came) :: owB (x.vw a) ((oth x.n a).map fun c => (rv a c, recC (Q.bg a) (Q.ch c a))) :: ((oth x.n a).map fun c => (rv a c, recC (Q.bg a) (Q.ch c a))).map inB) (begin_yes (x.sb a) (peersI x.n a) (Q.st a) (x.vm a) (x.vw a) c) (by unfold sdF; rw [hbg]; exact List.Perm.refl _)
    have hsd : [sdB (x.sb a) (peersI x.n a) true (Q.st a) (x.vm a) (x.vw a)] ++ (mkB (x.vm a) ((oth x.n a).map fun c => (Q.ch c a).came) :: owB (x.vw a) ((oth x.n a).map fun c => (rv a c, recC (Q.bg a) (Q.ch c a))) :: ((oth x.n a).map fun c => (rv a c, recC (Q.bg a) (Q.ch c a))).map inB) = sdF x rv Q a := by unfold sdF; rw [hbg]; rfl
    refine ag_enter (0 + lenM x.n (bareI W)) tok Try.func59 Try.ntmps59 Try.results59 rfl (by kernel_rfl) rfl fun F => ?_
    repeat (first | refine gG ?_ | refine zN1 (fun hlen => ?_) | refine zN2 (fun hlen => ?_) | refine zSub ?_ | refine zAl (fun _ => ?_) | refine zBf ?_ | refine zAp (fun _ => ?_))
    refine zCallR [0, 1] hN (fun r hs h => h) ?_
    repeat (first | refine gG ?_ | refine zN1 (fun hlen => ?_) | refine zN2 (fun hlen => ?_) | refine zSub ?_ | refine zAl (fun _ => ?_) | refine zBx (fun _ => ?_) | refine zAp (fun _ => ?_))
    refine ac_draw [1, 1, 1, 1, 1, 1, 1, 1, 1, 1, 1, 1, 1, 1, 1, 1, 2, 1] [0, 1, 2, 3, 4, 5, 6, 7, 8, 9, 10, 11, 12, 13, 14, 15, 16, 17] (by kernel_rfl) (by kernel_rfl) ?_
    refine gW ?_
    apply w_q; (focus exact rfl); (focus exact rfl); focus (intro _; (refine zIxo a ha ?_); exact det_refl)
    apply w_q; (focus exact rfl); (focus exact rfl); focus (intro _; (refine lo_asp 0 (zElo1 (rng_at1 (fun i => T.lit (.pointer (some ⟨x.sb i, 0, none⟩))) ha) ⟨_, _, rfl, ?_⟩)); exact det_refl)
    refine gW ?_
    apply w_q; (focus exact rfl); (focus exact rfl); focus (intro _; (refine zIxo a hal ?_); exact det_refl)
    apply w_q; (focus exact rfl); (focus exact rfl); focus (intro _; (refine zElo1 hat2 ?_); exact det_refl)
    apply w_l; (focus exact rfl); (focus exact rfl); (refine lo_frame (sdF x rv Q a) _ (pullS (flat_out (f := sdF x rv Q) (g := sdF x rv Q) ha (fun _ _ => rfl))) (fun F' => ?_); refine zCallAll hcall (List.Perm.refl _) ?_; rintro _ _ ⟨_, rfl, rfl, rfl⟩; refine ⟨_, re_refl, ?_⟩)
    refine gW ?_
    refine w_nil ?_
    refine x_perm (hp' := allM x W rv Q) ((List.Perm.append_right _ (List.Perm.of_eq hsd)).trans (pullS (flat_out (f := sdF x rv Q) (g := sdF x rv Q) ha (fun _ _ => rfl))).symm) ?_
    repeat (first | refine gG ?_ | refine zN1 (fun hlen => ?_) | refine zN2 (fun hlen => ?_) | refine zSub ?_ | refine zAl (fun _ => ?_) | refine zBx (fun _ => ?_) | refine zAp (fun _ => ?_))
    exact zGS (take_M rfl (List.Perm.refl _)) ⟨W, rv, rfl, List.Perm.refl _⟩
set_option maxRecDepth 100000 in
set_option maxHeartbeats 8000000 in
theorem dm_odd (hs : isP x.n ds) (hk : dk ≠ 3) (ho : ¬ (isP x.n dd ∧ dd ≠ ds)) : AG Try.prog 59 [.ptr 0 x.b 0, .c (.agg (mdTs ⟨dk, ds, dd, dn⟩))] (allM x W rv Q) (fun _ hs => GaveM x (bareI W) Q hs) := by
  have hN := there_ag x Q.now ds
  rw [hQ.nl, decide_eq_true hs] at hN
  have hN2 := there_ag x Q.now dd
  rw [hQ.nl] at hN2
  have d3 : decide (dk = 3) = false := decide_eq_false hk
  cases e1 : decide (isP x.n dd)
  all_goals rw [e1] at hN2
  · refine ag_enter (0 + lenM x.n (bareI W)) tok Try.func59 Try.ntmps59 Try.results59 rfl (by kernel_rfl) rfl fun F => ?_
    repeat (first | refine gG ?_ | refine zN1 (fun hlen => ?_) | refine zN2 (fun hlen => ?_) | refine zSub ?_ | refine zAl (fun _ => ?_) | refine zBf ?_ | refine zAp (fun _ => ?_))
    refine zCallR [0, 1] hN (fun r hs h => h) ?_
    repeat (first | refine gG ?_ | refine zN1 (fun hlen => ?_) | refine zN2 (fun hlen => ?_) | refine zSub ?_ | refine zAl (fun _ => ?_) | refine zBx (fun _ => ?_) | refine zAp (fun _ => ?_))
    refine zCallR [0, 1] hN2 (fun r hs h => h) ?_
    repeat (first | refine gG ?_ | refine zN1 (fun hlen => ?_) | refine zN2 (fun hlen => ?_) | refine zSub ?_ | refine zAl (fun _ => ?_) | refine zBx (fun _ => ?_) | refine zAp (fun _ => ?_))
    exact zGS (take_M rfl (List.Perm.refl _)) ⟨W, rv, rfl, List.Perm.refl _⟩
  · have e2 : decide (dd = ds) = true := by
      have h1 := of_decide_eq_true e1
      exact decide_eq_true (Classical.byContradiction fun h => ho ⟨h1, h⟩)
    refine ag_enter (0 + lenM x.n (bareI W)) tok Try.func59 Try.ntmps59 Try.results59 rfl (by kernel_rfl) rfl fun F => ?_
    repeat (first | refine gG ?_ | refine zN1 (fun hlen => ?_) | refine zN2 (fun hlen => ?_) | refine zSub ?_ | refine zAl (fun _ => ?_) | refine zBf ?_ | refine zAp (fun _ => ?_))
    refine zCallR [0, 1] hN (fun r hs h => h) ?_
    repeat (first | refine gG ?_ | refine zN1 (fun hlen => ?_) | refine zN2 (fun hlen => ?_) | refine zSub ?_ | refine zAl (fun _ => ?_) | refine zBx (fun _ => ?_) | refine zAp (fun _ => ?_))
    refine zCallR [0, 1] hN2 (fun r hs h => h) ?_
    repeat (first | refine gG ?_ | refine zN1 (fun hlen => ?_) | refine zN2 (fun hlen => ?_) | refine zSub ?_ | refine zAl (fun _ => ?_) | refine zBx (fun _ => ?_) | refine zAp (fun _ => ?_))
    exact zGS (take_M rfl (List.Perm.refl _)) ⟨W, rv, rfl, List.Perm.refl _⟩
set_option maxRecDepth 100000 in
set_option maxHeartbeats 8000000 in
theorem dm_else (hs : isP x.n ds) (h3 : dk ≠ 3) (h1 : dk ≠ 1) (h2 : dk ≠ 2) (hd : isP x.n dd) (hne : dd ≠ ds) : AG Try.prog 59 [.ptr 0 x.b 0, .c (.agg (mdTs ⟨dk, ds, dd, dn⟩))] (allM x W rv Q) (fun _ hs => GaveM x (bareI W) Q hs) := by
  have hN := there_ag x Q.now ds
  rw [hQ.nl, decide_eq_true hs] at hN
  have hN2 := there_ag x Q.now dd
  rw [hQ.nl, decide_eq_true hd] at hN2
  have d3 : decide (dk = 3) = false := decide_eq_false h3
  have d1 : decide (dk = 1) = false := decide_eq_false h1
  have d2 : decide (dk = 2) = false := decide_eq_false h2
  have e2 : decide (dd = ds) = false := decide_eq_false hne
  refine ag_enter (0 + lenM x.n (bareI W)) tok Try.func59 Try.ntmps59 Try.results59 rfl (by kernel_rfl) rfl fun F => ?_
  repeat (first | refine gG ?_ | refine zN1 (fun hlen => ?_) | refine zN2 (fun hlen => ?_) | refine zSub ?_ | refine zAl (fun _ => ?_) | refine zBf ?_ | refine zAp (fun _ => ?_))
  refine zCallR [0, 1] hN (fun r hs h => h) ?_
  repeat (first | refine gG ?_ | refine zN1 (fun hlen => ?_) | refine zN2 (fun hlen => ?_) | refine zSub ?_ | refine zAl (fun _ => ?_) | refine zBx (fun _ => ?_) | refine zAp (fun _ => ?_))
  refine zCallR [0, 1] hN2 (fun r hs h => h) ?_
  repeat (first | refine gG ?_ | refine zN1 (fun hlen => ?_) | refine zN2 (fun hlen => ?_) | refine zSub ?_ | refine zAl (fun _ => ?_) | refine zBx (fun _ => ?_) | refine zAp (fun _ => ?_))
  refine zBda ?_
  repeat (first | refine gG ?_ | refine zN1 (fun hlen => ?_) | refine zN2 (fun hlen => ?_) | refine zSub ?_ | refine zAl (fun _ => ?_) | refine zBx (fun _ => ?_) | refine zAp (fun _ => ?_))
  refine zAlE (fun _ => ?_)
  repeat (first | refine gG ?_ | refine zN1 (fun hlen => ?_) | refine zN2 (fun hlen => ?_) | refine zSub ?_ | refine zAl (fun _ => ?_) | refine zBx (fun _ => ?_) | refine zAp (fun _ => ?_))
  refine zStE rfl ?_
  repeat (first | refine gO ?_ | refine ac_seq ?_ | refine ac_block ?_)
  refine x_frz0 4 [iL ds, iL dd] ?_
  repeat (first | refine gG ?_ | refine zN1 (fun hlen => ?_) | refine zN2 (fun hlen => ?_) | refine zSub ?_ | refine zAl (fun _ => ?_) | refine zBx (fun _ => ?_) | refine zAp (fun _ => ?_))
  exact zGS (take_M rfl (List.Perm.refl _)) ⟨W, rv, rfl, List.Perm.refl _⟩
end
end Go.Proofs.Ytdogdjcjmhogmaa
namespace Go.Proofs.Ytdogdjcjmhogmaa
open Go.RowKit
theorem perm_new {H A B : List Blk} {c : Blk} : (H ++ (A ++ B) ++ [c]).Perm (H ++ ((A ++ [c]) ++ B)) := by
  simpa using perm_parts [H, A, B, [c]] [0, 1, 3, 2] (show List.Perm _ (List.range 4) by decide)
theorem ent_val {α : Type} [DecidableEq α] {k : α} {l l1 : List (α × T)} {j : Nat} {v zt t0 : T} (h1 : l1[j]? = some (k, v)) (h3 : ∀ t, l1.set j (k, t) = mput k t l) (h4 : mget k l1 = some ((mget k l).getD zt)) (hl : (mget k l).getD zt = t0) : v = t0 := by
  have h := h3 v
  rw [set_get h1] at h
  rw [h, mget_put, if_pos rfl, hl] at h4
  injection h4
theorem pay_sides {x : Mx} {rv : Nat → Nat → Value} {Q : Qs} {n k a b : Nat} (hQ : QOk n k Q) (z : Int) (i : Nat) : sdF x rv (payQ a b z Q) i = sdF x rv Q i := by
  refine sd_same rfl rfl (fun c _ _ => ?_) (fun c _ _ => ?_) fun c => rfl
  · unfold payQ updC
    dsimp only
    split
    · rename_i e; rw [e.1, e.2]
    · rfl
  · unfold payQ updC
    dsimp only
    split
    · rename_i e
      have := rec_pay (hQ.ch c i) z
      rw [← e.1, ← e.2]
      exact this
    · rfl
theorem pay_all {x : Mx} {rv : Nat → Nat → Value} {Q : Qs} {n k a b : Nat} (hQ : QOk n k Q) (z : Int) : (List.range x.n).flatMap (sdF x rv (payQ a b z Q)) = (List.range x.n).flatMap (sdF x rv Q) := by
  have : sdF x rv (payQ a b z Q) = sdF x rv Q := funext fun i => pay_sides hQ z i
  rw [this]
theorem wrow_at (W : WayV) (R : List Blk) {j : Nat} {p : (Int × Int) × (Value × List Int)} (h : W[j]? = some p) (h0 h1 h2 h3 : Blk) : ∀ z : List Blk, ((h0 :: h1 :: h2 :: h3 :: (W.map wyR ++ R)) ++ z)[j + 4]? = some (inB p.2) := fun z => by
  show ((W.map wyR ++ R) ++ z)[j]? = _
  have hj : j < W.length := (List.getElem?_eq_some_iff.1 h).1
  rw [List.append_assoc, List.getElem?_append_left (by simpa using hj), List.getElem?_map, h]
  rfl
theorem wrow_at0 (W : WayV) (R : List Blk) {j : Nat} {p : (Int × Int) × (Value × List Int)} (h : W[j]? = some p) (h0 h1 h2 h3 : Blk) : (h0 :: h1 :: h2 :: h3 :: (W.map wyR ++ R))[j + 4]? = some (inB p.2) := by
  simpa using wrow_at W R h h0 h1 h2 h3 []
section
variable (x : Mx) (W : WayV) (rv : Nat → Nat → Value) (Q : Qs) (dk ds dd dn : Int) {k : Nat} (hQ : QOk x.n k Q)
include hQ
set_option maxRecDepth 100000 in
set_option maxHeartbeats 16000000 in
theorem dm_pay (hk : k < 400) (hb : ∀ k, (wayI k (bareI W)).length ≤ 100000) (hs : isP x.n ds) (h1 : dk = 1) (hd : isP x.n dd) (hne : dd ≠ ds) : AG Try.prog 59 [.ptr 0 x.b 0, .c (.agg (mdTs ⟨dk, ds, dd, dn⟩))] (allM x W rv Q)
    (fun _ hs => GaveM x (if 0 < dn ∧ dn ≤ Q.now.getD ds.toNat 0 ∧ (wayI (ds, dd) (bareI W)).length < 200 then pushI (ds, dd) dn (bareI W) else bareI W) (if 0 < dn ∧ dn ≤ Q.now.getD ds.toNat 0 ∧ (wayI (ds, dd) (bareI W)).length < 200 then payQ ds.toNat dd.toNat dn Q else Q) hs) := by
  subst h1
  have hN := there_ag x Q.now ds
  rw [hQ.nl, decide_eq_true hs] at hN
  have hN2 := there_ag x Q.now dd
  rw [hQ.nl, decide_eq_true hd] at hN2
  have e2 : decide (dd = ds) = false := decide_eq_false hne
  obtain ⟨a, rfl⟩ : ∃ a : Nat, ds = (a : Int) := ⟨ds.toNat, by unfold isP at hs; omega⟩
  obtain ⟨b, rfl⟩ : ∃ b : Nat, dd = (b : Int) := ⟨dd.toNat, by unfold isP at hd; omega⟩
  have ha : a < x.n := by unfold isP at hs; omega
  have hta : ((a : Int)).toNat = a := rfl
  have htb : ((b : Int)).toNat = b := rfl
  rw [hta, htb]
  have hal : a < Q.now.length := by rw [hQ.nl]; exact ha
  obtain ⟨c, hct⟩ := nth hal
  have hat2 := ints_at hct
  have hcd : Q.now.getD a 0 = c := by rw [List.getD, hct]; rfl
  rw [hcd]
  have hpa := fun z => pay_all (x := x) (rv := rv) (a := a) (b := b) hQ z
  have hgT := mget_T litV ((a : Int), (b : Int)) W
  have hpT := fun b' => mput_T litV ((a : Int), (b : Int)) b' W
  have hbp := fun v l' => bareI_put ((a : Int), (b : Int)) v l' W
  have hb0 := hb ((a : Int), (b : Int))
  unfold pushI
  rw [← wayV_eq] at hb0 ⊢
  unfold wayV at hb0 ⊢
  cases c1 : decide (dn ≥ 1)
  · rw [if_neg (fun h => by have := of_decide_eq_false c1; omega), if_neg (fun h => by have := of_decide_eq_false c1; omega)]
    clear hgT hpT hbp hb0 hpa hb
    refine ag_enter (0 + lenM x.n (bareI W)) tok Try.func59 Try.ntmps59 Try.results59 rfl (by kernel_rfl) rfl fun F => ?_
    repeat (first | refine gG ?_ | refine zN1 (fun hlen => ?_) | refine zN2 (fun hlen => ?_) | refine zAl (fun _ => ?_) | refine zBf ?_ | refine zAp (fun _ => ?_))
    refine zCallR [0, 1] hN (fun r hs h => h) ?_
    repeat (first | refine gG ?_ | refine zN1 (fun hlen => ?_) | refine zN2 (fun hlen => ?_) | refine zAl (fun _ => ?_) | refine zBx (fun _ => ?_) | refine zAp (fun _ => ?_))
    refine zCallR [0, 1] hN2 (fun r hs h => h) ?_
    repeat (first | refine gG ?_ | refine zN1 (fun hlen => ?_) | refine zN2 (fun hlen => ?_) | refine zAl (fun _ => ?_) | refine zBx (fun _ => ?_) | refine zAp (fun _ => ?_))
    refine zBda ?_
    repeat (first | refine gG ?_ | refine zN1 (fun hlen => ?_) | refine zN2 (fun hlen => ?_) | refine zAl (fun _ => ?_) | refine zBx (fun _ => ?_) | refine zAp (fun _ => ?_))
    refine zAlE (fun _ => ?_)
    repeat (first | refine gG ?_ | refine zN1 (fun hlen => ?_) | refine zN2 (fun hlen => ?_) | refine zAl (fun _ => ?_) | refine zBx (fun _ => ?_) | refine zAp (fun _ => ?_))
    refine zStE rfl ?_
    repeat (first | refine gO ?_ | refine ac_seq ?_ | refine ac_block ?_)
    refine x_frz0 4 [iL a, iL b] ?_
    repeat (first | refine gG ?_ | refine zN1 (fun hlen => ?_) | refine zN2 (fun hlen => ?_) | refine zAl (fun _ => ?_) | refine zBx (fun _ => ?_) | refine zAp (fun _ => ?_))
    refine ac_drawB [0, 1, 3, 7, 15, 31, 15, 79, 207, 463, 15, 1039, 4047, 8143, 16383, 32767, 65535, 131071, 262143, 524287, 1048575, 131071, 4194303, 8388607, 16777215, 33554431] [1, 1, 1, 1, 1, 1, 1, 1, 1, 1, 1, 1, 1, 1, 1, 1, 1, 1, 1, 1, 1, 1, 1, 1, 1, 1] [0, 1, 2, 3, 4, 5, 6, 7, 8, 9, 10, 11, 12, 13, 14, 15, 16, 17, 18, 19, 20, 21, 22, 23, 24, 25] (by kernel_rfl) (by kernel_rfl) ?_
    refine gW ?_
    refine w_nil ?_
    repeat (first | refine gG ?_ | refine zN1 (fun hlen => ?_) | refine zN2 (fun hlen => ?_) | refine zAl (fun _ => ?_) | refine zBx (fun _ => ?_) | refine zAp (fun _ => ?_))
    exact zGS (take_M rfl (List.Perm.refl _)) ⟨W, rv, rfl, List.Perm.refl _⟩
  have n1 := of_decide_eq_true c1
  cases c2 : decide (dn ≤ c)
  · rw [if_neg (fun h => by have := of_decide_eq_false c2; omega), if_neg (fun h => by have := of_decide_eq_false c2; omega)]
    clear hgT hpT hbp hb0 hpa hb
    refine ag_enter (0 + lenM x.n (bareI W)) tok Try.func59 Try.ntmps59 Try.results59 rfl (by kernel_rfl) rfl fun F => ?_
    repeat (first | refine gG ?_ | refine zN1 (fun hlen => ?_) | refine zN2 (fun hlen => ?_) | refine zAl (fun _ => ?_) | refine zBf ?_ | refine zAp (fun _ => ?_))
    refine zCallR [0, 1] hN (fun r hs h => h) ?_
    repeat (first | refine gG ?_ | refine zN1 (fun hlen => ?_) | refine zN2 (fun hlen => ?_) | refine zAl (fun _ => ?_) | refine zBx (fun _ => ?_) | refine zAp (fun _ => ?_))
    refine zCallR [0, 1] hN2 (fun r hs h => h) ?_
    repeat (first | refine gG ?_ | refine zN1 (fun hlen => ?_) | refine zN2 (fun hlen => ?_) | refine zAl (fun _ => ?_) | refine zBx (fun _ => ?_) | refine zAp (fun _ => ?_))
    refine zBda ?_
    repeat (first | refine gG ?_ | refine zN1 (fun hlen => ?_) | refine zN2 (fun hlen => ?_) | refine zAl (fun _ => ?_) | refine zBx (fun _ => ?_) | refine zAp (fun _ => ?_))
    refine zAlE (fun _ => ?_)
    repeat (first | refine gG ?_ | refine zN1 (fun hlen => ?_) | refine zN2 (fun hlen => ?_) | refine zAl (fun _ => ?_) | refine zBx (fun _ => ?_) | refine zAp (fun _ => ?_))
    refine zStE rfl ?_
    repeat (first | refine gO ?_ | refine ac_seq ?_ | refine ac_block ?_)
    refine x_frz0 4 [iL a, iL b] ?_
    repeat (first | refine gG ?_ | refine zN1 (fun hlen => ?_) | refine zN2 (fun hlen => ?_) | refine zAl (fun _ => ?_) | refine zBx (fun _ => ?_) | refine zAp (fun _ => ?_))
    refine ac_drawB [0, 1, 3, 7, 15, 31, 15, 79, 207, 463, 15, 1039, 4047, 8143, 16383, 32767, 65535, 131071, 262143, 524287, 1048575, 131071, 4194303, 8388607, 16777215, 33554431] [1, 1, 1, 1, 1, 1, 1, 1, 1, 1, 1, 1, 1, 1, 1, 1, 1, 1, 1, 1, 1, 1, 1, 1, 1, 1] [0, 1, 2, 3, 4, 5, 6, 7, 8, 9, 10, 11, 12, 13, 14, 15, 16, 17, 18, 19, 20, 21, 22, 23, 24, 25] (by kernel_rfl) (by kernel_rfl) ?_
    refine gW ?_
    try (first | (apply w_un; (focus exact rfl); (focus exact rfl); (focus exact rfl); (focus exact rfl)) | (apply w_no; (focus exact rfl); (focus exact rfl); (focus exact rfl); (focus exact rfl); focus (first | rfl | assumption | exact neg_t (by assumption) | exact neg_f (by assumption))) | (apply w_qg; (focus exact rfl); (focus exact rfl); (focus exact rfl); (focus exact rfl); (focus (first | rfl | assumption | exact neg_t (by assumption) | exact neg_f (by assumption))); (focus (intro _; (refine zIxo a hal ?_); exact det_refl))))
    (first | (apply w_un; (focus exact rfl); (focus exact rfl); (focus exact rfl); (focus exact rfl)) | (apply w_no; (focus exact rfl); (focus exact rfl); (focus exact rfl); (focus exact rfl); focus (first | rfl | assumption | exact neg_t (by assumption) | exact neg_f (by assumption))) | (apply w_qg; (focus exact rfl); (focus exact rfl); (focus exact rfl); (focus exact rfl); (focus (first | rfl | assumption | exact neg_t (by assumption) | exact neg_f (by assumption))); (focus (intro _; (refine zElo1 hat2 ?_); exact det_refl))))
    try refine gW ?_
    refine w_nil ?_
    repeat (first | refine gG ?_ | refine zN1 (fun hlen => ?_) | refine zN2 (fun hlen => ?_) | refine zAl (fun _ => ?_) | refine zBx (fun _ => ?_) | refine zAp (fun _ => ?_))
    exact zGS (take_M rfl (List.Perm.refl _)) ⟨W, rv, rfl, List.Perm.refl _⟩
  have n2 := of_decide_eq_true c2
  rcases gcase ((a : Int), (b : Int)) W with ⟨g1, g2⟩ | ⟨j, ⟨v, r⟩, g1, g2, g3⟩
  · rw [g1] at hgT ⊢
    dsimp only [Option.map_none, Option.getD_none]
    have hlk : (mget ((a : Int), (b : Int)) (mapT litV W)).getD (.lit (.slice none 0 0)) = .lit (.slice none 0 0) := by rw [hgT]; rfl
    have hpt : ∀ v', mput ((a : Int), (b : Int)) (.lit v') (mapT litV W) = mapT litV (W ++ [(((a : Int), (b : Int)), (v', [dn]))]) := fun v' => by
      have := hpT (v', [dn])
      rw [g2] at this
      exact this
    have hbw : ∀ v', bareI (W ++ [(((a : Int), (b : Int)), (v', [dn]))]) = gput ((a : Int), (b : Int)) [dn] (bareI W) := fun v' => by
      rw [← g2, hbp]
    rw [if_pos ⟨by omega, n2, by simp⟩, if_pos ⟨by omega, n2, by simp⟩, List.nil_append]
    have hnow : (payQ a b dn Q).now = Q.now.set a (w64 (c - dn)) := by unfold payQ; dsimp only; rw [hcd]
    have hpe := hpa dn
    generalize payQ a b dn Q = Q' at *
    clear hgT hpT hbp hb0 hpa hb g1 g2
    refine ag_enter (0 + lenM x.n (gput ((a : Int), (b : Int)) [dn] (bareI W))) tok Try.func59 Try.ntmps59 Try.results59 rfl (by kernel_rfl) rfl fun F => ?_
    repeat (first | refine gG ?_ | refine zN1 (fun hlen => ?_) | refine zN2 (fun hlen => ?_) | refine zAl (fun _ => ?_) | refine zBf ?_ | refine zAp (fun _ => ?_))
    refine zCallR [0, 1] hN (fun r hs h => h) ?_
    repeat (first | refine gG ?_ | refine zN1 (fun hlen => ?_) | refine zN2 (fun hlen => ?_) | refine zAl (fun _ => ?_) | refine zBx (fun _ => ?_) | refine zAp (fun _ => ?_))
    refine zCallR [0, 1] hN2 (fun r hs h => h) ?_
    repeat (first | refine gG ?_ | refine zN1 (fun hlen => ?_) | refine zN2 (fun hlen => ?_) | refine zAl (fun _ => ?_) | refine zBx (fun _ => ?_) | refine zAp (fun _ => ?_))
    refine zBda ?_
    repeat (first | refine gG ?_ | refine zN1 (fun hlen => ?_) | refine zN2 (fun hlen => ?_) | refine zAl (fun _ => ?_) | refine zBx (fun _ => ?_) | refine zAp (fun _ => ?_))
    refine zAlE (fun _ => ?_)
    repeat (first | refine gG ?_ | refine zN1 (fun hlen => ?_) | refine zN2 (fun hlen => ?_) | refine zAl (fun _ => ?_) | refine zBx (fun _ => ?_) | refine zAp (fun _ => ?_))
    refine zStE rfl ?_
    repeat (first | refine gO ?_ | refine ac_seq ?_ | refine ac_block ?_)
    refine x_frz0 4 [iL a, iL b] ?_
    repeat (first | refine gG ?_ | refine zN1 (fun hlen => ?_) | refine zN2 (fun hlen => ?_) | refine zAl (fun _ => ?_) | refine zBx (fun _ => ?_) | refine zAp (fun _ => ?_))
    refine ac_drawB [0, 1, 3, 7, 15, 31, 15, 79, 207, 463, 15, 1039, 4047, 8143, 16383, 32767, 65535, 131071, 262143, 524287, 1048575, 131071, 4194303, 8388607, 16777215, 33554431] [1, 1, 1, 1, 1, 1, 1, 1, 1, 1, 1, 1, 1, 1, 1, 1, 1, 1, 1, 1, 1, 1, 1, 1, 1, 1] [0, 1, 2, 3, 4, 5, 6, 7, 8, 9, 10, 11, 12, 13, 14, 15, 16, 17, 18, 19, 20, 21, 22, 23, 24, 25] (by kernel_rfl) (by kernel_rfl) ?_
    refine gW ?_
    try (first | (apply w_un; (focus exact rfl); (focus exact rfl); (focus exact rfl); (focus exact rfl)) | (apply w_no; (focus exact rfl); (focus exact rfl); (focus exact rfl); (focus exact rfl); focus (first | rfl | assumption | exact neg_t (by assumption) | exact neg_f (by assumption))) | (apply w_qg; (focus exact rfl); (focus exact rfl); (focus exact rfl); (focus exact rfl); (focus (first | rfl | assumption | exact neg_t (by assumption) | exact neg_f (by assumption))); (focus (intro _; (refine zIxo a hal ?_); exact det_refl))))
    (first | (apply w_un; (focus exact rfl); (focus exact rfl); (focus exact rfl); (focus exact rfl)) | (apply w_no; (focus exact rfl); (focus exact rfl); (focus exact rfl); (focus exact rfl); focus (first | rfl | assumption | exact neg_t (by assumption) | exact neg_f (by assumption))) | (apply w_qg; (focus exact rfl); (focus exact rfl); (focus exact rfl); (focus exact rfl); (focus (first | rfl | assumption | exact neg_t (by assumption) | exact neg_f (by assumption))); (focus (intro _; (refine zElo1 hat2 ?_); exact det_refl))))
    try refine gW ?_
    try (first | (apply w_un; (focus exact rfl); (focus exact rfl); (focus exact rfl); (focus exact rfl)) | (apply w_no; (focus exact rfl); (focus exact rfl); (focus exact rfl); (focus exact rfl); focus (first | rfl | assumption | exact neg_t (by assumption) | exact neg_f (by assumption))) | (apply w_qg; (focus exact rfl); (focus exact rfl); (focus exact rfl); (focus exact rfl); (focus (first | rfl | assumption | exact neg_t (by assumption) | exact neg_f (by assumption))); (focus (intro _; (refine zLkr 22 keyWay ((a : Int), (b : Int)) hlk ?_); exact det_refl))))
    try refine gW ?_
    refine w_nil ?_
    repeat (first | refine gG ?_ | refine zN1 (fun hlen => ?_) | refine zN2 (fun hlen => ?_) | refine zAl (fun _ => ?_) | refine zBx (fun _ => ?_) | refine zAp (fun _ => ?_))
    refine ac_draw [1, 1, 1, 1, 1, 1, 1, 1, 1, 1, 1, 1, 2] [0, 1, 2, 3, 4, 5, 6, 7, 8, 9, 10, 11, 12] (by kernel_rfl) (by kernel_rfl) ?_
    refine gW ?_
    apply w_q; (focus exact rfl); (focus exact rfl); focus (intro _; (refine zIxo a hal ?_); exact det_refl)
    apply w_q; (focus exact rfl); (focus exact rfl); focus (intro _; (refine zElo1 hat2 ?_); exact det_refl)
    refine gW ?_
    apply w_q; (focus exact rfl); (focus exact rfl); focus (intro _; (refine lo_sub rfl rfl (r := w64 (c - dn)) rfl ?_); exact det_refl)
    apply w_q; (focus exact rfl); (focus exact rfl); focus (intro _; (refine zIxo a hal ?_); exact det_refl)
    apply w_l; (focus exact rfl); (focus exact rfl); (refine zSei (show a * 1 + 1 ≤ (Q.now.flatMap intTs).length by rw [ints_len]; omega) ?_)
    refine w_nil ?_
    refine x_eq ((now_eq x Q.now W _ a (w64 (c - dn))).trans (by rw [← hnow])) ?_
    repeat (first | refine gG ?_ | refine zN1 (fun hlen => ?_) | refine zN2 (fun hlen => ?_) | refine zAl (fun _ => ?_) | refine zBx (fun _ => ?_) | refine zAp (fun _ => ?_))
    refine ac_draw [1, 1, 1, 1, 1, 0, 0, 0, 2, 1, 2, 0, 2] [0, 1, 2, 3, 4, 5, 6, 7, 8, 9, 11, 10, 12] (by kernel_rfl) (by kernel_rfl) ?_
    refine gW ?_
    apply w_l; (focus exact rfl); (focus exact rfl); (refine zMeV 22 (.lit (.slice none 0 0)) keyWay ((a : Int), (b : Int)) (fun l1 jj st c vv hj1 hj2 hj3 hj4 => ?_); obtain rfl := ent_val hj1 hj3 hj4 hlk)
    refine gW ?_
    apply w_l; (focus exact rfl); (focus exact rfl); (refine zApN (fun v' => ?_))
    apply w_l; (focus exact rfl); (focus exact rfl); (refine zEstS (k := ((a : Int), (b : Int))) (.lit v') hj1 hj2 ((hj3 _).trans (hpt v')) ?_)
    refine w_nil ?_
    have hq : (hdM x Q'.now (W ++ [(((a : Int), (b : Int)), (v', [dn]))]) ++ (W.map wyR ++ (List.range x.n).flatMap (sdF x rv Q)) ++ [inB (v', [dn])]).Perm (allM x (W ++ [(((a : Int), (b : Int)), (v', [dn]))]) rv Q') := by
      rw [allM, hpe, ← wyR_new]
      exact perm_new
    exact zGS (take_M (hbw v') hq) ⟨_, rv, hbw v', hq⟩
  · rw [g1] at hgT hb0 ⊢
    dsimp only [Option.map_some, Option.getD_some] at hb0 ⊢
    have hlk : (mget ((a : Int), (b : Int)) (mapT litV W)).getD (.lit (.slice none 0 0)) = .lit v := by rw [hgT]; rfl
    have hpt : ∀ v', mput ((a : Int), (b : Int)) (.lit v') (mapT litV W) = mapT litV (W.set j (((a : Int), (b : Int)), (v', r ++ [dn]))) := fun v' => by
      have := hpT (v', r ++ [dn])
      rw [g3] at this
      exact this
    have hbw : ∀ v', bareI (W.set j (((a : Int), (b : Int)), (v', r ++ [dn]))) = gput ((a : Int), (b : Int)) (r ++ [dn]) (bareI W) := fun v' => by
      rw [← g3, hbp]
    have hrow := fun h0 h1 h2 h3 => wrow_at W ((List.range x.n).flatMap (sdF x rv Q)) g2 h0 h1 h2 h3
    have hrow0 := fun h0 h1 h2 h3 => wrow_at0 W ((List.range x.n).flatMap (sdF x rv Q)) g2 h0 h1 h2 h3
    have hjl : j < W.length := (List.getElem?_eq_some_iff.1 g2).1
    dsimp only at hrow hrow0
    have hws := fun v' => wyR_set ((a : Int), (b : Int)) v' (r ++ [dn]) W j
    cases c3 : decide (((r.length : Nat) : Int) < 200)
    · rw [if_neg (fun h => by have := of_decide_eq_false c3; omega), if_neg (fun h => by have := of_decide_eq_false c3; omega)]
      clear hgT hpT hbp hb0 hpa hb g1 g2 g3 hws hbw hpt
      refine ag_enter (0 + lenM x.n (bareI W)) tok Try.func59 Try.ntmps59 Try.results59 rfl (by kernel_rfl) rfl fun F => ?_
      repeat (first | refine gG ?_ | refine zN1 (fun hlen => ?_) | refine zN2 (fun hlen => ?_) | refine zAl (fun _ => ?_) | refine zBf ?_ | refine zAp (fun _ => ?_))
      refine zCallR [0, 1] hN (fun r hs h => h) ?_
      repeat (first | refine gG ?_ | refine zN1 (fun hlen => ?_) | refine zN2 (fun hlen => ?_) | refine zAl (fun _ => ?_) | refine zBx (fun _ => ?_) | refine zAp (fun _ => ?_))
      refine zCallR [0, 1] hN2 (fun r hs h => h) ?_
      repeat (first | refine gG ?_ | refine zN1 (fun hlen => ?_) | refine zN2 (fun hlen => ?_) | refine zAl (fun _ => ?_) | refine zBx (fun _ => ?_) | refine zAp (fun _ => ?_))
      refine zBda ?_
      repeat (first | refine gG ?_ | refine zN1 (fun hlen => ?_) | refine zN2 (fun hlen => ?_) | refine zAl (fun _ => ?_) | refine zBx (fun _ => ?_) | refine zAp (fun _ => ?_))
      refine zAlE (fun _ => ?_)
      repeat (first | refine gG ?_ | refine zN1 (fun hlen => ?_) | refine zN2 (fun hlen => ?_) | refine zAl (fun _ => ?_) | refine zBx (fun _ => ?_) | refine zAp (fun _ => ?_))
      refine zStE rfl ?_
      repeat (first | refine gO ?_ | refine ac_seq ?_ | refine ac_block ?_)
      refine x_frz0 4 [iL a, iL b] ?_
      repeat (first | refine gG ?_ | refine zN1 (fun hlen => ?_) | refine zN2 (fun hlen => ?_) | refine zAl (fun _ => ?_) | refine zBx (fun _ => ?_) | refine zAp (fun _ => ?_))
      refine ac_drawB [0, 1, 3, 7, 15, 31, 15, 79, 207, 463, 15, 1039, 4047, 8143, 16383, 32767, 65535, 131071, 262143, 524287, 1048575, 131071, 4194303, 8388607, 16777215, 33554431] [1, 1, 1, 1, 1, 1, 1, 1, 1, 1, 1, 1, 1, 1, 1, 1, 1, 1, 1, 1, 1, 1, 1, 1, 1, 1] [0, 1, 2, 3, 4, 5, 6, 7, 8, 9, 10, 11, 12, 13, 14, 15, 16, 17, 18, 19, 20, 21, 22, 23, 24, 25] (by kernel_rfl) (by kernel_rfl) ?_
      refine gW ?_
      try (first | (apply w_un; (focus exact rfl); (focus exact rfl); (focus exact rfl); (focus exact rfl)) | (apply w_no; (focus exact rfl); (focus exact rfl); (focus exact rfl); (focus exact rfl); focus (first | rfl | assumption | exact neg_t (by assumption) | exact neg_f (by assumption))) | (apply w_qg; (focus exact rfl); (focus exact rfl); (focus exact rfl); (focus exact rfl); (focus (first | rfl | assumption | exact neg_t (by assumption) | exact neg_f (by assumption))); (focus (intro _; (refine zIxo a hal ?_); exact det_refl))))
      (first | (apply w_un; (focus exact rfl); (focus exact rfl); (focus exact rfl); (focus exact rfl)) | (apply w_no; (focus exact rfl); (focus exact rfl); (focus exact rfl); (focus exact rfl); focus (first | rfl | assumption | exact neg_t (by assumption) | exact neg_f (by assumption))) | (apply w_qg; (focus exact rfl); (focus exact rfl); (focus exact rfl); (focus exact rfl); (focus (first | rfl | assumption | exact neg_t (by assumption) | exact neg_f (by assumption))); (focus (intro _; (refine zElo1 hat2 ?_); exact det_refl))))
      try refine gW ?_
      try (first | (apply w_un; (focus exact rfl); (focus exact rfl); (focus exact rfl); (focus exact rfl)) | (apply w_no; (focus exact rfl); (focus exact rfl); (focus exact rfl); (focus exact rfl); focus (first | rfl | assumption | exact neg_t (by assumption) | exact neg_f (by assumption))) | (apply w_qg; (focus exact rfl); (focus exact rfl); (focus exact rfl); (focus exact rfl); (focus (first | rfl | assumption | exact neg_t (by assumption) | exact neg_f (by assumption))); (focus (intro _; (refine lo_as (j + 4) (zLkr 22 keyWay ((a : Int), (b : Int)) hlk ⟨_, _, _, _, _, rfl, hrow _ _ _ _ _, ?_⟩)); exact det_refl))))
      (first | (apply w_un; (focus exact rfl); (focus exact rfl); (focus exact rfl); (focus exact rfl)) | (apply w_no; (focus exact rfl); (focus exact rfl); (focus exact rfl); (focus exact rfl); focus (first | rfl | assumption | exact neg_t (by assumption) | exact neg_f (by assumption))) | (apply w_qg; (focus exact rfl); (focus exact rfl); (focus exact rfl); (focus exact rfl); (focus (first | rfl | assumption | exact neg_t (by assumption) | exact neg_f (by assumption))); (focus (intro _; (refine lo_len_own tok rfl (hrow _ _ _ _ _) rfl rfl (fun _ => ?_)); exact det_refl))))
      try refine gW ?_
      refine w_nil ?_
      repeat (first | refine gG ?_ | refine zN1 (fun hlen => ?_) | refine zN2 (fun hlen => ?_) | refine zAl (fun _ => ?_) | refine zBx (fun _ => ?_) | refine zAp (fun _ => ?_))
      exact zGS (take_M rfl (List.Perm.refl _)) ⟨W, rv, rfl, List.Perm.refl _⟩
    have n3 := of_decide_eq_true c3
    rw [if_pos ⟨by omega, n2, by omega⟩, if_pos ⟨by omega, n2, by omega⟩]
    have hnow : (payQ a b dn Q).now = Q.now.set a (w64 (c - dn)) := by unfold payQ; dsimp only; rw [hcd]
    have hpe := hpa dn
    generalize payQ a b dn Q = Q' at *
    clear hgT hpT hbp hb0 hpa hb g1 g2 g3
    refine ag_enter (0 + lenM x.n (gput ((a : Int), (b : Int)) (r ++ [dn]) (bareI W))) tok Try.func59 Try.ntmps59 Try.results59 rfl (by kernel_rfl) rfl fun F => ?_
    repeat (first | refine gG ?_ | refine zN1 (fun hlen => ?_) | refine zN2 (fun hlen => ?_) | refine zAl (fun _ => ?_) | refine zBf ?_ | refine zAp (fun _ => ?_))
    refine zCallR [0, 1] hN (fun r hs h => h) ?_
    repeat (first | refine gG ?_ | refine zN1 (fun hlen => ?_) | refine zN2 (fun hlen => ?_) | refine zAl (fun _ => ?_) | refine zBx (fun _ => ?_) | refine zAp (fun _ => ?_))
    refine zCallR [0, 1] hN2 (fun r hs h => h) ?_
    repeat (first | refine gG ?_ | refine zN1 (fun hlen => ?_) | refine zN2 (fun hlen => ?_) | refine zAl (fun _ => ?_) | refine zBx (fun _ => ?_) | refine zAp (fun _ => ?_))
    refine zBda ?_
    repeat (first | refine gG ?_ | refine zN1 (fun hlen => ?_) | refine zN2 (fun hlen => ?_) | refine zAl (fun _ => ?_) | refine zBx (fun _ => ?_) | refine zAp (fun _ => ?_))
    refine zAlE (fun _ => ?_)
    repeat (first | refine gG ?_ | refine zN1 (fun hlen => ?_) | refine zN2 (fun hlen => ?_) | refine zAl (fun _ => ?_) | refine zBx (fun _ => ?_) | refine zAp (fun _ => ?_))
    refine zStE rfl ?_
    repeat (first | refine gO ?_ | refine ac_seq ?_ | refine ac_block ?_)
    refine x_frz0 4 [iL a, iL b] ?_
    repeat (first | refine gG ?_ | refine zN1 (fun hlen => ?_) | refine zN2 (fun hlen => ?_) | refine zAl (fun _ => ?_) | refine zBx (fun _ => ?_) | refine zAp (fun _ => ?_))
    refine ac_drawB [0, 1, 3, 7, 15, 31, 15, 79, 207, 463, 15, 1039, 4047, 8143, 16383, 32767, 65535, 131071, 262143, 524287, 1048575, 131071, 4194303, 8388607, 16777215, 33554431] [1, 1, 1, 1, 1, 1, 1, 1, 1, 1, 1, 1, 1, 1, 1, 1, 1, 1, 1, 1, 1, 1, 1, 1, 1, 1] [0, 1, 2, 3, 4, 5, 6, 7, 8, 9, 10, 11, 12, 13, 14, 15, 16, 17, 18, 19, 20, 21, 22, 23, 24, 25] (by kernel_rfl) (by kernel_rfl) ?_
    refine gW ?_
    try (first | (apply w_un; (focus exact rfl); (focus exact rfl); (focus exact rfl); (focus exact rfl)) | (apply w_no; (focus exact rfl); (focus exact rfl); (focus exact rfl); (focus exact rfl); focus (first | rfl | assumption | exact neg_t (by assumption) | exact neg_f (by assumption))) | (apply w_qg; (focus exact rfl); (focus exact rfl); (focus exact rfl); (focus exact rfl); (focus (first | rfl | assumption | exact neg_t (by assumption) | exact neg_f (by assumption))); (focus (intro _; (refine zIxo a hal ?_); exact det_refl))))
    (first | (apply w_un; (focus exact rfl); (focus exact rfl); (focus exact rfl); (focus exact rfl)) | (apply w_no; (focus exact rfl); (focus exact rfl); (focus exact rfl); (focus exact rfl); focus (first | rfl | assumption | exact neg_t (by assumption) | exact neg_f (by assumption))) | (apply w_qg; (focus exact rfl); (focus exact rfl); (focus exact rfl); (focus exact rfl); (focus (first | rfl | assumption | exact neg_t (by assumption) | exact neg_f (by assumption))); (focus (intro _; (refine zElo1 hat2 ?_); exact det_refl))))
    try refine gW ?_
    try (first | (apply w_un; (focus exact rfl); (focus exact rfl); (focus exact rfl); (focus exact rfl)) | (apply w_no; (focus exact rfl); (focus exact rfl); (focus exact rfl); (focus exact rfl); focus (first | rfl | assumption | exact neg_t (by assumption) | exact neg_f (by assumption))) | (apply w_qg; (focus exact rfl); (focus exact rfl); (focus exact rfl); (focus exact rfl); (focus (first | rfl | assumption | exact neg_t (by assumption) | exact neg_f (by assumption))); (focus (intro _; (refine lo_as (j + 4) (zLkr 22 keyWay ((a : Int), (b : Int)) hlk ⟨_, _, _, _, _, rfl, hrow _ _ _ _ _, ?_⟩)); exact det_refl))))
    (first | (apply w_un; (focus exact rfl); (focus exact rfl); (focus exact rfl); (focus exact rfl)) | (apply w_no; (focus exact rfl); (focus exact rfl); (focus exact rfl); (focus exact rfl); focus (first | rfl | assumption | exact neg_t (by assumption) | exact neg_f (by assumption))) | (apply w_qg; (focus exact rfl); (focus exact rfl); (focus exact rfl); (focus exact rfl); (focus (first | rfl | assumption | exact neg_t (by assumption) | exact neg_f (by assumption))); (focus (intro _; (refine lo_len_own tok rfl (hrow _ _ _ _ _) rfl rfl (fun _ => ?_)); exact det_refl))))
    try refine gW ?_
    refine w_nil ?_
    repeat (first | refine gG ?_ | refine zN1 (fun hlen => ?_) | refine zN2 (fun hlen => ?_) | refine zAl (fun _ => ?_) | refine zBx (fun _ => ?_) | refine zAp (fun _ => ?_))
    refine ac_draw [1, 1, 1, 1, 1, 1, 1, 1, 1, 1, 1, 1, 2] [0, 1, 2, 3, 4, 5, 6, 7, 8, 9, 10, 11, 12] (by kernel_rfl) (by kernel_rfl) ?_
    refine gW ?_
    apply w_q; (focus exact rfl); (focus exact rfl); focus (intro _; (refine zIxo a hal ?_); exact det_refl)
    apply w_q; (focus exact rfl); (focus exact rfl); focus (intro _; (refine zElo1 hat2 ?_); exact det_refl)
    refine gW ?_
    apply w_q; (focus exact rfl); (focus exact rfl); focus (intro _; (refine lo_sub rfl rfl (r := w64 (c - dn)) rfl ?_); exact det_refl)
    apply w_q; (focus exact rfl); (focus exact rfl); focus (intro _; (refine zIxo a hal ?_); exact det_refl)
    apply w_l; (focus exact rfl); (focus exact rfl); (refine zSei (show a * 1 + 1 ≤ (Q.now.flatMap intTs).length by rw [ints_len]; omega) ?_)
    refine w_nil ?_
    refine x_eq ((now_eq x Q.now W _ a (w64 (c - dn))).trans (by rw [← hnow])) ?_
    repeat (first | refine gG ?_ | refine zN1 (fun hlen => ?_) | refine zN2 (fun hlen => ?_) | refine zAl (fun _ => ?_) | refine zBx (fun _ => ?_) | refine zAp (fun _ => ?_))
    refine ac_draw [1, 1, 1, 1, 1, 0, 0, 0, 2, 1, 2, 0, 2] [0, 1, 2, 3, 4, 5, 6, 7, 8, 9, 11, 10, 12] (by kernel_rfl) (by kernel_rfl) ?_
    refine gW ?_
    apply w_l; (focus exact rfl); (focus exact rfl); (refine zMeV 22 (.lit (.slice none 0 0)) keyWay ((a : Int), (b : Int)) (fun l1 jj st c vv hj1 hj2 hj3 hj4 => ?_); obtain rfl := ent_val hj1 hj3 hj4 hlk)
    apply w_q; (focus exact rfl); (focus exact rfl); focus (intro _; (refine lo_as (j + 4) (zEA ⟨_, _, _, _, _, rfl, hrow _ _ _ _ _, ?_⟩)); exact det_refl)
    refine gW ?_
    apply w_l; (focus exact rfl); (focus exact rfl); (refine zApS (fun v' => ?_) tok rfl (hrow0 _ _ _ _))
    apply w_l; (focus exact rfl); (focus exact rfl); (refine zEstS (k := ((a : Int), (b : Int))) (.lit v') hj1 hj2 ((hj3 _).trans (hpt v')) ?_)
    refine w_nil ?_
    have hq : allM x (W.set j (((a : Int), (b : Int)), (v', r ++ [dn]))) rv Q' = hdM x Q'.now (W.set j (((a : Int), (b : Int)), (v', r ++ [dn]))) ++ (W.map wyR ++ (List.range x.n).flatMap (sdF x rv Q)).set j (.row v' 3 1 (r.length + 1) (r.flatMap intTs ++ [iL dn])) := by
      rw [allM, hpe, ← hws, List.set_append_left _ _ (by simpa using hjl), inB, ← int_snoc, List.length_append]
      rfl
    exact zGS (take_M (hbw v') (List.Perm.of_eq hq.symm)) ⟨_, rv, hbw v', List.Perm.of_eq hq.symm⟩
end
end Go.Proofs.Ytdogdjcjmhogmaa
