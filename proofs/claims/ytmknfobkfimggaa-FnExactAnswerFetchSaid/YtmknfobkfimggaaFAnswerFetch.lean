/-
  FnExactAnswerFetch: for every argument the program's AnswerFetch returns what the reference's returns. No condition.
-/
import Derived.Test.YtmknfobkfimggaaEAnswerFetch
import Derived.Test.YtmknfobkfimggaaServe
namespace Go.Proofs.Ytmknfobkfimggaa
open Go.RowKit Go.ChangeShapes

theorem response_mcnt (x : DResponse) : x.mcnt ≤ x.body.length := by
  have h := wtT_const cnt1 1 x.body (fun _ => Nat.le_refl _)
  unfold DResponse.mcnt; omega
theorem cached_cnt (x : DCached) : x.cnt ≤ 6 + 1 * x.wt := by
  have h := wtT_const cnt1 1 x.response.body (fun _ => Nat.le_refl _)
  have h2 := wtS_ge wt0 x.response.body
  unfold DCached.cnt DCached.wt DResponse.wt; omega
theorem cache_cnt (x : DCache) : x.cnt ≤ 1 + 6 * x.wt := by
  have h := wtT_small DCached.cnt DCached.wt 6 1 6 x.entries cached_cnt (by decide) (by decide)
  unfold DCache.cnt DCache.wt; omega
theorem cacheSet_mcnt (x : DCacheSet) : x.mcnt ≤ 6 * x.wt := by
  have h := wtT_small DCache.cnt DCache.wt 1 6 6 x.caches cache_cnt (by decide) (by decide)
  unfold DCacheSet.mcnt DCacheSet.wt; omega
theorem site_mcnt (x : DSite) : x.mcnt ≤ x.wt := by
  have h := wtT_const cnt1 1 x.files (fun _ => Nat.le_refl _)
  have h2 := wtS_ge ByteArray.size x.files
  unfold DSite.mcnt DSite.wt; omega
theorem site_name {x : DSite} (h : x.wt ≤ 1048576) : x.name.size ≤ 4000000 := by unfold DSite.wt at h; omega
theorem bodies_small {x : DCacheSet} (h : x.wt ≤ 1048576) : ∀ c ∈ x.caches, ∀ e ∈ c.entries, e.response.body.length ≤ 1048576 := by
  intro c hc e he
  obtain ⟨j, hj, rfl⟩ := List.getElem_of_mem hc
  obtain ⟨i, hi, rfl⟩ := List.getElem_of_mem he
  have h1 : wtS DCached.wt x.caches[j].entries ≤ wtS DCache.wt x.caches := wtS_elem DCache.wt x.caches j hj
  have h2 := wtS_elem DCached.wt x.caches[j].entries i hi
  have h3 := wtS_ge wt0 x.caches[j].entries[i].response.body
  have h4 : wtS wt0 x.caches[j].entries[i].response.body ≤ DCached.wt x.caches[j].entries[i] := by unfold DCached.wt DResponse.wt; omega
  have h5 : wtS DCache.wt x.caches ≤ 1048576 := h
  omega
theorem bodies_big {x : DCacheSet} (h : x.wt ≤ 1048576) : ∀ c ∈ x.caches, ∀ e ∈ c.entries, e.response.body.length ≤ 4194304 :=
  fun c hc e he => Nat.le_trans (bodies_small h c hc e he) (by decide)

theorem answerFetch_holds : Rows.FnExactAnswerFetchSaid :=
  answerFetch_of answerF
    (fun cs x cx y v path online w h h' h1 h2 h3 => specAnswerFetch cs cx x y v path online w h h' (bodies_big h1) (site_name h2) (by omega))
    (fun cs x cx y v path online w h h' h1 h2 h3 => implAnswerFetch cs cx x y v path online w h h' (bodies_big h1) (site_name h2) (by omega))
    (fun x y v path online h1 h2 h3 => by
      refine Nat.le_trans (response_mcnt _) ?_
      unfold answerF
      split
      · exact Nat.le_trans (match_small (bodies_small h1)) (by decide)
      · split
        · exact Nat.le_trans (serve_len y path v) (by decide)
        · exact Nat.zero_le _)
    (fun x h1 => by have := cacheSet_mcnt x; omega)
    (fun x h1 => by have := site_mcnt x; omega)

end Go.Proofs.Ytmknfobkfimggaa
