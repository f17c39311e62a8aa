/- The program's ChipOk returns what the reference's returns, for all arguments whose bulk is at most 1048576. -/
import Derived.Test.YtdgnmbhnilidlaaPL8
import Derived.Test.YtdgnmbhnilidlaaQ4
namespace Go.Proofs.Ytdgnmbhnilidlaa

theorem chipOk_proved : Rows.FnExactChipOkUptoSaid := fnExactChipOk_over fun x h _ => chipOk_plain x h

end Go.Proofs.Ytdgnmbhnilidlaa
