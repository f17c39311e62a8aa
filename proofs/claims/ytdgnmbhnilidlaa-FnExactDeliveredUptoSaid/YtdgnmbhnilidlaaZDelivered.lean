/- The program's Delivered returns what the reference's returns, for all arguments whose bulk is at most 1048576. -/
import Derived.Test.YtdgnmbhnilidlaaPL9
import Derived.Test.YtdgnmbhnilidlaaQ5
namespace Go.Proofs.Ytdgnmbhnilidlaa

theorem delivered_proved : Rows.FnExactDeliveredUptoSaid := fnExactDelivered_over fun x h _ => delivered_plain x h

end Go.Proofs.Ytdgnmbhnilidlaa
